/- Plain law: stripes side by side meet each store as often. -/
import Derived.Test.YtiaikajibefieaaUa
namespace Go.Proofs.Ytiaikajibefieaa.K
open Go Go.RowKit
set_option linter.unusedVariables false
set_option linter.unusedSimpArgs false
set_option linter.deprecated false
theorem rot_len (zs : List Int) {a : Nat} (ha : a ≤ zs.length) : (rot zs a).length = zs.length := by
  unfold rot; rw [List.length_append, List.length_drop, List.length_take]; omega
theorem rot_mem {zs : List Int} {a : Nat} {x : Int} (h : x ∈ rot zs a) : x ∈ zs := by
  rcases List.mem_append.1 h with h | h
  · exact List.mem_of_mem_drop h
  · exact List.mem_of_mem_take h
theorem rot_get? {zs : List Int} {a j : Nat} (ha : a < zs.length) (hj : j < zs.length) : (rot zs a)[j]? = zs[(a + j) % zs.length]? := by
  have hd : (zs.drop a).length = zs.length - a := List.length_drop ..
  unfold rot
  by_cases h : a + j < zs.length
  · rw [List.getElem?_append_left (by omega), List.getElem?_drop, Nat.mod_eq_of_lt h]
  · rw [List.getElem?_append_right (by omega), hd, List.getElem?_take, if_pos (by omega), Nat.mod_eq_sub_mod (by omega), Nat.mod_eq_of_lt (by omega)]
    congr 1; omega
theorem srt_inj {zs : List Int} (hs : zs.Pairwise (· < ·)) {i j : Nat} (hi : i < zs.length) (hj : j < zs.length) (h : zs[i] = zs[j]) : i = j := by
  rcases Nat.lt_trichotomy i j with h1 | h1 | h1
  · have := (List.pairwise_iff_getElem.1 hs) i j hi hj h1; omega
  · exact h1
  · have := (List.pairwise_iff_getElem.1 hs) j i hj hi h1; omega
theorem add_mod_inj {a i j L : Nat} (ha : a < L) (hi : i < L) (hj : j < L) (h : (a + i) % L = (a + j) % L) : i = j := by
  have key : ∀ m, m < L → (a + m) % L = if a + m < L then a + m else a + m - L := fun m hm => by
    split
    · exact Nat.mod_eq_of_lt ‹_›
    · rw [Nat.mod_eq_sub_mod (by omega), Nat.mod_eq_of_lt (by omega)]
  rw [key i hi, key j hj] at h
  split at h <;> split at h <;> omega
/-- The nodes of a stripe. -/
def rowF (zs : List Int) (st k i : Nat) : List Int := (rot zs ((st + i) % zs.length)).take k
def flatF (zs : List Int) (st k i : Nat) : List Int := (List.range i).flatMap (rowF zs st k)
theorem rowF_len {zs : List Int} {st k i : Nat} (h0 : 0 < zs.length) (hk : k ≤ zs.length) : (rowF zs st k i).length = k := by
  unfold rowF
  rw [List.length_take, rot_len zs (Nat.le_of_lt (Nat.mod_lt _ h0))]; omega
theorem rowF_mem {zs : List Int} {st k i : Nat} {x : Int} (h : x ∈ rowF zs st k i) : x ∈ zs := rot_mem (List.mem_of_mem_take h)
theorem rowF_new {zs : List Int} {st k i j : Nat} (hs : zs.Pairwise (· < ·)) (h0 : 0 < zs.length) (hk : k ≤ zs.length) (hj : j < (rowF zs st k i).length) : (rowF zs st k i)[j] ∉ (rowF zs st k i).take j := by
  have hl := rowF_len (st := st) (i := i) h0 hk
  have ha := Nat.mod_lt (st + i) h0
  have hg : ∀ m, m < k → (rowF zs st k i)[m]? = zs[((st + i) % zs.length + m) % zs.length]? := fun m hm => by
    unfold rowF; rw [List.getElem?_take, if_pos hm, rot_get? ha (by omega)]
  intro hm
  obtain ⟨m, hm1, hm2⟩ := List.mem_iff_getElem.1 hm
  rw [List.length_take] at hm1
  rw [List.getElem_take] at hm2
  have h1 := hg m (by omega)
  have h2 := hg j (by omega)
  have hb1 : ((st + i) % zs.length + m) % zs.length < zs.length := Nat.mod_lt _ h0
  have hb2 : ((st + i) % zs.length + j) % zs.length < zs.length := Nat.mod_lt _ h0
  rw [List.getElem?_eq_getElem (by omega), List.getElem?_eq_getElem hb1] at h1
  rw [List.getElem?_eq_getElem (by omega), List.getElem?_eq_getElem hb2] at h2
  have h3 := srt_inj hs hb1 hb2 (by rw [← Option.some.inj h1, ← Option.some.inj h2]; exact hm2)
  have := add_mod_inj ha (by omega) (by omega) h3
  omega
theorem flatF_succ (zs : List Int) (st k i : Nat) : flatF zs st k (i + 1) = flatF zs st k i ++ rowF zs st k i := by
  unfold flatF
  rw [List.range_succ, List.flatMap_append]; simp
theorem flatF_len {zs : List Int} {st k : Nat} (h0 : 0 < zs.length) (hk : k ≤ zs.length) : ∀ i, (flatF zs st k i).length = i * k
  | 0 => by simp [flatF]
  | i + 1 => by rw [flatF_succ, List.length_append, flatF_len h0 hk i, rowF_len h0 hk, Nat.add_mul, Nat.one_mul]
/-! ### how often -/
theorem count_snoc {α : Type} (l : List α) (f : α → List Int) (g : α → Int) (a : Int) : (l.flatMap fun i => f i ++ [g i]).count a = (l.flatMap f).count a + l.countP fun i => g i == a := by
  induction l with
  | nil => simp
  | cons x l ih =>
    rw [List.flatMap_cons, List.flatMap_cons, List.count_append, List.count_append, List.count_append, ih, List.countP_cons, List.count_cons, List.count_nil]
    omega
theorem once : ∀ L, L < 17 → ∀ a, a < L → ∀ p, p < L → (List.range L).countP (fun i => (a + i) % L == p) = 1 := by decide +kernel
theorem count_flat {zs : List Int} {st p : Nat} (hs : zs.Pairwise (· < ·)) (hl : zs.length ≤ 16) (hp : p < zs.length) : ∀ k, k ≤ zs.length → (flatF zs st k zs.length).count zs[p] = k
  | 0, _ => by
    have : flatF zs st 0 zs.length = [] := List.eq_nil_of_length_eq_zero (by rw [flatF_len (by omega) (by omega)]; simp)
    rw [this]; rfl
  | k + 1, hk => by
    have h0 : 0 < zs.length := by omega
    have ih := count_flat (st := st) hs hl hp k (by omega)
    have hrow : ∀ i, rowF zs st (k + 1) i = rowF zs st k i ++ [zs.getD ((st + k + i) % zs.length) 0] := fun i => by
      have ha := Nat.mod_lt (st + i) h0
      unfold rowF
      rw [List.take_add_one, rot_get? ha (by omega)]
      have e : ((st + i) % zs.length + k) % zs.length = (st + k + i) % zs.length := by rw [Nat.mod_add_mod]; congr 1; omega
      have hb : (st + k + i) % zs.length < zs.length := Nat.mod_lt _ h0
      rw [e, List.getD_eq_getElem?_getD, List.getElem?_eq_getElem hb]; rfl
    have e1 : flatF zs st (k + 1) zs.length = (List.range zs.length).flatMap fun i => rowF zs st k i ++ [zs.getD ((st + k + i) % zs.length) 0] := by
      unfold flatF
      congr 1
      funext i
      exact hrow i
    rw [e1, count_snoc]
    have e2 : (List.range zs.length).countP (fun i => zs.getD ((st + k + i) % zs.length) 0 == zs[p]) = (List.range zs.length).countP (fun i => ((st + k) % zs.length + i) % zs.length == p) := by
      refine List.countP_congr fun i hi => ?_
      have hb : (st + k + i) % zs.length < zs.length := Nat.mod_lt _ h0
      rw [Nat.mod_add_mod, List.getD_eq_getElem?_getD, List.getElem?_eq_getElem hb, Option.getD_some, beq_iff_eq, beq_iff_eq]
      exact ⟨fun h => srt_inj hs hb hp h, fun h => by simp only [h]⟩
    rw [e2, once zs.length (by omega) _ (Nat.mod_lt _ h0) p hp]
    show (flatF zs st k zs.length).count zs[p] + 1 = k + 1
    rw [ih]
/-! ### the two arrays -/
def cntC (acc : List Int) : List Value := (List.range 16).map fun v => .int .i64 ((acc.count ((v : Nat) : Int) : Nat) : Int)
def seenC (pre : List Int) : List Value := (List.range 16).map fun v => .bool (decide (((v : Nat) : Int) ∈ pre))
theorem cntC_nil : cntC [] = List.replicate 16 (.int .i64 0) := rfl
theorem seenC_nil : seenC [] = List.replicate 16 (.bool false) := rfl
theorem cntC_len (acc : List Int) : (cntC acc).length = 16 := by simp [cntC]
theorem seenC_len (acc : List Int) : (seenC acc).length = 16 := by simp [seenC]
theorem cntC_get {acc : List Int} {x : Nat} (h : x < 16) : (cntC acc)[x]? = some (.int .i64 ((acc.count ((x : Nat) : Int) : Nat) : Int)) := by
  unfold cntC; rw [List.getElem?_map, List.getElem?_range h]; rfl
theorem seenC_get {pre : List Int} {x : Nat} (h : x < 16) (hn : ((x : Nat) : Int) ∉ pre) : (seenC pre)[x]? = some (.bool false) := by
  unfold seenC; rw [List.getElem?_map, List.getElem?_range h, Option.map_some, decide_eq_false hn]
theorem cntC_set {acc : List Int} {x : Nat} (h : x < 16) : (cntC acc).set x (.int .i64 ((acc.count ((x : Nat) : Int) + 1 : Nat) : Int)) = cntC (acc ++ [((x : Nat) : Int)]) := by
  refine List.ext_getElem? fun i => ?_
  rw [List.getElem?_set]
  by_cases hi : i < 16
  · rw [cntC_get hi, cntC_get hi, cntC_len]
    split
    · rename_i e; subst e
      rw [List.count_append]; simp
    · rename_i e
      rw [List.count_append, List.count_cons, List.count_nil]
      have : ¬ ((x : Nat) : Int) = ((i : Nat) : Int) := by omega
      simp [this]
  · rw [List.getElem?_eq_none (by rw [cntC_len]; omega), if_neg (by omega), List.getElem?_eq_none (by rw [cntC_len]; omega)]
theorem seenC_set {pre : List Int} {x : Nat} (h : x < 16) : (seenC pre).set x (.bool true) = seenC (pre ++ [((x : Nat) : Int)]) := by
  refine List.ext_getElem? fun i => ?_
  rw [List.getElem?_set]
  by_cases hi : i < 16
  · have hg : ∀ l : List Int, (seenC l)[i]? = some (.bool (decide (((i : Nat) : Int) ∈ l))) := fun l => by unfold seenC; rw [List.getElem?_map, List.getElem?_range hi]; rfl
    rw [hg, hg, seenC_len]
    split
    · rename_i e; subst e
      simp
    · rename_i e
      have : ¬ ((i : Nat) : Int) = ((x : Nat) : Int) := by omega
      simp [this]
  · rw [List.getElem?_eq_none (by rw [seenC_len]; omega), if_neg (by omega), List.getElem?_eq_none (by rw [seenC_len]; omega)]
theorem stripeE_zero {zs : List Int} {n : Int} (hl : zs.length ≤ 16) : stripeE zs n = 0 ↔ 1 ≤ n ∧ n ≤ zs.length := by
  unfold stripeE
  split
  · exact ⟨fun h => absurd h (by decide), fun h => by omega⟩
  · split
    · exact ⟨fun h => absurd h (by decide), fun h => by omega⟩
    · exact ⟨fun _ => by omega, fun _ => rfl⟩
/-! ### stores put in one by one -/
abbrev mkS (x : Int) : Cm := ⟨4, x, 0, 0⟩
def runS (l : List Int) (s : Nat) : Cf := runF (0, [], []) ((l.take s).map mkS)
theorem runS_succ {l : List Int} {s : Nat} (h : s < l.length) : runS l (s + 1) = runF (runS l s) [mkS l[s]] := by
  unfold runS runF
  rw [← List.take_append_getElem h, List.map_append, List.foldl_append]; rfl
theorem runS_vld (l : List Int) (s : Nat) : Vld (runS l s).1 (runS l s).2.1 (runS l s).2.2 := run_vld _ vld0
end Go.Proofs.Ytiaikajibefieaa.K
