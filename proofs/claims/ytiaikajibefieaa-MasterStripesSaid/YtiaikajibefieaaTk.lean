/- Plain law: what a configuration may be; what a command makes of it. -/
import Derived.Test.YtiaikajibefieaaTj
namespace Go.Proofs.Ytiaikajibefieaa.K
open Go Go.RowKit
set_option linter.unusedVariables false
set_option linter.unusedSimpArgs false
/-- Where a number stands, or would stand. -/
def posI (zs : List Int) (x : Int) : Nat := zs.findIdx fun z => decide (x ≤ z)
theorem posI_eq {zs : List Int} {x : Int} {p : Nat} (hp : p ≤ zs.length) (lo : ∀ (i : Nat) (h : i < zs.length), i < p → zs[i] < x) (hi : ∀ (i : Nat) (h : i < zs.length), p ≤ i → x ≤ zs[i]) : posI zs x = p := by
  unfold posI
  rcases Nat.lt_or_ge p zs.length with h | h
  · refine (List.findIdx_eq h).2 ⟨decide_eq_true (hi p h (Nat.le_refl _)), fun j hj => ?_⟩
    have := lo j (by omega) hj
    simp only [decide_eq_false_iff_not]; omega
  · obtain rfl : p = zs.length := by omega
    refine List.findIdx_eq_length.2 fun z hz => ?_
    obtain ⟨j, hj, rfl⟩ := List.mem_iff_getElem.1 hz
    have := lo j hj hj
    simp only [decide_eq_false_iff_not]; omega
abbrev idxN (ms : List Mb) (n : Int) : Int := idxP (fun m => decide (m.n = n)) ms
def badX (e : Int) (x : Cm) : Bool := decide (x.k < 1) || (decide (5 < x.k) || (!nodeB x.n || (!bornB x.b || (decide (e = 1099511627776) && decide (x.k ≠ 3)))))
abbrev R0 (c : Int) : Int × Int × List Mb × List Int := (c, 0, [], [])
def cutM (ms : List Mb) (i : Int) : List Mb := ms.take i.toNat ++ ms.drop (i.toNat + 1)
def insP (zs : List Int) (x : Int) : List Int := zs.take (posI zs x) ++ x :: zs.drop (posI zs x)
def delP (zs : List Int) (x : Int) : List Int := zs.take (posI zs x) ++ zs.drop (posI zs x + 1)
/-- What a command makes of a configuration that may be, when it may be itself. -/
def doG (e : Int) (ms : List Mb) (zs : List Int) (x : Cm) : Int × Int × List Mb × List Int :=
  if x.k = 1 then (if (decide (0 ≤ idxN ms x.n) || decide ((ms.length : Int) = 5)) = true then R0 23 else (0, e + 1, ms ++ [⟨x.n, x.b, decide ((ms.length : Int) = 0)⟩], zs))
  else if x.k = 2 then (if idxN ms x.n < 0 then R0 23 else if (cutM ms (idxN ms x.n)).any (·.w) = true then (0, e + 1, cutM ms (idxN ms x.n), zs) else R0 23)
  else if x.k = 3 then (if x.e ≠ e then R0 21 else if idxN ms x.n < 0 then R0 23 else if memAt ms (idxN ms x.n) ≠ ⟨x.n, x.b, false⟩ then R0 23 else (0, e, ms.set (idxN ms x.n).toNat ⟨x.n, x.b, true⟩, zs))
  else if x.k = 4 then (if x.n ∈ zs then R0 23 else (0, e + 1, ms, insP zs x.n))
  else (if x.n ∈ zs then (0, e + 1, ms, delP zs x.n) else R0 23)
def doF (e : Int) (ms : List Mb) (zs : List Int) (x : Cm) : Int × Int × List Mb × List Int :=
  if checkB e ms zs = true then (if badX e x = true then R0 1 else doG e ms zs x) else R0 1
/-! ### what may be -/
structure Vld (e : Int) (ms : List Mb) (zs : List Int) : Prop where
  e0 : 0 ≤ e
  e1 : e ≤ 1099511627776
  len : ms.length ≤ 5
  whole : ms ≠ [] → ms.any (·.w) = true
  mem : ∀ m ∈ ms, nodeB m.n = true ∧ bornB m.b = true
  nod : ∀ (i j : Nat) (hi : i < ms.length) (hj : j < ms.length), j < i → ms[j].n ≠ ms[i].n
  srt : zs.Pairwise (· < ·)
  zmem : ∀ z ∈ zs, nodeB z = true
theorem badMs_iff (b : Bool) (ms : List Mb) : ∀ s, badMs b ms s = false ↔ b = false ∧ ∀ i, i < s → badM ms i = false
  | 0 => ⟨fun h => ⟨h, fun i hi => by omega⟩, fun h => h.1⟩
  | s + 1 => by
    show (badMs b ms s || badM ms s) = false ↔ _
    rw [Bool.or_eq_false_iff, badMs_iff b ms s]
    exact ⟨fun ⟨⟨h1, h2⟩, h3⟩ => ⟨h1, fun i hi => by rcases Nat.lt_succ_iff_lt_or_eq.1 hi with h | rfl; exact h2 i h; exact h3⟩, fun ⟨h1, h2⟩ => ⟨⟨h1, fun i hi => h2 i (by omega)⟩, h2 s (by omega)⟩⟩
theorem badIs_iff (b : Bool) (zs : List Int) : ∀ s, badIs b zs s = false ↔ b = false ∧ ∀ i, i < s → badI zs i = false
  | 0 => ⟨fun h => ⟨h, fun i hi => by omega⟩, fun h => h.1⟩
  | s + 1 => by
    show (badIs b zs s || badI zs s) = false ↔ _
    rw [Bool.or_eq_false_iff, badIs_iff b zs s]
    exact ⟨fun ⟨⟨h1, h2⟩, h3⟩ => ⟨h1, fun i hi => by rcases Nat.lt_succ_iff_lt_or_eq.1 hi with h | rfl; exact h2 i h; exact h3⟩, fun ⟨h1, h2⟩ => ⟨⟨h1, fun i hi => h2 i (by omega)⟩, h2 s (by omega)⟩⟩
theorem badA_iff (e : Int) (ms : List Mb) : badA e ms = false ↔ 0 ≤ e ∧ e ≤ 1099511627776 ∧ ms.length ≤ 5 ∧ (ms ≠ [] → ms.any (·.w) = true) := by
  unfold badA
  simp only [Bool.or_eq_false_iff, decide_eq_false_iff_not, Bool.and_eq_false_iff, Bool.not_eq_false']
  have h : (¬ (0 : Int) < (ms.length : Int)) ↔ ms = [] := ⟨fun h => List.eq_nil_of_length_eq_zero (by omega), fun h => by subst h; simp⟩
  rw [h]
  refine ⟨fun ⟨h1, h2, h3, h4⟩ => ⟨by omega, by omega, by omega, fun hne => h4.resolve_left hne⟩, fun ⟨h1, h2, h3, h4⟩ => ⟨by omega, by omega, by omega, ?_⟩⟩
  by_cases hne : ms = []
  · exact .inl hne
  · exact .inr (h4 hne)
theorem badM_iff {ms : List Mb} (hl : ms.length ≤ 5) {i : Nat} (hi : i < ms.length) : badM ms i = false ↔ nodeB ms[i].n = true ∧ bornB ms[i].b = true ∧ ∀ (j : Nat) (hj : j < ms.length), j < i → ms[j].n ≠ ms[i].n := by
  unfold badM
  rw [List.getElem?_eq_getElem hi]
  simp only [Bool.or_eq_false_iff, Bool.not_eq_false', List.any_eq_false, decide_eq_true_eq]
  rw [Nat.min_eq_left (by omega)]
  refine ⟨fun ⟨h1, h2, h3⟩ => ⟨h1, h2, fun j hj hji => h3 _ (List.mem_iff_getElem.2 ⟨j, by simp; omega, by simp⟩)⟩, fun ⟨h1, h2, h3⟩ => ⟨h1, h2, fun o ho => ?_⟩⟩
  obtain ⟨j, hj, rfl⟩ := List.mem_iff_getElem.1 ho
  rw [List.length_take] at hj
  rw [List.getElem_take]
  exact h3 j (by omega) (by omega)
theorem badI_iff {zs : List Int} {i : Nat} (hi : i < zs.length) : badI zs i = false ↔ nodeB zs[i] = true ∧ (0 < i → (zs[i - 1]'(by omega)) < zs[i]) := by
  unfold badI
  rw [List.getElem?_eq_getElem hi]
  simp only [Bool.or_eq_false_iff, Bool.not_eq_false', Bool.and_eq_false_iff, decide_eq_false_iff_not]
  rw [List.getElem?_eq_getElem (by omega : i - 1 < zs.length)]
  simp only [Option.getD_some]
  refine ⟨fun ⟨h1, h2⟩ => ⟨h1, fun h0 => by rcases h2 with h | h; omega; omega⟩, fun ⟨h1, h2⟩ => ⟨h1, ?_⟩⟩
  rcases Nat.eq_zero_or_pos i with h | h
  · exact .inl (by omega)
  · exact .inr (by have := h2 h; omega)
theorem srt_of {zs : List Int} (h : ∀ (i : Nat) (hi : i < zs.length), 0 < i → (zs[i - 1]'(by omega)) < zs[i]) : zs.Pairwise (· < ·) := by
  refine List.pairwise_iff_getElem.2 fun i j hi hj hij => ?_
  induction j with
  | zero => omega
  | succ j ih =>
    have h1 := h (j + 1) hj (by omega)
    rcases Nat.lt_or_ge i j with h2 | h2
    · exact Int.lt_trans (ih (by omega) h2) h1
    · obtain rfl : i = j := by omega
      exact h1
theorem check_iff {e : Int} {ms : List Mb} {zs : List Int} : checkB e ms zs = true ↔ Vld e ms zs := by
  unfold checkB
  rw [Bool.not_eq_true', badIs_iff, badMs_iff, badA_iff]
  constructor
  · rintro ⟨⟨⟨h1, h2, h3, h4⟩, h5⟩, h6⟩
    have h5' := fun i (hi : i < ms.length) => (badM_iff h3 hi).1 (h5 i hi)
    have h6' := fun i (hi : i < zs.length) => (badI_iff hi).1 (h6 i hi)
    exact ⟨h1, h2, h3, h4, fun m hm => by obtain ⟨i, hi, rfl⟩ := List.mem_iff_getElem.1 hm; exact ⟨(h5' i hi).1, (h5' i hi).2.1⟩, fun i j hi hj hji => (h5' i hi).2.2 j hj hji, srt_of fun i hi h0 => (h6' i hi).2 h0, fun z hz => by obtain ⟨i, hi, rfl⟩ := List.mem_iff_getElem.1 hz; exact (h6' i hi).1⟩
  · intro h
    exact ⟨⟨⟨h.e0, h.e1, h.len, h.whole⟩, fun i hi => (badM_iff h.len hi).2 ⟨(h.mem _ (List.getElem_mem hi)).1, (h.mem _ (List.getElem_mem hi)).2, fun j hj hji => h.nod i j hi hj hji⟩⟩, fun i hi => (badI_iff hi).2 ⟨h.zmem _ (List.getElem_mem hi), fun h0 => (List.pairwise_iff_getElem.1 h.srt) (i - 1) i (by omega) hi (by omega)⟩⟩
theorem Vld.zlen {e : Int} {ms : List Mb} {zs : List Int} (h : Vld e ms zs) : zs.length ≤ 16 := by
  have key : ∀ (i : Nat) (hi : i < zs.length), (i : Int) ≤ zs[i] := fun i => by
    induction i with
    | zero => intro hi; have := of_decide_eq_true (h.zmem _ (List.getElem_mem hi)); omega
    | succ i ih => intro hi; have h1 := ih (by omega); have h2 := (List.pairwise_iff_getElem.1 h.srt) i (i + 1) (by omega) hi (by omega); omega
  rcases Nat.eq_zero_or_pos zs.length with h0 | h0
  · omega
  · have h1 := key (zs.length - 1) (by omega)
    have h2 := of_decide_eq_true (h.zmem _ (List.getElem_mem (show zs.length - 1 < zs.length by omega)))
    omega
end Go.Proofs.Ytiaikajibefieaa.K
