/- Plain law: what a command makes may be again. -/
import Derived.Test.YtiaikajibefieaaTm
namespace Go.Proofs.Ytiaikajibefieaa.K
open Go Go.RowKit
set_option linter.unusedVariables false
set_option linter.unusedSimpArgs false
theorem nod_iff {ms : List Mb} : (∀ (i j : Nat) (hi : i < ms.length) (hj : j < ms.length), j < i → ms[j].n ≠ ms[i].n) ↔ ms.Pairwise fun a b => a.n ≠ b.n := by
  rw [List.pairwise_iff_getElem]
  exact ⟨fun h i j hi hj hij => h j i hj hi hij, fun h i j hi hj hji => h j i hj hi hji⟩
theorem Vld.npw {e : Int} {ms : List Mb} {zs : List Int} (h : Vld e ms zs) : ms.Pairwise fun a b => a.n ≠ b.n := nod_iff.1 h.nod
theorem posI_spec {zs : List Int} {x : Int} (hs : zs.Pairwise (· < ·)) : posI zs x ≤ zs.length ∧ (∀ (i : Nat) (h : i < zs.length), i < posI zs x → zs[i] < x) ∧ ∀ (i : Nat) (h : i < zs.length), posI zs x ≤ i → x ≤ zs[i] := by
  refine ⟨List.findIdx_le_length, fun i h hi => ?_, fun i h hi => ?_⟩
  · have := List.not_of_lt_findIdx hi
    have := of_decide_eq_false this; omega
  · have h1 : posI zs x < zs.length := by omega
    have h2 := List.findIdx_getElem (w := h1)
    have h2 := of_decide_eq_true h2
    rcases Nat.lt_or_ge (posI zs x) i with h3 | h3
    · have := (List.pairwise_iff_getElem.1 hs) (posI zs x) i h1 h h3
      exact Int.le_trans h2 (Int.le_of_lt this)
    · have e : i = posI zs x := by omega
      subst e; exact h2
theorem ins_srt {zs : List Int} {x : Int} (hs : zs.Pairwise (· < ·)) (hx : x ∉ zs) : (insP zs x).Pairwise (· < ·) := by
  obtain ⟨h1, h2, h3⟩ := posI_spec (x := x) hs
  have ht : ∀ y ∈ zs.take (posI zs x), y < x := fun y hy => by
    obtain ⟨i, hi, rfl⟩ := List.mem_iff_getElem.1 hy
    rw [List.length_take] at hi
    rw [List.getElem_take]
    exact h2 i (by omega) (by omega)
  have hd : ∀ y ∈ zs.drop (posI zs x), x < y := fun y hy => by
    obtain ⟨i, hi, rfl⟩ := List.mem_iff_getElem.1 hy
    rw [List.length_drop] at hi
    rw [List.getElem_drop]
    have h4 := h3 (posI zs x + i) (by omega) (by omega)
    have h5 : x ≠ zs[posI zs x + i] := fun e => hx (by rw [e]; exact List.getElem_mem _)
    omega
  refine List.pairwise_append.2 ⟨hs.sublist (List.take_sublist _ _), List.pairwise_cons.2 ⟨hd, hs.sublist (List.drop_sublist _ _)⟩, fun a ha b hb => ?_⟩
  rcases List.mem_cons.1 hb with rfl | hb
  · exact ht a ha
  · exact Int.lt_trans (ht a ha) (hd b hb)
theorem cut_sub {α : Type} (l : List α) (i : Nat) : (l.take i ++ l.drop (i + 1)).Sublist l := by
  have := List.Sublist.append (List.Sublist.refl (l.take i)) (List.drop_sublist_drop_left l (Nat.le_succ i))
  rwa [List.take_append_drop] at this
theorem idx_none {ms : List Mb} {n : Int} (h : idxN ms n < 0) : ∀ m ∈ ms, m.n ≠ n := by
  rcases idxP_cases (fun m => decide (m.n = n)) ms with ⟨-, h1⟩ | ⟨s, hs, e, -⟩
  · intro m hm e; have := h1 m hm; simp [e] at this
  · have : idxN ms n = s := e
    omega
theorem idx_self {ms : List Mb} (hn : ms.Pairwise fun a b => a.n ≠ b.n) {k : Nat} (hk : k < ms.length) : idxN ms ms[k].n = k :=
  idxP_hit hk (by simp) fun j hj hjk => by simpa using (List.pairwise_iff_getElem.1 hn) j k hj hk hjk
/-- The three ways a configuration's chain turns. -/
inductive Turn (ms : List Mb) : List Mb → Prop
  | same : Turn ms ms
  | add (m : Mb) (h : ∀ o ∈ ms, o.n ≠ m.n) : Turn ms (ms ++ [m])
  | drop (i : Nat) (h : i < ms.length) : Turn ms (ms.take i ++ ms.drop (i + 1))
  | set (k : Nat) (h : k < ms.length) (m : Mb) (hn : m.n = ms[k].n) : Turn ms (ms.set k m)
theorem doG_ok {e : Int} {ms : List Mb} {zs : List Int} {x : Cm} (hV : Vld e ms zs) (hb : badX e x = false) (h0 : (doG e ms zs x).1 = 0) :
    Vld (doG e ms zs x).2.1 (doG e ms zs x).2.2.1 (doG e ms zs x).2.2.2 ∧ (doG e ms zs x).2.1 = (if x.k = 3 then e else e + 1) ∧ Turn ms (doG e ms zs x).2.2.1 ∧ (0 < ms.length → 0 < (doG e ms zs x).2.2.1.length) := by
  unfold badX at hb
  simp only [Bool.or_eq_false_iff, decide_eq_false_iff_not, Bool.and_eq_false_iff, Bool.not_eq_false'] at hb
  obtain ⟨hk1, hk5, hxn, hxb, he40⟩ := hb
  have helt : x.k ≠ 3 → e < 1099511627776 := fun h => by
    have := hV.e1
    rcases he40 with h1 | h1
    · omega
    · exact absurd h h1
  have he0 := hV.e0
  unfold doG at h0 ⊢
  by_cases h1 : x.k = 1
  · rw [if_pos h1] at h0 ⊢
    by_cases hc : (decide (0 ≤ idxN ms x.n) || decide ((ms.length : Int) = 5)) = true
    · rw [if_pos hc] at h0; cases h0
    · rw [if_neg hc]
      have hc' : (decide (0 ≤ idxN ms x.n) || decide ((ms.length : Int) = 5)) = false := by simpa using hc
      obtain ⟨hc1, hc2⟩ := Bool.or_eq_false_iff.1 hc'
      have hc1 := of_decide_eq_false hc1
      have hc2 := of_decide_eq_false hc2
      have hno := idx_none (show idxN ms x.n < 0 by omega)
      have hl := hV.len
      have hlt := helt (by omega)
      refine ⟨⟨by show 0 ≤ e + 1; omega, by show e + 1 ≤ _; omega, by show (ms ++ [_]).length ≤ 5; rw [List.length_append, List.length_singleton]; omega, fun _ => ?_, fun m hm => ?_, nod_iff.2 ?_, hV.srt, hV.zmem⟩, by rw [if_neg (by omega)], .add _ hno, fun _ => by show 0 < (ms ++ [_]).length; simp⟩
      · show (ms ++ [_]).any (·.w) = true
        rw [List.any_append]
        by_cases hne : ms = []
        · subst hne; rfl
        · rw [hV.whole hne, Bool.true_or]
      · rcases List.mem_append.1 hm with h | h
        · exact hV.mem m h
        · rw [List.mem_singleton.1 h]; exact ⟨hxn, hxb⟩
      · exact List.pairwise_append.2 ⟨hV.npw, List.pairwise_singleton _ _, fun a ha b hb => by rw [List.mem_singleton.1 hb]; exact hno a ha⟩
  · rw [if_neg h1] at h0 ⊢
    by_cases h2 : x.k = 2
    · rw [if_pos h2] at h0 ⊢
      by_cases hc : idxN ms x.n < 0
      · rw [if_pos hc] at h0; cases h0
      · rw [if_neg hc] at h0 ⊢
        by_cases hw : (cutM ms (idxN ms x.n)).any (·.w) = true
        · rw [if_pos hw]
          obtain ⟨k, hk, hkk, hkn⟩ := idx_nat hc
          have hcut : cutM ms (idxN ms x.n) = ms.take k ++ ms.drop (k + 1) := by unfold cutM; rw [show idxN ms x.n = k from hkk, Int.toNat_natCast]
          rw [hcut] at hw ⊢
          have hsub := cut_sub ms k
          have hl := hV.len
          have hlt := helt (by omega)
          refine ⟨⟨by show 0 ≤ e + 1; omega, by show e + 1 ≤ _; omega, Nat.le_trans hsub.length_le hl, fun _ => hw, fun m hm => hV.mem m (hsub.subset hm), nod_iff.2 (hV.npw.sublist hsub), hV.srt, hV.zmem⟩, by rw [if_neg (by omega)], .drop k hk, fun _ => ?_⟩
          obtain ⟨m, hm, -⟩ := List.any_eq_true.1 hw
          exact List.length_pos_iff.2 (List.ne_nil_of_mem hm)
        · rw [if_neg hw] at h0; cases h0
    · rw [if_neg h2] at h0 ⊢
      by_cases h3 : x.k = 3
      · rw [if_pos h3] at h0 ⊢
        by_cases hce : x.e ≠ e
        · rw [if_pos hce] at h0; cases h0
        · rw [if_neg hce] at h0 ⊢
          by_cases hc : idxN ms x.n < 0
          · rw [if_pos hc] at h0; cases h0
          · rw [if_neg hc] at h0 ⊢
            by_cases hm : memAt ms (idxN ms x.n) ≠ ⟨x.n, x.b, false⟩
            · rw [if_pos hm] at h0; cases h0
            · rw [if_neg hm]
              obtain ⟨k, hk, hkk, hkn⟩ := idx_nat hc
              have hm := Decidable.not_not.1 hm
              rw [show idxN ms x.n = k from hkk] at hm ⊢
              rw [memAt_in hk] at hm
              rw [Int.toNat_natCast]
              refine ⟨⟨he0, hV.e1, by show (ms.set _ _).length ≤ 5; rw [List.length_set]; exact hV.len, fun _ => List.any_eq_true.2 ⟨_, List.mem_set hk _, rfl⟩, fun m hm' => ?_, nod_iff.2 ?_, hV.srt, hV.zmem⟩, by rw [if_pos h3], .set k hk _ hkn.symm, fun _ => by show 0 < (ms.set _ _).length; rw [List.length_set]; omega⟩
              · rcases List.mem_or_eq_of_mem_set hm' with h | h
                · exact hV.mem m h
                · rw [h]; exact ⟨hxn, hxb⟩
              · have hmap : (ms.set k ⟨x.n, x.b, true⟩).map (·.n) = ms.map (·.n) := by
                  rw [List.map_set]
                  refine List.ext_getElem (by simp) fun i h1 h2 => ?_
                  rw [List.getElem_set]
                  split
                  · rename_i e; subst e; rw [List.getElem_map]; exact hkn.symm
                  · rfl
                have h4 : (ms.map (·.n)).Pairwise (· ≠ ·) := List.pairwise_map.2 hV.npw
                rw [← hmap] at h4
                exact List.pairwise_map.1 h4
      · rw [if_neg h3] at h0 ⊢
        have hlt := helt h3
        by_cases h4 : x.k = 4
        · rw [if_pos h4] at h0 ⊢
          by_cases hx : x.n ∈ zs
          · rw [if_pos hx] at h0; cases h0
          · rw [if_neg hx]
            refine ⟨⟨by show 0 ≤ e + 1; omega, by show e + 1 ≤ _; omega, hV.len, hV.whole, hV.mem, hV.nod, ins_srt hV.srt hx, fun z hz => ?_⟩, by rw [if_neg h3], .same, fun h => h⟩
            rcases List.mem_append.1 hz with h | h
            · exact hV.zmem z (List.mem_of_mem_take h)
            · rcases List.mem_cons.1 h with rfl | h
              · exact hxn
              · exact hV.zmem z (List.mem_of_mem_drop h)
        · rw [if_neg h4] at h0 ⊢
          by_cases hx : x.n ∈ zs
          · rw [if_pos hx]
            have hsub := cut_sub zs (posI zs x.n)
            exact ⟨⟨by show 0 ≤ e + 1; omega, by show e + 1 ≤ _; omega, hV.len, hV.whole, hV.mem, hV.nod, hV.srt.sublist hsub, fun z hz => hV.zmem z (hsub.subset hz)⟩, by rw [if_neg h3], .same, fun h => h⟩
          · rw [if_neg hx] at h0; cases h0
theorem doF_ok {e : Int} {ms : List Mb} {zs : List Int} {x : Cm} (h0 : (doF e ms zs x).1 = 0) :
    Vld e ms zs ∧ Vld (doF e ms zs x).2.1 (doF e ms zs x).2.2.1 (doF e ms zs x).2.2.2 ∧ (doF e ms zs x).2.1 = (if x.k = 3 then e else e + 1) ∧ Turn ms (doF e ms zs x).2.2.1 ∧ (0 < ms.length → 0 < (doF e ms zs x).2.2.1.length) := by
  unfold doF at h0 ⊢
  by_cases hc : checkB e ms zs = true
  · rw [if_pos hc] at h0 ⊢
    by_cases hb : badX e x = true
    · rw [if_pos hb] at h0; cases h0
    · rw [if_neg hb] at h0 ⊢
      exact ⟨check_iff.1 hc, doG_ok (check_iff.1 hc) (by simpa using hb) h0⟩
  · rw [if_neg hc] at h0; cases h0
abbrev Cf := Int × List Mb × List Int
def stepF (c : Cf) (x : Cm) : Cf := if (doF c.1 c.2.1 c.2.2 x).1 = 0 then (doF c.1 c.2.1 c.2.2 x).2 else c
def runF (c : Cf) (l : List Cm) : Cf := l.foldl stepF c
theorem runF_snoc {c : Cf} {l : List Cm} {i : Nat} (h : i < l.length) : runF c (l.take (i + 1)) = stepF (runF c (l.take i)) l[i] := by
  unfold runF
  rw [← List.take_append_getElem h, List.foldl_append]; rfl
/-- What is run from one that may be, may be. -/
theorem step_vld {c : Cf} {x : Cm} (h : Vld c.1 c.2.1 c.2.2) : Vld (stepF c x).1 (stepF c x).2.1 (stepF c x).2.2 := by
  unfold stepF
  split
  · rename_i h0; exact (doF_ok h0).2.1
  · exact h
theorem run_vld : ∀ (l : List Cm) {c : Cf}, Vld c.1 c.2.1 c.2.2 → Vld (runF c l).1 (runF c l).2.1 (runF c l).2.2
  | [], c, h => h
  | x :: l, c, h => run_vld l (c := stepF c x) (step_vld h)
theorem vld0 : Vld 0 [] [] := ⟨by decide, by decide, by decide, fun h => absurd rfl h, (fun m h => by cases h), (fun i j hi => by cases hi), List.Pairwise.nil, (fun z h => by cases h)⟩
/-- Its lists stay short enough. -/
theorem step_len {c : Cf} {x : Cm} (h1 : c.2.1.length ≤ 1099511627776) (h2 : c.2.2.length ≤ 1099511627776) : (stepF c x).2.1.length ≤ 1099511627776 ∧ (stepF c x).2.2.length ≤ 1099511627776 := by
  unfold stepF
  split
  · rename_i h0
    have hV := (doF_ok h0).2.1
    exact ⟨Nat.le_trans hV.len (by decide), Nat.le_trans hV.zlen (by decide)⟩
  · exact ⟨h1, h2⟩
end Go.Proofs.Ytiaikajibefieaa.K
