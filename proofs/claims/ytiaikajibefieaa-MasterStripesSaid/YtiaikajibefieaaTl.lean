/- A field of one's own member written; keeping rows of one's own. -/
import Derived.Test.YtiaikajibefieaaTk
namespace Go.Proofs.Ytiaikajibefieaa.K
open Go Go.RowKit
set_option linter.unusedVariables false
set_option linter.unusedSimpArgs false
set_option linter.unusedSectionVars false
theorem set_seg {cs : List Value} {k j : Nat} {l : List Value} {v : Value} (hj : j < l.length) (hl : k + l.length ≤ cs.length) (hat : ∀ (i : Nat) (u : Value), l[i]? = some u → cs[k + i]? = some u) : cs.set (k + j) v = cs.take k ++ l.set j v ++ cs.drop (k + l.length) := by
  have h1 : cs = cs.take k ++ l ++ cs.drop (k + l.length) := by
    refine List.ext_getElem? fun i => ?_
    by_cases h : i < k
    · rw [List.append_assoc, List.getElem?_append_left (by rw [List.length_take]; omega), List.getElem?_take, if_pos h]
    · by_cases h2 : i < k + l.length
      · rw [List.getElem?_append_left (by rw [List.length_append, List.length_take]; omega), List.getElem?_append_right (by rw [List.length_take]; omega), List.length_take, Nat.min_eq_left (by omega), List.getElem?_eq_getElem (by omega : i - k < l.length)]
        have := hat (i - k) _ (List.getElem?_eq_getElem (by omega))
        rwa [show k + (i - k) = i from by omega] at this
      · rw [List.getElem?_append_right (by rw [List.length_append, List.length_take]; omega), List.getElem?_drop]
        congr 1
        rw [List.length_append, List.length_take]; omega
  have h2 : (cs.take k).length = k := by rw [List.length_take]; omega
  conv => lhs; rw [h1]
  rw [List.set_append, if_pos (by rw [List.length_append, h2]; omega), List.set_append, if_neg (by rw [h2]; omega), h2, show k + j - k = j from by omega]
/-- One cell of a member is written. -/
theorem MOwn.field {w : World} {base n c k j : Nat} {ad : Option Addr} {ms : List Mb} {m' : Mb} {v : Value} (h : MOwn base w (.slice ad n c) ms) (hk : k < ms.length) (hj : j < 3) (hm : (cellsM ms[k]).set j v = cellsM m') :
    ∃ g cs, ad = some ⟨g, 0, none⟩ ∧ n = ms.length ∧ Blk w g cs 35 ∧ Nat.blt (k * 3 + j) cs.length = true ∧ base ≤ g ∧ ∀ w', Blk w' g (cs.set (k * 3 + j) v) 35 → MOwn base w' (.slice ad n c) (ms.set k m') := by
  obtain ⟨g, cs, e1, e2, hB, hle, hb, hset⟩ := gown_set cellsM_len h hk
  obtain ⟨g', cs', e1', -, -, -, hB', hcl, -, hct⟩ := h.blk cellsM_len (by omega)
  rw [e1] at e1'
  cases e1'
  have hcs : cs' = cs := by
    unfold Blk at hB hB'
    rw [hB] at hB'
    simpa using hB'.symm
  subst hcs
  refine ⟨g, cs', e1, e2, hB, by rw [Nat.blt_eq]; omega, hb, fun w' hw => ?_⟩
  show w'.ownsRow base 35 3 _ (ms.set k m').length _
  rw [List.length_set]
  refine hset w' m' ?_
  rw [set_seg (l := cellsM ms[k]) (by rw [cellsM_len]; exact hj) (by rw [cellsM_len]; exact hle) (fun i u hi => by
    have h3 : (ms.flatMap cellsM)[k * 3 + i]? = some u := gflat_at cellsM_len ms k _ (List.getElem?_eq_getElem hk) i u hi
    rw [← hct, List.getElem?_take] at h3
    split at h3
    · exact h3
    · cases h3), hm, cellsM_len] at hw
  exact hw
section
variable {w w' : World} {base base' : Nat} {v u : Value} {ms : List Mb} {zs : List Int}
/-- Rows of members and of numbers lie apart. -/
theorem own_apart (hM : MOwn base w v ms) (hZ : IOwn base' w u zs) : ∀ b, u.ownBlock = some b → some b ≠ v.ownBlock := fun b hb e => by
  obtain ⟨-, cs, hBz⟩ := ownsRow_blk hZ hb
  exact hM.ne e.symm hBz (by decide) rfl
theorem own_apart' (hM : MOwn base w v ms) (hZ : IOwn base' w u zs) : ∀ b, v.ownBlock = some b → some b ≠ u.ownBlock := fun b hb e => by
  obtain ⟨-, cs, hBz⟩ := ownsRow_blk hM hb
  exact hZ.ne e.symm hBz (by decide) rfl
theorem GOwn.off {α : Type} {T T' : TypeId} {sz : Nat} {enc : α → List Value} {xs : List α} {b : Nat} {cs : List Value} (h : GOwn T sz enc base w v xs) (hB : Blk w b cs T') (hT : T' ≠ T) : some b ≠ v.ownBlock := fun e => h.ne e.symm hB hT rfl
end
theorem posI_mem {zs : List Int} {x : Int} (h : x ∈ zs) : posI zs x < zs.length := List.findIdx_lt_length.2 ⟨x, h, decide_eq_true (Int.le_refl _)⟩
theorem idx_nat {ms : List Mb} {n : Int} (h : ¬ idxP (fun m => decide (m.n = n)) ms < 0) : ∃ (k : Nat) (hk : k < ms.length), idxP (fun m => decide (m.n = n)) ms = k ∧ ms[k].n = n := by
  rcases idxP_cases (fun m => decide (m.n = n)) ms with ⟨e, -⟩ | ⟨s, hs, e, hp, -⟩
  · omega
  · exact ⟨s, hs, e, of_decide_eq_true hp⟩
end Go.Proofs.Ytiaikajibefieaa.K
