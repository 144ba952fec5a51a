/- A number of one's own written; how long what a command makes may be. -/
import Derived.Test.YtiaikajibefieaaTs
namespace Go.Proofs.Ytiaikajibefieaa.K
open Go Go.RowKit
set_option linter.unusedVariables false
set_option linter.unusedSimpArgs false
set_option linter.unusedSectionVars false
/-- A number is written. -/
theorem IOwn.field {w : World} {base n c k : Nat} {ad : Option Addr} {zs : List Int} {z : Int} (h : IOwn base w (.slice ad n c) zs) (hk : k < zs.length) :
    ∃ g cs, ad = some ⟨g, 0, none⟩ ∧ n = zs.length ∧ Blk w g cs 3 ∧ Nat.blt k cs.length = true ∧ base ≤ g ∧ ∀ w', Blk w' g (cs.set k (.int .i64 z)) 3 → IOwn base w' (.slice ad n c) (zs.set k z) := by
  obtain ⟨g, cs, e1, e2, hB, hle, hb, hset⟩ := gown_set cellsI_len h hk
  obtain ⟨g', cs', e1', -, -, -, hB', hcl, -, hct⟩ := h.blk cellsI_len (by omega)
  rw [e1] at e1'
  cases e1'
  have hcs : cs' = cs := by
    unfold Blk at hB hB'
    rw [hB] at hB'
    simpa using hB'.symm
  subst hcs
  refine ⟨g, cs', e1, e2, hB, by rw [Nat.blt_eq]; omega, hb, fun w' hw => ?_⟩
  show w'.ownsRow base 3 1 _ (zs.set k z).length _
  rw [List.length_set]
  refine hset w' z ?_
  have := set_seg (cs := cs') (k := k * 1) (j := 0) (l := cellsI zs[k]) (v := .int .i64 z) (by rw [cellsI_len]; decide) (by rw [cellsI_len]; exact hle) (fun i u hi => by
    have h3 : (zs.flatMap cellsI)[k * 1 + i]? = some u := gflat_at cellsI_len zs k _ (List.getElem?_eq_getElem hk) i u hi
    rw [← hct, List.getElem?_take] at h3
    split at h3
    · exact h3
    · cases h3)
  rw [cellsI_len] at this
  rw [show k = k * 1 + 0 from by omega, this] at hw
  exact hw
theorem doF_cases (e : Int) (ms : List Mb) (zs : List Int) (x : Cm) : (doF e ms zs x).1 = 0 ∨ ∃ c, doF e ms zs x = R0 c := by
  unfold doF doG
  repeat' split
  all_goals first | exact .inr ⟨_, rfl⟩ | exact .inl rfl
theorem doF_len (e : Int) (ms : List Mb) (zs : List Int) (x : Cm) : (doF e ms zs x).2.2.1.length ≤ 1099511627776 ∧ (doF e ms zs x).2.2.2.length ≤ 1099511627776 := by
  rcases doF_cases e ms zs x with h | ⟨c, h⟩
  · have hV := (doF_ok h).2.1
    exact ⟨Nat.le_trans hV.len (by decide), Nat.le_trans hV.zlen (by decide)⟩
  · rw [h]; exact ⟨Nat.zero_le _, Nat.zero_le _⟩
theorem run1_len {e : Int} {ms : List Mb} {zs : List Int} (x : Cm) (h1 : ms.length ≤ 1099511627776) (h2 : zs.length ≤ 1099511627776) : (runF (e, ms, zs) [x]).2.1.length ≤ 1099511627776 ∧ (runF (e, ms, zs) [x]).2.2.length ≤ 1099511627776 := step_len (c := (e, ms, zs)) h1 h2
end Go.Proofs.Ytiaikajibefieaa.K
