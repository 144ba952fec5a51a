/- Plain law: where the members of what a command makes stood; one of them is whole. -/
import Derived.Test.YtiaikajibefieaaTq
namespace Go.Proofs.Ytiaikajibefieaa.K
open Go Go.RowKit
set_option linter.unusedVariables false
set_option linter.unusedSimpArgs false
/-- Where a node stood, or would stand. -/
def posn (ms : List Mb) (n : Int) : Int := if idxN ms n < 0 then (ms.length : Int) else idxN ms n
def lastF (ms ms' : List Mb) : Nat → Int
  | 0 => -1
  | s + 1 => match ms'[s]? with | some m => posn ms m.n | none => 0
theorem lastF_succ {ms ms' : List Mb} {s : Nat} (h : s < ms'.length) : lastF ms ms' (s + 1) = posn ms ms'[s].n := by
  show (match ms'[s]? with | some m => posn ms m.n | none => 0) = _
  rw [List.getElem?_eq_getElem h]
def wholeF (ms : List Mb) (s : Nat) : Bool := decide ((ms.length : Int) = 0) || (ms.take s).any (·.w)
theorem wholeF_succ {ms : List Mb} {s : Nat} (h : s < ms.length) : wholeF ms (s + 1) = (wholeF ms s || ms[s].w) := by
  unfold wholeF
  rw [← List.take_append_getElem h, List.any_append]
  simp [Bool.or_assoc]
theorem wholeF_all {e : Int} {ms : List Mb} {zs : List Int} (h : Vld e ms zs) : wholeF ms ms.length = true := by
  unfold wholeF
  rw [List.take_length]
  by_cases hne : ms = []
  · subst hne; rfl
  · rw [h.whole hne, Bool.or_true]
theorem posn_self {ms : List Mb} (hn : ms.Pairwise fun a b => a.n ≠ b.n) {k : Nat} (hk : k < ms.length) : posn ms ms[k].n = k := by
  unfold posn
  rw [idx_self hn hk, if_neg (by omega)]
theorem posn_none {ms : List Mb} {n : Int} (h : ∀ m ∈ ms, m.n ≠ n) : posn ms n = ms.length := by
  unfold posn
  rcases idxP_cases (fun m => decide (m.n = n)) ms with ⟨e, -⟩ | ⟨s, hs, e, hp, -⟩
  · rw [if_pos (by show idxP _ _ < 0; omega)]
  · exact absurd (of_decide_eq_true hp) (h _ (List.getElem_mem hs))
theorem turn_rise {ms ms' : List Mb} (hn : ms.Pairwise fun a b => a.n ≠ b.n) (ht : Turn ms ms') : ∃ f : Nat → Nat, (∀ i j, i < j → f i < f j) ∧ ∀ (s : Nat) (h : s < ms'.length), posn ms ms'[s].n = f s := by
  cases ht with
  | same => exact ⟨id, fun i j h => h, fun s h => posn_self hn h⟩
  | add m h =>
    refine ⟨id, fun i j h => h, fun s hs => ?_⟩
    rw [List.length_append, List.length_singleton] at hs
    by_cases hl : s < ms.length
    · rw [List.getElem_append_left hl]; exact posn_self hn hl
    · have e : s = ms.length := by omega
      subst e
      rw [List.getElem_concat_length]
      · exact posn_none h
      · rfl
  | drop i h =>
    refine ⟨fun j => if j < i then j else j + 1, fun a b hab => ?_, fun s hs => ?_⟩
    · dsimp only; split <;> split <;> omega
    · have hl : (ms.take i).length = i := by rw [List.length_take]; omega
      rw [List.length_append, hl, List.length_drop] at hs
      dsimp only
      by_cases hsi : s < i
      · rw [if_pos hsi, List.getElem_append_left (by rw [hl]; exact hsi), List.getElem_take]
        exact posn_self hn (by omega)
      · rw [if_neg hsi, List.getElem_append_right (by rw [hl]; omega), List.getElem_drop]
        have := posn_self hn (show i + 1 + (s - (ms.take i).length) < ms.length by rw [hl]; omega)
        rw [this, hl]; omega
  | set k h m hm =>
    refine ⟨id, fun i j h => h, fun s hs => ?_⟩
    rw [List.length_set] at hs
    rw [List.getElem_set]
    split
    · rename_i e; subst e; rw [hm]; exact posn_self hn h
    · exact posn_self hn hs
theorem rise {ms ms' : List Mb} (hn : ms.Pairwise fun a b => a.n ≠ b.n) (ht : Turn ms ms') {s : Nat} (h : s < ms'.length) : lastF ms ms' s < posn ms ms'[s].n := by
  obtain ⟨f, h1, h2⟩ := turn_rise hn ht
  rw [h2 s h]
  cases s with
  | zero => show (-1 : Int) < _; omega
  | succ s => rw [lastF_succ (by omega), h2 s (by omega)]; have := h1 s (s + 1) (by omega); omega
end Go.Proofs.Ytiaikajibefieaa.K
