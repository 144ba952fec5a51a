/- Head, Tail, Next, Ahead of a chain whose nodes are unlike. -/
import Derived.Test.YtiaikajibefieaaTv
namespace Go.Proofs.Ytiaikajibefieaa.K
open Go Go.RowKit
set_option linter.unusedVariables false
set_option linter.unusedSimpArgs false
section
variable {A : Nat → Prop} {w : World} {cv sv : Value} {e n : Int} {ms : List Mb} {s : Nat}
theorem C15h (hR : MRow A w cv ms) : Rt Try.prog 15 [.agg #[.int .i64 e, cv, sv]] w fun r w' => r = .tuple #[.agg (cellsM (memAt ms ((0 : Nat) : Int))).toArray, .bool (decide (0 < ms.length))] ∧ Ext w w' := by
  refine Rt.mono (C15 hR) ?_
  rintro r w' ⟨rfl, hx⟩
  refine ⟨?_, hx⟩
  rw [show memB ms 0 = decide (0 < ms.length) from decide_eq_decide.2 (by omega)]
  rfl
theorem C16h (hR : MRow A w cv ms) : Rt Try.prog 16 [.agg #[.int .i64 e, cv, sv]] w fun r w' => r = .tuple #[.agg (cellsM (memAt ms ((ms.length : Int) - 1))).toArray, .bool (decide (0 < ms.length))] ∧ Ext w w' := by
  refine Rt.mono (C16 hR) ?_
  rintro r w' ⟨rfl, hx⟩
  refine ⟨?_, hx⟩
  rw [show memB ms ((ms.length : Int) - 1) = decide (0 < ms.length) from decide_eq_decide.2 (by omega)]
theorem C17h (hR : MRow A w cv ms) (hp : ms.Pairwise fun a b => a.n ≠ b.n) (hs : s < ms.length) (hn : n = ms[s].n) : Rt Try.prog 17 [.agg #[.int .i64 e, cv, sv], .int .i64 n] w fun r w' => r = .tuple #[.agg (cellsM (memAt ms ((s + 1 : Nat) : Int))).toArray, .bool (decide (s + 1 < ms.length))] ∧ Ext w w' := by
  subst hn
  refine Rt.mono (C17 hR) ?_
  rintro r w' ⟨rfl, hx⟩
  refine ⟨?_, hx⟩
  have h : idxP (fun m => decide (m.n = ms[s].n)) ms = (s : Int) := idx_self hp hs
  rw [h, if_neg (by omega), show (s : Int) + 1 = ((s + 1 : Nat) : Int) from by omega, show memB ms ((s + 1 : Nat) : Int) = decide (s + 1 < ms.length) from decide_eq_decide.2 (by omega), show decide ((0 : Int) ≤ (s : Int)) = true from decide_eq_true (by omega)]
  rfl
theorem C18h (hR : MRow A w cv ms) (hp : ms.Pairwise fun a b => a.n ≠ b.n) (hs : s + 1 < ms.length) (hn : n = ms[s + 1].n) : Rt Try.prog 18 [.agg #[.int .i64 e, cv, sv], .int .i64 n] w fun r w' => r = .tuple #[.agg (cellsM ms[s]).toArray, .bool true] ∧ Ext w w' := by
  subst hn
  refine Rt.mono (C18 hR) ?_
  rintro r w' ⟨rfl, hx⟩
  refine ⟨?_, hx⟩
  have h : idxP (fun m => decide (m.n = ms[s + 1].n)) ms = ((s + 1 : Nat) : Int) := idx_self hp hs
  rw [h, show ((s + 1 : Nat) : Int) - 1 = (s : Int) from by omega, memAt_in (by omega : s < ms.length), show memB ms (s : Int) = true from decide_eq_true (by omega)]
end
end Go.Proofs.Ytiaikajibefieaa.K
