/-
  No cell of these rows narrows 'for every input' (looked for: loops, veiled, ifaces, maps, wideKeys, modest, calm, conditions, laid).
  DERIVED. THE GIVEN ROWS OF THIS SEAT. 4 by the template 'for every input the law returns true; each argument reads behind the call as it read before'; 0 by the template 'total and deterministic' (their statements: YtiaikajibefieaaTotals.lean).
  GIVEN WITH THE SEED: the statements are not yours to turn. If you find one false, say at which input.
  Laid BY PROGRAM, IN A SANDBOX (cutbox-rows.mjs): the forced cells as the released guide's own fill.sh prints them over the translation b4ec69e857eab9c6… (all of the seat's roots in one cut). By AI agents, Wed Nov 11 2026. No macro, syntax, notation, axiom, sorry.
-/
import Derived.Test.YtiaikajibefieaaChecked
import GoSem.Claim
import GoSem.ClaimJoined
import GoSem.ClaimMapViews
import Derived.JoinedTies
import Derived.KernelRfl
namespace Go.Proofs.Ytiaikajibefieaa
/- THE CELL 'sum', in the pinned program and in every row, IS THE sha256 OF THE DUMP (.gsa) THAT YtiaikajibefieaaProg.lean LOADS. Nothing in Lean hashes anything: it is a label: what it is worth is what the hold of that sum in a sandbox is worth. -/
noncomputable def Try.pinned : Pinned := { name := "ytiaikajibefieaa", sum := "b4ec69e857eab9c6562dc2e167e63106496e1c0081690ac509a4b3653f2afbd1", checked := Try.checked }
namespace Rows
def none {H : Type} : Left H := { results := [], args := [] }

/-- 'glacierlaw14.MasterHolds': WHATEVER THE INPUT: true; the input reads as it did. -/
def masterHoldsSpec : ChangeSpec := { name := "masterHolds", fn := fun _ => fun
  | [d] => { results := [.lit (.bool true)], args := [d] }
  | _ => none }
def masterHoldsRow : OpenClaim := { program := "ytiaikajibefieaa", sum := "b4ec69e857eab9c6562dc2e167e63106496e1c0081690ac509a4b3653f2afbd1", func := "glacier/glacierlaw14.MasterHolds", spec := "masterHolds", inPlace := ["slices.overlaps[int]"], unfollowed := true, recurses := true, apart := false }
def MasterHoldsSaid : Prop := masterHoldsRow.holds Try.pinned (OpenSpec.ofChange masterHoldsSpec)

/-- ITS FALSE NEIGHBOUR: 'it returns false'. Refute it at one input. -/
def masterHoldsWrong : ChangeSpec := { name := "masterHolds", fn := fun _ => fun
  | [d] => { results := [.lit (.bool false)], args := [d] }
  | _ => none }
def MasterHoldsWrongFalsely : Prop := masterHoldsRow.holds Try.pinned (OpenSpec.ofChange masterHoldsWrong)

/-- 'glacierlaw14.MasterOwn': WHATEVER THE INPUT: true; the input reads as it did. -/
def masterOwnSpec : ChangeSpec := { name := "masterOwn", fn := fun _ => fun
  | [d1, d2] => { results := [.lit (.bool true)], args := [d1, d2] }
  | _ => none }
def masterOwnRow : OpenClaim := { program := "ytiaikajibefieaa", sum := "b4ec69e857eab9c6562dc2e167e63106496e1c0081690ac509a4b3653f2afbd1", func := "glacier/glacierlaw14.MasterOwn", spec := "masterOwn", inPlace := ["slices.overlaps[int]"], unfollowed := true, recurses := true, apart := false }
def MasterOwnSaid : Prop := masterOwnRow.holds Try.pinned (OpenSpec.ofChange masterOwnSpec)

/-- ITS FALSE NEIGHBOUR: 'it returns false'. Refute it at one input. -/
def masterOwnWrong : ChangeSpec := { name := "masterOwn", fn := fun _ => fun
  | [d1, d2] => { results := [.lit (.bool false)], args := [d1, d2] }
  | _ => none }
def MasterOwnWrongFalsely : Prop := masterOwnRow.holds Try.pinned (OpenSpec.ofChange masterOwnWrong)

/-- 'glacierlaw14.MasterNext': WHATEVER THE INPUT: true; the input reads as it did. -/
def masterNextSpec : ChangeSpec := { name := "masterNext", fn := fun _ => fun
  | [d] => { results := [.lit (.bool true)], args := [d] }
  | _ => none }
def masterNextRow : OpenClaim := { program := "ytiaikajibefieaa", sum := "b4ec69e857eab9c6562dc2e167e63106496e1c0081690ac509a4b3653f2afbd1", func := "glacier/glacierlaw14.MasterNext", spec := "masterNext", inPlace := ["slices.overlaps[int]"], unfollowed := true, recurses := true, apart := false }
def MasterNextSaid : Prop := masterNextRow.holds Try.pinned (OpenSpec.ofChange masterNextSpec)

/-- ITS FALSE NEIGHBOUR: 'it returns false'. Refute it at one input. -/
def masterNextWrong : ChangeSpec := { name := "masterNext", fn := fun _ => fun
  | [d] => { results := [.lit (.bool false)], args := [d] }
  | _ => none }
def MasterNextWrongFalsely : Prop := masterNextRow.holds Try.pinned (OpenSpec.ofChange masterNextWrong)

/-- 'glacierlaw14.MasterStripes': WHATEVER THE INPUT: true; the input reads as it did. -/
def masterStripesSpec : ChangeSpec := { name := "masterStripes", fn := fun _ => fun
  | [d1, d2, d3] => { results := [.lit (.bool true)], args := [d1, d2, d3] }
  | _ => none }
def masterStripesRow : OpenClaim := { program := "ytiaikajibefieaa", sum := "b4ec69e857eab9c6562dc2e167e63106496e1c0081690ac509a4b3653f2afbd1", func := "glacier/glacierlaw14.MasterStripes", spec := "masterStripes", inPlace := ["slices.overlaps[int]"], unfollowed := true, recurses := true, apart := false }
def MasterStripesSaid : Prop := masterStripesRow.holds Try.pinned (OpenSpec.ofChange masterStripesSpec)

/-- ITS FALSE NEIGHBOUR: 'it returns false'. Refute it at one input. -/
def masterStripesWrong : ChangeSpec := { name := "masterStripes", fn := fun _ => fun
  | [d1, d2, d3] => { results := [.lit (.bool false)], args := [d1, d2, d3] }
  | _ => none }
def MasterStripesWrongFalsely : Prop := masterStripesRow.holds Try.pinned (OpenSpec.ofChange masterStripesWrong)

/- THE SECOND FORM. 'bulk': how many values and letters a reading holds, each counted each time it is reached (what is shared counts as often as it is met; a slice's spare places count too). A statement '..UptoSaid' is the law's where the arguments, and the package variables that the reading takes, are together of bulk at most 1048576: NARROWER than '..Said'. Prove '..Said' where nothing that the law and all that it calls make is longer than what came in: it says more and counts as full. Else prove '..UptoSaid'. A law counts once. -/
mutual
def uptoBulk {H : Type} : DataW H → Nat
  | .lit (.string bytes) => bytes.length + 1
  | .lit _ => 1
  | .nil => 1
  | .ptr d => uptoBulk d + 1
  | .slice elems spare => uptoBulkAll elems + uptoBulkAll spare + 1
  | .agg parts => uptoBulkAll parts + 1
  | .iface _ d => uptoBulk d + 1
  | .map entries => uptoBulkEntries entries + 1
  | .held _ => 1
def uptoBulkAll {H : Type} : List (DataW H) → Nat
  | [] => 0
  | d :: r => uptoBulk d + uptoBulkAll r
def uptoBulkEntries {H : Type} : List (Lit × DataW H) → Nat
  | [] => 0
  | x :: r => uptoBulkEntry x + uptoBulkEntries r
def uptoBulkEntry {H : Type} : Lit × DataW H → Nat
  | (.string bytes, d) => bytes.length + uptoBulk d + 1
  | (_, d) => uptoBulk d + 1
 end
def uptoSmall : (H : Type) → List (DataW H) → Bool := fun _ ds => decide (uptoBulkAll ds ≤ 1048576)
def OpenSpec.upto (s : _root_.Go.ChangeSpec) : _root_.Go.OpenSpec := { _root_.Go.OpenSpec.ofChange s with cond := some uptoSmall }

/-- 'glacierlaw14.MasterHolds', WHERE WHAT IT READS IS OF BULK AT MOST 1048576: true; the input reads as it did. -/
def masterHoldsUptoRow : OpenClaim := { program := "ytiaikajibefieaa", sum := "b4ec69e857eab9c6562dc2e167e63106496e1c0081690ac509a4b3653f2afbd1", func := "glacier/glacierlaw14.MasterHolds", spec := "masterHolds", inPlace := ["slices.overlaps[int]"], unfollowed := true, recurses := true, apart := false, narrowed := true }
def MasterHoldsUptoSaid : Prop := masterHoldsUptoRow.holds Try.pinned (OpenSpec.upto masterHoldsSpec)

/-- 'glacierlaw14.MasterOwn', WHERE WHAT IT READS IS OF BULK AT MOST 1048576: true; the input reads as it did. -/
def masterOwnUptoRow : OpenClaim := { program := "ytiaikajibefieaa", sum := "b4ec69e857eab9c6562dc2e167e63106496e1c0081690ac509a4b3653f2afbd1", func := "glacier/glacierlaw14.MasterOwn", spec := "masterOwn", inPlace := ["slices.overlaps[int]"], unfollowed := true, recurses := true, apart := false, narrowed := true }
def MasterOwnUptoSaid : Prop := masterOwnUptoRow.holds Try.pinned (OpenSpec.upto masterOwnSpec)

/-- 'glacierlaw14.MasterNext', WHERE WHAT IT READS IS OF BULK AT MOST 1048576: true; the input reads as it did. -/
def masterNextUptoRow : OpenClaim := { program := "ytiaikajibefieaa", sum := "b4ec69e857eab9c6562dc2e167e63106496e1c0081690ac509a4b3653f2afbd1", func := "glacier/glacierlaw14.MasterNext", spec := "masterNext", inPlace := ["slices.overlaps[int]"], unfollowed := true, recurses := true, apart := false, narrowed := true }
def MasterNextUptoSaid : Prop := masterNextUptoRow.holds Try.pinned (OpenSpec.upto masterNextSpec)

/-- 'glacierlaw14.MasterStripes', WHERE WHAT IT READS IS OF BULK AT MOST 1048576: true; the input reads as it did. -/
def masterStripesUptoRow : OpenClaim := { program := "ytiaikajibefieaa", sum := "b4ec69e857eab9c6562dc2e167e63106496e1c0081690ac509a4b3653f2afbd1", func := "glacier/glacierlaw14.MasterStripes", spec := "masterStripes", inPlace := ["slices.overlaps[int]"], unfollowed := true, recurses := true, apart := false, narrowed := true }
def MasterStripesUptoSaid : Prop := masterStripesUptoRow.holds Try.pinned (OpenSpec.upto masterStripesSpec)

end Rows
end Go.Proofs.Ytiaikajibefieaa
