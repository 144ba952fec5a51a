/- My own walking rules (part 2): each kind of operation, and what it leaves of memory. No program is named here. -/
import Derived.Test.YtiaikajibefieaaKa
namespace Go.Proofs.Ytiaikajibefieaa.K
open Go Go.RowKit
set_option linter.unusedVariables false
set_option linter.unusedSectionVars false
set_option linter.unusedSimpArgs false

/-! ### what a step leaves of memory -/
/-- The blocks of S are as they were. -/
structure Keep (S : Nat → Prop) (w w' : World) : Prop where
  os : w'.os = w.os
  tape : w'.tape = w.tape
  output : w'.output = w.output
  size : w.heap.size ≤ w'.heap.size
  block : ∀ k, k < w.heap.size → S k → w'.heap[k]? = w.heap[k]?
/-- All that was there is as it was. -/
abbrev Ext (w w' : World) : Prop := Keep (fun _ => True) w w'
theorem Keep.refl (S : Nat → Prop) (w : World) : Keep S w w := ⟨rfl, rfl, rfl, Nat.le_refl _, fun _ _ _ => rfl⟩
theorem Keep.trans {S : Nat → Prop} {a b c : World} (h : Keep S a b) (k : Keep S b c) : Keep S a c :=
  ⟨k.os.trans h.os, k.tape.trans h.tape, k.output.trans h.output, Nat.le_trans h.size k.size, fun i hi hs => (k.block i (Nat.lt_of_lt_of_le hi h.size) hs).trans (h.block i hi hs)⟩
theorem Keep.mono {S S' : Nat → Prop} {w w' : World} (h : Keep S w w') (hs : ∀ k, k < w.heap.size → S' k → S k) : Keep S' w w' := ⟨h.os, h.tape, h.output, h.size, fun k hk hk' => h.block k hk (hs k hk hk')⟩
theorem Keep.of_ext {S : Nat → Prop} {w w' : World} (h : Ext w w') : Keep S w w' := h.mono fun _ _ _ => trivial
theorem Keep.below {S : Nat → Prop} {w w' : World} (h : Keep S w w') {B : Nat} (hB : B ≤ w.heap.size) (hs : ∀ k, k < B → S k) : Below B w w' :=
  ⟨h.os, h.tape, h.output, h.size, fun k hk => h.block k (by omega) (hs k hk)⟩
theorem Ext.below {w w' : World} (h : Ext w w') : Below w.heap.size w w' := Keep.below h (Nat.le_refl _) fun _ _ => trivial
theorem Ext.of_below {w w' : World} (h : Below w.heap.size w w') : Ext w w' := ⟨h.os, h.tape, h.output, h.size, fun k hk _ => h.block k hk⟩
theorem Keep.of_below {B : Nat} {w w' : World} (h : Below B w w') : Keep (· < B) w w' := ⟨h.os, h.tape, h.output, h.size, fun k _ hk => h.block k hk⟩
theorem Keep.grown {w w' : World} {row : Option Nat} (h : w.grownBy w' row) : Keep (fun k => some k ≠ row) w w' := ⟨h.os, h.tape, h.output, h.size, fun k hk hs => h.block k hk hs⟩
theorem ext_drew (w : World) : Ext w w.drew := ⟨rfl, rfl, rfl, Nat.le_refl _, fun _ _ _ => rfl⟩
theorem ext_alloc (w : World) (o : Obj) : Ext w (w.alloc o) := Ext.of_below ((Below.refl _ w).alloc (Nat.le_refl _) o)
theorem Keep.cell {S : Nat → Prop} {w w' : World} (h : Keep S w w') {ad : Addr} {v : Value} (hc : w.cell? ad = some v) (hs : S ad.block) : w'.cell? ad = some v :=
  (World.cell?_of_block (w := w) (h.block _ (World.block_lt_of_cell? w _ hc) hs)).trans hc
theorem Ext.cell {w w' : World} (h : Ext w w') {ad : Addr} {v : Value} (hc : w.cell? ad = some v) : w'.cell? ad = some v := Keep.cell h hc trivial

theorem Keep.store {w0 w w' : World} {b : Nat} (h : Ext w0 w) (hk : Keep (· ≠ b) w w') (hb : w0.heap.size ≤ b) : Ext w0 w' :=
  ⟨hk.os.trans h.os, hk.tape.trans h.tape, hk.output.trans h.output, Nat.le_trans h.size hk.size, fun k hk' _ => (hk.block k (Nat.lt_of_lt_of_le hk' h.size) (by omega)).trans (h.block k hk' trivial)⟩
/-- A step that turns one row of the call's own. -/
theorem Keep.rowed {w0 w w' : World} {row : Option Nat} (h : Ext w0 w) (hk : Keep (fun k => some k ≠ row) w w') (hb : ∀ b, row = some b → w0.heap.size ≤ b) : Ext w0 w' :=
  ⟨hk.os.trans h.os, hk.tape.trans h.tape, hk.output.trans h.output, Nat.le_trans h.size hk.size, fun k hk' _ => (hk.block k (Nat.lt_of_lt_of_le hk' h.size) (fun e => by have := hb k e.symm; omega)).trans (h.block k hk' trivial)⟩
/-- Block b: cells cs, of type t, not frozen. -/
def Blk (w : World) (b : Nat) (cs : List Value) (t : TypeId) : Prop := w.heap[b]? = some (.cells cs.toArray t (0, 0))
section
variable {w w' : World} {b o : Nat} {cs : List Value} {t : TypeId} {v u : Value}
theorem Blk.lt (h : Blk w b cs t) : b < w.heap.size := (Array.getElem?_eq_some_iff.1 h).1
theorem Blk.keep {S : Nat → Prop} (h : Blk w b cs t) (hk : Keep S w w') (hs : S b) : Blk w' b cs t := (hk.block b h.lt hs).trans h
theorem Blk.ext (h : Blk w b cs t) (hk : Ext w w') : Blk w' b cs t := h.keep hk trivial
theorem Blk.cell (h : Blk w b cs t) (hc : cs[o]? = some v) : w.cell? ⟨b, o, none⟩ = some v := by
  rw [cell_of_row w b o _ t (0, 0) h]; simpa using hc
theorem Blk.free (h : Blk w b cs t) : w.frozen? ⟨b, o, none⟩ = false := frozen_of_row w b o _ t h
theorem blk_new (w : World) (cs : List Value) (t : TypeId) : Blk (w.alloc (.cells cs.toArray t)) w.heap.size cs t := heap_alloc_new w _
theorem Blk.set (h : Blk w b cs t) (o : Nat) (v : Value) : Blk (w.setCell ⟨b, o, none⟩ v) b (cs.set o v) t := by
  have := heap_setCell_same w b o cs.toArray t v h
  unfold Blk; rw [this]; simp
theorem keep_set (w : World) (b o : Nat) (v : Value) : Keep (· ≠ b) w (w.setCell ⟨b, o, none⟩ v) :=
  ⟨rfl, rfl, rfl, by simp, fun k _ hk => heap_setCell_other w ⟨b, o, none⟩ k v hk⟩
end
theorem add_mk (b o j : Nat) : (⟨b, o, none⟩ : Addr).add j = ⟨b, o + j, none⟩ := by unfold Addr.add; split <;> simp_all

/-! ### types -/
def Flat (P : Program) (t : TypeId) : Prop := ∀ w, (isAgg t).run P w = .ok false w ∧ (sizeOf t).run P w = .ok 1 w
def Agg (P : Program) (t : TypeId) (k : Nat) : Prop := ∀ w, (isAgg t).run P w = .ok true w ∧ (sizeOf t).run P w = .ok k w
def Siz (P : Program) (t : TypeId) (k : Nat) : Prop := ∀ w, (sizeOf t).run P w = .ok k w
section
variable {P : Program} {t : TypeId} {k : Nat}
theorem siz_of (hi : (P.info? t).map (·.size) = some k) : Siz P t k := fun w => by
  cases hq : P.info? t with
  | none => simp [hq] at hi
  | some i => simp [hq] at hi; simp [sizeOf, typeInfo, hq, hi]
theorem flat_of {d : TypeDesc} (hu : P.underlying t = some d) (hd : (match d with | .struct _ | .array _ _ => true | _ => false) = false) (hi : (P.info? t).map (·.size) = some 1) : Flat P t := fun w => by
  refine ⟨?_, siz_of hi w⟩
  unfold isAgg
  rw [Sem.run_bind, run_underlying hu w]
  cases d <;> simp_all
theorem agg_of {d : TypeDesc} (hu : P.underlying t = some d) (hd : (match d with | .struct _ | .array _ _ => true | _ => false) = true) (hi : (P.info? t).map (·.size) = some k) : Agg P t k := fun w => by
  refine ⟨?_, siz_of hi w⟩
  unfold isAgg
  rw [Sem.run_bind, run_underlying hu w]
  cases d <;> simp_all
theorem Flat.siz (h : Flat P t) : Siz P t 1 := fun w => (h w).2
theorem Agg.siz (h : Agg P t k) : Siz P t k := fun w => (h w).2
end

section
variable {P : Program} {m : Nat} {D : List Deferred} {L : Env} {w w' : World} {ty t e : TypeId} {x y z : Operand} {v u : Value} {k : Nat}
/-! ### operations that touch no memory -/
theorem x_move (hx : ev L x = some v) : Xv P m D L (.move x) ty w v w := ⟨nofun, fun _ _ _ _ a h => by simp [execOp, h.ev hx]⟩
theorem x_assign (hx : ev L x = some v) : Xv P m D L (.assign x) ty w v w := ⟨nofun, fun _ _ _ _ a h => by simp [execOp, h.ev hx]⟩
theorem x_pick {b : Bool} (hc : ev L z = some (.bool b)) (hx : ev L x = some u) (hy : ev L y = some v) : Xv P m D L (.pick z x y) ty w (if b then u else v) w :=
  ⟨nofun, fun _ _ _ _ a h => by simp [execOp, h.ev hc, h.ev hx, h.ev hy, asBool]⟩
theorem x_pickT (hc : ev L z = some (.bool true)) (hx : ev L x = some u) : Xv P m D L (.pick z x y) ty w u w :=
  ⟨nofun, fun _ _ _ _ a h => by simp [execOp, h.ev hc, h.ev hx, asBool]⟩
theorem x_pickF (hc : ev L z = some (.bool false)) (hx : ev L y = some u) : Xv P m D L (.pick z x y) ty w u w :=
  ⟨nofun, fun _ _ _ _ a h => by simp [execOp, h.ev hc, h.ev hx, asBool]⟩
theorem x_not {b : Bool} (hx : ev L x = some (.bool b)) : Xv P m D L (.unOp .not t x) ty w (.bool (!b)) w :=
  ⟨nofun, fun _ _ _ _ a h => by simp [execOp, h.ev hx, Op.unary]⟩
theorem x_extract {vs : Array Value} {i : Nat} (hx : ev L x = some (.tuple vs)) (hi : vs[i]? = some v) : Xv P m D L (.extract x i) ty w v w :=
  ⟨nofun, fun _ _ _ _ a h => by simp [execOp, h.ev hx, Instr.extract, hi]⟩
section
variable {q : IntKind} {i j : Int} {t' : TypeId}
theorem x_lss (hx : ev L x = some (.int q i)) (hy : ev L y = some (.int q j)) : Xv P m D L (.binOp .lss t x y t') ty w (.bool (decide (i < j))) w :=
  ⟨nofun, fun _ _ _ _ a h => by simp [execOp, h.ev hx, h.ev hy, eqGuard, binOp, Op.intCmp]⟩
theorem x_leq (hx : ev L x = some (.int q i)) (hy : ev L y = some (.int q j)) : Xv P m D L (.binOp .leq t x y t') ty w (.bool (decide (i ≤ j))) w :=
  ⟨nofun, fun _ _ _ _ a h => by simp [execOp, h.ev hx, h.ev hy, eqGuard, binOp, Op.intCmp]⟩
theorem x_gtr (hx : ev L x = some (.int q i)) (hy : ev L y = some (.int q j)) : Xv P m D L (.binOp .gtr t x y t') ty w (.bool (decide (j < i))) w :=
  ⟨nofun, fun _ _ _ _ a h => by simp [execOp, h.ev hx, h.ev hy, eqGuard, binOp, Op.intCmp]⟩
theorem x_geq (hx : ev L x = some (.int q i)) (hy : ev L y = some (.int q j)) : Xv P m D L (.binOp .geq t x y t') ty w (.bool (decide (j ≤ i))) w :=
  ⟨nofun, fun _ _ _ _ a h => by simp [execOp, h.ev hx, h.ev hy, eqGuard, binOp, Op.intCmp]⟩
theorem x_eql (hx : ev L x = some (.int q i)) (hy : ev L y = some (.int q j)) : Xv P m D L (.binOp .eql t x y t') ty w (.bool (decide (i = j))) w :=
  ⟨nofun, fun _ _ _ _ a h => by simp [execOp, h.ev hx, h.ev hy, eqGuard, binOp, Op.intCmp]; rfl⟩
theorem x_neq (hx : ev L x = some (.int q i)) (hy : ev L y = some (.int q j)) : Xv P m D L (.binOp .neq t x y t') ty w (.bool (decide (i ≠ j))) w :=
  ⟨nofun, fun _ _ _ _ a h => by
    simp only [execOp, h.ev hx, h.ev hy]
    by_cases e : i = j <;> simp [eqGuard, binOp, Op.intCmp, e]⟩
theorem x_add {r : Int} (hx : ev L x = some (.int q i)) (hy : ev L y = some (.int q j)) (hr : q.wrap (i + j) = r) : Xv P m D L (.binOp .add t x y t') ty w (.int q r) w :=
  ⟨nofun, fun _ _ _ _ a h => by simp [execOp, h.ev hx, h.ev hy, eqGuard, binOp, Op.intArith, hr]⟩
theorem x_sub {r : Int} (hx : ev L x = some (.int q i)) (hy : ev L y = some (.int q j)) (hr : q.wrap (i - j) = r) : Xv P m D L (.binOp .sub t x y t') ty w (.int q r) w :=
  ⟨nofun, fun _ _ _ _ a h => by simp [execOp, h.ev hx, h.ev hy, eqGuard, binOp, Op.intArith, hr]⟩
theorem x_mul {r : Int} (hx : ev L x = some (.int q i)) (hy : ev L y = some (.int q j)) (hr : q.wrap (i * j) = r) : Xv P m D L (.binOp .mul t x y t') ty w (.int q r) w :=
  ⟨nofun, fun _ _ _ _ a h => by simp [execOp, h.ev hx, h.ev hy, eqGuard, binOp, Op.intArith, hr]⟩
theorem x_inc {s : Nat} (hx : ev L x = some (.int .i64 s)) (hs : s < 4611686018427387904) : Xv P m D L (.binOp .add t x (.const (.int .i64 1)) t') ty w (.int .i64 ((s + 1 : Nat) : Int)) w :=
  x_add hx rfl (by rw [IntWalk.i64_in _ (by omega)]; omega)
theorem x_decr {s : Nat} (hx : ev L x = some (.int .i64 ((s + 1 : Nat) : Int))) (hs : s < 4611686018427387904) : Xv P m D L (.binOp .sub t x (.const (.int .i64 1)) t') ty w (.int .i64 (s : Int)) w :=
  x_sub hx rfl (by rw [IntWalk.i64_in _ (by omega)]; omega)
theorem x_adds {r : Int} (hx : ev L x = some (.int .i64 i)) (hy : ev L y = some (.int .i64 j)) (h0 : -9223372036854775808 ≤ i + j) (h1 : i + j ≤ 9223372036854775807) (hr : i + j = r) : Xv P m D L (.binOp .add t x y t') ty w (.int .i64 r) w :=
  x_add hx hy (by rw [IntWalk.i64_in _ (by omega), hr])
theorem x_addn {i j : Nat} (hx : ev L x = some (.int .i64 i)) (hy : ev L y = some (.int .i64 j)) (h : i + j < 4611686018427387904) : Xv P m D L (.binOp .add t x y t') ty w (.int .i64 ((i + j : Nat) : Int)) w :=
  x_add hx hy (by rw [IntWalk.i64_in _ (by omega)]; omega)
theorem x_subn {i j : Nat} (hx : ev L x = some (.int .i64 i)) (hy : ev L y = some (.int .i64 j)) (h0 : j ≤ i) (h : i < 4611686018427387904) : Xv P m D L (.binOp .sub t x y t') ty w (.int .i64 ((i - j : Nat) : Int)) w :=
  x_sub hx hy (by rw [IntWalk.i64_in _ (by omega)]; omega)
theorem x_subs {r : Int} (hx : ev L x = some (.int .i64 i)) (hy : ev L y = some (.int .i64 j)) (h0 : -9223372036854775808 ≤ i - j) (h1 : i - j ≤ 9223372036854775807) (hr : i - j = r) : Xv P m D L (.binOp .sub t x y t') ty w (.int .i64 r) w :=
  x_sub hx hy (by rw [IntWalk.i64_in _ (by omega), hr])
theorem x_lssT (hx : ev L x = some (.int q i)) (hy : ev L y = some (.int q j)) (hr : i < j) : Xv P m D L (.binOp .lss t x y t') ty w (.bool true) w := by
  have := x_lss (P := P) (m := m) (D := D) (t := t) (t' := t') (ty := ty) (w := w) hx hy; rwa [decide_eq_true hr] at this
theorem x_lssF (hx : ev L x = some (.int q i)) (hy : ev L y = some (.int q j)) (hr : ¬ i < j) : Xv P m D L (.binOp .lss t x y t') ty w (.bool false) w := by
  have := x_lss (P := P) (m := m) (D := D) (t := t) (t' := t') (ty := ty) (w := w) hx hy; rwa [decide_eq_false hr] at this
theorem x_leqT (hx : ev L x = some (.int q i)) (hy : ev L y = some (.int q j)) (hr : i ≤ j) : Xv P m D L (.binOp .leq t x y t') ty w (.bool true) w := by
  have := x_leq (P := P) (m := m) (D := D) (t := t) (t' := t') (ty := ty) (w := w) hx hy; rwa [decide_eq_true hr] at this
theorem x_leqF (hx : ev L x = some (.int q i)) (hy : ev L y = some (.int q j)) (hr : ¬ i ≤ j) : Xv P m D L (.binOp .leq t x y t') ty w (.bool false) w := by
  have := x_leq (P := P) (m := m) (D := D) (t := t) (t' := t') (ty := ty) (w := w) hx hy; rwa [decide_eq_false hr] at this
theorem x_gtrT (hx : ev L x = some (.int q i)) (hy : ev L y = some (.int q j)) (hr : j < i) : Xv P m D L (.binOp .gtr t x y t') ty w (.bool true) w := by
  have := x_gtr (P := P) (m := m) (D := D) (t := t) (t' := t') (ty := ty) (w := w) hx hy; rwa [decide_eq_true hr] at this
theorem x_gtrF (hx : ev L x = some (.int q i)) (hy : ev L y = some (.int q j)) (hr : ¬ j < i) : Xv P m D L (.binOp .gtr t x y t') ty w (.bool false) w := by
  have := x_gtr (P := P) (m := m) (D := D) (t := t) (t' := t') (ty := ty) (w := w) hx hy; rwa [decide_eq_false hr] at this
theorem x_geqT (hx : ev L x = some (.int q i)) (hy : ev L y = some (.int q j)) (hr : j ≤ i) : Xv P m D L (.binOp .geq t x y t') ty w (.bool true) w := by
  have := x_geq (P := P) (m := m) (D := D) (t := t) (t' := t') (ty := ty) (w := w) hx hy; rwa [decide_eq_true hr] at this
theorem x_geqF (hx : ev L x = some (.int q i)) (hy : ev L y = some (.int q j)) (hr : ¬ j ≤ i) : Xv P m D L (.binOp .geq t x y t') ty w (.bool false) w := by
  have := x_geq (P := P) (m := m) (D := D) (t := t) (t' := t') (ty := ty) (w := w) hx hy; rwa [decide_eq_false hr] at this
theorem x_eqlT (hx : ev L x = some (.int q i)) (hy : ev L y = some (.int q j)) (hr : i = j) : Xv P m D L (.binOp .eql t x y t') ty w (.bool true) w := by
  have := x_eql (P := P) (m := m) (D := D) (t := t) (t' := t') (ty := ty) (w := w) hx hy; rwa [decide_eq_true hr] at this
theorem x_eqlF (hx : ev L x = some (.int q i)) (hy : ev L y = some (.int q j)) (hr : ¬ i = j) : Xv P m D L (.binOp .eql t x y t') ty w (.bool false) w := by
  have := x_eql (P := P) (m := m) (D := D) (t := t) (t' := t') (ty := ty) (w := w) hx hy; rwa [decide_eq_false hr] at this
theorem x_neqT (hx : ev L x = some (.int q i)) (hy : ev L y = some (.int q j)) (hr : ¬ i = j) : Xv P m D L (.binOp .neq t x y t') ty w (.bool true) w := by
  have := x_neq (P := P) (m := m) (D := D) (t := t) (t' := t') (ty := ty) (w := w) hx hy; rwa [decide_eq_true hr] at this
theorem x_neqF (hx : ev L x = some (.int q i)) (hy : ev L y = some (.int q j)) (hr : i = j) : Xv P m D L (.binOp .neq t x y t') ty w (.bool false) w := by
  have := x_neq (P := P) (m := m) (D := D) (t := t) (t' := t') (ty := ty) (w := w) hx hy; rwa [decide_eq_false (not_not_intro hr)] at this
end
section
variable {s r : ByteArray} {t' : TypeId}
theorem x_seql (hx : ev L x = some (.string s)) (hy : ev L y = some (.string r)) : Xv P m D L (.binOp .eql t x y t') ty w (.bool (s.toList == r.toList)) w :=
  ⟨nofun, fun _ _ _ _ a h => by simp [execOp, h.ev hx, h.ev hy, eqGuard, binOp, Op.stringOp]⟩
theorem x_sneq (hx : ev L x = some (.string s)) (hy : ev L y = some (.string r)) : Xv P m D L (.binOp .neq t x y t') ty w (.bool (!(s.toList == r.toList))) w :=
  ⟨nofun, fun _ _ _ _ a h => by simp [execOp, h.ev hx, h.ev hy, eqGuard, binOp, Op.stringOp]⟩
theorem x_slss (hx : ev L x = some (.string s)) (hy : ev L y = some (.string r)) : Xv P m D L (.binOp .lss t x y t') ty w (.bool (Op.bytesLess s.toList r.toList)) w :=
  ⟨nofun, fun _ _ _ _ a h => by simp [execOp, h.ev hx, h.ev hy, eqGuard, binOp, Op.stringOp]⟩
theorem x_sgtr (hx : ev L x = some (.string s)) (hy : ev L y = some (.string r)) : Xv P m D L (.binOp .gtr t x y t') ty w (.bool (!(Op.bytesLess s.toList r.toList || s.toList == r.toList))) w :=
  ⟨nofun, fun _ _ _ _ a h => by simp [execOp, h.ev hx, h.ev hy, eqGuard, binOp, Op.stringOp]⟩
theorem x_sgeq (hx : ev L x = some (.string s)) (hy : ev L y = some (.string r)) : Xv P m D L (.binOp .geq t x y t') ty w (.bool (!(Op.bytesLess s.toList r.toList))) w :=
  ⟨nofun, fun _ _ _ _ a h => by simp [execOp, h.ev hx, h.ev hy, eqGuard, binOp, Op.stringOp]⟩
theorem x_sleq (hx : ev L x = some (.string s)) (hy : ev L y = some (.string r)) : Xv P m D L (.binOp .leq t x y t') ty w (.bool (Op.bytesLess s.toList r.toList || s.toList == r.toList)) w :=
  ⟨nofun, fun _ _ _ _ a h => by simp [execOp, h.ev hx, h.ev hy, eqGuard, binOp, Op.stringOp]⟩
theorem x_beql {b c : Bool} (hx : ev L x = some (.bool b)) (hy : ev L y = some (.bool c)) (hu : P.underlying t = some .bool) : Xv P m D L (.binOp .eql t x y t') ty w (.bool (b == c)) w :=
  ⟨nofun, fun _ _ _ _ a h => by simp [execOp, h.ev hx, h.ev hy, eqGuard, run_eql_bool w t b c hu]⟩
theorem x_bneq {b c : Bool} (hx : ev L x = some (.bool b)) (hy : ev L y = some (.bool c)) (hu : P.underlying t = some .bool) : Xv P m D L (.binOp .neq t x y t') ty w (.bool (!(b == c))) w :=
  ⟨nofun, fun _ _ _ _ a h => by simp [execOp, h.ev hx, h.ev hy, eqGuard, binOp, run_equal_bool w t b c hu]⟩
end
/-! ### addresses -/
theorem x_fieldAddr {fs : Array Field} {f : Field} {i b o : Nat} {k' : Nat} (hu : P.underlying t = some (.struct fs)) (hf : fs[i]? = some f) (hs : Siz P f.type (k' + 1)) (hx : ev L x = some (.pointer (some ⟨b, o, none⟩))) :
    Xv P m D L (.fieldAddr t x i) ty w (.pointer (some ⟨b, o + f.offset, none⟩)) w :=
  ⟨nofun, fun _ _ _ _ a h => by simp [execOp, h.ev hx, Instr.fieldAt, run_underlying hu, hf, Instr.sureAddr, fieldPlace, hs w, add_mk]⟩
theorem x_indexAddr {q : IntKind} {i : Int} {b o n c : Nat} (hu : P.underlying t = some (.slice e)) (hs : Siz P e k) (hx : ev L x = some (.slice (some ⟨b, o, none⟩) n c)) (hy : ev L y = some (.int q i)) (h0 : 0 ≤ i) (h1 : i < n) :
    Xv P m D L (.indexAddr t x y) ty w (.pointer (some ⟨b, o + i.toNat * k, none⟩)) w :=
  ⟨nofun, fun _ _ _ _ a h => by simp [execOp, h.ev hx, h.ev hy, Instr.indexAt, asIntOf, run_underlying hu, hs w, h0, h1, add_mk]⟩
theorem x_slice {q1 q2 q3 : IntKind} {lo hi mx : Option Operand} {vl vh vm : Option Value} {A : Option Addr} {n c l h' m' : Nat} (hu : P.underlying t = some (.slice e)) (hs : Siz P e k) (hx : ev L x = some (.slice A n c))
    (hl : ∀ a, Fr m D a L → lo.map a.eval = vl) (hh : ∀ a, Fr m D a L → hi.map a.eval = vh) (hm : ∀ a, Fr m D a L → mx.map a.eval = vm) (hb : (Instr.sliceBounds true n c vl vh vm).run P w = .ok (l, h', m') w) :
    Xv P m D L (.slice t x lo hi mx) ty w (.slice (if m' = l then A else A.map (·.add (l * k))) (h' - l) (m' - l)) w :=
  ⟨nofun, fun _ _ _ _ a h => by simp [execOp, h.ev hx, hl a h, hh a h, hm a h, Instr.sliceAt, Instr.slice, run_underlying hu, hb, hs w]⟩
theorem x_len {A : Option Addr} {n c : Nat} (hu : P.underlying t = some (.slice e)) (hx : ev L x = some (.slice A n c)) : Xv P m D L (.call ⟨.builtin .len, #[x], #[t]⟩) ty w (.int .i64 n) w :=
  ⟨nofun, fun _ _ _ _ a h => by simp [execOp, resolve, h.ev hx, invoke, builtin, Builtin.len_, run_underlying hu, goInt]⟩
theorem x_lens {s : ByteArray} (hu : P.underlying t = some .string) (hx : ev L x = some (.string s)) : Xv P m D L (.call ⟨.builtin .len, #[x], #[t]⟩) ty w (.int .i64 s.size) w :=
  ⟨nofun, fun _ _ _ _ a h => by simp [execOp, resolve, h.ev hx, invoke, builtin, Builtin.len_, run_underlying hu, goInt]⟩
theorem x_makeFunc {f : FuncId} {xs : List Operand} {vs : List Value} (hx : evs L xs = some vs) : Xv P m D L (.makeFunc (.func f) #[] xs.toArray) ty w (.func (.func f) #[] vs.toArray) w :=
  ⟨nofun, fun _ _ _ _ a h => by have := h.evs hx; simp only [execOp, this, Instr.makeFunc]; simp⟩
theorem x_nilCheck {ad : Addr} (hx : ev L x = some (.pointer (some ad))) : Xv P m D L (.nilCheck x) ty w (.pointer (some ad)) w :=
  ⟨nofun, fun _ _ _ _ a h => by simp [execOp, h.ev hx]⟩
theorem x_field {cs : Array Value} {fs : Array Field} {f : Field} {i : Nat} (hu : P.underlying t = some (.struct fs)) (hf : fs[i]? = some f) (hs : Flat P f.type) (hx : ev L x = some (.agg cs)) (hv : cs[f.offset]? = some v) :
    Xv P m D L (.field t x i) ty w v w :=
  ⟨nofun, fun _ _ _ _ a h => by simp [execOp, h.ev hx, Instr.field, run_underlying hu, hf, asAgg, part, (hs w).1, hv]⟩

/-! ### memory that is read -/
theorem x_load {ad : Addr} (hf : Flat P t) (hx : ev L x = some (.pointer (some ad))) (hc : w.cell? ad = some v) : Xv P m D L (.load t x) ty w v w :=
  ⟨nofun, fun _ _ _ _ a h => by simp [execOp, h.ev hx, Instr.loadAt, Instr.sureAddr, loadVar, (hf w).1, load, Sem.run, hc]⟩
def Cells (w : World) (b o : Nat) (cs : List Value) : Prop := ∀ j v, cs[j]? = some v → w.cell? ⟨b, o + j, none⟩ = some v
theorem run_loadVar_cells {b o : Nat} {cs : List Value} (ha : Agg P t k) (hc : Cells w b o cs) (hl : cs.length = k) : (loadVar t ⟨b, o, none⟩).run P w = .ok (.agg cs.toArray) w := by
  have hl' : (loadCells ⟨b, o, none⟩ cs.length).run P w = .ok cs.toArray w := run_loadCells_list (P := P) w ⟨b, o, none⟩ cs (fun j v hv => by rw [add_mk]; exact hc j v hv)
  simp [loadVar, (ha w).1, (ha w).2, ← hl, hl']
theorem x_loadA {b o : Nat} {cs : List Value} (ha : Agg P t k) (hx : ev L x = some (.pointer (some ⟨b, o, none⟩))) (hc : Cells w b o cs) (hl : cs.length = k) : Xv P m D L (.load t x) ty w (.agg cs.toArray) w :=
  ⟨nofun, fun _ _ _ _ a h => by simp [execOp, h.ev hx, Instr.loadAt, Instr.sureAddr, run_loadVar_cells ha hc hl]⟩
theorem Blk.cells {b : Nat} {cs : List Value} (h : Blk w b cs t) : Cells w b 0 cs := fun j v hv => by rw [Nat.zero_add]; exact h.cell hv

/-! ### a call of a Go function -/
theorem x_call {f : FuncId} {xs : List Operand} {vs : List Value} {ts : Array TypeId} (he : Enters P f) (hx : evs L xs = some vs) : Xc P m D L (.call ⟨.value (.func f), xs.toArray, ts⟩) ty w f vs.toArray w :=
  ⟨nofun, fun _ _ _ _ a h => by
    have h1 := h.evs hx
    simp only [execOp, resolve, h1]
    simpa [Act.eval, Deferred.ofValue, invoke] using he vs.toArray w⟩
theorem x_callv {f : FuncId} {fo : Operand} {xs : List Operand} {vs cap : List Value} {ts : Array TypeId} (he : Enters P f) (hf : ev L fo = some (.func (.func f) #[] cap.toArray)) (hx : evs L xs = some vs) :
    Xc P m D L (.call ⟨.value fo, xs.toArray, ts⟩) ty w f (vs ++ cap).toArray w :=
  ⟨nofun, fun _ _ _ _ a h => by
    have h1 := h.evs hx
    have h2 := h.ev hf
    simp only [execOp, resolve, h1, h2]
    simpa [Deferred.ofValue, invoke] using he (vs ++ cap).toArray w⟩
end

/-! ### memory that is made or written: the walk goes on in whatever world it leaves -/
section
variable {F : Fence} {n : Nat} {P : Program} {Q : Exit → Act → World → Prop} {m : Nat} {D : List Deferred} {L : Env} {w w' : World} {a : Act}
variable {ops : List Oper} {rest : List Oper} {d : Nat} {ty t e : TypeId} {pos : String} {af : Array Edge} {g : Option (Nat × Bool)} {v : Value} {x y : Operand}
theorem wl_alloc {cs : List Value} {z : Value} (hW : Wd F) (hg : wants L ops g = some true) (hd : Nat.blt d m = true) (hz : ∀ w, (zeroValue t).run P w = .ok z w) (hcs : z.cells = cs.toArray)
    (k : ∀ b w', w.heap.size ≤ b → Blk w' b cs t → Ext w w' → WL F n P Q m D ops rest ((d, .pointer (some ⟨b, 0, none⟩)) :: L) w') : WL F n P Q m D ops (⟨some d, .alloc t, ty, pos, af, g⟩ :: rest) L w :=
  wl_val hW hg hd ⟨nofun, fun _ _ _ _ a h => by
    simp only [execOp, Instr.alloc, Sem.run_bind, hz w, Result.andThen_ok, newVar, newRow, newObj, Sem.run, Sem.run_pure, hcs]
    rfl⟩ (k w.heap.size _ (Nat.le_refl _) (blk_new w cs t) (ext_alloc w _))
theorem wl_box {cs : List Value} (hW : Wd F) (hg : wants L ops g = some true) (hd : Nat.blt d m = true) (hx : ev L x = some v) (hcs : v.cells = cs.toArray)
    (k : ∀ b w', w.heap.size ≤ b → Blk w' b cs t → Ext w w' → WL F n P Q m D ops rest ((d, .pointer (some ⟨b, 0, none⟩)) :: L) w') : WL F n P Q m D ops (⟨some d, .box t x, ty, pos, af, g⟩ :: rest) L w :=
  wl_val hW hg hd ⟨nofun, fun _ _ _ _ a h => by
    simp only [execOp, h.ev hx, Instr.box, Sem.run_bind, newVar, newRow, newObj, Sem.run, Sem.run_pure, Result.andThen_ok, hcs]
    rfl⟩ (k w.heap.size _ (Nat.le_refl _) (blk_new w cs t) (ext_alloc w _))
/-- One cell of a block of the call's own is written. -/
theorem wl_store {b o : Nat} {cs : List Value} {T : TypeId} (hW : Wd F) (hg : wants L ops g = some true) (hf : Flat P t) (hx : ev L x = some (.pointer (some ⟨b, o, none⟩))) (hy : ev L y = some v) (h1 : v.oneCell' = true)
    (hB : Blk w b cs T) (ho' : Nat.blt o cs.length = true) (k : ∀ w', Blk w' b (cs.set o v) T → Keep (· ≠ b) w w' → WL F n P Q m D ops rest L w') : WL F n P Q m D ops (⟨none, .store t x y, ty, pos, af, g⟩ :: rest) L w := by
  have ho : o < cs.length := by simpa using ho'
  refine wl_none hW hg (w' := w.setCell ⟨b, o, none⟩ v) ⟨nofun, fun _ _ _ _ a h => ?_⟩ (k _ (hB.set o v) (keep_set w b o v))
  have hc : w.cell? ⟨b, o, none⟩ = some cs[o] := hB.cell (List.getElem?_eq_getElem ho)
  have hfz := hB.free (o := o)
  have hcs : v.cells = #[v] := by cases v <;> simp_all [Value.cells, Value.oneCell']
  have hst : (store (⟨b, o, none⟩ : Addr) v .plain).run P w = .ok () (w.setCell ⟨b, o, none⟩ v) := by
    cases v <;> simp_all [store, Sem.run, Value.oneCell']
  have ha : (⟨b, o, none⟩ : Addr).add 0 = ⟨b, o, none⟩ := by simp [Addr.add]
  simp [execOp, h.ev hx, h.ev hy, Instr.storeAt, Instr.sureAddr, storeVar, (hf w).2, hcs, storeCells, ha, hst]
theorem run_storeCells {T : TypeId} {b : Nat} : ∀ (new : List Value) (o i : Nat) (cs : List Value) (w : World), Blk w b cs T → o + i + new.length ≤ cs.length → (∀ u ∈ new, u.oneCell' = true) →
    ∃ w', (storeCells ⟨b, o, none⟩ new i).run P w = .ok () w' ∧ Blk w' b (cs.take (o + i) ++ new ++ cs.drop (o + i + new.length)) T ∧ Keep (· ≠ b) w w' ∧ w'.heap.size = w.heap.size
  | [], o, i, cs, w, hB, hl, _ => ⟨w, by simp [storeCells], by simpa using hB, Keep.refl _ _, rfl⟩
  | u :: new, o, i, cs, w, hB, hl, h1 => by
    simp only [List.length_cons] at hl
    have hu : u.oneCell' = true := h1 u (by simp)
    have hlt : o + i < cs.length := by omega
    have hc : w.cell? ⟨b, o + i, none⟩ = some cs[o + i] := hB.cell (List.getElem?_eq_getElem hlt)
    have hfz := hB.free (o := o + i)
    have hst : (store (⟨b, o + i, none⟩ : Addr) u .plain).run P w = .ok () (w.setCell ⟨b, o + i, none⟩ u) := by
      cases u <;> simp_all [store, Sem.run, Value.oneCell']
    obtain ⟨w', hr, hB', hk, hsz⟩ := run_storeCells new o (i + 1) (cs.set (o + i) u) (w.setCell ⟨b, o + i, none⟩ u) (hB.set (o + i) u) (by simp; omega) (fun x hx => h1 x (by simp [hx]))
    refine ⟨w', ?_, ?_, (keep_set w b (o + i) u).trans hk, by rw [hsz]; simp⟩
    · simp only [storeCells, Sem.run_bind, add_mk, hst, Result.andThen_ok, hr]
    · have e : cs.take (o + i) ++ (u :: new) ++ cs.drop (o + i + (new.length + 1)) = (cs.set (o + i) u).take (o + (i + 1)) ++ new ++ (cs.set (o + i) u).drop (o + (i + 1) + new.length) := by
        have e1 : (cs.set (o + i) u).take (o + (i + 1)) = cs.take (o + i) ++ [u] := by
          rw [show o + (i + 1) = (o + i) + 1 from by omega, List.take_succ_eq_append_getElem (by simpa using hlt)]
          simp [List.take_set_of_le]
        have e2 : (cs.set (o + i) u).drop (o + (i + 1) + new.length) = cs.drop (o + i + (new.length + 1)) := by
          rw [List.drop_set_of_lt (by omega)]; congr 1; omega
        rw [e1, e2]; simp
      rw [List.length_cons, e]; exact hB'
/-- Several cells of a block of the call's own are written. -/
theorem wl_storeA {b o k' : Nat} {cs new : List Value} {T : TypeId} (hW : Wd F) (hg : wants L ops g = some true) (ha : Agg P t k') (hx : ev L x = some (.pointer (some ⟨b, o, none⟩))) (hy : ev L y = some (.agg new.toArray)) (h1 : new.all Value.oneCell' = true)
    (hl : new.length = k') (hB : Blk w b cs T) (ho' : Nat.ble (o + new.length) cs.length = true) (k : ∀ w', Blk w' b (cs.take o ++ new ++ cs.drop (o + new.length)) T → Keep (· ≠ b) w w' → WL F n P Q m D ops rest L w') : WL F n P Q m D ops (⟨none, .store t x y, ty, pos, af, g⟩ :: rest) L w := by
  have ho : o + new.length ≤ cs.length := Nat.le_of_ble_eq_true ho'
  obtain ⟨w', hr, hB', hk, hsz⟩ := run_storeCells (P := P) new o 0 cs w hB (by omega) (List.all_eq_true.1 h1)
  refine wl_none hW hg (w' := w') ⟨nofun, fun _ _ _ _ a h => ?_⟩ (k _ hB' hk)
  simp [execOp, h.ev hx, h.ev hy, Instr.storeAt, Instr.sureAddr, storeVar, (ha w).2, Value.cells, hl, hr]
theorem x_nilEq {A : Option Addr} {nn c : Nat} {t' : TypeId} (hu : P.underlying t = some (.slice e)) (hx : ev L x = some (.slice A nn c)) (hy : ev L y = some (.slice none 0 0)) : Xv P m D L (.binOp .eql t x y t') ty w (.bool A.isNone) w :=
  ⟨nofun, fun _ _ _ _ a h => by
    have h1 : (binOp .eql t (.slice A nn c) (.slice none 0 0)).run P w = .ok (.bool A.isNone) w := by
      simp only [binOp]
      simp [Op.equal, Op.maxDepth, Lib.run_equalIn_slice_nil w 9999 t e A nn c 0 0 hu]
    simp [execOp, h.ev hx, h.ev hy, eqGuard, h1]⟩
theorem foldl_splice (off : Nat) : ∀ (new : List Value) (j : Nat) (cs : Array Value), off + j + new.length ≤ cs.size →
    ((new.zipIdx j).foldl (fun (cs : Array Value) (p : Value × Nat) => cs.setIfInBounds (off + p.2) p.1) cs).toList = cs.toList.take (off + j) ++ new ++ cs.toList.drop (off + j + new.length)
  | [], j, cs, _ => by simp
  | u :: new, j, cs, h => by
    simp only [List.length_cons] at h
    simp only [List.zipIdx_cons, List.foldl_cons]
    rw [foldl_splice off new (j + 1) _ (by simp; omega)]
    have hlt : off + j < cs.toList.length := by simp; omega
    rw [Array.toList_setIfInBounds]
    have e1 : (cs.toList.set (off + j) u).take (off + (j + 1)) = cs.toList.take (off + j) ++ [u] := by
      rw [show off + (j + 1) = (off + j) + 1 from by omega, List.take_succ_eq_append_getElem (by simpa using hlt)]
      simp [List.take_set_of_le]
    have e2 : (cs.toList.set (off + j) u).drop (off + (j + 1) + new.length) = cs.toList.drop (off + j + (new.length + 1)) := by
      rw [List.drop_set_of_lt (by omega)]; congr 1; omega
    rw [e1, e2]; simp
def allCells : List Value → List Value
  | [] => []
  | v :: vs => v.cells.toList ++ allCells vs
def withIdx : Nat → List Value → List (Nat × Value)
  | _, [] => []
  | i, v :: vs => (i, v) :: withIdx (i + 1) vs
theorem fill_all (sz : Nat) : ∀ (vs : List Value) (i : Nat) (pre suf : List Value), (∀ v ∈ vs, v.cells.size = sz) → pre.length = i * sz → suf.length = vs.length * sz →
    Instr.fill (fun i => some (i * sz, sz)) (pre ++ suf).toArray (withIdx i vs) = some (pre ++ allCells vs).toArray
  | [], i, pre, suf, _, _, hs => by
    have : suf = [] := List.eq_nil_of_length_eq_zero (by simpa using hs)
    subst this; rfl
  | v :: vs, i, pre, suf, hv, hp, hs => by
    have hsz : v.cells.size = sz := hv v (by simp)
    have hsl : sz ≤ suf.length := by rw [hs, List.length_cons]; exact Nat.le_mul_of_pos_left _ (by omega)
    simp only [withIdx, Instr.fill]
    rw [if_neg (by simp [hsz]; omega)]
    have hsp := foldl_splice (i * sz) v.cells.toList 0 (pre ++ suf).toArray (by simp [hsz]; omega)
    have e : (v.cells.zipIdx.foldl (fun cs x => cs.setIfInBounds (i * sz + x.2) x.1) (pre ++ suf).toArray) = (pre ++ v.cells.toList ++ suf.drop sz).toArray := by
      apply Array.ext'
      rw [← Array.foldl_toList, Array.toList_zipIdx]
      rw [hsp]
      simp only [Nat.add_zero, Array.length_toList, hsz, List.take_append_of_le_length (Nat.le_of_eq hp.symm), ← hp, List.take_length, List.drop_append]
      simp
    have e' : (v.cells.zipIdx.foldl (fun cs (x : Value × Nat) => match x with | (c, j) => cs.setIfInBounds (i * sz + j) c) (pre ++ suf).toArray) = (pre ++ v.cells.toList ++ suf.drop sz).toArray := e
    rw [e', fill_all sz vs (i + 1) (pre ++ v.cells.toList) (suf.drop sz) (fun u hu => hv u (by simp [hu])) (by simp [hp, hsz, Nat.add_mul]) (by simp [hs, Nat.add_mul])]
    simp [allCells]
/-- A slice literal. -/
theorem run_buildSlice {vs : List Value} {sz : Nat} (hu : P.underlying t = some (.slice e)) (hs : Siz P e sz) (hz : ∃ z, ∀ w, (zeroValue e).run P w = .ok z w) (hv : ∀ v ∈ vs, v.cells.size = sz) (hmax : vs.length * sz ≤ 16777216) :
    (Instr.buildSlice t vs.length (withIdx 0 vs).toArray).run P w = .ok (.slice (some ⟨w.heap.size, 0, none⟩) vs.length vs.length) (w.alloc (.cells (allCells vs).toArray e)) := by
  obtain ⟨z, hz⟩ := hz
  have hf : ∀ cs : Array Value, cs.size = vs.length * sz → Instr.fill (fun i => some (i * sz, sz)) cs (withIdx 0 vs) = some (allCells vs).toArray := fun cs hc => by
    have := fill_all sz vs 0 [] cs.toList hv (by simp) (by simpa using hc)
    simpa using this
  have hnot : ¬ vs.length * sz > 2 ^ 24 := by omega
  simp only [Instr.buildSlice, Sem.run_bind, run_underlying hu, Result.andThen_ok, hs w, if_neg hnot, Sem.run_pure]
  by_cases h0 : vs.length * sz = 0
  · rw [if_pos h0]
    have hf' := fun (zero : Array Value) => hf ((Array.range (vs.length * sz)).map fun x => zero[x % zero.size]!) (by simp)
    simp [hf', newRow, newObj, Sem.run_bind, Sem.run]
    try rfl
  · rw [if_neg h0]
    have hf' := fun (zero : Array Value) => hf ((Array.range (vs.length * sz)).map fun x => zero[x % zero.size]!) (by simp)
    simp [hz w, hf', newRow, newObj, Sem.run_bind, Sem.run]
    try rfl
def partsOk (L : Env) : Nat → List (Nat × Operand) → Option (List Value)
  | _, [] => some []
  | i, (j, x) :: l => if Nat.beq i j then match ev L x, partsOk L (i + 1) l with
      | some v, some vs => some (v :: vs)
      | _, _ => none
    else none
theorem parts_eq (h : Fr m D a L) : ∀ (l : List (Nat × Operand)) (i : Nat) (vs : List Value), partsOk L i l = some vs → l.map (fun p => (p.1, a.eval p.2)) = withIdx i vs
  | [], i, vs, he => by simp [partsOk] at he; subst he; rfl
  | (j, x) :: l, i, vs, he => by
    simp only [partsOk] at he
    split at he
    · rename_i hb
      split at he
      · rename_i v us h1 h2
        cases he
        have e := Nat.eq_of_beq_eq_true hb
        subst e
        simp only [List.map_cons, h.ev h1, parts_eq h l (i + 1) us h2, withIdx]
      · cases he
    · cases he
theorem x_buildSlice {vs : List Value} {sz len : Nat} {parts : List (Nat × Operand)} {z : Value} (hu : P.underlying t = some (.slice e)) (hs : Siz P e sz) (hz : ∀ w, (zeroValue e).run P w = .ok z w)
    (hp : partsOk L 0 parts = some vs) (hlen : vs.length = len) (hv : (vs.all fun v => Nat.beq v.cells.size sz) = true) (hmax : len * sz ≤ 16777216) :
    ∃ b w', Xv P m D L (.buildSlice t len parts.toArray) ty w (.slice (some ⟨b, 0, none⟩) len len) w' ∧ w.heap.size ≤ b ∧ Blk w' b (allCells vs) e ∧ Ext w w' := by
  subst hlen
  refine ⟨w.heap.size, _, ⟨nofun, fun dd pp aa gg a h => ?_⟩, Nat.le_refl _, blk_new w (allCells vs) e, ext_alloc w _⟩
  have e1 : (parts.toArray.map fun (p : Nat × Operand) => (p.1, a.eval p.2)) = (withIdx 0 vs).toArray := by rw [List.map_toArray, parts_eq h parts 0 vs hp]
  have hr := run_buildSlice (P := P) (w := w) (vs := vs) hu hs ⟨z, hz⟩ (fun v hv' => Nat.eq_of_beq_eq_true (List.all_eq_true.1 hv v hv')) hmax
  have e2 : execOp a.eval ⟨dd, .buildSlice t vs.length parts.toArray, ty, pp, aa, gg⟩ = (do pure (Next.value (← Instr.buildSlice t vs.length (parts.toArray.map fun (p : Nat × Operand) => (p.1, a.eval p.2))))) := rfl
  rw [e2, e1]
  simp [Sem.run_bind, hr]
theorem wl_buildSlice {vs : List Value} {sz len : Nat} {parts : List (Nat × Operand)} {z : Value} (hW : Wd F) (hg : wants L ops g = some true) (hd : Nat.blt d m = true) (hu : P.underlying t = some (.slice e)) (hs : Siz P e sz) (hz : ∀ w, (zeroValue e).run P w = .ok z w)
    (hp : partsOk L 0 parts = some vs) (hlen : vs.length = len) (hv : (vs.all fun v => Nat.beq v.cells.size sz) = true) (hmax : len * sz ≤ 16777216)
    (k : ∀ b w', w.heap.size ≤ b → Blk w' b (allCells vs) e → Ext w w' → WL F n P Q m D ops rest ((d, .slice (some ⟨b, 0, none⟩) len len) :: L) w') : WL F n P Q m D ops (⟨some d, .buildSlice t len parts.toArray, ty, pos, af, g⟩ :: rest) L w := by
  subst hlen
  refine wl_val hW hg hd ⟨nofun, fun dd pp aa gg a h => ?_⟩ (k w.heap.size _ (Nat.le_refl _) (blk_new w (allCells vs) e) (ext_alloc w _))
  have e1 : (parts.toArray.map fun (p : Nat × Operand) => (p.1, a.eval p.2)) = (withIdx 0 vs).toArray := by rw [List.map_toArray, parts_eq h parts 0 vs hp]
  have hr := run_buildSlice (P := P) (w := w) (vs := vs) hu hs ⟨z, hz⟩ (fun v hv' => Nat.eq_of_beq_eq_true (List.all_eq_true.1 hv v hv')) hmax
  have e2 : execOp a.eval ⟨dd, .buildSlice t vs.length parts.toArray, ty, pp, aa, gg⟩ = (do pure (Next.value (← Instr.buildSlice t vs.length (parts.toArray.map fun (p : Nat × Operand) => (p.1, a.eval p.2))))) := rfl
  rw [e2, e1]
  simp [Sem.run_bind, hr]
/-- A struct of one-cell fields is built. -/
theorem x_build {fs : Array Field} {parts : List (Nat × Operand)} {pv : List (Nat × Value)} {z : Value} {cs : Array Value} (hu : P.underlying t = some (.struct fs)) (hz : ∀ w, (zeroValue t).run P w = .ok z w)
    (hp : ∀ a, Fr m D a L → parts.map (fun p => (p.1, a.eval p.2)) = pv) (hr : ∀ w, (Instr.build t pv.toArray).run P w = .ok (.agg cs) w) : Xv P m D L (.build t parts.toArray) ty w (.agg cs) w :=
  ⟨nofun, fun _ _ _ _ a h => by
    have e : (parts.toArray.map fun (i, x) => (i, a.eval x)) = pv.toArray := by rw [List.map_toArray, ← hp a h]
    simp only [execOp, e]
    simp [hr w]⟩
end
end Go.Proofs.Ytiaikajibefieaa.K
