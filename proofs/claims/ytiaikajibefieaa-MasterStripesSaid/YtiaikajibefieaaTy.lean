/- Rules for stripes: append of zeros to nothing, remainders, slices made, calls of what is known up to a property; lists one behind the other. -/
import Derived.Test.YtiaikajibefieaaTx
namespace Go.Proofs.Ytiaikajibefieaa.K
open Go Go.RowKit
set_option linter.unusedVariables false
set_option linter.unusedSectionVars false
set_option linter.unusedSimpArgs false
set_option maxRecDepth 100000
section
variable {F : Fence} {n : Nat} {Q : Exit → Act → World → Prop} {m : Nat} {D : List Deferred} {L : Env} {w w' : World} {ops rest : List Oper} {d : Nat} {ty : TypeId} {pos : String} {af : Array Edge} {g : Option (Nat × Bool)} {x y : Operand}
theorem wl_appZ0 {k : Nat} (hW : Wd F) (hg : wants L ops g = some true) (hd : Nat.blt d m = true) (hx : ev L x = some (.slice none 0 0)) (hy : ev L y = some (.int .i64 k)) (h0 : 0 < k) (hsm : k ≤ 1099511627776)
    (kk : ∀ b2 c2 cs2 w', w.heap.size ≤ b2 → Blk w' b2 cs2 3 → cs2.length = c2 → k ≤ c2 → c2 ≤ maxLen → Ext w w' → WL F n Try.prog Q m D ops rest ((d, .slice (some ⟨b2, 0, none⟩) k c2) :: L) w') :
    WL F n Try.prog Q m D ops (⟨some d, .call ⟨.builtin .append, #[x, y], #[25, 3]⟩, ty, pos, af, g⟩ :: rest) L w := by
  obtain ⟨i0, hi0, hz0, hz1, hz2⟩ := info_parts info3
  have hold : (Builtin.firstCells i0.size 0 (.slice none 0 0)).run Try.prog w.drew = .ok ([] : List Value).toArray w.drew := rfl
  have hfit := growslice_fits (need := 0 + k) (old := 0) (bytes := i0.bytes) (by omega) (by rw [hz2]; omega)
  have hr := Lib.run_append_grow_zeros (P := Try.prog) w 25 3 ty 3 i0 _ .i64 .i64 Try.underlying25 Try.underlying3 hi0 hz0 none 0 0 [] hold k h0 (by omega) (by omega) (by omega) (by rw [hz2]; omega) hfit
  have hge := grownCap_ge w (0 + k) 0 3
  have hle := grownCap_le_maxLen w (0 + k) 0 3 (by unfold maxLen; omega)
  obtain ⟨gc, hgc⟩ : ∃ gc, gc = grownCap w (0 + k) 0 3 := ⟨_, rfl⟩
  rw [← hgc, Nat.zero_add] at hr
  rw [← hgc, Nat.zero_add] at hge
  rw [← hgc] at hle
  refine wl_val hW hg hd (v := .slice (some ⟨w.heap.size, 0, none⟩) k gc) (w' := _) ⟨nofun, fun _ _ _ _ a h => ?_⟩ (kk w.heap.size gc ((Builtin.zeroCells (Value.int .i64 0).cells k).toList ++ (Builtin.zeroCells (Value.int .i64 0).cells (gc - k)).toList) (w.drew.alloc (.cells ((Builtin.zeroCells (Value.int .i64 0).cells k).toList ++ (Builtin.zeroCells (Value.int .i64 0).cells (gc - k)).toList).toArray 3)) (Nat.le_refl _) (blk_new w.drew _ 3) ?_ hge hle ((ext_drew w).trans (ext_alloc _ _)))
  · simp only [execOp, resolve, invoke, builtin]
    simp [h.ev hx, h.ev hy]
    simp [hr]
    refine congrArg (fun c => w.drew.alloc (.cells c 3)) ?_
    apply Array.ext'
    simp
  · simp [Builtin.zeroCells, Value.cells]; omega
end
section
variable {P : Program} {m : Nat} {D : List Deferred} {L : Env} {w w' : World} {ty t t' e : TypeId} {x y hi mx : Operand} {sz : Nat}
theorem x_remn {q : IntKind} {i j : Nat} (hx : ev L x = some (.int q (i : Int))) (hy : ev L y = some (.int q (j : Int))) (hj : 0 < j) : Xv P m D L (.binOp .rem t x y t') ty w (.int q ((i % j : Nat) : Int)) w := by
  have h0 : j ≠ 0 := by omega
  exact ⟨nofun, fun _ _ _ _ a h => by simp [execOp, h.ev hx, h.ev hy, eqGuard, binOp, Op.intDiv, h0, Int.tmod_eq_emod_of_nonneg]⟩
theorem sbhmG {len c k : Nat} (h2 : k ≤ c) : (Instr.sliceBounds true len c none (some (.int .i64 (k : Nat))) (some (.int .i64 (k : Nat)))).run P w = .ok (0, k, k) w := by
  simp [Instr.sliceBounds, Instr.sliceBound, asIntOf, h2]
theorem x_slicehm {A : Option Addr} {len c k : Nat} (hu : P.underlying t = some (.slice e)) (hs : Siz P e sz) (hx : ev L x = some (.slice A len c)) (hh : ev L hi = some (.int .i64 k)) (hm : ev L mx = some (.int .i64 k)) (h2 : k ≤ c) :
    Xv P m D L (.slice t x none (some hi) (some mx)) ty w (.slice (if k = 0 then A else A.map (·.add (0 * sz))) (k - 0) (k - 0)) w :=
  x_slice (q1 := .i64) (q2 := .i64) (q3 := .i64) hu hs hx (fun a h => rfl) (fun a h => by simp [h.ev hh]) (fun a h => by simp [h.ev hm]) (sbhmG h2)
end
section
variable {F : Fence} {n : Nat} {P : Program} {Q : Exit → Act → World → Prop} {m : Nat} {D : List Deferred} {L : Env} {w w' w0 : World} {ops rest tail : List Oper} {d : Nat} {ty t e : TypeId} {pos : String} {af : Array Edge} {g : Option (Nat × Bool)} {x y : Operand} {K : Env → List (Nat × VP) → Prop} {V : List (Nat × VP)}
theorem wl_makeSlice {h : Nat} {j : TypeInfo} {z : Value} (hW : Wd F) (hg : wants L ops g = some true) (hd : Nat.blt d m = true) (hu : P.underlying t = some (.slice e)) (hj : P.info? e = some j) (hb : j.bytes ≤ 8) (hs : j.size = 1) (hz : j.zero = some z) (hc : z.cells = #[z])
    (hx : ev L x = some (.int .i64 h)) (hy : ev L y = some (.int .i64 h)) (h1 : h ≤ 4096)
    (k : ∀ b w', w.heap.size ≤ b → Blk w' b (List.replicate h z) e → Ext w w' → WL F n P Q m D ops rest ((d, .slice (some ⟨b, 0, none⟩) h h) :: L) w') : WL F n P Q m D ops (⟨some d, .makeSlice t x y, ty, pos, af, g⟩ :: rest) L w := by
  refine wl_val hW hg hd ⟨nofun, fun _ _ _ _ a hf => ?_⟩ (k w.heap.size _ (Nat.le_refl _) (blk_new w _ e) (ext_alloc w _))
  have h2 := run_make (P := P) w t e j z hu hj hz .i64 .i64 h h (by omega) (by omega) (by have := Nat.mul_le_mul h1 hb; have h9 := Nat.mul_comm h j.bytes; omega) (by omega)
  have h3 : madeCells z.cells ((h : Int).toNat * j.size) = (List.replicate h z).toArray := by
    rw [hc, hs]
    apply Array.ext'
    apply List.ext_getElem?
    intro i
    simp only [madeCells]
    by_cases hi : i < h
    · simp [hi, Nat.mod_one]
    · simp [hi]
  rw [h3] at h2
  simp [execOp, hf.ev hx, hf.ev hy, h2]
/-- A call of what is known up to q; of what it yields p is known. -/
theorem q_callvp {op : Op} {f : FuncId} {args : Value → Array Value} {p q : VP} {s : Nat} (hp : Stable p) (hg : wants L ops g = some true) (hd : Nat.blt d m = true) (hno : at' L d = none) (hs : (s, q) ∈ V) (hlo : s ∈ looks ops ⟨some d, op, ty, pos, af, g⟩)
    (hx : ∀ w' u, Xc P m D ((s, u) :: L) op ty w' f (args u) w')
    (hc : ∀ w' u, Ext w0 w' → q u w' → CallsIn F (n - 1) P f (args u) w' (ok1 fun v w'' => p v w'' ∧ Ext w' w'')) (k : QW F n P m D ops w0 K rest L ((d, p) :: V)) :
    QW F n P m D ops w0 K (⟨some d, op, ty, pos, af, g⟩ :: rest) L V :=
  ⟨d, rfl, hd, .inr ⟨p, hp, hno, fun w' hw a h hvs => by
    obtain ⟨u, hu, hq⟩ := hvs _ hs hlo
    refine .inl ⟨h.wanted (o := ⟨some d, op, ty, pos, af, g⟩) hg, .call f (args u) w' ((hx w' u).2 _ _ _ _ a ⟨h.size, h.defers, fun i v hi => ?_⟩) (hc w' u hw hq)⟩
    rw [at_cons] at hi
    split at hi
    · rename_i e; subst e; cases hi; exact hu
    · exact h.get i v hi, k⟩⟩
theorem q_buildV {vs : List Value} {sz len : Nat} {parts : List (Nat × Operand)} {z : Value} (hg : wants L ops g = some true) (hd : Nat.blt d m = true) (hno : at' L d = none) (hu : P.underlying t = some (.slice e)) (hs : Siz P e sz) (hz : ∀ w, (zeroValue e).run P w = .ok z w)
    (hp : partsOk L 0 parts = some vs) (hlen : vs.length = len) (hv : (vs.all fun v => Nat.beq v.cells.size sz) = true) (hmax : len * sz ≤ 16777216)
    (k : QW F n P m D ops w0 K rest L ((d, fun v w' => ∃ b, v = .slice (some ⟨b, 0, none⟩) len len ∧ Blk w' b (allCells vs) e) :: V)) : QW F n P m D ops w0 K (⟨some d, .buildSlice t len parts.toArray, ty, pos, af, g⟩ :: rest) L V :=
  q_valp (fun v w1 w2 ⟨b, h1, h2⟩ hx => ⟨b, h1, h2.ext hx⟩) hg hd hno (fun w' hw => by
    obtain ⟨b, w'', h1, -, h3, h4⟩ := x_buildSlice (P := P) (m := m) (D := D) (w := w') (ty := ty) (L := L) (parts := parts) hu hs hz hp hlen hv hmax
    exact ⟨_, w'', h1, ⟨b, rfl, h3⟩, h4⟩) k
theorem tailm {p : VP} (hV : (d, p) ∈ V) (k : ∀ w' v, Ext w0 w' → p v w' → WL F n P Q m D ops tail ((d, v) :: L) w') : Tail F n P Q m D ops tail w0 L V := fun w' hw L' hv hs => by
  obtain ⟨v, h1, h2⟩ := hv (d, p) hV
  exact wl_sub (sub_cons h1 hs) (k w' v hw h2)
end
/-! ### two lists, one behind the other -/
def catF (xs ys : List Int) (s : Nat) : List Int := (([xs, ys] : List (List Int)).take s).flatten
theorem cat_succ {xs ys zs : List Int} {s : Nat} (h : ([xs, ys] : List (List Int))[s]? = some zs) : catF xs ys (s + 1) = catF xs ys s ++ zs := by
  unfold catF
  rw [List.take_add_one, h]
  simp
theorem cat_two (xs ys : List Int) : catF xs ys 2 = xs ++ ys := by simp [catF]
theorem cat_le (xs ys : List Int) (s : Nat) : (catF xs ys s).length ≤ xs.length + ys.length := by
  unfold catF
  match s with
  | 0 => simp
  | 1 => simp
  | s + 2 => simp
theorem two_at {A A2 : Nat → Prop} {w : World} {v1 v2 : Value} {xs ys : List Int} (h1 : IRow A w v1 xs) (h2 : IRow A2 w v2 ys) {s : Nat} (hs : s < 2) : ∃ v zs, ([v1, v2] : List Value)[s]? = some v ∧ ([xs, ys] : List (List Int))[s]? = some zs ∧ IRow (fun _ => True) w v zs := by
  match s, hs with
  | 0, _ => exact ⟨v1, xs, rfl, rfl, h1.mono fun _ _ _ => trivial⟩
  | 1, _ => exact ⟨v2, ys, rfl, rfl, h2.mono fun _ _ _ => trivial⟩
def rot (zs : List Int) (k : Nat) : List Int := zs.drop k ++ zs.take k
def stripeE (zs : List Int) (n : Int) : Int := if n < 1 ∨ 255 < n then 1 else if (zs.length : Int) < n then 23 else 0
end Go.Proofs.Ytiaikajibefieaa.K
