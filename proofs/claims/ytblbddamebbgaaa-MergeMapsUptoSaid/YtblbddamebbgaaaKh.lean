/- More steps: slice expressions, bytes copied; groups of equal keys. -/
import Derived.Test.YtblbddamebbgaaaKp
namespace Go.Proofs.Ytblbddamebbgaaa.K
open Go Go.RowKit
set_option linter.unusedVariables false
set_option linter.unusedSectionVars false
set_option linter.unusedSimpArgs false

theorem rt_bodyn {P : Program} {m n : Nat} {w : World} {f : FuncId} {fn : Func} {c : Code} {args : List Value} {R : Value → World → Prop} (hf : P.funcs[f]? = some fn) (hb : fn.body = some c) (hm : fn.ntmps = m) (hl : Nat.ble args.length m = true)
    (k : WC Fence.wide n P (bodyPostM Fence.wide n P fn (ok1 R)) m [] c (env0 0 args) w) : CallsIn Fence.wide n P f args.toArray w (ok1 R) :=
  callsIn_of_wp_marks hf hb trivial (k _ (fr_enter hm hl)) rfl
theorem Ext.grown {w w' : World} (h : Ext w w') : w.grownBy w' none := ⟨h.os, h.tape, h.output, h.size, fun k hk _ => h.block k hk trivial⟩

section
variable {P : Program} {m : Nat} {D : List Deferred} {L : Env} {w w' : World} {ty t e : TypeId} {x lo hi mx : Operand} {k : Nat} {A : Option Addr} {n c i j : Nat}
theorem sb3 (h1 : i ≤ j) (h2 : j ≤ c) : (Instr.sliceBounds true n c (some (.int .i64 i)) (some (.int .i64 j)) (some (.int .i64 j))).run P w = .ok (i, j, j) w := by
  simp [Instr.sliceBounds, Instr.sliceBound, asIntOf, h1, h2]
theorem sb2 (h1 : i ≤ j) (h2 : j ≤ c) : (Instr.sliceBounds true n c (some (.int .i64 i)) (some (.int .i64 j)) none).run P w = .ok (i, j, c) w := by
  simp [Instr.sliceBounds, Instr.sliceBound, asIntOf, h1, h2]
theorem sbh (h2 : j ≤ c) : (Instr.sliceBounds true n c none (some (.int .i64 j)) none).run P w = .ok (0, j, c) w := by
  simp [Instr.sliceBounds, Instr.sliceBound, asIntOf, h2]
theorem sbl (h1 : i ≤ n) : (Instr.sliceBounds true n c (some (.int .i64 i)) none none).run P w = .ok (i, n, c) w := by
  simp [Instr.sliceBounds, Instr.sliceBound, asIntOf, h1]
theorem x_slice3 (hu : P.underlying t = some (.slice e)) (hs : Siz P e k) (hx : ev L x = some (.slice A n c)) (hl : ev L lo = some (.int .i64 i)) (hh : ev L hi = some (.int .i64 j)) (hm : ev L mx = some (.int .i64 j)) (h1 : i ≤ j) (h2 : j ≤ c) :
    Xv P m D L (.slice t x (some lo) (some hi) (some mx)) ty w (.slice (if j = i then A else A.map (·.add (i * k))) (j - i) (j - i)) w :=
  x_slice (q1 := .i64) (q2 := .i64) (q3 := .i64) hu hs hx (fun a h => by simp [h.ev hl]) (fun a h => by simp [h.ev hh]) (fun a h => by simp [h.ev hm]) (sb3 h1 h2)
theorem x_slice2 (hu : P.underlying t = some (.slice e)) (hs : Siz P e k) (hx : ev L x = some (.slice A n c)) (hl : ev L lo = some (.int .i64 i)) (hh : ev L hi = some (.int .i64 j)) (h1 : i ≤ j) (h2 : j ≤ c) :
    Xv P m D L (.slice t x (some lo) (some hi) none) ty w (.slice (if c = i then A else A.map (·.add (i * k))) (j - i) (c - i)) w :=
  x_slice (q1 := .i64) (q2 := .i64) (q3 := .i64) hu hs hx (fun a h => by simp [h.ev hl]) (fun a h => by simp [h.ev hh]) (fun a h => rfl) (sb2 h1 h2)
theorem x_sliceh (hu : P.underlying t = some (.slice e)) (hs : Siz P e k) (hx : ev L x = some (.slice A n c)) (hh : ev L hi = some (.int .i64 j)) (h2 : j ≤ c) :
    Xv P m D L (.slice t x none (some hi) none) ty w (.slice (if c = 0 then A else A.map (·.add (0 * k))) (j - 0) (c - 0)) w :=
  x_slice (q1 := .i64) (q2 := .i64) (q3 := .i64) hu hs hx (fun a h => rfl) (fun a h => by simp [h.ev hh]) (fun a h => rfl) (sbh h2)
theorem x_slicel (hu : P.underlying t = some (.slice e)) (hs : Siz P e k) (hx : ev L x = some (.slice A n c)) (hl : ev L lo = some (.int .i64 i)) (h1 : i ≤ n) :
    Xv P m D L (.slice t x (some lo) none none) ty w (.slice (if c = i then A else A.map (·.add (i * k))) (n - i) (c - i)) w :=
  x_slice (q1 := .i64) (q2 := .i64) (q3 := .i64) hu hs hx (fun a h => by simp [h.ev hl]) (fun a h => rfl) (fun a h => rfl) (sbl h1)
end

/-! ### bytes copied -/
def byteCells (l : List UInt8) : List Value := l.map fun u => .int .u8 u.toNat
theorem run_cloneB {w : World} {b5 : Nat} {y : Value} {l : List UInt8} {A : Nat → Prop} {ty : TypeId} (hB : Blk w b5 [] 5) (hy : Byts A w y l) (hl : l.length ≤ 70368744177664) :
    ∃ v' w', (Builtin.append_ #[23, 23] ty #[.slice (some ⟨b5, 0, none⟩) 0 0, y]).run Try.prog w = .ok v' w' ∧ Byts (fun k => k = b5 ∨ w.heap.size ≤ k) w' v' l ∧ Keep (· ≠ b5) w w' := by
  obtain ⟨i0, hi, hz0, hz1, hz2⟩ := info_parts info5
  obtain ⟨ad, cap, rfl, hcap, hcell⟩ := hy
  have hown : w.ownsRow b5 5 1 (.slice (some ⟨b5, 0, none⟩) 0 0) 0 [] := ⟨rfl, .inr ⟨b5, 0, #[], rfl, Nat.le_refl _, hB, Nat.le_refl _, Nat.zero_le _, rfl, rfl⟩⟩
  cases ad with
  | none =>
    have hl0 : l = [] := by
      cases l with
      | nil => rfl
      | cons u l => obtain ⟨b, o, h, -⟩ := hcell (by simp); cases h
    subst hl0
    refine ⟨.slice (some ⟨b5, 0, none⟩) 0 0, w, ?_, ⟨_, 0, rfl, Nat.le_refl _, fun h => absurd rfl h⟩, Keep.refl _ _⟩
    simp [Builtin.append_, run_underlying Try.underlying23, sizeOf, typeInfo, hi, Builtin.lenOf, Builtin.firstCells, storeCells]
  | some a0 =>
    have hnews : ∀ j u, (byteCells l)[j]? = some u → w.cell? (a0.add j) = some u := fun j u hj => by
      simp only [byteCells, List.getElem?_map] at hj
      cases hlj : l[j]? with
      | none => rw [hlj] at hj; cases hj
      | some x =>
        rw [hlj] at hj
        simp only [Option.map_some, Option.some.injEq] at hj
        obtain ⟨b, o, h, -, hc⟩ := hcell (by intro e; rw [e] at hlj; simp at hlj)
        cases h
        rw [add_mk, hc j x hlj, hj]
    obtain ⟨v', w', hr, ho, hg, -, hat⟩ := run_append_own_at (P := Try.prog) w b5 23 ty 5 i0 _ 1 1 Try.underlying23 hi hz0 hz1 hz2 rfl (by decide) _ 0 [] hown a0 l.length cap (byteCells l) (by simp [byteCells]) hnews
      (fun u hu => by simp only [byteCells, List.mem_map] at hu; obtain ⟨x, -, rfl⟩ := hu; rfl) (by unfold maxLen; omega) (by omega) (Nat.le_of_lt hB.lt)
    rw [Nat.zero_add, List.nil_append] at ho
    have hk : Keep (· ≠ b5) w w' := (Keep.grown hg).mono fun k _ h => by intro e; cases e; exact h rfl
    refine ⟨v', w', hr, ?_, hk⟩
    have h5 := fun g => ho.cells (g := g)
    rcases ho.2 with ⟨rfl, h⟩ | ⟨g, cp, cur, rfl, hb, hgc, hc, -⟩
    · have : l = [] := List.eq_nil_of_length_eq_zero h
      subst this
      exact byts_nil _ _
    · refine ⟨_, cp, rfl, hc, fun _ => ⟨g, 0, rfl, ?_, fun i u hi => ?_⟩⟩
      · rcases hat with h | h
        · cases h; exact .inl rfl
        · cases h; exact .inr (Nat.le_refl _)
      · have := h5 g rfl i (.int .u8 u.toNat) (by simp [byteCells, hi])
        rw [add_mk] at this
        exact this
section
variable {F : Fence} {n : Nat} {Q : Exit → Act → World → Prop} {m : Nat} {D : List Deferred} {L : Env} {w w' : World} {ops rest : List Oper} {d : Nat} {ty : TypeId} {pos : String} {af : Array Edge} {g : Option (Nat × Bool)} {x y : Operand}
theorem wl_cloneB {b5 : Nat} {v : Value} {l : List UInt8} {A : Nat → Prop} (hW : Wd F) (hg : wants L ops g = some true) (hd : Nat.blt d m = true) (hx : ev L x = some (.slice (some ⟨b5, 0, none⟩) 0 0)) (hy : ev L y = some v)
    (hB : Blk w b5 [] 5) (hv : Byts A w v l) (hl : l.length ≤ 70368744177664) (k : ∀ v' w', Byts (fun k => k = b5 ∨ w.heap.size ≤ k) w' v' l → Keep (· ≠ b5) w w' → WL F n Try.prog Q m D ops rest ((d, v') :: L) w') :
    WL F n Try.prog Q m D ops (⟨some d, .call ⟨.builtin .append, #[x, y], #[23, 23]⟩, ty, pos, af, g⟩ :: rest) L w := by
  obtain ⟨v', w', hr, ho, hk⟩ := run_cloneB (ty := ty) hB hv hl
  refine wl_val hW hg hd ⟨nofun, fun _ _ _ _ a h => ?_⟩ (k v' w' ho hk)
  simp [execOp, resolve, h.ev hx, h.ev hy, invoke, builtin, hr]
end

/-! ### groups of equal keys: where each begins, and its entries -/
def grps : Nat → Nat → List Ent → List (Nat × List Ent)
  | 0, _, _ => []
  | _ + 1, _, [] => []
  | f + 1, o, e :: es => (o, e :: es.takeWhile fun x => decide (x.k = e.k)) :: grps f (o + 1 + (es.takeWhile fun x => decide (x.k = e.k)).length) (es.dropWhile fun x => decide (x.k = e.k))
theorem take_drop_while {p : Ent → Bool} : ∀ (es : List Ent) (n : Nat) (hn : n ≤ es.length), (∀ j (h : j < es.length), j < n → p es[j] = true) → (∀ h : n < es.length, p es[n] = false) → es.takeWhile p = es.take n ∧ es.dropWhile p = es.drop n
  | [], n, hn, _, _ => by simp
  | e :: es, 0, _, _, h => by have := h (by simp); simp at this; simp [this]
  | e :: es, n + 1, hn, h1, h2 => by
    have h0 := h1 0 (by simp) (by omega)
    simp only [List.getElem_cons_zero] at h0
    obtain ⟨i1, i2⟩ := take_drop_while es n (by simpa using hn) (fun j h hj => by have := h1 (j + 1) (by simpa using h) (by omega); simpa using this) (fun h => by have := h2 (by simpa using h); simpa using this)
    simp [h0, i1, i2]
/-- The slice that holds a group of what lies from ad on. -/
def gval (ad : Option Addr) (x : Nat × List Ent) : Value := .slice (ad.map (·.add (x.1 * 4))) x.2.length x.2.length
theorem gval_row {A : Nat → Prop} {w : World} {ad : Option Addr} {cap : Nat} {es g pre suf : List Ent} (h : Row A w (.slice ad es.length cap) es) (he : es = pre ++ g ++ suf) : Row A w (gval ad (pre.length, g)) g := by
  obtain ⟨ad', cap', e, h1, h2, h3, h⟩ := h
  cases e
  refine ⟨_, g.length, rfl, Nat.le_refl _, by rw [he] at h2; simp at h2; omega, fun x hx => h3 x (by rw [he]; simp [hx]), fun hne => ?_⟩
  obtain ⟨b, o, rfl, hA, hr⟩ := h (by rw [he]; intro e; simp at e; exact hne e.2.1)
  refine ⟨b, o + pre.length * 4, by simp [add_mk], hA, fun i x hi => ?_⟩
  have hlt := (List.getElem?_eq_some_iff.1 hi).1
  obtain ⟨bv, hc, hb⟩ := hr (pre.length + i) x (by
    rw [he, List.append_assoc, List.getElem?_append_right (by omega), Nat.add_sub_cancel_left, List.getElem?_append_left hlt]; exact hi)
  exact ⟨bv, by rw [show o + pre.length * 4 + i * 4 = o + (pre.length + i) * 4 from by omega]; exact hc, hb⟩
end Go.Proofs.Ytblbddamebbgaaa.K
