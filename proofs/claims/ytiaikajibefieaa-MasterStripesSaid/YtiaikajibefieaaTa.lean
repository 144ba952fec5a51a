/- Rules of no program for the second seat: what is held of cells; slices; scopes; rows of flat structs; append to an empty slice; copy. -/
import Derived.Test.YtiaikajibefieaaGn
import Derived.Test.YtiaikajibefieaaKe
import Derived.AtR
import Derived.Scope
import Derived.Lib.AppendZerosOnto
import Derived.Laws.CopyRow
import Derived.Lib.Overlaps
namespace Go.Proofs.Ytiaikajibefieaa.K
open Go Go.RowKit
set_option linter.unusedVariables false
set_option linter.unusedSectionVars false
set_option linter.unusedSimpArgs false
/-- What is held of cells of A's blocks holds on. -/
def CK (A : Nat → Prop) (w w' : World) : Prop := ∀ ad v, A ad.block → w.cell? ad = some v → w'.cell? ad = some v
theorem CK.of_keep {A S : Nat → Prop} {w w' : World} (h : Keep S w w') (hs : ∀ k, k < w.heap.size → A k → S k) : CK A w w' := fun ad v ha hc => h.cell hc (hs _ (World.block_lt_of_cell? w _ hc) ha)
theorem CK.of_ext {A : Nat → Prop} {w w' : World} (h : Ext w w') : CK A w w' := CK.of_keep h fun _ _ _ => trivial
theorem CK.of_nc {A : Nat → Prop} {B : Nat} {w w' : World} (h : Nc B w w') : CK A w w' := fun _ _ _ hc => h.cell hc

theorem Cells.ck {A : Nat → Prop} {w w' : World} {b o : Nat} {cs : List Value} (h : Cells w b o cs) (hA : A b) (hk : CK A w w') : Cells w' b o cs := fun j v hj => hk _ _ hA (h j v hj)
theorem Cells.ext {w w' : World} {b o : Nat} {cs : List Value} (h : Cells w b o cs) (hx : Ext w w') : Cells w' b o cs := h.ck (A := fun _ => True) trivial (CK.of_ext hx)
theorem hWw : Wd Fence.wide := Wd.wide
theorem hFw : Fence.wide = Fence.wide ∨ ∃ l, Fence.wide = Fence.wide.inRound l := .inl rfl
theorem hFr (l : Nat) : Fence.wide.inRound l = Fence.wide ∨ ∃ l', Fence.wide.inRound l = Fence.wide.inRound l' := .inr ⟨l, rfl⟩
theorem Keep.after {S : Nat → Prop} {w0 w w' : World} (h : Ext w0 w) (hk : Keep S w w') (hs : ∀ k, k < w0.heap.size → S k) : Ext w0 w' :=
  ⟨hk.os.trans h.os, hk.tape.trans h.tape, hk.output.trans h.output, Nat.le_trans h.size hk.size, fun k hlt _ => (hk.block k (Nat.lt_of_lt_of_le hlt h.size) (hs k hlt)).trans (h.block k hlt trivial)⟩
/-- What is seen of a group. -/
theorem Keep.then {S S' : Nat → Prop} {w0 w w' : World} (h : Keep S w0 w) (hk : Keep S' w w') (hs : ∀ k, k < w0.heap.size → S k → S' k) : Keep S w0 w' :=
  ⟨hk.os.trans h.os, hk.tape.trans h.tape, hk.output.trans h.output, Nat.le_trans h.size hk.size, fun k hlt h1 => (hk.block k (Nat.lt_of_lt_of_le hlt h.size) (hs k hlt h1)).trans (h.block k hlt h1)⟩
/-- The first k of a row. -/
theorem Blk.ne {w : World} {b b' : Nat} {cs cs' : List Value} {t t' : TypeId} (h : Blk w b cs t) (h' : Blk w b' cs' t') (ht : t ≠ t') : b ≠ b' := by
  rintro rfl
  unfold Blk at h h'
  rw [h] at h'
  cases h'
  exact ht rfl
section
variable {P : Program} {m : Nat} {D : List Deferred} {L : Env} {w w' : World} {ty t e : TypeId} {x lo hi mx : Operand} {k : Nat} {A : Option Addr} {n c i j : Nat}
theorem sb3 (h1 : i ≤ j) (h2 : j ≤ c) : (Instr.sliceBounds true n c (some (.int .i64 i)) (some (.int .i64 j)) (some (.int .i64 j))).run P w = .ok (i, j, j) w := by
  simp [Instr.sliceBounds, Instr.sliceBound, asIntOf, h1, h2]
theorem sb2 (h1 : i ≤ j) (h2 : j ≤ c) : (Instr.sliceBounds true n c (some (.int .i64 i)) (some (.int .i64 j)) none).run P w = .ok (i, j, c) w := by
  simp [Instr.sliceBounds, Instr.sliceBound, asIntOf, h1, h2]
theorem sbh (h2 : j ≤ c) : (Instr.sliceBounds true n c none (some (.int .i64 j)) none).run P w = .ok (0, j, c) w := by
  simp [Instr.sliceBounds, Instr.sliceBound, asIntOf, h2]
theorem sbl (h1 : i ≤ n) : (Instr.sliceBounds true n c (some (.int .i64 i)) none none).run P w = .ok (i, n, c) w := by
  simp [Instr.sliceBounds, Instr.sliceBound, asIntOf, h1]
theorem x_slice3 (hu : P.underlying t = some (.slice e)) (hs : Siz P e k) (hx : ev L x = some (.slice A n c)) (hl : ev L lo = some (.int .i64 i)) (hh : ev L hi = some (.int .i64 j)) (hm : ev L mx = some (.int .i64 j)) (h1 : i ≤ j) (h2 : j ≤ c) :
    Xv P m D L (.slice t x (some lo) (some hi) (some mx)) ty w (.slice (if j = i then A else A.map (·.add (i * k))) (j - i) (j - i)) w :=
  x_slice (q1 := .i64) (q2 := .i64) (q3 := .i64) hu hs hx (fun a h => by simp [h.ev hl]) (fun a h => by simp [h.ev hh]) (fun a h => by simp [h.ev hm]) (sb3 h1 h2)
theorem x_slice2 (hu : P.underlying t = some (.slice e)) (hs : Siz P e k) (hx : ev L x = some (.slice A n c)) (hl : ev L lo = some (.int .i64 i)) (hh : ev L hi = some (.int .i64 j)) (h1 : i ≤ j) (h2 : j ≤ c) :
    Xv P m D L (.slice t x (some lo) (some hi) none) ty w (.slice (if c = i then A else A.map (·.add (i * k))) (j - i) (c - i)) w :=
  x_slice (q1 := .i64) (q2 := .i64) (q3 := .i64) hu hs hx (fun a h => by simp [h.ev hl]) (fun a h => by simp [h.ev hh]) (fun a h => rfl) (sb2 h1 h2)
theorem x_sliceh (hu : P.underlying t = some (.slice e)) (hs : Siz P e k) (hx : ev L x = some (.slice A n c)) (hh : ev L hi = some (.int .i64 j)) (h2 : j ≤ c) :
    Xv P m D L (.slice t x none (some hi) none) ty w (.slice (if c = 0 then A else A.map (·.add (0 * k))) (j - 0) (c - 0)) w :=
  x_slice (q1 := .i64) (q2 := .i64) (q3 := .i64) hu hs hx (fun a h => rfl) (fun a h => by simp [h.ev hh]) (fun a h => rfl) (sbh h2)
theorem x_slicel (hu : P.underlying t = some (.slice e)) (hs : Siz P e k) (hx : ev L x = some (.slice A n c)) (hl : ev L lo = some (.int .i64 i)) (h1 : i ≤ n) :
    Xv P m D L (.slice t x (some lo) none none) ty w (.slice (if c = i then A else A.map (·.add (i * k))) (n - i) (c - i)) w :=
  x_slice (q1 := .i64) (q2 := .i64) (q3 := .i64) hu hs hx (fun a h => by simp [h.ev hl]) (fun a h => rfl) (fun a h => rfl) (sbl h1)
end

section
variable {F : Fence} {n : Nat} {P : Program} {Q : Exit → Act → World → Prop} {m : Nat} {D : List Deferred} {L : Env} {w : World} {a : Act} {b : Frame} {k : List Item} {cs : List Frame}
theorem stepR_scope {c : Code} : step P (lone (b.atR a (.code (.scope c) :: k)) cs w) = .next (lone (b.atR a (.code c :: .inScope c :: k)) cs w) :=
  step_lone_go (by simp [stepG, stepG.exec, Frame.atR])
theorem stepR_inScope {c : Code} : step P (lone (b.atR a (.inScope c :: k)) cs w) = .next (lone (b.atR a k) cs w) :=
  step_lone_go (by simp [stepG, stepG.exec, Frame.atR])
theorem wpIn_scope {c : Code} (h : c.wpIn F n P (Exit.noGoto Q) a w) : (Code.scope c).wpIn F n P Q a w := by
  intro b k cs hro hb hr
  have h0 : (lone (b.atR a (.code (.scope c) :: k)) cs w).fenced P F := fenced_calm hb hr rfl
  obtain ⟨e, a₁, w₁, hq, harr⟩ := h b (.inScope c :: k) cs hro hb hr
  cases e with
  | normal => exact ⟨.normal, a₁, w₁, hq, StepsIn.head h0 stepR_scope (StepsIn.trans harr (.one (fenced_calm hb hr rfl) stepR_inScope))⟩
  | exit id => exact ⟨.exit id, a₁, w₁, hq, .of_steps (.one h0 stepR_scope) ⟨fun k' hk => harr.1 k' (by simp [exitTo, hk]), fun hr hk => harr.2 hr (by simp [exitTo, hk])⟩⟩
  | goto l => exact hq.elim
  | ret => exact ⟨_, a₁, w₁, hq, .of_steps (.one h0 stepR_scope) harr⟩
  | panic ch => exact ⟨_, a₁, w₁, hq, .of_steps (.one h0 stepR_scope) harr⟩
  | outgrown => exact ⟨_, a₁, w₁, hq, .of_steps (.one h0 stepR_scope) harr⟩
theorem wc_scope {c : Code} (h : WC F n P (Exit.noGoto Q) m D c L w) : WC F n P Q m D (.scope c) L w := fun a ha => wpIn_scope (h a ha)
theorem wc_label {l : Nat} (h : NX Q m D .normal L w) : WC F n P Q m D (.label l) L w := fun a ha => wpIn_label (h a ha)
theorem nx_scope (h : NX Q m D .normal L w) : NX (Exit.noGoto Q) m D .normal L w := fun a ha => h a ha
theorem nx_scope_ret (h : NX Q m D .ret L w) : NX (Exit.noGoto Q) m D .ret L w := fun a ha => h a ha
theorem nx_scope_exit {id : Nat} (h : NX Q m D (.exit id) L w) : NX (Exit.noGoto Q) m D (.exit id) L w := fun a ha => h a ha
end
theorem sbhm {P : Program} {w : World} {n c : Nat} (h2 : n ≤ c) : (Instr.sliceBounds true n c none (some (.int .i64 (n : Nat))) (some (.int .i64 (n : Nat)))).run P w = .ok (0, n, n) w := by
  simp [Instr.sliceBounds, Instr.sliceBound, asIntOf, h2]
section
variable {F : Fence} {n : Nat} {P : Program} {Q : Exit → Act → World → Prop} {m : Nat} {D : List Deferred} {L : Env} {w w' : World} {ops rest : List Oper} {d : Nat} {ty t t' e : TypeId} {pos : String} {af : Array Edge} {g : Option (Nat × Bool)} {x y : Operand}
theorem x_min {q : IntKind} {i j : Int} {ts : Array TypeId} (hx : ev L x = some (.int q i)) (hy : ev L y = some (.int q j)) : Xv P m D L (.call ⟨.builtin .min, #[x, y], ts⟩) ty w (.int q (if j < i then j else i)) w :=
  ⟨nofun, fun _ _ _ _ a h => by
    by_cases hlt : j < i
    · simp [execOp, resolve, h.ev hx, h.ev hy, invoke, builtin, Builtin.min_, Builtin.min2, hlt]
    · simp [execOp, resolve, h.ev hx, h.ev hy, invoke, builtin, Builtin.min_, Builtin.min2, hlt]⟩
/-- clear of a slice within a block of the call's own. -/
theorem wl_clear {b o k c sz : Nat} {cs : List Value} {T : TypeId} {z : Value} (hW : Wd F) (hg : wants L ops g = some true) (hu : P.underlying t = some (.slice e)) (hz : ∀ w, (zeroValue e).run P w = .ok z w) (hzs : z.cells.size = sz) (hz1 : ∀ u ∈ z.cells.toList, u.oneCell' = true)
    (hx : ev L x = some (.slice (some ⟨b, o, none⟩) k c)) (hB : Blk w b cs T) (ho : o + k * sz ≤ cs.length)
    (kk : ∀ w' new, new.length = k * sz → Blk w' b (cs.take o ++ new ++ cs.drop (o + k * sz)) T → Keep (· ≠ b) w w' → WL F n P Q m D ops rest L w') : WL F n P Q m D ops (⟨none, .call ⟨.builtin .clear, #[x], #[t]⟩, ty, pos, af, g⟩ :: rest) L w := by
  have hnew : (Builtin.zeroCells z.cells k).toList.length = k * sz := by simp [Builtin.zeroCells, hzs]
  by_cases hk : k = 0
  · subst hk
    refine wl_valnone hW hg (v := .tuple #[]) (w' := w) ⟨nofun, fun _ _ _ _ a h => ?_⟩ (kk w [] (by simp) (by simpa using hB) (Keep.refl _ _))
    simp [execOp, resolve, h.ev hx, invoke, builtin, Builtin.clear_, run_underlying hu]
  · obtain ⟨j, rfl⟩ : ∃ j, k = j + 1 := ⟨k - 1, by omega⟩
    obtain ⟨w', hr, hB', hkp, hsz⟩ := run_storeCells (P := P) (Builtin.zeroCells z.cells (j + 1)).toList o 0 cs w hB (by rw [hnew]; omega) (fun u hu => by
      simp only [Builtin.zeroCells, Array.toList_map, List.mem_map] at hu
      obtain ⟨i, -, rfl⟩ := hu
      by_cases hi : i % z.cells.size < z.cells.size
      · rw [getElem!_pos z.cells _ hi]; exact hz1 _ (by simp)
      · have h0 : z.cells.size = 0 := by
          rcases Nat.eq_zero_or_pos z.cells.size with h | h
          · exact h
          · exact absurd (Nat.mod_lt _ h) hi
        rw [getElem!_neg z.cells _ hi]; rfl)
    refine wl_valnone hW hg (v := .tuple #[]) (w' := w') ⟨nofun, fun _ _ _ _ a h => ?_⟩ (kk w' _ hnew (by rw [Nat.add_zero, hnew] at hB'; exact hB') hkp)
    simp [execOp, resolve, h.ev hx, invoke, builtin, Builtin.clear_, run_underlying hu, hz, hr]
end
/-- The slice v holds the structs xs, of sz cells each, in a block of A. -/
def GRow {α : Type} (sz : Nat) (enc : α → List Value) (A : Nat → Prop) (w : World) (v : Value) (xs : List α) : Prop :=
  ∃ ad cap, v = .slice ad xs.length cap ∧ xs.length ≤ cap ∧ xs.length ≤ 1099511627776 ∧ (xs ≠ [] → ∃ b o, ad = some ⟨b, o, none⟩ ∧ A b ∧ b < w.heap.size ∧ ∀ i x, xs[i]? = some x → Cells w b (o + i * sz) (enc x))
section
variable {α : Type} {sz : Nat} {enc : α → List Value} {A A' : Nat → Prop} {w w' : World} {v : Value} {xs : List α}
theorem GRow.ck (h : GRow sz enc A w v xs) (hk : CK A w w') (hs : w.heap.size ≤ w'.heap.size) : GRow sz enc A w' v xs := by
  obtain ⟨ad, cap, rfl, h1, h2, h⟩ := h
  refine ⟨ad, cap, rfl, h1, h2, fun hne => ?_⟩
  obtain ⟨b, o, rfl, hA, hb, hr⟩ := h hne
  exact ⟨b, o, rfl, hA, by omega, fun i x hi => (hr i x hi).ck hA hk⟩
theorem GRow.ext (h : GRow sz enc A w v xs) (hx : Ext w w') : GRow sz enc A w' v xs := h.ck (CK.of_ext hx) hx.size
theorem GRow.keep {S : Nat → Prop} (h : GRow sz enc A w v xs) (hx : Keep S w w') (hs : ∀ k, k < w.heap.size → A k → S k) : GRow sz enc A w' v xs := h.ck (CK.of_keep hx fun k hk h => hs k hk h) hx.size
theorem GRow.mono (h : GRow sz enc A w v xs) (hA : ∀ k, k < w.heap.size → A k → A' k) : GRow sz enc A' w v xs := by
  obtain ⟨ad, cap, rfl, h1, h2, h⟩ := h
  refine ⟨ad, cap, rfl, h1, h2, fun hne => ?_⟩
  obtain ⟨b, o, rfl, hAb, hb, hr⟩ := h hne
  exact ⟨b, o, rfl, hA b hb hAb, hb, hr⟩
theorem GRow.form (h : GRow sz enc A w v xs) : ∃ ad cap, v = .slice ad xs.length cap ∧ xs.length ≤ cap ∧ xs.length ≤ 1099511627776 := by
  obtain ⟨ad, cap, rfl, h1, h2, -⟩ := h; exact ⟨ad, cap, rfl, h1, h2⟩
theorem GRow.one (h : GRow sz enc A w v xs) : v.oneCell' = true := by obtain ⟨ad, cap, rfl, -⟩ := h; rfl
theorem GRow.at (h : GRow sz enc A w v xs) (i : Nat) (hi : i < xs.length) : ∃ b o cap, v = .slice (some ⟨b, o, none⟩) xs.length cap ∧ A b ∧ Cells w b (o + i * sz) (enc xs[i]) := by
  obtain ⟨ad, cap, rfl, h1, h2, h⟩ := h
  obtain ⟨b, o, rfl, hA, hb, hr⟩ := h (by rintro rfl; simp at hi)
  exact ⟨b, o, cap, rfl, hA, hr i _ (List.getElem?_eq_getElem hi)⟩
theorem grow_nil : GRow sz enc A w (.slice none 0 0) [] := ⟨none, 0, rfl, Nat.le_refl _, by simp, fun h => absurd rfl h⟩
/-- What stands from one place on to another. -/
theorem GRow.slice {ad : Option Addr} {n c : Nat} {i j c' : Nat} (h : GRow sz enc A w (.slice ad n c) xs) (hj : j ≤ xs.length) (hij : i ≤ j) (hc' : j - i ≤ c') {ad' : Option Addr} (had : i < j → ad' = ad.map (·.add (i * sz))) : GRow sz enc A w (.slice ad' (j - i) c') ((xs.take j).drop i) := by
  obtain ⟨ad0, cap, e, h1, h2, h⟩ := h
  cases e
  have hlen : ((xs.take j).drop i).length = j - i := by simp; omega
  refine ⟨_, _, by rw [hlen], by omega, by omega, fun hne => ?_⟩
  have hlt : i < j := Decidable.byContradiction fun hh => hne (List.eq_nil_of_length_eq_zero (by omega))
  obtain ⟨b, o, rfl, hA, hb, hr⟩ := h (by rintro rfl; simp at hj; omega)
  refine ⟨b, o + i * sz, by rw [had hlt]; simp [add_mk], hA, hb, fun k x hk => ?_⟩
  rw [List.getElem?_drop, List.getElem?_take] at hk
  split at hk
  · have := hr (i + k) x hk
    rwa [show o + i * sz + k * sz = o + (i + k) * sz from by rw [Nat.add_mul]; omega]
  · cases hk
end
section
variable {α : Type} {sz : Nat} {enc : α → List Value} {w w' : World} {v : Value} {xs : List α} {base : Nat} {T : TypeId}
theorem gflat_len (henc : ∀ x, (enc x).length = sz) (xs : List α) : (xs.flatMap enc).length = xs.length * sz := by
  induction xs with
  | nil => simp
  | cons x xs ih => rw [List.flatMap_cons, List.length_append, ih, henc, List.length_cons, Nat.add_mul, Nat.one_mul]; omega
theorem gflat_at (henc : ∀ x, (enc x).length = sz) : ∀ (xs : List α) (i : Nat) (x : α), xs[i]? = some x → ∀ (j : Nat) (u : Value), (enc x)[j]? = some u → (xs.flatMap enc)[i * sz + j]? = some u
  | [], i, x, h => by simp at h
  | y :: ys, 0, x, h => fun j u hj => by
    simp at h; subst h
    have hlt : j < (enc y).length := (List.getElem?_eq_some_iff.1 hj).1
    rw [List.flatMap_cons, Nat.zero_mul, Nat.zero_add, List.getElem?_append_left hlt]; exact hj
  | y :: ys, i + 1, x, h => fun j u hj => by
    have := gflat_at henc ys i x (by simpa using h) j u hj
    rw [List.flatMap_cons, List.getElem?_append_right (by rw [henc, Nat.add_mul]; omega), henc, show (i + 1) * sz + j - sz = i * sz + j from by rw [Nat.add_mul]; omega]
    exact this
/-- A row of one's own, as it is read. -/
theorem gown_row (henc : ∀ x, (enc x).length = sz) (h : w.ownsRow base T sz v xs.length (xs.flatMap enc)) (hl : xs.length ≤ 1099511627776) : GRow sz enc (fun k => base ≤ k) w v xs := by
  obtain ⟨ad, c, rfl, h1, h2, h3⟩ := owns_src h
  refine ⟨ad, c, rfl, h1, hl, fun hne => ?_⟩
  by_cases hz : xs.flatMap enc = []
  · rcases h.2 with ⟨he, h0⟩ | ⟨g, cap, cur, he, hb, hg, -⟩
    · exact absurd (List.eq_nil_of_length_eq_zero h0) hne
    · cases he
      refine ⟨g, 0, rfl, hb, (Array.getElem?_eq_some_iff.1 hg).1, fun i x hi j u hj => ?_⟩
      have := gflat_at henc xs i x hi j u hj
      rw [hz] at this; simp at this
  · obtain ⟨b, o, rfl, hc⟩ := h2 hz
    refine ⟨b, o, rfl, h3 hz b rfl, ?_, fun i x hi j u hj => ?_⟩
    · obtain ⟨u, hu⟩ : ∃ u, (xs.flatMap enc)[0]? = some u := ⟨_, List.getElem?_eq_getElem (List.length_pos_iff.2 hz)⟩
      exact World.block_lt_of_cell? w _ (hc 0 u hu)
    · rw [Nat.add_assoc]; exact hc _ _ (gflat_at henc xs i x hi j u hj)
/-- What is appended. -/
theorem grow_src {A : Nat → Prop} {ad : Option Addr} {n c : Nat} (henc : ∀ x, (enc x).length = sz) (hsz : 0 < sz) (h : GRow sz enc A w (.slice ad n c) xs) : Src w ad (xs.flatMap enc) := fun hne => by
  obtain ⟨ad0, cap, e, h1, h2, h⟩ := h
  cases e
  obtain ⟨b, o, rfl, hA, hb, hr⟩ := h (by rintro rfl; exact hne rfl)
  refine ⟨b, o, rfl, fun j u hj => ?_⟩
  have hlt := (List.getElem?_eq_some_iff.1 hj).1
  rw [gflat_len henc] at hlt
  have hd := Nat.div_add_mod j sz
  have hm := Nat.mod_lt j hsz
  have hi : j / sz < xs.length := (Nat.div_lt_iff_lt_mul hsz).2 hlt
  have hu : (enc xs[j / sz])[j % sz]? = some u := by
    have h3 : j % sz < (enc xs[j / sz]).length := by rw [henc]; exact hm
    have h4 := gflat_at henc xs (j / sz) _ (List.getElem?_eq_getElem hi) (j % sz) _ (List.getElem?_eq_getElem h3)
    rw [Nat.mul_comm, hd, hj] at h4
    rw [List.getElem?_eq_getElem h3]; exact h4.symm
  have := hr (j / sz) _ (List.getElem?_eq_getElem hi) (j % sz) u hu
  rwa [Nat.add_assoc, Nat.mul_comm, hd] at this
/-- An element of a row of one's own is turned. -/
theorem gown_set {ad : Option Addr} {n c i : Nat} (henc : ∀ x, (enc x).length = sz) (h : w.ownsRow base T sz (.slice ad n c) xs.length (xs.flatMap enc)) (hi : i < xs.length) : ∃ g cs, ad = some ⟨g, 0, none⟩ ∧ n = xs.length ∧ Blk w g cs T ∧ i * sz + sz ≤ cs.length ∧ base ≤ g ∧
    ∀ w' x, Blk w' g (cs.take (i * sz) ++ enc x ++ cs.drop (i * sz + sz)) T → w'.ownsRow base T sz (.slice ad n c) xs.length ((xs.set i x).flatMap enc) := by
  have hfl := gflat_len henc xs
  rcases h.2 with ⟨he, h0⟩ | ⟨g, cap, cur, he, hb, hg, hc1, hc2, hc3, hc4⟩
  · omega
  · cases he
    have hcl : cur.toList.length = c * sz := by simpa using hc3
    have hle : (i + 1) * sz ≤ xs.length * sz := Nat.mul_le_mul_right _ hi
    have hle2 : xs.length * sz ≤ c * sz := Nat.mul_le_mul_right _ hc1
    rw [Nat.add_mul, Nat.one_mul] at hle
    refine ⟨g, cur.toList, rfl, rfl, by simpa [Blk] using hg, by omega, hb, fun w' x hB => ⟨?_, .inr ⟨g, c, (cur.toList.take (i * sz) ++ enc x ++ cur.toList.drop (i * sz + sz)).toArray, rfl, hb, hB, hc1, hc2, ?_, ?_⟩⟩⟩
    · rw [gflat_len henc, List.length_set]
    · simp only [List.size_toArray, List.length_append, List.length_take, List.length_drop, henc]
      omega
    · have e1 : (xs.set i x).flatMap enc = (xs.flatMap enc).take (i * sz) ++ enc x ++ (xs.flatMap enc).drop (i * sz + sz) := by
        have h1 : ∀ k, k ≤ xs.length → (xs.flatMap enc).take (k * sz) = (xs.take k).flatMap enc ∧ (xs.flatMap enc).drop (k * sz) = (xs.drop k).flatMap enc := fun k hk => by
          have e2 : xs.flatMap enc = (xs.take k).flatMap enc ++ (xs.drop k).flatMap enc := by rw [← List.flatMap_append, List.take_append_drop]
          have e3 : ((xs.take k).flatMap enc).length = k * sz := by rw [gflat_len henc, List.length_take, Nat.min_eq_left hk]
          rw [e2]
          exact ⟨by rw [← e3, List.take_left'  rfl], by rw [← e3, List.drop_left' rfl]⟩
        rw [(h1 i (by omega)).1, show i * sz + sz = (i + 1) * sz from by rw [Nat.add_mul, Nat.one_mul], (h1 (i + 1) (by omega)).2, List.set_eq_take_append_cons_drop, if_pos hi, List.flatMap_append, List.flatMap_cons, List.append_assoc]
      rw [e1, ← hc4, List.take_take, Nat.min_eq_left (by omega), List.drop_take]
      rw [List.take_append, List.take_append]
      simp only [List.length_append, List.length_take, henc, List.take_take]
      rw [Nat.min_eq_left (by omega : i * sz ≤ cur.toList.length), Nat.min_eq_right (by omega : i * sz ≤ xs.length * sz), List.take_of_length_le (l := enc x) (by rw [henc]; omega)]
end
section
variable {P : Program} {w : World} {base : Nat} {t ty e : TypeId} {z : Value} {size bytes : Nat}
theorem run_appE (ht : P.underlying t = some (.slice e)) (hin : (P.info? e).map (fun i => (i.zero, i.size, i.bytes)) = some (some z, size, bytes)) (hzs : z.cells.size = size) (hsz : 0 < size)
    {b : Nat} (hB : Blk w b [] e) (hb : base ≤ b) {ad : Option Addr} {m c : Nat} {news : List Value} (hl : news.length = m * size) (hnews : Src w ad news) (h1 : ∀ u ∈ news, u.oneCell' = true)
    (h63 : m ≤ 1099511627776) (hbytes : bytes ≤ 128) :
    ∃ v' w', (Builtin.append_ #[t, t] ty #[.slice (some ⟨b, 0, none⟩) 0 0, .slice ad m c]).run P w = .ok v' w' ∧ w'.ownsRow base e size v' m news ∧ Ext w w' := by
  have hbase : base ≤ w.heap.size := Nat.le_trans hb (Nat.le_of_lt hB.lt)
  have hown := owns_empty (size := size) hB hb
  obtain ⟨v', w', hr, ho, hk, hc⟩ := run_appG (ty := ty) (c := c) ht hin hzs hsz hown hl hnews h1 (by omega) hbytes hbase
  rw [Nat.zero_add, List.nil_append] at ho
  refine ⟨v', w', hr, ho, ?_⟩
  obtain ⟨i0, hi, hz0, hz1, hz2⟩ := info_parts hin
  rcases Nat.eq_zero_or_pos m with hm | hm
  · subst hm
    have hr2 : (Builtin.append_ #[t, t] ty #[.slice (some ⟨b, 0, none⟩) 0 0, .slice ad 0 c]).run P w = .ok (.slice (some ⟨b, 0, none⟩) 0 0) w := by
      cases ad <;> simp [Builtin.append_, run_underlying ht, sizeOf, typeInfo, hi, Builtin.lenOf, Builtin.firstCells, loadCells, loadCellsFrom, storeCells]
    rw [hr2] at hr
    cases hr
    exact Keep.refl _ _
  · obtain ⟨bs, o, rfl, hcell⟩ := hnews (by rintro rfl; have := Nat.mul_pos hm hsz; simp at hl; omega)
    subst hz1
    have hfit := growslice_fits (need := 0 + m) (old := 0) (bytes := i0.bytes) (by omega) (Nat.le_trans (Nat.mul_le_mul (by omega : 0 + m ≤ 1099511627776) (by rw [hz2]; exact hbytes)) (by decide))
    have hg := run_append_grow (P := P) w t ty e i0 z ht hi hz0 ⟨b, 0, none⟩ 0 0 [] (by simp) (fun j v h => by simp at h) ⟨bs, o, none⟩ m c news hl (fun j v h => by rw [add_mk]; exact hcell j v h) (by omega) (by omega) hfit
    rw [hg] at hr
    cases hr
    exact (ext_drew w).trans (ext_alloc _ _)
end
section
variable {F : Fence} {n : Nat} {P : Program} {Q : Exit → Act → World → Prop} {m : Nat} {D : List Deferred} {L : Env} {w w' w0 : World}
variable {ops tail : List Oper} {rest : List Oper} {d : Nat} {ty t e : TypeId} {pos : String} {af : Array Edge} {g : Option (Nat × Bool)} {y : Operand} {K : Env → List (Nat × VP) → Prop} {V : List (Nat × VP)} {z : Value} {size bytes : Nat}
/-- An empty slice, made since w0. -/
def Emp (w0 : World) (e : TypeId) : VP := fun v w => ∃ b, v = .slice (some ⟨b, 0, none⟩) 0 0 ∧ w0.heap.size ≤ b ∧ Blk w b [] e
theorem Emp.stable {e : TypeId} : Stable (Emp w0 e) := fun v w w' ⟨b, h1, h2, h3⟩ hx => ⟨b, h1, h2, h3.ext hx⟩
/-- A row of one's own, made since w0. -/
def Own1 (w0 : World) (e : TypeId) (size k : Nat) (xs : List Value) : VP := fun v w => w.ownsRow w0.heap.size e size v k xs
theorem Own1.stable {e : TypeId} {size k : Nat} {xs : List Value} : Stable (Own1 w0 e size k xs) := fun v w w' h hx => ownsRow_keep h hx fun _ _ => trivial
theorem q_buildEmp (hg : wants L ops g = some true) (hd : Nat.blt d m = true) (hno : at' L d = none) (hu : P.underlying t = some (.slice e)) (hs : Siz P e size) (hz : ∀ w, (zeroValue e).run P w = .ok z w)
    (k : QW F n P m D ops w0 K rest L ((d, Emp w0 e) :: V)) : QW F n P m D ops w0 K (⟨some d, .buildSlice t 0 #[], ty, pos, af, g⟩ :: rest) L V :=
  q_valp Emp.stable hg hd hno (fun w' hw => by
    obtain ⟨b, w'', hx, h1, h2, h3⟩ := x_buildSlice (P := P) (m := m) (D := D) (w := w') (ty := ty) (L := L) (vs := []) (sz := size) (len := 0) (parts := []) hu hs hz rfl rfl rfl (by omega)
    exact ⟨_, w'', hx, ⟨b, rfl, Nat.le_trans hw.size h1, h2⟩, h3⟩) k
theorem q_appendE {s : Nat} {ad : Option Addr} {k2 c : Nat} {news : List Value} (ht : P.underlying t = some (.slice e)) (hin : (P.info? e).map (fun i => (i.zero, i.size, i.bytes)) = some (some z, size, bytes)) (hzs : z.cells.size = size) (hsz : 0 < size)
    (hg : wants L ops g = some true) (hd : Nat.blt d m = true) (hno : at' L d = none) (hV : (s, Emp w0 e) ∈ V) (hlo : s ∈ looks ops ⟨some d, .call ⟨.builtin .append, #[.tmp s, y], #[t, t]⟩, ty, pos, af, g⟩) (hy : ∀ u, ev ((s, u) :: L) y = some (.slice ad k2 c))
    (hl : news.length = k2 * size) (hnews : ∀ w', Ext w0 w' → Src w' ad news) (h1 : ∀ u ∈ news, u.oneCell' = true) (h63 : k2 ≤ 1099511627776) (hbytes : bytes ≤ 128)
    (k : QW F n P m D ops w0 K rest L ((d, Own1 w0 e size k2 news) :: V)) : QW F n P m D ops w0 K (⟨some d, .call ⟨.builtin .append, #[.tmp s, y], #[t, t]⟩, ty, pos, af, g⟩ :: rest) L V :=
  q_valv Own1.stable hg hd hno hV hlo (fun w' u hw ⟨b, hu, hb, hB⟩ => by
    subst hu
    obtain ⟨v', w'', hr, ho, hx⟩ := run_appE (P := P) (ty := ty) (c := c) ht hin hzs hsz hB hb hl (hnews w' hw) h1 h63 hbytes
    refine ⟨v', w'', ⟨nofun, fun _ _ _ _ a h => ?_⟩, ho, hx⟩
    have e1 : a.eval (.tmp s) = .slice (some ⟨b, 0, none⟩) 0 0 := h.ev (x := .tmp s) (by show at' _ _ = _; rw [at_cons, if_pos rfl])
    simp [execOp, resolve, e1, h.ev (hy _), invoke, builtin, hr]) k
theorem Src.ext {ad : Option Addr} {news : List Value} (h : Src w ad news) (hx : Ext w w') : Src w' ad news := fun hne => by
  obtain ⟨b, o, h1, h2⟩ := h hne
  exact ⟨b, o, h1, fun j u hj => hx.cell (h2 j u hj)⟩
/-- Of the values of which something is known, two are looked at. -/
theorem tailm2 {d2 : Nat} {p p2 : VP} (hV : (d, p) ∈ V) (hV2 : (d2, p2) ∈ V) (k : ∀ w' v v2, Ext w0 w' → p v w' → p2 v2 w' → WL F n P Q m D ops tail ((d, v) :: (d2, v2) :: L) w') : Tail F n P Q m D ops tail w0 L V := fun w' hw L' hv hs => by
  obtain ⟨v, h1, h2⟩ := hv (d, p) hV
  obtain ⟨v2, h3, h4⟩ := hv (d2, p2) hV2
  exact wl_sub (sub_cons h1 (sub_cons h3 hs)) (k w' v v2 hw h2 h4)
end
section
variable {w w' : World} {ad : Option Addr} {n c : Nat}
theorem Src.take {news : List Value} (h : Src w ad news) (k c : Nat) : Src w (if c = 0 then ad else ad.map (·.add (0 * k))) (news.take n) := fun hne => by
  obtain ⟨b, o, h1, h2⟩ := h (by rintro rfl; simp at hne)
  refine ⟨b, o, by split <;> simp [h1, add_mk], fun j u hj => h2 j u ?_⟩
  rw [List.getElem?_take] at hj
  split at hj
  · exact hj
  · cases hj
theorem Src.drop {news : List Value} (h : Src w ad news) {k i : Nat} (hc : c = i → news.drop (i * k) = []) : Src w (if c = i then ad else ad.map (·.add (i * k))) (news.drop (i * k)) := fun hne => by
  obtain ⟨b, o, h1, h2⟩ := h (by rintro rfl; simp at hne)
  refine ⟨b, o + i * k, by rw [if_neg (fun e => hne (hc e)), h1]; simp [add_mk], fun j u hj => ?_⟩
  rw [List.getElem?_drop] at hj
  have := h2 _ _ hj
  rwa [← Nat.add_assoc] at this
end
theorem Src.keep {w w' : World} {S : Nat → Prop} {ad : Option Addr} {news : List Value} (h : Src w ad news) (hk : Keep S w w') (hS : ∀ b, ad.map (·.block) = some b → S b) : Src w' ad news := fun hne => by
  obtain ⟨b, o, h1, h2⟩ := h hne
  exact ⟨b, o, h1, fun j u hj => hk.cell (h2 j u hj) (hS b (by rw [h1]; rfl))⟩
theorem src_blk {w : World} {b : Nat} {cs : List Value} {t : TypeId} (h : Blk w b cs t) : Src w (some ⟨b, 0, none⟩) cs := fun _ => ⟨b, 0, rfl, fun j u hj => by rw [Nat.zero_add]; exact h.cell hj⟩
end Go.Proofs.Ytiaikajibefieaa.K
