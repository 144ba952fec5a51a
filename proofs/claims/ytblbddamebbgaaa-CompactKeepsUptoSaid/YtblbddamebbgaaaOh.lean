/- Scopes; rows of flat structs; clear; min and max of strings. -/
import Derived.Test.YtblbddamebbgaaaZ6
import Derived.AtR
import Derived.Scope
namespace Go.Proofs.Ytblbddamebbgaaa.K
open Go Go.RowKit
set_option linter.unusedVariables false
set_option linter.unusedSectionVars false
set_option linter.unusedSimpArgs false

section
variable {F : Fence} {n : Nat} {P : Program} {Q : Exit → Act → World → Prop} {m : Nat} {D : List Deferred} {L : Env} {w : World} {a : Act} {b : Frame} {k : List Item} {cs : List Frame}
theorem stepR_scope {c : Code} : step P (lone (b.atR a (.code (.scope c) :: k)) cs w) = .next (lone (b.atR a (.code c :: .inScope c :: k)) cs w) :=
  step_lone_go (by simp [stepG, stepG.exec, Frame.atR])
theorem stepR_inScope {c : Code} : step P (lone (b.atR a (.inScope c :: k)) cs w) = .next (lone (b.atR a k) cs w) :=
  step_lone_go (by simp [stepG, stepG.exec, Frame.atR])
theorem wpIn_scope {c : Code} (h : c.wpIn F n P (Exit.noGoto Q) a w) : (Code.scope c).wpIn F n P Q a w := by
  intro b k cs hro hb hr
  have h0 : (lone (b.atR a (.code (.scope c) :: k)) cs w).fenced P F := fenced_calm hb hr rfl
  obtain ⟨e, a₁, w₁, hq, harr⟩ := h b (.inScope c :: k) cs hro hb hr
  cases e with
  | normal => exact ⟨.normal, a₁, w₁, hq, StepsIn.head h0 stepR_scope (StepsIn.trans harr (.one (fenced_calm hb hr rfl) stepR_inScope))⟩
  | exit id => exact ⟨.exit id, a₁, w₁, hq, .of_steps (.one h0 stepR_scope) ⟨fun k' hk => harr.1 k' (by simp [exitTo, hk]), fun hr hk => harr.2 hr (by simp [exitTo, hk])⟩⟩
  | goto l => exact hq.elim
  | ret => exact ⟨_, a₁, w₁, hq, .of_steps (.one h0 stepR_scope) harr⟩
  | panic ch => exact ⟨_, a₁, w₁, hq, .of_steps (.one h0 stepR_scope) harr⟩
  | outgrown => exact ⟨_, a₁, w₁, hq, .of_steps (.one h0 stepR_scope) harr⟩
theorem wc_scope {c : Code} (h : WC F n P (Exit.noGoto Q) m D c L w) : WC F n P Q m D (.scope c) L w := fun a ha => wpIn_scope (h a ha)
theorem wc_label {l : Nat} (h : NX Q m D .normal L w) : WC F n P Q m D (.label l) L w := fun a ha => wpIn_label (h a ha)
theorem nx_scope (h : NX Q m D .normal L w) : NX (Exit.noGoto Q) m D .normal L w := fun a ha => h a ha
theorem nx_scope_ret (h : NX Q m D .ret L w) : NX (Exit.noGoto Q) m D .ret L w := fun a ha => h a ha
theorem nx_scope_exit {id : Nat} (h : NX Q m D (.exit id) L w) : NX (Exit.noGoto Q) m D (.exit id) L w := fun a ha => h a ha
end
theorem sbhm {P : Program} {w : World} {n c : Nat} (h2 : n ≤ c) : (Instr.sliceBounds true n c none (some (.int .i64 (n : Nat))) (some (.int .i64 (n : Nat)))).run P w = .ok (0, n, n) w := by
  simp [Instr.sliceBounds, Instr.sliceBound, asIntOf, h2]
/-! ### strings -/
section
variable {F : Fence} {n : Nat} {P : Program} {Q : Exit → Act → World → Prop} {m : Nat} {D : List Deferred} {L : Env} {w w' : World} {ops rest : List Oper} {d : Nat} {ty t t' e : TypeId} {pos : String} {af : Array Edge} {g : Option (Nat × Bool)} {x y : Operand}
theorem gtr_bl (a b : List UInt8) : (!(bl a b || a == b)) = bl b a := by
  by_cases h : a = b
  · subst h; simp [bl_irrefl]
  · cases h1 : bl a b with
    | true => simp [bl_asymm _ _ h1]
    | false =>
      cases h2 : bl b a with
      | true => simp [h]
      | false => exact absurd (bl_total _ _ h1 h2) h
theorem x_sgt {s r : ByteArray} (hx : ev L x = some (.string s)) (hy : ev L y = some (.string r)) : Xv P m D L (.binOp .gtr t x y t') ty w (.bool (bl r.toList s.toList)) w := by
  have := x_sgtr (P := P) (m := m) (D := D) (t := t) (t' := t') (ty := ty) (w := w) hx hy
  rwa [gtr_bl] at this
/-- The lesser, the greater string. -/
def minB (s r : ByteArray) : ByteArray := if bl r.toList s.toList then r else s
def maxB (s r : ByteArray) : ByteArray := if bl s.toList r.toList then r else s
theorem x_smin {s r : ByteArray} {ts : Array TypeId} (hx : ev L x = some (.string s)) (hy : ev L y = some (.string r)) : Xv P m D L (.call ⟨.builtin .min, #[x, y], ts⟩) ty w (.string (minB s r)) w :=
  ⟨nofun, fun _ _ _ _ a h => by
    have e : (if (Op.bytesLess s.toList r.toList || s.toList == r.toList) = true then s else r) = minB s r := by
      unfold minB
      rw [← gtr_bl s.toList r.toList]
      cases (bl s.toList r.toList || s.toList == r.toList) <;> rfl
    rw [← e]
    simp [execOp, resolve, h.ev hx, h.ev hy, invoke, builtin, Builtin.min_, Builtin.min2, Op.stringOp, asBool]⟩
theorem x_smax {s r : ByteArray} {ts : Array TypeId} (hx : ev L x = some (.string s)) (hy : ev L y = some (.string r)) : Xv P m D L (.call ⟨.builtin .max, #[x, y], ts⟩) ty w (.string (maxB s r)) w :=
  ⟨nofun, fun _ _ _ _ a h => by
    have e : (if (!(Op.bytesLess s.toList r.toList)) = true then s else r) = maxB s r := by
      unfold maxB
      show (if (!(bl s.toList r.toList)) = true then s else r) = _
      cases (bl s.toList r.toList) <;> rfl
    rw [← e]
    simp [execOp, resolve, h.ev hx, h.ev hy, invoke, builtin, Builtin.max_, Builtin.max2, Op.stringOp, asBool]⟩
theorem x_min {q : IntKind} {i j : Int} {ts : Array TypeId} (hx : ev L x = some (.int q i)) (hy : ev L y = some (.int q j)) : Xv P m D L (.call ⟨.builtin .min, #[x, y], ts⟩) ty w (.int q (if j < i then j else i)) w :=
  ⟨nofun, fun _ _ _ _ a h => by
    by_cases hlt : j < i
    · simp [execOp, resolve, h.ev hx, h.ev hy, invoke, builtin, Builtin.min_, Builtin.min2, hlt]
    · simp [execOp, resolve, h.ev hx, h.ev hy, invoke, builtin, Builtin.min_, Builtin.min2, hlt]⟩
/-- clear of a slice within a block of the call's own. -/
theorem wl_clear {b o k c sz : Nat} {cs : List Value} {T : TypeId} {z : Value} (hW : Wd F) (hg : wants L ops g = some true) (hu : P.underlying t = some (.slice e)) (hz : ∀ w, (zeroValue e).run P w = .ok z w) (hzs : z.cells.size = sz) (hz1 : ∀ u ∈ z.cells.toList, u.oneCell' = true)
    (hx : ev L x = some (.slice (some ⟨b, o, none⟩) k c)) (hB : Blk w b cs T) (ho : o + k * sz ≤ cs.length)
    (kk : ∀ w' new, new.length = k * sz → Blk w' b (cs.take o ++ new ++ cs.drop (o + k * sz)) T → Keep (· ≠ b) w w' → WL F n P Q m D ops rest L w') : WL F n P Q m D ops (⟨none, .call ⟨.builtin .clear, #[x], #[t]⟩, ty, pos, af, g⟩ :: rest) L w := by
  have hnew : (Builtin.zeroCells z.cells k).toList.length = k * sz := by simp [Builtin.zeroCells, hzs]
  by_cases hk : k = 0
  · subst hk
    refine wl_valnone hW hg (v := .tuple #[]) (w' := w) ⟨nofun, fun _ _ _ _ a h => ?_⟩ (kk w [] (by simp) (by simpa using hB) (Keep.refl _ _))
    simp [execOp, resolve, h.ev hx, invoke, builtin, Builtin.clear_, run_underlying hu]
  · obtain ⟨j, rfl⟩ : ∃ j, k = j + 1 := ⟨k - 1, by omega⟩
    obtain ⟨w', hr, hB', hkp, hsz⟩ := run_storeCells (P := P) (Builtin.zeroCells z.cells (j + 1)).toList o 0 cs w hB (by rw [hnew]; omega) (fun u hu => by
      simp only [Builtin.zeroCells, Array.toList_map, List.mem_map] at hu
      obtain ⟨i, -, rfl⟩ := hu
      by_cases hi : i % z.cells.size < z.cells.size
      · rw [getElem!_pos z.cells _ hi]; exact hz1 _ (by simp)
      · have h0 : z.cells.size = 0 := by
          rcases Nat.eq_zero_or_pos z.cells.size with h | h
          · exact h
          · exact absurd (Nat.mod_lt _ h) hi
        rw [getElem!_neg z.cells _ hi]; rfl)
    refine wl_valnone hW hg (v := .tuple #[]) (w' := w') ⟨nofun, fun _ _ _ _ a h => ?_⟩ (kk w' _ hnew (by rw [Nat.add_zero, hnew] at hB'; exact hB') hkp)
    simp [execOp, resolve, h.ev hx, invoke, builtin, Builtin.clear_, run_underlying hu, hz, hr]
end
/-! ### rows of flat structs -/
/-- The slice v holds the structs xs, of sz cells each, in a block of A. -/
def GRow {α : Type} (sz : Nat) (enc : α → List Value) (A : Nat → Prop) (w : World) (v : Value) (xs : List α) : Prop :=
  ∃ ad cap, v = .slice ad xs.length cap ∧ xs.length ≤ cap ∧ xs.length ≤ 1099511627776 ∧ (xs ≠ [] → ∃ b o, ad = some ⟨b, o, none⟩ ∧ A b ∧ b < w.heap.size ∧ ∀ i x, xs[i]? = some x → Cells w b (o + i * sz) (enc x))
section
variable {α : Type} {sz : Nat} {enc : α → List Value} {A A' : Nat → Prop} {w w' : World} {v : Value} {xs : List α}
theorem GRow.ck (h : GRow sz enc A w v xs) (hk : CK A w w') (hs : w.heap.size ≤ w'.heap.size) : GRow sz enc A w' v xs := by
  obtain ⟨ad, cap, rfl, h1, h2, h⟩ := h
  refine ⟨ad, cap, rfl, h1, h2, fun hne => ?_⟩
  obtain ⟨b, o, rfl, hA, hb, hr⟩ := h hne
  exact ⟨b, o, rfl, hA, by omega, fun i x hi => (hr i x hi).ck hA hk⟩
theorem GRow.ext (h : GRow sz enc A w v xs) (hx : Ext w w') : GRow sz enc A w' v xs := h.ck (CK.of_ext hx) hx.size
theorem GRow.keep {S : Nat → Prop} (h : GRow sz enc A w v xs) (hx : Keep S w w') (hs : ∀ k, k < w.heap.size → A k → S k) : GRow sz enc A w' v xs := h.ck (CK.of_keep hx fun k hk h => hs k hk h) hx.size
theorem GRow.mono (h : GRow sz enc A w v xs) (hA : ∀ k, k < w.heap.size → A k → A' k) : GRow sz enc A' w v xs := by
  obtain ⟨ad, cap, rfl, h1, h2, h⟩ := h
  refine ⟨ad, cap, rfl, h1, h2, fun hne => ?_⟩
  obtain ⟨b, o, rfl, hAb, hb, hr⟩ := h hne
  exact ⟨b, o, rfl, hA b hb hAb, hb, hr⟩
theorem GRow.form (h : GRow sz enc A w v xs) : ∃ ad cap, v = .slice ad xs.length cap ∧ xs.length ≤ cap ∧ xs.length ≤ 1099511627776 := by
  obtain ⟨ad, cap, rfl, h1, h2, -⟩ := h; exact ⟨ad, cap, rfl, h1, h2⟩
theorem GRow.one (h : GRow sz enc A w v xs) : v.oneCell' = true := by obtain ⟨ad, cap, rfl, -⟩ := h; rfl
theorem GRow.at (h : GRow sz enc A w v xs) (i : Nat) (hi : i < xs.length) : ∃ b o cap, v = .slice (some ⟨b, o, none⟩) xs.length cap ∧ A b ∧ Cells w b (o + i * sz) (enc xs[i]) := by
  obtain ⟨ad, cap, rfl, h1, h2, h⟩ := h
  obtain ⟨b, o, rfl, hA, hb, hr⟩ := h (by rintro rfl; simp at hi)
  exact ⟨b, o, cap, rfl, hA, hr i _ (List.getElem?_eq_getElem hi)⟩
theorem grow_nil : GRow sz enc A w (.slice none 0 0) [] := ⟨none, 0, rfl, Nat.le_refl _, by simp, fun h => absurd rfl h⟩
/-- What stands from one place on to another. -/
theorem GRow.slice {ad : Option Addr} {n c : Nat} {i j c' : Nat} (h : GRow sz enc A w (.slice ad n c) xs) (hj : j ≤ xs.length) (hij : i ≤ j) (hc' : j - i ≤ c') {ad' : Option Addr} (had : i < j → ad' = ad.map (·.add (i * sz))) : GRow sz enc A w (.slice ad' (j - i) c') ((xs.take j).drop i) := by
  obtain ⟨ad0, cap, e, h1, h2, h⟩ := h
  cases e
  have hlen : ((xs.take j).drop i).length = j - i := by simp; omega
  refine ⟨_, _, by rw [hlen], by omega, by omega, fun hne => ?_⟩
  have hlt : i < j := Decidable.byContradiction fun hh => hne (List.eq_nil_of_length_eq_zero (by omega))
  obtain ⟨b, o, rfl, hA, hb, hr⟩ := h (by rintro rfl; simp at hj; omega)
  refine ⟨b, o + i * sz, by rw [had hlt]; simp [add_mk], hA, hb, fun k x hk => ?_⟩
  rw [List.getElem?_drop, List.getElem?_take] at hk
  split at hk
  · have := hr (i + k) x hk
    rwa [show o + i * sz + k * sz = o + (i + k) * sz from by rw [Nat.add_mul]; omega]
  · cases hk
end
section
variable {α : Type} {sz : Nat} {enc : α → List Value} {w w' : World} {v : Value} {xs : List α} {base : Nat} {T : TypeId}
theorem gflat_len (henc : ∀ x, (enc x).length = sz) (xs : List α) : (xs.flatMap enc).length = xs.length * sz := by
  induction xs with
  | nil => simp
  | cons x xs ih => rw [List.flatMap_cons, List.length_append, ih, henc, List.length_cons, Nat.add_mul, Nat.one_mul]; omega
theorem gflat_at (henc : ∀ x, (enc x).length = sz) : ∀ (xs : List α) (i : Nat) (x : α), xs[i]? = some x → ∀ (j : Nat) (u : Value), (enc x)[j]? = some u → (xs.flatMap enc)[i * sz + j]? = some u
  | [], i, x, h => by simp at h
  | y :: ys, 0, x, h => fun j u hj => by
    simp at h; subst h
    have hlt : j < (enc y).length := (List.getElem?_eq_some_iff.1 hj).1
    rw [List.flatMap_cons, Nat.zero_mul, Nat.zero_add, List.getElem?_append_left hlt]; exact hj
  | y :: ys, i + 1, x, h => fun j u hj => by
    have := gflat_at henc ys i x (by simpa using h) j u hj
    rw [List.flatMap_cons, List.getElem?_append_right (by rw [henc, Nat.add_mul]; omega), henc, show (i + 1) * sz + j - sz = i * sz + j from by rw [Nat.add_mul]; omega]
    exact this
/-- A row of one's own, as it is read. -/
theorem gown_row (henc : ∀ x, (enc x).length = sz) (h : w.ownsRow base T sz v xs.length (xs.flatMap enc)) (hl : xs.length ≤ 1099511627776) : GRow sz enc (fun k => base ≤ k) w v xs := by
  obtain ⟨ad, c, rfl, h1, h2, h3⟩ := owns_src h
  refine ⟨ad, c, rfl, h1, hl, fun hne => ?_⟩
  by_cases hz : xs.flatMap enc = []
  · rcases h.2 with ⟨he, h0⟩ | ⟨g, cap, cur, he, hb, hg, -⟩
    · exact absurd (List.eq_nil_of_length_eq_zero h0) hne
    · cases he
      refine ⟨g, 0, rfl, hb, (Array.getElem?_eq_some_iff.1 hg).1, fun i x hi j u hj => ?_⟩
      have := gflat_at henc xs i x hi j u hj
      rw [hz] at this; simp at this
  · obtain ⟨b, o, rfl, hc⟩ := h2 hz
    refine ⟨b, o, rfl, h3 hz b rfl, ?_, fun i x hi j u hj => ?_⟩
    · obtain ⟨u, hu⟩ : ∃ u, (xs.flatMap enc)[0]? = some u := ⟨_, List.getElem?_eq_getElem (List.length_pos_iff.2 hz)⟩
      exact World.block_lt_of_cell? w _ (hc 0 u hu)
    · rw [Nat.add_assoc]; exact hc _ _ (gflat_at henc xs i x hi j u hj)
/-- What is appended. -/
theorem grow_src {A : Nat → Prop} {ad : Option Addr} {n c : Nat} (henc : ∀ x, (enc x).length = sz) (hsz : 0 < sz) (h : GRow sz enc A w (.slice ad n c) xs) : Src w ad (xs.flatMap enc) := fun hne => by
  obtain ⟨ad0, cap, e, h1, h2, h⟩ := h
  cases e
  obtain ⟨b, o, rfl, hA, hb, hr⟩ := h (by rintro rfl; exact hne rfl)
  refine ⟨b, o, rfl, fun j u hj => ?_⟩
  have hlt := (List.getElem?_eq_some_iff.1 hj).1
  rw [gflat_len henc] at hlt
  have hd := Nat.div_add_mod j sz
  have hm := Nat.mod_lt j hsz
  have hi : j / sz < xs.length := (Nat.div_lt_iff_lt_mul hsz).2 hlt
  have hu : (enc xs[j / sz])[j % sz]? = some u := by
    have h3 : j % sz < (enc xs[j / sz]).length := by rw [henc]; exact hm
    have h4 := gflat_at henc xs (j / sz) _ (List.getElem?_eq_getElem hi) (j % sz) _ (List.getElem?_eq_getElem h3)
    rw [Nat.mul_comm, hd, hj] at h4
    rw [List.getElem?_eq_getElem h3]; exact h4.symm
  have := hr (j / sz) _ (List.getElem?_eq_getElem hi) (j % sz) u hu
  rwa [Nat.add_assoc, Nat.mul_comm, hd] at this
/-- An element of a row of one's own is turned. -/
theorem gown_set {ad : Option Addr} {n c i : Nat} (henc : ∀ x, (enc x).length = sz) (h : w.ownsRow base T sz (.slice ad n c) xs.length (xs.flatMap enc)) (hi : i < xs.length) : ∃ g cs, ad = some ⟨g, 0, none⟩ ∧ n = xs.length ∧ Blk w g cs T ∧ i * sz + sz ≤ cs.length ∧ base ≤ g ∧
    ∀ w' x, Blk w' g (cs.take (i * sz) ++ enc x ++ cs.drop (i * sz + sz)) T → w'.ownsRow base T sz (.slice ad n c) xs.length ((xs.set i x).flatMap enc) := by
  have hfl := gflat_len henc xs
  rcases h.2 with ⟨he, h0⟩ | ⟨g, cap, cur, he, hb, hg, hc1, hc2, hc3, hc4⟩
  · omega
  · cases he
    have hcl : cur.toList.length = c * sz := by simpa using hc3
    have hle : (i + 1) * sz ≤ xs.length * sz := Nat.mul_le_mul_right _ hi
    have hle2 : xs.length * sz ≤ c * sz := Nat.mul_le_mul_right _ hc1
    rw [Nat.add_mul, Nat.one_mul] at hle
    refine ⟨g, cur.toList, rfl, rfl, by simpa [Blk] using hg, by omega, hb, fun w' x hB => ⟨?_, .inr ⟨g, c, (cur.toList.take (i * sz) ++ enc x ++ cur.toList.drop (i * sz + sz)).toArray, rfl, hb, hB, hc1, hc2, ?_, ?_⟩⟩⟩
    · rw [gflat_len henc, List.length_set]
    · simp only [List.size_toArray, List.length_append, List.length_take, List.length_drop, henc]
      omega
    · have e1 : (xs.set i x).flatMap enc = (xs.flatMap enc).take (i * sz) ++ enc x ++ (xs.flatMap enc).drop (i * sz + sz) := by
        have h1 : ∀ k, k ≤ xs.length → (xs.flatMap enc).take (k * sz) = (xs.take k).flatMap enc ∧ (xs.flatMap enc).drop (k * sz) = (xs.drop k).flatMap enc := fun k hk => by
          have e2 : xs.flatMap enc = (xs.take k).flatMap enc ++ (xs.drop k).flatMap enc := by rw [← List.flatMap_append, List.take_append_drop]
          have e3 : ((xs.take k).flatMap enc).length = k * sz := by rw [gflat_len henc, List.length_take, Nat.min_eq_left hk]
          rw [e2]
          exact ⟨by rw [← e3, List.take_left'  rfl], by rw [← e3, List.drop_left' rfl]⟩
        rw [(h1 i (by omega)).1, show i * sz + sz = (i + 1) * sz from by rw [Nat.add_mul, Nat.one_mul], (h1 (i + 1) (by omega)).2, List.set_eq_take_append_cons_drop, if_pos hi, List.flatMap_append, List.flatMap_cons, List.append_assoc]
      rw [e1, ← hc4, List.take_take, Nat.min_eq_left (by omega), List.drop_take]
      rw [List.take_append, List.take_append]
      simp only [List.length_append, List.length_take, henc, List.take_take]
      rw [Nat.min_eq_left (by omega : i * sz ≤ cur.toList.length), Nat.min_eq_right (by omega : i * sz ≤ xs.length * sz), List.take_of_length_le (l := enc x) (by rw [henc]; omega)]
end
/-! ### tables -/
/-- What a version tells of a table: its file, its level, its first and last key, its size. -/
structure Tb where
  f : Int
  l : Int
  a : ByteArray
  z : ByteArray
  s : Int
def cellsT (t : Tb) : List Value := [.int .i64 t.f, .int .i64 t.l, .string t.a, .string t.z, .int .i64 t.s]
theorem cellsT_len (t : Tb) : (cellsT t).length = 5 := rfl
theorem cellsT_one (t : Tb) : (cellsT t).all Value.oneCell' = true := rfl
theorem tflat_one {ts : List Tb} : ∀ u ∈ ts.flatMap cellsT, u.oneCell' = true := fun u hu => by
  obtain ⟨t, -, h⟩ := List.mem_flatMap.1 hu
  exact List.all_eq_true.1 (cellsT_one t) u h
abbrev TRow := GRow 5 cellsT
def TOwn (base : Nat) (w : World) (v : Value) (ts : List Tb) : Prop := w.ownsRow base 87 5 v ts.length (ts.flatMap cellsT)
theorem info87 : (Try.prog.info? 87).map (fun i => (i.zero, i.size, i.bytes)) = some (some (.agg #[.int .i64 0, .int .i64 0, .string ⟨#[]⟩, .string ⟨#[]⟩, .int .i64 0]), 5, 56) := by kernel_rfl
section
variable {base : Nat} {w w' : World} {v : Value} {ts : List Tb}
theorem TOwn.ext (h : TOwn base w v ts) (hx : Ext w w') : TOwn base w' v ts := ownsRow_keep h hx fun _ _ => trivial
theorem TOwn.keep {S : Nat → Prop} (h : TOwn base w v ts) (hk : Keep S w w') (hS : ∀ b, v.ownBlock = some b → S b) : TOwn base w' v ts := ownsRow_keep h hk hS
theorem TOwn.row (h : TOwn base w v ts) (hl : ts.length ≤ 1099511627776) : TRow (fun k => base ≤ k) w v ts := gown_row cellsT_len h hl
theorem TOwn.form (h : TOwn base w v ts) : ∃ ad c, v = .slice ad ts.length c ∧ ts.length ≤ c := by obtain ⟨ad, c, h, h1, -⟩ := owns_src h; exact ⟨ad, c, h, h1⟩
theorem TOwn.one (h : TOwn base w v ts) : v.oneCell' = true := by obtain ⟨ad, c, rfl, -⟩ := h.form; rfl
theorem TOwn.ge {b : Nat} (h : TOwn base w v ts) (hb : v.ownBlock = some b) : base ≤ b := (ownsRow_blk h hb).1
theorem TOwn.lt {b : Nat} (h : TOwn base w v ts) (hb : v.ownBlock = some b) : b < w.heap.size := by obtain ⟨-, cs, h2⟩ := ownsRow_blk h hb; exact h2.lt
theorem TOwn.ne {b b' : Nat} {cs : List Value} {T : TypeId} (h : TOwn base w v ts) (hb : v.ownBlock = some b) (hB : Blk w b' cs T) (hT : T ≠ 87) : b ≠ b' := by obtain ⟨-, cs', h2⟩ := ownsRow_blk h hb; exact h2.ne hB (fun e => hT e.symm)
theorem town_nil : TOwn base w (.slice none 0 0) [] := ⟨rfl, .inl ⟨rfl, rfl⟩⟩
end
/-- The tables of a level. -/
def levelL (ts : List Tb) (n : Int) : List Tb := ts.filter fun t => decide (t.l = n)
/-- The least first key, the greatest last one. -/
def stretchL (a z : ByteArray) (ts : List Tb) : ByteArray × ByteArray := (ts.foldl (fun m t => minB m t.a) a, ts.foldl (fun m t => maxB m t.z) z)
/-- A table that shares no key with a stretch. -/
def offB (first last : ByteArray) (t : Tb) : Bool := bl last.toList t.a.toList || bl t.z.toList first.toList
def overL (ts : List Tb) (n : Int) (first last : ByteArray) : List Tb := (levelL ts n).filter fun t => !offB first last t
theorem levelL_take {ts : List Tb} {n : Int} {s : Nat} (h : s < ts.length) : levelL (ts.take (s + 1)) n = levelL (ts.take s) n ++ if ts[s].l = n then [ts[s]] else [] := by
  unfold levelL
  rw [List.take_add_one, List.getElem?_eq_getElem h, List.filter_append]
  by_cases hl : ts[s].l = n <;> simp [hl]
theorem levelL_le (ts : List Tb) (n : Int) : (levelL ts n).length ≤ ts.length := List.length_filter_le _ _
theorem stretchL_take {a z : ByteArray} {ts : List Tb} {s : Nat} (h : s < ts.length) : stretchL a z (ts.take (s + 1)) = (minB (stretchL a z (ts.take s)).1 ts[s].a, maxB (stretchL a z (ts.take s)).2 ts[s].z) := by
  have e : ts.take (s + 1) = ts.take s ++ [ts[s]] := by rw [List.take_add_one, List.getElem?_eq_getElem h]; rfl
  unfold stretchL
  rw [e, List.foldl_append, List.foldl_append]
  rfl
/-- What deleting leaves, while it goes on: the first i are what is kept of the first j. -/
structure Kept (p : Tb → Bool) (ts es : List Tb) (i j : Nat) : Prop where
  len : es.length = ts.length
  le : i ≤ j ∧ j ≤ ts.length
  pre : es.take i = (ts.take j).filter fun t => !p t
  suf : es.drop j = ts.drop j
theorem Kept.at {p : Tb → Bool} {ts es : List Tb} {i j : Nat} (h : Kept p ts es i j) (hj : j < ts.length) : es[j]? = some ts[j] := by
  have h1 := congrArg (fun l => l[0]?) h.suf
  simp only [List.getElem?_drop, Nat.add_zero] at h1
  rw [h1, List.getElem?_eq_getElem hj]
theorem filter_take {p : Tb → Bool} {ts : List Tb} {j : Nat} (hj : j < ts.length) : (ts.take (j + 1)).filter (fun t => !p t) = (ts.take j).filter (fun t => !p t) ++ if p ts[j] then [] else [ts[j]] := by
  rw [List.take_add_one, List.getElem?_eq_getElem hj, List.filter_append]
  by_cases h : p ts[j] <;> simp [h]
theorem Kept.skip {p : Tb → Bool} {ts es : List Tb} {i j : Nat} (h : Kept p ts es i j) (hj : j < ts.length) (hp : p ts[j] = true) : Kept p ts es i (j + 1) := by
  refine ⟨h.len, ⟨by have := h.le; omega, hj⟩, ?_, ?_⟩
  · rw [filter_take hj, if_pos hp, List.append_nil]; exact h.pre
  · have := congrArg (List.drop 1) h.suf
    simpa [List.drop_drop] using this
theorem Kept.put {p : Tb → Bool} {ts es : List Tb} {i j : Nat} (h : Kept p ts es i j) (hj : j < ts.length) (hp : p ts[j] = false) : Kept p ts (es.set i ts[j]) (i + 1) (j + 1) := by
  obtain ⟨hij, hjl⟩ := h.le
  have hl := h.len
  refine ⟨by rw [List.length_set, hl], ⟨by omega, hj⟩, ?_, ?_⟩
  · rw [filter_take hj, if_neg (by rw [hp]; simp), ← h.pre, List.take_add_one, List.getElem?_set_self (by omega), List.take_set_of_le (Nat.le_refl _)]
    rfl
  · have := congrArg (List.drop 1) h.suf
    rw [List.drop_drop, List.drop_drop] at this
    rw [List.drop_set_of_lt (by omega)]
    exact this
theorem kept_start {p : Tb → Bool} {ts : List Tb} {i : Nat} (hi : i < ts.length) (hp : p ts[i] = true) (hno : ∀ (j : Nat) (h : j < ts.length), j < i → p ts[j] = false) : Kept p ts ts i (i + 1) := by
  refine ⟨rfl, ⟨by omega, hi⟩, ?_, rfl⟩
  rw [filter_take hi, if_pos hp, List.append_nil, List.filter_eq_self.2 fun t ht => ?_]
  obtain ⟨j, hj, rfl⟩ := List.getElem_of_mem ht
  have hj' : j < i := by simp at hj; omega
  rw [List.getElem_take, hno j (by omega) hj']; rfl
/-- What lies ahead of a place stands, whatever is written behind it. -/
theorem TOwn.front {base : Nat} {w : World} {ad : Option Addr} {n c i : Nat} {es : List Tb} (h : TOwn base w (.slice ad n c) es) (hi : i ≤ es.length) (hne : 0 < es.length) (hl : es.length ≤ 1099511627776) :
    ∃ g cs, ad = some ⟨g, 0, none⟩ ∧ n = es.length ∧ n ≤ c ∧ Blk w g cs 87 ∧ es.length * 5 ≤ cs.length ∧ base ≤ g ∧ ∀ w' cs', Blk w' g cs' 87 → cs'.take (i * 5) = cs.take (i * 5) → ∀ c', i ≤ c' → TRow (fun k => base ≤ k) w' (.slice (some ⟨g, 0, none⟩) i c') (es.take i) := by
  have hfl := gflat_len cellsT_len es
  rcases h.2 with ⟨he, h0⟩ | ⟨g, cap, cur, he, hb, hg, hc1, hc2, hc3, hc4⟩
  · omega
  · cases he
    have hcl : cur.toList.length = c * 5 := by simpa using hc3
    refine ⟨g, cur.toList, rfl, rfl, hc1, by simpa [Blk] using hg, by omega, hb, fun w' cs' hB ht c' hc' => ?_⟩
    have hlen : (es.take i).length = i := by simp; omega
    refine ⟨_, _, by rw [hlen], by omega, by omega, fun hne' => ⟨g, 0, rfl, hb, hB.lt, fun k x hk j u hj => ?_⟩⟩
    rw [List.getElem?_take] at hk
    split at hk
    · rename_i hki
      have h1 := gflat_at cellsT_len es k x hk j u hj
      have h5 : j < 5 := by have := (List.getElem?_eq_some_iff.1 hj).1; rw [cellsT_len] at this; exact this
      rw [← hc4, List.getElem?_take] at h1
      split at h1
      · have h2 : (cs'.take (i * 5))[k * 5 + j]? = some u := by
          rw [ht, List.getElem?_take, if_pos (by omega)]; exact h1
        rw [List.getElem?_take, if_pos (by omega)] at h2
        rw [Nat.zero_add]
        exact hB.cell h2
      · cases h1
    · cases hk
theorem offB_le {f l : ByteArray} {ts : List Tb} (h : ∀ t ∈ ts, offB f l t = false) : ts.filter (fun t => !offB f l t) = ts := List.filter_eq_self.2 fun t ht => by rw [h t ht]; rfl
end Go.Proofs.Ytblbddamebbgaaa.K
