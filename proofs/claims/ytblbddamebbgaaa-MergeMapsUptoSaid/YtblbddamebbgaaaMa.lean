/- Go maps of the call's own: made, read, written, gone over. -/
import Derived.Test.YtblbddamebbgaaaKf
import Derived.Maps.Own
import Derived.Maps.OwnOps
import Derived.Maps.Range
import Derived.Maps.Views
import Derived.Maps.Keyed
import Derived.StringKeys
namespace Go.Proofs.Ytblbddamebbgaaa.K
open Go Go.RowKit
set_option linter.unusedVariables false
set_option linter.unusedSectionVars false
set_option linter.unusedSimpArgs false

/-- A type of keys: how a key is a value, and a literal. -/
structure KT (P : Program) (kt : TypeId) (κ : Type) where
  ok : κ → Prop
  v : κ → Value
  l : κ → Lit
  key : ∀ k, ok k → keyOf P kt (v k) = some (l k)
  inj : ∀ a b, l a = l b → a = b
  inv : ∀ val lit, keyOf P kt val = some lit → ∃ k, ok k ∧ val = v k ∧ lit = l k
  keyed : Go.Maps.Keyed P kt
def KStr {P : Program} {kt : TypeId} (hk : P.underlying kt = some .string) : KT P kt ByteArray where
  ok s := s.size ≤ maxLen
  v s := .string s
  l s := .string s.data.toList
  key s h := WideMaps.keyOf_string_mk hk h
  inj a b h := by cases a; cases b; simp at h; rw [h]
  inv val lit h := by
    obtain ⟨s, h1, h2, h3⟩ := WideMaps.string_of_keyOf hk h
    exact ⟨s, h3, h1, h2⟩
  keyed := Go.Maps.string_keyed hk
def RV (v : Value) : Option (DataW Value × List MemPlace) := some (.held v, [])
/-- The map in block b, of at most n entries, tells f. -/
def MapIs {P : Program} {kt : TypeId} {κ : Type} (T : KT P kt κ) (w : World) (b n : Nat) (f : κ → Option Value) : Prop :=
  ∃ D : DataW Value, w.ownsMap P kt RV b n D ∧ Go.Maps.IsMap D ∧ ∀ k, T.ok k → ∀ zd, D.atKey (T.l k) zd = match f k with
    | some v => .held v
    | none => zd
section
variable {P : Program} {kt et t : TypeId} {κ : Type} {T : KT P kt κ} {w w' : World} {b n : Nat} {f : κ → Option Value}
theorem MapIs.lt (h : MapIs T w b n f) : b < w.heap.size := by obtain ⟨D, h, -⟩ := h; exact h.lt
theorem MapIs.keep {S : Nat → Prop} (h : MapIs T w b n f) (hk : Keep S w w') (hs : S b) : MapIs T w' b n f := by
  obtain ⟨D, ⟨es, clock, hb, h1, h2, h3⟩, h4, h5⟩ := h
  exact ⟨D, ⟨es, clock, (hk.block b (Array.getElem?_eq_some_iff.1 hb).1 hs).trans hb, h1, h2, h3⟩, h4, h5⟩
theorem MapIs.ext (h : MapIs T w b n f) (hk : Ext w w') : MapIs T w' b n f := h.keep hk trivial
theorem MapIs.noCells (h : MapIs T w b n f) : ∀ o, w.heap[b]? = some o → o.isCells = false := by
  obtain ⟨D, ⟨es, clock, hb, -⟩, -⟩ := h
  intro o ho
  rw [hb] at ho; cases ho; rfl
theorem MapIs.ne (h : MapIs T w b n f) : ∀ k, (∃ o, w.heap[k]? = some o ∧ o.isCells = true) → k ≠ b := by
  rintro k ⟨o, ho, hc⟩ rfl
  rw [h.noCells o ho] at hc; cases hc
theorem mapIs_new (T : KT P kt κ) (w : World) : MapIs T (w.alloc (.map #[] 0)) w.heap.size 0 (fun _ => none) :=
  ⟨_, World.ownsMap_made w P kt RV, Go.Maps.isMap_empty, fun k _ zd => rfl⟩
theorem MapIs.look (c : Bool) (h : MapIs T w b n f) (ht : P.underlying t = some (.map kt et)) {z : Value} (hz : (zeroValue et).run P w = .ok z w) {k : κ} (hk : T.ok k) :
    (Instr.lookup t (.map (some b)) (T.v k) c).run P w = .ok (if c then .tuple #[(f k).getD z, .bool (f k).isSome] else (f k).getD z) w := by
  obtain ⟨D, ⟨es, clock, hb, F, hs, rfl⟩, -, hf⟩ := h
  have hfk := hf k hk
  rcases Go.Maps.fit_look c T.keyed ht hz hb F (T.key k hk) with ⟨hrun, -, hat⟩ | ⟨e0, y, -, -, hrun, hRv, hat, -⟩
  · have h1 := (hat .nil).symm.trans (hfk .nil)
    cases hfe : f k with
    | none => rw [hrun]; rfl
    | some v => rw [hfe] at h1; cases h1
  · have h1 := (hat .nil).symm.trans (hfk .nil)
    cases hRv
    cases hfe : f k with
    | none => rw [hfe] at h1; cases h1
    | some v => rw [hfe] at h1; cases h1; rw [hrun]; rfl
theorem MapIs.put (h : MapIs T w b n f) (ht : P.underlying t = some (.map kt et)) (hn : n < maxLen) {k : κ} (hk : T.ok k) (v : Value) [DecidableEq κ] :
    ∃ w', (Instr.mapUpdate t (.map (some b)) (T.v k) v).run P w = .ok () w' ∧ MapIs T w' b (n + 1) (fun x => if x = k then some v else f x) ∧ Keep (· ≠ b) w w' := by
  obtain ⟨D, ho, hm, hf⟩ := h
  obtain ⟨w', hr, h1, h2⟩ := ho.update T.keyed ht hn (T.key k hk) (d := .held v) (ps := []) (val := v) rfl
  refine ⟨w', hr, ⟨_, h1, hm.put _ _, fun x hx zd => ?_⟩, (Keep.grown h2).mono fun j _ hj e => by cases e; exact hj rfl⟩
  by_cases e : x = k
  · subst e
    show _ = match (if x = x then some v else f x) with
      | some v => DataW.held v
      | none => zd
    rw [if_pos rfl]
    exact Go.Maps.atKey_put_same hm (T.keyed.key (T.key x hx)) _ _
  · show _ = match (if x = k then some v else f x) with
      | some v => DataW.held v
      | none => zd
    rw [if_neg e, Go.Maps.atKey_put_other (fun h => e (T.inj _ _ h))]
    exact hf x hx zd
end
section
variable {F : Fence} {nn : Nat} {P : Program} {Q : Exit → Act → World → Prop} {m : Nat} {D : List Deferred} {L : Env} {w w' : World} {ops rest : List Oper} {d : Nat} {ty kt et t : TypeId} {pos : String} {af : Array Edge} {g : Option (Nat × Bool)} {x y z : Operand} {κ : Type} {T : KT P kt κ} {b n : Nat} {f : κ → Option Value}
theorem wl_makeMap (T : KT P kt κ) (hW : Wd F) (hg : wants L ops g = some true) (hd : Nat.blt d m = true) (k : ∀ b w', w.heap.size ≤ b → MapIs T w' b 0 (fun _ => none) → Ext w w' → WL F nn P Q m D ops rest ((d, .map (some b)) :: L) w') :
    WL F nn P Q m D ops (⟨some d, .makeMap t none, ty, pos, af, g⟩ :: rest) L w :=
  wl_val hW hg hd ⟨nofun, fun _ _ _ _ a h => by simp [execOp, run_makeMap]⟩ (k w.heap.size _ (Nat.le_refl _) (mapIs_new T w) (ext_alloc w _))
theorem x_lookup {c : Bool} {k : κ} {zv : Value} (hM : MapIs T w b n f) (ht : P.underlying t = some (.map kt et)) (hz : ∀ w, (zeroValue et).run P w = .ok zv w) (hx : ev L x = some (.map (some b))) (hy : ev L y = some (T.v k)) (hk : T.ok k) :
    Xv P m D L (.lookup t x y c) ty w (if c then .tuple #[(f k).getD zv, .bool (f k).isSome] else (f k).getD zv) w :=
  ⟨nofun, fun _ _ _ _ a h => by simp [execOp, h.ev hx, h.ev hy, hM.look c ht (hz w) hk]⟩
theorem x_lookupOk {k : κ} {zv v1 : Value} {s1 : Bool} (hM : MapIs T w b n f) (ht : P.underlying t = some (.map kt et)) (hz : ∀ w, (zeroValue et).run P w = .ok zv w) (hx : ev L x = some (.map (some b))) (hy : ev L y = some (T.v k)) (hk : T.ok k) (h1 : (f k).getD zv = v1) (h2 : (f k).isSome = s1) :
    Xv P m D L (.lookup t x y true) ty w (.tuple #[v1, .bool s1]) w := by
  have := x_lookup (m := m) (D := D) (c := true) (ty := ty) hM ht hz hx hy hk
  rw [h1, h2] at this; exact this
theorem x_lookup1 {k : κ} {zv v1 : Value} (hM : MapIs T w b n f) (ht : P.underlying t = some (.map kt et)) (hz : ∀ w, (zeroValue et).run P w = .ok zv w) (hx : ev L x = some (.map (some b))) (hy : ev L y = some (T.v k)) (hk : T.ok k) (h1 : (f k).getD zv = v1) :
    Xv P m D L (.lookup t x y false) ty w v1 w := by
  have := x_lookup (m := m) (D := D) (c := false) (ty := ty) hM ht hz hx hy hk
  rw [h1] at this; exact this
theorem wl_mapUpdate [DecidableEq κ] {k : κ} {v : Value} (hW : Wd F) (hg : wants L ops g = some true) (hM : MapIs T w b n f) (ht : P.underlying t = some (.map kt et)) (hn : n < maxLen) (hx : ev L x = some (.map (some b))) (hy : ev L y = some (T.v k)) (hz : ev L z = some v) (hk : T.ok k)
    (kk : ∀ w', MapIs T w' b (n + 1) (fun x => if x = k then some v else f x) → Keep (· ≠ b) w w' → WL F nn P Q m D ops rest L w') : WL F nn P Q m D ops (⟨none, .mapUpdate t x y z, ty, pos, af, g⟩ :: rest) L w := by
  obtain ⟨w', hr, h1, h2⟩ := hM.put ht hn hk v
  refine wl_none hW hg (w' := w') ⟨nofun, fun _ _ _ _ a h => ?_⟩ (kk w' h1 h2)
  simp [execOp, h.ev hx, h.ev hy, h.ev hz, hr, Result.andThen]
end

/-! ### going over a map -/
/-- The map in block b tells f; the iterator in block r goes over it: of the keys of 'left' it has not told yet; cnt: how many. -/
def RangeIs {P : Program} {kt : TypeId} {κ : Type} (T : KT P kt κ) (w : World) (b r n : Nat) (f : κ → Option Value) (left : κ → Bool) (cnt : Nat) : Prop :=
  ∃ (D : DataW Value) (lf : Lit → Bool), w.ranges P kt RV b r n D lf cnt ∧ Go.Maps.IsMap D ∧ (∀ k, T.ok k → ∀ zd, D.atKey (T.l k) zd = match f k with
    | some v => .held v
    | none => zd) ∧ ∀ k, T.ok k → lf (T.l k) = left k
section
variable {P : Program} {kt et t : TypeId} {κ : Type} {T : KT P kt κ} {w w' : World} {b r n cnt : Nat} {f : κ → Option Value} {left : κ → Bool}
theorem RangeIs.map (h : RangeIs T w b r n f left cnt) : MapIs T w b n f := by
  obtain ⟨D, lf, h1, h2, h3, h4⟩ := h
  exact ⟨D, h1.owns, h2, h3⟩
theorem RangeIs.keep {S : Nat → Prop} (h : RangeIs T w b r n f left cnt) (hk : Keep S w w') (hb : S b) (hr : S r) : RangeIs T w' b r n f left cnt := by
  obtain ⟨D, lf, h1, h2, h3, h4⟩ := h
  obtain ⟨es, clock, since, seen, c0, g1, g2, g3, g4, g5, g6⟩ := h1
  exact ⟨D, lf, ⟨es, clock, since, seen, c0, (hk.block b (Array.getElem?_eq_some_iff.1 g1).1 hb).trans g1, g2, g3, g4, (hk.block r (Array.getElem?_eq_some_iff.1 g5).1 hr).trans g5, g6⟩, h2, h3, h4⟩
theorem RangeIs.ner (h : RangeIs T w b r n f left cnt) : ∀ k, (∃ o, w.heap[k]? = some o ∧ o.isCells = true) → k ≠ r := by
  obtain ⟨D, lf, ⟨es, clock, since, seen, c0, g1, g2, g3, g4, g5, g6⟩, h2, h3, h4⟩ := h
  rintro k ⟨o, ho, hc⟩ rfl
  rw [g5] at ho; cases ho; cases hc
theorem RangeIs.ext (h : RangeIs T w b r n f left cnt) (hk : Ext w w') : RangeIs T w' b r n f left cnt := h.keep hk trivial trivial
theorem MapIs.range (h : MapIs T w b n f) (ht : P.underlying t = some (.map kt et)) : ∃ w' cnt, (Instr.range t (.map (some b))).run P w = .ok (.pointer (some ⟨w.heap.size, 0, none⟩)) w' ∧ RangeIs T w' b w.heap.size n f (fun k => (f k).isSome) cnt ∧ Ext w w' := by
  obtain ⟨D, ho, hm, hf⟩ := h
  obtain ⟨w', hr, h1, h2, h3⟩ := ho.range T.keyed ht
  refine ⟨w', _, hr, ⟨D, _, h1, hm, hf, fun k hk => ?_⟩, (Keep.grown h2).mono fun _ _ _ => by simp⟩
  obtain ⟨es, rfl⟩ := hm
  have h0 := hf k hk .nil
  have h9 := hf k hk (.lit (.bool true))
  rw [Go.Maps.has_eq]
  simp only [DataW.atKey] at h0 h9
  cases hfd : es.find? (fun p => p.1.sameKey (T.l k)) with
  | none =>
    rw [hfd] at h0
    have : es.any (fun p => p.1.sameKey (T.l k)) = false := by
      rw [List.find?_eq_none] at hfd
      exact List.any_eq_false.2 hfd
    rw [this]
    show false = (f k).isSome
    cases hfe : f k with
    | none => rfl
    | some v => rw [hfe] at h0; cases h0
  | some p =>
    rw [hfd] at h0 h9
    have : es.any (fun p => p.1.sameKey (T.l k)) = true := List.any_eq_true.2 ⟨p, List.mem_of_find?_eq_some hfd, (List.find?_some (p := fun p : Lit × DataW Value => p.1.sameKey (T.l k)) hfd)⟩
    rw [this]
    show true = (f k).isSome
    cases hfe : f k with
    | none => rw [hfe] at h0 h9; simp only at h0 h9; rw [h0] at h9; cases h9
    | some v => rfl
/-- One step of the iterator. -/
theorem RangeIs.next (h : RangeIs T w b r n f left cnt) (ty : TypeId) [DecidableEq κ] :
    (cnt = 0 ∧ (∀ k, T.ok k → left k = false) ∧ (Instr.next (.pointer (some ⟨r, 0, none⟩)) false ty).run P w = .ok (.tuple #[.bool false]) w) ∨
    ∃ k v w' cnt', T.ok k ∧ left k = true ∧ f k = some v ∧ (Instr.next (.pointer (some ⟨r, 0, none⟩)) false ty).run P w = .ok (.tuple #[.bool true, T.v k, v]) w' ∧ RangeIs T w' b r n f (fun x => left x && !decide (x = k)) cnt' ∧ cnt' < cnt ∧ Keep (· ≠ r) w w' ∧ (Instr.entry (.pointer (some ⟨r, 0, none⟩))).run P w' = .ok (.tuple #[T.v k, v]) w' := by
  obtain ⟨D, lf, h1, h2, h3, h4⟩ := h
  rcases h1.next T.keyed ty with ⟨g1, g2, g3⟩ | ⟨key, v, kl, y, w', cnt', g1, g2, g3, g4, g5, g6, g7, g8, g9, g10⟩
  · exact .inl ⟨g1, fun k hk => by rw [← h4 k hk]; exact g2 _, g3⟩
  · obtain ⟨k, hk, rfl, rfl⟩ := T.inv _ _ g1
    cases g3
    refine .inr ⟨k, v, w', cnt', hk, by rw [← h4 k hk]; exact g2, ?_, g5, ⟨D, _, g6, h2, h3, fun x hx => ?_⟩, g7, (Keep.grown g8).mono fun j _ hj e => by cases e; exact hj rfl, g10⟩
    · have h0 := (g4 .nil).symm.trans (h3 k hk .nil)
      cases hfe : f k with
      | none => rw [hfe] at h0; cases h0
      | some v' => rw [hfe] at h0; cases h0; rfl
    · show (lf (T.l x) && !(T.l x).sameKey (T.l k)) = _
      rw [h4 x hx]
      congr 2
      by_cases e : x = k
      · subst e; rw [decide_eq_true rfl]; exact WideAt.sameKey_self (T.keyed.key (T.key x hx))
      · rw [decide_eq_false e]; exact Go.Maps.sameKey_ne fun h => e (T.inj _ _ h)
end
section
variable {F : Fence} {nn : Nat} {P : Program} {Q : Exit → Act → World → Prop} {m : Nat} {D : List Deferred} {L : Env} {w w' : World} {ops rest : List Oper} {d : Nat} {ty kt et t : TypeId} {pos : String} {af : Array Edge} {g : Option (Nat × Bool)} {x y z : Operand} {κ : Type} {T : KT P kt κ} {b r n cnt : Nat} {f : κ → Option Value} {left : κ → Bool}
theorem wl_rangeM (hW : Wd F) (hg : wants L ops g = some true) (hd : Nat.blt d m = true) (hM : MapIs T w b n f) (ht : P.underlying t = some (.map kt et)) (hx : ev L x = some (.map (some b)))
    (k : ∀ r w' cnt, w.heap.size ≤ r → RangeIs T w' b r n f (fun k => (f k).isSome) cnt → Ext w w' → WL F nn P Q m D ops rest ((d, .pointer (some ⟨r, 0, none⟩)) :: L) w') : WL F nn P Q m D ops (⟨some d, .range t x, ty, pos, af, g⟩ :: rest) L w := by
  obtain ⟨w', cnt, hr, h1, h2⟩ := hM.range ht
  exact wl_val hW hg hd ⟨nofun, fun _ _ _ _ a h => by simp [execOp, h.ev hx, hr]⟩ (k w.heap.size w' cnt (Nat.le_refl _) h1 h2)
theorem wl_nextM [DecidableEq κ] (hW : Wd F) (hg : wants L ops g = some true) (hd : Nat.blt d m = true) (hR : RangeIs T w b r n f left cnt) (hx : ev L x = some (.pointer (some ⟨r, 0, none⟩)))
    (k0 : cnt = 0 → (∀ k, T.ok k → left k = false) → WL F nn P Q m D ops rest ((d, .tuple #[.bool false]) :: L) w)
    (k1 : ∀ k v w' cnt', T.ok k → left k = true → f k = some v → RangeIs T w' b r n f (fun x => left x && !decide (x = k)) cnt' → cnt' < cnt → Keep (· ≠ r) w w' → (Instr.entry (.pointer (some ⟨r, 0, none⟩))).run P w' = .ok (.tuple #[T.v k, v]) w' → WL F nn P Q m D ops rest ((d, .tuple #[.bool true, T.v k, v]) :: L) w') :
    WL F nn P Q m D ops (⟨some d, .next x false, ty, pos, af, g⟩ :: rest) L w := by
  rcases hR.next ty with ⟨h1, h2, h3⟩ | ⟨k, v, w', cnt', h1, h2, h3, h4, h5, h6, h7, h8⟩
  · exact wl_val hW hg hd ⟨nofun, fun _ _ _ _ a h => by simp [execOp, h.ev hx, h3]⟩ (k0 h1 h2)
  · exact wl_val hW hg hd ⟨nofun, fun _ _ _ _ a h => by simp [execOp, h.ev hx, h4]⟩ (k1 k v w' cnt' h1 h2 h3 h5 h6 h7 h8)
theorem x_entry {k v : Value} (hx : ev L x = some (.pointer (some ⟨r, 0, none⟩))) (he : (Instr.entry (.pointer (some ⟨r, 0, none⟩))).run P w = .ok (.tuple #[k, v]) w) : Xv P m D L (.entry x) ty w (.tuple #[k, v]) w :=
  ⟨nofun, fun _ _ _ _ a h => by simp [execOp, h.ev hx, he]⟩
end

/-! ### maps from strings to entries -/
noncomputable def TS : KT Try.prog 9 ByteArray := KStr Try.underlying9
/-- What the map's values are: the entries that g tells. -/
def MEnt (w : World) (f : ByteArray → Option Value) (g : ByteArray → Option Ent) : Prop := ∀ k, match g k with
  | some e => ∃ bv, f k = some (.agg (cellsOf e bv).toArray) ∧ Byts (fun _ => True) w bv e.v
  | none => f k = none
def zAgg : Value := .agg (cellsOf z0 (.slice none 0 0)).toArray
theorem MEnt.ext {w w' : World} {f : ByteArray → Option Value} {g : ByteArray → Option Ent} (h : MEnt w f g) (hx : Ext w w') : MEnt w' f g := fun k => by
  have := h k
  cases hg : g k with
  | none => rw [hg] at this; exact this
  | some e =>
    rw [hg] at this
    obtain ⟨bv, h1, h2⟩ := this
    exact ⟨bv, h1, h2.ext hx⟩
theorem MEnt.keep {S : Nat → Prop} {w w' : World} {f : ByteArray → Option Value} {g : ByteArray → Option Ent} (h : MEnt w f g) (hx : Keep S w w') (hc : ∀ k, (∃ o, w.heap[k]? = some o ∧ o.isCells = true) → S k) : MEnt w' f g := fun k => by
  have := h k
  cases hg : g k with
  | none => rw [hg] at this; exact this
  | some e =>
    rw [hg] at this
    obtain ⟨bv, h1, h2⟩ := this
    refine ⟨bv, h1, h2.ck fun ad v _ hcell => hx.cell hcell (hc _ ?_)⟩
    unfold World.cell? at hcell
    split at hcell
    · rename_i c t fr ho; exact ⟨_, ho, rfl⟩
    · cases hcell
theorem MEnt.look {w : World} {f : ByteArray → Option Value} {g : ByteArray → Option Ent} (h : MEnt w f g) (k : ByteArray) : ∃ (ye : Ent) (ya : Option Addr) (yc : Nat), (f k).getD zAgg = .agg (cellsOf ye (.slice ya ye.v.length yc)).toArray ∧ Byts (fun _ => True) w (.slice ya ye.v.length yc) ye.v ∧ (f k).isSome = (g k).isSome ∧ ∀ e, g k = some e → ye = e := by
  have := h k
  cases hg : g k with
  | none =>
    rw [hg] at this
    have hf : f k = none := this
    exact ⟨z0, none, 0, by rw [hf]; rfl, byts_nil _ _, by rw [hf]; rfl, fun e h => by cases h⟩
  | some e =>
    rw [hg] at this
    obtain ⟨bv, h1, h2⟩ := this
    obtain ⟨a, c, rfl, -⟩ := h2.form
    exact ⟨e, a, c, by rw [h1]; rfl, h2, by rw [h1]; rfl, fun e' h' => by cases h'; rfl⟩
end Go.Proofs.Ytblbddamebbgaaa.K
