/- The data of glacier's entries: how a list of entries lies in memory. -/
import Derived.Test.YtblbddamebbgaaaKe
import Derived.Maps.AppendAt
namespace Go.Proofs.Ytblbddamebbgaaa.K
open Go Go.RowKit
set_option linter.unusedVariables false
set_option linter.unusedSectionVars false
set_option linter.unusedSimpArgs false

/-- An entry: key, number, gone, value. -/
structure Ent where
  k : ByteArray
  s : Int
  g : Bool
  v : List UInt8
def z0 : Ent := ⟨⟨#[]⟩, 0, false, []⟩
/-- Its numbers are of their kinds. -/
structure EntOk (e : Ent) : Prop where
  s0 : 0 ≤ e.s
  s1 : e.s ≤ 18446744073709551615
  k : e.k.size ≤ 1048576
  v : e.v.length ≤ 1048576

/-- What is held of cells of A's blocks holds on. -/
def CK (A : Nat → Prop) (w w' : World) : Prop := ∀ ad v, A ad.block → w.cell? ad = some v → w'.cell? ad = some v
theorem CK.of_keep {A S : Nat → Prop} {w w' : World} (h : Keep S w w') (hs : ∀ k, k < w.heap.size → A k → S k) : CK A w w' := fun ad v ha hc => h.cell hc (hs _ (World.block_lt_of_cell? w _ hc) ha)
theorem CK.of_ext {A : Nat → Prop} {w w' : World} (h : Ext w w') : CK A w w' := CK.of_keep h fun _ _ _ => trivial
theorem CK.of_nc {A : Nat → Prop} {B : Nat} {w w' : World} (h : Nc B w w') : CK A w w' := fun _ _ _ hc => h.cell hc

/-- The slice v holds the bytes l, in a block of A. -/
def Byts (A : Nat → Prop) (w : World) (v : Value) (l : List UInt8) : Prop :=
  ∃ ad cap, v = .slice ad l.length cap ∧ l.length ≤ cap ∧ (l ≠ [] → ∃ b o, ad = some ⟨b, o, none⟩ ∧ A b ∧ ∀ i u, l[i]? = some u → w.cell? ⟨b, o + i, none⟩ = some (.int .u8 u.toNat))
section
variable {A A' : Nat → Prop} {w w' : World} {v bv : Value} {l : List UInt8}
theorem Byts.ck (h : Byts A w v l) (hk : CK A w w') : Byts A w' v l := by
  obtain ⟨ad, cap, rfl, hc, h⟩ := h
  refine ⟨ad, cap, rfl, hc, fun hne => ?_⟩
  obtain ⟨b, o, rfl, hA, hcell⟩ := h hne
  exact ⟨b, o, rfl, hA, fun i u hi => hk _ _ hA (hcell i u hi)⟩
theorem Byts.ext (h : Byts A w v l) (hk : Ext w w') : Byts A w' v l := h.ck (CK.of_ext hk)
theorem Byts.mono (h : Byts A w v l) (hA : ∀ k, k < w.heap.size → A k → A' k) : Byts A' w v l := by
  obtain ⟨ad, cap, rfl, hc, h⟩ := h
  refine ⟨ad, cap, rfl, hc, fun hne => ?_⟩
  obtain ⟨b, o, rfl, hAb, hcell⟩ := h hne
  refine ⟨b, o, rfl, hA b ?_ hAb, hcell⟩
  cases l with
  | nil => exact absurd rfl hne
  | cons u l => exact World.block_lt_of_cell? w _ (hcell 0 u rfl)
theorem byts_nil (A : Nat → Prop) (w : World) : Byts A w (.slice none 0 0) [] := ⟨none, 0, rfl, Nat.le_refl _, fun h => absurd rfl h⟩
theorem Byts.one (h : Byts A w v l) : v.oneCell' = true := by obtain ⟨ad, cap, rfl, _⟩ := h; rfl
end

/-- An entry's four cells. -/
def cellsOf (e : Ent) (bv : Value) : List Value := [.string e.k, .int .u64 e.s, .bool e.g, bv]
/-- An entry as a value. -/
def EntV (A : Nat → Prop) (w : World) (v : Value) (e : Ent) : Prop := ∃ bv, v = .agg (cellsOf e bv).toArray ∧ Byts A w bv e.v
/-- Elements from cell o of block b on. -/
def RowAt (A : Nat → Prop) (w : World) (b o : Nat) (es : List Ent) : Prop := ∀ i e, es[i]? = some e → ∃ bv, Cells w b (o + i * 4) (cellsOf e bv) ∧ Byts A w bv e.v
/-- The slice v holds the entries es, in blocks of A. -/
def Row (A : Nat → Prop) (w : World) (v : Value) (es : List Ent) : Prop :=
  ∃ ad cap, v = .slice ad es.length cap ∧ es.length ≤ cap ∧ es.length ≤ 1099511627776 ∧ (∀ e ∈ es, EntOk e) ∧ (es ≠ [] → ∃ b o, ad = some ⟨b, o, none⟩ ∧ A b ∧ RowAt A w b o es)
section
variable {A A' : Nat → Prop} {w w' : World} {v bv : Value} {es : List Ent} {e : Ent}
theorem EntV.ck (h : EntV A w v e) (hk : CK A w w') : EntV A w' v e := by obtain ⟨bv, rfl, hb⟩ := h; exact ⟨bv, rfl, hb.ck hk⟩
theorem EntV.ext (h : EntV A w v e) (hk : Ext w w') : EntV A w' v e := h.ck (CK.of_ext hk)
theorem EntV.mono (h : EntV A w v e) (hA : ∀ k, k < w.heap.size → A k → A' k) : EntV A' w v e := by obtain ⟨bv, rfl, hb⟩ := h; exact ⟨bv, rfl, hb.mono hA⟩
theorem Cells.ck {b o : Nat} {cs : List Value} (h : Cells w b o cs) (hA : A b) (hk : CK A w w') : Cells w' b o cs := fun j v hj => hk _ _ hA (h j v hj)
theorem Cells.ext {b o : Nat} {cs : List Value} (h : Cells w b o cs) (hk : Ext w w') : Cells w' b o cs := fun j v hj => hk.cell (h j v hj)
theorem RowAt.ck {b o : Nat} (h : RowAt A w b o es) (hA : A b) (hk : CK A w w') : RowAt A w' b o es := fun i e hi => by
  obtain ⟨bv, h1, h2⟩ := h i e hi
  exact ⟨bv, h1.ck hA hk, h2.ck hk⟩
theorem Row.ck (h : Row A w v es) (hk : CK A w w') : Row A w' v es := by
  obtain ⟨ad, cap, rfl, h1, h2, h3, h⟩ := h
  refine ⟨ad, cap, rfl, h1, h2, h3, fun hne => ?_⟩
  obtain ⟨b, o, rfl, hA, hr⟩ := h hne
  exact ⟨b, o, rfl, hA, hr.ck hA hk⟩
theorem Row.ext (h : Row A w v es) (hk : Ext w w') : Row A w' v es := h.ck (CK.of_ext hk)
theorem Row.mono (h : Row A w v es) (hA : ∀ k, k < w.heap.size → A k → A' k) : Row A' w v es := by
  obtain ⟨ad, cap, rfl, h1, h2, h3, h⟩ := h
  refine ⟨ad, cap, rfl, h1, h2, h3, fun hne => ?_⟩
  obtain ⟨b, o, rfl, hAb, hr⟩ := h hne
  have hb : b < w.heap.size := by
    cases es with
    | nil => exact absurd rfl hne
    | cons e es =>
      obtain ⟨bv, hc, -⟩ := hr 0 e rfl
      exact World.block_lt_of_cell? w _ (hc 0 _ rfl)
  exact ⟨b, o, rfl, hA b hb hAb, fun i e hi => by obtain ⟨bv, h4, h5⟩ := hr i e hi; exact ⟨bv, h4, h5.mono hA⟩⟩
/-- Element i: where it lies. -/
theorem Row.at (h : Row A w v es) (i : Nat) (hi : i < es.length) : ∃ b o cap bv, v = .slice (some ⟨b, o, none⟩) es.length cap ∧ A b ∧ Cells w b (o + i * 4) (cellsOf es[i] bv) ∧ Byts A w bv es[i].v ∧ EntOk es[i] := by
  obtain ⟨ad, cap, rfl, h1, h2, h3, h⟩ := h
  obtain ⟨b, o, rfl, hA, hr⟩ := h (by intro e; rw [e] at hi; simp at hi)
  obtain ⟨bv, h4, h5⟩ := hr i es[i] (List.getElem?_eq_getElem hi)
  exact ⟨b, o, cap, bv, rfl, hA, h4, h5, h3 _ (List.getElem_mem hi)⟩
theorem Row.form (h : Row A w v es) : ∃ ad cap, v = .slice ad es.length cap ∧ es.length ≤ cap ∧ es.length ≤ 1099511627776 := by
  obtain ⟨ad, cap, rfl, h1, h2, -⟩ := h
  exact ⟨ad, cap, rfl, h1, h2⟩
theorem Row.ok (h : Row A w v es) : ∀ e ∈ es, EntOk e := by obtain ⟨ad, cap, rfl, h1, h2, h3, -⟩ := h; exact h3
theorem row_nil (A : Nat → Prop) (w : World) : Row A w (.slice none 0 0) [] := ⟨none, 0, rfl, Nat.le_refl _, by simp, by simp, fun h => absurd rfl h⟩
end

/-! ### a row of the call's own -/
def flat : List Ent → List Value → List Value
  | e :: es, bv :: bvs => cellsOf e bv ++ flat es bvs
  | _, _ => []
theorem flat_len : ∀ (es : List Ent) (bvs : List Value), bvs.length = es.length → (flat es bvs).length = es.length * 4
  | [], _, _ => by simp [flat]
  | e :: es, [], h => by simp at h
  | e :: es, bv :: bvs, h => by simp [flat, cellsOf, flat_len es bvs (by simpa using h)]; omega
theorem flat_snoc (e : Ent) (bv : Value) : ∀ (es : List Ent) (bvs : List Value), bvs.length = es.length → flat (es ++ [e]) (bvs ++ [bv]) = flat es bvs ++ cellsOf e bv
  | [], [], _ => by simp [flat]
  | [], b :: bvs, h => by simp at h
  | x :: es, [], h => by simp at h
  | x :: es, b :: bvs, h => by simp [flat, flat_snoc e bv es bvs (by simpa using h)]
theorem flat_at : ∀ (es : List Ent) (bvs : List Value) (i : Nat) (e : Ent) (bv : Value), bvs.length = es.length → es[i]? = some e → bvs[i]? = some bv → ∀ j v, (cellsOf e bv)[j]? = some v → (flat es bvs)[i * 4 + j]? = some v
  | [], _, i, e, bv, _, h, _, _, _, _ => by simp at h
  | x :: es, [], i, e, bv, h, _, _, _, _, _ => by simp at h
  | x :: es, b :: bvs, 0, e, bv, h, h1, h2, j, v, hj => by
    simp at h1 h2; subst h1; subst h2
    have : j < 4 := by have := (List.getElem?_eq_some_iff.1 hj).1; simpa [cellsOf] using this
    simp only [flat]
    rw [List.getElem?_append_left (by simp [cellsOf]; omega)]
    simpa using hj
  | x :: es, b :: bvs, i + 1, e, bv, h, h1, h2, j, v, hj => by
    simp only [flat]
    rw [List.getElem?_append_right (by simp [cellsOf]; omega)]
    have : (i + 1) * 4 + j - (cellsOf x b).length = i * 4 + j := by simp [cellsOf]; omega
    rw [this]
    exact flat_at es bvs i e bv (by simpa using h) (by simpa using h1) (by simpa using h2) j v hj
/-- The slice v is nil, or lies at the head of a block of entries from block number base on; what its elements lead to lies elsewhere. -/
structure OwnE (A : Nat → Prop) (base : Nat) (w : World) (v : Value) (es : List Ent) : Prop where
  ex : ∃ bvs, bvs.length = es.length ∧ w.ownsRow base 25 4 v es.length (flat es bvs) ∧ ∀ (i : Nat) (e : Ent) (bv : Value), es[i]? = some e → bvs[i]? = some bv → Byts (fun k => A k ∧ some k ≠ v.ownBlock) w bv e.v
  ok : ∀ e ∈ es, EntOk e
section
variable {A : Nat → Prop} {base : Nat} {w w' : World} {v bv : Value} {es : List Ent} {e : Ent}
theorem own_nil (A : Nat → Prop) (base : Nat) (w : World) : OwnE A base w (.slice none 0 0) [] := ⟨⟨[], rfl, World.ownsRow_nil w base 25 4, fun i e bv h => by simp at h⟩, by simp⟩
theorem ownsRow_ck {n : Nat} {xs : List Value} (h : w.ownsRow base 25 4 v n xs) (hk : ∀ b cs, v.ownBlock = some b → w.heap[b]? = some (.cells cs 25 (0, 0)) → w'.heap[b]? = some (.cells cs 25 (0, 0))) : w'.ownsRow base 25 4 v n xs := by
  refine ⟨h.1, ?_⟩
  rcases h.2 with ⟨h1, h2⟩ | ⟨g, cap, cur, rfl, hb, hg, h1⟩
  · exact .inl ⟨h1, h2⟩
  · exact .inr ⟨g, cap, cur, rfl, hb, hk g cur rfl hg, h1⟩
theorem OwnE.nc {B : Nat} (h : OwnE A base w v es) (hn : Nc B w w') : OwnE A base w' v es := by
  obtain ⟨⟨bvs, h1, h2, h3⟩, h4⟩ := h
  refine ⟨⟨bvs, h1, ownsRow_ck h2 (fun b cs _ hb => ?_), fun i e bv hi hj => (h3 i e bv hi hj).ck (CK.of_nc hn)⟩, h4⟩
  exact Blk.nc (cs := cs.toList) (by simpa [Blk] using hb) hn |> fun h => by simpa [Blk] using h
theorem OwnE.keep {S : Nat → Prop} (h : OwnE A base w v es) (hk : Keep S w w') (hv : ∀ b, v.ownBlock = some b → S b) (hA : ∀ k, k < w.heap.size → A k → S k) : OwnE A base w' v es := by
  obtain ⟨⟨bvs, h1, h2, h3⟩, h4⟩ := h
  exact ⟨⟨bvs, h1, ownsRow_ck h2 (fun b cs hb hc => (hk.block b (Array.getElem?_eq_some_iff.1 hc).1 (hv b hb)).trans hc), fun i e bv hi hj => (h3 i e bv hi hj).ck (CK.of_keep hk (fun k hk' h => hA k hk' h.1))⟩, h4⟩
theorem OwnE.ext (h : OwnE A base w v es) (hk : Ext w w') : OwnE A base w' v es := h.keep hk (fun _ _ => trivial) (fun _ _ _ => trivial)
theorem OwnE.lt (h : OwnE A base w v es) : ∀ b, v.ownBlock = some b → base ≤ b ∧ b < w.heap.size := by obtain ⟨⟨bvs, h1, h2, h3⟩, h4⟩ := h; exact h2.lt
/-- The row's block is one of entries. -/
theorem OwnE.ne {b : Nat} {cs : List Value} {t : TypeId} (h : OwnE A base w v es) (hB : Blk w b cs t) (ht : t ≠ 25) : ∀ b', v.ownBlock = some b' → b' ≠ b := by
  obtain ⟨⟨bvs, h1, h2, h3⟩, h4⟩ := h
  intro b' hb' e
  subst e
  rcases h2.2 with ⟨rfl, _⟩ | ⟨g, cap, cur, rfl, -, hg, -⟩
  · cases hb'
  · cases hb'
    unfold Blk at hB
    rw [hg] at hB
    cases hB
    exact ht rfl
theorem OwnE.form (h : OwnE A base w v es) : ∃ ad cap, v = .slice ad es.length cap := by
  obtain ⟨⟨bvs, h1, h2, h3⟩, h4⟩ := h
  rcases h2.2 with ⟨rfl, h⟩ | ⟨g, cap, cur, rfl, -⟩
  · exact ⟨none, 0, by rw [h]⟩
  · exact ⟨_, cap, rfl⟩
theorem OwnE.one (h : OwnE A base w v es) : v.oneCell' = true := by obtain ⟨ad, cap, rfl⟩ := h.form; rfl
/-- What is collected reads as a row. -/
theorem OwnE.row (h : OwnE A base w v es) (hl : es.length ≤ 1099511627776) : Row (fun k => A k ∨ base ≤ k) w v es := by
  obtain ⟨⟨bvs, h1, h2, h3⟩, h4⟩ := h
  have h5 := fun g => h2.cells (g := g)
  rcases h2.2 with ⟨rfl, h⟩ | ⟨g, cap, cur, rfl, hb, hg, hc, -⟩
  · have : es = [] := List.eq_nil_of_length_eq_zero h
    subst this
    exact row_nil _ _
  · refine ⟨_, cap, rfl, hc, hl, h4, fun _ => ⟨g, 0, rfl, .inr hb, fun i e hi => ?_⟩⟩
    have hlt := (List.getElem?_eq_some_iff.1 hi).1
    have hbv : bvs[i]? = some (bvs[i]'(by omega)) := List.getElem?_eq_getElem _
    refine ⟨_, fun j u hj => ?_, (h3 i e _ hi hbv).mono fun k hk h => .inl h.1⟩
    have := h5 g rfl (i * 4 + j) u (flat_at es bvs i e _ h1 hi hbv j u hj)
    rw [add_mk] at this
    rw [show 0 + i * 4 + j = 0 + (i * 4 + j) from by omega]
    exact this
end
theorem info25 : (Try.prog.info? 25).map (fun i => (i.zero, i.size, i.bytes)) = some (some (.agg #[.string ⟨#[]⟩, .int .u64 0, .bool false, .slice none 0 0]), 4, 56) := by kernel_rfl
theorem info5 : (Try.prog.info? 5).map (fun i => (i.zero, i.size, i.bytes)) = some (some (.int .u8 0), 1, 1) := by kernel_rfl
/-- append of one entry that lies in a new block. -/
theorem run_append1 {A : Nat → Prop} {base : Nat} {w : World} {v bv : Value} {es : List Ent} {e : Ent} {bt : Nat} {ty : TypeId} (h : OwnE A base w v es) (hl : es.length < 1099511627776) (hB : Blk w bt (cellsOf e bv) 25) (hb : Byts (fun k => A k ∧ some k ≠ v.ownBlock) w bv e.v) (he : EntOk e) (hbase : base ≤ w.heap.size) :
    ∃ v' w', (Builtin.append_ #[26, 26] ty #[v, .slice (some ⟨bt, 0, none⟩) 1 1]).run Try.prog w = .ok v' w' ∧ OwnE A base w' v' (es ++ [e]) ∧ Keep (fun k => some k ≠ v.ownBlock) w w' ∧ (v'.ownBlock = v.ownBlock ∨ ∃ b, v'.ownBlock = some b ∧ w.heap.size ≤ b) := by
  obtain ⟨i0, hi, hz0, hz1, hz2⟩ := info_parts info25
  obtain ⟨⟨bvs, h1, h2, h3⟩, h4⟩ := h
  have hmax : es.length + 1 ≤ maxLen := by unfold maxLen; omega
  obtain ⟨v', w', hr, ho, hg, -, hat⟩ := run_append_own_at (P := Try.prog) w base 26 ty 25 i0 _ 4 56 Try.underlying26 hi hz0 hz1 hz2 rfl (by decide) v es.length (flat es bvs) h2 ⟨bt, 0, none⟩ 1 1 (cellsOf e bv) rfl
    (fun j u hj => by rw [add_mk]; exact hB.cells j u hj) (by
      obtain ⟨ad, cap, rfl, -⟩ := hb
      intro u hu
      simp only [cellsOf, List.mem_cons, List.not_mem_nil, or_false] at hu
      rcases hu with rfl | rfl | rfl | rfl <;> rfl) hmax (by omega) hbase
  have hlen : (es ++ [e]).length = es.length + 1 := by simp
  have hcase : v'.ownBlock = v.ownBlock ∨ ∃ b, v'.ownBlock = some b ∧ w.heap.size ≤ b := by
    rcases hat with e | e
    · exact .inl e
    · exact .inr ⟨_, e, Nat.le_refl _⟩
  refine ⟨v', w', hr, ⟨⟨bvs ++ [bv], by simp [h1], by rw [hlen, flat_snoc e bv es bvs h1]; exact ho, fun i x b hi hj => ?_⟩, fun x hx => ?_⟩, Keep.grown hg, hcase⟩
  · have hold : Byts (fun k => A k ∧ some k ≠ v.ownBlock) w b x.v := by
      by_cases hlt : i < es.length
      · rw [List.getElem?_append_left hlt] at hi
        rw [List.getElem?_append_left (by omega)] at hj
        exact h3 i x b hi hj
      · have : i = es.length := by
          have := (List.getElem?_eq_some_iff.1 hi).1
          simp at this; omega
        subst this
        rw [List.getElem?_append_right (Nat.le_refl _)] at hi
        rw [List.getElem?_append_right (by omega), h1] at hj
        simp at hi hj
        subst hi; subst hj
        exact hb
    have hlt := hold.mono (A' := fun k => (A k ∧ some k ≠ v.ownBlock) ∧ k < w.heap.size) (fun k hk h => ⟨h, hk⟩)
    refine (hlt.ck (CK.of_keep (Keep.grown hg) fun k _ h => h.1.2)).mono fun k _ h => ⟨h.1.1, ?_⟩
    rcases hcase with e | ⟨b', e, hb'⟩
    · rw [e]; exact h.1.2
    · rw [e]; intro he; cases he; omega
  · rcases List.mem_append.1 hx with hx | hx
    · exact h4 x hx
    · simp at hx; subst hx; exact he
theorem hWw : Wd Fence.wide := Wd.wide
theorem hFw : Fence.wide = Fence.wide ∨ ∃ l, Fence.wide = Fence.wide.inRound l := .inl rfl
theorem hFr (l : Nat) : Fence.wide.inRound l = Fence.wide ∨ ∃ l', Fence.wide.inRound l = Fence.wide.inRound l' := .inr ⟨l, rfl⟩
theorem Byts.form {A : Nat → Prop} {w : World} {v : Value} {l : List UInt8} (h : Byts A w v l) : ∃ ad cap, v = .slice ad l.length cap ∧ l.length ≤ cap := by obtain ⟨ad, cap, e, hc, -⟩ := h; exact ⟨ad, cap, e, hc⟩
section
variable {F : Fence} {n : Nat} {Q : Exit → Act → World → Prop} {m : Nat} {D : List Deferred} {L : Env} {w w' : World} {ops rest : List Oper} {d : Nat} {ty : TypeId} {pos : String} {af : Array Edge} {g : Option (Nat × Bool)} {x y : Operand}
/-- 'out = append(out, e)' on a row of the call's own. -/
theorem wl_append1 {A : Nat → Prop} {base bt : Nat} {v bv : Value} {es : List Ent} {e : Ent} (hW : Wd F) (hg : wants L ops g = some true) (hd : Nat.blt d m = true) (hx : ev L x = some v) (hy : ev L y = some (.slice (some ⟨bt, 0, none⟩) 1 1))
    (h : OwnE A base w v es) (hl : es.length < 1099511627776) (hB : Blk w bt (cellsOf e bv) 25) (hb : Byts (fun k => A k ∧ some k ≠ v.ownBlock) w bv e.v) (he : EntOk e) (hbase : base ≤ w.heap.size)
    (k : ∀ v' w', OwnE A base w' v' (es ++ [e]) → Keep (fun k => some k ≠ v.ownBlock) w w' → (v'.ownBlock = v.ownBlock ∨ ∃ b, v'.ownBlock = some b ∧ w.heap.size ≤ b) → WL F n Try.prog Q m D ops rest ((d, v') :: L) w') :
    WL F n Try.prog Q m D ops (⟨some d, .call ⟨.builtin .append, #[x, y], #[26, 26]⟩, ty, pos, af, g⟩ :: rest) L w := by
  obtain ⟨v', w', hr, ho, hk, hc⟩ := run_append1 (ty := ty) h hl hB hb he hbase
  refine wl_val hW hg hd ⟨nofun, fun _ _ _ _ a h => ?_⟩ (k v' w' ho hk hc)
  simp [execOp, resolve, h.ev hx, h.ev hy, invoke, builtin, hr]
end
end Go.Proofs.Ytblbddamebbgaaa.K
