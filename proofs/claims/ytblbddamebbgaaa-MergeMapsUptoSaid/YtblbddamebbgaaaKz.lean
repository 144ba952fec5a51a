/- Lists of lists of entries: how they lie in memory. -/
import Derived.Test.YtblbddamebbgaaaKt
namespace Go.Proofs.Ytblbddamebbgaaa.K
open Go Go.RowKit
set_option linter.unusedVariables false
set_option linter.unusedSectionVars false
set_option linter.unusedSimpArgs false

/-- The slice v holds the lists ls. -/
def LRow (A : Nat → Prop) (w : World) (v : Value) (ls : List (List Ent)) : Prop :=
  ∃ ad cap, v = .slice ad ls.length cap ∧ ls.length ≤ cap ∧ ls.length ≤ 1099511627776 ∧ (ls ≠ [] → ∃ b o, ad = some ⟨b, o, none⟩ ∧ A b ∧ ∀ (i : Nat) (l : List Ent), ls[i]? = some l → ∃ rv, Cells w b (o + i * 1) [rv] ∧ Row A w rv l)
/-- .. in a block of the call's own. -/
structure LOwn (A : Nat → Prop) (base : Nat) (w : World) (v : Value) (ls : List (List Ent)) : Prop where
  ex : ∃ vals, vals.length = ls.length ∧ w.ownsRow base 26 1 v ls.length vals ∧ ∀ (i : Nat) (l : List Ent) (u : Value), ls[i]? = some l → vals[i]? = some u → Row (fun k => A k ∧ some k ≠ v.ownBlock) w u l
  len : ls.length ≤ 1099511627776
section
variable {A A' : Nat → Prop} {base : Nat} {w w' : World} {v : Value} {ls : List (List Ent)}
theorem LRow.ck (h : LRow A w v ls) (hk : CK A w w') : LRow A w' v ls := by
  obtain ⟨ad, cap, rfl, h1, h2, h⟩ := h
  refine ⟨ad, cap, rfl, h1, h2, fun hne => ?_⟩
  obtain ⟨b, o, rfl, hA, hr⟩ := h hne
  exact ⟨b, o, rfl, hA, fun i l hi => by obtain ⟨rv, h3, h4⟩ := hr i l hi; exact ⟨rv, h3.ck hA hk, h4.ck hk⟩⟩
theorem LRow.ext (h : LRow A w v ls) (hk : Ext w w') : LRow A w' v ls := h.ck (CK.of_ext hk)
theorem LRow.mono (h : LRow A w v ls) (hA : ∀ k, k < w.heap.size → A k → A' k) : LRow A' w v ls := by
  obtain ⟨ad, cap, rfl, h1, h2, h⟩ := h
  refine ⟨ad, cap, rfl, h1, h2, fun hne => ?_⟩
  obtain ⟨b, o, rfl, hAb, hr⟩ := h hne
  have hb : b < w.heap.size := by
    cases ls with
    | nil => exact absurd rfl hne
    | cons e es =>
      obtain ⟨rv, hc, -⟩ := hr 0 e rfl
      exact World.block_lt_of_cell? w _ (hc 0 _ rfl)
  exact ⟨b, o, rfl, hA b hb hAb, fun i l hi => by obtain ⟨rv, h3, h4⟩ := hr i l hi; exact ⟨rv, h3, h4.mono hA⟩⟩
theorem LRow.form (h : LRow A w v ls) : ∃ ad cap, v = .slice ad ls.length cap ∧ ls.length ≤ cap ∧ ls.length ≤ 1099511627776 := by
  obtain ⟨ad, cap, rfl, h1, h2, -⟩ := h
  exact ⟨ad, cap, rfl, h1, h2⟩
theorem LRow.at (h : LRow A w v ls) (i : Nat) (hi : i < ls.length) : ∃ b o cap rv, v = .slice (some ⟨b, o, none⟩) ls.length cap ∧ A b ∧ Cells w b (o + i * 1) [rv] ∧ Row A w rv ls[i] := by
  obtain ⟨ad, cap, rfl, h1, h2, h⟩ := h
  obtain ⟨b, o, rfl, hA, hr⟩ := h (by intro e; rw [e] at hi; simp at hi)
  obtain ⟨rv, h4, h5⟩ := hr i ls[i] (List.getElem?_eq_getElem hi)
  exact ⟨b, o, cap, rv, rfl, hA, h4, h5⟩
theorem Row.one {es : List Ent} (h : Row A w v es) : v.oneCell' = true := by obtain ⟨ad, cap, rfl, -⟩ := h; rfl
theorem info26 : (Try.prog.info? 26).map (fun i => (i.zero, i.size, i.bytes)) = some (some (.slice none 0 0), 1, 24) := by kernel_rfl
theorem run_cloneL {b5 : Nat} {y : Value} {ty : TypeId} (hB : Blk w b5 [] 26) (hy : LRow A w y ls) (hA : ∀ k, A k → k ≠ b5) :
    ∃ v' w', (Builtin.append_ #[65, 65] ty #[.slice (some ⟨b5, 0, none⟩) 0 0, y]).run Try.prog w = .ok v' w' ∧ LOwn A b5 w' v' ls ∧ Keep (· ≠ b5) w w' ∧ (v'.ownBlock = some b5 ∨ ∃ b, v'.ownBlock = some b ∧ w.heap.size ≤ b) := by
  obtain ⟨i0, hi, hz0, hz1, hz2⟩ := info_parts info26
  obtain ⟨ad, cap, rfl, hcap, hlen, hcell⟩ := hy
  have hown : w.ownsRow b5 26 1 (.slice (some ⟨b5, 0, none⟩) 0 0) 0 [] := ⟨rfl, .inr ⟨b5, 0, #[], rfl, Nat.le_refl _, hB, Nat.le_refl _, Nat.zero_le _, rfl, rfl⟩⟩
  cases ad with
  | none =>
    have hl0 : ls = [] := by
      cases ls with
      | nil => rfl
      | cons u l => obtain ⟨b, o, h, -⟩ := hcell (by simp); cases h
    subst hl0
    refine ⟨.slice (some ⟨b5, 0, none⟩) 0 0, w, ?_, ⟨⟨[], rfl, hown, fun i l u h => by simp at h⟩, by simp⟩, Keep.refl _ _, .inl rfl⟩
    simp [Builtin.append_, run_underlying Try.underlying65, sizeOf, typeInfo, hi, Builtin.lenOf, Builtin.firstCells, storeCells]
  | some a0 =>
    have hv : ∀ i, i < ls.length → ∃ rv, w.cell? (a0.add i) = some rv ∧ ∀ l, ls[i]? = some l → Row A w rv l := fun i hlt => by
      obtain ⟨b, o, h, -, hc⟩ := hcell (by rintro rfl; simp at hlt)
      cases h
      obtain ⟨rv, h1, h2⟩ := hc i ls[i] (List.getElem?_eq_getElem hlt)
      refine ⟨rv, ?_, fun l hl => ?_⟩
      · have := h1 0 rv rfl
        rw [Nat.mul_one, Nat.add_zero] at this
        rw [add_mk]; exact this
      · rw [List.getElem?_eq_getElem hlt] at hl; cases hl; exact h2
    let vals := (List.range ls.length).map fun i => if h : i < ls.length then (hv i h).choose else undef
    have hvl : vals.length = ls.length := by simp [vals]
    have hvat : ∀ i u, vals[i]? = some u → w.cell? (a0.add i) = some u ∧ ∀ l, ls[i]? = some l → Row A w u l := fun i u hu => by
      have hlt : i < ls.length := by have := (List.getElem?_eq_some_iff.1 hu).1; omega
      simp only [vals, List.getElem?_map, List.getElem?_range hlt, Option.map_some, Option.some.injEq, dif_pos hlt] at hu
      have := (hv i hlt).choose_spec
      rw [hu] at this
      exact this
    have hone : ∀ u ∈ vals, u.oneCell' = true := fun u hu => by
      obtain ⟨i, hi'⟩ := List.getElem?_of_mem hu
      have hlt : i < ls.length := by have := (List.getElem?_eq_some_iff.1 hi').1; omega
      exact ((hvat i u hi').2 _ (List.getElem?_eq_getElem hlt)).one
    obtain ⟨v', w', hr, ho, hg, -, hat⟩ := run_append_own_at (P := Try.prog) w b5 65 ty 26 i0 _ 1 24 Try.underlying65 hi hz0 hz1 hz2 rfl (by decide) _ 0 [] hown a0 ls.length cap vals (by rw [hvl]; omega) (fun j u hj => (hvat j u hj).1)
      hone (by unfold maxLen; omega) (by omega) (Nat.le_of_lt hB.lt)
    rw [Nat.zero_add, List.nil_append] at ho
    have hk : Keep (· ≠ b5) w w' := (Keep.grown hg).mono fun k _ h => by intro e; cases e; exact h rfl
    have hcase : v'.ownBlock = some b5 ∨ ∃ b, v'.ownBlock = some b ∧ w.heap.size ≤ b := by
      rcases hat with e | e
      · exact .inl e
      · exact .inr ⟨_, e, Nat.le_refl _⟩
    refine ⟨v', w', hr, ⟨⟨vals, hvl, ho, fun i l u hi' hu => ?_⟩, hlen⟩, hk, hcase⟩
    have h0 := ((hvat i u hu).2 l hi').mono (A' := fun k => A k ∧ k < w.heap.size) (fun k hk h => ⟨h, hk⟩)
    refine (h0.ck (CK.of_keep hk fun k _ h => hA k h.1)).mono fun k _ h => ⟨h.1, ?_⟩
    rcases hcase with e | ⟨b, e, hb⟩
    · rw [e]; intro he; cases he; exact hA _ h.1 rfl
    · rw [e]; intro he; cases he; omega
theorem lown_nil (A : Nat → Prop) (base : Nat) (w : World) : LOwn A base w (.slice none 0 0) [] := ⟨⟨[], rfl, World.ownsRow_nil w base 26 1, fun i l u h => by simp at h⟩, by simp⟩
theorem lownsRow_ck {n : Nat} {xs : List Value} (h : w.ownsRow base 26 1 v n xs) (hk : ∀ b cs, v.ownBlock = some b → w.heap[b]? = some (.cells cs 26 (0, 0)) → w'.heap[b]? = some (.cells cs 26 (0, 0))) : w'.ownsRow base 26 1 v n xs := by
  refine ⟨h.1, ?_⟩
  rcases h.2 with ⟨h1, h2⟩ | ⟨g, cap, cur, rfl, hb, hg, h1⟩
  · exact .inl ⟨h1, h2⟩
  · exact .inr ⟨g, cap, cur, rfl, hb, hk g cur rfl hg, h1⟩
theorem LOwn.keep {S : Nat → Prop} (h : LOwn A base w v ls) (hk : Keep S w w') (hv : ∀ b, v.ownBlock = some b → S b) (hA : ∀ k, k < w.heap.size → A k → S k) : LOwn A base w' v ls := by
  obtain ⟨⟨vals, h1, h2, h3⟩, h4⟩ := h
  exact ⟨⟨vals, h1, lownsRow_ck h2 (fun b cs hb hc => (hk.block b (Array.getElem?_eq_some_iff.1 hc).1 (hv b hb)).trans hc), fun i l u hi hj => (h3 i l u hi hj).ck (CK.of_keep hk (fun k hk' h => hA k hk' h.1))⟩, h4⟩
theorem LOwn.ext (h : LOwn A base w v ls) (hk : Ext w w') : LOwn A base w' v ls := h.keep hk (fun _ _ => trivial) (fun _ _ _ => trivial)
theorem LOwn.lt (h : LOwn A base w v ls) : ∀ b, v.ownBlock = some b → base ≤ b ∧ b < w.heap.size := by obtain ⟨⟨vals, h1, h2, h3⟩, h4⟩ := h; exact h2.lt
theorem LOwn.form (h : LOwn A base w v ls) : ∃ ad cap, v = .slice ad ls.length cap := by
  obtain ⟨⟨vals, h1, h2, h3⟩, h4⟩ := h
  rcases h2.2 with ⟨rfl, h⟩ | ⟨g, cap, cur, rfl, -⟩
  · exact ⟨none, 0, by rw [h]⟩
  · exact ⟨_, cap, rfl⟩
/-- Element i. -/
theorem LOwn.at (h : LOwn A base w v ls) (i : Nat) (hi : i < ls.length) : ∃ b cap rv, v = .slice (some ⟨b, 0, none⟩) ls.length cap ∧ Cells w b (0 + i * 1) [rv] ∧ Row (fun k => A k ∧ some k ≠ v.ownBlock) w rv ls[i] := by
  obtain ⟨⟨vals, h1, h2, h3⟩, h4⟩ := h
  have hc := fun g => h2.cells (g := g)
  rcases h2.2 with ⟨rfl, h⟩ | ⟨g, cap, cur, rfl, hb, hg, -⟩
  · omega
  · have hvi : vals[i]? = some (vals[i]'(by omega)) := List.getElem?_eq_getElem _
    refine ⟨g, cap, _, rfl, fun j u hj => ?_, h3 i _ _ (List.getElem?_eq_getElem hi) hvi⟩
    have : j = 0 := by have := (List.getElem?_eq_some_iff.1 hj).1; simp at this; omega
    subst this
    simp at hj
    have h5 := hc g rfl i _ hvi
    rw [add_mk] at h5
    rw [Nat.mul_one, Nat.add_zero, h5]
    exact congrArg some hj
theorem lrow_of_blk {b : Nat} {vals : List Value} (hl : vals.length = ls.length) (hB : Blk w b vals 26) (hA : A b) (hr : ∀ (i : Nat) (l : List Ent) (u : Value), ls[i]? = some l → vals[i]? = some u → Row A w u l) (hn : ls.length ≤ 1099511627776) : LRow A w (.slice (some ⟨b, 0, none⟩) ls.length ls.length) ls :=
  ⟨_, _, rfl, Nat.le_refl _, hn, fun _ => ⟨b, 0, rfl, hA, fun i l hi => by
    have hlt := (List.getElem?_eq_some_iff.1 hi).1
    have hv : vals[i]? = some (vals[i]'(by omega)) := List.getElem?_eq_getElem _
    refine ⟨_, fun j u hj => ?_, hr i l _ hi hv⟩
    have : j = 0 := by have := (List.getElem?_eq_some_iff.1 hj).1; simp at this; omega
    subst this
    simp at hj
    subst hj
    rw [Nat.zero_add, Nat.mul_one, Nat.add_zero]
    exact hB.cell hv⟩⟩
def gOf (ad : Option Addr) : Nat := (ad.map (·.block)).getD 0
theorem LOwn.at2 {ad : Option Addr} {n cap : Nat} (h : LOwn A base w (.slice ad n cap) ls) (i : Nat) (hi : i < ls.length) : ∃ rv, ad = some ⟨gOf ad, 0, none⟩ ∧ Cells w (gOf ad) (0 + i * 1) [rv] ∧ Row (fun k => A k ∧ k ≠ gOf ad) w rv ls[i] := by
  obtain ⟨b, c, rv, e, h1, h2⟩ := h.at i hi
  cases e
  exact ⟨rv, rfl, h1, h2.mono fun k _ h => ⟨h.1, fun e => h.2 (by rw [e]; rfl)⟩⟩
theorem LOwn.blk (h : LOwn A base w v ls) : ∀ b, v.ownBlock = some b → ∃ cs, Blk w b cs 26 := by
  obtain ⟨⟨vals, h1, h2, h3⟩, h4⟩ := h
  intro b hb
  rcases h2.2 with ⟨rfl, _⟩ | ⟨g, cap, cur, rfl, -, hg, -⟩
  · cases hb
  · cases hb; exact ⟨cur.toList, by simpa [Blk] using hg⟩
/-- A list is put at place i. -/
theorem LOwn.put {ad : Option Addr} {n cap : Nat} (h : LOwn A base w (.slice ad n cap) ls) (i : Nat) (hi : i < ls.length) : ∃ cs, Blk w (gOf ad) cs 26 ∧ Nat.blt (0 + i * 1) cs.length = true ∧
    ∀ w' u l, Blk w' (gOf ad) (cs.set (0 + i * 1) u) 26 → Keep (· ≠ gOf ad) w w' → Row (fun k => A k ∧ k ≠ gOf ad) w' u l → LOwn A base w' (.slice ad n cap) (ls.set i l) := by
  obtain ⟨⟨vals, h1, h2, h3⟩, h4⟩ := h
  rcases h2.2 with ⟨he, h⟩ | ⟨g, c, cur, he, hb, hg, hc1, hc2, hc3, hc4⟩
  · omega
  · cases he
    refine ⟨cur.toList, by simpa [Blk, gOf] using hg, by simp; omega, fun w' u l hB hk hr => ⟨⟨vals.set i u, by simpa using h1, ⟨by simpa using h2.1, .inr ⟨g, cap, cur.setIfInBounds i u, by simp, hb, ?_, by simpa using hc1, hc2, by simpa using hc3, ?_⟩⟩, fun j l' u' hj hu => ?_⟩, by simpa using h4⟩⟩
    · have : (0 + i * 1) = i := by omega
      rw [this] at hB
      unfold Blk at hB
      show w'.heap[g]? = _
      rw [show gOf (some ⟨g, 0, none⟩) = g from rfl] at hB
      rw [hB, show (cur.toList.set i u).toArray = cur.setIfInBounds i u from by rw [← Array.toList_inj]; simp]
    · simp only [Array.toList_setIfInBounds, List.length_set]
      rw [List.take_set, hc4]
    · by_cases e : i = j
      · subst e
        rw [List.getElem?_set_self (by omega)] at hj hu
        cases hj; cases hu
        exact hr.mono fun k _ h => ⟨h.1, fun e => h.2 (by cases e; rfl)⟩
      · rw [List.getElem?_set_ne e] at hj hu
        exact ((h3 j l' u' hj hu).ck (CK.of_keep hk fun k _ h e => h.2 (by rw [e]; rfl)))
end
theorem Row.tail {A : Nat → Prop} {w : World} {a : Option Addr} {n c : Nat} {x : Ent} {t : List Ent} (h : Row A w (.slice a n c) (x :: t)) : Row A w (.slice (if c = 1 then a else a.map (·.add (1 * 4))) (n - 1) (c - 1)) t := by
  obtain ⟨ad', cap', e, h1, h2, h3, h⟩ := h
  cases e
  simp only [List.length_cons] at h1 h2
  refine ⟨_, _, by rw [List.length_cons, Nat.add_sub_cancel], by omega, by omega, fun y hy => h3 y (by simp [hy]), fun hne => ?_⟩
  obtain ⟨b, o, rfl, hA, hr⟩ := h (by simp)
  have ht : 0 < t.length := List.length_pos_iff.2 hne
  refine ⟨b, o + 1 * 4, by rw [if_neg (by omega)]; simp [add_mk], hA, fun i y hi => ?_⟩
  obtain ⟨bv, h4, h5⟩ := hr (i + 1) y (by simpa using hi)
  exact ⟨bv, by rw [show o + 1 * 4 + i * 4 = o + (i + 1) * 4 from by omega]; exact h4, h5⟩
section
variable {F : Fence} {n : Nat} {Q : Exit → Act → World → Prop} {m : Nat} {D : List Deferred} {L : Env} {w w' : World} {ops rest : List Oper} {d : Nat} {ty : TypeId} {pos : String} {af : Array Edge} {g : Option (Nat × Bool)} {x y : Operand}
theorem wl_cloneL {b5 : Nat} {v : Value} {ls : List (List Ent)} {A : Nat → Prop} (hW : Wd F) (hg : wants L ops g = some true) (hd : Nat.blt d m = true) (hx : ev L x = some (.slice (some ⟨b5, 0, none⟩) 0 0)) (hy : ev L y = some v)
    (hB : Blk w b5 [] 26) (hv : LRow A w v ls) (hA : ∀ k, A k → k ≠ b5) (k : ∀ v' w', LOwn A b5 w' v' ls → Keep (· ≠ b5) w w' → (v'.ownBlock = some b5 ∨ ∃ b, v'.ownBlock = some b ∧ w.heap.size ≤ b) → WL F n Try.prog Q m D ops rest ((d, v') :: L) w') :
    WL F n Try.prog Q m D ops (⟨some d, .call ⟨.builtin .append, #[x, y], #[65, 65]⟩, ty, pos, af, g⟩ :: rest) L w := by
  obtain ⟨v', w', hr, ho, hk, hc⟩ := run_cloneL (ty := ty) hB hv hA
  refine wl_val hW hg hd ⟨nofun, fun _ _ _ _ a h => ?_⟩ (k v' w' ho hk hc)
  simp [execOp, resolve, h.ev hx, h.ev hy, invoke, builtin, hr]
end
end Go.Proofs.Ytblbddamebbgaaa.K
