/- Lists cloned and collected; how what is compacted is parted. -/
import Derived.Test.YtblbddamebbgaaaOn
namespace Go.Proofs.Ytblbddamebbgaaa.K
open Go Go.RowKit
set_option linter.unusedVariables false
set_option linter.unusedSectionVars false
set_option linter.unusedSimpArgs false

/-- The cells of a row. -/
theorem row_flat {A : Nat → Prop} {w : World} {ad : Option Addr} {n c : Nat} {es : List Ent} (h : Row A w (.slice ad n c) es) : ∃ bvs, bvs.length = es.length ∧ Src w ad (flat es bvs) ∧ ∀ (i : Nat) (e : Ent) (bv : Value), es[i]? = some e → bvs[i]? = some bv → Byts A w bv e.v := by
  obtain ⟨ad', cap, e, h1, h2, h3, hh⟩ := h
  cases e
  by_cases hne : es = []
  · subst hne
    exact ⟨[], rfl, fun h => absurd rfl h, fun i e bv hi => by simp at hi⟩
  obtain ⟨b, o, rfl, hA, hr⟩ := hh hne
  let f : Nat → Value := fun i => if hi : i < es.length then (hr i es[i] (List.getElem?_eq_getElem hi)).choose else .nilFunc
  have hf : ∀ i (hi : i < es.length), Cells w b (o + i * 4) (cellsOf es[i] (f i)) ∧ Byts A w (f i) es[i].v := fun i hi => by
    have e1 : f i = (hr i es[i] (List.getElem?_eq_getElem hi)).choose := by show dite _ _ _ = _; rw [dif_pos hi]
    rw [e1]
    exact (hr i es[i] (List.getElem?_eq_getElem hi)).choose_spec
  refine ⟨(List.range es.length).map f, by simp, fun _ => ⟨b, o, rfl, fun j u hj => ?_⟩, fun i e bv hi hj => ?_⟩
  · have hlt := (List.getElem?_eq_some_iff.1 hj).1
    rw [flat_len _ _ (by simp)] at hlt
    have hi : j / 4 < es.length := by omega
    have hbv : ((List.range es.length).map f)[j / 4]? = some (f (j / 4)) := by simp [hi]
    have hm : j % 4 < (cellsOf es[j / 4] (f (j / 4))).length := Nat.mod_lt j (by decide : 0 < 4)
    have h4 := flat_at es ((List.range es.length).map f) (j / 4) es[j / 4] _ (by simp) (List.getElem?_eq_getElem hi) hbv (j % 4) _ (List.getElem?_eq_getElem hm)
    rw [show j / 4 * 4 + j % 4 = j from by omega, hj] at h4
    have h6 := (hf (j / 4) hi).1 (j % 4) _ (List.getElem?_eq_getElem hm)
    rw [← h4] at h6
    rwa [show o + j / 4 * 4 + j % 4 = o + j from by omega] at h6
  · have hlt := (List.getElem?_eq_some_iff.1 hi).1
    rw [List.getElem?_map, List.getElem?_range hlt] at hj
    simp only [Option.map_some, Option.some.injEq] at hj
    have : es[i] = e := by rw [List.getElem?_eq_getElem hlt] at hi; exact Option.some.inj hi
    rw [← this, ← hj]; exact (hf i hlt).2
section
variable {F : Fence} {n : Nat} {Q : Exit → Act → World → Prop} {m : Nat} {D : List Deferred} {L : Env} {w w' : World} {ops rest : List Oper} {d : Nat} {ty : TypeId} {pos : String} {af : Array Edge} {g : Option (Nat × Bool)} {x y : Operand}
/-- A list more. -/
theorem wl_appendL {A : Nat → Prop} {base bt : Nat} {v u : Value} {ls : List (List Ent)} {l : List Ent} (hW : Wd F) (hg : wants L ops g = some true) (hd : Nat.blt d m = true) (hx : ev L x = some v) (hy : ev L y = some (.slice (some ⟨bt, 0, none⟩) 1 1))
    (h : LOwn A base w v ls) (hu : Row (fun k => A k ∧ some k ≠ v.ownBlock) w u l) (hB : Blk w bt [u] 26) (hl : ls.length < 1048576) (hbase : base ≤ w.heap.size)
    (k : ∀ v' w', LOwn A base w' v' (ls ++ [l]) → Keep (fun k => some k ≠ v.ownBlock) w w' → (v'.ownBlock = v.ownBlock ∨ ∃ b, v'.ownBlock = some b ∧ w.heap.size ≤ b) → WL F n Try.prog Q m D ops rest ((d, v') :: L) w') :
    WL F n Try.prog Q m D ops (⟨some d, .call ⟨.builtin .append, #[x, y], #[65, 65]⟩, ty, pos, af, g⟩ :: rest) L w := by
  obtain ⟨⟨vals, h1, h2, h3⟩, h4⟩ := h
  have hlt : ∀ b, v.ownBlock = some b → b < w.heap.size := fun b hb => by obtain ⟨-, cs, h5⟩ := ownsRow_blk h2 hb; exact h5.lt
  refine wl_append Try.underlying65 info26 rfl (by decide) hW hg hd hx hy h2 (show ([u] : List Value).length = 1 * 1 from rfl) (src_blk hB) (fun u' hu' => by simp at hu'; subst hu'; exact hu.one) (by omega) (by decide) hbase ?_
  intro v' w' h5 h6 h7
  have tr : ∀ (l' : List Ent) (u' : Value), Row (fun k => A k ∧ some k ≠ v.ownBlock) w u' l' → Row (fun k => A k ∧ some k ≠ v'.ownBlock) w' u' l' := fun l' u' hr => by
    have hr2 := (hr.mono (A' := fun k => k < w.heap.size ∧ A k ∧ some k ≠ v.ownBlock) fun k hk h => ⟨hk, h⟩).ck (CK.of_keep h6 fun k _ h => h.2.2)
    refine hr2.mono fun k _ h => ⟨h.2.1, ?_⟩
    rcases h7 with e | ⟨b, e, hb⟩
    · rw [e]; exact h.2.2
    · rw [e]; intro e'; cases e'; omega
  refine k v' w' ⟨⟨vals ++ [u], by simp [h1], by rw [List.length_append]; exact h5, fun i l' u' hi hj => ?_⟩, by simp; omega⟩ h6 h7
  rcases Nat.lt_or_ge i ls.length with hil | hil
  · rw [List.getElem?_append_left hil] at hi
    rw [List.getElem?_append_left (by omega)] at hj
    exact tr _ _ (h3 i l' u' hi hj)
  · rw [List.getElem?_append_right hil] at hi
    rw [List.getElem?_append_right (by omega)] at hj
    have e0 : i - ls.length = 0 := by have := (List.getElem?_eq_some_iff.1 hi).1; simp at this; omega
    have e1 : i - vals.length = 0 := by omega
    rw [e0] at hi
    rw [e1] at hj
    simp at hi hj
    subst hi; subst hj
    exact tr _ _ hu
end
/-- How a list is parted up to a place: no key is cut. -/
inductive Cuts (all : List Ent) : Nat → List (List Ent) → Prop
  | nil : Cuts all 0 []
  | snoc {f t : Nat} {out : List (List Ent)} : Cuts all f out → f < t → t ≤ all.length → (t = all.length ∨ ∃ h : t < all.length, all[t].k ≠ all[t - 1].k) → Cuts all t (out ++ [(all.take t).drop f])
theorem Cuts.le {all : List Ent} {f : Nat} {out : List (List Ent)} (h : Cuts all f out) : f ≤ all.length := by
  cases h with
  | nil => exact Nat.zero_le _
  | snoc h1 h2 h3 h4 => exact h3
theorem Cuts.flat {all : List Ent} {f : Nat} {out : List (List Ent)} (h : Cuts all f out) : out.flatten = all.take f := by
  induction h with
  | nil => simp
  | snoc h1 h2 h3 h4 ih =>
    rename_i f t out
    rw [List.flatten_append, ih, List.flatten_singleton]
    have : all.take f = (all.take t).take f := by rw [List.take_take, Nat.min_eq_left (by omega)]
    rw [this, List.take_append_drop]
theorem Cuts.len {all : List Ent} {f : Nat} {out : List (List Ent)} (h : Cuts all f out) : out.length ≤ f := by
  induction h with
  | nil => simp
  | snoc h1 h2 h3 h4 ih => simp only [List.length_append, List.length_singleton]; omega
/-- Where each part begins and ends. -/
theorem Cuts.parts {all : List Ent} {f : Nat} {out : List (List Ent)} (h : Cuts all f out) : ∃ c : Nat → Nat, c 0 = 0 ∧ c out.length = f ∧ (∀ i, i < out.length → c i < c (i + 1) ∧ c (i + 1) ≤ all.length ∧ out[i]? = some ((all.take (c (i + 1))).drop (c i))) ∧ ∀ i, 0 < i → i ≤ out.length → c i = all.length ∨ ∃ h : c i < all.length, all[c i].k ≠ all[c i - 1].k := by
  induction h with
  | nil => exact ⟨fun _ => 0, rfl, rfl, fun i hi => by simp at hi, fun i h0 hi => by simp at hi; omega⟩
  | snoc h1 h2 h3 h4 ih =>
    rename_i f t out
    obtain ⟨c, e0, e1, e2, e3⟩ := ih
    refine ⟨fun i => if i ≤ out.length then c i else t, by simp [e0], by dsimp only; rw [List.length_append, List.length_singleton, if_neg (by omega)], fun i hi => ?_, fun i h0 hi => ?_⟩
    all_goals dsimp only
    · simp only [List.length_append, List.length_singleton] at hi
      by_cases hio : i < out.length
      · obtain ⟨a, b, d⟩ := e2 i hio
        rw [if_pos (by omega), if_pos (by omega), List.getElem?_append_left hio]
        exact ⟨a, b, d⟩
      · have : i = out.length := by omega
        subst this
        rw [if_pos (Nat.le_refl _), if_neg (by omega), e1, List.getElem?_append_right (Nat.le_refl _), Nat.sub_self]
        exact ⟨h2, h3, rfl⟩
    · simp only [List.length_append, List.length_singleton] at hi
      by_cases hio : i ≤ out.length
      · have := e3 i h0 hio
        simp only [if_pos hio]; exact this
      · simp only [if_neg hio]; exact h4
theorem Row.slice2 {A : Nat → Prop} {w : World} {a : Option Addr} {n c i j : Nat} {g : List Ent} (h : Row A w (.slice a n c) g) (hij : i ≤ j) (hj : j ≤ g.length) : Row A w (.slice (if c = i then a else a.map (·.add (i * 4))) (j - i) (c - i)) ((g.take j).drop i) := by
  obtain ⟨ad', cap', e, h1, h2, h3, h⟩ := h
  cases e
  have hlen : ((g.take j).drop i).length = j - i := by simp; omega
  refine ⟨_, _, by rw [hlen], by omega, by omega, fun y hy => h3 y (List.mem_of_mem_take (List.mem_of_mem_drop hy)), fun hne => ?_⟩
  have hlt : i < j := Decidable.byContradiction fun h => hne (List.eq_nil_of_length_eq_zero (by omega))
  obtain ⟨b, o, rfl, hA, hr⟩ := h (by rintro rfl; simp at hj; omega)
  refine ⟨b, o + i * 4, by rw [if_neg (by omega)]; simp [add_mk], hA, fun k y hk => ?_⟩
  rw [List.getElem?_drop, List.getElem?_take] at hk
  split at hk
  · obtain ⟨bv, h4, h5⟩ := hr (i + k) y hk
    exact ⟨bv, by rw [show o + i * 4 + k * 4 = o + (i + k) * 4 from by omega]; exact h4, h5⟩
  · cases hk
theorem C46w {w w0 : World} {v : Value} {ls : List (List Ent)} (hL : LRow (fun k => k < w0.heap.size) w v ls) (htot : tot ls ≤ 100000) (hr : ls.all rightB = true) (hs : w0.heap.size ≤ w.heap.size) : Rt Try.prog 46 [v] w fun r w' => (∃ rv, r = .tuple #[rv, .int .i64 0] ∧ Row (fun k => k < w'.heap.size) w' rv (mrg ls)) ∧ Ext w w' :=
  (C46 (hL.mono fun k hk _ => hk) (by omega)).mono fun r w' ⟨⟨rv, h1, h2⟩, h3⟩ => ⟨⟨rv, by rw [h1, hr]; rfl, by rw [hr, if_pos rfl] at h2; exact h2.mono fun k hk _ => hk⟩, h3⟩
theorem C25r {w w0 : World} {v : Value} {es : List Ent} {keep : Int} {bottom : Bool} (hR : Row (fun k => k < w0.heap.size) w v es) (hl : es.length ≤ 1048000) (hr : rightB es = true) : Rt Try.prog 25 [v, .int .u64 keep, .bool bottom] w fun r w' => (∃ rv, r = .tuple #[rv, .int .i64 0] ∧ Row (fun k => k < w'.heap.size) w' rv (leftL keep bottom es)) ∧ Ext w w' :=
  (C25 (hR.mono fun k hk _ => hk) hl).mono fun r w' ⟨⟨rv, h1, h2⟩, h3⟩ => ⟨⟨rv, by rw [h1, hr]; rfl, by rw [hr, if_pos rfl] at h2; exact h2.mono fun k hk _ => hk⟩, h3⟩
theorem LOwn.rebase2 {A : Nat → Prop} {base base' : Nat} {w : World} {v : Value} {ls : List (List Ent)} (h : LOwn A base w v ls) (hb : ∀ b, v.ownBlock = some b → base' ≤ b) : LOwn A base' w v ls := by
  obtain ⟨⟨vals, h1, h2, h3⟩, h4⟩ := h
  exact ⟨⟨vals, h1, ownsRow_base h2 hb, h3⟩, h4⟩
theorem LOwn.monoA {A A' : Nat → Prop} {base : Nat} {w : World} {v : Value} {ls : List (List Ent)} (h : LOwn A base w v ls) (hA : ∀ k, k < w.heap.size → A k → A' k) : LOwn A' base w v ls := by
  obtain ⟨⟨vals, h1, h2, h3⟩, h4⟩ := h
  exact ⟨⟨vals, h1, h2, fun i l u hi hj => (h3 i l u hi hj).mono fun k hk h => ⟨hA k hk h.1, h.2⟩⟩, h4⟩
end Go.Proofs.Ytblbddamebbgaaa.K
