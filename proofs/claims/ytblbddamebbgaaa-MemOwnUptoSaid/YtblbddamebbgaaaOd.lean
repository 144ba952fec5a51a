/- Two tables side by side; versions laid in in whatever order. -/
import Derived.Test.YtblbddamebbgaaaOb
namespace Go.Proofs.Ytblbddamebbgaaa.K
open Go Go.RowKit
set_option linter.unusedVariables false
set_option linter.unusedSectionVars false
set_option linter.unusedSimpArgs false

/-- No two of a list are one version. -/
def Dist (l : List Ent) : Prop := l.Pairwise fun a b => ¬ sameE a b
def insAll (l : List Ent) : List Ent := l.foldl (fun L e => insL (clr e) L) []
theorem insAll_snoc (l : List Ent) (e : Ent) : insAll (l ++ [e]) = insL (clr e) (insAll l) := by simp [insAll]
theorem insAll_take {l : List Ent} {i : Nat} (h : i < l.length) : insAll (l.take (i + 1)) = insL (clr l[i]) (insAll (l.take i)) := by
  rw [← insAll_snoc, List.take_add_one, List.getElem?_eq_getElem h]; rfl
theorem sameE_clr {a b : Ent} (h : sameE (clr a) (clr b)) : sameE a b := h
theorem sameE_symm {a b : Ent} (h : sameE a b) : sameE b a := ⟨h.1.symm, h.2.symm⟩
/-- A version unlike all that are there comes in beside them. -/
theorem insL_mem_new {e : Ent} {L : List Ent} (h : ∀ x ∈ L, ¬ sameE x e) (x : Ent) : x ∈ insL e L ↔ x = e ∨ x ∈ L := by
  induction L with
  | nil => simp [insL]
  | cons y ys ih =>
    have ih := ih fun z hz => h z (by simp [hz])
    have hy : ¬ cmpE y e = 0 := fun hc => h y (by simp) (cmpE_zero.1 hc)
    simp only [insL, if_neg hy]
    split
    · rw [List.mem_cons, ih, List.mem_cons]
      constructor
      · rintro (h1 | h1 | h1)
        · exact .inr (.inl h1)
        · exact .inl h1
        · exact .inr (.inr h1)
      · rintro (h1 | h1 | h1)
        · exact .inr (.inl h1)
        · exact .inl h1
        · exact .inr (.inr h1)
    · rw [List.mem_cons, List.mem_cons]
theorem insAll_mem : ∀ (n : Nat) (l : List Ent), l.length = n → Dist l → ∀ x, x ∈ insAll l ↔ ∃ e ∈ l, x = clr e
  | 0, l, hl, _, x => by
    have : l = [] := List.eq_nil_of_length_eq_zero hl
    subst this; simp [insAll]
  | n + 1, l, hl, hd, x => by
    obtain ⟨l', e, rfl⟩ : ∃ l' e, l = l' ++ [e] := by
      rcases List.eq_nil_or_concat l with h | ⟨l', e, h⟩
      · subst h; simp at hl
      · exact ⟨l', e, by simpa using h⟩
    have hd' := List.pairwise_append.1 hd
    have ih := insAll_mem n l' (by simpa using hl) hd'.1
    rw [insAll_snoc, insL_mem_new (fun y hy hs => ?_), ih]
    · constructor
      · rintro (h | ⟨e', h1, h2⟩)
        · exact ⟨e, by simp, h⟩
        · exact ⟨e', by simp [h1], h2⟩
      · rintro ⟨e', h1, h2⟩
        rcases List.mem_append.1 h1 with h3 | h3
        · exact .inr ⟨e', h3, h2⟩
        · simp at h3; subst h3; exact .inl h2
    · obtain ⟨e', h1, rfl⟩ := (ih y).1 hy
      exact hd'.2.2 e' h1 e (by simp) (sameE_clr hs)
/-- The list, begun at a place and gone around. -/
def rot (l : List Ent) (t : Nat) : List Ent := (List.range l.length).map fun i => l.getD ((i + t) % l.length) z0
theorem rot_len (l : List Ent) (t : Nat) : (rot l t).length = l.length := by simp [rot]
theorem rot_get {l : List Ent} {t i : Nat} (h : i < (rot l t).length) (h' : (i + t) % l.length < l.length) : (rot l t)[i] = l[(i + t) % l.length] := by
  simp [rot, List.getD_eq_getElem?_getD, List.getElem?_eq_getElem h']
theorem dist_get {l : List Ent} (h : Dist l) {i j : Nat} (hi : i < l.length) (hj : j < l.length) (hne : i ≠ j) : ¬ sameE l[i] l[j] := by
  rcases Nat.lt_or_ge i j with h1 | h1
  · exact List.pairwise_iff_getElem.1 h i j hi hj h1
  · exact fun hs => List.pairwise_iff_getElem.1 h j i hj hi (by omega) (sameE_symm hs)
theorem mod_ne {n t i j : Nat} (hi : i < n) (hj : j < n) (ht : t < n) (hij : i ≠ j) : (i + t) % n ≠ (j + t) % n := by
  have hn : 0 < n := by omega
  have h1 : (i + t) % n = if i + t < n then i + t else i + t - n := by
    split
    · exact Nat.mod_eq_of_lt (by omega)
    · rw [Nat.mod_eq_sub_mod (by omega), Nat.mod_eq_of_lt (by omega)]
  have h2 : (j + t) % n = if j + t < n then j + t else j + t - n := by
    split
    · exact Nat.mod_eq_of_lt (by omega)
    · rw [Nat.mod_eq_sub_mod (by omega), Nat.mod_eq_of_lt (by omega)]
  rw [h1, h2]
  split <;> split <;> omega
theorem dist_rot {l : List Ent} {t : Nat} (h : Dist l) : Dist (rot l t) := by
  refine List.pairwise_iff_getElem.2 fun i j hi hj hij => ?_
  rw [rot_len] at hi hj
  have hn : 0 < l.length := by omega
  rw [rot_get (by rw [rot_len]; exact hi) (Nat.mod_lt _ hn), rot_get (by rw [rot_len]; exact hj) (Nat.mod_lt _ hn)]
  refine dist_get h _ _ ?_
  rw [← Nat.add_mod_mod i, ← Nat.add_mod_mod j]
  exact mod_ne hi hj (Nat.mod_lt _ hn) (by omega)
theorem rot_mem {l : List Ent} {t : Nat} (x : Ent) : x ∈ rot l t ↔ x ∈ l := by
  constructor
  · intro h
    obtain ⟨i, hi, rfl⟩ := List.getElem_of_mem h
    rw [rot_len] at hi
    rw [rot_get (by rw [rot_len]; exact hi) (Nat.mod_lt _ (by omega))]
    exact List.getElem_mem _
  · intro h
    obtain ⟨j, hj, rfl⟩ := List.getElem_of_mem h
    have hn : 0 < l.length := by omega
    have hlt := Nat.mod_lt t hn
    have hi : (j + (l.length - t % l.length)) % l.length < l.length := Nat.mod_lt _ hn
    have h1 : ((j + (l.length - t % l.length)) % l.length + t) % l.length = j := by
      rw [← Nat.add_mod_mod, Nat.mod_add_mod, show j + (l.length - t % l.length) + t % l.length = j + l.length from by omega, Nat.add_mod_right, Nat.mod_eq_of_lt hj]
    have h2 := rot_get (l := l) (t := t) (i := (j + (l.length - t % l.length)) % l.length) (by rw [rot_len]; exact hi) (by rw [h1]; exact hj)
    have h3 : l[((j + (l.length - t % l.length)) % l.length + t) % l.length]'(by rw [h1]; exact hj) = l[j] := by congr 1
    rw [← h3, ← h2]
    exact List.getElem_mem _
/-- Neither the order in which they come changes what there is. -/
theorem rot_same {l : List Ent} {t : Nat} {a b : List Ent} (hd : Dist l) (ha : a = insAll l) (hb : b = insAll (rot l t)) (hsa : Sorted a) (hsb : Sorted b) : a = b := by
  refine sorted_ext a b hsa hsb fun x => ?_
  rw [ha, hb, insAll_mem _ l rfl hd, insAll_mem _ (rot l t) rfl (dist_rot hd)]
  simp only [rot_mem]
theorem C21t {A : Nat → Prop} {w : World} {v : Value} {es : List Ent} (hR : Row A w v es) (h : rightB es = true) : Rt Try.prog 21 [v] w fun r w' => r = .bool true ∧ Ext w w' :=
  (C21 hR).mono fun r w' ⟨h1, h2⟩ => ⟨by rw [h1, h], h2⟩
/-- Two tables, in blocks of their own from base on. -/
structure Two (base : Nat) (w : World) (ba bb : Nat) (ta tb : Td) : Prop where
  ea : ta.bt = ba
  eb : tb.bt = bb
  ex : ∃ O P : Nat → Prop, Tab O w ta ∧ Tab P w tb ∧ (∀ k, O k → base ≤ k ∧ k < w.heap.size ∧ ¬ P k) ∧ (∀ k, P k → base ≤ k ∧ k < w.heap.size)
  ia : TI ta
  ib : TI tb
  oa : ∀ e ∈ ta.E, okE e
  ob : ∀ e ∈ tb.E, okE e
section
variable {base ba bb : Nat} {w w' : World} {ta tb : Td}
theorem Two.a (h : Two base w ba bb ta tb) : Tbl base w ba ta := by
  obtain ⟨O, P, h1, h2, h3, h4⟩ := h.ex
  exact ⟨h.ea, h1.mono fun k _ hk => ⟨(h3 k hk).1, (h3 k hk).2.1⟩, h.ia, h.oa⟩
theorem Two.b (h : Two base w ba bb ta tb) : Tbl base w bb tb := by
  obtain ⟨O, P, h1, h2, h3, h4⟩ := h.ex
  exact ⟨h.eb, h2.mono fun k _ hk => h4 k hk, h.ib, h.ob⟩
theorem Two.swap (h : Two base w ba bb ta tb) : Two base w bb ba tb ta := by
  obtain ⟨O, P, h1, h2, h3, h4⟩ := h.ex
  exact ⟨h.eb, h.ea, ⟨P, O, h2, h1, fun k hk => ⟨(h4 k hk).1, (h4 k hk).2, fun hO => (h3 k hO).2.2 hk⟩, fun k hk => ⟨(h3 k hk).1, (h3 k hk).2.1⟩⟩, h.ib, h.ia, h.ob, h.oa⟩
theorem Two.ext (h : Two base w ba bb ta tb) (hx : Ext w w') : Two base w' ba bb ta tb := by
  obtain ⟨O, P, h1, h2, h3, h4⟩ := h.ex
  have := hx.size
  exact ⟨h.ea, h.eb, ⟨O, P, h1.ext hx, h2.ext hx, fun k hk => ⟨(h3 k hk).1, by have := (h3 k hk).2.1; omega, (h3 k hk).2.2⟩, fun k hk => ⟨(h4 k hk).1, by have := (h4 k hk).2; omega⟩⟩, h.ia, h.ib, h.oa, h.ob⟩
theorem Two.put {A : Nat → Prop} {e : Ent} {bv : Value} (h : Two base w ba bb ta tb) (hby : Byts A w bv e.v) (hok : EntOk e) (hl : ta.ns.length ≤ 100000) (hbase : base ≤ w.heap.size) :
    Rt Try.prog 29 [.pointer (some ⟨ba, 0, none⟩), .agg (cellsOf e bv).toArray] w fun r w' => ∃ t', Two base w' ba bb t' tb ∧ t'.E = insL (clr e) ta.E ∧ t'.ns.length ≤ ta.ns.length + 1 ∧ Keep (fun k => k < base) w w' := by
  obtain rfl := h.ea
  obtain ⟨O, P, h1, h2, h3, h4⟩ := h.ex
  have hle := ta.El
  have h5 := sizeL_le ta.E (tab_E_ok h1)
  refine (C29 h1 hby hok (by rw [h.ia.cnt]; omega) (by rw [h.ia.sz]; omega)).mono fun u w' ⟨t', h6, h7, h8⟩ => ⟨t', ?_, h7.E, ?_, h8.mono fun k _ hk hm => by have : base ≤ k := (h3 k (h1.own k hm)).1; omega⟩
  · have hsz := h8.size
    refine ⟨h7.1, h.eb, ⟨_, P, h6.bound, h2.keep h8 fun k _ hk hm => (h3 k (h1.own k hm)).2.2 hk, fun k ⟨hk, hlt⟩ => ?_, fun k hk => ⟨(h4 k hk).1, by have := (h4 k hk).2; omega⟩⟩, h.ia.put h7, h.ib, okE_put h.oa h7, h.ob⟩
    rcases hk with hk | hk
    · exact ⟨(h3 k hk).1, hlt, (h3 k hk).2.2⟩
    · exact ⟨by omega, hlt, fun hP => by have := (h4 k hP).2; omega⟩
  · have := (insL_len (clr e) ta.E).2
    rw [← h7.E, hle, t'.El] at this
    exact this
theorem two_new {ha hb : Nat} {da db : Value} {za zb : List Int} {w1 : World} (hA : Tab (fun k => base ≤ k ∧ k < w1.heap.size) w1 ⟨ba, ha, [], 0, 0, da, za, 0⟩) (hx : Ext w1 w) (hB : Tab (fun k => w1.heap.size ≤ k) w ⟨bb, hb, [], 0, 0, db, zb, 0⟩) (hbase : base ≤ w1.heap.size) : Two base w ba bb ⟨ba, ha, [], 0, 0, da, za, 0⟩ ⟨bb, hb, [], 0, 0, db, zb, 0⟩ := by
  have hsz := hx.size
  exact ⟨rfl, rfl, ⟨_, _, hA.ext hx, hB.bound, fun k hk => ⟨hk.1, by have := hk.2; omega, fun h => by have := h.1; have := hk.2; omega⟩, fun k hk => ⟨by have := hk.1; omega, hk.2⟩⟩, ⟨rfl, rfl, rfl⟩, ⟨rfl, rfl, rfl⟩, fun e he => by simp [Td.E] at he, fun e he => by simp [Td.E] at he⟩
end
end Go.Proofs.Ytblbddamebbgaaa.K
