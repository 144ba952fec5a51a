import Derived.Test.YtblbddamebbgaaaZ3
import Derived.Maps.Own
import Derived.Maps.OwnOps
import Derived.Maps.Range
import Derived.Maps.Views
import Derived.Maps.Keyed
import Derived.StringKeys
/- A list parted in seven; arrays; remainders. -/
namespace Go.Proofs.Ytblbddamebbgaaa.K
open Go Go.RowKit
set_option linter.unusedVariables false
set_option linter.unusedSectionVars false
set_option linter.unusedSimpArgs false

section
variable {P : Program} {m : Nat} {D : List Deferred} {L : Env} {w w' : World} {ty t t' e : TypeId} {x y : Operand} {k : Nat}
theorem x_indexArr {q : IntKind} {i : Int} {b o N : Nat} (hu : P.underlying t = some (.array N e)) (hs : Siz P e k) (hx : ev L x = some (.pointer (some ⟨b, o, none⟩))) (hy : ev L y = some (.int q i)) (h0 : 0 ≤ i) (h1 : i < N) :
    Xv P m D L (.indexAddr t x y) ty w (.pointer (some ⟨b, o + i.toNat * k, none⟩)) w :=
  ⟨nofun, fun _ _ _ _ a h => by simp [execOp, h.ev hx, h.ev hy, Instr.indexAt, asIntOf, run_underlying hu, hs w, h0, h1, add_mk, Instr.sureAddr]⟩
theorem x_rem {q : IntKind} {i j : Int} (hx : ev L x = some (.int q i)) (hy : ev L y = some (.int q j)) (hj : j ≠ 0) : Xv P m D L (.binOp .rem t x y t') ty w (.int q (i.tmod j)) w :=
  ⟨nofun, fun _ _ _ _ a h => by simp [execOp, h.ev hx, h.ev hy, eqGuard, binOp, Op.intDiv, hj]⟩
end
/-- A slice of the entry e with the value bv, made since w0. -/
def Ap2 (w0 : World) (e : Ent) (bv : Value) : VP := fun u w => ∃ bt, u = .slice (some ⟨bt, 0, none⟩) 1 1 ∧ w0.heap.size ≤ bt ∧ Blk w bt (cellsOf e bv) 25
theorem Ap2.stable {w0 : World} {e : Ent} {bv : Value} : Stable (Ap2 w0 e bv) := fun v w w' ⟨bt, h, h2, hB⟩ hx => ⟨bt, h, h2, hB.ext hx⟩
/-- What an append of e to the row rv gives. -/
def ApRow (A : Nat → Prop) (base : Nat) (w0 : World) (rv : Value) (p : List Ent) : VP := fun v w => OwnE A base w v p ∧ (v.ownBlock = rv.ownBlock ∨ ∃ b, v.ownBlock = some b ∧ w0.heap.size ≤ b)
section
variable {F : Fence} {n m : Nat} {Q : Exit → Act → World → Prop} {D : List Deferred} {L : Env} {w0 : World} {ops : List Oper} {rest : List Oper} {d s i sp : Nat} {ty : TypeId} {pos : String} {af : Array Edge} {e : Ent} {bv rv : Value} {K : Env → List (Nat × VP) → Prop} {V : List (Nat × VP)} {S A : Nat → Prop} {base : Nat} {p : List Ent}
theorem qs_build2 (hne : i ≠ sp) (hS : ∀ k, w0.heap.size ≤ k → S k) (hd : Nat.blt d m = true) (hno : at' L d = none) (hv : ev L (.tmp s) = some (.agg (cellsOf e bv).toArray)) (k : QWS S sp F n Try.prog m D ops w0 K (i + 1) rest L ((d, Ap2 w0 e bv) :: V)) :
    QWS S sp F n Try.prog m D ops w0 K i (⟨some d, .buildSlice 26 1 #[(0, .tmp s)], ty, pos, af, none⟩ :: rest) L V :=
  qs_valp hne (fun v w w' ⟨bt, h, h2, hB⟩ hk => ⟨bt, h, h2, hB.keep hk (fun _ => hS _ h2)⟩) rfl hd hno (fun w' hw => by
    obtain ⟨b, w'', hx, h1, h2, h3⟩ := x_buildSlice (P := Try.prog) (m := m) (D := D) (w := w') (ty := ty) (L := L) (vs := [.agg (cellsOf e bv).toArray]) (sz := 4) (len := 1) (parts := [(0, .tmp s)]) Try.underlying26 ag25.siz Try.zeroValue25 (by simp only [partsOk, hv]; rfl) rfl rfl (by decide)
    exact ⟨_, w'', hx, ⟨b, rfl, Nat.le_trans hw.size h1, h2⟩, h3⟩) k
theorem qs_append2 {r : Nat} (hi : i = sp) (hd : Nat.blt d m = true) (hno : at' L d = none) (hrs : r ≠ s) (hr : at' L r = some rv) (hs : (s, Ap2 w0 e bv) ∈ V) (hO : OwnE A base w0 rv p) (hl : p.length < 1099511627776) (hb : Byts (fun k => A k ∧ some k ≠ rv.ownBlock) w0 bv e.v) (he : EntOk e) (hbase : base ≤ w0.heap.size)
    (k : QWS (fun k => some k ≠ rv.ownBlock) sp F n Try.prog m D ops w0 K (i + 1) rest L ((d, ApRow A base w0 rv (p ++ [e])) :: V)) :
    QWS (fun k => some k ≠ rv.ownBlock) sp F n Try.prog m D ops w0 K i (⟨some d, .call ⟨.builtin .append, #[.tmp r, .tmp s], #[26, 26]⟩, ty, pos, af, none⟩ :: rest) L V :=
  qs_sp hi (fun v w w' ⟨h1, h2⟩ hk => ⟨h1.keep hk (fun _ _ h => by cases h) (fun _ _ _ h => by cases h), h2⟩) rfl hd hno hs (List.mem_append_left _ (List.mem_filterMap.2 ⟨.tmp s, by simp [Op.operands, Call.operands], rfl⟩)) (fun w' u hw hu => by
    obtain ⟨bt, rfl, hbt, hB⟩ := hu
    obtain ⟨v', w'', hrun, h1, h2, h3⟩ := run_append1 (ty := ty) (hO.ext hw) hl hB (hb.ext hw) he (Nat.le_trans hbase hw.size)
    refine ⟨v', w'', ⟨nofun, fun _ _ _ _ a h => ?_⟩, ⟨h1, h3.imp_right fun ⟨b, e, hb⟩ => ⟨b, e, Nat.le_trans hw.size hb⟩⟩, h2⟩
    have e1 : a.eval (.tmp r) = rv := h.ev (x := .tmp r) (by show at' _ _ = _; rw [at_cons, if_neg (Ne.symm hrs)]; exact hr)
    have e2 : a.eval (.tmp s) = .slice (some ⟨bt, 0, none⟩) 1 1 := h.ev (x := .tmp s) (by show at' _ _ = _; rw [at_cons, if_pos rfl])
    simp [execOp, resolve, e1, e2, invoke, builtin, hrun]) k
end

/-! ### the parts -/
def partF (f : Nat → Nat) (n : Nat) : Nat → List Ent → List Ent
  | _, [] => []
  | o, e :: es => if f o = n then e :: partF f n (o + 1) es else partF f n (o + 1) es
theorem partF_snoc (f : Nat → Nat) (n : Nat) (e : Ent) : ∀ (es : List Ent) (o : Nat), partF f n o (es ++ [e]) = partF f n o es ++ (if f (o + es.length) = n then [e] else [])
  | [], o => by simp [partF]
  | x :: es, o => by
    simp only [List.cons_append, partF, partF_snoc f n e es (o + 1), List.length_cons]
    rw [show o + 1 + es.length = o + (es.length + 1) from by omega]
    split <;> simp
theorem partF_sub (f : Nat → Nat) (n : Nat) : ∀ (es : List Ent) (o : Nat), (partF f n o es).Sublist es
  | [], _ => by simp [partF]
  | x :: es, o => by
    simp only [partF]
    split
    · exact (partF_sub f n es (o + 1)).cons_cons x
    · exact (partF_sub f n es (o + 1)).cons x
theorem partF_mem (f : Nat → Nat) (n : Nat) {x : Ent} : ∀ (es : List Ent) (o : Nat), x ∈ partF f n o es ↔ ∃ i, es[i]? = some x ∧ f (o + i) = n
  | [], o => by simp [partF]
  | y :: es, o => by
    have ih := partF_mem f n (x := x) es (o + 1)
    simp only [partF]
    constructor
    · intro h
      by_cases hf : f o = n
      · rw [if_pos hf] at h
        rcases List.mem_cons.1 h with rfl | h
        · exact ⟨0, rfl, hf⟩
        · obtain ⟨i, h1, h2⟩ := ih.1 h
          exact ⟨i + 1, by simpa using h1, by rw [← h2]; congr 1; omega⟩
      · rw [if_neg hf] at h
        obtain ⟨i, h1, h2⟩ := ih.1 h
        exact ⟨i + 1, by simpa using h1, by rw [← h2]; congr 1; omega⟩
    · rintro ⟨i, h1, h2⟩
      cases i with
      | zero =>
        simp at h1; subst h1
        rw [if_pos (by simpa using h2)]; simp
      | succ i =>
        have : x ∈ partF f n (o + 1) es := ih.2 ⟨i, by simpa using h1, by rw [← h2]; congr 1; omega⟩
        split
        · exact List.mem_cons_of_mem _ this
        · exact this
def parts7 (f : Nat → Nat) (es : List Ent) : List (List Ent) := (List.range 7).map fun n => partF f n 0 es
theorem parts7_at {f : Nat → Nat} {es : List Ent} {n : Nat} (h : n < 7) : (parts7 f es)[n]? = some (partF f n 0 es) := by simp [parts7, List.getElem?_map, List.getElem?_range h]
theorem parts7_len (f : Nat → Nat) (es : List Ent) : (parts7 f es).length = 7 := by simp [parts7]
theorem parts7_snoc {f : Nat → Nat} {es : List Ent} {s : Nat} (h : s < es.length) : parts7 f (es.take (s + 1)) = (parts7 f (es.take s)).set (f s) (partF f (f s) 0 (es.take s) ++ [es[s]]) := by
  refine List.ext_getElem? fun n => ?_
  by_cases hn : n < 7
  · rw [parts7_at hn, List.take_add_one, List.getElem?_eq_getElem h, Option.toList, partF_snoc, Nat.zero_add, List.length_take, Nat.min_eq_left (by omega)]
    by_cases he : f s = n
    · rw [he, List.getElem?_set_self (by rw [parts7_len]; exact hn)]; simp
    · rw [List.getElem?_set_ne he, parts7_at hn, if_neg he, List.append_nil]
  · rw [List.getElem?_eq_none (by rw [parts7_len]; omega), List.getElem?_eq_none (by rw [List.length_set, parts7_len]; omega)]
theorem parts_right {f : Nat → Nat} {es : List Ent} (h : rightB es = true) : (parts7 f es).all rightB = true := by
  obtain ⟨h1, h2⟩ := rightB_iff.1 h
  refine List.all_eq_true.2 fun l hl => ?_
  obtain ⟨n, -, rfl⟩ := List.mem_map.1 hl
  exact rightB_iff.2 ⟨fun e he => h1 e ((partF_sub f n es 0).subset he), List.Pairwise.sublist (partF_sub f n es 0) h2⟩
theorem sorted_index {es : List Ent} (h : Sorted es) {i j : Nat} {x y : Ent} (hi : es[i]? = some x) (hj : es[j]? = some y) (hs : sameE x y) : i = j := by
  obtain ⟨hil, rfl⟩ := List.getElem?_eq_some_iff.1 hi
  obtain ⟨hjl, rfl⟩ := List.getElem?_eq_some_iff.1 hj
  rcases Nat.lt_trichotomy i j with h' | h' | h'
  · exact absurd hs (ltE_not_same (List.pairwise_iff_getElem.1 h i j hil hjl h'))
  · exact h'
  · exact absurd (same_symm hs) (ltE_not_same (List.pairwise_iff_getElem.1 h j i hjl hil h'))
theorem parts_law {f : Nat → Nat} {es : List Ent} (hf : ∀ i, f i < 7) (h : rightB es = true) : mrg (parts7 f es) = es := by
  have hs := (rightB_iff.1 h).2
  have hall := all_sorted (parts_right (f := f) h)
  refine sorted_ext _ _ (mrg_sorted hall) hs fun x => ?_
  rw [mrg_mem hall]
  constructor
  · rintro ⟨n, l, hl, hx, -⟩
    have hn : n < 7 := by have := (List.getElem?_eq_some_iff.1 hl).1; rwa [parts7_len] at this
    rw [parts7_at hn] at hl
    cases hl
    exact (partF_sub f n es 0).subset hx
  · intro hx
    obtain ⟨i, hi⟩ := List.getElem?_of_mem hx
    refine ⟨f i, _, parts7_at (hf i), (partF_mem f (f i) es 0).2 ⟨i, hi, by rw [Nat.zero_add]⟩, fun j l' hj hl' y hy hyx => ?_⟩
    have hn := hf i
    rw [parts7_at (by omega)] at hl'
    cases hl'
    obtain ⟨i', hi', hf'⟩ := (partF_mem f j es 0).1 hy
    have := sorted_index hs hi' hi hyx
    subst this
    rw [Nat.zero_add] at hf'
    omega
theorem tot_le_mul : ∀ (ls : List (List Ent)) (n : Nat), (∀ l ∈ ls, l.length ≤ n) → tot ls ≤ ls.length * n
  | [], _, _ => by simp [tot]
  | l :: ls, n, h => by
    have h1 := h l (by simp)
    have h2 := tot_le_mul ls n fun x hx => h x (by simp [hx])
    simp only [tot, List.length_cons, Nat.succ_mul]; omega
theorem parts_tot (f : Nat → Nat) (es : List Ent) : tot (parts7 f es) ≤ 7 * es.length := by
  have := tot_le_mul (parts7 f es) es.length fun l hl => by
    obtain ⟨n, -, rfl⟩ := List.mem_map.1 hl
    exact (partF_sub f n es 0).length_le
  rwa [parts7_len] at this
/-- Which part: the remainder of 7, without its sign. -/
def pidx (zs : List Int) (i : Nat) : Nat := if i < zs.length then ((zs.getD i 0).tmod 7).natAbs else 0
theorem tmod7 (z : Int) : -7 < z.tmod 7 ∧ z.tmod 7 < 7 := ⟨Int.lt_tmod_of_pos z (by decide), Int.tmod_lt_of_pos z (by decide)⟩
theorem pidx_lt (zs : List Int) (i : Nat) : pidx zs i < 7 := by
  unfold pidx
  split
  · have := tmod7 (zs.getD i 0); omega
  · decide

/-! ### seven rows in an array -/
structure Sev (A : Nat → Prop) (base : Nat) (w : World) (b : Nat) (ps : List (List Ent)) : Prop where
  len : ps.length = 7
  ex : ∃ vals, vals.length = 7 ∧ Blk w b vals 69 ∧ (∀ (n : Nat) (v : Value) (p : List Ent), vals[n]? = some v → ps[n]? = some p → OwnE A base w v p) ∧ ∀ (i j : Nat) (v u : Value) (g : Nat), i ≠ j → vals[i]? = some v → vals[j]? = some u → v.ownBlock = some g → u.ownBlock ≠ some g
theorem Sev.ext {A : Nat → Prop} {base : Nat} {w w' : World} {b : Nat} {ps : List (List Ent)} (h : Sev A base w b ps) (hx : Ext w w') : Sev A base w' b ps := by
  obtain ⟨h1, vals, h2, h3, h4, h5⟩ := h
  exact ⟨h1, vals, h2, h3.ext hx, fun n v p hv hp => (h4 n v p hv hp).ext hx, h5⟩
theorem Sev.start {A : Nat → Prop} {base : Nat} {w : World} {b : Nat} (f : Nat → Nat) (hB : Blk w b [.slice none 0 0, .slice none 0 0, .slice none 0 0, .slice none 0 0, .slice none 0 0, .slice none 0 0, .slice none 0 0] 69) : Sev A base w b (parts7 f []) := by
  have hv : ∀ (n : Nat) (v : Value), [Value.slice none 0 0, .slice none 0 0, .slice none 0 0, .slice none 0 0, .slice none 0 0, .slice none 0 0, .slice none 0 0][n]? = some v → v = .slice none 0 0 := fun n v h => by
    have := List.mem_of_getElem? h
    simpa using this
  refine ⟨parts7_len _ _, _, rfl, hB, fun n v p h hp => ?_, fun i j v u g _ h _ hg => ?_⟩
  · obtain rfl := hv n v h
    have hn : n < 7 := by have := (List.getElem?_eq_some_iff.1 hp).1; rwa [parts7_len] at this
    rw [parts7_at hn] at hp
    cases hp
    exact own_nil _ _ _
  · obtain rfl := hv i v h
    cases hg
theorem Sev.step {A : Nat → Prop} {base : Nat} {w wA wS : World} {b n : Nat} {ps : List (List Ent)} {vals : List Value} {v v' : Value} {p' : List Ent} (hA : ∀ k, A k → k < base) (hb : base ≤ b) (hl : ps.length = 7) (hvl : vals.length = 7) (hB : Blk w b vals 69)
    (hO : ∀ (n : Nat) (v : Value) (p : List Ent), vals[n]? = some v → ps[n]? = some p → OwnE A base w v p) (hd : ∀ (i j : Nat) (v u : Value) (g : Nat), i ≠ j → vals[i]? = some v → vals[j]? = some u → v.ownBlock = some g → u.ownBlock ≠ some g) (hn : n < 7) (hv : vals[n]? = some v)
    (hO2 : OwnE A base wA v' p') (hkA : Keep (fun k => some k ≠ v.ownBlock) w wA) (hcA : v'.ownBlock = v.ownBlock ∨ ∃ b, v'.ownBlock = some b ∧ w.heap.size ≤ b) (hBA : Blk wA b vals 69) (hBS : Blk wS b (vals.set n v') 69) (hkS : Keep (· ≠ b) wA wS) : Sev A base wS b (ps.set n p') := by
  have hpn : ps[n]? = some (ps[n]'(by omega)) := List.getElem?_eq_getElem _
  have hOn := hO n v _ hv hpn
  have hAb : ∀ k, A k → k ≠ b := fun k h => by have := hA k h; omega
  have hlt : ∀ (j : Nat) (u : Value) (g : Nat), vals[j]? = some u → u.ownBlock = some g → g < w.heap.size := fun j u g hu hg => by
    have hj : j < 7 := by have := (List.getElem?_eq_some_iff.1 hu).1; omega
    exact ((hO j u _ hu (List.getElem?_eq_getElem (show j < ps.length by omega))).lt g hg).2
  refine ⟨by simpa using hl, vals.set n v', by simpa using hvl, hBS, fun j u p hu hp => ?_, fun i j a c g hij ha hc hg => ?_⟩
  · by_cases e : n = j
    · subst e
      rw [List.getElem?_set_self (by omega)] at hu hp
      cases hu; cases hp
      exact hO2.keep hkS (hO2.ne hBA (by decide)) (fun k _ h => hAb k h)
    · rw [List.getElem?_set_ne e] at hu hp
      have h1 := (hO j u p hu hp).keep hkA (fun g hg e' => hd j n u v g (Ne.symm e) hu hv hg e'.symm) (fun k _ h e' => by have := (hOn.lt k e'.symm).1; have := hA k h; omega)
      exact h1.keep hkS (h1.ne hBA (by decide)) (fun k _ h => hAb k h)
  · by_cases e : n = i
    · subst e
      rw [List.getElem?_set_self (by omega)] at ha
      cases ha
      rw [List.getElem?_set_ne hij] at hc
      rcases hcA with h | ⟨b', h, h'⟩
      · exact hd n j v c g hij hv hc (by rw [← h]; exact hg)
      · intro hcg
        have := hlt j c g hc hcg
        rw [h] at hg; cases hg; omega
    · rw [List.getElem?_set_ne e] at ha
      by_cases e2 : n = j
      · subst e2
        rw [List.getElem?_set_self (by omega)] at hc
        cases hc
        rcases hcA with h | ⟨b', h, h'⟩
        · rw [h]; exact hd i n a v g hij ha hv hg
        · intro hcg
          have := hlt i a g ha hg
          rw [h] at hcg; cases hcg; omega
      · rw [List.getElem?_set_ne e2] at hc
        exact hd i j a c g hij ha hc hg
/-- The slice v holds the numbers zs. -/
def IRow (A : Nat → Prop) (w : World) (v : Value) (zs : List Int) : Prop := ∃ ad cap, v = .slice ad zs.length cap ∧ zs.length ≤ 1099511627776 ∧ (zs ≠ [] → ∃ b o, ad = some ⟨b, o, none⟩ ∧ A b ∧ ∀ (i : Nat) (z : Int), zs[i]? = some z → w.cell? ⟨b, o + i, none⟩ = some (.int .i64 z))
theorem IRow.ext {A : Nat → Prop} {w w' : World} {v : Value} {zs : List Int} (h : IRow A w v zs) (hx : Ext w w') : IRow A w' v zs := by
  obtain ⟨ad, cap, rfl, h1, h⟩ := h
  exact ⟨ad, cap, rfl, h1, fun hne => by obtain ⟨b, o, e, hA, hc⟩ := h hne; exact ⟨b, o, e, hA, fun i z hi => hx.cell (hc i z hi)⟩⟩
theorem IRow.form {A : Nat → Prop} {w : World} {v : Value} {zs : List Int} (h : IRow A w v zs) : ∃ ad cap, v = .slice ad zs.length cap ∧ zs.length ≤ 1099511627776 := by obtain ⟨ad, cap, e, h1, -⟩ := h; exact ⟨ad, cap, e, h1⟩
theorem IRow.at {A : Nat → Prop} {w : World} {v : Value} {zs : List Int} (h : IRow A w v zs) (i : Nat) (hi : i < zs.length) : ∃ b o cap, v = .slice (some ⟨b, o, none⟩) zs.length cap ∧ Cells w b (o + i * 1) [.int .i64 zs[i]] := by
  obtain ⟨ad, cap, rfl, h1, h⟩ := h
  obtain ⟨b, o, rfl, hA, hc⟩ := h (by rintro rfl; simp at hi)
  refine ⟨b, o, cap, rfl, fun j u hj => ?_⟩
  have : j = 0 := by have := (List.getElem?_eq_some_iff.1 hj).1; simp at this; omega
  subst this
  simp at hj
  subst hj
  rw [Nat.mul_one, Nat.add_zero]
  exact hc i _ (List.getElem?_eq_getElem hi)
theorem pidx_in {zs : List Int} {i : Nat} (h : i < zs.length) : pidx zs i = (zs[i].tmod 7).natAbs := by
  unfold pidx; rw [if_pos h, List.getD_eq_getElem?_getD, List.getElem?_eq_getElem h]; rfl
theorem pidx_out {zs : List Int} {i : Nat} (h : ¬ i < zs.length) : pidx zs i = 0 := if_neg h
theorem list7 {α : Type} : ∀ {l : List α}, l.length = 7 → ∃ a b c d e f g, l = [a, b, c, d, e, f, g]
  | [a, b, c, d, e, f, g], _ => ⟨a, b, c, d, e, f, g, rfl⟩
end Go.Proofs.Ytblbddamebbgaaa.K

/- The row of a law that holds: from what the walk gives to the row's own words. -/
namespace Go.Proofs.Ytblbddamebbgaaa.K
open Go Go.RowKit Go.ChangeShapes Go.WideShapes Go.ChangeAt
set_option linter.unusedVariables false
set_option linter.unusedSectionVars false
set_option linter.unusedSimpArgs false
set_option maxRecDepth 100000

section
variable {H : Type} {enc : TypeId × Value → H} {W W' : World}
theorem laidOut : laidOutB Try.prog = true := by kernel_rfl
theorem own : ownKnob Try.prog.godebug = none := by kernel_rfl
theorem post_true {f : Func} {s : ChangeSpec} {fresh handsOn again : Bool} {args : Array Value} {ds gs : List (DataW H)} {before : List MemPlace}
    (hW : DataW.Whole enc Try.prog f.params.toList s.vars false W args.toList ds gs before) (hv : s.vars = []) (hs : s.fn H (ds ++ gs) = { results := [.lit (.bool true)], args := ds })
    (ht : ∀ t ∈ f.params.toList, Try.prog.readableRec t = true ∧ t < Try.prog.types.size) (hr : f.resultTypes = #[4]) (hx : Ext W W') :
    s.post enc Try.prog f false fresh handsOn again W args (.bool true) W' := by
  have hb := hx.below
  have hlt : ∀ p ∈ before, p.block < W.heap.size := fun p hp => hW.lt p hp
  have hargs : ∀ sp : Nat → Bool, (∀ p ∈ before, sp p.block = true) → DataW.TrodAll enc Try.prog W' 0 sp true f.params.toList args.toList (s.fn H (ds ++ gs)).args before := fun sp hsp => by
    obtain ⟨p, q, hA, hV, rfl, -, -⟩ := hW
    rw [hv] at hV
    obtain ⟨rfl, rfl⟩ := trodVars_none hV
    rw [hs]
    simp only [List.append_nil] at hlt hsp ⊢
    exact trodAll_stays laidOut hb _ _ _ _ ht hlt hsp hA
  have hres : ∀ (b : Nat) (sp : Nat → Bool) (hd : Bool), DataW.TrodAll enc Try.prog W' b sp hd f.resultTypes.toList ((Value.bool true).resultList f.resultTypes.size) (s.fn H (ds ++ gs)).results [] := fun b sp hd => by
    rw [hs, hr]
    exact trodAll_cons_mk (shut_bool Try.underlying4 _) trodAll_mk0
  have hvars : ∀ sp : Nat → Bool, DataW.TrodVars enc Try.prog W' sp s.vars (s.fn H (ds ++ gs)).vars [] := fun sp => by
    rw [hs, hv]; rfl
  have hold : ∀ p ∈ before, (fun b => decide (b < W.heap.size)) p.block = true := fun p hp => by simpa using hlt p hp
  refine ⟨ds, gs, before, [], before, [], hW, hres _ _ _, hargs _ hold, hvars _, hb.frame _, fun _ => ?_⟩
  obtain ⟨_, _, _, _, _, hz, hn⟩ := hW
  refine ⟨ok_one hr rfl (okWide_bool_mk Try.underlying4 _), _, _, ([] ++ before) ++ [], ⟨[] ++ before, [], trodAll_append (hargs _ (fun _ _ => rfl)) (hres _ _ _), hvars _, rfl, ?_, fun h => by cases h⟩, ?_⟩
  · intro b off hp
    simp only [List.nil_append, List.append_nil] at hp
    rw [hb.frozen (p := ⟨b, off, none⟩) (hlt _ hp)]
    exact hz b off hp
  · intro p hp _
    simpa using hp
/-- One argument: of type 26, a list. -/
theorem open_row_arg {r : Reach} {b0 : Nat} {v : Value} {d : DataW H} {p : List MemPlace} (h : DataW.Trod enc Try.prog W 0 (fun _ => true) true 26 v d p) (hval : Value.okWide Try.prog W r b0 26 v) (hb : Rows.uptoBulk d ≤ 1048576) : ∃ es, Row (fun k => k < W.heap.size) W v es ∧ es.length ≤ 1048576 := by
  obtain ⟨a, len, cap, rfl⟩ := okWide_slice Try.underlying26 hval
  obtain ⟨n, hn⟩ := h
  exact open_row hn rfl hb
theorem open_ent_arg {r : Reach} {b0 : Nat} {v : Value} {d : DataW H} {p : List MemPlace} (h : DataW.Trod enc Try.prog W 0 (fun _ => true) true 25 v d p) (hval : Value.okWide Try.prog W r b0 25 v) (hb : Rows.uptoBulk d ≤ 1048576) : ∃ e bv, v = .agg (cellsOf e bv).toArray ∧ Byts (fun k => k < W.heap.size) W bv e.v ∧ EntOk e := by
  obtain ⟨cs, rfl, -⟩ := okWide_struct Try.underlying25 hval
  obtain ⟨n, hn⟩ := h
  obtain ⟨e, bv, h1, h2, h3⟩ := open_ent hn hb
  refine ⟨e, bv, ?_, h2, h3⟩
  have h1 : cs.toList = cellsOf e bv := h1
  rw [← h1]
/-- .. of type 65: a list of lists. -/
theorem open_rows_arg {r : Reach} {b0 : Nat} {v : Value} {d : DataW H} {p : List MemPlace} (h : DataW.Trod enc Try.prog W 0 (fun _ => true) true 65 v d p) (hval : Value.okWide Try.prog W r b0 65 v) (hb : Rows.uptoBulk d ≤ 1048576) : ∃ ls, LRow (fun k => k < W.heap.size) W v ls ∧ ls.length ≤ 1048576 := by
  obtain ⟨a', len, cap, rfl⟩ := okWide_slice Try.underlying65 hval
  obtain ⟨fu, hn⟩ := h
  rcases Go.Deep.open_slice Try.underlying65 hn with ⟨he, hx⟩ | ⟨a, len2, cap2, m, n, D, Pl, he, -, hl, -, hm, hx, hel⟩
  · have he : [Value.slice a' len cap] = [.slice none 0 0] := he
    cases he
    exact ⟨[], ⟨none, 0, rfl, Nat.le_refl _, by simp, fun h => absurd rfl h⟩, by simp⟩
  · have he : [Value.slice a' len cap] = [.slice (some a) len2 cap2] := he
    cases he
    cases hx
    have hle : len ≤ m := by rw [hm]; split <;> omega
    simp only [Rows.uptoBulk] at hb
    have hlen : len ≤ 1048576 := by have := bulkAll_len ((List.range len).map D); simp at this; omega
    have hent : ∀ i, i < len → ∃ l : List Ent, ∃ rv, W.cell? (a.add i) = some rv ∧ Row (fun k => k < W.heap.size) W rv l := fun i hi => by
      obtain ⟨cs', h1, h2⟩ := hel i (by omega)
      rw [cellsOf26, Nat.mul_one] at h1
      have := bulkAll_mem ((List.range len).map D) (D i) (List.mem_map.2 ⟨i, List.mem_range.2 hi, rfl⟩)
      obtain ⟨-, hl1, hg⟩ := World.cells?_some h1
      obtain ⟨rv, rfl⟩ : ∃ rv, cs' = [rv] := by
        match cs', hl1 with
        | [rv], _ => exact ⟨rv, rfl⟩
      have h0 := hg 0 (by omega)
      rw [addr_add0] at h0
      obtain ⟨es, h3, -⟩ := open_row h2 rfl (by simp only; omega)
      exact ⟨es, rv, h0, h3⟩
    refine ⟨(List.range len).map fun i => if hi : i < len then (hent i hi).choose else [], ⟨some a, cap, by simp, by simpa using hl, by simp; omega, fun hne => ?_⟩, by simpa using hlen⟩
    have h0 : 0 < len := by
      rcases Nat.eq_zero_or_pos len with h | h
      · subst h; simp at hne
      · exact h
    obtain ⟨l0, rv0, h1, -⟩ := hent 0 h0
    rw [addr_add0] at h1
    obtain ⟨b, o, sp⟩ := a
    have hsp : sp = none := cell_spot h1
    subst hsp
    refine ⟨b, o, rfl, World.block_lt_of_cell? W _ h1, fun i l hi => ?_⟩
    have hil : i < len := by have := (List.getElem?_eq_some_iff.1 hi).1; simpa using this
    rw [List.getElem?_map, List.getElem?_range hil] at hi
    simp only [Option.map_some, Option.some.injEq, dif_pos hil] at hi
    subst hi
    have h2 := (hent i hil).choose_spec
    generalize (hent i hil).choose = l1 at h2 ⊢
    obtain ⟨rv1, h3, h4⟩ := h2
    rw [add_mk] at h3
    refine ⟨rv1, fun j u hj => ?_, h4⟩
    have : j = 0 := by have := (List.getElem?_eq_some_iff.1 hj).1; simp at this; omega
    subst this
    simp at hj
    subst hj
    rw [Nat.mul_one, Nat.add_zero]; exact h3
theorem cellsOf3 : Try.prog.cellsOf 3 = 1 := by kernel_rfl
/-- .. of type 42: numbers. -/
theorem open_ints_arg {r : Reach} {b0 : Nat} {v : Value} {d : DataW H} {p : List MemPlace} (h : DataW.Trod enc Try.prog W 0 (fun _ => true) true 42 v d p) (hval : Value.okWide Try.prog W r b0 42 v) (hb : Rows.uptoBulk d ≤ 1048576) : ∃ zs, IRow (fun k => k < W.heap.size) W v zs ∧ zs.length ≤ 1048576 := by
  obtain ⟨a', len, cap, rfl⟩ := okWide_slice Try.underlying42 hval
  obtain ⟨fu, hn⟩ := h
  rcases Go.Deep.open_slice Try.underlying42 hn with ⟨he, hx⟩ | ⟨a, len2, cap2, m, n, D, Pl, he, -, hl, -, hm, hx, hel⟩
  · have he : [Value.slice a' len cap] = [.slice none 0 0] := he
    cases he
    exact ⟨[], ⟨none, 0, rfl, by simp, fun h => absurd rfl h⟩, by simp⟩
  · have he : [Value.slice a' len cap] = [.slice (some a) len2 cap2] := he
    cases he
    cases hx
    have hle : len ≤ m := by rw [hm]; split <;> omega
    simp only [Rows.uptoBulk] at hb
    have hlen : len ≤ 1048576 := by have := bulkAll_len ((List.range len).map D); simp at this; omega
    have hent : ∀ i, i < len → ∃ z : Int, W.cell? (a.add i) = some (.int .i64 z) := fun i hi => by
      obtain ⟨cs', h1, h2⟩ := hel i (by omega)
      obtain ⟨z, rfl, -, hw⟩ := DataW.trod_int Try.underlying3 h2
      rw [cellsOf3, Nat.mul_one] at h1
      exact ⟨z, cell_of_cells?_one h1⟩
    refine ⟨(List.range len).map fun i => if hi : i < len then (hent i hi).choose else 0, ⟨some a, cap, by simp, by simp; omega, fun hne => ?_⟩, by simpa using hlen⟩
    have h0 : 0 < len := by
      rcases Nat.eq_zero_or_pos len with h | h
      · subst h; simp at hne
      · exact h
    obtain ⟨z0', h1⟩ := hent 0 h0
    rw [addr_add0] at h1
    obtain ⟨b, o, sp⟩ := a
    have hsp : sp = none := cell_spot h1
    subst hsp
    refine ⟨b, o, rfl, World.block_lt_of_cell? W _ h1, fun i z hi => ?_⟩
    have hil : i < len := by have := (List.getElem?_eq_some_iff.1 hi).1; simpa using this
    rw [List.getElem?_map, List.getElem?_range hil] at hi
    simp only [Option.map_some, Option.some.injEq, dif_pos hil] at hi
    have h2 := (hent i hil).choose_spec
    rw [hi, add_mk] at h2
    exact h2
/-- .. of type 9: a string. -/
theorem open_str_arg {r : Reach} {b0 : Nat} {v : Value} {d : DataW H} {p : List MemPlace} (h : DataW.Trod enc Try.prog W 0 (fun _ => true) true 9 v d p) (hval : Value.okWide Try.prog W r b0 9 v) (hb : Rows.uptoBulk d ≤ 1048576) : ∃ k : ByteArray, k.size ≤ 1048576 ∧ p = [] ∧ v = .string k := by
  obtain ⟨k0, rfl⟩ := okWide_string Try.underlying9 hval
  obtain ⟨n, hn⟩ := h
  obtain ⟨k, e0, hx, -⟩ := DataW.trod_string Try.underlying9 hn
  simp [Value.cells] at e0
  subst e0
  simp only [Prod.mk.injEq] at hx
  obtain ⟨h1, h2⟩ := hx
  rw [h1] at hb
  simp only [Rows.uptoBulk] at hb
  exact ⟨k0, by simp at hb; omega, h2, rfl⟩
end
end Go.Proofs.Ytblbddamebbgaaa.K

/- Walks: lists copied, merged. -/
namespace Go.Proofs.Ytblbddamebbgaaa.K
open Go Go.RowKit
set_option linter.unusedVariables false
set_option linter.unusedSimpArgs false

theorem C74 {A : Nat → Prop} {w : World} {v : Value} {ls : List (List Ent)} (hL : LRow A w v ls) (hA : ∀ k, A k → k < w.heap.size) : Rt Try.prog 74 [v] w fun r w' => LOwn A w.heap.size w' r ls ∧ Ext w w' := by
  obtain ⟨ad, cap, rfl, hcap, hlen⟩ := hL.form
  have hW := hWw
  have hFF := hFw
  have hE : Ext w w := Keep.refl _ _
  refine rt_body Try.func74 rfl Try.ntmps74 rfl ?_
  refine wc_seq ?_
  refine wc_region ?_
  refine wl_val hW rfl rfl (x_assign rfl) ?_
  refine wl_nil ?_
  refine nx_then ?_
  refine wc_seq ?_
  refine wc_seq ?_
  refine wc_region ?_
  refine wl_val hW rfl rfl (x_move rfl) ?_
  refine wl_val hW rfl rfl (x_nilEq Try.underlying65 rfl rfl) ?_
  refine wl_nil ?_
  refine nx_then ?_
  refine wc_bool rfl (fun hc => ?_) (fun hc => ?_)
  · refine wc_seq ?_
    refine wc_region ?_
    refine wl_val hW rfl rfl (x_assign rfl) ?_
    refine wl_nil ?_
    refine nx_then ?_
    refine wc_ret ?_
    refine nx_then_ret ?_
    have hl0 : ls = [] := by
      obtain ⟨ad', cap', e, -, -, h⟩ := hL
      cases e
      cases ls with
      | nil => rfl
      | cons u l => obtain ⟨b, o, h, -⟩ := h (by simp); subst h; simp at hc
    exact ends_ret (res_tmp Try.results74 rfl) ⟨by rw [hl0]; exact lown_nil _ _ _, hE⟩
  · refine wc_skip ?_
    refine nx_then ?_
    refine wc_seq ?_
    refine wc_region ?_
    refine wl_buildSlice (parts := []) hW rfl rfl Try.underlying65 fl26.siz Try.zeroValue26 rfl rfl rfl (by omega) ?_
    intro b5 w5 hl5 hB5 hx5
    have g5 : w.heap.size ≤ b5 := Nat.le_trans hE.size hl5
    replace hE := hE.trans hx5
    refine wl_val hW rfl rfl (x_move rfl) ?_
    have hxw := hE
    refine wl_cloneL hW rfl rfl rfl rfl hB5 (hL.ext hE) (fun k h => by have := hA k h; omega) ?_
    intro v7 w7 hv7 hk7 hc7
    replace hE := hE.store hk7 g5
    refine wl_val hW rfl rfl (x_assign rfl) ?_
    refine wl_nil ?_
    refine nx_then ?_
    refine wc_ret ?_
    exact ends_ret (res_tmp Try.results74 rfl) ⟨⟨by obtain ⟨vals, h1, h2, h3⟩ := hv7.ex; refine ⟨vals, h1, ⟨h2.1, ?_⟩, h3⟩; rcases h2.2 with h | ⟨g, c, cur, e1, e2, e3⟩; exact .inl h; exact .inr ⟨g, c, cur, e1, Nat.le_trans g5 e2, e3⟩, hv7.len⟩, hE⟩
theorem C73 {A : Nat → Prop} {base : Nat} {w : World} {v : Value} {ls : List (List Ent)} (hL : LOwn A base w v ls) (hA : ∀ k, A k → k < w.heap.size) (htot : tot ls ≤ 1099511627000) :
    Rt Try.prog 73 [v] w fun r w' => (∃ M, MRel ls M ∧ Row (fun k => w.heap.size ≤ k) w' r M) ∧ Keep (fun k => some k ≠ v.ownBlock) w w' := by
  obtain ⟨ad, cap, rfl⟩ := hL.form
  have hnl := hL.len
  have hW := hWw
  have hFF := hFw
  have hE : Ext w w := Keep.refl _ _
  refine rt_body Try.func73 rfl Try.ntmps73 rfl ?_
  refine wc_seq ?_
  refine wc_region ?_
  refine wl_val hW rfl rfl (x_assign rfl) ?_
  refine wl_nil ?_
  refine nx_then ?_
  refine wc_seq ?_
  refine wc_region ?_
  refine wl_val hW rfl rfl (x_assign rfl) ?_
  refine wl_nil ?_
  refine nx_then ?_
  refine wc_block ?_
  refine wc_loop (σ := Value × List (List Ent)) (fun s => [(0, .slice ad ls.length cap), (3, s.1)]) (fun s w' => s.2.length = ls.length ∧ LOwn A base w' (.slice ad ls.length cap) s.2 ∧ (∃ coll, OwnE (fun k => w.heap.size ≤ k) w.heap.size w' s.1 coll ∧ coll.length + tot s.2 ≤ tot ls ∧ ∀ M, MRel s.2 M → MRel ls (coll ++ M)) ∧ Keep (fun k => some k ≠ (Value.slice ad ls.length cap).ownBlock) w w') (fun s => tot s.2) (.slice none 0 0, ls) ?_ ?_ ?_
  · exact ⟨rfl, hL, ⟨[], own_nil _ _ _, by simp, fun M h => h⟩, Keep.refl _ _⟩
  · repeat (first | exact sub_nil | refine sub_cons rfl ?_)
  · rintro ⟨ov, cur⟩ wr ⟨hcl, hLc, ⟨coll, hO, hct, hM⟩, hK⟩
    dsimp only at hcl hLc hO hct hM
    have hE : Ext wr wr := Keep.refl _ _
    have hKsz := hK.size
    refine wc_block ?_
    refine wc_seq ?_
    refine wc_region ?_
    refine wl_val hW rfl rfl (x_assign rfl) ?_
    refine wl_nil ?_
    refine nx_then ?_
    refine wc_seq ?_
    refine wc_seq ?_
    refine wc_region ?_
    refine wl_val hW rfl rfl (x_move rfl) ?_
    refine wl_val hW rfl rfl (x_len Try.underlying65 rfl) ?_
    refine wl_val hW rfl rfl (x_move rfl) ?_
    refine wl_nil ?_
    refine nx_then ?_
    refine wc_block ?_
    refine wc_loop (σ := Nat × Int) (fun s => [(0, .slice ad ls.length cap), (3, ov), (4, .int .i64 s.2), (10, .slice ad ls.length cap), (11, .int .i64 ls.length), (12, .int .i64 s.1)]) (fun s w' => (s.1 ≤ ls.length ∧ BestI cur s.1 s.2) ∧ Ext wr w') (fun s => ls.length - s.1) (0, -1) ?_ ?_ ?_
    · exact ⟨⟨Nat.zero_le _, best_start _⟩, hE⟩
    · repeat (first | exact sub_nil | refine sub_cons rfl ?_)
    · rintro ⟨s2, bI⟩ w2 ⟨⟨hsl, hbst⟩, hE⟩
      dsimp only at hsl hbst
      refine wc_seq ?_
      refine wc_region ?_
      refine wl_val hW rfl rfl (x_lss rfl rfl) ?_
      refine wl_nil ?_
      refine nx_then ?_
      refine wc_seq ?_
      refine wc_dec rfl (fun hc => ?_) (fun hc => ?_)
      · replace hc : ((s2 : Nat) : Int) < ls.length := hc
        have hlt : s2 < cur.length := by omega
        refine wc_skip ?_
        refine nx_then ?_
        refine wc_seq ?_
        refine wc_block ?_
        refine wc_seq ?_
        refine wc_region ?_
        refine wl_val hW rfl rfl (x_move rfl) ?_
        obtain ⟨rv, hsl1, hC15, hRl⟩ := (hLc.ext hE).at2 s2 hlt
        obtain ⟨la, lc, rfl, hlc, hll⟩ := hRl.form
        refine wl_val hW rfl rfl (x_indexAddr Try.underlying65 fl26.siz (congrArg (fun a => some (Value.slice a ls.length cap)) hsl1) rfl (by omega) (by omega)) ?_
        refine wl_val hW rfl rfl (x_load fl26 rfl (hC15 0 _ rfl)) ?_
        refine wl_val hW rfl rfl (x_assign rfl) ?_
        refine wl_val hW rfl rfl (x_assign rfl) ?_
        refine wl_nil ?_
        refine nx_then ?_
        refine wc_seq ?_
        refine wc_cut [(0, .slice ad ls.length cap), (3, ov), (4, .int .i64 bI), (5, .int .i64 s2), (10, .slice ad ls.length cap), (11, .int .i64 ls.length), (12, .int .i64 s2), (36, .bool (takeB cur s2 bI))] (fun w' => Ext wr w') ?_ ?_
        · refine wc_draw' 20 hW mixed (by kernel_rfl) (fun w0 hx0 => ?_)
          replace hE := hE.trans hx0
          refine q_val rfl rfl (fun _ hx => x_move rfl) ?_
          refine q_val rfl rfl (fun _ hx => x_len Try.underlying26 rfl) ?_
          refine q_val rfl rfl (fun _ hx => x_gtr rfl rfl) ?_
          refine q_val rfl rfl (fun _ hx => x_move rfl) ?_
          refine q_dcases (d := 20) rfl (fun hg20 => ?_) (fun hg20 => ?_)
          · refine q_val rfl rfl (fun _ hx => x_move rfl) ?_
            refine q_val rfl rfl (fun _ hx => x_lss rfl rfl) ?_
            refine q_val rfl rfl (fun _ hx => x_move rfl) ?_
            refine q_dcases (d := 23) rfl (fun hg23 => ?_) (fun hg23 => ?_)
            · refine q_off rfl rfl ?_
              refine q_off rfl rfl ?_
              refine q_off rfl rfl ?_
              refine q_off rfl rfl ?_
              refine q_off rfl rfl ?_
              refine q_off rfl rfl ?_
              refine q_off rfl rfl ?_
              refine q_off rfl rfl ?_
              refine q_off rfl rfl ?_
              refine q_off rfl rfl ?_
              refine q_off rfl rfl ?_
              refine q_val rfl rfl (fun _ hx => x_pickT rfl rfl) ?_
              refine q_val rfl rfl (fun _ hx => x_pickT rfl rfl) ?_
              refine q_nil (tail0 (fun wt hxt => ?_))
              replace hE := hE.trans hxt
              refine wl_nil ?_
              exact nx_cut (by rw [takeB_first hlt (by omega) hg23]; repeat (first | exact sub_nil | refine sub_cons rfl ?_)) hE
            · obtain ⟨bi, ebst, tb, rfl, hbl, hcb⟩ : ∃ (bi : Nat) (e : Ent) (t : List Ent), bI = bi ∧ bi < s2 ∧ cur[bi]? = some (e :: t) := by rcases hbst with ⟨rfl, -⟩ | ⟨bi, e, t, h1, h2, h3, -⟩; exact absurd (show (-1 : Int) < 0 by decide) hg23; exact ⟨bi, e, t, h1, h2, h3⟩
              have hbl2 : bi < cur.length := by omega
              have hcb' : cur[bi] = ebst :: tb := by rw [List.getElem?_eq_getElem hbl2] at hcb; exact Option.some.inj hcb
              have hpos : 0 < cur[bi].length := by rw [hcb']; simp
              have hpos2 : 0 < cur[s2].length := by omega
              obtain ⟨rv2, -, hC29, hRb⟩ := (hLc.ext hE).at2 bi hbl2
              obtain ⟨b1, o1, c1, v1, e1, hA1, hC25, hb1, hok1⟩ := (hRl.ext hx0).at 0 hpos2
              injection e1 with e1a e1b e1c
              subst e1a
              obtain ⟨b2, o2, c2, v2, e2, hA2, hC31, hb2, hok2⟩ := hRb.at 0 hpos
              subst e2
              refine q_val rfl rfl (fun _ hx => x_move rfl) ?_
              refine q_val rfl rfl (fun _ hx => x_indexAddr Try.underlying26 ag25.siz rfl rfl (by omega) (by omega)) ?_
              refine q_val rfl rfl (fun _ hx => x_loadA ag25 rfl (hC25.ext hx) rfl) ?_
              refine q_val rfl rfl (fun _ hx => x_move rfl) ?_
              refine q_val rfl rfl (fun _ hx => x_move rfl) ?_
              refine q_val rfl rfl (fun _ hx => x_indexAddr Try.underlying65 fl26.siz (congrArg (fun a => some (Value.slice a ls.length cap)) hsl1) rfl (by omega) (by omega)) ?_
              refine q_val rfl rfl (fun _ hx => x_load fl26 rfl (hx.cell (hC29 0 _ rfl))) ?_
              refine q_val rfl rfl (fun _ hx => x_indexAddr Try.underlying26 ag25.siz rfl rfl (by omega) (by omega)) ?_
              refine q_val rfl rfl (fun _ hx => x_loadA ag25 rfl (hC31.ext hx) rfl) ?_
              refine q_call rfl rfl (fun _ => x_call en18 rfl) (fun w' hx => (C18 _ _ _ _ _).inF hFF) ?_
              refine q_val rfl rfl (fun _ hx => x_lss rfl rfl) ?_
              refine q_val rfl rfl (fun _ hx => x_pickF rfl rfl) ?_
              refine q_val rfl rfl (fun _ hx => x_pickT rfl rfl) ?_
              refine q_nil (tail0 (fun wt hxt => ?_))
              replace hE := hE.trans hxt
              refine wl_nil ?_
              exact nx_cut (by rw [takeB_cmp' hlt hbl2 hpos2 hpos]; repeat (first | exact sub_nil | refine sub_cons rfl ?_)) hE
          · refine q_off rfl rfl ?_
            refine q_off rfl rfl ?_
            refine q_off rfl rfl ?_
            refine q_off rfl rfl ?_
            refine q_off rfl rfl ?_
            refine q_off rfl rfl ?_
            refine q_off rfl rfl ?_
            refine q_off rfl rfl ?_
            refine q_off rfl rfl ?_
            refine q_off rfl rfl ?_
            refine q_off rfl rfl ?_
            refine q_off rfl rfl ?_
            refine q_off rfl rfl ?_
            refine q_off rfl rfl ?_
            refine q_off rfl rfl ?_
            refine q_val rfl rfl (fun _ hx => x_pickF rfl rfl) ?_
            refine q_nil (tail0 (fun wt hxt => ?_))
            replace hE := hE.trans hxt
            refine wl_nil ?_
            exact nx_cut (by rw [takeB_nil hlt (List.eq_nil_of_length_eq_zero (by omega))]; repeat (first | exact sub_nil | refine sub_cons rfl ?_)) hE
        · rintro w' hE
          refine nx_then ?_
          refine wc_bool rfl (fun hc => ?_) (fun hc => ?_)
          · refine wc_region ?_
            refine wl_val hW rfl rfl (x_move rfl) ?_
            refine wl_val hW rfl rfl (x_assign rfl) ?_
            refine wl_nil ?_
            refine nx_block ?_
            refine nx_then ?_
            refine wc_region ?_
            refine wl_val hW rfl rfl (x_inc (s := s2) rfl (by omega)) ?_
            refine wl_val hW rfl rfl (x_move rfl) ?_
            refine wl_nil ?_
            exact nx_next (s2 + 1, (s2 : Int)) (by dsimp only; omega) ⟨⟨by dsimp only; omega, best_new hlt hbst hc⟩, hE⟩ (by repeat (first | exact sub_nil | refine sub_cons rfl ?_))
          · refine wc_skip ?_
            refine nx_block ?_
            refine nx_then ?_
            refine wc_region ?_
            refine wl_val hW rfl rfl (x_inc (s := s2) rfl (by omega)) ?_
            refine wl_val hW rfl rfl (x_move rfl) ?_
            refine wl_nil ?_
            exact nx_next (s2 + 1, bI) (by dsimp only; omega) ⟨⟨by dsimp only; omega, best_still hlt hbst hc⟩, hE⟩ (by repeat (first | exact sub_nil | refine sub_cons rfl ?_))
      · refine wc_exit ?_
        refine nx_then_exit ?_
        refine nx_then_exit ?_
        refine nx_block_exit ?_
        replace hc : ¬ ((s2 : Nat) : Int) < ls.length := hc
        have hs2 : s2 = ls.length := by omega
        refine nx_then ?_
        refine wc_seq ?_
        refine wc_seq ?_
        refine wc_region ?_
        refine wl_val hW rfl rfl (x_move rfl) ?_
        refine wl_val hW rfl rfl (x_lss rfl rfl) ?_
        refine wl_nil ?_
        refine nx_then ?_
        refine wc_dec rfl (fun hc => ?_) (fun hc => ?_)
        · have hall : ∀ l ∈ cur, l = [] := fun l hl => by
            obtain ⟨j, hj⟩ := List.getElem?_of_mem hl
            have hjl := (List.getElem?_eq_some_iff.1 hj).1
            rcases hbst with ⟨rfl, h⟩ | ⟨bi, e, t, rfl, -⟩
            · exact h j l (by omega) hj
            · omega
          refine wc_seq ?_
          refine wc_region ?_
          refine wl_val hW rfl rfl (x_move rfl) ?_
          refine wl_val hW rfl rfl (x_assign rfl) ?_
          refine wl_nil ?_
          refine nx_then ?_
          refine wc_ret ?_
          refine nx_then_ret ?_
          refine nx_block_ret ?_
          refine nx_then_ret ?_
          refine nx_block_ret ?_
          exact ends_ret (res_tmp Try.results73 rfl) ⟨⟨coll, by have := hM [] (MRel.done _ hall); rwa [List.append_nil] at this, ((hO.ext hE).row (by omega)).mono (fun k _ h => by rcases h with h | h <;> exact h)⟩, hK.trans (Keep.of_ext hE)⟩
        · refine wc_skip ?_
          refine nx_then ?_
          refine wc_seq ?_
          obtain ⟨bi, e0, tb, rfl, hbl, hcb, hmin⟩ : ∃ (bi : Nat) (e : Ent) (t : List Ent), bI = bi ∧ bi < s2 ∧ cur[bi]? = some (e :: t) ∧ ∀ (j : Nat) (x : Ent) (t' : List Ent), j < s2 → cur[j]? = some (x :: t') → ¬ ltE x e ∧ (j < bi → ¬ sameE x e) := by rcases hbst with ⟨rfl, -⟩ | ⟨bi, e, t, h1, h2, h3, h4⟩; exact absurd (show (-1 : Int) < 0 by decide) hc; exact ⟨bi, e, t, h1, h2, h3, h4⟩
          have hbl2 : bi < cur.length := by omega
          have hcb' : cur[bi] = e0 :: tb := by rw [List.getElem?_eq_getElem hbl2] at hcb; exact Option.some.inj hcb
          obtain ⟨rv2, hsl1, hC44, hRb⟩ := hLc.at2 bi hbl2
          rw [hcb'] at hRb
          obtain ⟨b2, o2, c2, v2, e2, hA2, hC46, hb2, hok2⟩ := hRb.at 0 (by simp)
          subst e2
          replace hC46 : Cells wr b2 (o2 + 0 * 4) (cellsOf e0 v2) := hC46
          replace hb2 : Byts _ wr v2 e0.v := hb2
          replace hok2 : EntOk e0 := hok2
          obtain ⟨av, cv, hbv, hcv⟩ := hb2.form
          subst hbv
          refine wc_region ?_
          refine wl_val hW rfl rfl (x_move rfl) ?_
          refine wl_val hW rfl rfl (x_move rfl) ?_
          refine wl_val hW rfl rfl (x_indexAddr Try.underlying65 fl26.siz (congrArg (fun a => some (Value.slice a ls.length cap)) hsl1) rfl (by omega) (by omega)) ?_
          refine wl_val hW rfl rfl (x_load fl26 rfl (hE.cell (hC44 0 _ rfl))) ?_
          refine wl_val hW rfl rfl (x_indexAddr Try.underlying26 ag25.siz rfl rfl (by omega) (by simp)) ?_
          refine wl_val hW rfl rfl (x_loadA ag25 rfl (hC46.ext hE) rfl) ?_
          refine wl_alloc (cs := [.string ⟨#[]⟩, .int .u64 0, .bool false, .slice none 0 0]) hW rfl rfl Try.zeroValue25 rfl ?_
          intro b7 w7 hl7 hB7 hx7
          have g7 : wr.heap.size ≤ b7 := Nat.le_trans hE.size hl7
          replace hE := hE.trans hx7
          refine wl_storeA hW rfl ag25 rfl rfl rfl rfl hB7 rfl ?_
          intro wS hBS hkS
          replace hB7 := hBS
          clear hBS
          replace hE := hE.store hkS g7
          refine wl_nil ?_
          refine nx_then ?_
          refine wc_seq ?_
          refine wc_region ?_
          have hszS := hE.size
          refine wl_val hW rfl rfl (x_move rfl) ?_
          refine wl_val hW rfl rfl (x_loadA ag25 rfl hB7.cells rfl) ?_
          refine wl_call hW rfl rfl (x_call en62 rfl) ((C62 (hb2.ext hE) hok2).inF hFF) ?_
          rintro _ wC ⟨⟨bv', rfl, hb'⟩, hxC⟩
          replace hB7 := hB7.ext hxC
          replace hE := hE.trans hxC
          refine wl_buildSlice (parts := [(0, .tmp 50)]) hW rfl rfl Try.underlying26 ag25.siz Try.zeroValue25 rfl rfl rfl (by omega) ?_
          intro b51 w51 hl51 hB51 hx51
          have n51_7 : b51 ≠ b7 := Nat.ne_of_gt (Nat.lt_of_lt_of_le hB7.lt hl51)
          replace hB7 := hB7.ext hx51
          replace hE := hE.trans hx51
          have hsz2 := hE.size
          refine wl_append1 hW rfl rfl rfl rfl (hO.ext hE) (by omega) (show Blk _ _ (cellsOf e0 bv') 25 from hB51) ((hb'.ext hx51).mono (fun k _ h => ⟨by omega, fun e => by have := hO.lt _ e.symm; omega⟩)) hok2 (by omega) ?_
          intro v52 wA hO2 hkA hcA
          have hKA : Keep (fun k => some k ≠ (Value.slice ad ls.length cap).ownBlock) w wA := (hK.trans (Keep.of_ext hE)).then hkA (fun k hk _ e => by have := (hO.lt k e.symm).1; omega)
          have hLA := (hLc.ext hE).keep hkA (fun b hb e => by obtain ⟨cs, hBl⟩ := (hLc.ext hE).blk b hb; exact (hO.ext hE).ne hBl (by decide) b e.symm rfl) (fun k _ h e => by have := (hO.lt k e.symm).1; have := hA k h; omega)
          have hB7A := hB7.keep hkA (fun e => by have := (hO.lt b7 e.symm).2; omega)
          clear hB7 hB51
          refine wl_val hW rfl rfl (x_assign rfl) ?_
          refine wl_nil ?_
          refine nx_then ?_
          refine wc_seq ?_
          refine wc_region ?_
          refine wl_val hW rfl rfl (x_move rfl) ?_
          refine wl_val hW rfl rfl (x_len Try.underlying65 rfl) ?_
          refine wl_val hW rfl rfl (x_move rfl) ?_
          refine wl_nil ?_
          refine nx_then ?_
          refine wc_block ?_
          refine wc_loop (σ := Nat) (fun s => [(0, .slice ad ls.length cap), (3, v52), (7, .pointer (some ⟨b7, 0, none⟩)), (53, .slice ad ls.length cap), (54, .int .i64 ls.length), (55, .int .i64 s)]) (fun s w' => s ≤ ls.length ∧ LOwn A base w' (.slice ad ls.length cap) (cutS e0 cur s) ∧ OwnE (fun k => w.heap.size ≤ k) w.heap.size w' v52 (coll ++ [e0]) ∧ Blk w' b7 (cellsOf e0 (.slice av e0.v.length cv)) 25 ∧ Keep (fun k => some k ≠ (Value.slice ad ls.length cap).ownBlock) w w') (fun s => ls.length - s) 0 ?_ ?_ ?_
          · exact ⟨Nat.zero_le _, by rw [cutS_zero]; exact hLA, hO2, hB7A, hKA⟩
          · repeat (first | exact sub_nil | refine sub_cons rfl ?_)
          · rintro s w3 ⟨hsl3, hL3, hO3, hB7, hK3⟩
            have hE : Ext w3 w3 := Keep.refl _ _
            refine wc_seq ?_
            refine wc_region ?_
            refine wl_val hW rfl rfl (x_lss rfl rfl) ?_
            refine wl_nil ?_
            refine nx_then ?_
            refine wc_seq ?_
            refine wc_dec rfl (fun hc => ?_) (fun hc => ?_)
            · replace hc : ((s : Nat) : Int) < ls.length := hc
              have hlt : s < cur.length := by omega
              refine wc_skip ?_
              refine nx_then ?_
              refine wc_seq ?_
              refine wc_block ?_
              refine wc_seq ?_
              refine wc_region ?_
              refine wl_val hW rfl rfl (x_move rfl) ?_
              obtain ⟨rv, hsl1, hC58, hRl⟩ := hL3.at2 s (by rw [cutS_len]; exact hlt)
              rw [cutS_at hlt] at hRl
              obtain ⟨la, lc, rfl, hlc, hll⟩ := hRl.form
              refine wl_val hW rfl rfl (x_indexAddr Try.underlying65 fl26.siz (congrArg (fun a => some (Value.slice a ls.length cap)) hsl1) rfl (by omega) (by omega)) ?_
              refine wl_val hW rfl rfl (x_load fl26 rfl (hC58 0 _ rfl)) ?_
              refine wl_val hW rfl rfl (x_assign rfl) ?_
              refine wl_val hW rfl rfl (x_assign rfl) ?_
              refine wl_nil ?_
              refine nx_then ?_
              refine wc_seq ?_
              refine wc_block ?_
              refine wc_loop (σ := Value × List Ent) (fun u => [(0, .slice ad ls.length cap), (3, v52), (7, .pointer (some ⟨b7, 0, none⟩)), (8, .int .i64 s), (9, u.1), (53, .slice ad ls.length cap), (54, .int .i64 ls.length), (55, .int .i64 s)]) (fun u w' => (Row (fun k => A k ∧ k ≠ gOf ad) w3 u.1 u.2 ∧ dropS e0 u.2 = dropS e0 cur[s]) ∧ Ext w3 w') (fun u => u.2.length) (.slice la cur[s].length lc, cur[s]) ?_ ?_ ?_
              · exact ⟨⟨hRl, rfl⟩, hE⟩
              · repeat (first | exact sub_nil | refine sub_cons rfl ?_)
              · rintro ⟨lv4, l4⟩ w4 ⟨⟨hR4, hd4⟩, hE⟩
                dsimp only at hR4 hd4
                obtain ⟨la4, lc4, rfl, hlc4, hll4⟩ := hR4.form
                replace hB7 := hB7.ext hE
                refine wc_seq ?_
                refine wc_seq ?_
                refine wc_cut [(0, .slice ad ls.length cap), (3, v52), (7, .pointer (some ⟨b7, 0, none⟩)), (8, .int .i64 s), (9, .slice la4 l4.length lc4), (53, .slice ad ls.length cap), (54, .int .i64 ls.length), (55, .int .i64 s), (70, .bool (sameHd e0 l4))] (fun w' => Ext w3 w' ∧ Blk w' b7 (cellsOf e0 (.slice av e0.v.length cv)) 25) ?_ ?_
                · refine wc_draw' 11 hW mixed (by kernel_rfl) (fun w0 hx0 => ?_)
                  replace hB7 := hB7.ext hx0
                  replace hE := hE.trans hx0
                  refine q_val rfl rfl (fun _ hx => x_move rfl) ?_
                  refine q_val rfl rfl (fun _ hx => x_len Try.underlying26 rfl) ?_
                  refine q_val rfl rfl (fun _ hx => x_gtr rfl rfl) ?_
                  refine q_val rfl rfl (fun _ hx => x_move rfl) ?_
                  refine q_dcases (d := 63) rfl (fun hg63 => ?_) (fun hg63 => ?_)
                  · obtain ⟨x4, t4, rfl⟩ : ∃ x t, l4 = x :: t := by cases l4 with | nil => exact absurd hg63 (by simp) | cons x t => exact ⟨x, t, rfl⟩
                    obtain ⟨b4, o4, c4, v4, e4, hA4, hC65, hb4, hok4⟩ := (hR4.ext hE).at 0 (by simp)
                    injection e4 with e4a e4b e4c
                    subst e4a
                    refine q_val rfl rfl (fun _ hx => x_move rfl) ?_
                    refine q_val rfl rfl (fun _ hx => x_indexAddr Try.underlying26 ag25.siz rfl rfl (by omega) (by omega)) ?_
                    refine q_val rfl rfl (fun _ hx => x_loadA ag25 rfl (hC65.ext hx) rfl) ?_
                    refine q_val rfl rfl (fun _ hx => x_loadA ag25 rfl (hB7.ext hx).cells rfl) ?_
                    refine q_call rfl rfl (fun _ => x_call en18 rfl) (fun w' hx => (C18 _ _ _ _ _).inF hFF) ?_
                    refine q_val rfl rfl (fun _ hx => x_eql rfl rfl) ?_
                    refine q_val rfl rfl (fun _ hx => x_pickT rfl rfl) ?_
                    refine q_nil (tail0 (fun wt hxt => ?_))
                    replace hB7 := hB7.ext hxt
                    replace hE := hE.trans hxt
                    refine wl_nil ?_
                    exact nx_cut (by repeat (first | exact sub_nil | refine sub_cons rfl ?_)) ⟨hE, hB7⟩
                  · refine q_off rfl rfl ?_
                    refine q_off rfl rfl ?_
                    refine q_off rfl rfl ?_
                    refine q_off rfl rfl ?_
                    refine q_off rfl rfl ?_
                    refine q_off rfl rfl ?_
                    refine q_val rfl rfl (fun _ hx => x_pickF rfl rfl) ?_
                    refine q_nil (tail0 (fun wt hxt => ?_))
                    replace hB7 := hB7.ext hxt
                    replace hE := hE.trans hxt
                    refine wl_nil ?_
                    exact nx_cut (by rw [show sameHd e0 l4 = false from by cases l4 with | nil => rfl | cons x t => exact absurd (by simp) hg63]; repeat (first | exact sub_nil | refine sub_cons rfl ?_)) ⟨hE, hB7⟩
                · rintro w' ⟨hE, hB7⟩
                  refine nx_then ?_
                  refine wc_bool rfl (fun hc => ?_) (fun hc => ?_)
                  · refine wc_skip ?_
                    refine nx_then ?_
                    refine wc_block ?_
                    obtain ⟨x4, t4, rfl, hdt⟩ := sameHd_true hc
                    refine wc_region ?_
                    refine wl_val hW rfl rfl (x_move rfl) ?_
                    refine wl_val hW rfl rfl (x_slicel (i := 1) Try.underlying26 ag25.siz rfl rfl (by simp)) ?_
                    refine wl_val hW rfl rfl (x_assign rfl) ?_
                    refine wl_nil ?_
                    refine nx_block ?_
                    exact nx_next (_, t4) (by simp) ⟨⟨hR4.tail, by dsimp only; rw [← hd4, hdt]⟩, hE⟩ (by repeat (first | exact sub_nil | refine sub_cons rfl ?_))
                  · refine wc_exit ?_
                    refine nx_then_exit ?_
                    refine nx_then_exit ?_
                    refine nx_block_exit ?_
                    refine nx_then ?_
                    have hl4 : dropS e0 cur[s] = l4 := by rw [← hd4, sameHd_false hc]
                    have hown : (Value.slice ad ls.length cap).ownBlock = some (gOf ad) := by rw [hsl1]; rfl
                    have hgl := (hL.lt _ hown).2
                    obtain ⟨cs, hBl, hblt, hput⟩ := (hL3.ext hE).put s (by rw [cutS_len]; exact hlt)
                    refine wc_region ?_
                    refine wl_val hW rfl rfl (x_move rfl) ?_
                    refine wl_val hW rfl rfl (x_move rfl) ?_
                    refine wl_val hW rfl rfl (x_move rfl) ?_
                    refine wl_val hW rfl rfl (x_indexAddr Try.underlying65 fl26.siz (congrArg (fun a => some (Value.slice a ls.length cap)) hsl1) rfl (by omega) (by omega)) ?_
                    refine wl_store hW rfl fl26 rfl rfl rfl hBl hblt ?_
                    intro wS hBS hkS
                    refine wl_nil ?_
                    refine nx_block ?_
                    refine nx_then ?_
                    refine wc_region ?_
                    refine wl_val hW rfl rfl (x_inc (s := s) rfl (by omega)) ?_
                    refine wl_val hW rfl rfl (x_move rfl) ?_
                    refine wl_nil ?_
                    exact nx_next (s + 1) (by omega) ⟨by omega, by rw [← cutS_succ hlt, hl4]; exact hput _ _ l4 hBS hkS ((hR4.ext hE).ck (CK.of_keep hkS (fun k _ h => h.2))), (hO3.ext hE).keep hkS ((hO3.ext hE).ne hBl (by decide)) (fun k _ h => by omega), hB7.keep hkS (by omega), (hK3.trans (Keep.of_ext hE)).then hkS (fun k _ h e => h (by rw [e, hown]))⟩ (by repeat (first | exact sub_nil | refine sub_cons rfl ?_))
            · replace hc : ¬ ((s : Nat) : Int) < ls.length := hc
              have htl := tot_lt hcb
              refine wc_exit ?_
              refine nx_then_exit ?_
              refine nx_then_exit ?_
              refine nx_block_exit ?_
              refine nx_block ?_
              exact nx_next (v52, cur.map (dropS e0)) htl ⟨by simp [hcl], by rw [cutS_all _ _ (by omega)] at hL3; exact hL3, ⟨coll ++ [e0], hO3, by dsimp only; simp only [List.length_append, List.length_cons, List.length_nil]; omega, fun M hM' => by rw [List.append_assoc]; exact hM _ (MRel.step _ bi e0 M ⟨⟨tb, hcb⟩, fun j x t h => hmin j x t (by have := (List.getElem?_eq_some_iff.1 h).1; omega) h⟩ hM')⟩, hK3⟩ (by repeat (first | exact sub_nil | refine sub_cons rfl ?_))
end Go.Proofs.Ytblbddamebbgaaa.K


/- Walks: the document's merging; Merge; the law MergeLists. -/
namespace Go.Proofs.Ytblbddamebbgaaa.K
open Go Go.RowKit
set_option linter.unusedVariables false
set_option linter.unusedSimpArgs false

theorem C75 {w : World} {v u : Value} {a b : List Ent} (hR : Row (fun k => k < w.heap.size) w v a) (hS : Row (fun k => k < w.heap.size) w u b) (hab : a.length + b.length ≤ 1099511627000) :
    Rt Try.prog 75 [v, u] w fun r w' => Row (fun _ => True) w' r (twoF (a.length + b.length) a b) ∧ Ext w w' := by
  obtain ⟨ad, cap, rfl, hcap, hlen⟩ := hR.form
  obtain ⟨ad2, cap2, rfl, hcap2, hlen2⟩ := hS.form
  have hW := hWw
  have hFF := hFw
  have hE : Ext w w := Keep.refl _ _
  refine rt_body Try.func75 rfl Try.ntmps75 rfl ?_
  refine wc_seq ?_
  refine wc_region ?_
  refine wl_val hW rfl rfl (x_assign rfl) ?_
  refine wl_nil ?_
  refine nx_then ?_
  refine wc_seq ?_
  refine wc_region ?_
  refine wl_val hW rfl rfl (x_assign rfl) ?_
  refine wl_nil ?_
  refine nx_then ?_
  refine wc_seq ?_
  refine wc_region ?_
  refine wl_val hW rfl rfl (x_assign rfl) ?_
  refine wl_nil ?_
  refine nx_then ?_
  refine wc_seq ?_
  refine wc_region ?_
  refine wl_val hW rfl rfl (x_assign rfl) ?_
  refine wl_nil ?_
  refine nx_then ?_
  refine wc_seq ?_
  refine wc_block ?_
  refine wc_loop (σ := Value × Nat × Nat) (fun s => [(0, .slice ad a.length cap), (1, .slice ad2 b.length cap2), (5, s.1), (6, .int .i64 s.2.1), (7, .int .i64 s.2.2)]) (fun s w' => (s.2.1 ≤ a.length ∧ s.2.2 ≤ b.length ∧ ∃ coll n, OwnE (fun k => k < w.heap.size) w.heap.size w' s.1 coll ∧ coll.length ≤ s.2.1 + s.2.2 ∧ (a.length - s.2.1) + (b.length - s.2.2) ≤ n ∧ coll ++ twoF n (a.drop s.2.1) (b.drop s.2.2) = twoF (a.length + b.length) a b) ∧ Ext w w') (fun s => (a.length - s.2.1) + (b.length - s.2.2)) (.slice none 0 0, 0, 0) ?_ ?_ ?_
  · exact ⟨⟨Nat.zero_le _, Nat.zero_le _, [], _, own_nil _ _ _, by simp, Nat.le_refl _, by simp⟩, hE⟩
  · repeat (first | exact sub_nil | refine sub_cons rfl ?_)
  · rintro ⟨ov, i, k⟩ wr ⟨⟨hi, hk, coll, n, hO, hcl, hn, hco⟩, hEw⟩
    dsimp only at hi hk hO hcl hn hco
    have hE : Ext wr wr := Keep.refl _ _
    have hszw := hEw.size
    refine wc_seq ?_
    refine wc_seq ?_
    refine wc_cut [(0, .slice ad a.length cap), (1, .slice ad2 b.length cap2), (5, ov), (6, .int .i64 i), (7, .int .i64 k), (18, .bool (decide (((i : Nat) : Int) < a.length) || decide (((k : Nat) : Int) < b.length)))] (fun w' => w' = wr) ?_ ?_
    · refine wc_region ?_
      refine wl_val hW rfl rfl (x_move rfl) ?_
      refine wl_val hW rfl rfl (x_move rfl) ?_
      refine wl_val hW rfl rfl (x_len Try.underlying26 rfl) ?_
      refine wl_val hW rfl rfl (x_lss rfl rfl) ?_
      refine wl_val hW rfl rfl (x_move rfl) ?_
      refine wl_dcases (d := 13) rfl (fun hg13 => ?_) (fun hg13 => ?_)
      · refine wl_off hW rfl rfl ?_
        refine wl_off hW rfl rfl ?_
        refine wl_off hW rfl rfl ?_
        refine wl_off hW rfl rfl ?_
        refine wl_val hW rfl rfl (x_pickT rfl rfl) ?_
        refine wl_nil ?_
        exact nx_cut (by rw [decide_eq_true (show ((i : Nat) : Int) < a.length from hg13), Bool.true_or]; repeat (first | exact sub_nil | refine sub_cons rfl ?_)) rfl
      · refine wl_val hW rfl rfl (x_move rfl) ?_
        refine wl_val hW rfl rfl (x_move rfl) ?_
        refine wl_val hW rfl rfl (x_len Try.underlying26 rfl) ?_
        refine wl_val hW rfl rfl (x_lss rfl rfl) ?_
        refine wl_val hW rfl rfl (x_pickF rfl rfl) ?_
        refine wl_nil ?_
        exact nx_cut (by rw [decide_eq_false (show ¬ ((i : Nat) : Int) < a.length from hg13), Bool.false_or]; repeat (first | exact sub_nil | refine sub_cons rfl ?_)) rfl
    · rintro w' rfl
      refine nx_then ?_
      refine wc_bool rfl (fun hc => ?_) (fun hc => ?_)
      · replace hc : i < a.length ∨ k < b.length := by simp only [Bool.or_eq_true, decide_eq_true_eq] at hc; omega
        refine wc_skip ?_
        refine nx_then ?_
        refine wc_block ?_
        refine wc_seq ?_
        refine wc_region ?_
        refine wl_val hW rfl rfl (x_assign rfl) ?_
        refine wl_nil ?_
        refine nx_then ?_
        refine wc_seq ?_
        refine wc_seq ?_
        refine wc_region ?_
        refine wl_val hW rfl rfl (x_move rfl) ?_
        refine wl_val hW rfl rfl (x_move rfl) ?_
        refine wl_val hW rfl rfl (x_len Try.underlying26 rfl) ?_
        refine wl_val hW rfl rfl (x_eql rfl rfl) ?_
        refine wl_nil ?_
        refine nx_then ?_
        refine wc_cut [(0, .slice ad a.length cap), (1, .slice ad2 b.length cap2), (5, ov), (6, .int .i64 i), (7, .int .i64 k), (8, .int .i64 (twoC a b i k))] (fun w'' => Ext w' w'') ?_ ?_
        · refine wc_dec rfl (fun hc => ?_) (fun hc => ?_)
          · rename_i hc0 hcI
            replace hc : ((i : Nat) : Int) = a.length := hc
            refine wc_region ?_
            refine wl_val hW rfl rfl (x_assign rfl) ?_
            refine wl_nil ?_
            exact nx_cut (by rw [show twoC a b i k = 1 from if_pos (by omega)]; repeat (first | exact sub_nil | refine sub_cons rfl ?_)) hE
          · have hci : ¬ ((i : Nat) : Int) = a.length := hc
            refine wc_seq ?_
            refine wc_region ?_
            refine wl_val hW rfl rfl (x_move rfl) ?_
            refine wl_val hW rfl rfl (x_move rfl) ?_
            refine wl_val hW rfl rfl (x_len Try.underlying26 rfl) ?_
            refine wl_val hW rfl rfl (x_eql rfl rfl) ?_
            refine wl_nil ?_
            refine nx_then ?_
            refine wc_dec rfl (fun hc => ?_) (fun hc => ?_)
            · replace hc : ((k : Nat) : Int) = b.length := hc
              refine wc_region ?_
              refine wl_val hW rfl rfl (x_assign rfl) ?_
              refine wl_nil ?_
              exact nx_cut (by rw [show twoC a b i k = -1 from by unfold twoC; rw [if_neg (by omega), if_pos (by omega)]]; repeat (first | exact sub_nil | refine sub_cons rfl ?_)) hE
            · have hck : ¬ ((k : Nat) : Int) = b.length := hc
              refine wc_draw' 10 hW mixed (by kernel_rfl) (fun w0 hx0 => ?_)
              replace hE := hE.trans hx0
              have hil : i < a.length := by omega
              have hkl : k < b.length := by omega
              obtain ⟨b1, o1, c1, v1, e1, hA1, hC29, hb1, hok1⟩ := ((hR.ext hEw).ext hE).at i hil
              cases e1
              obtain ⟨b2, o2, c2, v2, e2, hA2, hC33, hb2, hok2⟩ := ((hS.ext hEw).ext hE).at k hkl
              cases e2
              refine q_val rfl rfl (fun _ hx => x_move rfl) ?_
              refine q_val rfl rfl (fun _ hx => x_move rfl) ?_
              refine q_val rfl rfl (fun _ hx => x_indexAddr Try.underlying26 ag25.siz rfl rfl (by omega) (by omega)) ?_
              refine q_val rfl rfl (fun _ hx => x_loadA ag25 rfl (hC29.ext hx) rfl) ?_
              refine q_val rfl rfl (fun _ hx => x_move rfl) ?_
              refine q_val rfl rfl (fun _ hx => x_move rfl) ?_
              refine q_val rfl rfl (fun _ hx => x_indexAddr Try.underlying26 ag25.siz rfl rfl (by omega) (by omega)) ?_
              refine q_val rfl rfl (fun _ hx => x_loadA ag25 rfl (hC33.ext hx) rfl) ?_
              refine q_call rfl rfl (fun _ => x_call en19 rfl) (fun w' hx => C19.inF hFF) ?_
              refine q_val rfl rfl (fun _ hx => x_assign rfl) ?_
              refine q_nil (tail0 (fun wt hxt => ?_))
              replace hE := hE.trans hxt
              refine wl_nil ?_
              exact nx_cut (by rw [show twoC a b i k = cmpE a[i] b[k] from by unfold twoC; rw [if_neg (by omega), if_neg (by omega), getD_eq hil, getD_eq hkl]]; repeat (first | exact sub_nil | refine sub_cons rfl ?_)) hE
        · rintro w2 hE
          refine nx_then ?_
          refine wc_seq ?_
          refine wc_region ?_
          refine wl_val hW rfl rfl (x_move rfl) ?_
          refine wl_val hW rfl rfl (x_leq rfl rfl) ?_
          refine wl_nil ?_
          refine nx_then ?_
          refine wc_dec rfl (fun hc => ?_) (fun hc => ?_)
          · replace hc : twoC a b i k ≤ 0 := hc
            have hil := twoC_le hi hc
            obtain ⟨n, rfl⟩ : ∃ m, n = m + 1 := ⟨n - 1, by omega⟩
            refine wc_seq ?_
            refine wc_region ?_
            obtain ⟨b1, o1, c1, v1, e1, hA1, hC41, hb1, hok1⟩ := ((hR.ext hEw).ext hE).at i hil
            cases e1
            refine wl_val hW rfl rfl (x_move rfl) ?_
            refine wl_val hW rfl rfl (x_move rfl) ?_
            refine wl_val hW rfl rfl (x_move rfl) ?_
            refine wl_val hW rfl rfl (x_indexAddr Try.underlying26 ag25.siz rfl rfl (by omega) (by omega)) ?_
            refine wl_val hW rfl rfl (x_loadA ag25 rfl hC41 rfl) ?_
            refine wl_buildSlice (parts := [(0, .tmp 42)]) hW rfl rfl Try.underlying26 ag25.siz Try.zeroValue25 rfl rfl rfl (by omega) ?_
            intro b43 w43 hl43 hB43 hx43
            replace hE := hE.trans hx43
            have hsz := hE.size
            refine wl_append1 hW rfl rfl rfl rfl (hO.ext hE) (by omega) (show Blk _ _ (cellsOf a[i] v1) 25 from hB43) ((hb1.ext hx43).mono (fun k _ h => ⟨h, fun e => by have := hO.lt _ e.symm; omega⟩)) hok1 (by omega) ?_
            intro v44 wA hO2 hkA hcA
            refine wl_val hW rfl rfl (x_assign rfl) ?_
            refine wl_nil ?_
            refine nx_then ?_
            refine wc_seq ?_
            refine wc_region ?_
            refine wl_val hW rfl rfl (x_move rfl) ?_
            refine wl_val hW rfl rfl (x_inc (s := i) rfl (by omega)) ?_
            refine wl_val hW rfl rfl (x_assign rfl) ?_
            refine wl_nil ?_
            refine nx_then ?_
            refine wc_seq ?_
            refine wc_region ?_
            refine wl_val hW rfl rfl (x_move rfl) ?_
            refine wl_val hW rfl rfl (x_eql rfl rfl) ?_
            refine wl_nil ?_
            refine nx_then ?_
            refine wc_dec rfl (fun hc => ?_) (fun hc => ?_)
            · replace hc : twoC a b i k = 0 := hc
              obtain ⟨hkl, h2⟩ := two_both (n := n) hil hk hc
              refine wc_region ?_
              refine wl_val hW rfl rfl (x_move rfl) ?_
              refine wl_val hW rfl rfl (x_inc (s := k) rfl (by omega)) ?_
              refine wl_val hW rfl rfl (x_assign rfl) ?_
              refine wl_nil ?_
              refine nx_block ?_
              exact nx_next (v44, i + 1, k + 1) (by dsimp only; omega) ⟨⟨by dsimp only; omega, by dsimp only; omega, coll ++ [a[i]], n, hO2, by simp only [List.length_append, List.length_cons, List.length_nil]; omega, by dsimp only; omega, by dsimp only; rw [← hco, h2, List.append_assoc]; rfl⟩, Keep.rowed (hEw.trans hE) hkA (fun b h => (hO.lt b h).1)⟩ (by repeat (first | exact sub_nil | refine sub_cons rfl ?_))
            · have hne : twoC a b i k ≠ 0 := hc
              refine wc_skip ?_
              refine nx_block ?_
              exact nx_next (v44, i + 1, k) (by dsimp only; omega) ⟨⟨by dsimp only; omega, hk, coll ++ [a[i]], n, hO2, by simp only [List.length_append, List.length_cons, List.length_nil]; omega, by dsimp only; omega, by dsimp only; rw [← hco, two_less hil hk ‹twoC a b i k ≤ 0› hne, List.append_assoc]; rfl⟩, Keep.rowed (hEw.trans hE) hkA (fun b h => (hO.lt b h).1)⟩ (by repeat (first | exact sub_nil | refine sub_cons rfl ?_))
          · replace hc : ¬ twoC a b i k ≤ 0 := hc
            have hkl := twoC_gt hk (by assumption) hc
            obtain ⟨n, rfl⟩ : ∃ m, n = m + 1 := ⟨n - 1, by omega⟩
            refine wc_seq ?_
            refine wc_region ?_
            obtain ⟨b1, o1, c1, v1, e1, hA1, hC54, hb1, hok1⟩ := ((hS.ext hEw).ext hE).at k hkl
            cases e1
            refine wl_val hW rfl rfl (x_move rfl) ?_
            refine wl_val hW rfl rfl (x_move rfl) ?_
            refine wl_val hW rfl rfl (x_move rfl) ?_
            refine wl_val hW rfl rfl (x_indexAddr Try.underlying26 ag25.siz rfl rfl (by omega) (by omega)) ?_
            refine wl_val hW rfl rfl (x_loadA ag25 rfl hC54 rfl) ?_
            refine wl_buildSlice (parts := [(0, .tmp 55)]) hW rfl rfl Try.underlying26 ag25.siz Try.zeroValue25 rfl rfl rfl (by omega) ?_
            intro b56 w56 hl56 hB56 hx56
            replace hE := hE.trans hx56
            have hsz := hE.size
            refine wl_append1 hW rfl rfl rfl rfl (hO.ext hE) (by omega) (show Blk _ _ (cellsOf b[k] v1) 25 from hB56) ((hb1.ext hx56).mono (fun k _ h => ⟨h, fun e => by have := hO.lt _ e.symm; omega⟩)) hok1 (by omega) ?_
            intro v57 wA hO2 hkA hcA
            refine wl_val hW rfl rfl (x_assign rfl) ?_
            refine wl_nil ?_
            refine nx_then ?_
            refine wc_region ?_
            refine wl_val hW rfl rfl (x_move rfl) ?_
            refine wl_val hW rfl rfl (x_inc (s := k) rfl (by omega)) ?_
            refine wl_val hW rfl rfl (x_assign rfl) ?_
            refine wl_nil ?_
            refine nx_block ?_
            exact nx_next (v57, i, k + 1) (by dsimp only; omega) ⟨⟨hi, by dsimp only; omega, coll ++ [b[k]], n, hO2, by simp only [List.length_append, List.length_cons, List.length_nil]; omega, by dsimp only; omega, by dsimp only; rw [← hco, two_more hi hkl hc, List.append_assoc]; rfl⟩, Keep.rowed (hEw.trans hE) hkA (fun b h => (hO.lt b h).1)⟩ (by repeat (first | exact sub_nil | refine sub_cons rfl ?_))
      · refine wc_exit ?_
        refine nx_then_exit ?_
        refine nx_then_exit ?_
        refine nx_block_exit ?_
        refine nx_then ?_
        refine wc_seq ?_
        replace hc : ¬ (i < a.length ∨ k < b.length) := by intro h; simp only [Bool.or_eq_false_iff, decide_eq_false_iff_not] at hc; omega
        rw [two_end n (by omega) (by omega), List.append_nil] at hco
        subst hco
        refine wc_region ?_
        refine wl_val hW rfl rfl (x_move rfl) ?_
        refine wl_val hW rfl rfl (x_assign rfl) ?_
        refine wl_nil ?_
        refine nx_then ?_
        refine wc_ret ?_
        exact ends_ret (res_tmp Try.results75 rfl) ⟨(hO.row (by omega)).mono (fun _ _ _ => trivial), hEw⟩
theorem C47 {w : World} {v : Value} {ls : List (List Ent)} (hL : LRow (fun k => k < w.heap.size) w v ls) (htot : tot ls ≤ 1099511627000) : Rt Try.prog 47 [v] w fun r w' => (∃ rv, r = .tuple #[rv, .int .i64 (if ls.all rightB then 0 else 15)] ∧ Row (fun _ => True) w' rv (if ls.all rightB then foldTwo [] ls else [])) ∧ Ext w w' := by
  obtain ⟨ad, cap, rfl, hcap, hlen⟩ := hL.form
  have hW := hWw
  have hFF := hFw
  have hE : Ext w w := Keep.refl _ _
  refine rt_body Try.func47 rfl Try.ntmps47 rfl ?_
  refine wc_seq ?_
  refine wc_region ?_
  refine wl_val hW rfl rfl (x_assign rfl) ?_
  refine wl_val hW rfl rfl (x_assign rfl) ?_
  refine wl_nil ?_
  refine nx_then ?_
  refine wc_seq ?_
  refine wc_region ?_
  refine wl_val hW rfl rfl (x_assign rfl) ?_
  refine wl_nil ?_
  refine nx_then ?_
  refine wc_seq ?_
  refine wc_seq ?_
  refine wc_region ?_
  refine wl_val hW rfl rfl (x_assign rfl) ?_
  refine wl_nil ?_
  refine nx_then ?_
  refine wc_block ?_
  refine wc_loop (σ := Nat) (fun s => [(0, .slice ad ls.length cap), (4, .slice none 0 0), (5, .int .i64 s)]) (fun s w' => (s ≤ ls.length ∧ ∀ (j : Nat) (hj : j < ls.length), j < s → rightB ls[j] = true) ∧ Ext w w') (fun s => ls.length - s) 0 ?_ ?_ ?_
  · exact ⟨⟨Nat.zero_le _, fun j _ h => absurd h (Nat.not_lt_zero _)⟩, hE⟩
  · repeat (first | exact sub_nil | refine sub_cons rfl ?_)
  · rintro s wr ⟨hs, hE⟩
    refine wc_seq ?_
    refine wc_seq ?_
    refine wc_region ?_
    refine wl_val hW rfl rfl (x_move rfl) ?_
    refine wl_val hW rfl rfl (x_move rfl) ?_
    refine wl_val hW rfl rfl (x_len Try.underlying65 rfl) ?_
    refine wl_val hW rfl rfl (x_lss rfl rfl) ?_
    refine wl_nil ?_
    refine nx_then ?_
    refine wc_dec rfl (fun hc => ?_) (fun hc => ?_)
    · replace hc : ((s : Nat) : Int) < ls.length := hc
      have hlt : s < ls.length := by omega
      refine wc_skip ?_
      refine nx_then ?_
      refine wc_seq ?_
      refine wc_block ?_
      refine wc_seq ?_
      refine wc_region ?_
      refine wl_val hW rfl rfl (x_move rfl) ?_
      refine wl_val hW rfl rfl (x_move rfl) ?_
      obtain ⟨b1, o1, c1, rv, e1, hA1, hC15, hRl⟩ := (hL.ext hE).at s hlt
      cases e1
      refine wl_val hW rfl rfl (x_indexAddr Try.underlying65 fl26.siz rfl rfl (by omega) (by omega)) ?_
      refine wl_val hW rfl rfl (x_load fl26 rfl (hC15 0 _ rfl)) ?_
      refine wl_call hW rfl rfl (x_call en21 rfl) ((C21 hRl).inF hFF) ?_
      rintro _ wC ⟨rfl, hxC⟩
      replace hE := hE.trans hxC
      refine wl_val hW rfl rfl (x_not rfl) ?_
      refine wl_nil ?_
      refine nx_then ?_
      refine wc_bool rfl (fun hc => ?_) (fun hc => ?_)
      · have hal : ls.all rightB = false := all_at hlt (by simpa using hc)
        refine wc_seq ?_
        refine wc_region ?_
        refine wl_val hW rfl rfl (x_assign rfl) ?_
        refine wl_val hW rfl rfl (x_assign rfl) ?_
        refine wl_nil ?_
        refine nx_then ?_
        refine wc_ret ?_
        refine nx_block_ret ?_
        refine nx_then_ret ?_
        refine nx_then_ret ?_
        refine nx_block_ret ?_
        refine nx_then_ret ?_
        exact ends_ret (res_tmp2 Try.results47 rfl rfl) ⟨⟨_, by rw [hal]; rfl, by rw [hal]; exact row_nil _ _⟩, hE⟩
      · refine wc_skip ?_
        refine nx_block ?_
        refine nx_then ?_
        refine wc_region ?_
        refine wl_val hW rfl rfl (x_move rfl) ?_
        refine wl_val hW rfl rfl (x_inc (s := s) rfl (by omega)) ?_
        refine wl_val hW rfl rfl (x_assign rfl) ?_
        refine wl_nil ?_
        exact nx_next (s + 1) (by omega) ⟨⟨hlt, fun j hj h => by rcases Nat.lt_succ_iff_lt_or_eq.1 h with h | rfl; exact hs.2 j hj h; simpa using hc⟩, hE⟩ (by repeat (first | exact sub_nil | refine sub_cons rfl ?_))
    · refine wc_exit ?_
      refine nx_then_exit ?_
      refine nx_then_exit ?_
      refine nx_block_exit ?_
      refine nx_then ?_
      replace hc : ¬ ((s : Nat) : Int) < ls.length := hc
      have hal : ls.all rightB = true := all_of fun j hj => hs.2 j hj (by omega)
      refine wc_seq ?_
      refine wc_seq ?_
      refine wc_region ?_
      refine wl_val hW rfl rfl (x_assign rfl) ?_
      refine wl_nil ?_
      refine nx_then ?_
      refine wc_block ?_
      refine wc_loop (σ := Value × Nat) (fun u => [(0, .slice ad ls.length cap), (4, u.1), (6, .int .i64 u.2)]) (fun u w' => (u.2 ≤ ls.length ∧ ∃ acc, Row (fun _ => True) w' u.1 acc ∧ acc.length + tot (ls.drop u.2) ≤ tot ls ∧ foldTwo acc (ls.drop u.2) = foldTwo [] ls) ∧ Ext w w') (fun u => ls.length - u.2) (.slice none 0 0, 0) ?_ ?_ ?_
      · exact ⟨⟨Nat.zero_le _, [], row_nil _ _, by simp, by rw [List.drop_zero]⟩, hE⟩
      · repeat (first | exact sub_nil | refine sub_cons rfl ?_)
      · rintro ⟨ov, t⟩ w2 ⟨⟨htl, acc, hRa, hat, hf⟩, hE⟩
        dsimp only at htl hRa hat hf
        refine wc_seq ?_
        refine wc_seq ?_
        refine wc_region ?_
        refine wl_val hW rfl rfl (x_move rfl) ?_
        refine wl_val hW rfl rfl (x_move rfl) ?_
        refine wl_val hW rfl rfl (x_len Try.underlying65 rfl) ?_
        refine wl_val hW rfl rfl (x_lss rfl rfl) ?_
        refine wl_nil ?_
        refine nx_then ?_
        refine wc_dec rfl (fun hc => ?_) (fun hc => ?_)
        · replace hc : ((t : Nat) : Int) < ls.length := hc
          have hlt : t < ls.length := by omega
          refine wc_skip ?_
          refine nx_then ?_
          refine wc_seq ?_
          refine wc_block ?_
          refine wc_region ?_
          refine wl_val hW rfl rfl (x_move rfl) ?_
          refine wl_val hW rfl rfl (x_move rfl) ?_
          refine wl_val hW rfl rfl (x_move rfl) ?_
          obtain ⟨b1, o1, c1, rv, e1, hA1, hC28, hRl⟩ := (hL.ext hE).at t hlt
          cases e1
          have htd := tot_drop hlt
          refine wl_val hW rfl rfl (x_indexAddr Try.underlying65 fl26.siz rfl rfl (by omega) (by omega)) ?_
          refine wl_val hW rfl rfl (x_load fl26 rfl (hC28 0 _ rfl)) ?_
          refine wl_call hW rfl rfl (x_call en75 rfl) ((C75 (hRa.mono (fun k h _ => h)) (hRl.mono (fun k h _ => h)) (by omega)).inF hFF) ?_
          rintro rv2 wC ⟨hR2, hxC⟩
          replace hE := hE.trans hxC
          refine wl_val hW rfl rfl (x_assign rfl) ?_
          refine wl_nil ?_
          refine nx_block ?_
          refine nx_then ?_
          refine wc_region ?_
          refine wl_val hW rfl rfl (x_move rfl) ?_
          refine wl_val hW rfl rfl (x_inc (s := t) rfl (by omega)) ?_
          refine wl_val hW rfl rfl (x_assign rfl) ?_
          refine wl_nil ?_
          exact nx_next (rv2, t + 1) (by dsimp only; omega) ⟨⟨hlt, _, hR2, by have := twoF_len (acc.length + ls[t].length) acc ls[t]; dsimp only; omega, by dsimp only; rw [← foldTwo_drop hlt]; exact hf⟩, hE⟩ (by repeat (first | exact sub_nil | refine sub_cons rfl ?_))
        · refine wc_exit ?_
          refine nx_then_exit ?_
          refine nx_then_exit ?_
          refine nx_block_exit ?_
          refine nx_then ?_
          refine wc_seq ?_
          replace hc : ¬ ((t : Nat) : Int) < ls.length := hc
          rw [List.drop_eq_nil_of_le (show ls.length ≤ t by omega)] at hf
          refine wc_region ?_
          refine wl_val hW rfl rfl (x_move rfl) ?_
          refine wl_val hW rfl rfl (x_assign rfl) ?_
          refine wl_val hW rfl rfl (x_assign rfl) ?_
          refine wl_nil ?_
          refine nx_then ?_
          refine wc_ret ?_
          exact ends_ret (res_tmp2 Try.results47 rfl rfl) ⟨⟨_, by rw [hal]; rfl, by rw [hal, if_pos rfl, ← hf]; exact hRa⟩, hE⟩
theorem C46 {w : World} {v : Value} {ls : List (List Ent)} (hL : LRow (fun k => k < w.heap.size) w v ls) (htot : tot ls ≤ 1099511627000) : Rt Try.prog 46 [v] w fun r w' => (∃ rv, r = .tuple #[rv, .int .i64 (if ls.all rightB then 0 else 15)] ∧ Row (fun k => w.heap.size ≤ k) w' rv (if ls.all rightB then foldTwo [] ls else [])) ∧ Ext w w' := by
  obtain ⟨ad, cap, rfl, hcap, hlen⟩ := hL.form
  have hW := hWw
  have hFF := hFw
  have hE : Ext w w := Keep.refl _ _
  refine rt_body Try.func46 rfl Try.ntmps46 rfl ?_
  refine wc_seq ?_
  refine wc_region ?_
  refine wl_val hW rfl rfl (x_assign rfl) ?_
  refine wl_val hW rfl rfl (x_assign rfl) ?_
  refine wl_nil ?_
  refine nx_then ?_
  refine wc_seq ?_
  refine wc_seq ?_
  refine wc_region ?_
  refine wl_val hW rfl rfl (x_move rfl) ?_
  refine wl_val hW rfl rfl (x_len Try.underlying65 rfl) ?_
  refine wl_val hW rfl rfl (x_move rfl) ?_
  refine wl_nil ?_
  refine nx_then ?_
  refine wc_block ?_
  refine wc_loop (σ := Nat) (fun s => [(0, .slice ad ls.length cap), (6, .slice ad ls.length cap), (7, .int .i64 ls.length), (8, .int .i64 s)]) (fun s w' => (s ≤ ls.length ∧ ∀ (j : Nat) (hj : j < ls.length), j < s → rightB ls[j] = true) ∧ Ext w w') (fun s => ls.length - s) 0 ?_ ?_ ?_
  · exact ⟨⟨Nat.zero_le _, fun j _ h => absurd h (Nat.not_lt_zero _)⟩, hE⟩
  · repeat (first | exact sub_nil | refine sub_cons rfl ?_)
  · rintro s wr ⟨hs, hE⟩
    refine wc_seq ?_
    refine wc_region ?_
    refine wl_val hW rfl rfl (x_lss rfl rfl) ?_
    refine wl_nil ?_
    refine nx_then ?_
    refine wc_seq ?_
    refine wc_dec rfl (fun hc => ?_) (fun hc => ?_)
    · replace hc : ((s : Nat) : Int) < ls.length := hc
      have hlt : s < ls.length := by omega
      refine wc_skip ?_
      refine nx_then ?_
      refine wc_seq ?_
      refine wc_block ?_
      refine wc_seq ?_
      refine wc_region ?_
      obtain ⟨b1, o1, c1, rv, e1, hA1, hC10, hRl⟩ := (hL.ext hE).at s hlt
      cases e1
      refine wl_val hW rfl rfl (x_indexAddr Try.underlying65 fl26.siz rfl rfl (by omega) (by omega)) ?_
      refine wl_val hW rfl rfl (x_load fl26 rfl (hC10 0 _ rfl)) ?_
      refine wl_val hW rfl rfl (x_assign rfl) ?_
      refine wl_nil ?_
      refine nx_then ?_
      refine wc_seq ?_
      refine wc_region ?_
      refine wl_val hW rfl rfl (x_move rfl) ?_
      refine wl_call hW rfl rfl (x_call en20 rfl) ((C20 hRl).inF hFF) ?_
      rintro _ wC ⟨rfl, hxC⟩
      replace hE := hE.trans hxC
      refine wl_val hW rfl rfl (x_not rfl) ?_
      refine wl_nil ?_
      refine nx_then ?_
      refine wc_bool rfl (fun hc => ?_) (fun hc => ?_)
      · have hal : ls.all rightB = false := all_at hlt (by simpa using hc)
        refine wc_seq ?_
        refine wc_region ?_
        refine wl_val hW rfl rfl (x_assign rfl) ?_
        refine wl_val hW rfl rfl (x_assign rfl) ?_
        refine wl_nil ?_
        refine nx_then ?_
        refine wc_ret ?_
        refine nx_block_ret ?_
        refine nx_then_ret ?_
        refine nx_then_ret ?_
        refine nx_block_ret ?_
        refine nx_then_ret ?_
        exact ends_ret (res_tmp2 Try.results46 rfl rfl) ⟨⟨_, by rw [hal]; rfl, by rw [hal]; exact row_nil _ _⟩, hE⟩
      · refine wc_skip ?_
        refine nx_block ?_
        refine nx_then ?_
        refine wc_region ?_
        refine wl_val hW rfl rfl (x_inc (s := s) rfl (by omega)) ?_
        refine wl_val hW rfl rfl (x_move rfl) ?_
        refine wl_nil ?_
        exact nx_next (s + 1) (by omega) ⟨⟨hlt, fun j hj h => by rcases Nat.lt_succ_iff_lt_or_eq.1 h with h | rfl; exact hs.2 j hj h; simpa using hc⟩, hE⟩ (by repeat (first | exact sub_nil | refine sub_cons rfl ?_))
    · refine wc_exit ?_
      refine nx_then_exit ?_
      refine nx_then_exit ?_
      refine nx_block_exit ?_
      replace hc : ¬ ((s : Nat) : Int) < ls.length := hc
      have hal : ls.all rightB = true := all_of fun j hj => hs.2 j hj (by omega)
      refine nx_then ?_
      refine wc_seq ?_
      refine wc_region ?_
      have hEw := hE
      have hsz0 := hE.size
      refine wl_val hW rfl rfl (x_move rfl) ?_
      refine wl_call hW rfl rfl (x_call en74 rfl) ((C74 (hL.ext hE) (fun k h => Nat.lt_of_lt_of_le h hE.size)).inF hFF) ?_
      rintro cv wC ⟨hLo, hxC⟩
      replace hE := hE.trans hxC
      have hsz := hE.size
      refine wl_call hW rfl rfl (x_call en73 rfl) ((C73 hLo (fun k h => by omega) htot).inF hFF) ?_
      rintro rv wT ⟨⟨M, hM, hRM⟩, hkT⟩
      have hET : Ext w wT := Keep.after hE hkT (fun k hk e => by have := (hLo.lt k e.symm).1; omega)
      have hMf := merge_is hM (all_sorted hal)
      refine wl_val hW rfl rfl (x_assign rfl) ?_
      refine wl_val hW rfl rfl (x_assign rfl) ?_
      refine wl_nil ?_
      refine nx_then ?_
      refine wc_ret ?_
      exact ends_ret (res_tmp2 Try.results46 rfl rfl) ⟨⟨_, by rw [hal]; rfl, by rw [hal, if_pos rfl, ← hMf]; exact hRM.mono (fun k _ h => by omega)⟩, hET⟩
theorem C45 {A : Nat → Prop} {w : World} {v : Value} {ls : List (List Ent)} (hL : LRow A w v ls) : Rt Try.prog 45 [v] w fun r w' => (∃ b, r = .bool b ∧ (b = true → tot ls ≤ 3000)) ∧ Ext w w' := by
  obtain ⟨ad, cap, rfl, hcap, hlen⟩ := hL.form
  have hW := hWw
  have hFF := hFw
  have hE : Ext w w := Keep.refl _ _
  refine rt_body Try.func45 rfl Try.ntmps45 rfl ?_
  refine wc_seq ?_
  refine wc_region ?_
  refine wl_val hW rfl rfl (x_assign rfl) ?_
  refine wl_nil ?_
  refine nx_then ?_
  refine wc_seq ?_
  refine wc_seq ?_
  refine wc_region ?_
  refine wl_val hW rfl rfl (x_move rfl) ?_
  refine wl_val hW rfl rfl (x_len Try.underlying65 rfl) ?_
  refine wl_val hW rfl rfl (x_gtr rfl rfl) ?_
  refine wl_nil ?_
  refine nx_then ?_
  refine wc_dec rfl (fun hc => ?_) (fun hc => ?_)
  · refine wc_seq ?_
    refine wc_region ?_
    refine wl_val hW rfl rfl (x_assign rfl) ?_
    refine wl_nil ?_
    refine nx_then ?_
    refine wc_ret ?_
    refine nx_then_ret ?_
    exact ends_ret (res_tmp Try.results45 rfl) ⟨⟨false, rfl, fun h => by cases h⟩, hE⟩
  · have hl30 : ls.length ≤ 30 := by have hc' : ¬ (30 : Int) < ls.length := hc; omega
    refine wc_skip ?_
    refine nx_then ?_
    refine wc_seq ?_
    refine wc_region ?_
    refine wl_val hW rfl rfl (x_assign rfl) ?_
    refine wl_nil ?_
    refine nx_then ?_
    refine wc_seq ?_
    refine wc_seq ?_
    refine wc_region ?_
    refine wl_val hW rfl rfl (x_assign rfl) ?_
    refine wl_nil ?_
    refine nx_then ?_
    refine wc_block ?_
    refine wc_loop (σ := Nat) (fun s => [(0, .slice ad ls.length cap), (3, .int .i64 ((tot (ls.take s) : Nat) : Int)), (4, .int .i64 s)]) (fun s w' => (s ≤ ls.length ∧ tot (ls.take s) ≤ s * 1000) ∧ Ext w w') (fun s => ls.length - s) 0 ?_ ?_ ?_
    · exact ⟨⟨Nat.zero_le _, by simp [tot]⟩, hE⟩
    · repeat (first | exact sub_nil | refine sub_cons rfl ?_)
    · rintro s wr ⟨hs, hE⟩
      refine wc_seq ?_
      refine wc_seq ?_
      refine wc_region ?_
      refine wl_val hW rfl rfl (x_move rfl) ?_
      refine wl_val hW rfl rfl (x_move rfl) ?_
      refine wl_val hW rfl rfl (x_len Try.underlying65 rfl) ?_
      refine wl_val hW rfl rfl (x_lss rfl rfl) ?_
      refine wl_nil ?_
      refine nx_then ?_
      refine wc_dec rfl (fun hc => ?_) (fun hc => ?_)
      · replace hc : ((s : Nat) : Int) < ls.length := hc
        have hlt : s < ls.length := by omega
        refine wc_skip ?_
        refine nx_then ?_
        refine wc_seq ?_
        refine wc_block ?_
        refine wc_seq ?_
        refine wc_seq ?_
        refine wc_region ?_
        refine wl_val hW rfl rfl (x_move rfl) ?_
        refine wl_val hW rfl rfl (x_move rfl) ?_
        obtain ⟨b1, o1, c1, rv, e1, hA1, hC16, hRl⟩ := (hL.ext hE).at s hlt
        cases e1
        obtain ⟨la, lc, rfl, hlc, hll⟩ := hRl.form
        refine wl_val hW rfl rfl (x_indexAddr Try.underlying65 fl26.siz rfl rfl (by omega) (by omega)) ?_
        refine wl_val hW rfl rfl (x_load fl26 rfl (hC16 0 _ rfl)) ?_
        refine wl_call hW rfl rfl (x_call en17 rfl) ((C17 hRl).inF hFF) ?_
        rintro _ wC ⟨⟨bb, rfl, hfew⟩, hxC⟩
        replace hE := hE.trans hxC
        refine wl_val hW rfl rfl (x_not rfl) ?_
        refine wl_nil ?_
        refine nx_then ?_
        refine wc_bool rfl (fun hc => ?_) (fun hc => ?_)
        · refine wc_seq ?_
          refine wc_region ?_
          refine wl_val hW rfl rfl (x_assign rfl) ?_
          refine wl_nil ?_
          refine nx_then ?_
          refine wc_ret ?_
          refine nx_then_ret ?_
          refine nx_block_ret ?_
          refine nx_then_ret ?_
          refine nx_then_ret ?_
          refine nx_block_ret ?_
          refine nx_then_ret ?_
          exact ends_ret (res_tmp Try.results45 rfl) ⟨⟨false, rfl, fun h => by cases h⟩, hE⟩
        · refine wc_skip ?_
          refine nx_then ?_
          have hl1 : (ls[s].length : Int) ≤ 1000 := hfew (by simpa using hc)
          have hC23 := hC16.ext hxC
          have htk : tot (ls.take (s + 1)) = tot (ls.take s) + ls[s].length := by have h1 := tot_take_drop ls s; have h2 := tot_take_drop ls (s + 1); have h3 := tot_drop hlt; omega
          refine wc_region ?_
          refine wl_val hW rfl rfl (x_move rfl) ?_
          refine wl_val hW rfl rfl (x_move rfl) ?_
          refine wl_val hW rfl rfl (x_move rfl) ?_
          refine wl_val hW rfl rfl (x_indexAddr Try.underlying65 fl26.siz rfl rfl (by omega) (by omega)) ?_
          refine wl_val hW rfl rfl (x_load fl26 rfl (hC23 0 _ rfl)) ?_
          refine wl_val hW rfl rfl (x_len Try.underlying26 rfl) ?_
          refine wl_val hW rfl rfl (x_addn (i := tot (ls.take s)) (j := ls[s].length) rfl rfl (by omega)) ?_
          refine wl_val hW rfl rfl (x_assign rfl) ?_
          refine wl_nil ?_
          refine nx_block ?_
          refine nx_then ?_
          refine wc_region ?_
          refine wl_val hW rfl rfl (x_move rfl) ?_
          refine wl_val hW rfl rfl (x_inc (s := s) rfl (by omega)) ?_
          refine wl_val hW rfl rfl (x_assign rfl) ?_
          refine wl_nil ?_
          exact nx_next (s + 1) (by omega) ⟨⟨hlt, by omega⟩, hE⟩ (by rw [htk]; repeat (first | exact sub_nil | refine sub_cons rfl ?_))
      · refine wc_exit ?_
        refine nx_then_exit ?_
        refine nx_then_exit ?_
        refine nx_block_exit ?_
        refine nx_then ?_
        refine wc_seq ?_
        replace hc : ¬ ((s : Nat) : Int) < ls.length := hc
        have htk : tot (ls.take s) = tot ls := by rw [List.take_of_length_le (by omega)]
        refine wc_region ?_
        refine wl_val hW rfl rfl (x_move rfl) ?_
        refine wl_val hW rfl rfl (x_leq rfl rfl) ?_
        refine wl_val hW rfl rfl (x_assign rfl) ?_
        refine wl_nil ?_
        refine nx_then ?_
        refine wc_ret ?_
        exact ends_ret (res_tmp Try.results45 rfl) ⟨⟨_, rfl, fun h => by have h' := of_decide_eq_true h; omega⟩, hE⟩
theorem C10 {w : World} {v : Value} {ls : List (List Ent)} (hL : LRow (fun k => k < w.heap.size) w v ls) : Rt Try.prog 10 [v] w fun r w' => r = .bool true ∧ Ext w w' := by
  obtain ⟨ad, cap, rfl, hcap, hlen⟩ := hL.form
  have hW := hWw
  have hFF := hFw
  have hE : Ext w w := Keep.refl _ _
  refine rt_body Try.func10 rfl Try.ntmps10 rfl ?_
  refine wc_seq ?_
  refine wc_region ?_
  refine wl_val hW rfl rfl (x_assign rfl) ?_
  refine wl_nil ?_
  refine nx_then ?_
  refine wc_seq ?_
  refine wc_seq ?_
  refine wc_region ?_
  refine wl_call hW rfl rfl (x_call en16 rfl) (C16.inF hFF) ?_
  rintro _ wC ⟨rfl, hxC⟩
  replace hE := hE.trans hxC
  refine wl_val hW rfl rfl (x_not rfl) ?_
  refine wl_nil ?_
  refine nx_then ?_
  refine wc_false rfl ?_
  refine wc_skip ?_
  refine nx_then ?_
  refine wc_seq ?_
  refine wc_seq ?_
  refine wc_region ?_
  refine wl_val hW rfl rfl (x_move rfl) ?_
  refine wl_call hW rfl rfl (x_call en45 rfl) ((C45 (hL.ext hE)).inF hFF) ?_
  rintro _ wC ⟨⟨bb, rfl, hfew⟩, hxC⟩
  replace hE := hE.trans hxC
  refine wl_val hW rfl rfl (x_not rfl) ?_
  refine wl_nil ?_
  refine nx_then ?_
  refine wc_bool rfl (fun hc => ?_) (fun hc => ?_)
  · refine wc_seq ?_
    refine wc_region ?_
    refine wl_val hW rfl rfl (x_assign rfl) ?_
    refine wl_nil ?_
    refine nx_then ?_
    refine wc_ret ?_
    refine nx_then_ret ?_
    exact ends_ret (res_tmp Try.results10 rfl) ⟨rfl, hE⟩
  · have htot : tot ls ≤ 3000 := hfew (by simpa using hc)
    clear hfew
    refine wc_skip ?_
    refine nx_then ?_
    refine wc_seq ?_
    refine wc_region ?_
    refine wl_val hW rfl rfl (x_move rfl) ?_
    refine wl_call hW rfl rfl (x_call en46 rfl) ((C46 ((hL.ext hE).mono (fun k h _ => h)) (by omega)).inF hFF) ?_
    rintro _ wS ⟨⟨rv1, rfl, hR1⟩, hxC⟩
    replace hE := hE.trans hxC
    refine wl_val hW rfl rfl (x_move rfl) ?_
    refine wl_val hW rfl rfl (x_extract rfl rfl) ?_
    refine wl_val hW rfl rfl (x_extract rfl rfl) ?_
    refine wl_val hW rfl rfl (x_assign rfl) ?_
    refine wl_val hW rfl rfl (x_assign rfl) ?_
    refine wl_nil ?_
    refine nx_then ?_
    refine wc_seq ?_
    refine wc_region ?_
    refine wl_val hW rfl rfl (x_move rfl) ?_
    refine wl_call hW rfl rfl (x_call en47 rfl) ((C47 ((hL.ext hE).mono (fun k h _ => h)) (by omega)).inF hFF) ?_
    rintro _ wT ⟨⟨rv2, rfl, hR2⟩, hxC⟩
    replace hE := hE.trans hxC
    refine wl_val hW rfl rfl (x_move rfl) ?_
    refine wl_val hW rfl rfl (x_extract rfl rfl) ?_
    refine wl_val hW rfl rfl (x_extract rfl rfl) ?_
    refine wl_val hW rfl rfl (x_assign rfl) ?_
    refine wl_val hW rfl rfl (x_assign rfl) ?_
    refine wl_nil ?_
    refine nx_then ?_
    refine wc_seq ?_
    refine wc_cut [(2, .bool true)] (fun w' => Ext w w') ?_ ?_
    · refine wc_region ?_
      refine wl_val hW rfl rfl (x_move rfl) ?_
      refine wl_val hW rfl rfl (x_move rfl) ?_
      refine wl_call hW rfl rfl (x_call en24 rfl) ((C24 ((hR1.ext hxC).mono (A' := fun _ => True) (fun _ _ _ => trivial)) hR2).inF hFF) ?_
      rintro _ wC2 ⟨⟨b2, rfl, hb2⟩, hxC⟩
      obtain rfl : b2 = true := hb2.2 rfl
      replace hE := hE.trans hxC
      refine wl_val hW rfl rfl (x_move rfl) ?_
      refine wl_val hW rfl rfl (x_move rfl) ?_
      refine wl_val hW rfl rfl (x_move rfl) ?_
      refine wl_val hW rfl rfl (x_eqlT rfl rfl rfl) ?_
      refine wl_val hW rfl rfl (x_pickT rfl rfl) ?_
      refine wl_val hW rfl rfl (x_assign rfl) ?_
      refine wl_nil ?_
      exact nx_cut (by repeat (first | exact sub_nil | refine sub_cons rfl ?_)) hE
    · rintro w' hE
      refine nx_then ?_
      refine wc_ret ?_
      exact ends_ret (res_tmp Try.results10 rfl) ⟨rfl, hE⟩
end Go.Proofs.Ytblbddamebbgaaa.K


/- Walk: the law MergeSteps. -/
namespace Go.Proofs.Ytblbddamebbgaaa.K
open Go Go.RowKit
set_option linter.unusedVariables false
set_option linter.unusedSimpArgs false

theorem lrow3 {A : Nat → Prop} {w : World} {b : Nat} {v1 v2 v3 : Value} {x y z : List Ent} (hB : Blk w b [v1, v2, v3] 26) (hA : A b) (h1 : Row A w v1 x) (h2 : Row A w v2 y) (h3 : Row A w v3 z) : LRow A w (.slice (some ⟨b, 0, none⟩) 3 3) [x, y, z] :=
  lrow_of_blk (ls := [x, y, z]) (vals := [v1, v2, v3]) rfl hB hA (fun i l u hi hj => by
    match i, hi, hj with
    | 0, hi, hj => cases hi; cases hj; exact h1
    | 1, hi, hj => cases hi; cases hj; exact h2
    | 2, hi, hj => cases hi; cases hj; exact h3) (by simp)
theorem lrow2 {A : Nat → Prop} {w : World} {b : Nat} {v1 v2 : Value} {x y : List Ent} (hB : Blk w b [v1, v2] 26) (hA : A b) (h1 : Row A w v1 x) (h2 : Row A w v2 y) : LRow A w (.slice (some ⟨b, 0, none⟩) 2 2) [x, y] :=
  lrow_of_blk (ls := [x, y]) (vals := [v1, v2]) rfl hB hA (fun i l u hi hj => by
    match i, hi, hj with
    | 0, hi, hj => cases hi; cases hj; exact h1
    | 1, hi, hj => cases hi; cases hj; exact h2) (by simp)
/-- Merge of right lists. -/
theorem C46r {w : World} {v : Value} {ls : List (List Ent)} (hL : LRow (fun k => k < w.heap.size) w v ls) (htot : tot ls ≤ 1099511627000) (hr : ls.all rightB = true) : Rt Try.prog 46 [v] w fun r w' => (∃ rv, r = .tuple #[rv, .int .i64 0] ∧ Row (fun _ => True) w' rv (mrg ls)) ∧ Ext w w' :=
  (C46 hL htot).mono fun r w' ⟨⟨rv, h1, h2⟩, h3⟩ => ⟨⟨rv, by rw [h1, hr]; rfl, by rw [hr, if_pos rfl] at h2; exact h2.mono fun _ _ _ => trivial⟩, h3⟩
theorem C13 {w : World} {v1 v2 v3 : Value} {a b c : List Ent} (hR1 : Row (fun k => k < w.heap.size) w v1 a) (hR2 : Row (fun k => k < w.heap.size) w v2 b) (hR3 : Row (fun k => k < w.heap.size) w v3 c) :
    Rt Try.prog 13 [v1, v2, v3] w fun r w' => r = .bool true ∧ Ext w w' := by
  replace hR1 := hR1.mono (A' := fun _ => True) (fun _ _ _ => trivial)
  replace hR2 := hR2.mono (A' := fun _ => True) (fun _ _ _ => trivial)
  replace hR3 := hR3.mono (A' := fun _ => True) (fun _ _ _ => trivial)
  obtain ⟨ad1, cap1, rfl, -⟩ := hR1.form
  obtain ⟨ad2, cap2, rfl, -⟩ := hR2.form
  obtain ⟨ad3, cap3, rfl, -⟩ := hR3.form
  have hW := hWw
  have hFF := hFw
  have hE : Ext w w := Keep.refl _ _
  refine rt_body Try.func13 rfl Try.ntmps13 rfl ?_
  refine wc_seq ?_
  refine wc_region ?_
  refine wl_val hW rfl rfl (x_assign rfl) ?_
  refine wl_nil ?_
  refine nx_then ?_
  refine wc_seq ?_
  refine wc_seq ?_
  refine wc_region ?_
  refine wl_call hW rfl rfl (x_call en16 rfl) (C16.inF hFF) ?_
  rintro _ wC ⟨rfl, hxC⟩
  replace hE := hE.trans hxC
  refine wl_val hW rfl rfl (x_not rfl) ?_
  refine wl_nil ?_
  refine nx_then ?_
  refine wc_false rfl ?_
  refine wc_skip ?_
  refine nx_then ?_
  refine wc_seq ?_
  refine wc_seq ?_
  refine wc_cutE (σ := Bool) (fun s => [(0, .slice ad1 a.length cap1), (1, .slice ad2 b.length cap2), (2, .slice ad3 c.length cap3), (37, .bool s)]) (fun s w' => Ext w w' ∧ (s = false → tot [a, b, c] ≤ 3000 ∧ rightB a = true ∧ rightB b = true ∧ rightB c = true)) ?_ ?_
  · refine wc_region ?_
    refine wl_val hW rfl rfl (x_move rfl) ?_
    refine wl_val hW rfl rfl (x_move rfl) ?_
    refine wl_val hW rfl rfl (x_move rfl) ?_
    refine wl_buildSlice (parts := [(0, .tmp 17), (1, .tmp 18), (2, .tmp 19)]) hW rfl rfl Try.underlying65 fl26.siz Try.zeroValue26 rfl rfl rfl (by omega) ?_
    intro b20 w20 hl20 hB20 hx20
    have g20 : w.heap.size ≤ b20 := Nat.le_trans hE.size hl20
    replace hE := hE.trans hx20
    refine wl_call hW rfl rfl (x_call en45 rfl) ((C45 (lrow3 (A := fun _ => True) hB20 trivial (hR1.ext hE) (hR2.ext hE) (hR3.ext hE))).inF hFF) ?_
    rintro _ wC ⟨⟨bb, rfl, hfew⟩, hxC⟩
    replace hB20 := hB20.ext hxC
    replace hE := hE.trans hxC
    refine wl_val hW rfl rfl (x_not rfl) ?_
    refine wl_val hW rfl rfl (x_move rfl) ?_
    refine wl_bcases (d := 23) rfl (fun hg23 => ?_) (fun hg23 => ?_)
    · refine wl_off hW rfl rfl ?_
      refine wl_off hW rfl rfl ?_
      refine wl_off hW rfl rfl ?_
      refine wl_val hW rfl rfl (x_pickT rfl rfl) ?_
      refine wl_val hW rfl rfl (x_move rfl) ?_
      refine wl_off hW rfl rfl ?_
      refine wl_off hW rfl rfl ?_
      refine wl_off hW rfl rfl ?_
      refine wl_val hW rfl rfl (x_pickT rfl rfl) ?_
      refine wl_val hW rfl rfl (x_move rfl) ?_
      refine wl_off hW rfl rfl ?_
      refine wl_off hW rfl rfl ?_
      refine wl_off hW rfl rfl ?_
      refine wl_val hW rfl rfl (x_pickT rfl rfl) ?_
      refine wl_nil ?_
      exact nx_cutE true (by repeat (first | exact sub_nil | refine sub_cons rfl ?_)) ⟨hE, fun h => by cases h⟩
    · refine wl_val hW rfl rfl (x_move rfl) ?_
      refine wl_call hW rfl rfl (x_call en21 rfl) ((C21 (hR1.ext hE)).inF hFF) ?_
      rintro _ wC ⟨rfl, hxC⟩
      replace hB20 := hB20.ext hxC
      replace hE := hE.trans hxC
      refine wl_val hW rfl rfl (x_not rfl) ?_
      refine wl_val hW rfl rfl (x_pickF rfl rfl) ?_
      refine wl_val hW rfl rfl (x_move rfl) ?_
      refine wl_bcases (d := 28) rfl (fun hg28 => ?_) (fun hg28 => ?_)
      · refine wl_off hW rfl rfl ?_
        refine wl_off hW rfl rfl ?_
        refine wl_off hW rfl rfl ?_
        refine wl_val hW rfl rfl (x_pickT rfl rfl) ?_
        refine wl_val hW rfl rfl (x_move rfl) ?_
        refine wl_off hW rfl rfl ?_
        refine wl_off hW rfl rfl ?_
        refine wl_off hW rfl rfl ?_
        refine wl_val hW rfl rfl (x_pickT rfl rfl) ?_
        refine wl_nil ?_
        exact nx_cutE true (by repeat (first | exact sub_nil | refine sub_cons rfl ?_)) ⟨hE, fun h => by cases h⟩
      · refine wl_val hW rfl rfl (x_move rfl) ?_
        refine wl_call hW rfl rfl (x_call en21 rfl) ((C21 (hR2.ext hE)).inF hFF) ?_
        rintro _ wC ⟨rfl, hxC⟩
        replace hB20 := hB20.ext hxC
        replace hE := hE.trans hxC
        refine wl_val hW rfl rfl (x_not rfl) ?_
        refine wl_val hW rfl rfl (x_pickF rfl rfl) ?_
        refine wl_val hW rfl rfl (x_move rfl) ?_
        refine wl_bcases (d := 33) rfl (fun hg33 => ?_) (fun hg33 => ?_)
        · refine wl_off hW rfl rfl ?_
          refine wl_off hW rfl rfl ?_
          refine wl_off hW rfl rfl ?_
          refine wl_val hW rfl rfl (x_pickT rfl rfl) ?_
          refine wl_nil ?_
          exact nx_cutE true (by repeat (first | exact sub_nil | refine sub_cons rfl ?_)) ⟨hE, fun h => by cases h⟩
        · refine wl_val hW rfl rfl (x_move rfl) ?_
          refine wl_call hW rfl rfl (x_call en21 rfl) ((C21 (hR3.ext hE)).inF hFF) ?_
          rintro _ wC ⟨rfl, hxC⟩
          replace hB20 := hB20.ext hxC
          replace hE := hE.trans hxC
          refine wl_val hW rfl rfl (x_not rfl) ?_
          refine wl_val hW rfl rfl (x_pickF rfl rfl) ?_
          refine wl_nil ?_
          exact nx_cutE (!rightB c) (by repeat (first | exact sub_nil | refine sub_cons rfl ?_)) ⟨hE, fun h => ⟨hfew (by simpa using hg23), by simpa using hg28, by simpa using hg33, by simpa using h⟩⟩
  · rintro s w' ⟨hE, hs⟩
    refine nx_then ?_
    refine wc_bool rfl (fun hc => ?_) (fun hc => ?_)
    · refine wc_seq ?_
      refine wc_region ?_
      refine wl_val hW rfl rfl (x_assign rfl) ?_
      refine wl_nil ?_
      refine nx_then ?_
      refine wc_ret ?_
      refine nx_then_ret ?_
      exact ends_ret (res_tmp Try.results13 rfl) ⟨rfl, hE⟩
    · obtain ⟨htot, hra, hrb, hrc⟩ := hs hc
      simp only [tot] at htot
      have hsa := (rightB_iff.1 hra).2
      have hsb := (rightB_iff.1 hrb).2
      have hsc := (rightB_iff.1 hrc).2
      have hab : [a, b].all rightB = true := by simp [hra, hrb]
      have hbc : [b, c].all rightB = true := by simp [hrb, hrc]
      have habc : [a, b, c].all rightB = true := by simp [hra, hrb, hrc]
      have hx1 := mrg_right hab
      have hy1 := mrg_right hbc
      have lx1 : (mrg [a, b]).length ≤ 3000 := by have := foldTwo_len [a, b] []; simp only [tot, List.length_nil] at this; unfold mrg; omega
      have ly1 : (mrg [b, c]).length ≤ 3000 := by have := foldTwo_len [b, c] []; simp only [tot, List.length_nil] at this; unfold mrg; omega
      refine wc_skip ?_
      refine nx_then ?_
      refine wc_seq ?_
      refine wc_region ?_
      refine wl_val hW rfl rfl (x_move rfl) ?_
      refine wl_val hW rfl rfl (x_move rfl) ?_
      refine wl_val hW rfl rfl (x_move rfl) ?_
      refine wl_buildSlice (parts := [(0, .tmp 39), (1, .tmp 40), (2, .tmp 41)]) hW rfl rfl Try.underlying65 fl26.siz Try.zeroValue26 rfl rfl rfl (by omega) ?_
      intro b42 w42 hl42 hB42 hx42
      have g42 : w.heap.size ≤ b42 := Nat.le_trans hE.size hl42
      replace hE := hE.trans hx42
      refine wl_call hW rfl rfl (x_call en46 rfl) ((C46r ((lrow3 (A := fun _ => True) hB42 trivial (hR1.ext hE) (hR2.ext hE) (hR3.ext hE)).mono (fun k h _ => h)) (by simp only [tot]; omega) habc).inF hFF) ?_
      rintro _ wC ⟨⟨rA, rfl, hRA⟩, hxC⟩
      replace hE := hE.trans hxC
      refine wl_val hW rfl rfl (x_move rfl) ?_
      refine wl_val hW rfl rfl (x_extract rfl rfl) ?_
      refine wl_val hW rfl rfl (x_extract rfl rfl) ?_
      refine wl_val hW rfl rfl (x_assign rfl) ?_
      refine wl_val hW rfl rfl (x_assign rfl) ?_
      refine wl_nil ?_
      refine nx_then ?_
      refine wc_seq ?_
      refine wc_region ?_
      refine wl_val hW rfl rfl (x_move rfl) ?_
      refine wl_val hW rfl rfl (x_move rfl) ?_
      refine wl_buildSlice (parts := [(0, .tmp 47), (1, .tmp 48)]) hW rfl rfl Try.underlying65 fl26.siz Try.zeroValue26 rfl rfl rfl (by omega) ?_
      intro b49 w49 hl49 hB49 hx49
      have g49 : w.heap.size ≤ b49 := Nat.le_trans hE.size hl49
      replace hE := hE.trans hx49
      refine wl_call hW rfl rfl (x_call en46 rfl) ((C46r ((lrow2 (A := fun _ => True) hB49 trivial (hR1.ext hE) (hR2.ext hE)).mono (fun k h _ => h)) (by simp only [tot]; omega) hab).inF hFF) ?_
      rintro _ wC2 ⟨⟨rX, rfl, hRX⟩, hxC⟩
      obtain ⟨aX, cX, rfl, -⟩ := hRX.form
      replace hRA := hRA.ext (hx49.trans hxC)
      replace hE := hE.trans hxC
      refine wl_val hW rfl rfl (x_move rfl) ?_
      refine wl_val hW rfl rfl (x_extract rfl rfl) ?_
      refine wl_val hW rfl rfl (x_extract rfl rfl) ?_
      refine wl_val hW rfl rfl (x_assign rfl) ?_
      refine wl_val hW rfl rfl (x_assign rfl) ?_
      refine wl_nil ?_
      refine nx_then ?_
      refine wc_seq ?_
      refine wc_region ?_
      refine wl_val hW rfl rfl (x_move rfl) ?_
      refine wl_val hW rfl rfl (x_move rfl) ?_
      refine wl_buildSlice (parts := [(0, .tmp 54), (1, .tmp 55)]) hW rfl rfl Try.underlying65 fl26.siz Try.zeroValue26 rfl rfl rfl (by omega) ?_
      intro b56 w56 hl56 hB56 hx56
      have g56 : w.heap.size ≤ b56 := Nat.le_trans hE.size hl56
      replace hE := hE.trans hx56
      refine wl_call hW rfl rfl (x_call en46 rfl) ((C46r ((lrow2 (A := fun _ => True) hB56 trivial (hRX.ext hx56) (hR3.ext hE)).mono (fun k h _ => h)) (by simp only [tot]; omega) (by simp [hx1, hrc])).inF hFF) ?_
      rintro _ wC3 ⟨⟨rX2, rfl, hRX2⟩, hxC⟩
      replace hRA := hRA.ext (hx56.trans hxC)
      replace hE := hE.trans hxC
      refine wl_val hW rfl rfl (x_move rfl) ?_
      refine wl_val hW rfl rfl (x_extract rfl rfl) ?_
      refine wl_val hW rfl rfl (x_extract rfl rfl) ?_
      refine wl_val hW rfl rfl (x_assign rfl) ?_
      refine wl_val hW rfl rfl (x_assign rfl) ?_
      refine wl_nil ?_
      refine nx_then ?_
      refine wc_seq ?_
      refine wc_region ?_
      refine wl_val hW rfl rfl (x_move rfl) ?_
      refine wl_val hW rfl rfl (x_move rfl) ?_
      refine wl_buildSlice (parts := [(0, .tmp 61), (1, .tmp 62)]) hW rfl rfl Try.underlying65 fl26.siz Try.zeroValue26 rfl rfl rfl (by omega) ?_
      intro b63 w63 hl63 hB63 hx63
      have g63 : w.heap.size ≤ b63 := Nat.le_trans hE.size hl63
      replace hE := hE.trans hx63
      refine wl_call hW rfl rfl (x_call en46 rfl) ((C46r ((lrow2 (A := fun _ => True) hB63 trivial (hR2.ext hE) (hR3.ext hE)).mono (fun k h _ => h)) (by simp only [tot]; omega) hbc).inF hFF) ?_
      rintro _ wC4 ⟨⟨rY, rfl, hRY⟩, hxC⟩
      obtain ⟨aY, cY, rfl, -⟩ := hRY.form
      replace hRA := hRA.ext (hx63.trans hxC)
      replace hRX2 := hRX2.ext (hx63.trans hxC)
      replace hE := hE.trans hxC
      refine wl_val hW rfl rfl (x_move rfl) ?_
      refine wl_val hW rfl rfl (x_extract rfl rfl) ?_
      refine wl_val hW rfl rfl (x_extract rfl rfl) ?_
      refine wl_val hW rfl rfl (x_assign rfl) ?_
      refine wl_val hW rfl rfl (x_assign rfl) ?_
      refine wl_nil ?_
      refine nx_then ?_
      refine wc_seq ?_
      refine wc_region ?_
      refine wl_val hW rfl rfl (x_move rfl) ?_
      refine wl_val hW rfl rfl (x_move rfl) ?_
      refine wl_buildSlice (parts := [(0, .tmp 68), (1, .tmp 69)]) hW rfl rfl Try.underlying65 fl26.siz Try.zeroValue26 rfl rfl rfl (by omega) ?_
      intro b70 w70 hl70 hB70 hx70
      have g70 : w.heap.size ≤ b70 := Nat.le_trans hE.size hl70
      replace hE := hE.trans hx70
      refine wl_call hW rfl rfl (x_call en46 rfl) ((C46r ((lrow2 (A := fun _ => True) hB70 trivial (hR1.ext hE) (hRY.ext hx70)).mono (fun k h _ => h)) (by simp only [tot]; omega) (by simp [hra, hy1])).inF hFF) ?_
      rintro _ wC5 ⟨⟨rY2, rfl, hRY2⟩, hxC⟩
      replace hRA := hRA.ext (hx70.trans hxC)
      replace hRX2 := hRX2.ext (hx70.trans hxC)
      replace hE := hE.trans hxC
      refine wl_val hW rfl rfl (x_move rfl) ?_
      refine wl_val hW rfl rfl (x_extract rfl rfl) ?_
      refine wl_val hW rfl rfl (x_extract rfl rfl) ?_
      refine wl_val hW rfl rfl (x_assign rfl) ?_
      refine wl_val hW rfl rfl (x_assign rfl) ?_
      refine wl_nil ?_
      refine nx_then ?_
      refine wc_seq ?_
      refine wc_cut [(6, .bool true)] (fun w' => Ext w w') ?_ ?_
      · refine wc_region ?_
        refine wl_val hW rfl rfl (x_move rfl) ?_
        refine wl_val hW rfl rfl (x_move rfl) ?_
        refine wl_val hW rfl rfl (x_add (r := 0) rfl rfl rfl) ?_
        refine wl_val hW rfl rfl (x_move rfl) ?_
        refine wl_val hW rfl rfl (x_add (r := 0) rfl rfl rfl) ?_
        refine wl_val hW rfl rfl (x_move rfl) ?_
        refine wl_val hW rfl rfl (x_add (r := 0) rfl rfl rfl) ?_
        refine wl_val hW rfl rfl (x_move rfl) ?_
        refine wl_val hW rfl rfl (x_add (r := 0) rfl rfl rfl) ?_
        refine wl_val hW rfl rfl (x_eqlT rfl rfl rfl) ?_
        refine wl_val hW rfl rfl (x_move rfl) ?_
        refine wl_val hW rfl rfl (x_move rfl) ?_
        refine wl_val hW rfl rfl (x_move rfl) ?_
        refine wl_call hW rfl rfl (x_call en24 rfl) ((C24 hRA hRX2).inF hFF) ?_
        rintro _ wC6 ⟨⟨b2, rfl, hb2⟩, hxC⟩
        obtain rfl : b2 = true := hb2.2 (steps_left hsa hsb hsc).symm
        replace hE := hE.trans hxC
        refine wl_val hW rfl rfl (x_pickT rfl rfl) ?_
        refine wl_val hW rfl rfl (x_move rfl) ?_
        refine wl_val hW rfl rfl (x_move rfl) ?_
        refine wl_val hW rfl rfl (x_move rfl) ?_
        refine wl_call hW rfl rfl (x_call en24 rfl) ((C24 (hRA.ext hxC) (hRY2.ext hxC)).inF hFF) ?_
        rintro _ wC7 ⟨⟨b3, rfl, hb3⟩, hxC7⟩
        obtain rfl : b3 = true := hb3.2 (steps_right hsa hsb hsc).symm
        replace hxC := hxC7
        replace hE := hE.trans hxC
        refine wl_val hW rfl rfl (x_pickT rfl rfl) ?_
        refine wl_val hW rfl rfl (x_assign rfl) ?_
        refine wl_nil ?_
        exact nx_cut (by repeat (first | exact sub_nil | refine sub_cons rfl ?_)) hE
      · rintro w' hE
        refine nx_then ?_
        refine wc_ret ?_
        exact ends_ret (res_tmp Try.results13 rfl) ⟨rfl, hE⟩
end Go.Proofs.Ytblbddamebbgaaa.K


/- Go maps of the call's own: made, read, written, gone over. -/
namespace Go.Proofs.Ytblbddamebbgaaa.K
open Go Go.RowKit
set_option linter.unusedVariables false
set_option linter.unusedSectionVars false
set_option linter.unusedSimpArgs false

/-- A type of keys: how a key is a value, and a literal. -/
structure KT (P : Program) (kt : TypeId) (κ : Type) where
  ok : κ → Prop
  v : κ → Value
  l : κ → Lit
  key : ∀ k, ok k → keyOf P kt (v k) = some (l k)
  inj : ∀ a b, l a = l b → a = b
  inv : ∀ val lit, keyOf P kt val = some lit → ∃ k, ok k ∧ val = v k ∧ lit = l k
  keyed : Go.Maps.Keyed P kt
def KStr {P : Program} {kt : TypeId} (hk : P.underlying kt = some .string) : KT P kt ByteArray where
  ok s := s.size ≤ maxLen
  v s := .string s
  l s := .string s.data.toList
  key s h := WideMaps.keyOf_string_mk hk h
  inj a b h := by cases a; cases b; simp at h; rw [h]
  inv val lit h := by
    obtain ⟨s, h1, h2, h3⟩ := WideMaps.string_of_keyOf hk h
    exact ⟨s, h3, h1, h2⟩
  keyed := Go.Maps.string_keyed hk
def RV (v : Value) : Option (DataW Value × List MemPlace) := some (.held v, [])
/-- The map in block b, of at most n entries, tells f. -/
def MapIs {P : Program} {kt : TypeId} {κ : Type} (T : KT P kt κ) (w : World) (b n : Nat) (f : κ → Option Value) : Prop :=
  ∃ D : DataW Value, w.ownsMap P kt RV b n D ∧ Go.Maps.IsMap D ∧ ∀ k, T.ok k → ∀ zd, D.atKey (T.l k) zd = match f k with
    | some v => .held v
    | none => zd
section
variable {P : Program} {kt et t : TypeId} {κ : Type} {T : KT P kt κ} {w w' : World} {b n : Nat} {f : κ → Option Value}
theorem MapIs.lt (h : MapIs T w b n f) : b < w.heap.size := by obtain ⟨D, h, -⟩ := h; exact h.lt
theorem MapIs.keep {S : Nat → Prop} (h : MapIs T w b n f) (hk : Keep S w w') (hs : S b) : MapIs T w' b n f := by
  obtain ⟨D, ⟨es, clock, hb, h1, h2, h3⟩, h4, h5⟩ := h
  exact ⟨D, ⟨es, clock, (hk.block b (Array.getElem?_eq_some_iff.1 hb).1 hs).trans hb, h1, h2, h3⟩, h4, h5⟩
theorem MapIs.ext (h : MapIs T w b n f) (hk : Ext w w') : MapIs T w' b n f := h.keep hk trivial
theorem MapIs.noCells (h : MapIs T w b n f) : ∀ o, w.heap[b]? = some o → o.isCells = false := by
  obtain ⟨D, ⟨es, clock, hb, -⟩, -⟩ := h
  intro o ho
  rw [hb] at ho; cases ho; rfl
theorem MapIs.ne (h : MapIs T w b n f) : ∀ k, (∃ o, w.heap[k]? = some o ∧ o.isCells = true) → k ≠ b := by
  rintro k ⟨o, ho, hc⟩ rfl
  rw [h.noCells o ho] at hc; cases hc
theorem mapIs_new (T : KT P kt κ) (w : World) : MapIs T (w.alloc (.map #[] 0)) w.heap.size 0 (fun _ => none) :=
  ⟨_, World.ownsMap_made w P kt RV, Go.Maps.isMap_empty, fun k _ zd => rfl⟩
theorem MapIs.look (c : Bool) (h : MapIs T w b n f) (ht : P.underlying t = some (.map kt et)) {z : Value} (hz : (zeroValue et).run P w = .ok z w) {k : κ} (hk : T.ok k) :
    (Instr.lookup t (.map (some b)) (T.v k) c).run P w = .ok (if c then .tuple #[(f k).getD z, .bool (f k).isSome] else (f k).getD z) w := by
  obtain ⟨D, ⟨es, clock, hb, F, hs, rfl⟩, -, hf⟩ := h
  have hfk := hf k hk
  rcases Go.Maps.fit_look c T.keyed ht hz hb F (T.key k hk) with ⟨hrun, -, hat⟩ | ⟨e0, y, -, -, hrun, hRv, hat, -⟩
  · have h1 := (hat .nil).symm.trans (hfk .nil)
    cases hfe : f k with
    | none => rw [hrun]; rfl
    | some v => rw [hfe] at h1; cases h1
  · have h1 := (hat .nil).symm.trans (hfk .nil)
    cases hRv
    cases hfe : f k with
    | none => rw [hfe] at h1; cases h1
    | some v => rw [hfe] at h1; cases h1; rw [hrun]; rfl
theorem MapIs.put (h : MapIs T w b n f) (ht : P.underlying t = some (.map kt et)) (hn : n < maxLen) {k : κ} (hk : T.ok k) (v : Value) [DecidableEq κ] :
    ∃ w', (Instr.mapUpdate t (.map (some b)) (T.v k) v).run P w = .ok () w' ∧ MapIs T w' b (n + 1) (fun x => if x = k then some v else f x) ∧ Keep (· ≠ b) w w' := by
  obtain ⟨D, ho, hm, hf⟩ := h
  obtain ⟨w', hr, h1, h2⟩ := ho.update T.keyed ht hn (T.key k hk) (d := .held v) (ps := []) (val := v) rfl
  refine ⟨w', hr, ⟨_, h1, hm.put _ _, fun x hx zd => ?_⟩, (Keep.grown h2).mono fun j _ hj e => by cases e; exact hj rfl⟩
  by_cases e : x = k
  · subst e
    show _ = match (if x = x then some v else f x) with
      | some v => DataW.held v
      | none => zd
    rw [if_pos rfl]
    exact Go.Maps.atKey_put_same hm (T.keyed.key (T.key x hx)) _ _
  · show _ = match (if x = k then some v else f x) with
      | some v => DataW.held v
      | none => zd
    rw [if_neg e, Go.Maps.atKey_put_other (fun h => e (T.inj _ _ h))]
    exact hf x hx zd
end
section
variable {F : Fence} {nn : Nat} {P : Program} {Q : Exit → Act → World → Prop} {m : Nat} {D : List Deferred} {L : Env} {w w' : World} {ops rest : List Oper} {d : Nat} {ty kt et t : TypeId} {pos : String} {af : Array Edge} {g : Option (Nat × Bool)} {x y z : Operand} {κ : Type} {T : KT P kt κ} {b n : Nat} {f : κ → Option Value}
theorem wl_makeMap (T : KT P kt κ) (hW : Wd F) (hg : wants L ops g = some true) (hd : Nat.blt d m = true) (k : ∀ b w', w.heap.size ≤ b → MapIs T w' b 0 (fun _ => none) → Ext w w' → WL F nn P Q m D ops rest ((d, .map (some b)) :: L) w') :
    WL F nn P Q m D ops (⟨some d, .makeMap t none, ty, pos, af, g⟩ :: rest) L w :=
  wl_val hW hg hd ⟨nofun, fun _ _ _ _ a h => by simp [execOp, run_makeMap]⟩ (k w.heap.size _ (Nat.le_refl _) (mapIs_new T w) (ext_alloc w _))
theorem x_lookup {c : Bool} {k : κ} {zv : Value} (hM : MapIs T w b n f) (ht : P.underlying t = some (.map kt et)) (hz : ∀ w, (zeroValue et).run P w = .ok zv w) (hx : ev L x = some (.map (some b))) (hy : ev L y = some (T.v k)) (hk : T.ok k) :
    Xv P m D L (.lookup t x y c) ty w (if c then .tuple #[(f k).getD zv, .bool (f k).isSome] else (f k).getD zv) w :=
  ⟨nofun, fun _ _ _ _ a h => by simp [execOp, h.ev hx, h.ev hy, hM.look c ht (hz w) hk]⟩
theorem x_lookupOk {k : κ} {zv v1 : Value} {s1 : Bool} (hM : MapIs T w b n f) (ht : P.underlying t = some (.map kt et)) (hz : ∀ w, (zeroValue et).run P w = .ok zv w) (hx : ev L x = some (.map (some b))) (hy : ev L y = some (T.v k)) (hk : T.ok k) (h1 : (f k).getD zv = v1) (h2 : (f k).isSome = s1) :
    Xv P m D L (.lookup t x y true) ty w (.tuple #[v1, .bool s1]) w := by
  have := x_lookup (m := m) (D := D) (c := true) (ty := ty) hM ht hz hx hy hk
  rw [h1, h2] at this; exact this
theorem x_lookup1 {k : κ} {zv v1 : Value} (hM : MapIs T w b n f) (ht : P.underlying t = some (.map kt et)) (hz : ∀ w, (zeroValue et).run P w = .ok zv w) (hx : ev L x = some (.map (some b))) (hy : ev L y = some (T.v k)) (hk : T.ok k) (h1 : (f k).getD zv = v1) :
    Xv P m D L (.lookup t x y false) ty w v1 w := by
  have := x_lookup (m := m) (D := D) (c := false) (ty := ty) hM ht hz hx hy hk
  rw [h1] at this; exact this
theorem wl_mapUpdate [DecidableEq κ] {k : κ} {v : Value} (hW : Wd F) (hg : wants L ops g = some true) (hM : MapIs T w b n f) (ht : P.underlying t = some (.map kt et)) (hn : n < maxLen) (hx : ev L x = some (.map (some b))) (hy : ev L y = some (T.v k)) (hz : ev L z = some v) (hk : T.ok k)
    (kk : ∀ w', MapIs T w' b (n + 1) (fun x => if x = k then some v else f x) → Keep (· ≠ b) w w' → WL F nn P Q m D ops rest L w') : WL F nn P Q m D ops (⟨none, .mapUpdate t x y z, ty, pos, af, g⟩ :: rest) L w := by
  obtain ⟨w', hr, h1, h2⟩ := hM.put ht hn hk v
  refine wl_none hW hg (w' := w') ⟨nofun, fun _ _ _ _ a h => ?_⟩ (kk w' h1 h2)
  simp [execOp, h.ev hx, h.ev hy, h.ev hz, hr, Result.andThen]
end

/-! ### going over a map -/
/-- The map in block b tells f; the iterator in block r goes over it: of the keys of 'left' it has not told yet; cnt: how many. -/
def RangeIs {P : Program} {kt : TypeId} {κ : Type} (T : KT P kt κ) (w : World) (b r n : Nat) (f : κ → Option Value) (left : κ → Bool) (cnt : Nat) : Prop :=
  ∃ (D : DataW Value) (lf : Lit → Bool), w.ranges P kt RV b r n D lf cnt ∧ Go.Maps.IsMap D ∧ (∀ k, T.ok k → ∀ zd, D.atKey (T.l k) zd = match f k with
    | some v => .held v
    | none => zd) ∧ ∀ k, T.ok k → lf (T.l k) = left k
section
variable {P : Program} {kt et t : TypeId} {κ : Type} {T : KT P kt κ} {w w' : World} {b r n cnt : Nat} {f : κ → Option Value} {left : κ → Bool}
theorem RangeIs.map (h : RangeIs T w b r n f left cnt) : MapIs T w b n f := by
  obtain ⟨D, lf, h1, h2, h3, h4⟩ := h
  exact ⟨D, h1.owns, h2, h3⟩
theorem RangeIs.keep {S : Nat → Prop} (h : RangeIs T w b r n f left cnt) (hk : Keep S w w') (hb : S b) (hr : S r) : RangeIs T w' b r n f left cnt := by
  obtain ⟨D, lf, h1, h2, h3, h4⟩ := h
  obtain ⟨es, clock, since, seen, c0, g1, g2, g3, g4, g5, g6⟩ := h1
  exact ⟨D, lf, ⟨es, clock, since, seen, c0, (hk.block b (Array.getElem?_eq_some_iff.1 g1).1 hb).trans g1, g2, g3, g4, (hk.block r (Array.getElem?_eq_some_iff.1 g5).1 hr).trans g5, g6⟩, h2, h3, h4⟩
theorem RangeIs.ner (h : RangeIs T w b r n f left cnt) : ∀ k, (∃ o, w.heap[k]? = some o ∧ o.isCells = true) → k ≠ r := by
  obtain ⟨D, lf, ⟨es, clock, since, seen, c0, g1, g2, g3, g4, g5, g6⟩, h2, h3, h4⟩ := h
  rintro k ⟨o, ho, hc⟩ rfl
  rw [g5] at ho; cases ho; cases hc
theorem RangeIs.ext (h : RangeIs T w b r n f left cnt) (hk : Ext w w') : RangeIs T w' b r n f left cnt := h.keep hk trivial trivial
theorem MapIs.range (h : MapIs T w b n f) (ht : P.underlying t = some (.map kt et)) : ∃ w' cnt, (Instr.range t (.map (some b))).run P w = .ok (.pointer (some ⟨w.heap.size, 0, none⟩)) w' ∧ RangeIs T w' b w.heap.size n f (fun k => (f k).isSome) cnt ∧ Ext w w' := by
  obtain ⟨D, ho, hm, hf⟩ := h
  obtain ⟨w', hr, h1, h2, h3⟩ := ho.range T.keyed ht
  refine ⟨w', _, hr, ⟨D, _, h1, hm, hf, fun k hk => ?_⟩, (Keep.grown h2).mono fun _ _ _ => by simp⟩
  obtain ⟨es, rfl⟩ := hm
  have h0 := hf k hk .nil
  have h9 := hf k hk (.lit (.bool true))
  rw [Go.Maps.has_eq]
  simp only [DataW.atKey] at h0 h9
  cases hfd : es.find? (fun p => p.1.sameKey (T.l k)) with
  | none =>
    rw [hfd] at h0
    have : es.any (fun p => p.1.sameKey (T.l k)) = false := by
      rw [List.find?_eq_none] at hfd
      exact List.any_eq_false.2 hfd
    rw [this]
    show false = (f k).isSome
    cases hfe : f k with
    | none => rfl
    | some v => rw [hfe] at h0; cases h0
  | some p =>
    rw [hfd] at h0 h9
    have : es.any (fun p => p.1.sameKey (T.l k)) = true := List.any_eq_true.2 ⟨p, List.mem_of_find?_eq_some hfd, (List.find?_some (p := fun p : Lit × DataW Value => p.1.sameKey (T.l k)) hfd)⟩
    rw [this]
    show true = (f k).isSome
    cases hfe : f k with
    | none => rw [hfe] at h0 h9; simp only at h0 h9; rw [h0] at h9; cases h9
    | some v => rfl
/-- One step of the iterator. -/
theorem RangeIs.next (h : RangeIs T w b r n f left cnt) (ty : TypeId) [DecidableEq κ] :
    (cnt = 0 ∧ (∀ k, T.ok k → left k = false) ∧ (Instr.next (.pointer (some ⟨r, 0, none⟩)) false ty).run P w = .ok (.tuple #[.bool false]) w) ∨
    ∃ k v w' cnt', T.ok k ∧ left k = true ∧ f k = some v ∧ (Instr.next (.pointer (some ⟨r, 0, none⟩)) false ty).run P w = .ok (.tuple #[.bool true, T.v k, v]) w' ∧ RangeIs T w' b r n f (fun x => left x && !decide (x = k)) cnt' ∧ cnt' < cnt ∧ Keep (· ≠ r) w w' ∧ (Instr.entry (.pointer (some ⟨r, 0, none⟩))).run P w' = .ok (.tuple #[T.v k, v]) w' := by
  obtain ⟨D, lf, h1, h2, h3, h4⟩ := h
  rcases h1.next T.keyed ty with ⟨g1, g2, g3⟩ | ⟨key, v, kl, y, w', cnt', g1, g2, g3, g4, g5, g6, g7, g8, g9, g10⟩
  · exact .inl ⟨g1, fun k hk => by rw [← h4 k hk]; exact g2 _, g3⟩
  · obtain ⟨k, hk, rfl, rfl⟩ := T.inv _ _ g1
    cases g3
    refine .inr ⟨k, v, w', cnt', hk, by rw [← h4 k hk]; exact g2, ?_, g5, ⟨D, _, g6, h2, h3, fun x hx => ?_⟩, g7, (Keep.grown g8).mono fun j _ hj e => by cases e; exact hj rfl, g10⟩
    · have h0 := (g4 .nil).symm.trans (h3 k hk .nil)
      cases hfe : f k with
      | none => rw [hfe] at h0; cases h0
      | some v' => rw [hfe] at h0; cases h0; rfl
    · show (lf (T.l x) && !(T.l x).sameKey (T.l k)) = _
      rw [h4 x hx]
      congr 2
      by_cases e : x = k
      · subst e; rw [decide_eq_true rfl]; exact WideAt.sameKey_self (T.keyed.key (T.key x hx))
      · rw [decide_eq_false e]; exact Go.Maps.sameKey_ne fun h => e (T.inj _ _ h)
end
section
variable {F : Fence} {nn : Nat} {P : Program} {Q : Exit → Act → World → Prop} {m : Nat} {D : List Deferred} {L : Env} {w w' : World} {ops rest : List Oper} {d : Nat} {ty kt et t : TypeId} {pos : String} {af : Array Edge} {g : Option (Nat × Bool)} {x y z : Operand} {κ : Type} {T : KT P kt κ} {b r n cnt : Nat} {f : κ → Option Value} {left : κ → Bool}
theorem wl_rangeM (hW : Wd F) (hg : wants L ops g = some true) (hd : Nat.blt d m = true) (hM : MapIs T w b n f) (ht : P.underlying t = some (.map kt et)) (hx : ev L x = some (.map (some b)))
    (k : ∀ r w' cnt, w.heap.size ≤ r → RangeIs T w' b r n f (fun k => (f k).isSome) cnt → Ext w w' → WL F nn P Q m D ops rest ((d, .pointer (some ⟨r, 0, none⟩)) :: L) w') : WL F nn P Q m D ops (⟨some d, .range t x, ty, pos, af, g⟩ :: rest) L w := by
  obtain ⟨w', cnt, hr, h1, h2⟩ := hM.range ht
  exact wl_val hW hg hd ⟨nofun, fun _ _ _ _ a h => by simp [execOp, h.ev hx, hr]⟩ (k w.heap.size w' cnt (Nat.le_refl _) h1 h2)
theorem wl_nextM [DecidableEq κ] (hW : Wd F) (hg : wants L ops g = some true) (hd : Nat.blt d m = true) (hR : RangeIs T w b r n f left cnt) (hx : ev L x = some (.pointer (some ⟨r, 0, none⟩)))
    (k0 : cnt = 0 → (∀ k, T.ok k → left k = false) → WL F nn P Q m D ops rest ((d, .tuple #[.bool false]) :: L) w)
    (k1 : ∀ k v w' cnt', T.ok k → left k = true → f k = some v → RangeIs T w' b r n f (fun x => left x && !decide (x = k)) cnt' → cnt' < cnt → Keep (· ≠ r) w w' → (Instr.entry (.pointer (some ⟨r, 0, none⟩))).run P w' = .ok (.tuple #[T.v k, v]) w' → WL F nn P Q m D ops rest ((d, .tuple #[.bool true, T.v k, v]) :: L) w') :
    WL F nn P Q m D ops (⟨some d, .next x false, ty, pos, af, g⟩ :: rest) L w := by
  rcases hR.next ty with ⟨h1, h2, h3⟩ | ⟨k, v, w', cnt', h1, h2, h3, h4, h5, h6, h7, h8⟩
  · exact wl_val hW hg hd ⟨nofun, fun _ _ _ _ a h => by simp [execOp, h.ev hx, h3]⟩ (k0 h1 h2)
  · exact wl_val hW hg hd ⟨nofun, fun _ _ _ _ a h => by simp [execOp, h.ev hx, h4]⟩ (k1 k v w' cnt' h1 h2 h3 h5 h6 h7 h8)
theorem x_entry {k v : Value} (hx : ev L x = some (.pointer (some ⟨r, 0, none⟩))) (he : (Instr.entry (.pointer (some ⟨r, 0, none⟩))).run P w = .ok (.tuple #[k, v]) w) : Xv P m D L (.entry x) ty w (.tuple #[k, v]) w :=
  ⟨nofun, fun _ _ _ _ a h => by simp [execOp, h.ev hx, he]⟩
end

/-! ### maps from strings to entries -/
noncomputable def TS : KT Try.prog 9 ByteArray := KStr Try.underlying9
/-- What the map's values are: the entries that g tells. -/
def MEnt (w : World) (f : ByteArray → Option Value) (g : ByteArray → Option Ent) : Prop := ∀ k, match g k with
  | some e => ∃ bv, f k = some (.agg (cellsOf e bv).toArray) ∧ Byts (fun _ => True) w bv e.v
  | none => f k = none
def zAgg : Value := .agg (cellsOf z0 (.slice none 0 0)).toArray
theorem MEnt.ext {w w' : World} {f : ByteArray → Option Value} {g : ByteArray → Option Ent} (h : MEnt w f g) (hx : Ext w w') : MEnt w' f g := fun k => by
  have := h k
  cases hg : g k with
  | none => rw [hg] at this; exact this
  | some e =>
    rw [hg] at this
    obtain ⟨bv, h1, h2⟩ := this
    exact ⟨bv, h1, h2.ext hx⟩
theorem MEnt.keep {S : Nat → Prop} {w w' : World} {f : ByteArray → Option Value} {g : ByteArray → Option Ent} (h : MEnt w f g) (hx : Keep S w w') (hc : ∀ k, (∃ o, w.heap[k]? = some o ∧ o.isCells = true) → S k) : MEnt w' f g := fun k => by
  have := h k
  cases hg : g k with
  | none => rw [hg] at this; exact this
  | some e =>
    rw [hg] at this
    obtain ⟨bv, h1, h2⟩ := this
    refine ⟨bv, h1, h2.ck fun ad v _ hcell => hx.cell hcell (hc _ ?_)⟩
    unfold World.cell? at hcell
    split at hcell
    · rename_i c t fr ho; exact ⟨_, ho, rfl⟩
    · cases hcell
theorem MEnt.look {w : World} {f : ByteArray → Option Value} {g : ByteArray → Option Ent} (h : MEnt w f g) (k : ByteArray) : ∃ (ye : Ent) (ya : Option Addr) (yc : Nat), (f k).getD zAgg = .agg (cellsOf ye (.slice ya ye.v.length yc)).toArray ∧ Byts (fun _ => True) w (.slice ya ye.v.length yc) ye.v ∧ (f k).isSome = (g k).isSome ∧ ∀ e, g k = some e → ye = e := by
  have := h k
  cases hg : g k with
  | none =>
    rw [hg] at this
    have hf : f k = none := this
    exact ⟨z0, none, 0, by rw [hf]; rfl, byts_nil _ _, by rw [hf]; rfl, fun e h => by cases h⟩
  | some e =>
    rw [hg] at this
    obtain ⟨bv, h1, h2⟩ := this
    obtain ⟨a, c, rfl, -⟩ := h2.form
    exact ⟨e, a, c, by rw [h1]; rfl, h2, by rw [h1]; rfl, fun e' h' => by cases h'; rfl⟩
end Go.Proofs.Ytblbddamebbgaaa.K

/- The plain law of MergeMaps: what is seen of merged lists is what a map tells. -/
namespace Go.Proofs.Ytblbddamebbgaaa.K
open Go Go.RowKit
set_option linter.unusedVariables false
set_option linter.unusedSectionVars false
set_option linter.unusedSimpArgs false

/-- The newest of a key up to a number, in a sorted list. -/
def top (up : Int) (m : List Ent) (k : ByteArray) : Option Ent := m.find? fun e => decide (e.k = k) && decide (e.s ≤ up)
theorem top_some {up : Int} {m : List Ent} {k : ByteArray} {e : Ent} (hs : Sorted m) : top up m k = some e ↔ e ∈ m ∧ e.k = k ∧ e.s ≤ up ∧ ∀ x ∈ m, x.k = k → x.s ≤ up → x.s ≤ e.s := by
  induction m with
  | nil => simp [top]
  | cons y m ih =>
    obtain ⟨h1, h2⟩ := List.pairwise_cons.1 hs
    have ih := ih h2
    unfold top at ih ⊢
    rw [List.find?_cons]
    by_cases hy : y.k = k ∧ y.s ≤ up
    · rw [show (decide (y.k = k) && decide (y.s ≤ up)) = true from by simp [hy]]
      constructor
      · intro h
        cases h
        refine ⟨by simp, hy.1, hy.2, fun x hx hxk hxs => ?_⟩
        rcases List.mem_cons.1 hx with rfl | hx
        · exact Int.le_refl _
        · rcases h1 x hx with h | ⟨-, h⟩
          · rw [hy.1, hxk, bl_irrefl] at h; cases h
          · omega
      · rintro ⟨he, hek, hes, hmax⟩
        have h3 := hmax y (by simp) hy.1 hy.2
        rcases List.mem_cons.1 he with rfl | he
        · rfl
        · rcases h1 e he with h | ⟨-, h⟩
          · rw [hy.1, hek, bl_irrefl] at h; cases h
          · omega
    · rw [show (decide (y.k = k) && decide (y.s ≤ up)) = false from by
        rw [Bool.and_eq_false_iff, decide_eq_false_iff_not, decide_eq_false_iff_not]
        by_cases h : y.k = k
        · exact .inr fun h' => hy ⟨h, h'⟩
        · exact .inl h]
      simp only
      rw [ih]
      constructor
      · rintro ⟨he, hek, hes, hmax⟩
        refine ⟨by simp [he], hek, hes, fun x hx hxk hxs => ?_⟩
        rcases List.mem_cons.1 hx with rfl | hx
        · exact absurd ⟨hxk, hxs⟩ hy
        · exact hmax x hx hxk hxs
      · rintro ⟨he, hek, hes, hmax⟩
        rcases List.mem_cons.1 he with rfl | he
        · exact absurd ⟨hek, hes⟩ hy
        · exact ⟨he, hek, hes, fun x hx => hmax x (by simp [hx])⟩
theorem top_none {up : Int} {m : List Ent} {k : ByteArray} : top up m k = none ↔ ∀ x ∈ m, x.k = k → ¬ x.s ≤ up := by
  unfold top
  rw [List.find?_eq_none]
  constructor
  · intro h x hx hk hs
    exact h x hx (by simp [hk, hs])
  · intro h x hx hc
    simp only [Bool.and_eq_true, decide_eq_true_eq] at hc
    exact h x hx hc.1 hc.2
/-- Of two the newer; of the same the first. -/
def newer (a b : Option Ent) : Option Ent := match a, b with
  | none, b => b
  | a, none => a
  | some x, some y => if x.s < y.s then some y else some x
theorem top_two {up : Int} {a b : List Ent} {k : ByteArray} (n : Nat) (hn : a.length + b.length ≤ n) (ha : Sorted a) (hb : Sorted b) : top up (twoF n a b) k = newer (top up a k) (top up b k) := by
  obtain ⟨h1, h2⟩ := two_law n a b hn ha hb
  cases hta : top up a k with
  | none =>
    have hna := top_none.1 hta
    cases htb : top up b k with
    | none =>
      have hnb := top_none.1 htb
      exact top_none.2 fun x hx => by
        rcases (h2 x).1 hx with h | ⟨h, -⟩
        · exact hna x h
        · exact hnb x h
    | some y =>
      obtain ⟨y1, y2, y3, y4⟩ := (top_some hb).1 htb
      refine (top_some h1).2 ⟨(h2 y).2 (.inr ⟨y1, fun x hx hxy => hna x hx (hxy.1.trans y2) (by rw [hxy.2]; exact y3)⟩), y2, y3, fun x hx hxk hxs => ?_⟩
      rcases (h2 x).1 hx with h | ⟨h, -⟩
      · exact absurd hxs (hna x h hxk)
      · exact y4 x h hxk hxs
  | some x =>
    obtain ⟨x1, x2, x3, x4⟩ := (top_some ha).1 hta
    cases htb : top up b k with
    | none =>
      have hnb := top_none.1 htb
      refine (top_some h1).2 ⟨(h2 x).2 (.inl x1), x2, x3, fun z hz hzk hzs => ?_⟩
      rcases (h2 z).1 hz with h | ⟨h, -⟩
      · exact x4 z h hzk hzs
      · exact absurd hzs (hnb z h hzk)
    | some y =>
      obtain ⟨y1, y2, y3, y4⟩ := (top_some hb).1 htb
      show _ = if x.s < y.s then some y else some x
      split
      · rename_i hlt
        refine (top_some h1).2 ⟨(h2 y).2 (.inr ⟨y1, fun z hz hzy => ?_⟩), y2, y3, fun z hz hzk hzs => ?_⟩
        · have := x4 z hz (hzy.1.trans y2) (by rw [hzy.2]; exact y3)
          have := hzy.2
          omega
        · rcases (h2 z).1 hz with h | ⟨h, -⟩
          · have := x4 z h hzk hzs; omega
          · exact y4 z h hzk hzs
      · refine (top_some h1).2 ⟨(h2 x).2 (.inl x1), x2, x3, fun z hz hzk hzs => ?_⟩
        rcases (h2 z).1 hz with h | ⟨h, -⟩
        · exact x4 z h hzk hzs
        · have := y4 z h hzk hzs; omega
/-- Is x taken into the map? -/
def takeM (up : Int) (g : ByteArray → Option Ent) (x : Ent) : Bool := decide (x.s ≤ up) && (match g x.k with
  | none => true
  | some y => decide (y.s < x.s))
def putM (up : Int) (g : ByteArray → Option Ent) (x : Ent) : ByteArray → Option Ent := if takeM up g x then fun k => if k = x.k then some x else g k else g
def bestF (up : Int) : (ByteArray → Option Ent) → List Ent → ByteArray → Option Ent
  | g, [] => g
  | g, x :: l => bestF up (putM up g x) l
theorem putM_other {up : Int} {g : ByteArray → Option Ent} {x : Ent} {k : ByteArray} (h : k ≠ x.k) : putM up g x k = g k := by
  unfold putM; split
  · exact if_neg h
  · rfl
theorem newer_none (a : Option Ent) : newer a none = a := by cases a <;> rfl
theorem putM_same {up : Int} {g : ByteArray → Option Ent} {x : Ent} : putM up g x x.k = newer (g x.k) (if x.s ≤ up then some x else none) := by
  unfold putM takeM
  cases hg : g x.k with
  | none =>
    by_cases h : x.s ≤ up
    · simp [h, newer]
    · simp [h, newer, hg]
  | some y =>
    by_cases h : x.s ≤ up
    · by_cases h2 : y.s < x.s
      · simp [h, h2, newer]
      · simp [h, h2, newer, hg]
    · simp [h, newer, hg]
theorem bestF_top {up : Int} : ∀ (l : List Ent) (g : ByteArray → Option Ent) (k : ByteArray), Sorted l → bestF up g l k = newer (g k) (top up l k)
  | [], g, k, _ => by
    show g k = newer (g k) none
    cases g k <;> rfl
  | x :: l, g, k, hs => by
    obtain ⟨h1, h2⟩ := List.pairwise_cons.1 hs
    show bestF up (putM up g x) l k = _
    rw [bestF_top l _ k h2]
    have htop : top up (x :: l) k = if x.k = k ∧ x.s ≤ up then some x else top up l k := by
      unfold top
      rw [List.find?_cons]
      by_cases hy : x.k = k ∧ x.s ≤ up
      · rw [if_pos hy, show (decide (x.k = k) && decide (x.s ≤ up)) = true from by simp [hy]]
      · rw [if_neg hy, show (decide (x.k = k) && decide (x.s ≤ up)) = false from by
          rw [Bool.and_eq_false_iff, decide_eq_false_iff_not, decide_eq_false_iff_not]
          by_cases h : x.k = k
          · exact .inr fun h' => hy ⟨h, h'⟩
          · exact .inl h]
    rw [htop]
    by_cases hk : x.k = k
    · subst hk
      rw [putM_same]
      by_cases hs' : x.s ≤ up
      · rw [if_pos hs', if_pos ⟨rfl, hs'⟩]
        have hle : ∀ y, top up l x.k = some y → y.s < x.s := fun y hy => by
          obtain ⟨y1, y2, -⟩ := (top_some h2).1 hy
          rcases h1 y y1 with h | ⟨-, h⟩
          · rw [y2, bl_irrefl] at h; cases h
          · exact h
        cases ht : top up l x.k with
        | none => rw [newer_none]
        | some y =>
          have := hle y ht
          cases hg : g x.k with
          | none => simp [newer]; omega
          | some z =>
            simp only [newer]
            by_cases h3 : z.s < x.s
            · rw [if_pos h3]; simp only; rw [if_neg (by omega)]
            · rw [if_neg h3]; simp only; rw [if_neg (by omega)]
      · rw [if_neg hs', if_neg (fun h => hs' h.2)]
        cases g x.k <;> rfl
    · rw [putM_other (fun h => hk h.symm), if_neg (fun h => hk h.1)]
theorem bestF_append (up : Int) : ∀ (l m : List Ent) (g : ByteArray → Option Ent), bestF up g (l ++ m) = bestF up (bestF up g l) m
  | [], m, g => rfl
  | x :: l, m, g => by show bestF up (putM up g x) (l ++ m) = _; rw [bestF_append up l m]; rfl
theorem newer_assoc_top {up : Int} (ls : List (List Ent)) : ∀ (acc : List Ent) (g : ByteArray → Option Ent) (k : ByteArray), Sorted acc → (∀ l ∈ ls, Sorted l) → (∀ k, g k = top up acc k) → bestF up g ls.flatten k = top up (foldTwo acc ls) k := by
  induction ls with
  | nil => intro acc g k _ _ hg; exact hg k
  | cons l ls ih =>
    intro acc g k ha hs hg
    have hl := hs l (by simp)
    rw [List.flatten_cons, bestF_append]
    refine ih _ _ k (two_law _ acc l (Nat.le_refl _) ha hl).1 (fun l' hl' => hs l' (by simp [hl'])) fun k' => ?_
    rw [bestF_top l g k' hl, hg k', top_two _ (Nat.le_refl _) ha hl]
theorem best_merge {up : Int} {ls : List (List Ent)} (hs : ∀ l ∈ ls, Sorted l) (k : ByteArray) : bestF up (fun _ => none) ls.flatten k = top up (mrg ls) k :=
  newer_assoc_top ls [] _ k List.Pairwise.nil hs fun _ => rfl

/-! ### what is seen -/
theorem seenG_mem_iff {up : Int} : ∀ {g : List Ent}, Fall g → ∀ e, e ∈ seenG up g ↔ e ∈ g ∧ e.s ≤ up ∧ e.g = false ∧ ∀ x ∈ g, x.s ≤ up → x.s ≤ e.s
  | [], _, e => by simp [seenG]
  | y :: g, hf, e => by
    obtain ⟨h1, h2⟩ := List.pairwise_cons.1 hf
    by_cases hy : y.s ≤ up
    · rw [seenG_cons_hit hy]
      constructor
      · intro h
        have hyg : y.g = false := by
          cases hg : y.g with
          | false => rfl
          | true => rw [hg] at h; simp at h
        rw [hyg] at h
        simp at h
        subst h
        refine ⟨by simp, hy, hyg, fun x hx hxs => ?_⟩
        rcases List.mem_cons.1 hx with rfl | hx
        · exact Int.le_refl _
        · have := h1 x hx; omega
      · rintro ⟨he, hes, heg, hmax⟩
        have h3 := hmax y (by simp) hy
        rcases List.mem_cons.1 he with rfl | he
        · rw [heg]; simp
        · have := h1 e he; omega
    · rw [seenG_cons_miss hy, seenG_mem_iff h2 e]
      constructor
      · rintro ⟨he, hes, heg, hmax⟩
        refine ⟨by simp [he], hes, heg, fun x hx hxs => ?_⟩
        rcases List.mem_cons.1 hx with rfl | hx
        · exact absurd hxs hy
        · exact hmax x hx hxs
      · rintro ⟨he, hes, heg, hmax⟩
        rcases List.mem_cons.1 he with rfl | he
        · exact absurd hes hy
        · exact ⟨he, hes, heg, fun x hx => hmax x (by simp [hx])⟩
theorem rSeen_mem {up : Int} : ∀ (n : Nat) (m : List Ent), m.length ≤ n → Sorted m → ∀ e, e ∈ rSeen up none false m ↔ top up m e.k = some e ∧ e.g = false
  | _, [], _, _, e => by simp [rSeen, top]
  | 0, y :: m, h, _, _ => by simp at h
  | n + 1, y :: m, h, hs, e => by
    obtain ⟨g, r, he, hg, hgk, hrk, hf, hsr⟩ := sorted_split hs
    have hl : r.length ≤ n := by
      have h1 := congrArg List.length he
      have h2 : 0 < g.length := List.length_pos_iff.2 hg
      simp only [List.length_cons, List.length_append] at h1 h
      omega
    have ih := rSeen_mem (up := up) n r hl hsr e
    rw [he] at hs
    rw [he, rSeen_join up hgk (fun x hx => hrk x (head_mem hx)), List.mem_append, seenG_mem_iff hf, ih, top_some hs, top_some hsr]
    constructor
    · rintro (⟨h1, h2, h3, h4⟩ | ⟨⟨h1, h2, h3, h4⟩, h5⟩)
      · refine ⟨⟨List.mem_append_left _ h1, rfl, h2, fun x hx hxk hxs => ?_⟩, h3⟩
        rcases List.mem_append.1 hx with hx | hx
        · exact h4 x hx hxs
        · exact absurd (hxk.trans (hgk e h1)) (hrk x hx)
      · refine ⟨⟨List.mem_append_right _ h1, rfl, h3, fun x hx hxk hxs => ?_⟩, h5⟩
        rcases List.mem_append.1 hx with hx | hx
        · exact absurd (hxk.symm.trans (hgk x hx)) (hrk e h1)
        · exact h4 x hx hxk hxs
    · rintro ⟨⟨h1, -, h3, h4⟩, h5⟩
      rcases List.mem_append.1 h1 with h1 | h1
      · exact .inl ⟨h1, h3, h5, fun x hx hxs => h4 x (List.mem_append_left _ hx) ((hgk x hx).trans (hgk e h1).symm) hxs⟩
      · exact .inr ⟨⟨h1, rfl, h3, fun x hx => h4 x (List.mem_append_right _ hx)⟩, h5⟩
theorem rSeen_sub (up : Int) : ∀ (pk : Option ByteArray) (d : Bool) (es : List Ent), (rSeen up pk d es).Sublist es
  | _, _, [] => by simp [rSeen]
  | pk, d, e :: es => by
    simp only [rSeen]
    split
    · exact (rSeen_sub up _ _ es).cons e
    · split
      · exact (rSeen_sub up _ _ es).cons e
      · exact (rSeen_sub up _ _ es).cons_cons e
theorem seen_keys {up : Int} {m : List Ent} (hs : Sorted m) : (seenL up m).Pairwise fun a b => bl a.k.toList b.k.toList = true := by
  rw [← rSeen_is]
  refine List.Pairwise.imp_of_mem (fun {a b} ha hb h => ?_) (List.Pairwise.sublist (rSeen_sub up none false m) hs)
  rcases h with h | ⟨h, h'⟩
  · exact h
  · have h1 := (top_some hs).1 ((rSeen_mem _ m (Nat.le_refl _) hs a).1 ha).1
    have h2 := (top_some hs).1 ((rSeen_mem _ m (Nat.le_refl _) hs b).1 hb).1
    have := h2.2.2.2 a h1.1 h h1.2.2.1
    omega
theorem seen_mem {up : Int} {m : List Ent} (hs : Sorted m) (e : Ent) : e ∈ seenL up m ↔ top up m e.k = some e ∧ e.g = false := by
  rw [← rSeen_is]; exact rSeen_mem _ m (Nat.le_refl _) hs e
/-- How many of the seen are still to come, as a map goes. -/
theorem count_step {s : List Ent} (hk : s.Pairwise fun a b => bl a.k.toList b.k.toList = true) (left : ByteArray → Bool) (k : ByteArray) (hl : left k = true) (e : Ent) (he : e ∈ s) (hek : e.k = k) : (s.filter fun x => left x.k).length = (s.filter fun x => left x.k && !decide (x.k = k)).length + 1 := by
  induction s with
  | nil => simp at he
  | cons y s ih =>
    obtain ⟨h1, h2⟩ := List.pairwise_cons.1 hk
    rcases List.mem_cons.1 he with rfl | he
    · have hno : s.filter (fun x => left x.k && !decide (x.k = k)) = s.filter fun x => left x.k := by
        refine List.filter_congr fun x hx => ?_
        have : x.k ≠ k := fun h => by
          have := h1 x hx
          rw [hek, h, bl_irrefl] at this; cases this
        simp [this]
      rw [List.filter_cons, List.filter_cons, hno]
      simp [hek, hl]
    · have hyk : y.k ≠ k := fun h => by
        have := h1 e he
        rw [hek, h, bl_irrefl] at this; cases this
      have := ih h2 he
      rw [List.filter_cons, List.filter_cons]
      simp only [hyk, decide_false, Bool.not_false, Bool.and_true]
      split
      · simp only [List.length_cons]; omega
      · exact this
theorem count_still {s : List Ent} (left : ByteArray → Bool) (k : ByteArray) (hno : ∀ x ∈ s, x.k ≠ k) : (s.filter fun x => left x.k && !decide (x.k = k)) = s.filter fun x => left x.k :=
  List.filter_congr fun x hx => by simp [hno x hx]
end Go.Proofs.Ytblbddamebbgaaa.K

/- Walk: the law MergeMaps. -/
namespace Go.Proofs.Ytblbddamebbgaaa.K
open Go Go.RowKit
set_option linter.unusedVariables false
set_option linter.unusedSimpArgs false

theorem ok_key {e : Ent} (h : EntOk e) : TS.ok e.k := by
  show e.k.size ≤ maxLen
  have := h.k; unfold maxLen; omega
theorem ment_put {w : World} {f : ByteArray → Option Value} {g : ByteArray → Option Ent} {up : Int} {x : Ent} {bv : Value} (h : MEnt w f g) (ht : takeM up g x = true) (hb : Byts (fun _ => True) w bv x.v) : MEnt w (fun z => if z = x.k then some (.agg (cellsOf x bv).toArray) else f z) (putM up g x) := fun k => by
  unfold putM
  rw [ht, if_pos rfl]
  by_cases e : k = x.k
  · simp only [if_pos e]; exact ⟨bv, rfl, hb⟩
  · simp only [if_neg e]; exact h k
theorem putM_still {g : ByteArray → Option Ent} {up : Int} {x : Ent} (ht : takeM up g x = false) : putM up g x = g := by unfold putM; rw [ht]; rfl
theorem C12 {w : World} {v : Value} {ls : List (List Ent)} {up : Int} (hL : LRow (fun k => k < w.heap.size) w v ls) : Rt Try.prog 12 [v, .int .u64 up] w fun r w' => r = .bool true ∧ Ext w w' := by
  obtain ⟨ad, cap, rfl, hcap, hlen⟩ := hL.form
  have hW := hWw
  have hFF := hFw
  have hE : Ext w w := Keep.refl _ _
  refine rt_body Try.func12 rfl Try.ntmps12 rfl ?_
  refine wc_seq ?_
  refine wc_region ?_
  refine wl_val hW rfl rfl (x_assign rfl) ?_
  refine wl_nil ?_
  refine nx_then ?_
  refine wc_seq ?_
  refine wc_seq ?_
  refine wc_region ?_
  refine wl_call hW rfl rfl (x_call en16 rfl) (C16.inF hFF) ?_
  rintro _ wC ⟨rfl, hxC⟩
  replace hE := hE.trans hxC
  refine wl_val hW rfl rfl (x_not rfl) ?_
  refine wl_nil ?_
  refine nx_then ?_
  refine wc_false rfl ?_
  refine wc_skip ?_
  refine nx_then ?_
  refine wc_seq ?_
  refine wc_seq ?_
  refine wc_region ?_
  refine wl_val hW rfl rfl (x_move rfl) ?_
  refine wl_call hW rfl rfl (x_call en45 rfl) ((C45 (hL.ext hE)).inF hFF) ?_
  rintro _ wC ⟨⟨bb, rfl, hfew⟩, hxC⟩
  replace hE := hE.trans hxC
  refine wl_val hW rfl rfl (x_not rfl) ?_
  refine wl_nil ?_
  refine nx_then ?_
  refine wc_bool rfl (fun hc => ?_) (fun hc => ?_)
  · refine wc_seq ?_
    refine wc_region ?_
    refine wl_val hW rfl rfl (x_assign rfl) ?_
    refine wl_nil ?_
    refine nx_then ?_
    refine wc_ret ?_
    refine nx_then_ret ?_
    exact ends_ret (res_tmp Try.results12 rfl) ⟨rfl, hE⟩
  · have htot : tot ls ≤ 3000 := hfew (by simpa using hc)
    clear hfew
    refine wc_skip ?_
    refine nx_then ?_
    refine wc_seq ?_
    refine wc_region ?_
    refine wl_val hW rfl rfl (x_move rfl) ?_
    refine wl_call hW rfl rfl (x_call en46 rfl) ((C46 ((hL.ext hE).mono (fun k h _ => h)) (by omega)).inF hFF) ?_
    rintro _ wS ⟨⟨rv1, rfl, hR1⟩, hxC⟩
    replace hE := hE.trans hxC
    refine wl_val hW rfl rfl (x_move rfl) ?_
    refine wl_val hW rfl rfl (x_extract rfl rfl) ?_
    refine wl_val hW rfl rfl (x_extract rfl rfl) ?_
    refine wl_val hW rfl rfl (x_assign rfl) ?_
    refine wl_val hW rfl rfl (x_assign rfl) ?_
    refine wl_nil ?_
    refine nx_then ?_
    refine wc_seq ?_
    refine wc_seq ?_
    refine wc_region ?_
    refine wl_val hW rfl rfl (x_move rfl) ?_
    refine wl_val hW rfl rfl (x_neq rfl rfl) ?_
    refine wl_nil ?_
    refine nx_then ?_
    refine wc_dec rfl (fun hc => ?_) (fun hc => ?_)
    · refine wc_seq ?_
      refine wc_region ?_
      refine wl_val hW rfl rfl (x_assign rfl) ?_
      refine wl_nil ?_
      refine nx_then ?_
      refine wc_ret ?_
      refine nx_then_ret ?_
      exact ends_ret (res_tmp Try.results12 rfl) ⟨rfl, hE⟩
    · have hal : ls.all rightB = true := by cases h : ls.all rightB; rw [h] at hc; exact absurd (by decide) hc; rfl
      rw [if_pos hal] at hR1
      replace hR1 : Row _ _ rv1 (mrg ls) := hR1
      have hsrt := mrg_sorted (all_sorted hal)
      have hmr := mrg_right hal
      have hml : (mrg ls).length ≤ 3000 := by have := foldTwo_len ls []; simp only [List.length_nil] at this; unfold mrg; omega
      refine wc_skip ?_
      refine nx_then ?_
      refine wc_seq ?_
      refine wc_region ?_
      refine wl_val hW rfl rfl (x_move rfl) ?_
      refine wl_val hW rfl rfl (x_move rfl) ?_
      refine wl_call hW rfl rfl (x_call en22 rfl) ((C22 (hR1.mono (fun k h _ => h)) (by omega)).inF hFF) ?_
      rintro _ wT ⟨⟨sv, hrs, hRs⟩, hxC⟩
      rw [hmr, if_pos rfl] at hrs hRs
      subst hrs
      have hsl := seenL_le up (mrg ls)
      replace hE := hE.trans hxC
      obtain ⟨sa, sc, rfl, -⟩ := hRs.form
      refine wl_val hW rfl rfl (x_move rfl) ?_
      refine wl_val hW rfl rfl (x_extract rfl rfl) ?_
      refine wl_val hW rfl rfl (x_extract rfl rfl) ?_
      refine wl_val hW rfl rfl (x_assign rfl) ?_
      refine wl_val hW rfl rfl (x_assign rfl) ?_
      refine wl_nil ?_
      refine nx_then ?_
      refine wc_seq ?_
      refine wc_seq ?_
      refine wc_region ?_
      refine wl_val hW rfl rfl (x_move rfl) ?_
      refine wl_val hW rfl rfl (x_neqF rfl rfl rfl) ?_
      refine wl_nil ?_
      refine nx_then ?_
      refine wc_false rfl ?_
      refine wc_skip ?_
      refine nx_then ?_
      refine wc_seq ?_
      refine wc_region ?_
      refine wl_makeMap TS hW rfl rfl ?_
      intro m39 w39 hl39 hM39 hx39
      have hgm : w.heap.size ≤ m39 := Nat.le_trans hE.size hl39
      replace hE := hE.trans hx39
      replace hRs : Row (fun k => k < m39) w39 (.slice sa (seenL up (mrg ls)).length sc) (seenL up (mrg ls)) := (hRs.mono (fun k hk _ => Nat.lt_of_lt_of_le hk hl39)).ext hx39
      refine wl_val hW rfl rfl (x_assign rfl) ?_
      refine wl_nil ?_
      refine nx_then ?_
      refine wc_seq ?_
      refine wc_seq ?_
      refine wc_region ?_
      refine wl_val hW rfl rfl (x_assign rfl) ?_
      refine wl_nil ?_
      refine nx_then ?_
      refine wc_block ?_
      refine wc_loop (σ := Nat) (fun i => [(0, .slice ad ls.length cap), (1, .int .u64 up), (7, .slice sa (seenL up (mrg ls)).length sc), (8, .map (some m39)), (9, .int .i64 i)]) (fun i w' => i ≤ ls.length ∧ (∃ f n, MapIs TS w' m39 n f ∧ n ≤ tot (ls.take i) ∧ MEnt w' f (bestF up (fun _ => none) (ls.take i).flatten)) ∧ Row (fun k => k < m39) w' (.slice sa (seenL up (mrg ls)).length sc) (seenL up (mrg ls)) ∧ Ext w w') (fun i => ls.length - i) 0 ?_ ?_ ?_
      · exact ⟨Nat.zero_le _, ⟨_, 0, hM39, Nat.zero_le _, fun k => rfl⟩, hRs, hE⟩
      · repeat (first | exact sub_nil | refine sub_cons rfl ?_)
      · rintro i wr ⟨hil, ⟨f, nm, hM, hnm, hME⟩, hRs, hE⟩
        refine wc_seq ?_
        refine wc_seq ?_
        refine wc_region ?_
        refine wl_val hW rfl rfl (x_move rfl) ?_
        refine wl_val hW rfl rfl (x_move rfl) ?_
        refine wl_val hW rfl rfl (x_len Try.underlying65 rfl) ?_
        refine wl_val hW rfl rfl (x_lss rfl rfl) ?_
        refine wl_nil ?_
        refine nx_then ?_
        refine wc_dec rfl (fun hc => ?_) (fun hc => ?_)
        · replace hc : ((i : Nat) : Int) < ls.length := hc
          have hlt : i < ls.length := by omega
          have htd := tot_take_drop ls i
          have htd2 := tot_take_drop ls (i + 1)
          have htd3 := tot_drop hlt
          refine wc_skip ?_
          refine nx_then ?_
          refine wc_seq ?_
          refine wc_block ?_
          refine wc_seq ?_
          refine wc_region ?_
          refine wl_val hW rfl rfl (x_assign rfl) ?_
          refine wl_nil ?_
          refine nx_then ?_
          refine wc_block ?_
          refine wc_loop (σ := Nat) (fun q => [(0, .slice ad ls.length cap), (1, .int .u64 up), (7, .slice sa (seenL up (mrg ls)).length sc), (8, .map (some m39)), (9, .int .i64 i), (10, .int .i64 q)]) (fun q w' => q ≤ ls[i].length ∧ (∃ f n, MapIs TS w' m39 n f ∧ n ≤ tot (ls.take i) + q ∧ MEnt w' f (bestF up (fun _ => none) ((ls.take i).flatten ++ ls[i].take q))) ∧ Row (fun k => k < m39) w' (.slice sa (seenL up (mrg ls)).length sc) (seenL up (mrg ls)) ∧ Ext w w') (fun q => ls[i].length - q) 0 ?_ ?_ ?_
          · exact ⟨Nat.zero_le _, ⟨f, nm, hM, by omega, by rw [List.take_zero, List.append_nil]; exact hME⟩, hRs, hE⟩
          · repeat (first | exact sub_nil | refine sub_cons rfl ?_)
          · rintro q wr2 ⟨hql, ⟨f, nm, hM, hnm, hME⟩, hRs, hE⟩
            refine wc_seq ?_
            refine wc_seq ?_
            refine wc_region ?_
            refine wl_val hW rfl rfl (x_move rfl) ?_
            refine wl_val hW rfl rfl (x_move rfl) ?_
            refine wl_val hW rfl rfl (x_move rfl) ?_
            obtain ⟨bL, oL, cL, rvL, eL, hAL, hC49, hRl⟩ := (hL.ext hE).at i hlt
            injection eL with eL1 eL2 eL3
            obtain ⟨la, lc, rfl, hlc, hll⟩ := hRl.form
            refine wl_val hW rfl rfl (x_indexAddr Try.underlying65 fl26.siz (congrArg (fun a => some (Value.slice a ls.length cap)) eL1) rfl (by omega) (by omega)) ?_
            refine wl_val hW rfl rfl (x_load fl26 rfl (hC49 0 _ rfl)) ?_
            refine wl_val hW rfl rfl (x_len Try.underlying26 rfl) ?_
            refine wl_val hW rfl rfl (x_lss rfl rfl) ?_
            refine wl_nil ?_
            refine nx_then ?_
            refine wc_dec rfl (fun hc => ?_) (fun hc => ?_)
            · replace hc : ((q : Nat) : Int) < ls[i].length := hc
              have hqlt : q < ls[i].length := by omega
              refine wc_skip ?_
              refine nx_then ?_
              refine wc_seq ?_
              refine wc_block ?_
              refine wc_seq ?_
              refine wc_region ?_
              refine wl_val hW rfl rfl (x_move rfl) ?_
              refine wl_val hW rfl rfl (x_move rfl) ?_
              refine wl_val hW rfl rfl (x_indexAddr Try.underlying65 fl26.siz (congrArg (fun a => some (Value.slice a ls.length cap)) eL1) rfl (by omega) (by omega)) ?_
              refine wl_val hW rfl rfl (x_load fl26 rfl (hC49 0 _ rfl)) ?_
              obtain ⟨bx, ox, cx, bvx, ex, hAx, hC60, hbx, hokx⟩ := hRl.at q hqlt
              injection ex with ex1
              subst ex1
              obtain ⟨av, cv, hbv, hcv⟩ := hbx.form
              subst hbv
              have hEx : Ext wr2 wr2 := Keep.refl _ _
              refine wl_val hW rfl rfl (x_move rfl) ?_
              refine wl_val hW rfl rfl (x_indexAddr Try.underlying26 ag25.siz rfl rfl (by omega) (by omega)) ?_
              refine wl_val hW rfl rfl (x_loadA ag25 rfl hC60 rfl) ?_
              refine wl_alloc (cs := [.string ⟨#[]⟩, .int .u64 0, .bool false, .slice none 0 0]) hW rfl rfl Try.zeroValue25 rfl ?_
              intro b11 w11 hl11 hB11 hx11
              have g11 : w.heap.size ≤ b11 := Nat.le_trans hE.size hl11
              replace hEx := hEx.trans hx11
              replace hE := hE.trans hx11
              refine wl_storeA hW rfl ag25 rfl rfl rfl rfl hB11 rfl ?_
              intro wS hBS hkS
              replace hB11 := hBS
              clear hBS
              have gx11 := hl11
              replace hEx := hEx.store hkS gx11
              replace hE := hE.store hkS g11
              refine wl_nil ?_
              refine nx_then ?_
              refine wc_seq ?_
              refine wc_region ?_
              refine wl_val hW rfl rfl (x_move rfl) ?_
              refine wl_val hW rfl rfl (x_fieldAddr Try.underlying25 rfl fl9.siz rfl) ?_
              refine wl_val hW rfl rfl (x_load fl9 rfl (hB11.cell (o := 0) rfl)) ?_
              obtain ⟨ye, ya, yc, hy1, hy2, hy3, hy4⟩ := hME.look ls[i][q].k
              refine wl_val hW rfl rfl (x_lookupOk (T := TS) (k := ls[i][q].k) (hM.ext hEx) Try.underlying71 Try.zeroValue25 rfl rfl (ok_key hokx) hy1 hy3) ?_
              refine wl_val hW rfl rfl (x_move rfl) ?_
              refine wl_val hW rfl rfl (x_extract rfl rfl) ?_
              refine wl_val hW rfl rfl (x_extract rfl rfl) ?_
              refine wl_alloc (cs := [.string ⟨#[]⟩, .int .u64 0, .bool false, .slice none 0 0]) hW rfl rfl Try.zeroValue25 rfl ?_
              intro b12 w12 hl12 hB12 hx12
              have gx12 : wr2.heap.size ≤ b12 := Nat.le_trans hEx.size hl12
              have g12 : w.heap.size ≤ b12 := Nat.le_trans hE.size hl12
              have n12_11 : b12 ≠ b11 := Nat.ne_of_gt (Nat.lt_of_lt_of_le hB11.lt hl12)
              replace hB11 := hB11.ext hx12
              replace hEx := hEx.trans hx12
              replace hE := hE.trans hx12
              refine wl_storeA hW rfl ag25 rfl rfl rfl rfl hB12 rfl ?_
              intro wS hBS hkS
              replace hB11 := hB11.keep hkS n12_11.symm
              replace hB12 := hBS
              clear hBS
              replace hEx := hEx.store hkS gx12
              replace hE := hE.store hkS g12
              refine wl_val hW rfl rfl (x_assign rfl) ?_
              refine wl_nil ?_
              refine nx_then ?_
              refine wc_seq ?_
              refine wc_cut [(0, .slice ad ls.length cap), (1, .int .u64 up), (7, .slice sa (seenL up (mrg ls)).length sc), (8, .map (some m39)), (9, .int .i64 i), (10, .int .i64 q), (11, .pointer (some ⟨b11, 0, none⟩)), (83, .bool (takeM up (bestF up (fun _ => none) ((ls.take i).flatten ++ ls[i].take q)) ls[i][q]))] (fun w' => Ext wr2 w' ∧ Ext w w' ∧ Blk w' b11 (cellsOf ls[i][q] (.slice av ls[i][q].v.length cv)) 25) ?_ ?_
              · refine wc_region ?_
                refine wl_val hW rfl rfl (x_fieldAddr Try.underlying25 rfl fl22.siz rfl) ?_
                refine wl_val hW rfl rfl (x_load fl22 rfl (hB11.cell (o := 1) rfl)) ?_
                refine wl_val hW rfl rfl (x_move rfl) ?_
                refine wl_val hW rfl rfl (x_leq rfl rfl) ?_
                refine wl_val hW rfl rfl (x_move rfl) ?_
                refine wl_dcases (d := 73) rfl (fun hg73 => ?_) (fun hg73 => ?_)
                · refine wl_val hW rfl rfl (x_move rfl) ?_
                  refine wl_val hW rfl rfl (x_not rfl) ?_
                  refine wl_val hW rfl rfl (x_move rfl) ?_
                  refine wl_bcases (d := 76) rfl (fun hg76 => ?_) (fun hg76 => ?_)
                  · refine wl_off hW rfl rfl ?_
                    refine wl_off hW rfl rfl ?_
                    refine wl_off hW rfl rfl ?_
                    refine wl_off hW rfl rfl ?_
                    refine wl_off hW rfl rfl ?_
                    refine wl_val hW rfl rfl (x_pickT rfl rfl) ?_
                    refine wl_val hW rfl rfl (x_pickT rfl rfl) ?_
                    refine wl_nil ?_
                    exact nx_cut (by rw [show takeM up (bestF up (fun _ => none) ((ls.take i).flatten ++ ls[i].take q)) ls[i][q] = true from by unfold takeM; rw [decide_eq_true (show ls[i][q].s ≤ up from hg73)]; cases h : (bestF up (fun _ => none) ((ls.take i).flatten ++ ls[i].take q)) ls[i][q].k with | none => rfl | some e => rw [h] at hg76; cases hg76]; repeat (first | exact sub_nil | refine sub_cons rfl ?_)) ⟨hEx, hE, hB11⟩
                  · refine wl_val hW rfl rfl (x_fieldAddr Try.underlying25 rfl fl22.siz rfl) ?_
                    refine wl_val hW rfl rfl (x_load fl22 rfl (hB11.cell (o := 1) rfl)) ?_
                    refine wl_val hW rfl rfl (x_fieldAddr Try.underlying25 rfl fl22.siz rfl) ?_
                    refine wl_val hW rfl rfl (x_load fl22 rfl (hB12.cell (o := 1) rfl)) ?_
                    refine wl_val hW rfl rfl (x_gtr rfl rfl) ?_
                    refine wl_val hW rfl rfl (x_pickF rfl rfl) ?_
                    refine wl_val hW rfl rfl (x_pickT rfl rfl) ?_
                    refine wl_nil ?_
                    exact nx_cut (by rw [show takeM up (bestF up (fun _ => none) ((ls.take i).flatten ++ ls[i].take q)) ls[i][q] = decide (ye.s < ls[i][q].s) from by unfold takeM; rw [decide_eq_true (show ls[i][q].s ≤ up from hg73)]; cases h : (bestF up (fun _ => none) ((ls.take i).flatten ++ ls[i].take q)) ls[i][q].k with | none => rw [h] at hg76; cases hg76 | some e => rw [hy4 e h]; rfl]; repeat (first | exact sub_nil | refine sub_cons rfl ?_)) ⟨hEx, hE, hB11⟩
                · refine wl_off hW rfl rfl ?_
                  refine wl_off hW rfl rfl ?_
                  refine wl_off hW rfl rfl ?_
                  refine wl_off hW rfl rfl ?_
                  refine wl_off hW rfl rfl ?_
                  refine wl_off hW rfl rfl ?_
                  refine wl_off hW rfl rfl ?_
                  refine wl_off hW rfl rfl ?_
                  refine wl_off hW rfl rfl ?_
                  refine wl_val hW rfl rfl (x_pickF rfl rfl) ?_
                  refine wl_nil ?_
                  exact nx_cut (by rw [show takeM up (bestF up (fun _ => none) ((ls.take i).flatten ++ ls[i].take q)) ls[i][q] = false from by unfold takeM; rw [decide_eq_false (show ¬ ls[i][q].s ≤ up from hg73)]; rfl]; repeat (first | exact sub_nil | refine sub_cons rfl ?_)) ⟨hEx, hE, hB11⟩
              · rintro w' ⟨hEx, hE, hB11⟩
                have htk : (ls.take i).flatten ++ ls[i].take (q + 1) = ((ls.take i).flatten ++ ls[i].take q) ++ [ls[i][q]] := by rw [List.take_add_one, List.getElem?_eq_getElem hqlt, List.append_assoc]; rfl
                refine nx_then ?_
                refine wc_bool rfl (fun hc => ?_) (fun hc => ?_)
                · refine wc_region ?_
                  refine wl_val hW rfl rfl (x_move rfl) ?_
                  refine wl_val hW rfl rfl (x_fieldAddr Try.underlying25 rfl fl9.siz rfl) ?_
                  refine wl_val hW rfl rfl (x_load fl9 rfl (hB11.cell (o := 0) rfl)) ?_
                  refine wl_val hW rfl rfl (x_loadA ag25 rfl hB11.cells rfl) ?_
                  refine wl_mapUpdate (T := TS) (k := ls[i][q].k) (v := .agg (cellsOf ls[i][q] (.slice av ls[i][q].v.length cv)).toArray) hW rfl (hM.ext hEx) Try.underlying71 (by unfold maxLen; omega) rfl rfl rfl (ok_key hokx) ?_
                  intro wM hM2 hkM
                  refine wl_nil ?_
                  refine nx_block ?_
                  refine nx_then ?_
                  refine wc_region ?_
                  refine wl_val hW rfl rfl (x_move rfl) ?_
                  refine wl_val hW rfl rfl (x_inc (s := q) rfl (by omega)) ?_
                  refine wl_val hW rfl rfl (x_assign rfl) ?_
                  refine wl_nil ?_
                  exact nx_next (q + 1) (by omega) ⟨by omega, ⟨_, _, hM2, by omega, by rw [htk, bestF_append]; exact ment_put ((hME.ext hEx).keep hkM (hM.ext hEx).ne) hc (((hbx.ext hEx).ck (CK.of_keep hkM (fun k _ h => by omega))).mono (fun _ _ _ => trivial))⟩, (hRs.ext hEx).ck (CK.of_keep hkM (fun k _ h => by omega)), hE.store hkM hgm⟩ (by repeat (first | exact sub_nil | refine sub_cons rfl ?_))
                · refine wc_skip ?_
                  refine nx_block ?_
                  refine nx_then ?_
                  refine wc_region ?_
                  refine wl_val hW rfl rfl (x_move rfl) ?_
                  refine wl_val hW rfl rfl (x_inc (s := q) rfl (by omega)) ?_
                  refine wl_val hW rfl rfl (x_assign rfl) ?_
                  refine wl_nil ?_
                  exact nx_next (q + 1) (by omega) ⟨by omega, ⟨f, nm, hM.ext hEx, by omega, by rw [htk, bestF_append]; show MEnt _ _ (putM up _ _); rw [putM_still hc]; exact hME.ext hEx⟩, hRs.ext hEx, hE⟩ (by repeat (first | exact sub_nil | refine sub_cons rfl ?_))
            · replace hc : ¬ ((q : Nat) : Int) < ls[i].length := hc
              rw [List.take_of_length_le (show ls[i].length ≤ q by omega)] at hME
              refine wc_exit ?_
              refine nx_then_exit ?_
              refine nx_then_exit ?_
              refine nx_block_exit ?_
              refine nx_block ?_
              refine nx_then ?_
              refine wc_region ?_
              refine wl_val hW rfl rfl (x_move rfl) ?_
              refine wl_val hW rfl rfl (x_inc (s := i) rfl (by omega)) ?_
              refine wl_val hW rfl rfl (x_assign rfl) ?_
              refine wl_nil ?_
              exact nx_next (i + 1) (by omega) ⟨by omega, ⟨f, nm, hM, by omega, by rw [List.take_add_one, List.getElem?_eq_getElem hlt, List.flatten_append]; simpa using hME⟩, hRs, hE⟩ (by repeat (first | exact sub_nil | refine sub_cons rfl ?_))
        · replace hc : ¬ ((i : Nat) : Int) < ls.length := hc
          rw [List.take_of_length_le (show ls.length ≤ i by omega)] at hME
          have hMT : MEnt wr f (top up (mrg ls)) := fun k => by have := hME k; rw [best_merge (all_sorted hal)] at this; exact this
          clear hME
          have hkeys := seen_keys (up := up) hsrt
          have hsm := fun e => seen_mem (up := up) hsrt e
          refine wc_exit ?_
          refine nx_then_exit ?_
          refine nx_then_exit ?_
          refine nx_block_exit ?_
          refine nx_then ?_
          refine wc_seq ?_
          refine wc_region ?_
          refine wl_val hW rfl rfl (x_assign rfl) ?_
          refine wl_nil ?_
          refine nx_then ?_
          refine wc_seq ?_
          refine wc_seq ?_
          refine wc_region ?_
          refine wl_val hW rfl rfl (x_move rfl) ?_
          refine wl_rangeM (T := TS) hW rfl rfl hM Try.underlying71 rfl ?_
          intro r89 w89 cnt89 hl89 hR89 hx89
          have hgr : w.heap.size ≤ r89 := Nat.le_trans hE.size hl89
          have hrm : m39 < r89 := Nat.lt_of_lt_of_le hM.lt hl89
          replace hE := hE.trans hx89
          refine wl_nil ?_
          refine nx_then ?_
          refine wc_block ?_
          refine wc_loop (σ := Nat × Nat × (ByteArray → Bool)) (fun u => [(7, .slice sa (seenL up (mrg ls)).length sc), (8, .map (some m39)), (14, .int .i64 u.1), (89, .pointer (some ⟨r89, 0, none⟩))]) (fun u w' => RangeIs TS w' m39 r89 nm f u.2.2 u.2.1 ∧ MEnt w' f (top up (mrg ls)) ∧ u.1 + ((seenL up (mrg ls)).filter (fun x => u.2.2 x.k)).length = (seenL up (mrg ls)).length ∧ Row (fun k => k < m39) w' (.slice sa (seenL up (mrg ls)).length sc) (seenL up (mrg ls)) ∧ Ext w w') (fun u => u.2.1) (0, cnt89, fun k => (f k).isSome) ?_ ?_ ?_
          · exact ⟨hR89, hMT.ext hx89, by rw [Nat.zero_add, List.filter_eq_self.2 (fun x hx => by have h1 := hMT x.k; rw [((hsm x).1 hx).1] at h1; obtain ⟨bv, h2, -⟩ := h1; show (f x.k).isSome = true; rw [h2]; rfl)], hRs.ext hx89, hE⟩
          · repeat (first | exact sub_nil | refine sub_cons rfl ?_)
          · rintro ⟨nn, cnt, left⟩ w3 ⟨hRg, hMT3, hcnt, hRs, hE⟩
            dsimp only at hRg hcnt
            refine wc_seq ?_
            refine wc_cutE (σ := Bool × ByteArray × Nat) (fun u => [(7, .slice sa (seenL up (mrg ls)).length sc), (8, .map (some m39)), (14, .int .i64 nn), (89, .pointer (some ⟨r89, 0, none⟩)), (91, .bool u.1)]) (fun u w' => (u.1 = false ∧ (∀ k, TS.ok k → left k = false) ∧ w' = w3) ∨ (u.1 = true ∧ ∃ vv, TS.ok u.2.1 ∧ left u.2.1 = true ∧ f u.2.1 = some vv ∧ RangeIs TS w' m39 r89 nm f (fun x => left x && !decide (x = u.2.1)) u.2.2 ∧ u.2.2 < cnt ∧ Keep (· ≠ r89) w3 w' ∧ (Instr.entry (.pointer (some ⟨r89, 0, none⟩))).run Try.prog w' = .ok (.tuple #[TS.v u.2.1, vv]) w')) ?_ ?_
            · refine wc_region ?_
              refine wl_nextM (T := TS) hW rfl rfl hRg rfl (fun h0 hall => ?_) (fun kk vv w' cnt' hko hle hfk hR' hcn hkN hent => ?_)
              · exact wl_val hW rfl rfl (x_extract rfl rfl) (wl_nil (nx_cutE (false, ⟨#[]⟩, 0) (by repeat (first | exact sub_nil | refine sub_cons rfl ?_)) (.inl ⟨rfl, hall, rfl⟩)))
              refine wl_val hW rfl rfl (x_extract rfl rfl) ?_
              refine wl_nil ?_
              exact nx_cutE (true, kk, cnt') (by repeat (first | exact sub_nil | refine sub_cons rfl ?_)) (.inr ⟨rfl, vv, hko, hle, hfk, hR', hcn, hkN, hent⟩)
            · rintro ⟨u1, kk, cnt'⟩ w' hu
              dsimp only at hu
              refine nx_then ?_
              refine wc_seq ?_
              refine wc_bool rfl (fun hc => ?_) (fun hc => ?_)
              · obtain ⟨-, vv, hko, hle, hfk, hR', hcn, hkN, hent⟩ := hu.resolve_left (fun h => by have hc' : u1 = true := hc; rw [h.1] at hc'; cases hc')
                have hMT' := hMT3.keep hkN hRg.ner
                obtain ⟨ye, ya, yc, hy1, hy2, hy3, hy4⟩ := hMT'.look kk
                obtain ⟨e0, he0⟩ : ∃ e, top up (mrg ls) kk = some e := by cases h : top up (mrg ls) kk with | none => rw [h, hfk] at hy3; cases hy3 | some e => exact ⟨e, rfl⟩
                obtain rfl := hy4 e0 he0
                have hyk := ((top_some hsrt).1 he0).2.1
                have hRs' := hRs.ck (CK.of_keep hkN (fun k _ h => by omega))
                have hE' := hE.store hkN hgr
                refine wc_skip ?_
                refine nx_then ?_
                refine wc_block ?_
                refine wc_seq ?_
                refine wc_region ?_
                refine wl_val hW rfl rfl (x_entry rfl hent) ?_
                refine wl_val hW rfl rfl (x_extract rfl rfl) ?_
                refine wl_val hW rfl rfl (x_assign rfl) ?_
                refine wl_nil ?_
                refine nx_then ?_
                refine wc_seq ?_
                refine wc_region ?_
                refine wl_val hW rfl rfl (x_move rfl) ?_
                refine wl_val hW rfl rfl (x_move rfl) ?_
                refine wl_val hW rfl rfl (x_lookup1 (T := TS) (k := kk) hR'.map Try.underlying71 Try.zeroValue25 rfl rfl hko hy1) ?_
                refine wl_val hW rfl rfl (x_field Try.underlying25 rfl fl4 rfl rfl) ?_
                refine wl_val hW rfl rfl (x_not rfl) ?_
                refine wl_nil ?_
                refine nx_then ?_
                refine wc_bool rfl (fun hc => ?_) (fun hc => ?_)
                · refine wc_region ?_
                  refine wl_val hW rfl rfl (x_move rfl) ?_
                  refine wl_val hW rfl rfl (x_inc (s := nn) rfl (by omega)) ?_
                  refine wl_val hW rfl rfl (x_assign rfl) ?_
                  refine wl_nil ?_
                  refine nx_block ?_
                  have hg0 : ye.g = false := by have hc' : (!ye.g) = true := hc; simpa using hc'
                  have hmem : ye ∈ (seenL up (mrg ls)) := (hsm ye).2 ⟨by rw [hyk]; exact he0, hg0⟩
                  have hcs := count_step hkeys left kk hle ye hmem hyk
                  exact nx_next (nn + 1, cnt', fun x => left x && !decide (x = kk)) hcn ⟨hR', hMT', by dsimp only; omega, hRs', hE'⟩ (by repeat (first | exact sub_nil | refine sub_cons rfl ?_))
                · refine wc_skip ?_
                  refine nx_block ?_
                  have hg0 : ye.g = true := by have hc' : (!ye.g) = false := hc; simpa using hc'
                  have hcs := count_still (s := (seenL up (mrg ls))) left kk (fun x hx hxk => by have h1 := (hsm x).1 hx; rw [hxk, he0] at h1; have h2 := Option.some.inj h1.1; rw [← h2, hg0] at h1; cases h1.2)
                  exact nx_next (nn, cnt', fun x => left x && !decide (x = kk)) hcn ⟨hR', hMT', by dsimp only; rw [hcs]; exact hcnt, hRs', hE'⟩ (by repeat (first | exact sub_nil | refine sub_cons rfl ?_))
              · obtain ⟨-, hall, hww⟩ := hu.resolve_right (fun h => by have hc' : u1 = false := hc; rw [h.1] at hc'; cases hc')
                subst hww
                have hnn : nn = (seenL up (mrg ls)).length := by rw [List.filter_eq_nil_iff.2 (fun x hx => by rw [hall x.k (ok_key (hRs.ok x hx))]; simp)] at hcnt; simpa using hcnt
                refine wc_exit ?_
                refine nx_then_exit ?_
                refine nx_then_exit ?_
                refine nx_block_exit ?_
                refine nx_then ?_
                refine wc_seq ?_
                refine wc_seq ?_
                refine wc_region ?_
                refine wl_val hW rfl rfl (x_assign rfl) ?_
                refine wl_nil ?_
                refine nx_then ?_
                refine wc_block ?_
                refine wc_loop (σ := Nat) (fun q => [(7, .slice sa (seenL up (mrg ls)).length sc), (8, .map (some m39)), (14, .int .i64 nn), (16, .int .i64 q)]) (fun q w' => q ≤ (seenL up (mrg ls)).length ∧ MapIs TS w' m39 nm f ∧ MEnt w' f (top up (mrg ls)) ∧ Row (fun k => k < m39) w' (.slice sa (seenL up (mrg ls)).length sc) (seenL up (mrg ls)) ∧ Ext w w') (fun q => (seenL up (mrg ls)).length - q) 0 ?_ ?_ ?_
                · exact ⟨Nat.zero_le _, hRg.map, hMT3, hRs, hE⟩
                · repeat (first | exact sub_nil | refine sub_cons rfl ?_)
                · rintro q w4 ⟨hql, hM4, hMT4, hRs4, hE⟩
                  refine wc_seq ?_
                  refine wc_seq ?_
                  refine wc_region ?_
                  refine wl_val hW rfl rfl (x_move rfl) ?_
                  refine wl_val hW rfl rfl (x_move rfl) ?_
                  refine wl_val hW rfl rfl (x_len Try.underlying26 rfl) ?_
                  refine wl_val hW rfl rfl (x_lss rfl rfl) ?_
                  refine wl_nil ?_
                  refine nx_then ?_
                  refine wc_dec rfl (fun hc => ?_) (fun hc => ?_)
                  · replace hc : ((q : Nat) : Int) < (seenL up (mrg ls)).length := hc
                    have hqlt : q < (seenL up (mrg ls)).length := by omega
                    have hmq := (hsm _).1 (List.getElem_mem hqlt)
                    refine wc_skip ?_
                    refine nx_then ?_
                    refine wc_seq ?_
                    refine wc_block ?_
                    refine wc_seq ?_
                    refine wc_region ?_
                    obtain ⟨b1, o1, c1, bv1, e1, hA1, hC111, hb1, hok1⟩ := hRs4.at q hqlt
                    injection e1 with e1a
                    obtain ⟨ye, ya, yc, hy1, hy2, hy3, hy4⟩ := hMT4.look (seenL up (mrg ls))[q].k
                    obtain rfl := hy4 _ hmq.1
                    have hEx : Ext w4 w4 := Keep.refl _ _
                    refine wl_val hW rfl rfl (x_move rfl) ?_
                    refine wl_val hW rfl rfl (x_move rfl) ?_
                    refine wl_val hW rfl rfl (x_move rfl) ?_
                    refine wl_val hW rfl rfl (x_indexAddr Try.underlying26 ag25.siz (congrArg (fun a => some (Value.slice a (seenL up (mrg ls)).length sc)) e1a) rfl (by omega) (by omega)) ?_
                    refine wl_val hW rfl rfl (x_fieldAddr Try.underlying25 rfl fl9.siz rfl) ?_
                    refine wl_val hW rfl rfl (x_load fl9 rfl (hC111 0 _ rfl)) ?_
                    refine wl_val hW rfl rfl (x_lookupOk (T := TS) (k := (seenL up (mrg ls))[q].k) (s1 := true) hM4 Try.underlying71 Try.zeroValue25 rfl rfl (ok_key hok1) hy1 (by rw [hy3, hmq.1]; rfl)) ?_
                    refine wl_val hW rfl rfl (x_move rfl) ?_
                    refine wl_val hW rfl rfl (x_extract rfl rfl) ?_
                    refine wl_val hW rfl rfl (x_extract rfl rfl) ?_
                    refine wl_alloc (cs := [.string ⟨#[]⟩, .int .u64 0, .bool false, .slice none 0 0]) hW rfl rfl Try.zeroValue25 rfl ?_
                    intro b17 w17 hl17 hB17 hx17
                    have g17 : w.heap.size ≤ b17 := Nat.le_trans hE.size hl17
                    replace hEx := hEx.trans hx17
                    replace hE := hE.trans hx17
                    refine wl_storeA hW rfl ag25 rfl rfl rfl rfl hB17 rfl ?_
                    intro wS hBS hkS
                    replace hB17 := hBS
                    clear hBS
                    replace hEx := hEx.store hkS hl17
                    replace hE := hE.store hkS g17
                    refine wl_val hW rfl rfl (x_assign rfl) ?_
                    refine wl_nil ?_
                    refine nx_then ?_
                    refine wc_seq ?_
                    refine wc_cut [(7, .slice sa (seenL up (mrg ls)).length sc), (8, .map (some m39)), (14, .int .i64 nn), (16, .int .i64 q), (149, .bool false)] (fun w' => Ext w4 w' ∧ Ext w w') ?_ ?_
                    · refine wc_draw' 33 hW mixed (by kernel_rfl) (fun w0 hx0 => ?_)
                      replace hB17 := hB17.ext hx0
                      replace hEx := hEx.trans hx0
                      replace hE := hE.trans hx0
                      refine q_val rfl rfl (fun _ hx => x_move rfl) ?_
                      refine q_val rfl rfl (fun _ hx => x_not rfl) ?_
                      refine q_val rfl rfl (fun _ hx => x_move rfl) ?_
                      refine q_val rfl rfl (fun _ hx => x_fieldAddr Try.underlying25 rfl fl4.siz rfl) ?_
                      refine q_val rfl rfl (fun _ hx => x_load fl4 rfl (v := .bool false) (hx.cell (show w0.cell? ⟨b17, 0 + 2, none⟩ = some (.bool false) from by rw [← hmq.2]; exact hB17.cell (o := 2) rfl))) ?_
                      refine q_val rfl rfl (fun _ hx => x_pickF rfl rfl) ?_
                      refine q_val rfl rfl (fun _ hx => x_move rfl) ?_
                      have hC127 := hC111.ext hEx
                      refine q_val rfl rfl (fun _ hx => x_loadA ag25 rfl (hB17.ext hx).cells rfl) ?_
                      refine q_val rfl rfl (fun _ hx => x_move rfl) ?_
                      refine q_val rfl rfl (fun _ hx => x_move rfl) ?_
                      refine q_val rfl rfl (fun _ hx => x_indexAddr Try.underlying26 ag25.siz (congrArg (fun a => some (Value.slice a (seenL up (mrg ls)).length sc)) e1a) rfl (by omega) (by omega)) ?_
                      refine q_val rfl rfl (fun _ hx => x_loadA ag25 rfl (hC127.ext hx) rfl) ?_
                      refine q_call rfl rfl (fun _ => x_call en38 rfl) (fun w' hx => (((C38 ((hy2.ext hEx).ext hx) (((hb1.ext hEx).ext hx).mono (fun _ _ _ => trivial))).mono (fun r w'' h => ⟨by rw [h.1, sameB_iff.2 rfl], h.2⟩) : Rt Try.prog 38 _ w' fun r w'' => r = .bool true ∧ Ext w' w'')).inF hFF) ?_
                      refine q_val rfl rfl (fun _ hx => x_not rfl) ?_
                      refine q_val rfl rfl (fun _ hx => x_pickF rfl rfl) ?_
                      refine q_val rfl rfl (fun _ hx => x_move rfl) ?_
                      refine q_val rfl rfl (fun _ hx => x_move rfl) ?_
                      refine q_val rfl rfl (fun _ hx => x_gtr rfl rfl) ?_
                      refine q_val rfl rfl (fun _ hx => x_move rfl) ?_
                      refine q_dcases (d := 135) rfl (fun hg135 => ?_) (fun hg135 => ?_)
                      · obtain ⟨b2, o2, c2, bv2, e2, hA2, hC139, hb2, hok2⟩ := hRs4.at (q - 1) (by omega)
                        rw [e1a] at e2
                        injection e2 with e2a
                        injection e2a with e2b
                        injection e2b with e2c e2d
                        subst e2c
                        subst e2d
                        replace hC139 := hC139.ext hEx
                        have hC144 := hC127
                        have hbl : Op.bytesLess (seenL up (mrg ls))[q - 1].k.toList (seenL up (mrg ls))[q].k.toList = true := List.pairwise_iff_getElem.1 hkeys (q - 1) q (by omega) hqlt (by omega)
                        refine q_val rfl rfl (fun _ hx => x_move rfl) ?_
                        refine q_val rfl rfl (fun _ hx => x_move rfl) ?_
                        refine q_val rfl rfl (fun _ hx => x_subn (i := q) (j := 1) rfl rfl (by omega) (by omega)) ?_
                        refine q_val rfl rfl (fun _ hx => x_indexAddr Try.underlying26 ag25.siz (congrArg (fun a => some (Value.slice a (seenL up (mrg ls)).length sc)) e1a) rfl (by omega) (by omega)) ?_
                        refine q_val rfl rfl (fun _ hx => x_fieldAddr Try.underlying25 rfl fl9.siz rfl) ?_
                        refine q_val rfl rfl (fun _ hx => x_load fl9 rfl (hx.cell (hC139 0 _ rfl))) ?_
                        refine q_val rfl rfl (fun _ hx => x_move rfl) ?_
                        refine q_val rfl rfl (fun _ hx => x_move rfl) ?_
                        refine q_val rfl rfl (fun _ hx => x_indexAddr Try.underlying26 ag25.siz (congrArg (fun a => some (Value.slice a (seenL up (mrg ls)).length sc)) e1a) rfl (by omega) (by omega)) ?_
                        refine q_val rfl rfl (fun _ hx => x_fieldAddr Try.underlying25 rfl fl9.siz rfl) ?_
                        refine q_val rfl rfl (fun _ hx => x_load fl9 rfl (hx.cell (hC144 0 _ rfl))) ?_
                        refine q_val rfl rfl (fun _ hx => x_sgeq rfl rfl) ?_
                        refine q_val rfl rfl (fun _ hx => x_pickT rfl rfl) ?_
                        refine q_val rfl rfl (fun _ hx => x_pickF rfl rfl) ?_
                        refine q_nil (tail0 (fun wt hxt => ?_))
                        replace hB17 := hB17.ext hxt
                        replace hE := hE.trans hxt
                        refine wl_nil ?_
                        exact nx_cut (by rw [hbl]; repeat (first | exact sub_nil | refine sub_cons rfl ?_)) ⟨hEx.trans hxt, hE⟩
                      · refine q_off rfl rfl ?_
                        refine q_off rfl rfl ?_
                        refine q_off rfl rfl ?_
                        refine q_off rfl rfl ?_
                        refine q_off rfl rfl ?_
                        refine q_off rfl rfl ?_
                        refine q_off rfl rfl ?_
                        refine q_off rfl rfl ?_
                        refine q_off rfl rfl ?_
                        refine q_off rfl rfl ?_
                        refine q_off rfl rfl ?_
                        refine q_off rfl rfl ?_
                        refine q_val rfl rfl (fun _ hx => x_pickF rfl rfl) ?_
                        refine q_val rfl rfl (fun _ hx => x_pickF rfl rfl) ?_
                        refine q_nil (tail0 (fun wt hxt => ?_))
                        replace hB17 := hB17.ext hxt
                        replace hE := hE.trans hxt
                        refine wl_nil ?_
                        exact nx_cut (by repeat (first | exact sub_nil | refine sub_cons rfl ?_)) ⟨hEx.trans hxt, hE⟩
                    · rintro w' ⟨hEx, hE⟩
                      refine nx_then ?_
                      refine wc_false rfl ?_
                      refine wc_skip ?_
                      refine nx_block ?_
                      refine nx_then ?_
                      refine wc_region ?_
                      refine wl_val hW rfl rfl (x_move rfl) ?_
                      refine wl_val hW rfl rfl (x_inc (s := q) rfl (by omega)) ?_
                      refine wl_val hW rfl rfl (x_assign rfl) ?_
                      refine wl_nil ?_
                      exact nx_next (q + 1) (by omega) ⟨by omega, hM4.ext hEx, hMT4.ext hEx, hRs4.ext hEx, hE⟩ (by repeat (first | exact sub_nil | refine sub_cons rfl ?_))
                  · refine wc_exit ?_
                    refine nx_then_exit ?_
                    refine nx_then_exit ?_
                    refine nx_block_exit ?_
                    refine nx_then ?_
                    refine wc_seq ?_
                    refine wc_region ?_
                    refine wl_val hW rfl rfl (x_move rfl) ?_
                    refine wl_val hW rfl rfl (x_move rfl) ?_
                    refine wl_val hW rfl rfl (x_len Try.underlying26 rfl) ?_
                    refine wl_val hW rfl rfl (x_eqlT rfl rfl (by rw [hnn])) ?_
                    refine wl_val hW rfl rfl (x_assign rfl) ?_
                    refine wl_nil ?_
                    refine nx_then ?_
                    refine wc_ret ?_
                    exact ends_ret (res_tmp Try.results12 rfl) ⟨rfl, hE⟩
end Go.Proofs.Ytblbddamebbgaaa.K


/- Walks: the table in memory, its small parts. -/
namespace Go.Proofs.Ytblbddamebbgaaa.K
open Go Go.RowKit
set_option linter.unusedVariables false
set_option linter.unusedSimpArgs false

theorem C64 (e1 e2 : Ent) (v1 v2 : Value) (w : World) : Rt Try.prog 64 [.agg (cellsOf e1 v1).toArray, .agg (cellsOf e2 v2).toArray] w fun v w' => v = .int .i64 (cmpE e1 e2) ∧ Ext w w' := by
  have hW := hWw
  have hFF := hFw
  have hE : Ext w w := Keep.refl _ _
  refine rt_body Try.func64 rfl Try.ntmps64 rfl ?_
  refine wc_seq ?_
  refine wc_region ?_
  refine wl_box hW rfl rfl rfl rfl ?_
  intro b2 w2 hl2 hB2 hx2
  have g2 : w.heap.size ≤ b2 := Nat.le_trans hE.size hl2
  replace hE := hE.trans hx2
  refine wl_box hW rfl rfl rfl rfl ?_
  intro b3 w3 hl3 hB3 hx3
  have g3 : w.heap.size ≤ b3 := Nat.le_trans hE.size hl3
  have n3_2 : b3 ≠ b2 := Nat.ne_of_gt (Nat.lt_of_lt_of_le hB2.lt hl3)
  replace hB2 := hB2.ext hx3
  replace hE := hE.trans hx3
  refine wl_val hW rfl rfl (x_assign rfl) ?_
  refine wl_nil ?_
  refine nx_then ?_
  refine wc_seq ?_
  refine wc_draw' 10 hW mixed (by kernel_rfl) (fun w0 hx0 => ?_)
  replace hB2 := hB2.ext hx0
  replace hB3 := hB3.ext hx0
  replace hE := hE.trans hx0
  refine q_val rfl rfl (fun _ hx => x_fieldAddr Try.underlying25 rfl fl9.siz rfl) ?_
  refine q_val rfl rfl (fun _ hx => x_load fl9 rfl (hx.cell (hB2.cell (o := 0) rfl))) ?_
  refine q_val rfl rfl (fun _ hx => x_fieldAddr Try.underlying25 rfl fl9.siz rfl) ?_
  refine q_val rfl rfl (fun _ hx => x_load fl9 rfl (hx.cell (hB3.cell (o := 0) rfl))) ?_
  refine q_call rfl rfl (fun _ => x_call en56 rfl) (fun w' hx => (C56 _ _ _).inF hFF) ?_
  refine q_val rfl rfl (fun _ hx => x_fieldAddr Try.underlying25 rfl fl22.siz rfl) ?_
  refine q_val rfl rfl (fun _ hx => x_load fl22 rfl (hx.cell (hB3.cell (o := 1) rfl))) ?_
  refine q_val rfl rfl (fun _ hx => x_fieldAddr Try.underlying25 rfl fl22.siz rfl) ?_
  refine q_val rfl rfl (fun _ hx => x_load fl22 rfl (hx.cell (hB2.cell (o := 1) rfl))) ?_
  refine q_call rfl rfl (fun _ => x_call en57 rfl) (fun w' hx => (C57 _ _ _).inF hFF) ?_
  refine q_nil (tail0 (fun wt hxt => ?_))
  replace hB2 := hB2.ext hxt
  replace hB3 := hB3.ext hxt
  replace hE := hE.trans hxt
  refine wl_buildSlice (parts := [(0, .tmp 9), (1, .tmp 14)]) hW rfl rfl Try.underlying42 fl3.siz Try.zeroValue3 rfl rfl rfl (by omega) ?_
  intro b15 w15 hl15 hB15 hx15
  have g15 : w.heap.size ≤ b15 := Nat.le_trans hE.size hl15
  have n15_2 : b15 ≠ b2 := Nat.ne_of_gt (Nat.lt_of_lt_of_le hB2.lt hl15)
  replace hB2 := hB2.ext hx15
  have n15_3 : b15 ≠ b3 := Nat.ne_of_gt (Nat.lt_of_lt_of_le hB3.lt hl15)
  replace hB3 := hB3.ext hx15
  replace hE := hE.trans hx15
  refine wl_call hW rfl rfl (x_call en55 rfl) ((C55 _ _ _ _ hB15).inF hFF) ?_
  rintro _ wC ⟨rfl, hxC⟩
  replace hB2 := hB2.ext hxC
  replace hB3 := hB3.ext hxC
  replace hB15 := hB15.ext hxC
  replace hE := hE.trans hxC
  refine wl_val hW rfl rfl (x_assign rfl) ?_
  refine wl_nil ?_
  refine nx_then ?_
  refine wc_ret ?_
  exact ends_ret (res_tmp Try.results64 rfl) ⟨rfl, hE⟩
theorem C71 {A : Nat → Prop} {w : World} {bv : Value} {e : Ent} (hv : Byts A w bv e.v) (hok : EntOk e) : Rt Try.prog 71 [.agg (cellsOf e bv).toArray] w fun r w' => (∃ bv', r = .agg (cellsOf e bv').toArray ∧ Byts (fun k => w.heap.size ≤ k) w' bv' e.v) ∧ Ext w w' := by
  obtain ⟨ad, cap, rfl, hcap⟩ := hv.form
  have hW := hWw
  have hFF := hFw
  have hE : Ext w w := Keep.refl _ _
  refine rt_body Try.func71 rfl Try.ntmps71 rfl ?_
  refine wc_seq ?_
  refine wc_region ?_
  refine wl_box hW rfl rfl rfl rfl ?_
  intro b1 w1 hl1 hB1 hx1
  have g1 : w.heap.size ≤ b1 := Nat.le_trans hE.size hl1
  replace hE := hE.trans hx1
  refine wl_alloc (cs := [.string ⟨#[]⟩, .int .u64 0, .bool false, .slice none 0 0]) hW rfl rfl Try.zeroValue25 rfl ?_
  intro b2 w2 hl2 hB2 hx2
  have g2 : w.heap.size ≤ b2 := Nat.le_trans hE.size hl2
  have n2_1 : b2 ≠ b1 := Nat.ne_of_gt (Nat.lt_of_lt_of_le hB1.lt hl2)
  replace hB1 := hB1.ext hx2
  replace hE := hE.trans hx2
  refine wl_nil ?_
  refine nx_then ?_
  refine wc_seq ?_
  refine wc_region ?_
  refine wl_val hW rfl rfl (x_fieldAddr Try.underlying25 rfl fl23.siz rfl) ?_
  refine wl_val hW rfl rfl (x_load fl23 rfl (hB1.cell (o := 3) rfl)) ?_
  have hx0 := hE.size
  have hlt1 := hB1.lt
  have hlt2 := hB2.lt
  refine wl_call hW rfl rfl (x_call en65 rfl) ((C65 (hv.ext hE) (by have := hok.v; omega)).inF hFF) ?_
  rintro v5 wC ⟨hv5, hxC⟩
  obtain ⟨a5, c5, e5, -⟩ := hv5.form
  subst e5
  replace hB1 := hB1.ext hxC
  replace hB2 := hB2.ext hxC
  replace hE := hE.trans hxC
  refine wl_val hW rfl rfl (x_fieldAddr Try.underlying25 rfl fl23.siz rfl) ?_
  refine wl_store hW rfl fl23 rfl rfl rfl hB1 rfl ?_
  intro wS hBS hkS
  replace hv5 := hv5.ck (CK.of_keep hkS (fun k _ h => by intro e; omega))
  replace hB2 := hB2.keep hkS n2_1
  replace hB1 := hBS
  clear hBS
  replace hE := hE.store hkS g1
  refine wl_nil ?_
  refine nx_then ?_
  refine wc_seq ?_
  refine wc_region ?_
  refine wl_val hW rfl rfl (x_loadA ag25 rfl hB1.cells rfl) ?_
  refine wl_storeA hW rfl ag25 rfl rfl rfl rfl hB2 rfl ?_
  intro wS hBS hkS
  replace hv5 := hv5.ck (CK.of_keep hkS (fun k _ h => by intro e; omega))
  replace hB1 := hB1.keep hkS n2_1.symm
  replace hB2 := hBS
  clear hBS
  replace hE := hE.store hkS g2
  refine wl_nil ?_
  refine nx_then ?_
  refine wc_ret ?_
  exact ends_ret (res_cell Try.results71 rfl (run_loadVar_cells ag25 hB2.cells rfl)) ⟨⟨_, rfl, hv5.mono (fun k _ h => by omega)⟩, hE⟩
/-- What a version costs. -/
def costE (e : Ent) : Nat := e.k.size + e.v.length + 16
theorem C68 {A : Nat → Prop} {w : World} {bv : Value} {e : Ent} (hv : Byts A w bv e.v) (hok : EntOk e) : Rt Try.prog 68 [.agg (cellsOf e bv).toArray] w fun r w' => r = .int .i64 (costE e) ∧ Ext w w' := by
  obtain ⟨ad, cap, rfl, hcap⟩ := hv.form
  have hk := hok.k
  have hvv := hok.v
  have hW := hWw
  have hFF := hFw
  have hE : Ext w w := Keep.refl _ _
  refine rt_body Try.func68 rfl Try.ntmps68 rfl ?_
  refine wc_seq ?_
  refine wc_region ?_
  refine wl_box hW rfl rfl rfl rfl ?_
  intro b1 w1 hl1 hB1 hx1
  have g1 : w.heap.size ≤ b1 := Nat.le_trans hE.size hl1
  replace hE := hE.trans hx1
  refine wl_val hW rfl rfl (x_assign rfl) ?_
  refine wl_nil ?_
  refine nx_then ?_
  refine wc_seq ?_
  refine wc_region ?_
  refine wl_val hW rfl rfl (x_fieldAddr Try.underlying25 rfl fl9.siz rfl) ?_
  refine wl_val hW rfl rfl (x_load fl9 rfl (hB1.cell (o := 0) rfl)) ?_
  refine wl_val hW rfl rfl (x_lens Try.underlying9 rfl) ?_
  refine wl_val hW rfl rfl (x_fieldAddr Try.underlying25 rfl fl23.siz rfl) ?_
  refine wl_val hW rfl rfl (x_load fl23 rfl (hB1.cell (o := 3) rfl)) ?_
  refine wl_val hW rfl rfl (x_len Try.underlying23 rfl) ?_
  refine wl_val hW rfl rfl (x_addn (i := e.k.size) (j := e.v.length) rfl rfl (by omega)) ?_
  refine wl_val hW rfl rfl (x_addn (i := e.k.size + e.v.length) (j := 16) rfl rfl (by omega)) ?_
  refine wl_val hW rfl rfl (x_assign rfl) ?_
  refine wl_nil ?_
  refine nx_then ?_
  refine wc_ret ?_
  exact ends_ret (res_tmp Try.results68 rfl) ⟨rfl, hE⟩
end Go.Proofs.Ytblbddamebbgaaa.K


/- The table in memory: a skip list's nodes, plain and in blocks. -/
namespace Go.Proofs.Ytblbddamebbgaaa.K
open Go Go.RowKit
set_option linter.unusedVariables false
set_option linter.unusedSectionVars false
set_option linter.unusedSimpArgs false

/-- A node: its block, its tower's block, its height, its version, its value's slice. -/
structure Nd where
  b : Nat
  a : Nat
  h : Nat
  e : Ent
  bv : Value
/-- A pointer to the first of the nodes that reaches level k. -/
def nxt (k : Nat) (rest : List Nd) : Value := .pointer ((rest.find? fun n => decide (k < n.h)).map fun n => ⟨n.b, 0, none⟩)
def tower (h : Nat) (rest : List Nd) : List Value := (List.range h).map fun k => nxt k rest
theorem tower_len (h : Nat) (rest : List Nd) : (tower h rest).length = h := by simp [tower]
theorem tower_at {h k : Nat} (rest : List Nd) (hk : k < h) : (tower h rest)[k]? = some (nxt k rest) := by simp [tower, hk]
/-- Position i: 0 is the head, which lies in the table's block. -/
def posB (bt : Nat) (ns : List Nd) : Nat → Nat
  | 0 => bt
  | i + 1 => (ns[i]?.map (·.b)).getD 0
def posA (ha : Nat) (ns : List Nd) : Nat → Nat
  | 0 => ha
  | i + 1 => (ns[i]?.map (·.a)).getD 0
def posH (ns : List Nd) : Nat → Nat
  | 0 => 12
  | i + 1 => (ns[i]?.map (·.h)).getD 0
def ptr (bt : Nat) (ns : List Nd) (i : Nat) : Value := .pointer (some ⟨posB bt ns i, 0, none⟩)
/-- The last position up to p that reaches level k. -/
structure LastP (ns : List Nd) (k p i : Nat) : Prop where
  le : i ≤ p
  h : k < posH ns i
  after : ∀ j, i < j → j ≤ p → ¬ k < posH ns j
theorem LastP.uniq {ns : List Nd} {k p i j : Nat} (h1 : LastP ns k p i) (h2 : LastP ns k p j) : i = j := by
  rcases Nat.lt_trichotomy i j with h | h | h
  · exact absurd h2.h (h1.after j h h2.le)
  · exact h
  · exact absurd h1.h (h2.after i h h1.le)
/-- What comes at level k behind position i. -/
theorem nxt_cases (ns : List Nd) (k i : Nat) : (nxt k (ns.drop i) = .pointer none ∧ ∀ j, i < j → j ≤ ns.length → ¬ k < posH ns j) ∨ ∃ j, i < j ∧ j ≤ ns.length ∧ k < posH ns j ∧ (∀ j', i < j' → j' < j → ¬ k < posH ns j') ∧ ∀ bt, nxt k (ns.drop i) = ptr bt ns j := by
  unfold nxt
  cases hf : (ns.drop i).find? fun n => decide (k < n.h) with
  | none =>
    refine .inl ⟨rfl, fun j h1 h2 => ?_⟩
    rw [List.find?_eq_none] at hf
    obtain ⟨j, rfl⟩ : ∃ j', j = j' + 1 := ⟨j - 1, by omega⟩
    have hlt : j < ns.length := by omega
    have := hf ns[j] (by rw [List.mem_drop_iff_getElem]; exact ⟨j - i, by omega, by congr 1; omega⟩)
    simpa [posH, List.getElem?_eq_getElem hlt] using this
  | some n =>
    rw [List.find?_eq_some_iff_getElem] at hf
    obtain ⟨h1, j, hj, h2, h3⟩ := hf
    have hlt : i + j < ns.length := by simp at hj; omega
    have e : ns[i + j] = n := by rw [← h2]; simp
    refine .inr ⟨i + j + 1, by omega, by omega, ?_, fun j' h4 h5 => ?_, fun bt => ?_⟩
    · simpa [posH, List.getElem?_eq_getElem hlt, e] using h1
    · obtain ⟨j', rfl⟩ : ∃ j'', j' = i + j'' + 1 := ⟨j' - i - 1, by omega⟩
      have hlt' : i + j' < ns.length := by omega
      have := h3 j' (by omega)
      simpa [posH, List.getElem?_eq_getElem hlt'] using this
    · simp [ptr, posB, List.getElem?_eq_getElem hlt, e]

/-! ### putting a node in: its tower is tied level by level -/
/-- The nodes, the new one of s levels so far. -/
def stage (ns : List Nd) (p : Nat) (nw : Nd) (s : Nat) : List Nd := ns.take p ++ { nw with h := s } :: ns.drop p
theorem stage_drop {ns : List Nd} {p i : Nat} (nw : Nd) (s : Nat) (hi : i ≤ p) (hp : p ≤ ns.length) : (stage ns p nw s).drop i = (ns.take p).drop i ++ { nw with h := s } :: ns.drop p := by
  unfold stage; rw [List.drop_append_of_le_length (by simp; omega)]
theorem find_none {ns : List Nd} {p i k : Nat} (hp : p ≤ ns.length) : ((ns.take p).drop i).find? (fun n => decide (k < n.h)) = none ↔ ∀ j, i < j → j ≤ p → ¬ k < posH ns j := by
  rw [List.find?_eq_none]
  constructor
  · intro h j h1 h2
    obtain ⟨j, rfl⟩ : ∃ j', j = j' + 1 := ⟨j - 1, by omega⟩
    have hlt : j < ns.length := by omega
    have := h ns[j] (by rw [List.mem_drop_iff_getElem]; exact ⟨j - i, by simp; omega, by simp only [List.getElem_take]; congr 1; omega⟩)
    simpa [posH, List.getElem?_eq_getElem hlt] using this
  · intro h n hn
    rw [List.mem_drop_iff_getElem] at hn
    obtain ⟨j, hj, rfl⟩ := hn
    simp only [List.length_take] at hj
    have := h (i + j + 1) (by omega) (by omega)
    simp only [posH, List.getElem?_eq_getElem (show i + j < ns.length by omega)] at this
    simpa [List.getElem_take] using this
theorem nxt_stage0 {ns : List Nd} {p i k : Nat} (nw : Nd) (hi : i ≤ p) (hp : p ≤ ns.length) : nxt k ((stage ns p nw 0).drop i) = nxt k (ns.drop i) := by
  rw [stage_drop nw 0 hi hp]
  have e : ns.drop i = (ns.take p).drop i ++ ns.drop p := by
    conv => lhs; rw [← List.take_append_drop p ns]
    rw [List.drop_append_of_le_length (by simp; omega)]
  rw [e]
  simp [nxt, List.find?_append]
theorem tower_stage0 {ns : List Nd} {p i h : Nat} (nw : Nd) (hi : i ≤ p) (hp : p ≤ ns.length) : tower h ((stage ns p nw 0).drop i) = tower h (ns.drop i) := by
  unfold tower; congr 1; funext k; exact nxt_stage0 nw hi hp
/-- What a level more turns: one cell of one tower. -/
theorem nxt_stage_hit {ns : List Nd} {p i s : Nat} (nw : Nd) (hi : i ≤ p) (hp : p ≤ ns.length) (h : ∀ j, i < j → j ≤ p → ¬ s < posH ns j) : nxt s ((stage ns p nw (s + 1)).drop i) = .pointer (some ⟨nw.b, 0, none⟩) := by
  rw [stage_drop nw _ hi hp]
  simp [nxt, List.find?_append, List.find?_cons, (find_none hp).2 h]
theorem nxt_stage_miss {ns : List Nd} {p i k s : Nat} (nw : Nd) (hi : i ≤ p) (hp : p ≤ ns.length) (h : k = s → ¬ ∀ j, i < j → j ≤ p → ¬ s < posH ns j) : nxt k ((stage ns p nw (s + 1)).drop i) = nxt k ((stage ns p nw s).drop i) := by
  rw [stage_drop nw _ hi hp, stage_drop nw _ hi hp]
  simp only [nxt, List.find?_append, List.find?_cons]
  by_cases hk : k = s
  · subst hk
    cases hf : ((ns.take p).drop i).find? (fun n => decide (k < n.h)) with
    | none => exact absurd ((find_none hp).1 hf) (h rfl)
    | some n => simp
  · have : decide (k < s + 1) = decide (k < s) := decide_eq_decide.2 (by omega)
    rw [this]
    cases ((ns.take p).drop i).find? (fun n => decide (k < n.h)) <;> cases decide (k < s) <;> simp
/-- The tower of the position that a level more turns, and the towers of the others. -/
theorem tower_hit {ns : List Nd} {p i s : Nat} (nw : Nd) (hp : p ≤ ns.length) (h : LastP ns s p i) : tower (posH ns i) ((stage ns p nw (s + 1)).drop i) = (tower (posH ns i) ((stage ns p nw s).drop i)).set s (.pointer (some ⟨nw.b, 0, none⟩)) := by
  apply List.ext_getElem?
  intro k
  by_cases hk : k < posH ns i
  · rw [tower_at _ hk, List.getElem?_set]
    by_cases e : s = k
    · subst e
      rw [if_pos rfl, if_pos (by rw [tower_len]; exact hk), nxt_stage_hit nw h.le hp h.after]
    · rw [if_neg e, tower_at _ hk, nxt_stage_miss nw h.le hp (fun h' => absurd h'.symm e)]
  · rw [List.getElem?_eq_none (by rw [tower_len]; omega), List.getElem?_eq_none (by rw [List.length_set, tower_len]; omega)]
theorem tower_miss {ns : List Nd} {p i j s : Nat} (nw : Nd) (hp : p ≤ ns.length) (h : LastP ns s p i) (hj : j ≤ p) (hne : j ≠ i) : tower (posH ns j) ((stage ns p nw (s + 1)).drop j) = tower (posH ns j) ((stage ns p nw s).drop j) := by
  apply List.ext_getElem?
  intro k
  by_cases hk : k < posH ns j
  · rw [tower_at _ hk, tower_at _ hk, nxt_stage_miss nw hj hp]
    intro e hall
    subst e
    exact hne (LastP.uniq ⟨hj, hk, hall⟩ h)
  · rw [List.getElem?_eq_none (by rw [tower_len]; omega), List.getElem?_eq_none (by rw [tower_len]; omega)]
/-- Behind the last position up to p that reaches level s comes what comes behind p. -/
theorem nxt_last {ns : List Nd} {p i s : Nat} (nw : Nd) (hp : p ≤ ns.length) (h : LastP ns s p i) : nxt s ((stage ns p nw s).drop i) = nxt s (ns.drop p) := by
  rw [stage_drop nw _ h.le hp]
  simp [nxt, List.find?_append, List.find?_cons, (find_none hp).2 h.after]
end Go.Proofs.Ytblbddamebbgaaa.K

/- The table in memory: how it lies in blocks, what is read of it. -/
namespace Go.Proofs.Ytblbddamebbgaaa.K
open Go Go.RowKit
set_option linter.unusedVariables false
set_option linter.unusedSectionVars false
set_option linter.unusedSimpArgs false

def nodeCells (n : Nd) : List Value := cellsOf n.e n.bv ++ [.slice (some ⟨n.a, 0, none⟩) n.h n.h]
def tabCells (ha hgt cnt : Nat) (dv : Value) (sz : Int) : List Value :=
  [.string ⟨#[]⟩, .int .u64 0, .bool false, .slice none 0 0, .slice (some ⟨ha, 0, none⟩) 12 12, .func (.func 64) #[] #[], .int .i64 hgt, .int .i64 cnt, dv, .int .i64 sz]
/-- The table's own blocks: itself, the head's tower, the nodes and their towers. -/
def nbs (bt ha : Nat) (ns : List Nd) : List Nat := bt :: ha :: ns.flatMap fun n => [n.b, n.a]
/-- What a table holds: its nodes, the highest tower, how many there are, the draws, the size. -/
structure Td where
  bt : Nat
  ha : Nat
  ns : List Nd
  hgt : Nat
  cnt : Nat
  dv : Value
  ds : List Int
  sz : Int
def Td.nb (t : Td) : List Nat := nbs t.bt t.ha t.ns
structure Tab (O : Nat → Prop) (w : World) (t : Td) : Prop where
  tb : Blk w t.bt (tabCells t.ha t.hgt t.cnt t.dv t.sz) 114
  hd : Blk w t.ha (tower 12 t.ns) 130
  nd : ∀ (i : Nat) (n : Nd), t.ns[i]? = some n → Blk w n.b (nodeCells n) 110 ∧ Blk w n.a (tower n.h (t.ns.drop (i + 1))) 130
  db : (t.ns.map (·.b)).Nodup
  da : (t.ha :: t.ns.map (·.a)).Nodup
  byts : ∀ n ∈ t.ns, Byts (fun k => O k ∧ k ∉ t.nb) w n.bv n.e.v
  own : ∀ k ∈ t.nb, O k
  ok : ∀ n ∈ t.ns, EntOk n.e
  hs : ∀ n ∈ t.ns, 1 ≤ n.h ∧ n.h ≤ 12
  sorted : t.ns.Pairwise fun x y => ltE x.e y.e
  draws : IRow (fun k => O k ∧ k ∉ t.nb) w t.dv t.ds
section
variable {O : Nat → Prop} {w w' : World} {t : Td}
theorem IRow.ck {A : Nat → Prop} {v : Value} {zs : List Int} (h : IRow A w v zs) (hk : CK A w w') : IRow A w' v zs := by
  obtain ⟨ad, cap, e, h1, h2⟩ := h
  refine ⟨ad, cap, e, h1, fun hne => ?_⟩
  obtain ⟨b, o, h3, h4, h5⟩ := h2 hne
  exact ⟨b, o, h3, h4, fun i z hi => hk _ _ h4 (h5 i z hi)⟩
theorem Tab.keep {S : Nat → Prop} (h : Tab O w t) (hk : Keep S w w') (hS : ∀ k, k < w.heap.size → O k → S k) : Tab O w' t where
  tb := h.tb.keep hk (hS _ h.tb.lt (h.own _ (by simp [Td.nb, nbs])))
  hd := h.hd.keep hk (hS _ h.hd.lt (h.own _ (by simp [Td.nb, nbs])))
  nd := fun i n hi => by
    have hm := List.mem_of_getElem? hi
    obtain ⟨h1, h2⟩ := h.nd i n hi
    exact ⟨h1.keep hk (hS _ h1.lt (h.own _ (by simp only [Td.nb, nbs, List.mem_cons, List.mem_flatMap]; exact .inr (.inr ⟨n, hm, by simp⟩)))), h2.keep hk (hS _ h2.lt (h.own _ (by simp only [Td.nb, nbs, List.mem_cons, List.mem_flatMap]; exact .inr (.inr ⟨n, hm, by simp⟩))))⟩
  db := h.db
  da := h.da
  byts := fun n hn => (h.byts n hn).ck (CK.of_keep hk fun k hk' ho => hS k hk' ho.1)
  own := h.own
  ok := h.ok
  hs := h.hs
  sorted := h.sorted
  draws := h.draws.ck (CK.of_keep hk fun k hk' ho => hS k hk' ho.1)
theorem Tab.ext (h : Tab O w t) (hk : Ext w w') : Tab O w' t := h.keep hk fun _ _ _ => trivial
theorem Tab.mono {O' : Nat → Prop} (h : Tab O w t) (hO : ∀ k, k < w.heap.size → O k → O' k) : Tab O' w t where
  tb := h.tb
  hd := h.hd
  nd := h.nd
  db := h.db
  da := h.da
  byts := fun n hn => (h.byts n hn).mono fun k hk ho => ⟨hO k hk ho.1, ho.2⟩
  own := fun k hk => by
    refine hO k ?_ (h.own k hk)
    simp only [Td.nb, nbs, List.mem_cons, List.mem_flatMap] at hk
    rcases hk with rfl | rfl | ⟨n, hn, hk⟩
    · exact h.tb.lt
    · exact h.hd.lt
    · obtain ⟨i, hi, rfl⟩ := List.getElem_of_mem hn
      obtain ⟨h1, h2⟩ := h.nd i _ (List.getElem?_eq_getElem hi)
      simp only [List.mem_cons, List.not_mem_nil, or_false] at hk
      rcases hk with rfl | rfl
      · exact h1.lt
      · exact h2.lt
  ok := h.ok
  hs := h.hs
  sorted := h.sorted
  draws := by
    obtain ⟨ad, cap, e, h1, h2⟩ := h.draws
    refine ⟨ad, cap, e, h1, fun hne => ?_⟩
    obtain ⟨b, o, h3, h4, h5⟩ := h2 hne
    refine ⟨b, o, h3, ⟨hO b ?_ h4.1, h4.2⟩, h5⟩
    cases hz : t.ds with
    | nil => exact absurd hz hne
    | cons z zs => exact World.block_lt_of_cell? w _ (h5 0 z (by rw [hz]; rfl))
/-- Where position i's next pointers lie. -/
theorem Tab.nextAt (h : Tab O w t) (i : Nat) (hi : i ≤ t.ns.length) : w.cell? ⟨posB t.bt t.ns i, 4, none⟩ = some (.slice (some ⟨posA t.ha t.ns i, 0, none⟩) (posH t.ns i) (posH t.ns i)) := by
  cases i with
  | zero => exact h.tb.cell rfl
  | succ i =>
    have hlt : i < t.ns.length := hi
    have := (h.nd i _ (List.getElem?_eq_getElem hlt)).1
    simp only [posB, posA, posH, List.getElem?_eq_getElem hlt, Option.map_some, Option.getD_some]
    exact this.cell rfl
theorem Tab.towerAt (h : Tab O w t) (i : Nat) (hi : i ≤ t.ns.length) : Blk w (posA t.ha t.ns i) (tower (posH t.ns i) (t.ns.drop i)) 130 := by
  cases i with
  | zero => exact h.hd
  | succ i =>
    have hlt : i < t.ns.length := hi
    have := (h.nd i _ (List.getElem?_eq_getElem hlt)).2
    simpa only [posB, posA, posH, List.getElem?_eq_getElem hlt, Option.map_some, Option.getD_some] using this
theorem Tab.cellAt (h : Tab O w t) (i k : Nat) (hi : i ≤ t.ns.length) (hk : k < posH t.ns i) : w.cell? ⟨posA t.ha t.ns i, k, none⟩ = some (nxt k (t.ns.drop i)) := (h.towerAt i hi).cell (tower_at _ hk)
theorem Tab.valAt (h : Tab O w t) (i : Nat) (hi : i < t.ns.length) : Cells w (posB t.bt t.ns (i + 1)) 0 (cellsOf t.ns[i].e t.ns[i].bv) := by
  have := (h.nd i _ (List.getElem?_eq_getElem hi)).1
  simp only [posB, List.getElem?_eq_getElem hi, Option.map_some, Option.getD_some]
  intro j v hj
  rw [Nat.zero_add]
  refine this.cell ?_
  have hlt := (List.getElem?_eq_some_iff.1 hj).1
  simp only [nodeCells]
  rw [List.getElem?_append_left hlt]; exact hj
end
end Go.Proofs.Ytblbddamebbgaaa.K
