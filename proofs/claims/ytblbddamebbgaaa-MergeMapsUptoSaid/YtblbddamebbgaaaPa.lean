/- A list parted in seven; arrays; remainders. -/
import Derived.Test.YtblbddamebbgaaaKy
import Derived.Test.YtblbddamebbgaaaKz
import Derived.Test.YtblbddamebbgaaaKk
namespace Go.Proofs.Ytblbddamebbgaaa.K
open Go Go.RowKit
set_option linter.unusedVariables false
set_option linter.unusedSectionVars false
set_option linter.unusedSimpArgs false

section
variable {P : Program} {m : Nat} {D : List Deferred} {L : Env} {w w' : World} {ty t t' e : TypeId} {x y : Operand} {k : Nat}
theorem x_indexArr {q : IntKind} {i : Int} {b o N : Nat} (hu : P.underlying t = some (.array N e)) (hs : Siz P e k) (hx : ev L x = some (.pointer (some ⟨b, o, none⟩))) (hy : ev L y = some (.int q i)) (h0 : 0 ≤ i) (h1 : i < N) :
    Xv P m D L (.indexAddr t x y) ty w (.pointer (some ⟨b, o + i.toNat * k, none⟩)) w :=
  ⟨nofun, fun _ _ _ _ a h => by simp [execOp, h.ev hx, h.ev hy, Instr.indexAt, asIntOf, run_underlying hu, hs w, h0, h1, add_mk, Instr.sureAddr]⟩
theorem x_rem {q : IntKind} {i j : Int} (hx : ev L x = some (.int q i)) (hy : ev L y = some (.int q j)) (hj : j ≠ 0) : Xv P m D L (.binOp .rem t x y t') ty w (.int q (i.tmod j)) w :=
  ⟨nofun, fun _ _ _ _ a h => by simp [execOp, h.ev hx, h.ev hy, eqGuard, binOp, Op.intDiv, hj]⟩
end
/-- A slice of the entry e with the value bv, made since w0. -/
def Ap2 (w0 : World) (e : Ent) (bv : Value) : VP := fun u w => ∃ bt, u = .slice (some ⟨bt, 0, none⟩) 1 1 ∧ w0.heap.size ≤ bt ∧ Blk w bt (cellsOf e bv) 25
theorem Ap2.stable {w0 : World} {e : Ent} {bv : Value} : Stable (Ap2 w0 e bv) := fun v w w' ⟨bt, h, h2, hB⟩ hx => ⟨bt, h, h2, hB.ext hx⟩
/-- What an append of e to the row rv gives. -/
def ApRow (A : Nat → Prop) (base : Nat) (w0 : World) (rv : Value) (p : List Ent) : VP := fun v w => OwnE A base w v p ∧ (v.ownBlock = rv.ownBlock ∨ ∃ b, v.ownBlock = some b ∧ w0.heap.size ≤ b)
section
variable {F : Fence} {n m : Nat} {Q : Exit → Act → World → Prop} {D : List Deferred} {L : Env} {w0 : World} {ops : List Oper} {rest : List Oper} {d s i sp : Nat} {ty : TypeId} {pos : String} {af : Array Edge} {e : Ent} {bv rv : Value} {K : Env → List (Nat × VP) → Prop} {V : List (Nat × VP)} {S A : Nat → Prop} {base : Nat} {p : List Ent}
theorem qs_build2 (hne : i ≠ sp) (hS : ∀ k, w0.heap.size ≤ k → S k) (hd : Nat.blt d m = true) (hno : at' L d = none) (hv : ev L (.tmp s) = some (.agg (cellsOf e bv).toArray)) (k : QWS S sp F n Try.prog m D ops w0 K (i + 1) rest L ((d, Ap2 w0 e bv) :: V)) :
    QWS S sp F n Try.prog m D ops w0 K i (⟨some d, .buildSlice 26 1 #[(0, .tmp s)], ty, pos, af, none⟩ :: rest) L V :=
  qs_valp hne (fun v w w' ⟨bt, h, h2, hB⟩ hk => ⟨bt, h, h2, hB.keep hk (fun _ => hS _ h2)⟩) rfl hd hno (fun w' hw => by
    obtain ⟨b, w'', hx, h1, h2, h3⟩ := x_buildSlice (P := Try.prog) (m := m) (D := D) (w := w') (ty := ty) (L := L) (vs := [.agg (cellsOf e bv).toArray]) (sz := 4) (len := 1) (parts := [(0, .tmp s)]) Try.underlying26 ag25.siz Try.zeroValue25 (by simp only [partsOk, hv]; rfl) rfl rfl (by decide)
    exact ⟨_, w'', hx, ⟨b, rfl, Nat.le_trans hw.size h1, h2⟩, h3⟩) k
theorem qs_append2 {r : Nat} (hi : i = sp) (hd : Nat.blt d m = true) (hno : at' L d = none) (hrs : r ≠ s) (hr : at' L r = some rv) (hs : (s, Ap2 w0 e bv) ∈ V) (hO : OwnE A base w0 rv p) (hl : p.length < 1099511627776) (hb : Byts (fun k => A k ∧ some k ≠ rv.ownBlock) w0 bv e.v) (he : EntOk e) (hbase : base ≤ w0.heap.size)
    (k : QWS (fun k => some k ≠ rv.ownBlock) sp F n Try.prog m D ops w0 K (i + 1) rest L ((d, ApRow A base w0 rv (p ++ [e])) :: V)) :
    QWS (fun k => some k ≠ rv.ownBlock) sp F n Try.prog m D ops w0 K i (⟨some d, .call ⟨.builtin .append, #[.tmp r, .tmp s], #[26, 26]⟩, ty, pos, af, none⟩ :: rest) L V :=
  qs_sp hi (fun v w w' ⟨h1, h2⟩ hk => ⟨h1.keep hk (fun _ _ h => by cases h) (fun _ _ _ h => by cases h), h2⟩) rfl hd hno hs (List.mem_append_left _ (List.mem_filterMap.2 ⟨.tmp s, by simp [Op.operands, Call.operands], rfl⟩)) (fun w' u hw hu => by
    obtain ⟨bt, rfl, hbt, hB⟩ := hu
    obtain ⟨v', w'', hrun, h1, h2, h3⟩ := run_append1 (ty := ty) (hO.ext hw) hl hB (hb.ext hw) he (Nat.le_trans hbase hw.size)
    refine ⟨v', w'', ⟨nofun, fun _ _ _ _ a h => ?_⟩, ⟨h1, h3.imp_right fun ⟨b, e, hb⟩ => ⟨b, e, Nat.le_trans hw.size hb⟩⟩, h2⟩
    have e1 : a.eval (.tmp r) = rv := h.ev (x := .tmp r) (by show at' _ _ = _; rw [at_cons, if_neg (Ne.symm hrs)]; exact hr)
    have e2 : a.eval (.tmp s) = .slice (some ⟨bt, 0, none⟩) 1 1 := h.ev (x := .tmp s) (by show at' _ _ = _; rw [at_cons, if_pos rfl])
    simp [execOp, resolve, e1, e2, invoke, builtin, hrun]) k
end

/-! ### the parts -/
def partF (f : Nat → Nat) (n : Nat) : Nat → List Ent → List Ent
  | _, [] => []
  | o, e :: es => if f o = n then e :: partF f n (o + 1) es else partF f n (o + 1) es
theorem partF_snoc (f : Nat → Nat) (n : Nat) (e : Ent) : ∀ (es : List Ent) (o : Nat), partF f n o (es ++ [e]) = partF f n o es ++ (if f (o + es.length) = n then [e] else [])
  | [], o => by simp [partF]
  | x :: es, o => by
    simp only [List.cons_append, partF, partF_snoc f n e es (o + 1), List.length_cons]
    rw [show o + 1 + es.length = o + (es.length + 1) from by omega]
    split <;> simp
theorem partF_sub (f : Nat → Nat) (n : Nat) : ∀ (es : List Ent) (o : Nat), (partF f n o es).Sublist es
  | [], _ => by simp [partF]
  | x :: es, o => by
    simp only [partF]
    split
    · exact (partF_sub f n es (o + 1)).cons_cons x
    · exact (partF_sub f n es (o + 1)).cons x
theorem partF_mem (f : Nat → Nat) (n : Nat) {x : Ent} : ∀ (es : List Ent) (o : Nat), x ∈ partF f n o es ↔ ∃ i, es[i]? = some x ∧ f (o + i) = n
  | [], o => by simp [partF]
  | y :: es, o => by
    have ih := partF_mem f n (x := x) es (o + 1)
    simp only [partF]
    constructor
    · intro h
      by_cases hf : f o = n
      · rw [if_pos hf] at h
        rcases List.mem_cons.1 h with rfl | h
        · exact ⟨0, rfl, hf⟩
        · obtain ⟨i, h1, h2⟩ := ih.1 h
          exact ⟨i + 1, by simpa using h1, by rw [← h2]; congr 1; omega⟩
      · rw [if_neg hf] at h
        obtain ⟨i, h1, h2⟩ := ih.1 h
        exact ⟨i + 1, by simpa using h1, by rw [← h2]; congr 1; omega⟩
    · rintro ⟨i, h1, h2⟩
      cases i with
      | zero =>
        simp at h1; subst h1
        rw [if_pos (by simpa using h2)]; simp
      | succ i =>
        have : x ∈ partF f n (o + 1) es := ih.2 ⟨i, by simpa using h1, by rw [← h2]; congr 1; omega⟩
        split
        · exact List.mem_cons_of_mem _ this
        · exact this
def parts7 (f : Nat → Nat) (es : List Ent) : List (List Ent) := (List.range 7).map fun n => partF f n 0 es
theorem parts7_at {f : Nat → Nat} {es : List Ent} {n : Nat} (h : n < 7) : (parts7 f es)[n]? = some (partF f n 0 es) := by simp [parts7, List.getElem?_map, List.getElem?_range h]
theorem parts7_len (f : Nat → Nat) (es : List Ent) : (parts7 f es).length = 7 := by simp [parts7]
theorem parts7_snoc {f : Nat → Nat} {es : List Ent} {s : Nat} (h : s < es.length) : parts7 f (es.take (s + 1)) = (parts7 f (es.take s)).set (f s) (partF f (f s) 0 (es.take s) ++ [es[s]]) := by
  refine List.ext_getElem? fun n => ?_
  by_cases hn : n < 7
  · rw [parts7_at hn, List.take_add_one, List.getElem?_eq_getElem h, Option.toList, partF_snoc, Nat.zero_add, List.length_take, Nat.min_eq_left (by omega)]
    by_cases he : f s = n
    · rw [he, List.getElem?_set_self (by rw [parts7_len]; exact hn)]; simp
    · rw [List.getElem?_set_ne he, parts7_at hn, if_neg he, List.append_nil]
  · rw [List.getElem?_eq_none (by rw [parts7_len]; omega), List.getElem?_eq_none (by rw [List.length_set, parts7_len]; omega)]
theorem parts_right {f : Nat → Nat} {es : List Ent} (h : rightB es = true) : (parts7 f es).all rightB = true := by
  obtain ⟨h1, h2⟩ := rightB_iff.1 h
  refine List.all_eq_true.2 fun l hl => ?_
  obtain ⟨n, -, rfl⟩ := List.mem_map.1 hl
  exact rightB_iff.2 ⟨fun e he => h1 e ((partF_sub f n es 0).subset he), List.Pairwise.sublist (partF_sub f n es 0) h2⟩
theorem sorted_index {es : List Ent} (h : Sorted es) {i j : Nat} {x y : Ent} (hi : es[i]? = some x) (hj : es[j]? = some y) (hs : sameE x y) : i = j := by
  obtain ⟨hil, rfl⟩ := List.getElem?_eq_some_iff.1 hi
  obtain ⟨hjl, rfl⟩ := List.getElem?_eq_some_iff.1 hj
  rcases Nat.lt_trichotomy i j with h' | h' | h'
  · exact absurd hs (ltE_not_same (List.pairwise_iff_getElem.1 h i j hil hjl h'))
  · exact h'
  · exact absurd (same_symm hs) (ltE_not_same (List.pairwise_iff_getElem.1 h j i hjl hil h'))
theorem parts_law {f : Nat → Nat} {es : List Ent} (hf : ∀ i, f i < 7) (h : rightB es = true) : mrg (parts7 f es) = es := by
  have hs := (rightB_iff.1 h).2
  have hall := all_sorted (parts_right (f := f) h)
  refine sorted_ext _ _ (mrg_sorted hall) hs fun x => ?_
  rw [mrg_mem hall]
  constructor
  · rintro ⟨n, l, hl, hx, -⟩
    have hn : n < 7 := by have := (List.getElem?_eq_some_iff.1 hl).1; rwa [parts7_len] at this
    rw [parts7_at hn] at hl
    cases hl
    exact (partF_sub f n es 0).subset hx
  · intro hx
    obtain ⟨i, hi⟩ := List.getElem?_of_mem hx
    refine ⟨f i, _, parts7_at (hf i), (partF_mem f (f i) es 0).2 ⟨i, hi, by rw [Nat.zero_add]⟩, fun j l' hj hl' y hy hyx => ?_⟩
    have hn := hf i
    rw [parts7_at (by omega)] at hl'
    cases hl'
    obtain ⟨i', hi', hf'⟩ := (partF_mem f j es 0).1 hy
    have := sorted_index hs hi' hi hyx
    subst this
    rw [Nat.zero_add] at hf'
    omega
theorem tot_le_mul : ∀ (ls : List (List Ent)) (n : Nat), (∀ l ∈ ls, l.length ≤ n) → tot ls ≤ ls.length * n
  | [], _, _ => by simp [tot]
  | l :: ls, n, h => by
    have h1 := h l (by simp)
    have h2 := tot_le_mul ls n fun x hx => h x (by simp [hx])
    simp only [tot, List.length_cons, Nat.succ_mul]; omega
theorem parts_tot (f : Nat → Nat) (es : List Ent) : tot (parts7 f es) ≤ 7 * es.length := by
  have := tot_le_mul (parts7 f es) es.length fun l hl => by
    obtain ⟨n, -, rfl⟩ := List.mem_map.1 hl
    exact (partF_sub f n es 0).length_le
  rwa [parts7_len] at this
/-- Which part: the remainder of 7, without its sign. -/
def pidx (zs : List Int) (i : Nat) : Nat := if i < zs.length then ((zs.getD i 0).tmod 7).natAbs else 0
theorem tmod7 (z : Int) : -7 < z.tmod 7 ∧ z.tmod 7 < 7 := ⟨Int.lt_tmod_of_pos z (by decide), Int.tmod_lt_of_pos z (by decide)⟩
theorem pidx_lt (zs : List Int) (i : Nat) : pidx zs i < 7 := by
  unfold pidx
  split
  · have := tmod7 (zs.getD i 0); omega
  · decide

/-! ### seven rows in an array -/
structure Sev (A : Nat → Prop) (base : Nat) (w : World) (b : Nat) (ps : List (List Ent)) : Prop where
  len : ps.length = 7
  ex : ∃ vals, vals.length = 7 ∧ Blk w b vals 69 ∧ (∀ (n : Nat) (v : Value) (p : List Ent), vals[n]? = some v → ps[n]? = some p → OwnE A base w v p) ∧ ∀ (i j : Nat) (v u : Value) (g : Nat), i ≠ j → vals[i]? = some v → vals[j]? = some u → v.ownBlock = some g → u.ownBlock ≠ some g
theorem Sev.ext {A : Nat → Prop} {base : Nat} {w w' : World} {b : Nat} {ps : List (List Ent)} (h : Sev A base w b ps) (hx : Ext w w') : Sev A base w' b ps := by
  obtain ⟨h1, vals, h2, h3, h4, h5⟩ := h
  exact ⟨h1, vals, h2, h3.ext hx, fun n v p hv hp => (h4 n v p hv hp).ext hx, h5⟩
theorem Sev.start {A : Nat → Prop} {base : Nat} {w : World} {b : Nat} (f : Nat → Nat) (hB : Blk w b [.slice none 0 0, .slice none 0 0, .slice none 0 0, .slice none 0 0, .slice none 0 0, .slice none 0 0, .slice none 0 0] 69) : Sev A base w b (parts7 f []) := by
  have hv : ∀ (n : Nat) (v : Value), [Value.slice none 0 0, .slice none 0 0, .slice none 0 0, .slice none 0 0, .slice none 0 0, .slice none 0 0, .slice none 0 0][n]? = some v → v = .slice none 0 0 := fun n v h => by
    have := List.mem_of_getElem? h
    simpa using this
  refine ⟨parts7_len _ _, _, rfl, hB, fun n v p h hp => ?_, fun i j v u g _ h _ hg => ?_⟩
  · obtain rfl := hv n v h
    have hn : n < 7 := by have := (List.getElem?_eq_some_iff.1 hp).1; rwa [parts7_len] at this
    rw [parts7_at hn] at hp
    cases hp
    exact own_nil _ _ _
  · obtain rfl := hv i v h
    cases hg
theorem Sev.step {A : Nat → Prop} {base : Nat} {w wA wS : World} {b n : Nat} {ps : List (List Ent)} {vals : List Value} {v v' : Value} {p' : List Ent} (hA : ∀ k, A k → k < base) (hb : base ≤ b) (hl : ps.length = 7) (hvl : vals.length = 7) (hB : Blk w b vals 69)
    (hO : ∀ (n : Nat) (v : Value) (p : List Ent), vals[n]? = some v → ps[n]? = some p → OwnE A base w v p) (hd : ∀ (i j : Nat) (v u : Value) (g : Nat), i ≠ j → vals[i]? = some v → vals[j]? = some u → v.ownBlock = some g → u.ownBlock ≠ some g) (hn : n < 7) (hv : vals[n]? = some v)
    (hO2 : OwnE A base wA v' p') (hkA : Keep (fun k => some k ≠ v.ownBlock) w wA) (hcA : v'.ownBlock = v.ownBlock ∨ ∃ b, v'.ownBlock = some b ∧ w.heap.size ≤ b) (hBA : Blk wA b vals 69) (hBS : Blk wS b (vals.set n v') 69) (hkS : Keep (· ≠ b) wA wS) : Sev A base wS b (ps.set n p') := by
  have hpn : ps[n]? = some (ps[n]'(by omega)) := List.getElem?_eq_getElem _
  have hOn := hO n v _ hv hpn
  have hAb : ∀ k, A k → k ≠ b := fun k h => by have := hA k h; omega
  have hlt : ∀ (j : Nat) (u : Value) (g : Nat), vals[j]? = some u → u.ownBlock = some g → g < w.heap.size := fun j u g hu hg => by
    have hj : j < 7 := by have := (List.getElem?_eq_some_iff.1 hu).1; omega
    exact ((hO j u _ hu (List.getElem?_eq_getElem (show j < ps.length by omega))).lt g hg).2
  refine ⟨by simpa using hl, vals.set n v', by simpa using hvl, hBS, fun j u p hu hp => ?_, fun i j a c g hij ha hc hg => ?_⟩
  · by_cases e : n = j
    · subst e
      rw [List.getElem?_set_self (by omega)] at hu hp
      cases hu; cases hp
      exact hO2.keep hkS (hO2.ne hBA (by decide)) (fun k _ h => hAb k h)
    · rw [List.getElem?_set_ne e] at hu hp
      have h1 := (hO j u p hu hp).keep hkA (fun g hg e' => hd j n u v g (Ne.symm e) hu hv hg e'.symm) (fun k _ h e' => by have := (hOn.lt k e'.symm).1; have := hA k h; omega)
      exact h1.keep hkS (h1.ne hBA (by decide)) (fun k _ h => hAb k h)
  · by_cases e : n = i
    · subst e
      rw [List.getElem?_set_self (by omega)] at ha
      cases ha
      rw [List.getElem?_set_ne hij] at hc
      rcases hcA with h | ⟨b', h, h'⟩
      · exact hd n j v c g hij hv hc (by rw [← h]; exact hg)
      · intro hcg
        have := hlt j c g hc hcg
        rw [h] at hg; cases hg; omega
    · rw [List.getElem?_set_ne e] at ha
      by_cases e2 : n = j
      · subst e2
        rw [List.getElem?_set_self (by omega)] at hc
        cases hc
        rcases hcA with h | ⟨b', h, h'⟩
        · rw [h]; exact hd i n a v g hij ha hv hg
        · intro hcg
          have := hlt i a g ha hg
          rw [h] at hcg; cases hcg; omega
      · rw [List.getElem?_set_ne e2] at hc
        exact hd i j a c g hij ha hc hg
/-- The slice v holds the numbers zs. -/
def IRow (A : Nat → Prop) (w : World) (v : Value) (zs : List Int) : Prop := ∃ ad cap, v = .slice ad zs.length cap ∧ zs.length ≤ 1099511627776 ∧ (zs ≠ [] → ∃ b o, ad = some ⟨b, o, none⟩ ∧ A b ∧ ∀ (i : Nat) (z : Int), zs[i]? = some z → w.cell? ⟨b, o + i, none⟩ = some (.int .i64 z))
theorem IRow.ext {A : Nat → Prop} {w w' : World} {v : Value} {zs : List Int} (h : IRow A w v zs) (hx : Ext w w') : IRow A w' v zs := by
  obtain ⟨ad, cap, rfl, h1, h⟩ := h
  exact ⟨ad, cap, rfl, h1, fun hne => by obtain ⟨b, o, e, hA, hc⟩ := h hne; exact ⟨b, o, e, hA, fun i z hi => hx.cell (hc i z hi)⟩⟩
theorem IRow.form {A : Nat → Prop} {w : World} {v : Value} {zs : List Int} (h : IRow A w v zs) : ∃ ad cap, v = .slice ad zs.length cap ∧ zs.length ≤ 1099511627776 := by obtain ⟨ad, cap, e, h1, -⟩ := h; exact ⟨ad, cap, e, h1⟩
theorem IRow.at {A : Nat → Prop} {w : World} {v : Value} {zs : List Int} (h : IRow A w v zs) (i : Nat) (hi : i < zs.length) : ∃ b o cap, v = .slice (some ⟨b, o, none⟩) zs.length cap ∧ Cells w b (o + i * 1) [.int .i64 zs[i]] := by
  obtain ⟨ad, cap, rfl, h1, h⟩ := h
  obtain ⟨b, o, rfl, hA, hc⟩ := h (by rintro rfl; simp at hi)
  refine ⟨b, o, cap, rfl, fun j u hj => ?_⟩
  have : j = 0 := by have := (List.getElem?_eq_some_iff.1 hj).1; simp at this; omega
  subst this
  simp at hj
  subst hj
  rw [Nat.mul_one, Nat.add_zero]
  exact hc i _ (List.getElem?_eq_getElem hi)
theorem pidx_in {zs : List Int} {i : Nat} (h : i < zs.length) : pidx zs i = (zs[i].tmod 7).natAbs := by
  unfold pidx; rw [if_pos h, List.getD_eq_getElem?_getD, List.getElem?_eq_getElem h]; rfl
theorem pidx_out {zs : List Int} {i : Nat} (h : ¬ i < zs.length) : pidx zs i = 0 := if_neg h
theorem list7 {α : Type} : ∀ {l : List α}, l.length = 7 → ∃ a b c d e f g, l = [a, b, c, d, e, f, g]
  | [a, b, c, d, e, f, g], _ => ⟨a, b, c, d, e, f, g, rfl⟩
end Go.Proofs.Ytblbddamebbgaaa.K
