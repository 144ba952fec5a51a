/- My own walking rules (part 3): a region that draws its order: a first part whose operations may come in any order, and a tail whose order is forced. No program is named here. -/
import Derived.Test.YtiaikajibefieaaKb
namespace Go.Proofs.Ytiaikajibefieaa.K
open Go Go.RowKit
set_option linter.unusedVariables false
set_option linter.unusedSectionVars false
set_option linter.unusedSimpArgs false

def needsL (o : Oper) : List Nat := (o.after.toList.filter (fun e => Region.binds .any e)).map (·.on)
/-- What comes before what, as bits. -/
def mk (acc : List Nat) (l : List Nat) : Nat := l.foldl (fun s j => s ||| (2 ^ j ||| acc.getD j 0)) 0
def masks : List Oper → List Nat → List Nat
  | [], acc => acc
  | o :: rest, acc => masks rest (acc ++ [mk acc (needsL o)])
def isTmp : Operand → Option Tmp
  | .tmp t => some t
  | _ => none
/-- The slots that an operation looks at. -/
def looks (ops : List Oper) (o : Oper) : List Tmp :=
  o.op.operands.toList.filterMap isTmp ++ (match o.guard with
   | some (j, _) => match gdst ops j with
     | some d => [d]
     | none => []
   | none => [])
def plainOp : Op → Bool
  | .select .. | .defer .. => false
  | _ => true
def dstsOk : List Oper → Bool
  | [] => true
  | o :: rest => (match o.dst with
    | some d => rest.all fun o' => o'.dst != some d
    | none => true) && dstsOk rest
def needsAt (ops : List Oper) (i : Nat) : List Nat := match ops[i]? with
  | some o => needsL o
  | none => []
/-- The first N may come in any order; behind them the order is forced. -/
def freeOk (ops : List Oper) (N : Nat) : Bool :=
  ((List.range ops.length).all fun i => (needsAt ops i).all fun j => Nat.blt j i) &&
  dstsOk (ops.take N) &&
  ((List.range N).all fun i => match ops[i]? with
    | some o => plainOp o.op && (looks ops o).all fun s => (List.range N).all fun j => gdst ops j != some s || (needsL o).contains j || (needsAt ops j).contains i
    | none => false) &&
  (let ms := masks ops []
   (List.range ops.length).all fun t => Nat.blt t N || (List.range t).all fun j => (ms.getD t 0).testBit j)

section masks
variable {ops : List Oper}
def PC (ops : List Oper) (ls : Nat → Bool) : Prop := ∀ i o, ops[i]? = some o → ls i = true → ∀ j ∈ needsL o, ls j = true
def Cl (ops : List Oper) (i mask : Nat) : Prop := ∀ ls : Nat → Bool, PC ops ls → (∀ o, ops[i]? = some o → ∀ j ∈ needsL o, ls j = true) → ∀ j, mask.testBit j = true → ls j = true
theorem mk_bit (acc : List Nat) (j : Nat) : ∀ (l : List Nat) (s : Nat), (l.foldl (fun s j => s ||| (2 ^ j ||| acc.getD j 0)) s).testBit j = true → s.testBit j = true ∨ ∃ i ∈ l, i = j ∨ (acc.getD i 0).testBit j = true
  | [], s, h => .inl h
  | i :: l, s, h => by
    rcases mk_bit acc j l _ h with h | ⟨i', hi', h⟩
    · rw [Nat.testBit_or, Nat.testBit_or, Bool.or_eq_true, Bool.or_eq_true] at h
      rcases h with h | h | h
      · exact .inl h
      · rw [Nat.testBit_two_pow] at h
        exact .inr ⟨i, by simp, .inl (by simpa using h)⟩
      · exact .inr ⟨i, by simp, .inr h⟩
    · exact .inr ⟨i', by simp [hi'], h⟩
theorem masks_ok : ∀ (rest : List Oper) (acc : List Nat) (pre : List Oper), ops = pre ++ rest → pre.length = acc.length → (∀ i, i < acc.length → Cl ops i (acc.getD i 0)) →
    ∀ i, i < ops.length → Cl ops i ((masks rest acc).getD i 0)
  | [], acc, pre, he, hl, hc, i, hi => hc i (by rw [he] at hi; simp at hi; omega)
  | o :: rest, acc, pre, he, hl, hc, i, hi => by
    refine masks_ok rest (acc ++ [mk acc (needsL o)]) (pre ++ [o]) (by simp [he]) (by simp [hl]) (fun i hi' => ?_) i hi
    by_cases hlt : i < acc.length
    · have : (acc ++ [mk acc (needsL o)]).getD i 0 = acc.getD i 0 := by simp [List.getD_eq_getElem?_getD, List.getElem?_append_left hlt]
      rw [this]; exact hc i hlt
    · have e : i = acc.length := by simp at hi'; omega
      subst e
      have ho : ops[acc.length]? = some o := by rw [he, ← hl]; simp
      have : (acc ++ [mk acc (needsL o)]).getD acc.length 0 = mk acc (needsL o) := by simp [List.getD_eq_getElem?_getD]
      rw [this]
      intro ls hpc hn j hj
      rcases mk_bit acc j (needsL o) 0 hj with h | ⟨i', hi', h⟩
      · simp at h
      · have h1 := hn o ho i' hi'
        rcases h with rfl | h
        · exact h1
        · by_cases hlt' : i' < acc.length
          · exact hc i' hlt' ls hpc (fun o' ho' => hpc i' o' ho' h1) j h
          · have : acc.getD i' 0 = 0 := by simp [List.getD_eq_getElem?_getD, List.getElem?_eq_none (by omega : acc.length ≤ i')]
            rw [this] at h; simp at h
end masks

/-- What a free operation does, told of its operands alone. -/
inductive Does (F : Fence) (n : Nat) (P : Program) (ρ : Operand → Value) (o : Oper) (w : World) (R : Value → World → Prop) : Prop
  | val (v : Value) (w' : World) (h : (execOp ρ o).run P w = .ok (.value v) w') (hr : R v w') : Does F n P ρ o w R
  | call (f : FuncId) (args : Array Value) (w' : World) (h : (execOp ρ o).run P w = .ok (.enter f args) w') (hc : CallsIn F (n - 1) P f args w' (ok1 R)) : Does F n P ρ o w R

abbrev VP := Value → World → Prop
def Stable (p : VP) : Prop := ∀ v w w', p v w → Ext w w' → p v w'
inductive Sp
  | c (v : Value)
  | p (q : VP)
def Sp.holds : Sp → VP
  | .c v => fun u _ => u = v
  | .p q => q
/-- A free operation, in a frame that holds L and whatever world that has grown from w0. -/
def Free1 (F : Fence) (n : Nat) (P : Program) (m : Nat) (D : List Deferred) (ops : List Oper) (w0 : World) (o : Oper) (L : Env) (V : List (Nat × VP)) (R : VP) : Prop :=
  ∀ w', Ext w0 w' → ∀ a, Fr m D a L → (∀ q ∈ V, q.1 ∈ looks ops o → ∃ v, a.tmps[q.1]? = some v ∧ q.2 v w') → (Region.wanted o (yielded ops.toArray a.tmps) = true ∧ Does F n P a.eval o w' (fun v w'' => R v w'' ∧ Ext w' w'')) ∨ (Region.wanted o (yielded ops.toArray a.tmps) = false ∧ R undef w')
/-- One walk through the free operations, in the text's order: what each yields (a value that is the same in all these worlds, or one of which p holds); K: what is then to be shown. -/
def QW (F : Fence) (n : Nat) (P : Program) (m : Nat) (D : List Deferred) (ops : List Oper) (w0 : World) (K : Env → List (Nat × VP) → Prop) : List Oper → Env → List (Nat × VP) → Prop
  | [], L, V => K L V
  | o :: rest, L, V => ∃ d, o.dst = some d ∧ Nat.blt d m = true ∧
      ((∃ c, Free1 F n P m D ops w0 o L V (fun v _ => v = c) ∧ QW F n P m D ops w0 K rest ((d, c) :: L) V) ∨
       (∃ p, Stable p ∧ at' L d = none ∧ Free1 F n P m D ops w0 o L V p ∧ QW F n P m D ops w0 K rest L ((d, p) :: V)))
/-- The tail, whatever the values are of which only p is known. -/
def Tail (F : Fence) (n : Nat) (P : Program) (Q : Exit → Act → World → Prop) (m : Nat) (D : List Deferred) (ops tail : List Oper) (w0 : World) (L : Env) (V : List (Nat × VP)) : Prop :=
  ∀ w', Ext w0 w' → ∀ (L' : Env), (∀ q ∈ V, ∃ v, at' L' q.1 = some v ∧ q.2 v w') → Sub L L' → WL F n P Q m D ops tail L' w'

section
variable {F : Fence} {n : Nat} {P : Program} {Q : Exit → Act → World → Prop} {m : Nat} {D : List Deferred} {ops : List Oper} {w0 : World} {a0 : Act} {L0 : Env}

/-- The constants that the operations before number i give. -/
def Lc (ops : List Oper) (S : Nat → Sp) (L : Env) : Nat → Env
  | 0 => L
  | i + 1 => match gdst ops i, S i with
    | some d, .c v => (d, v) :: Lc ops S L i
    | _, _ => Lc ops S L i
def Vc (ops : List Oper) (S : Nat → Sp) (V : List (Nat × VP)) : Nat → List (Nat × VP)
  | 0 => V
  | i + 1 => match gdst ops i, S i with
    | some d, .p q => (d, q) :: Vc ops S V i
    | _, _ => Vc ops S V i
structure Ob (F : Fence) (n : Nat) (P : Program) (m : Nat) (D : List Deferred) (ops : List Oper) (w0 : World) (S : Nat → Sp) (L : Env) (V : List (Nat × VP)) (i : Nat) (o : Oper) : Prop where
  stable : Stable (S i).holds
  slot : ∃ d, o.dst = some d ∧ Nat.blt d m = true ∧ (∀ q, S i = .p q → at' (Lc ops S L i) d = none)
  does : Free1 F n P m D ops w0 o (Lc ops S L i) (Vc ops S V i) (S i).holds

theorem stable_c (c : Value) : Stable (Sp.c c).holds := fun _ _ _ h _ => h

theorem qw_specs {K : Env → List (Nat × VP) → Prop} {L : Env} {V : List (Nat × VP)} : ∀ (rest : List Oper) (i : Nat) (S : Nat → Sp), (∀ j o, rest[j]? = some o → ops[i + j]? = some o) →
    QW F n P m D ops w0 K rest (Lc ops S L i) (Vc ops S V i) →
    ∃ S' : Nat → Sp, (∀ j, j < i → S' j = S j) ∧ (∀ j o, i ≤ j → rest[j - i]? = some o → Ob F n P m D ops w0 S' L V j o) ∧ K (Lc ops S' L (i + rest.length)) (Vc ops S' V (i + rest.length))
  | [], i, S, ho, h => ⟨S, fun _ _ => rfl, fun j o _ hj => by simp at hj, h⟩
  | o :: rest, i, S, ho, h => by
    have hoi : ops[i]? = some o := by have := ho 0 o (by simp); simpa using this
    have ho' : ∀ j o', rest[j]? = some o' → ops[i + 1 + j]? = some o' := fun j o' hj => by
      have := ho (j + 1) o' (by simpa using hj); rwa [show i + (j + 1) = i + 1 + j from by omega] at this
    obtain ⟨d, hd, hdm, h⟩ := h
    have hg : gdst ops i = some d := by rw [gdst_eq, hoi]; simpa using hd
    have key : ∀ s : Sp, Stable s.holds → (∀ q, s = .p q → at' (Lc ops S L i) d = none) → Free1 F n P m D ops w0 o (Lc ops S L i) (Vc ops S V i) s.holds →
        QW F n P m D ops w0 K rest (Lc ops (fun k => if k = i then s else S k) L (i + 1)) (Vc ops (fun k => if k = i then s else S k) V (i + 1)) →
        ∃ S' : Nat → Sp, (∀ j, j < i → S' j = S j) ∧ (∀ j o', i ≤ j → (o :: rest)[j - i]? = some o' → Ob F n P m D ops w0 S' L V j o') ∧ K (Lc ops S' L (i + (o :: rest).length)) (Vc ops S' V (i + (o :: rest).length)) := by
      intro s hst hnone hf hq
      obtain ⟨S', h1, h2, h3⟩ := qw_specs rest (i + 1) (fun k => if k = i then s else S k) ho' hq
      have hLc : ∀ (S1 S2 : Nat → Sp) k, (∀ j, j < k → S1 j = S2 j) → Lc ops S1 L k = Lc ops S2 L k := by
        intro S1 S2 k
        induction k with
        | zero => intro _; rfl
        | succ k ih => intro he; simp only [Lc]; rw [he k (by omega), ih (fun j hj => he j (by omega))]
      have hVc : ∀ (S1 S2 : Nat → Sp) k, (∀ j, j < k → S1 j = S2 j) → Vc ops S1 V k = Vc ops S2 V k := by
        intro S1 S2 k
        induction k with
        | zero => intro _; rfl
        | succ k ih => intro he; simp only [Vc]; rw [he k (by omega), ih (fun j hj => he j (by omega))]
      have hlow : ∀ j, j < i → S' j = S j := fun j hj => by rw [h1 j (by omega)]; simp [show j ≠ i from by omega]
      have hSi : S' i = s := by rw [h1 i (by omega)]; simp
      refine ⟨S', hlow, fun j o' hij hj => ?_, by rw [List.length_cons, show i + (rest.length + 1) = i + 1 + rest.length from by omega]; exact h3⟩
      by_cases e : j = i
      · subst e
        simp at hj
        subst hj
        have hL := hLc S' S j hlow
        have hV := hVc S' S j hlow
        exact ⟨by rw [hSi]; exact hst, ⟨d, hd, hdm, fun q hq' => by rw [hL]; rw [hSi] at hq'; exact hnone q hq'⟩, by rw [hSi, hL, hV]; exact hf⟩
      · refine h2 j o' (by omega) ?_
        have : j - i = (j - (i + 1)) + 1 := by omega
        rw [this, List.getElem?_cons_succ] at hj
        exact hj
    have hLk : ∀ s : Sp, Lc ops (fun k => if k = i then s else S k) L i = Lc ops S L i := by
      intro s
      have : ∀ k, k ≤ i → Lc ops (fun k => if k = i then s else S k) L k = Lc ops S L k := by
        intro k
        induction k with
        | zero => intro _; rfl
        | succ k ih => intro hk; simp only [Lc]; rw [ih (by omega), if_neg (by omega : k ≠ i)]
      exact this i (Nat.le_refl _)
    have hVk : ∀ s : Sp, Vc ops (fun k => if k = i then s else S k) V i = Vc ops S V i := by
      intro s
      have : ∀ k, k ≤ i → Vc ops (fun k => if k = i then s else S k) V k = Vc ops S V k := by
        intro k
        induction k with
        | zero => intro _; rfl
        | succ k ih => intro hk; simp only [Vc]; rw [ih (by omega), if_neg (by omega : k ≠ i)]
      exact this i (Nat.le_refl _)
    rcases h with ⟨c, hf, hq⟩ | ⟨p, hst, hnone, hf, hq⟩
    · refine key (.c c) (stable_c c) (fun q h => by cases h) hf ?_
      simp only [Lc, Vc, hg, if_pos, hLk, hVk]
      exact hq
    · refine key (.p p) hst (fun _ _ => hnone) hf ?_
      simp only [Lc, Vc, hg, if_pos, hLk, hVk]
      exact hq

/-! ### which operations may come up -/
theorem ready_iff {listed : Array Bool} {i : Nat} : i ∈ Region.ready .any ops.toArray listed ↔ ∃ o, ops[i]? = some o ∧ listed.getD i true = false ∧ ∀ j ∈ needsL o, listed.getD j false = true := by
  unfold Region.ready
  rw [List.mem_filter, List.mem_range]
  simp only [List.size_toArray, List.getElem?_toArray, Bool.and_eq_true, Bool.not_eq_true']
  constructor
  · rintro ⟨hlt, h1, h2⟩
    rw [List.getElem?_eq_getElem hlt] at h2 ⊢
    refine ⟨_, rfl, h1, fun j hj => ?_⟩
    simp only [Option.map_some, Option.getD_some, Array.all_eq_true_iff_forall_mem] at h2
    simp only [needsL, List.mem_map, List.mem_filter] at hj
    obtain ⟨e, ⟨he, hb⟩, rfl⟩ := hj
    have := h2 e (by simpa using he)
    rw [hb] at this
    simpa using this
  · rintro ⟨o, ho, h1, h2⟩
    refine ⟨(List.getElem?_eq_some_iff.1 ho).1, h1, ?_⟩
    simp only [ho, Option.map_some, Option.getD_some, Array.all_eq_true_iff_forall_mem]
    intro e he
    cases hb : Region.binds .any e with
    | false => simp
    | true =>
      have := h2 e.on (by simp only [needsL, List.mem_map, List.mem_filter]; exact ⟨e, ⟨by simpa using he, hb⟩, rfl⟩)
      simpa using this
theorem getD_set {listed : Array Bool} {i j : Nat} {b : Bool} (hi : i < listed.size) : (listed.setIfInBounds i true).getD j b = if i = j then true else listed.getD j b := by
  simp only [Array.getD_eq_getD_getElem?]
  by_cases e : i = j
  · subst e; simp [hi]
  · simp [Array.getElem?_setIfInBounds_ne e, e]

structure Chk (ops : List Oper) (N : Nat) : Prop where
  back : ∀ i o, ops[i]? = some o → ∀ j ∈ needsL o, j < i
  dsts : dstsOk (ops.take N) = true
  free : ∀ i, i < N → ∃ o, ops[i]? = some o ∧ plainOp o.op = true ∧ ∀ s ∈ looks ops o, ∀ j, j < N → gdst ops j = some s → j ∈ needsL o ∨ ∃ oj, ops[j]? = some oj ∧ i ∈ needsL oj
  all : ∀ t, N ≤ t → t < ops.length → ∀ ls : Nat → Bool, PC ops ls → (∀ o, ops[t]? = some o → ∀ j ∈ needsL o, ls j = true) → ∀ j, j < t → ls j = true
theorem chk_of {N : Nat} (h : freeOk ops N = true) : Chk ops N := by
  simp only [freeOk, Bool.and_eq_true, List.all_eq_true, List.mem_range, Bool.or_eq_true] at h
  obtain ⟨⟨⟨h1, h2⟩, h3⟩, h4⟩ := h
  refine ⟨fun i o ho j hj => ?_, h2, fun i hi => ?_, fun t ht hlt ls hpc hn j hj => ?_⟩
  · have := h1 i (List.getElem?_eq_some_iff.1 ho).1
    simp only [needsAt, ho] at this
    simpa using this j hj
  · have := h3 i hi
    split at this
    · rename_i o ho
      simp only [Bool.and_eq_true, List.all_eq_true, List.mem_range, Bool.or_eq_true] at this
      refine ⟨o, ho, this.1, fun s hs j hj hg => ?_⟩
      rcases this.2 s hs j hj with (h | h) | h
      · rw [hg] at h; simp at h
      · exact .inl (by simpa using h)
      · refine .inr ?_
        unfold needsAt at h
        split at h
        · rename_i oj hoj
          exact ⟨oj, hoj, by simpa using h⟩
        · simp at h
    · cases this
  · rcases h4 t hlt with h | h
    · simp at h; omega
    · exact masks_ok ops [] [] rfl rfl (fun i hi => absurd hi (Nat.not_lt_zero _)) t hlt ls hpc hn j (h j hj)

theorem any_tail {N : Nat} (hc : Chk ops N) : ∀ (fuel t : Nat) (listed : Array Bool) (a : Act) (w : World), N ≤ t → t ≤ ops.length → listed.size = ops.length → (∀ i, i < ops.length → listed.getD i false = decide (i < t)) → ops.length - t ≤ fuel →
    wpListIn F n P ops.toArray Q (ops.drop t) a w → wpAnyIn F n P .any ops.toArray Q fuel listed a w := by
  intro fuel
  induction fuel with
  | zero =>
    intro t listed a w hN ht hs hl hf h
    have e : t = ops.length := by omega
    subst e
    rw [List.drop_length] at h
    refine ⟨?_, h⟩
    cases hr : Region.ready .any ops.toArray listed with
    | nil => rfl
    | cons i l =>
      obtain ⟨o, ho, h1, -⟩ := ready_iff.1 (hr ▸ List.mem_cons_self : i ∈ Region.ready .any ops.toArray listed)
      have hi := (List.getElem?_eq_some_iff.1 ho).1
      have := hl i hi
      rw [decide_eq_true hi] at this
      simp only [Array.getD_eq_getD_getElem?] at this h1
      rw [Array.getElem?_eq_getElem (by omega)] at this h1
      simp_all
  | succ fuel ih =>
    intro t listed a w hN ht hs hl hf h
    have hgt : ∀ i b, i < ops.length → listed.getD i b = decide (i < t) := fun i b hi => by
      have := hl i hi
      simp only [Array.getD_eq_getD_getElem?] at this ⊢
      rw [Array.getElem?_eq_getElem (by omega)] at this ⊢
      simpa using this
    have hone : ∀ i, i ∈ Region.ready .any ops.toArray listed → i = t := by
      intro i hi
      obtain ⟨o, ho, h1, h2⟩ := ready_iff.1 hi
      have hilt := (List.getElem?_eq_some_iff.1 ho).1
      rw [hgt i true hilt] at h1
      have hti : t ≤ i := by simpa using h1
      have := hc.all i (by omega) hilt (fun j => decide (j < t)) (fun i' o' ho' hi' j hj => by
        have hb := hc.back i' o' ho' j hj
        have : i' < t := by simpa using hi'
        exact decide_eq_true (by omega)) (fun o' ho' j hj => by
        rw [ho] at ho'
        cases ho'
        have hb := hc.back i o ho j hj
        have h3 := h2 j hj
        rw [hgt j false (by omega)] at h3
        exact h3)
      by_cases e : i = t
      · exact e
      · have := this t (by omega); simp at this
    refine ⟨fun hr => ?_, fun i hi => ?_⟩
    · by_cases e : t = ops.length
      · subst e; rw [List.drop_length] at h; exact h
      · exfalso
        have hlt : t < ops.length := by omega
        have : t ∈ Region.ready .any ops.toArray listed := ready_iff.2 ⟨ops[t], List.getElem?_eq_getElem hlt, by rw [hgt t true hlt]; simp, fun j hj => by
          have hb := hc.back t _ (List.getElem?_eq_getElem hlt) j hj
          rw [hgt j false (by omega)]; exact decide_eq_true hb⟩
        rw [hr] at this
        cases this
    · have e := hone i hi
      subst e
      obtain ⟨o, ho, -, -⟩ := ready_iff.1 hi
      have hlt := (List.getElem?_eq_some_iff.1 ho).1
      have hd : ops.drop i = o :: ops.drop (i + 1) := by
        rw [List.drop_eq_getElem_cons hlt]
        have := (List.getElem?_eq_some_iff.1 ho).2
        rw [this]
      rw [hd] at h
      unfold wpListIn at h
      unfold wpOpIn
      rw [List.getElem?_toArray, ho]
      simp only
      have hnext : ∀ a' w', wpListIn F n P ops.toArray Q (ops.drop (i + 1)) a' w' → wpAnyIn F n P .any ops.toArray Q fuel (listed.setIfInBounds i true) a' w' := fun a' w' h' =>
        ih (i + 1) _ a' w' (by omega) (by omega) (by simp [hs]) (fun k hk => by
          rw [getD_set (by omega), hgt k false hk]
          by_cases e : i = k
          · subst e; simp
          · rw [if_neg e]
            by_cases h1 : k < i
            · rw [decide_eq_true h1, decide_eq_true (by omega)]
            · rw [decide_eq_false h1, decide_eq_false (by omega)]) (by omega) h'
      split
      · rename_i hw; rw [if_pos hw] at h; exact Oper.wpIn_mono hnext h
      · rename_i hw; rw [if_neg hw] at h; exact ⟨h.1, hnext _ _ h.2⟩

theorem dsts_ne : ∀ (l : List Oper), dstsOk l = true → ∀ i j d, i < j → gdst l i = some d → gdst l j = some d → False
  | [], _, i, j, d, _, h, _ => by simp [gdst] at h
  | o :: l, hd, i, j, d, hij, h1, h2 => by
    simp only [dstsOk, Bool.and_eq_true] at hd
    cases j with
    | zero => omega
    | succ j =>
      simp only [gdst] at h2
      cases i with
      | zero =>
        simp only [gdst] at h1
        rw [h1] at hd
        simp only [List.all_eq_true] at hd
        rw [gdst_eq] at h2
        cases hl : l[j]? with
        | none => rw [hl] at h2; simp at h2
        | some o' =>
          rw [hl] at h2
          have := hd.1 o' (List.mem_of_getElem? hl)
          simp only [Option.bind_some] at h2
          rw [h2] at this
          simp at this
      | succ i => exact dsts_ne l hd.2 i j d (by omega) (by simpa [gdst] using h1) h2
theorem gdst_take {N i : Nat} (hi : i < N) : gdst (ops.take N) i = gdst ops i := by rw [gdst_eq, gdst_eq, List.getElem?_take_of_lt hi]
theorem Chk.ne {N : Nat} (hc : Chk ops N) {i j d : Nat} (hi : i < N) (hj : j < N) (hne : i ≠ j) (h1 : gdst ops i = some d) (h2 : gdst ops j = some d) : False := by
  rcases Nat.lt_or_ge i j with h | h
  · exact dsts_ne _ hc.dsts i j d h (by rw [gdst_take hi]; exact h1) (by rw [gdst_take hj]; exact h2)
  · exact dsts_ne _ hc.dsts j i d (by omega) (by rw [gdst_take hj]; exact h2) (by rw [gdst_take hi]; exact h1)

theorem at_cons {d s : Nat} {v : Value} {L : Env} : at' ((d, v) :: L) s = if d = s then some v else at' L s := by
  simp only [at']
  cases hb : Nat.beq d s with
  | true => rw [if_pos (Nat.eq_of_beq_eq_true hb)]; rfl
  | false => rw [if_neg (fun e => by subst e; rw [Nat.beq_refl] at hb; cases hb)]; rfl
theorem lc_some {S : Nat → Sp} {s : Nat} {v : Value} : ∀ i, at' (Lc ops S L0 i) s = some v → (∃ j, j < i ∧ gdst ops j = some s ∧ S j = .c v) ∨ (at' L0 s = some v ∧ ∀ j, j < i → ∀ c, gdst ops j = some s → S j ≠ .c c)
  | 0, h => .inr ⟨h, fun j hj => absurd hj (Nat.not_lt_zero _)⟩
  | i + 1, h => by
    simp only [Lc] at h
    split at h
    · rename_i d c hd hS
      rw [at_cons] at h
      split at h
      · rename_i e
        subst e
        cases h
        exact .inl ⟨i, by omega, hd, hS⟩
      · rename_i e
        rcases lc_some i h with ⟨j, hj, h1, h2⟩ | ⟨h1, h2⟩
        · exact .inl ⟨j, by omega, h1, h2⟩
        · refine .inr ⟨h1, fun j hj c hg => ?_⟩
          by_cases ej : j = i
          · subst ej; rw [hd] at hg; cases hg; exact absurd rfl e
          · exact h2 j (by omega) c hg
    · rename_i hn
      rcases lc_some i h with ⟨j, hj, h1, h2⟩ | ⟨h1, h2⟩
      · exact .inl ⟨j, by omega, h1, h2⟩
      · refine .inr ⟨h1, fun j hj c hg => ?_⟩
        by_cases ej : j = i
        · subst ej; intro hc; exact hn _ _ hg hc
        · exact h2 j (by omega) c hg
theorem lc_none {S : Nat → Sp} {s : Nat} : ∀ i, at' (Lc ops S L0 i) s = none → at' L0 s = none
  | 0, h => h
  | i + 1, h => by
    simp only [Lc] at h
    split at h
    · rw [at_cons] at h
      split at h
      · cases h
      · exact lc_none i h
    · exact lc_none i h

structure Inv (m : Nat) (D : List Deferred) (ops : List Oper) (N : Nat) (w0 : World) (S : Nat → Sp) (L0 : Env) (listed : Array Bool) (a : Act) (w : World) : Prop where
  size : listed.size = ops.length
  tail : ∀ i, N ≤ i → i < ops.length → listed.getD i false = false
  pc : PC ops (fun i => listed.getD i false)
  ext : Ext w0 w
  tsize : a.tmps.size = m
  defers : a.defers = D
  old : ∀ s v, at' L0 s = some v → (∀ i, i < N → gdst ops i = some s → listed.getD i false = false) → a.tmps[s]? = some v
  new : ∀ i, i < N → listed.getD i false = true → ∀ d, gdst ops i = some d → ∃ v, a.tmps[d]? = some v ∧ (S i).holds v w

theorem free_len {N : Nat} (hc : Chk ops N) : N ≤ ops.length := by
  rcases Nat.eq_zero_or_pos N with h | h
  · omega
  · obtain ⟨o, ho, -⟩ := hc.free (N - 1) (by omega)
    have := (List.getElem?_eq_some_iff.1 ho).1
    omega

theorem filter_lt {p q : Nat → Bool} : ∀ (l : List Nat), (∀ x ∈ l, p x = true → q x = true) → (∃ x ∈ l, q x = true ∧ p x = false) → (l.filter p).length < (l.filter q).length
  | [], _, ⟨x, hx, _⟩ => by cases hx
  | y :: l, h, ⟨x, hx, h1, h2⟩ => by
    have hle : ∀ l : List Nat, (∀ x ∈ l, p x = true → q x = true) → (l.filter p).length ≤ (l.filter q).length := by
      intro l
      induction l with
      | nil => intro _; simp
      | cons z l ih =>
        intro h
        have := ih (fun x hx => h x (by simp [hx]))
        simp only [List.filter_cons]
        cases hp : p z with
        | true => rw [h z (by simp) hp]; simp; omega
        | false => cases q z <;> simp <;> omega
    simp only [List.filter_cons]
    rcases List.mem_cons.1 hx with e | hx
    · subst e
      rw [h1, h2]
      have := hle l (fun x hx => h x (by simp [hx]))
      simp; omega
    · have := filter_lt l (fun x hx => h x (by simp [hx])) ⟨x, hx, h1, h2⟩
      cases hp : p y with
      | true => rw [h y (by simp) hp]; simp; omega
      | false => cases q y <;> simp <;> omega
theorem least (p : Nat → Bool) : ∀ N, (∃ i, i < N ∧ p i = false) → ∃ i, i < N ∧ p i = false ∧ ∀ j, j < i → p j = true
  | 0, ⟨i, hi, _⟩ => absurd hi (Nat.not_lt_zero _)
  | N + 1, ⟨i, hi, h⟩ => by
    by_cases e : ∃ i, i < N ∧ p i = false
    · obtain ⟨j, hj, h1, h2⟩ := least p N e
      exact ⟨j, by omega, h1, h2⟩
    · refine ⟨i, hi, h, fun j hj => ?_⟩
      cases hp : p j with
      | true => rfl
      | false => exact absurd ⟨j, by omega, hp⟩ e
theorem at_tab {f : Nat → Value} {s : Nat} {v : Value} : ∀ l : List Nat, at' (l.map fun i => (i, f i)) s = some v → s ∈ l ∧ v = f s
  | [], h => by cases h
  | i :: l, h => by
    rw [List.map_cons, at_cons] at h
    split at h
    · rename_i e; subst e; cases h; exact ⟨by simp, rfl⟩
    · obtain ⟨h1, h2⟩ := at_tab l h; exact ⟨by simp [h1], h2⟩
theorem at_tab_mem {f : Nat → Value} {s : Nat} : ∀ l : List Nat, s ∈ l → at' (l.map fun i => (i, f i)) s = some (f s)
  | i :: l, h => by
    rw [List.map_cons, at_cons]
    split
    · rename_i e; subst e; rfl
    · rename_i e
      rcases List.mem_cons.1 h with h | h
      · exact absurd h.symm e
      · exact at_tab_mem l h
theorem vc_mem {S : Nat → Sp} {q : Nat × VP} : ∀ i, q ∈ Vc ops S [] i → ∃ j, j < i ∧ gdst ops j = some q.1 ∧ S j = .p q.2
  | 0, h => by cases h
  | i + 1, h => by
    simp only [Vc] at h
    split at h
    · rename_i d p hd hS
      rcases List.mem_cons.1 h with h | h
      · subst h; exact ⟨i, by omega, hd, hS⟩
      · obtain ⟨j, hj, h1, h2⟩ := vc_mem i h; exact ⟨j, by omega, h1, h2⟩
    · obtain ⟨j, hj, h1, h2⟩ := vc_mem i h; exact ⟨j, by omega, h1, h2⟩
theorem gd {listed : Array Bool} {i : Nat} {b c : Bool} (h : i < listed.size) : listed.getD i b = listed.getD i c := by
  simp only [Array.getD_eq_getD_getElem?, Array.getElem?_eq_getElem h, Option.getD_some]

theorem any_free {N : Nat} {S : Nat → Sp} {V : List (Nat × VP)} (hW : Wd F) (hc : Chk ops N) (hL0 : ∀ s v, at' L0 s = some v → s < m) (hob : ∀ i o, i < N → ops[i]? = some o → Ob F n P m D ops w0 S L0 [] i o) (hV : V = Vc ops S [] N)
    (htail : Tail F n P Q m D ops (ops.drop N) w0 (Lc ops S L0 N) V) :
    ∀ (fuel : Nat) (listed : Array Bool) (a : Act) (w : World), Inv m D ops N w0 S L0 listed a w → ops.length - N + ((List.range N).filter fun i => !listed.getD i false).length ≤ fuel →
      wpAnyIn F n P .any ops.toArray Q fuel listed a w := by
  have hNl := free_len hc
  have hslot : ∀ i, i < N → ∃ o d, ops[i]? = some o ∧ o.dst = some d ∧ gdst ops i = some d ∧ d < m := fun i hi => by
    obtain ⟨o, ho, -, -⟩ := hc.free i hi
    obtain ⟨d, hd, hdm, -⟩ := (hob i o hi ho).slot
    exact ⟨o, d, ho, hd, by rw [gdst_eq, ho]; simpa using hd, by simpa using hdm⟩
  -- what is known of a slot of which Lc says something, once all that write it have come up
  have hread : ∀ (listed : Array Bool) (a : Act) (w : World), Inv m D ops N w0 S L0 listed a w → ∀ i s v, i ≤ N → at' (Lc ops S L0 i) s = some v → (∀ j, j < N → gdst ops j = some s → (j < i ∧ listed.getD j false = true) ∨ (i ≤ j ∧ listed.getD j false = false)) → a.tmps[s]? = some v := by
    intro listed a w hI i s v hi hs hall
    rcases lc_some i hs with ⟨j, hj, hg, hS⟩ | ⟨h1, h2⟩
    · obtain ⟨u, hu, hh⟩ := hI.new j (by omega) ((hall j (by omega) hg).elim (fun h => h.2) (fun h => absurd h.1 (by omega))) s hg
      rw [hS] at hh
      have : u = v := hh
      rw [← this]; exact hu
    · refine hI.old s v h1 (fun j hj hg => ?_)
      rcases hall j hj hg with hall' | hall'
      case inr => exact hall'.2
      exfalso
      have hji := hall'.1
      cases hSj : S j with
      | c c => exact h2 j hji c hg hSj
      | p q =>
        obtain ⟨o, d, ho, hd, hgd, -⟩ := hslot j hj
        obtain ⟨d', hd', -, hn⟩ := (hob j o hj ho).slot
        rw [hd] at hd'; cases hd'
        rw [hg] at hgd; cases hgd
        have := lc_none j (hn q hSj)
        rw [this] at h1; cases h1
  have hfin : ∀ (listed : Array Bool) (a : Act) (w : World), Inv m D ops N w0 S L0 listed a w → (∀ i, i < N → listed.getD i false = true) → wpListIn F n P ops.toArray Q (ops.drop N) a w := by
    intro listed a w hI hall
    refine htail w hI.ext ((List.range m).map fun i => (i, a.tmps.getD i undef)) (fun q hq => ?_) (fun s v hs => ?_) a ⟨hI.tsize, hI.defers, fun s v hs => ?_⟩
    · rw [hV] at hq
      obtain ⟨j, hj, hgj, hSj⟩ := vc_mem N hq
      obtain ⟨v, hv, hh⟩ := hI.new j hj (hall j hj) q.1 hgj
      obtain ⟨oj, dj, hoj, hdj, hgj', hm⟩ := hslot j hj
      rw [hgj] at hgj'; cases hgj'
      refine ⟨v, ?_, by rw [hSj] at hh; exact hh⟩
      rw [at_tab_mem _ (List.mem_range.2 hm), Array.getD_eq_getD_getElem?, hv]; rfl
    · have hv := hread listed a w hI N s v (Nat.le_refl _) hs (fun j hj hgj => .inl ⟨hj, hall j hj⟩)
      have hsm : s < m := by rw [← hI.tsize]; exact (Array.getElem?_eq_some_iff.1 hv).1
      rw [at_tab_mem _ (List.mem_range.2 hsm), Array.getD_eq_getD_getElem?, hv]; rfl
    · obtain ⟨h1, h2⟩ := at_tab _ hs
      rw [List.mem_range] at h1
      rw [h2, Array.getD_eq_getD_getElem?, Array.getElem?_eq_getElem (by rw [hI.tsize]; exact h1)]; rfl
  intro fuel
  induction fuel with
  | zero =>
    intro listed a w hI hf
    have h0 : ops.length = N := by omega
    have hall : ∀ i, i < N → listed.getD i false = true := fun i hi => by
      have hz : ((List.range N).filter fun i => !listed.getD i false) = [] := List.eq_nil_of_length_eq_zero (by omega)
      rw [List.filter_eq_nil_iff] at hz
      simpa using hz i (List.mem_range.2 hi)
    exact any_tail hc 0 N listed a w (Nat.le_refl _) hNl hI.size (fun i hi => by rw [hall i (by omega)]; exact (decide_eq_true (by omega)).symm) (by omega) (hfin listed a w hI hall)
  | succ fuel ih =>
    intro listed a w hI hf
    by_cases hall : ∀ i, i < N → listed.getD i false = true
    · have hz : ((List.range N).filter fun i => !listed.getD i false) = [] := by
        rw [List.filter_eq_nil_iff]; intro i hi; simp [hall i (List.mem_range.1 hi)]
      rw [hz] at hf
      exact any_tail hc (fuel + 1) N listed a w (Nat.le_refl _) hNl hI.size (fun i hi => by
        by_cases h : i < N
        · rw [hall i h, decide_eq_true h]
        · rw [hI.tail i (by omega) hi, decide_eq_false h]) (by simp at hf; omega) (hfin listed a w hI hall)
    · have hex : ∃ i, i < N ∧ listed.getD i false = false := by
        refine Classical.byContradiction fun hne => hall fun i hi => ?_
        cases hl : listed.getD i false with
        | true => rfl
        | false => exact absurd ⟨i, hi, hl⟩ hne
      refine ⟨fun hr => ?_, fun i hi => ?_⟩
      · exfalso
        obtain ⟨i0, hi0, h1, h2⟩ := least (fun i => listed.getD i false) N hex
        have hlt : i0 < ops.length := by omega
        have : i0 ∈ Region.ready .any ops.toArray listed := ready_iff.2 ⟨ops[i0], List.getElem?_eq_getElem hlt, by rw [gd (b := true) (c := false) (by rw [hI.size]; exact hlt)]; exact h1, fun j hj => h2 j (hc.back i0 _ (List.getElem?_eq_getElem hlt) j hj)⟩
        rw [hr] at this; cases this
      · obtain ⟨o, ho, h1, h2⟩ := ready_iff.1 hi
        have hlt := (List.getElem?_eq_some_iff.1 ho).1
        have hiN : i < N := by
          refine Classical.byContradiction fun hge => ?_
          obtain ⟨j0, hj0, hun⟩ := hex
          have := hc.all i (by omega) hlt (fun j => listed.getD j false) hI.pc (fun o' ho' j hj => by rw [ho] at ho'; cases ho'; exact h2 j hj) j0 (by omega)
          rw [hun] at this; cases this
        have hun : listed.getD i false = false := by rw [gd (b := false) (c := true) (by rw [hI.size]; exact hlt)]; exact h1
        obtain ⟨o', ho', hpl, hlk⟩ := hc.free i hiN
        rw [ho] at ho'; cases ho'
        obtain ⟨hst, ⟨d, hd, hdm, hnone⟩, hdoes⟩ := hob i o hiN ho
        have hg : gdst ops i = some d := by rw [gdst_eq, ho]; simpa using hd
        have hdm' : d < m := by simpa using hdm
        have hlcm : ∀ s v, at' (Lc ops S L0 i) s = some v → s < m := fun s v hs => by
          rcases lc_some i hs with ⟨j, hj, hgj, -⟩ | ⟨h, -⟩
          · obtain ⟨oj, dj, hoj, hdj, hgj', hm⟩ := hslot j (by omega)
            rw [hgj] at hgj'; cases hgj'; exact hm
          · exact hL0 s v h
        -- the frame that holds the constants of all that stand ahead of it in the text
        let st : Act := { a with tmps := Array.ofFn (n := m) fun s => (at' (Lc ops S L0 i) s.1).getD (a.tmps.getD s.1 undef) }
        have hstar : ∀ s, (∀ v, at' (Lc ops S L0 i) s = some v → a.tmps[s]? = some v) → st.tmps[s]? = a.tmps[s]? := fun s h => by
          show (Array.ofFn (n := m) fun s => (at' (Lc ops S L0 i) s.1).getD (a.tmps.getD s.1 undef))[s]? = _
          rw [Array.getElem?_ofFn]
          by_cases hs : s < m
          · rw [dif_pos hs]
            cases hat : at' (Lc ops S L0 i) s with
            | none => simp [Array.getD_eq_getD_getElem?, Array.getElem?_eq_getElem (show s < a.tmps.size by rw [hI.tsize]; exact hs)]
            | some v => simp [h v hat]
          · rw [dif_neg hs, Array.getElem?_eq_none (by rw [hI.tsize]; omega)]
        have hfr : Fr m D st (Lc ops S L0 i) := by
          refine ⟨by simp [st], hI.defers, fun s v hs => ?_⟩
          have hsm := hlcm s v hs
          show (Array.ofFn (n := m) fun s => (at' (Lc ops S L0 i) s.1).getD (a.tmps.getD s.1 undef))[s]? = _
          rw [Array.getElem?_ofFn, dif_pos hsm]; simp [hs]
        have hlook : ∀ s ∈ looks ops o, st.tmps[s]? = a.tmps[s]? := fun s hs => hstar s fun v hv => hread listed a w hI i s v (by omega) hv fun j hj hgj => by
          rcases hlk s hs j hj hgj with hn | ⟨oj, hoj, hn⟩
          · exact .inl ⟨hc.back i o ho j hn, h2 j hn⟩
          · refine .inr ⟨Nat.le_of_lt (hc.back j oj hoj i hn), ?_⟩
            cases hlj : listed.getD j false with
            | false => rfl
            | true =>
              have hli : listed.getD i false = true := hI.pc j oj hoj hlj i hn
              rw [hun] at hli; cases hli
        have hopd : ∀ x ∈ o.op.operands, st.eval x = a.eval x := fun x hx => by
          cases x with
          | tmp t =>
            have := hlook t (List.mem_append_left _ (List.mem_filterMap.2 ⟨.tmp t, by simpa using hx, rfl⟩))
            show st.tmps.getD t undef = a.tmps.getD t undef
            rw [Array.getD_eq_getD_getElem?, Array.getD_eq_getD_getElem?, this]
          | _ => rfl
        have hexec : execOp st.eval o = execOp a.eval o := execOp_congr o (fun cs b h => by rw [h] at hpl; cases hpl) hopd
        have hwant : Region.wanted o (yielded ops.toArray st.tmps) = Region.wanted o (yielded ops.toArray a.tmps) := by
          unfold Region.wanted
          cases hgd : o.guard with
          | none => rfl
          | some p =>
            obtain ⟨j, want⟩ := p
            have hy : yielded ops.toArray st.tmps j = yielded ops.toArray a.tmps j := by
              simp only [yielded, List.getElem?_toArray]
              cases hgj : (ops[j]?).bind (·.dst) with
              | none => rfl
              | some dj =>
                have := hlook dj (List.mem_append_right _ (by rw [hgd]; simp only [gdst_eq, hgj]; simp))
                simp only [Option.bind_some, this]
            simp only [hy]
        have hnd : ∀ c, o.op ≠ .defer c := fun c h => by rw [h] at hpl; cases hpl
        have hnext : ∀ v w'', (S i).holds v w'' → Ext w w'' → wpAnyIn F n P .any ops.toArray Q fuel (listed.setIfInBounds i true) (a.put o.dst v) w'' := by
          intro v w'' hh hx
          have hsz : i < listed.size := by rw [hI.size]; exact hlt
          refine ih _ _ _ ⟨by simp [hI.size], fun k hk hkl => ?_, fun k ok hok hk j hj => ?_, hI.ext.trans hx, ?_, hI.defers ▸ by rw [hd]; rfl, fun s u hs hk => ?_, fun k hk hkl dk hgk => ?_⟩ ?_
          · rw [getD_set hsz, if_neg (by omega)]; exact hI.tail k hk hkl
          · simp only [getD_set hsz] at hk ⊢
            by_cases e : i = j
            · rw [if_pos e]
            · rw [if_neg e]
              by_cases ek : i = k
              · subst ek; rw [ho] at hok; cases hok; exact h2 j hj
              · rw [if_neg ek] at hk; exact hI.pc k ok hok hk j hj
          · rw [hd]; simp [Act.put, hI.tsize]
          · have hne : d ≠ s := fun e => by
              subst e
              have := hk i hiN hg
              rw [getD_set hsz, if_pos rfl] at this; cases this
            rw [hd]
            simp only [Act.put, Array.getElem?_setIfInBounds_ne hne]
            exact hI.old s u hs fun j hj hgj => by
              have := hk j hj hgj
              rw [getD_set hsz] at this
              by_cases e : i = j
              · rw [if_pos e] at this; cases this
              · rw [if_neg e] at this; exact this
          · rw [getD_set hsz] at hkl
            by_cases e : i = k
            · subst e
              rw [hg] at hgk; cases hgk
              exact ⟨v, by rw [hd]; simp [Act.put, hI.tsize, hdm'], hh⟩
            · rw [if_neg e] at hkl
              have hne : d ≠ dk := fun e' => by subst e'; exact hc.ne hiN hk e hg hgk
              obtain ⟨u, hu, hhu⟩ := hI.new k hk hkl dk hgk
              obtain ⟨ok, -, hok, -⟩ := hslot k hk
              exact ⟨u, by rw [hd]; simp only [Act.put, Array.getElem?_setIfInBounds_ne hne]; exact hu, (hob k ok hk hok).stable u w w'' hhu hx⟩
          · have := filter_lt (p := fun k => !(listed.setIfInBounds i true).getD k false) (q := fun k => !listed.getD k false) (List.range N) (fun k _ hk => by
              simp only [getD_set hsz] at hk
              by_cases e : i = k
              · rw [if_pos e] at hk; cases hk
              · rw [if_neg e] at hk; exact hk) ⟨i, List.mem_range.2 hiN, by simp [hun], by simp [getD_set hsz]⟩
            omega
        unfold wpOpIn
        rw [List.getElem?_toArray, ho]
        simp only
        have hvs : ∀ q ∈ Vc ops S [] i, q.1 ∈ looks ops o → ∃ v, st.tmps[q.1]? = some v ∧ q.2 v w := fun q hq hlo => by
          obtain ⟨j, hj, hgj, hSj⟩ := vc_mem i hq
          obtain ⟨v, hv, hh⟩ := hI.new j (by omega) (h2 j ((hlk q.1 hlo j (by omega) hgj).elim id fun ⟨oj, hoj, hn⟩ => absurd (hc.back j oj hoj i hn) (by omega))) q.1 hgj
          exact ⟨v, by rw [hlook q.1 hlo]; exact hv, by rw [hSj] at hh; exact hh⟩
        rcases hdoes w hI.ext st hfr hvs with ⟨hw, hdo⟩ | ⟨hw, hr⟩
        · rw [if_pos (hwant ▸ hw)]
          cases hdo with
          | val v w' h hr => exact wpIn_value hW hnd (by rw [← hexec]; exact h) (hnext v w' hr.1 hr.2)
          | call f args w' h hcl =>
            rcases hcl with ⟨hF, hcl⟩
            have hx : (execOp a.eval o).run P w = .ok (.enter f args) w' := by rw [← hexec]; exact h
            exact wpIn_entered hW hnd hx ⟨hF, hcl⟩ (fun v w'' hr => hnext v w'' hr.1 hr.2)
        · rw [if_neg (by rw [← hwant, hw]; simp)]
          exact ⟨fun f _ => hW.fn f, hnext undef w hr (Keep.refl _ _)⟩

/-- **A region that draws its order.** -/
theorem wc_draw {id : Nat} {L : Env} {w : World} (N : Nat) (hW : Wd F) (hm : P.follows .mixedOrders = true) (hck : freeOk ops N = true)
    (hq : QW F n P m D ops w.drew (Tail F n P Q m D ops (ops.drop N) w.drew) (ops.take N) L []) : WC F n P Q m D (.region id ops.toArray true) L w := by
  intro a ha
  have hc := chk_of hck
  obtain ⟨S, -, h2, h3⟩ := qw_specs (F := F) (n := n) (P := P) (m := m) (D := D) (ops := ops) (w0 := w.drew) (L := L) (V := []) (ops.take N) 0 (fun _ => .c undef) (fun j o hj => by
    rw [Nat.zero_add]
    rw [List.getElem?_take] at hj
    split at hj
    · exact hj
    · cases hj) hq
  have hlen : (ops.take N).length = N := by rw [List.length_take]; have := free_len hc; omega
  rw [Nat.zero_add, hlen] at h3
  refine wpIn_region_any hm ?_
  have hmem : ∀ s v, at' L s = some v → s < m := fun s v hs => by rw [← ha.size]; exact (Array.getElem?_eq_some_iff.1 (ha.get s v hs)).1
  have hfalse : ∀ i, (Array.replicate ops.length false).getD i false = false := fun i => by
    rw [Array.getD_eq_getD_getElem?, Array.getElem?_replicate]; split <;> rfl
  have := any_free (Q := Q) (N := N) (S := S) (V := Vc ops S [] N) hW hc hmem (fun i o hi ho => h2 i o (Nat.zero_le _) (by rw [Nat.sub_zero, List.getElem?_take_of_lt hi]; exact ho)) rfl h3 ops.length
    (Array.replicate ops.length false) a w.drew ⟨by simp, fun i _ _ => hfalse i, (fun i o _ h => absurd ((hfalse i).symm.trans h) Bool.false_ne_true), Keep.refl _ _, ha.size, ha.defers, fun s v hs _ => ha.get s v hs, (fun i _ h => absurd ((hfalse i).symm.trans h) Bool.false_ne_true)⟩
    (by
      have : ((List.range N).filter fun i => !(Array.replicate ops.length false).getD i false).length ≤ N := by
        have := List.length_filter_le (fun i => !(Array.replicate ops.length false).getD i false) (List.range N)
        simpa using this
      have := free_len hc
      omega)
  simpa using this
end
end Go.Proofs.Ytiaikajibefieaa.K
