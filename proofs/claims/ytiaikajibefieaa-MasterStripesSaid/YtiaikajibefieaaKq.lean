/- A drawn region in which some operations, each forced behind the one before, turn blocks: all others may come among them. Facts are told by phases: how many of these operations have come up. -/
import Derived.Test.YtiaikajibefieaaKk
namespace Go.Proofs.Ytiaikajibefieaa.K
open Go Go.RowKit
set_option linter.unusedVariables false
set_option linter.unusedSectionVars false
set_option linter.unusedSimpArgs false

/-- A value's fact, by phases. -/
abbrev PVP := Nat → VP
inductive Sq
  | c (v : Value)
  | p (q : PVP)
def Sq.holds : Sq → PVP
  | .c v => fun _ u _ => u = v
  | .p q => q
def Sq.env (s : Sq) (d : Nat) (L : Env) : Env := match s with
  | .c v => (d, v) :: L
  | .p _ => L
def Sq.fac (s : Sq) (d : Nat) (V : List (Nat × PVP)) : List (Nat × PVP) := match s with
  | .c _ => V
  | .p q => (d, q) :: V
/-- The operations that turn blocks; what holds of the world by phases; what each of them keeps. -/
structure Spx where
  si : List Nat
  J : Nat → World → Prop
  G : Nat → World → World → Prop
def Spx.at (X : Spx) (k : Nat) : Nat := X.si.getD k 0

inductive DoesX (F : Fence) (n : Nat) (P : Program) (ρ : Operand → Value) (o : Oper) (w : World) (R : Value → World → Prop) : Prop
  | val (v : Value) (w' : World) (h : (execOp ρ o).run P w = .ok (.value v) w') (hr : R v w') : DoesX F n P ρ o w R
  | skip (w' : World) (h : (execOp ρ o).run P w = .ok .skip w') (hr : R undef w') : DoesX F n P ρ o w R
  | call (f : FuncId) (args : Array Value) (w' : World) (h : (execOp ρ o).run P w = .ok (.enter f args) w') (hc : CallsIn F (n - 1) P f args w' (ok1 R)) : DoesX F n P ρ o w R
def FactsAt (ops : List Oper) (o : Oper) (V : List (Nat × PVP)) (ph : Nat) (a : Act) (w : World) : Prop := ∀ q ∈ V, q.1 ∈ looks ops o → ∃ v, a.tmps[q.1]? = some v ∧ q.2 ph v w
/-- Where an operation comes up that some of these operations wait for. -/
def Bef (X : Spx) (ops : List Oper) (i ph : Nat) : Prop := ∀ k, k < X.si.length → (∀ o, ops[X.at k]? = some o → i ∈ needsL o) → ph ≤ k
def Free1Q (X : Spx) (i : Nat) (F : Fence) (n : Nat) (P : Program) (m : Nat) (D : List Deferred) (ops : List Oper) (o : Oper) (L : Env) (V : List (Nat × PVP)) (R : PVP) : Prop :=
  ∀ ph w', ph ≤ X.si.length → Bef X ops i ph → X.J ph w' → ∀ a, Fr m D a L → FactsAt ops o V ph a w' →
    (Region.wanted o (yielded ops.toArray a.tmps) = true ∧ Does F n P a.eval o w' (fun v w'' => R ph v w'' ∧ Ext w' w'')) ∨ (Region.wanted o (yielded ops.toArray a.tmps) = false ∧ R ph undef w')
def SpQ (X : Spx) (k : Nat) (F : Fence) (n : Nat) (P : Program) (m : Nat) (D : List Deferred) (ops : List Oper) (o : Oper) (L : Env) (V : List (Nat × PVP)) (R : PVP) : Prop :=
  ∀ w', X.J k w' → ∀ a, Fr m D a L → FactsAt ops o V k a w' → Region.wanted o (yielded ops.toArray a.tmps) = true ∧
    DoesX F n P a.eval o w' (fun v w'' => R (k + 1) v w'' ∧ X.J (k + 1) w'' ∧ X.G k w' w'' ∧ FactsAt ops o V (k + 1) a w'')
/-- What a value's fact must bear. -/
def StabX (X : Spx) (ops : List Oper) (i d : Nat) (R : PVP) : Prop := (∀ ph v w w', R ph v w → Ext w w' → R ph v w') ∧
  ∀ k, k < X.si.length → X.at k ≠ i → (∀ o, ops[X.at k]? = some o → d ∉ looks ops o) → ∀ v w w', R k v w → X.G k w w' → R (k + 1) v w'
def NoSp (X : Spx) (i : Nat) : Prop := ∀ k, k < X.si.length → X.at k ≠ i
def QWX (X : Spx) (F : Fence) (n : Nat) (P : Program) (m : Nat) (D : List Deferred) (ops : List Oper) (K : Env → List (Nat × PVP) → Prop) : Nat → List Oper → Env → List (Nat × PVP) → Prop
  | _, [], L, V => K L V
  | i, o :: rest, L, V => (o.dst = none ∧ (∃ k, k < X.si.length ∧ X.at k = i ∧ SpQ X k F n P m D ops o L V (fun _ _ _ => True)) ∧ QWX X F n P m D ops K (i + 1) rest L V) ∨
      (∃ d, o.dst = some d ∧ Nat.blt d m = true ∧ ∃ s : Sq, (∀ q, s = .p q → at' L d = none) ∧ StabX X ops i d s.holds ∧
        ((∃ k, k < X.si.length ∧ X.at k = i ∧ SpQ X k F n P m D ops o L V s.holds) ∨ (NoSp X i ∧ Free1Q X i F n P m D ops o L V s.holds)) ∧ QWX X F n P m D ops K (i + 1) rest (s.env d L) (s.fac d V))
def TailX (X : Spx) (F : Fence) (n : Nat) (P : Program) (Q : Exit → Act → World → Prop) (m : Nat) (D : List Deferred) (ops tail : List Oper) (L : Env) (V : List (Nat × PVP)) : Prop :=
  ∀ w', X.J X.si.length w' → ∀ (L' : Env), (∀ q ∈ V, ∃ v, at' L' q.1 = some v ∧ q.2 X.si.length v w') → Sub L L' → WL F n P Q m D ops tail L' w'

def Lq (ops : List Oper) (S : Nat → Sq) (L : Env) : Nat → Env
  | 0 => L
  | i + 1 => match gdst ops i with
    | some d => (S i).env d (Lq ops S L i)
    | none => Lq ops S L i
def Vq (ops : List Oper) (S : Nat → Sq) (V : List (Nat × PVP)) : Nat → List (Nat × PVP)
  | 0 => V
  | i + 1 => match gdst ops i with
    | some d => (S i).fac d (Vq ops S V i)
    | none => Vq ops S V i
/-- What is asked of operation i. -/
structure ObX (X : Spx) (F : Fence) (n : Nat) (P : Program) (m : Nat) (D : List Deferred) (ops : List Oper) (S : Nat → Sq) (L : Env) (V : List (Nat × PVP)) (i : Nat) (o : Oper) : Prop where
  slot : ∀ d, o.dst = some d → Nat.blt d m = true ∧ (∀ q, S i = .p q → at' (Lq ops S L i) d = none) ∧ StabX X ops i d (S i).holds
  does : (∃ k, k < X.si.length ∧ X.at k = i ∧ SpQ X k F n P m D ops o (Lq ops S L i) (Vq ops S V i) (fun ph v w => ∀ d, o.dst = some d → (S i).holds ph v w)) ∨ (o.dst.isSome = true ∧ NoSp X i ∧ Free1Q X i F n P m D ops o (Lq ops S L i) (Vq ops S V i) (S i).holds)

section
variable {F : Fence} {n : Nat} {P : Program} {Q : Exit → Act → World → Prop} {m : Nat} {D : List Deferred} {ops : List Oper} {X : Spx} {a0 : Act} {L0 : Env}
theorem Lq_congr {L : Env} {S1 S2 : Nat → Sq} : ∀ k, (∀ j, j < k → S1 j = S2 j) → Lq ops S1 L k = Lq ops S2 L k
  | 0, _ => rfl
  | k + 1, he => by simp only [Lq]; rw [he k (by omega), Lq_congr k (fun j hj => he j (by omega))]
theorem Vq_congr {V : List (Nat × PVP)} {S1 S2 : Nat → Sq} : ∀ k, (∀ j, j < k → S1 j = S2 j) → Vq ops S1 V k = Vq ops S2 V k
  | 0, _ => rfl
  | k + 1, he => by simp only [Vq]; rw [he k (by omega), Vq_congr k (fun j hj => he j (by omega))]
theorem does_mono {ρ : Operand → Value} {o : Oper} {w : World} {R R' : Value → World → Prop} (h : DoesX F n P ρ o w R) (hr : ∀ v w', R v w' → R' v w') : DoesX F n P ρ o w R' := by
  cases h with
  | val v w' h h1 => exact .val v w' h (hr _ _ h1)
  | skip w' h h1 => exact .skip w' h (hr _ _ h1)
  | call f args w' h hc => exact .call f args w' h (hc.mono fun e w'' ⟨v, he, h1⟩ => ⟨v, he, hr _ _ h1⟩)
theorem qw_specsX {K : Env → List (Nat × PVP) → Prop} {L : Env} {V : List (Nat × PVP)} : ∀ (rest : List Oper) (i : Nat) (S : Nat → Sq), (∀ j o, rest[j]? = some o → ops[i + j]? = some o) →
    QWX X F n P m D ops K i rest (Lq ops S L i) (Vq ops S V i) →
    ∃ S' : Nat → Sq, (∀ j, j < i → S' j = S j) ∧ (∀ j o, i ≤ j → rest[j - i]? = some o → ObX X F n P m D ops S' L V j o) ∧ K (Lq ops S' L (i + rest.length)) (Vq ops S' V (i + rest.length))
  | [], i, S, ho, h => ⟨S, fun _ _ => rfl, fun j o _ hj => by simp at hj, h⟩
  | o :: rest, i, S, ho, h => by
    have hoi : ops[i]? = some o := by have := ho 0 o (by simp); simpa using this
    have ho' : ∀ j o', rest[j]? = some o' → ops[i + 1 + j]? = some o' := fun j o' hj => by
      have := ho (j + 1) o' (by simpa using hj); rwa [show i + (j + 1) = i + 1 + j from by omega] at this
    have hg : gdst ops i = o.dst := by rw [gdst_eq, hoi]; rfl
    have key : ∀ s : Sq, ObX X F n P m D ops (fun k => if k = i then s else S k) L V i o →
        QWX X F n P m D ops K (i + 1) rest (Lq ops (fun k => if k = i then s else S k) L (i + 1)) (Vq ops (fun k => if k = i then s else S k) V (i + 1)) →
        ∃ S' : Nat → Sq, (∀ j, j < i → S' j = S j) ∧ (∀ j o', i ≤ j → (o :: rest)[j - i]? = some o' → ObX X F n P m D ops S' L V j o') ∧ K (Lq ops S' L (i + (o :: rest).length)) (Vq ops S' V (i + (o :: rest).length)) := by
      intro s hob hq
      obtain ⟨S', h1, h2, h3⟩ := qw_specsX rest (i + 1) (fun k => if k = i then s else S k) ho' hq
      have hlow : ∀ j, j < i → S' j = S j := fun j hj => by rw [h1 j (by omega)]; simp [show j ≠ i from by omega]
      refine ⟨S', hlow, fun j o' hij hj => ?_, by rw [List.length_cons, show i + (rest.length + 1) = i + 1 + rest.length from by omega]; exact h3⟩
      by_cases e : j = i
      · subst e
        simp at hj
        subst hj
        have hL := Lq_congr (ops := ops) (L := L) (S1 := S') (S2 := fun k => if k = j then s else S k) j (fun k hk => h1 k (by omega))
        have hV := Vq_congr (ops := ops) (V := V) (S1 := S') (S2 := fun k => if k = j then s else S k) j (fun k hk => h1 k (by omega))
        have hS := h1 j (by omega)
        exact ⟨by rw [hS, hL]; exact hob.slot, by rw [hS, hL, hV]; exact hob.does⟩
      · refine h2 j o' (by omega) ?_
        have : j - i = (j - (i + 1)) + 1 := by omega
        rw [this, List.getElem?_cons_succ] at hj
        exact hj
    have hLk : ∀ s : Sq, Lq ops (fun k => if k = i then s else S k) L i = Lq ops S L i := fun s => Lq_congr i fun j hj => if_neg (by omega)
    have hVk : ∀ s : Sq, Vq ops (fun k => if k = i then s else S k) V i = Vq ops S V i := fun s => Vq_congr i fun j hj => if_neg (by omega)
    rcases h with ⟨hd, ⟨k, hk, hi, hs⟩, hq⟩ | ⟨d, hd, hdm, s, hno, hst, hdo, hq⟩
    · refine key (S i) ⟨fun d h => (by rw [hd] at h; cases h), .inl ⟨k, hk, hi, ?_⟩⟩ ?_
      · rw [hLk, hVk]
        intro w' hJ a ha hf
        obtain ⟨h1, h2⟩ := hs w' hJ a ha hf
        exact ⟨h1, does_mono h2 fun v w'' h => ⟨fun d h' => (by rw [hd] at h'; cases h'), h.2⟩⟩
      · simp only [Lq, Vq, hg, hd, hLk, hVk]; exact hq
    · refine key s ⟨fun d' h => ?_, ?_⟩ ?_
      · rw [hd] at h; cases h
        rw [if_pos rfl, hLk]
        exact ⟨hdm, hno, hst⟩
      · rw [hLk, hVk]
        rcases hdo with ⟨k, hk, hi, hs⟩ | ⟨hn, hf⟩
        · refine .inl ⟨k, hk, hi, ?_⟩
          intro w' hJ a ha hf
          obtain ⟨h1, h2⟩ := hs w' hJ a ha hf
          exact ⟨h1, does_mono h2 fun v w'' h => ⟨fun d _ => (by rw [if_pos rfl]; exact h.1), h.2⟩⟩
        · exact .inr ⟨by rw [hd]; rfl, hn, by rw [if_pos rfl]; exact hf⟩
      · simp only [Lq, Vq, hg, hd, if_pos, hLk, hVk]; exact hq

theorem lq_some {S : Nat → Sq} {s : Nat} {v : Value} : ∀ i, at' (Lq ops S L0 i) s = some v → (∃ j, j < i ∧ gdst ops j = some s ∧ S j = .c v) ∨ (at' L0 s = some v ∧ ∀ j, j < i → ∀ c, gdst ops j = some s → S j ≠ .c c)
  | 0, h => .inr ⟨h, fun j hj => absurd hj (Nat.not_lt_zero _)⟩
  | i + 1, h => by
    have low : at' (Lq ops S L0 i) s = some v → (∀ c, gdst ops i = some s → S i ≠ .c c) → (∃ j, j < i + 1 ∧ gdst ops j = some s ∧ S j = .c v) ∨ (at' L0 s = some v ∧ ∀ j, j < i + 1 → ∀ c, gdst ops j = some s → S j ≠ .c c) := fun h hn => by
      rcases lq_some i h with ⟨j, hj, h1, h2⟩ | ⟨h1, h2⟩
      · exact .inl ⟨j, by omega, h1, h2⟩
      · refine .inr ⟨h1, fun j hj c hg => ?_⟩
        by_cases ej : j = i
        · subst ej; exact hn c hg
        · exact h2 j (by omega) c hg
    simp only [Lq] at h
    cases hg : gdst ops i with
    | none => rw [hg] at h; exact low h (fun c h' => by rw [hg] at h'; cases h')
    | some d =>
      rw [hg] at h
      cases hS : S i with
      | p q => rw [hS] at h; exact low h (fun c _ h' => by rw [hS] at h'; cases h')
      | c u =>
        rw [hS] at h
        simp only [Sq.env] at h
        rw [at_cons] at h
        split at h
        · rename_i e; subst e; cases h; exact .inl ⟨i, by omega, hg, hS⟩
        · rename_i e; exact low h (fun c h' => by rw [hg] at h'; cases h'; exact absurd rfl e)
theorem lq_none {S : Nat → Sq} {s : Nat} : ∀ i, at' (Lq ops S L0 i) s = none → at' L0 s = none
  | 0, h => h
  | i + 1, h => by
    simp only [Lq] at h
    split at h
    · cases hS : S i with
      | p q => rw [hS] at h; exact lq_none i h
      | c u =>
        rw [hS] at h
        simp only [Sq.env] at h
        rw [at_cons] at h
        split at h
        · cases h
        · exact lq_none i h
    · exact lq_none i h
theorem vq_mem {S : Nat → Sq} {q : Nat × PVP} : ∀ i, q ∈ Vq ops S [] i → ∃ j, j < i ∧ gdst ops j = some q.1 ∧ S j = .p q.2
  | 0, h => by cases h
  | i + 1, h => by
    simp only [Vq] at h
    split at h
    · rename_i d hd
      cases hS : S i with
      | c u => rw [hS] at h; obtain ⟨j, hj, h1⟩ := vq_mem i h; exact ⟨j, by omega, h1⟩
      | p p =>
        rw [hS] at h
        rcases List.mem_cons.1 h with h | h
        · subst h; exact ⟨i, by omega, hd, hS⟩
        · obtain ⟨j, hj, h1⟩ := vq_mem i h; exact ⟨j, by omega, h1⟩
    · obtain ⟨j, hj, h1⟩ := vq_mem i h; exact ⟨j, by omega, h1⟩
theorem mem_vq {S : Nat → Sq} {j d : Nat} {p : PVP} (hg : gdst ops j = some d) (hS : S j = .p p) : ∀ i, j < i → (d, p) ∈ Vq ops S [] i
  | 0, h => absurd h (Nat.not_lt_zero _)
  | i + 1, h => by
    simp only [Vq]
    by_cases e : j = i
    · subst e; rw [hg, hS]; simp [Sq.fac]
    · have := mem_vq hg hS i (by omega)
      split
      · cases S i <;> simp [Sq.fac, this]
      · exact this

/-- Each of these operations is forced behind the ones before it. -/
def chainOk (ops : List Oper) (N : Nat) (si : List Nat) : Bool :=
  let ms := masks ops []
  (List.range si.length).all fun k => Nat.blt (si.getD k 0) N && (List.range k).all fun j => (ms.getD (si.getD k 0) 0).testBit (si.getD j 0)
theorem chain_of {N : Nat} {si : List Nat} (hc : Chk ops N) (h : chainOk ops N si = true) : (∀ k, k < si.length → si.getD k 0 < N) ∧ ∀ k j, j < k → k < si.length → ∀ ls : Nat → Bool, PC ops ls → (∀ o, ops[si.getD k 0]? = some o → ∀ j ∈ needsL o, ls j = true) → ls (si.getD j 0) = true := by
  simp only [chainOk, List.all_eq_true, List.mem_range, Bool.and_eq_true] at h
  refine ⟨fun k hk => by simpa using (h k hk).1, fun k j hj hk ls hpc hn => ?_⟩
  have hN : si.getD k 0 < N := by simpa using (h k hk).1
  have := free_len hc
  have hlt : si.getD k 0 < ops.length := by omega
  exact masks_ok (ops := ops) ops [] [] rfl rfl (fun i hi => absurd hi (Nat.not_lt_zero _)) (si.getD k 0) hlt ls hpc hn _ ((h k hk).2 j hj)

structure InvX (X : Spx) (m : Nat) (D : List Deferred) (ops : List Oper) (N : Nat) (S : Nat → Sq) (L0 : Env) (listed : Array Bool) (a : Act) (w : World) (ph : Nat) : Prop where
  size : listed.size = ops.length
  tail : ∀ i, N ≤ i → i < ops.length → listed.getD i false = false
  pc : PC ops (fun i => listed.getD i false)
  phle : ph ≤ X.si.length
  phase : ∀ k, k < X.si.length → (listed.getD (X.at k) false = true ↔ k < ph)
  world : X.J ph w
  tsize : a.tmps.size = m
  defers : a.defers = D
  old : ∀ s v, at' L0 s = some v → (∀ i, i < N → gdst ops i = some s → listed.getD i false = false) → a.tmps[s]? = some v
  new : ∀ i, i < N → listed.getD i false = true → ∀ d, gdst ops i = some d → ∃ v, a.tmps[d]? = some v ∧ (S i).holds ph v w

theorem any_freeX {N : Nat} {S : Nat → Sq} {V : List (Nat × PVP)} (hW : Wd F) (hc : Chk ops N) (hJ : ∀ ph w w', X.J ph w → Ext w w' → X.J ph w') (hsN : ∀ k, k < X.si.length → X.at k < N)
    (hch : ∀ k j, j < k → k < X.si.length → ∀ ls : Nat → Bool, PC ops ls → (∀ o, ops[X.at k]? = some o → ∀ j ∈ needsL o, ls j = true) → ls (X.at j) = true)
    (hL0 : ∀ s v, at' L0 s = some v → s < m) (hob : ∀ i o, i < N → ops[i]? = some o → ObX X F n P m D ops S L0 [] i o) (hV : V = Vq ops S [] N)
    (htail : TailX X F n P Q m D ops (ops.drop N) (Lq ops S L0 N) V) :
    ∀ (fuel : Nat) (listed : Array Bool) (a : Act) (w : World) (ph : Nat), InvX X m D ops N S L0 listed a w ph → ops.length - N + ((List.range N).filter fun i => !listed.getD i false).length ≤ fuel →
      wpAnyIn F n P .any ops.toArray Q fuel listed a w := by
  have hNl := free_len hc
  have hslot : ∀ i d, i < N → gdst ops i = some d → d < m ∧ StabX X ops i d (S i).holds ∧ (∀ q, S i = .p q → at' (Lq ops S L0 i) d = none) := fun i d hi hg => by
    obtain ⟨o, ho, -, -⟩ := hc.free i hi
    rw [gdst_eq, ho] at hg
    obtain ⟨h1, h2, h3⟩ := (hob i o hi ho).slot d hg
    exact ⟨by simpa using h1, h3, h2⟩
  have hread : ∀ (listed : Array Bool) (a : Act) (w : World) (ph : Nat), InvX X m D ops N S L0 listed a w ph → ∀ i s v, i ≤ N → at' (Lq ops S L0 i) s = some v → (∀ j, j < N → gdst ops j = some s → (j < i ∧ listed.getD j false = true) ∨ (i ≤ j ∧ listed.getD j false = false)) → a.tmps[s]? = some v := by
    intro listed a w ph hI i s v hi hs hall
    rcases lq_some i hs with ⟨j, hj, hg, hS⟩ | ⟨h1, h2⟩
    · obtain ⟨u, hu, hh⟩ := hI.new j (by omega) ((hall j (by omega) hg).elim (fun h => h.2) (fun h => absurd h.1 (by omega))) s hg
      rw [hS] at hh
      have : u = v := hh
      rw [← this]; exact hu
    · refine hI.old s v h1 (fun j hj hg => ?_)
      rcases hall j hj hg with hall' | hall'
      case inr => exact hall'.2
      exfalso
      have hji := hall'.1
      cases hSj : S j with
      | c c => exact h2 j hji c hg hSj
      | p q =>
        have := lq_none j ((hslot j s hj hg).2.2 q hSj)
        rw [this] at h1; cases h1
  have hfin : ∀ (listed : Array Bool) (a : Act) (w : World) (ph : Nat), InvX X m D ops N S L0 listed a w ph → (∀ i, i < N → listed.getD i false = true) → wpListIn F n P ops.toArray Q (ops.drop N) a w := by
    intro listed a w ph hI hall
    have hph : ph = X.si.length := by
      have h1 := hI.phle
      by_cases e : ph < X.si.length
      · have := (hI.phase ph e).1 (hall _ (hsN ph e)); omega
      · omega
    subst hph
    refine htail w hI.world ((List.range m).map fun i => (i, a.tmps.getD i undef)) (fun q hq => ?_) (fun s v hs => ?_) a ⟨hI.tsize, hI.defers, fun s v hs => ?_⟩
    · rw [hV] at hq
      obtain ⟨j, hj, hgj, hSj⟩ := vq_mem N hq
      obtain ⟨v, hv, hh⟩ := hI.new j hj (hall j hj) q.1 hgj
      have hm := (hslot j q.1 hj hgj).1
      refine ⟨v, ?_, by rw [hSj] at hh; exact hh⟩
      rw [at_tab_mem _ (List.mem_range.2 hm), Array.getD_eq_getD_getElem?, hv]; rfl
    · have hv := hread listed a w _ hI N s v (Nat.le_refl _) hs (fun j hj hgj => .inl ⟨hj, hall j hj⟩)
      have hsm : s < m := by rw [← hI.tsize]; exact (Array.getElem?_eq_some_iff.1 hv).1
      rw [at_tab_mem _ (List.mem_range.2 hsm), Array.getD_eq_getD_getElem?, hv]; rfl
    · obtain ⟨h1, h2⟩ := at_tab _ hs
      rw [List.mem_range] at h1
      rw [h2, Array.getD_eq_getD_getElem?, Array.getElem?_eq_getElem (by rw [hI.tsize]; exact h1)]; rfl
  intro fuel
  induction fuel with
  | zero =>
    intro listed a w ph hI hf
    have h0 : ops.length = N := by omega
    have hall : ∀ i, i < N → listed.getD i false = true := fun i hi => by
      have hz : ((List.range N).filter fun i => !listed.getD i false) = [] := List.eq_nil_of_length_eq_zero (by omega)
      rw [List.filter_eq_nil_iff] at hz
      simpa using hz i (List.mem_range.2 hi)
    exact any_tail hc 0 N listed a w (Nat.le_refl _) hNl hI.size (fun i hi => by rw [hall i (by omega)]; exact (decide_eq_true (by omega)).symm) (by omega) (hfin listed a w ph hI hall)
  | succ fuel ih =>
    intro listed a w ph hI hf
    by_cases hall : ∀ i, i < N → listed.getD i false = true
    · have hz : ((List.range N).filter fun i => !listed.getD i false) = [] := by
        rw [List.filter_eq_nil_iff]; intro i hi; simp [hall i (List.mem_range.1 hi)]
      rw [hz] at hf
      exact any_tail hc (fuel + 1) N listed a w (Nat.le_refl _) hNl hI.size (fun i hi => by
        by_cases h : i < N
        · rw [hall i h, decide_eq_true h]
        · rw [hI.tail i (by omega) hi, decide_eq_false h]) (by simp at hf; omega) (hfin listed a w ph hI hall)
    · have hex : ∃ i, i < N ∧ listed.getD i false = false := by
        refine Classical.byContradiction fun hne => hall fun i hi => ?_
        cases hl : listed.getD i false with
        | true => rfl
        | false => exact absurd ⟨i, hi, hl⟩ hne
      refine ⟨fun hr => ?_, fun i hi => ?_⟩
      · exfalso
        obtain ⟨i0, hi0, h1, h2⟩ := least (fun i => listed.getD i false) N hex
        have hlt : i0 < ops.length := by omega
        have : i0 ∈ Region.ready .any ops.toArray listed := ready_iff.2 ⟨ops[i0], List.getElem?_eq_getElem hlt, by rw [gd (b := true) (c := false) (by rw [hI.size]; exact hlt)]; exact h1, fun j hj => h2 j (hc.back i0 _ (List.getElem?_eq_getElem hlt) j hj)⟩
        rw [hr] at this; cases this
      · obtain ⟨o, ho, h1, h2⟩ := ready_iff.1 hi
        have hlt := (List.getElem?_eq_some_iff.1 ho).1
        have hiN : i < N := by
          refine Classical.byContradiction fun hge => ?_
          obtain ⟨j0, hj0, hun⟩ := hex
          have := hc.all i (by omega) hlt (fun j => listed.getD j false) hI.pc (fun o' ho' j hj => by rw [ho] at ho'; cases ho'; exact h2 j hj) j0 (by omega)
          rw [hun] at this; cases this
        have hun : listed.getD i false = false := by rw [gd (b := false) (c := true) (by rw [hI.size]; exact hlt)]; exact h1
        obtain ⟨o', ho', hpl, hlk⟩ := hc.free i hiN
        rw [ho] at ho'; cases ho'
        have hO := hob i o hiN ho
        have hg : gdst ops i = o.dst := by rw [gdst_eq, ho]; rfl
        have hlcm : ∀ s v, at' (Lq ops S L0 i) s = some v → s < m := fun s v hs => by
          rcases lq_some i hs with ⟨j, hj, hgj, -⟩ | ⟨h, -⟩
          · exact (hslot j s (by omega) hgj).1
          · exact hL0 s v h
        let st : Act := { a with tmps := Array.ofFn (n := m) fun s => (at' (Lq ops S L0 i) s.1).getD (a.tmps.getD s.1 undef) }
        have hstar : ∀ s, (∀ v, at' (Lq ops S L0 i) s = some v → a.tmps[s]? = some v) → st.tmps[s]? = a.tmps[s]? := fun s h => by
          show (Array.ofFn (n := m) fun s => (at' (Lq ops S L0 i) s.1).getD (a.tmps.getD s.1 undef))[s]? = _
          rw [Array.getElem?_ofFn]
          by_cases hs : s < m
          · rw [dif_pos hs]
            cases hat : at' (Lq ops S L0 i) s with
            | none => simp [Array.getD_eq_getD_getElem?, Array.getElem?_eq_getElem (show s < a.tmps.size by rw [hI.tsize]; exact hs)]
            | some v => simp [h v hat]
          · rw [dif_neg hs, Array.getElem?_eq_none (by rw [hI.tsize]; omega)]
        have hfr : Fr m D st (Lq ops S L0 i) := by
          refine ⟨by simp [st], hI.defers, fun s v hs => ?_⟩
          have hsm := hlcm s v hs
          show (Array.ofFn (n := m) fun s => (at' (Lq ops S L0 i) s.1).getD (a.tmps.getD s.1 undef))[s]? = _
          rw [Array.getElem?_ofFn, dif_pos hsm]; simp [hs]
        have hlook : ∀ s ∈ looks ops o, st.tmps[s]? = a.tmps[s]? := fun s hs => hstar s fun v hv => hread listed a w ph hI i s v (by omega) hv fun j hj hgj => by
          rcases hlk s hs j hj hgj with hn | ⟨oj, hoj, hn⟩
          · exact .inl ⟨hc.back i o ho j hn, h2 j hn⟩
          · refine .inr ⟨Nat.le_of_lt (hc.back j oj hoj i hn), ?_⟩
            cases hlj : listed.getD j false with
            | false => rfl
            | true =>
              have hli : listed.getD i false = true := hI.pc j oj hoj hlj i hn
              rw [hun] at hli; cases hli
        have hopd : ∀ x ∈ o.op.operands, st.eval x = a.eval x := fun x hx => by
          cases x with
          | tmp t =>
            have := hlook t (List.mem_append_left _ (List.mem_filterMap.2 ⟨.tmp t, by simpa using hx, rfl⟩))
            show st.tmps.getD t undef = a.tmps.getD t undef
            rw [Array.getD_eq_getD_getElem?, Array.getD_eq_getD_getElem?, this]
          | _ => rfl
        have hexec : execOp st.eval o = execOp a.eval o := execOp_congr o (fun cs b h => by rw [h] at hpl; cases hpl) hopd
        have hwant : Region.wanted o (yielded ops.toArray st.tmps) = Region.wanted o (yielded ops.toArray a.tmps) := by
          unfold Region.wanted
          cases hgd : o.guard with
          | none => rfl
          | some p =>
            obtain ⟨j, want⟩ := p
            have hy : yielded ops.toArray st.tmps j = yielded ops.toArray a.tmps j := by
              simp only [yielded, List.getElem?_toArray]
              cases hgj : (ops[j]?).bind (·.dst) with
              | none => rfl
              | some dj =>
                have := hlook dj (List.mem_append_right _ (by rw [hgd]; simp only [gdst_eq, hgj]; simp))
                simp only [Option.bind_some, this]
            simp only [hy]
        have hnd : ∀ c, o.op ≠ .defer c := fun c h => by rw [h] at hpl; cases hpl
        have hfacts : FactsAt ops o (Vq ops S [] i) ph st w := fun q hq hlo => by
          obtain ⟨j, hj, hgj, hSj⟩ := vq_mem i hq
          obtain ⟨v, hv, hh⟩ := hI.new j (by omega) (h2 j ((hlk q.1 hlo j (by omega) hgj).elim id fun ⟨oj, hoj, hn⟩ => absurd (hc.back j oj hoj i hn) (by omega))) q.1 hgj
          exact ⟨v, by rw [hlook q.1 hlo]; exact hv, by rw [hSj] at hh; exact hh⟩
        have hsz : i < listed.size := by rw [hI.size]; exact hlt
        -- what holds behind the operation
        have hnext : ∀ v w'' ph', ph' ≤ X.si.length → (∀ k, k < X.si.length → (k < ph' ↔ k < ph ∨ X.at k = i)) → X.J ph' w'' → (∀ d, o.dst = some d → (S i).holds ph' v w'') → (∀ j, j < N → j ≠ i → listed.getD j false = true → ∀ d u, gdst ops j = some d → a.tmps[d]? = some u → (S j).holds ph u w → (S j).holds ph' u w'') →
            wpAnyIn F n P .any ops.toArray Q fuel (listed.setIfInBounds i true) (a.put o.dst v) w'' := by
          intro v w'' ph' hple hphase hw'' hh hx
          refine ih _ _ _ ph' ⟨by simp [hI.size], fun k hk hkl => ?_, fun k ok hok hk j hj => ?_, hple, fun k hk => ?_, hw'', ?_, ?_, fun s u hs hk => ?_, fun k hk hkl dk hgk => ?_⟩ ?_
          · rw [getD_set hsz, if_neg (by omega)]; exact hI.tail k hk hkl
          · simp only [getD_set hsz] at hk ⊢
            by_cases e : i = j
            · rw [if_pos e]
            · rw [if_neg e]
              by_cases ek : i = k
              · subst ek; rw [ho] at hok; cases hok; exact h2 j hj
              · rw [if_neg ek] at hk; exact hI.pc k ok hok hk j hj
          · rw [getD_set hsz, hphase k hk]
            by_cases e : i = X.at k
            · rw [if_pos e]; simp [e]
            · rw [if_neg e, hI.phase k hk]
              exact ⟨.inl, fun h => h.elim id fun h => absurd h.symm e⟩
          · cases hd : o.dst <;> simp [Act.put, hI.tsize]
          · cases hd : o.dst <;> exact hI.defers
          · cases hd : o.dst with
            | none =>
              exact hI.old s u hs fun j hj hgj => by
                have := hk j hj hgj
                rw [getD_set hsz] at this
                by_cases e : i = j
                · rw [if_pos e] at this; cases this
                · rw [if_neg e] at this; exact this
            | some d =>
              have hne : d ≠ s := fun e => by
                subst e
                have := hk i hiN (hg.trans hd)
                rw [getD_set hsz, if_pos rfl] at this; cases this
              simp only [Act.put, Array.getElem?_setIfInBounds_ne hne]
              exact hI.old s u hs fun j hj hgj => by
                have := hk j hj hgj
                rw [getD_set hsz] at this
                by_cases e : i = j
                · rw [if_pos e] at this; cases this
                · rw [if_neg e] at this; exact this
          · rw [getD_set hsz] at hkl
            by_cases e : i = k
            · subst e
              rw [hg] at hgk
              have hm := (hslot i dk hiN (hg.trans hgk)).1
              exact ⟨v, by rw [hgk]; simp [Act.put, hI.tsize, hm], hh dk hgk⟩
            · rw [if_neg e] at hkl
              obtain ⟨u, hu, hhu⟩ := hI.new k hk hkl dk hgk
              refine ⟨u, ?_, hx k hk (fun e' => e e'.symm) hkl dk u hgk hu hhu⟩
              cases hd : o.dst with
              | none => exact hu
              | some d =>
                have hne : d ≠ dk := fun e' => by subst e'; exact hc.ne hiN hk e (hg.trans hd) hgk
                simp only [Act.put, Array.getElem?_setIfInBounds_ne hne]; exact hu
          · have := filter_lt (p := fun k => !(listed.setIfInBounds i true).getD k false) (q := fun k => !listed.getD k false) (List.range N) (fun k _ hk => by
              simp only [getD_set hsz] at hk
              by_cases e : i = k
              · rw [if_pos e] at hk; cases hk
              · rw [if_neg e] at hk; exact hk) ⟨i, List.mem_range.2 hiN, by simp [hun], by simp [getD_set hsz]⟩
            omega
        unfold wpOpIn
        rw [List.getElem?_toArray, ho]
        simp only
        rcases hO.does with ⟨k, hk, hki, hsp⟩ | ⟨hsome, hno, hfree⟩
        · -- one of those that turn blocks
          have hphk : ph = k := by
            have h3 : ¬ k < ph := fun h => by
              have := (hI.phase k hk).2 h
              rw [hki, hun] at this; cases this
            by_cases h4 : ph < k
            · have h5 := hch k ph h4 hk (fun j => listed.getD j false) hI.pc (fun o' ho' j hj => by rw [hki, ho] at ho'; cases ho'; exact h2 j hj)
              have := (hI.phase ph (by omega)).1 h5
              omega
            · omega
          subst hphk
          have hinj : ∀ j, j < X.si.length → X.at j = i → j = ph := fun j hj hji => by
            by_cases h3 : j < ph
            · have := (hI.phase j hj).2 h3; rw [hji, hun] at this; cases this
            · by_cases h4 : j = ph
              · exact h4
              · have h5 := hch j ph (by omega) hj (fun x => listed.getD x false) hI.pc (fun o' ho' x hx => by rw [hji, ho] at ho'; cases ho'; exact h2 x hx)
                rw [hki] at h5
                have h5' : listed.getD i false = true := h5
                rw [hun] at h5'; cases h5'
          obtain ⟨hw, hdo⟩ := hsp w hI.world st hfr hfacts
          rw [if_pos (hwant ▸ hw)]
          have hgo : ∀ v w'', (((fun ph v w => ∀ d, o.dst = some d → (S i).holds ph v w) : PVP) (ph + 1) v w'' ∧ X.J (ph + 1) w'' ∧ X.G ph w w'' ∧ FactsAt ops o (Vq ops S [] i) (ph + 1) st w'') → wpAnyIn F n P .any ops.toArray Q fuel (listed.setIfInBounds i true) (a.put o.dst v) w'' := fun v w'' ⟨h3, h4, h5, h6⟩ => by
            refine hnext v w'' (ph + 1) (by omega) (fun j hj => ?_) h4 h3 (fun j hj hji hl d u hgj hu hhu => ?_)
            · constructor
              · intro h7
                by_cases h8 : j < ph
                · exact .inl h8
                · have : j = ph := by omega
                  subst this; exact .inr hki
              · rintro (h7 | h7)
                · omega
                · have := hinj j hj h7; omega
            · by_cases hlo : d ∈ looks ops o
              · cases hSj : S j with
                | c c => rw [hSj] at hhu; exact hhu
                | p p =>
                  have hjn : j ∈ needsL o := (hlk d hlo j hj hgj).elim id fun ⟨oj, hoj, hn⟩ => by
                    have hli : listed.getD i false = true := hI.pc j oj hoj hl i hn
                    rw [hun] at hli; cases hli
                  have hjlt := hc.back i o ho j hjn
                  obtain ⟨u', hu', hh'⟩ := h6 (d, p) (mem_vq hgj hSj i hjlt) hlo
                  rw [hlook d hlo, hu] at hu'
                  cases hu'
                  exact hh'
              · exact (hslot j d hj hgj).2.1.2 ph hk (fun e => hji (by rw [← e, hki])) (fun o' ho' => by rw [hki, ho] at ho'; cases ho'; exact hlo) u w w'' hhu h5
          cases hdo with
          | val v w' h hr => exact wpIn_value hW hnd (by rw [← hexec]; exact h) (hgo v w' hr)
          | skip w' h hr => exact wpIn_skipped hW hnd (by rw [← hexec]; exact h) (hgo undef w' hr)
          | call f args w' h hcl =>
            rcases hcl with ⟨hF, hcl⟩
            have hx : (execOp a.eval o).run P w = .ok (.enter f args) w' := by rw [← hexec]; exact h
            exact wpIn_entered hW hnd hx ⟨hF, hcl⟩ (fun v w'' hr => hgo v w'' hr)
        · have hgo : ∀ v w'', (S i).holds ph v w'' → Ext w w'' → wpAnyIn F n P .any ops.toArray Q fuel (listed.setIfInBounds i true) (a.put o.dst v) w'' := fun v w'' h3 h4 =>
            hnext v w'' ph hI.phle (fun k hk => ⟨.inl, fun h => h.elim id fun h => absurd h (hno k hk)⟩) (hJ ph w w'' hI.world h4) (fun d _ => h3) (fun j hj _ _ d u hgj _ hhu => (hslot j d hj hgj).2.1.1 ph u w w'' hhu h4)
          have hbef : Bef X ops i ph := fun k hk hin => by
            refine Nat.le_of_not_lt fun hlt => ?_
            have h5 := (hI.phase k hk).2 hlt
            have h6 : X.at k < ops.length := by have := hsN k hk; omega
            have h7 := hI.pc (X.at k) ops[X.at k] (List.getElem?_eq_getElem h6) h5 i (hin _ (List.getElem?_eq_getElem h6))
            have h8 : listed.getD i false = true := h7
            rw [hun] at h8; cases h8
          rcases hfree ph w hI.phle hbef hI.world st hfr hfacts with ⟨hw, hdo⟩ | ⟨hw, hr⟩
          · rw [if_pos (hwant ▸ hw)]
            cases hdo with
            | val v w' h hr => exact wpIn_value hW hnd (by rw [← hexec]; exact h) (hgo v w' hr.1 hr.2)
            | call f args w' h hcl =>
              rcases hcl with ⟨hF, hcl⟩
              have hx : (execOp a.eval o).run P w = .ok (.enter f args) w' := by rw [← hexec]; exact h
              exact wpIn_entered hW hnd hx ⟨hF, hcl⟩ (fun v w'' hr => hgo v w'' hr.1 hr.2)
          · rw [if_neg (by rw [← hwant, hw]; simp)]
            exact ⟨fun f _ => hW.fn f, hgo undef w hr (Keep.refl _ _)⟩

/-- **A region that draws its order, some operations of which turn blocks, one behind the other.** -/
theorem wc_drawX {id : Nat} {L : Env} {w : World} (X : Spx) (N : Nat) (hW : Wd F) (hm : P.follows .mixedOrders = true) (hck : freeOk ops N = true) (hchk : chainOk ops N X.si = true) (hJ : ∀ ph w w', X.J ph w → Ext w w' → X.J ph w')
    (h0 : ∀ w0, Ext w w0 → X.J 0 w0) (hq : QWX X F n P m D ops (TailX X F n P Q m D ops (ops.drop N)) 0 (ops.take N) L []) : WC F n P Q m D (.region id ops.toArray true) L w := by
  intro a ha
  have hc := chk_of hck
  obtain ⟨hsN, hch⟩ := chain_of hc hchk
  obtain ⟨S, -, h2, h3⟩ := qw_specsX (X := X) (F := F) (n := n) (P := P) (m := m) (D := D) (ops := ops) (L := L) (V := []) (ops.take N) 0 (fun _ => .c undef) (fun j o hj => by
    rw [Nat.zero_add]
    rw [List.getElem?_take] at hj
    split at hj
    · exact hj
    · cases hj) hq
  have hlen : (ops.take N).length = N := by rw [List.length_take]; have := free_len hc; omega
  rw [Nat.zero_add, hlen] at h3
  refine wpIn_region_any hm ?_
  have hmem : ∀ s v, at' L s = some v → s < m := fun s v hs => by rw [← ha.size]; exact (Array.getElem?_eq_some_iff.1 (ha.get s v hs)).1
  have hfalse : ∀ i, (Array.replicate ops.length false).getD i false = false := fun i => by
    rw [Array.getD_eq_getD_getElem?, Array.getElem?_replicate]; split <;> rfl
  have := any_freeX (X := X) (Q := Q) (N := N) (S := S) (V := Vq ops S [] N) hW hc hJ hsN hch hmem (fun i o hi ho => h2 i o (Nat.zero_le _) (by rw [Nat.sub_zero, List.getElem?_take_of_lt hi]; exact ho)) rfl h3 ops.length
    (Array.replicate ops.length false) a w.drew 0 ⟨by simp, fun i _ _ => hfalse i, (fun i o _ h => absurd ((hfalse i).symm.trans h) Bool.false_ne_true), Nat.zero_le _, fun k _ => ⟨fun h => absurd ((hfalse _).symm.trans h) Bool.false_ne_true, fun h => absurd h (Nat.not_lt_zero _)⟩, h0 _ (ext_drew w), ha.size, ha.defers, fun s v hs _ => ha.get s v hs, (fun i _ h => absurd ((hfalse i).symm.trans h) Bool.false_ne_true)⟩
    (by
      have : ((List.range N).filter fun i => !(Array.replicate ops.length false).getD i false).length ≤ N := by
        have := List.length_filter_le (fun i => !(Array.replicate ops.length false).getD i false) (List.range N)
        simpa using this
      have := free_len hc
      omega)
  simpa using this
end

section
variable {X : Spx} {F : Fence} {n : Nat} {P : Program} {Q : Exit → Act → World → Prop} {m : Nat} {D : List Deferred} {L : Env} {w w' : World}
variable {ops tail : List Oper} {rest : List Oper} {d i k : Nat} {ty : TypeId} {pos : String} {af : Array Edge} {g : Option (Nat × Bool)} {v : Value} {K : Env → List (Nat × PVP) → Prop} {V : List (Nat × PVP)}
def noSpB (X : Spx) (i : Nat) : Bool := X.si.all fun j => j != i
theorem noSp_of (h : noSpB X i = true) : NoSp X i := fun k hk e => by
  unfold noSpB at h
  rw [List.all_eq_true] at h
  have : X.at k ∈ X.si := by unfold Spx.at; rw [List.getD_eq_getElem?_getD, List.getElem?_eq_getElem hk]; simp
  have := h _ this
  simp [e] at this
theorem stabX_c {c : Value} : StabX X ops i d (Sq.c c).holds := ⟨fun _ _ _ _ h _ => h, fun _ _ _ _ _ _ _ h _ => h⟩
theorem qx_nil (k : K L V) : QWX X F n P m D ops K i [] L V := k
theorem qx_val {op : Op} (hn : noSpB X i = true) (hg : wants L ops g = some true) (hd : Nat.blt d m = true) (hx : ∀ ph w', X.J ph w' → Xv P m D L op ty w' v w') (k : QWX X F n P m D ops K (i + 1) rest ((d, v) :: L) V) :
    QWX X F n P m D ops K i (⟨some d, op, ty, pos, af, g⟩ :: rest) L V :=
  .inr ⟨d, rfl, hd, .c v, nofun, stabX_c, .inr ⟨noSp_of hn, fun ph w' _ hbf hJ a h _ => .inl ⟨h.wanted (o := ⟨some d, op, ty, pos, af, g⟩) hg, .val v w' ((hx ph w' hJ).2 _ _ _ _ a h) ⟨rfl, Keep.refl _ _⟩⟩⟩, k⟩
theorem qx_off {op : Op} (hn : noSpB X i = true) (hg : wants L ops g = some false) (hd : Nat.blt d m = true) (k : QWX X F n P m D ops K (i + 1) rest ((d, undef) :: L) V) :
    QWX X F n P m D ops K i (⟨some d, op, ty, pos, af, g⟩ :: rest) L V :=
  .inr ⟨d, rfl, hd, .c undef, nofun, stabX_c, .inr ⟨noSp_of hn, fun ph w' _ hbf hJ a h _ => .inr ⟨h.wanted (o := ⟨some d, op, ty, pos, af, g⟩) hg, rfl⟩⟩, k⟩
/-- A value that is known up to p. -/
theorem qx_valp {op : Op} {p : PVP} (hn : noSpB X i = true) (hs : StabX X ops i d p) (hg : wants L ops g = some true) (hd : Nat.blt d m = true) (hno : at' L d = none) (hx : ∀ ph w', Bef X ops i ph → X.J ph w' → ∃ v w'', Xv P m D L op ty w' v w'' ∧ p ph v w'' ∧ Ext w' w'') (k : QWX X F n P m D ops K (i + 1) rest L ((d, p) :: V)) :
    QWX X F n P m D ops K i (⟨some d, op, ty, pos, af, g⟩ :: rest) L V :=
  .inr ⟨d, rfl, hd, .p p, fun _ _ => hno, hs, .inr ⟨noSp_of hn, fun ph w' _ hbf hJ a h _ => by
    obtain ⟨v, w'', hx, hpv, he⟩ := hx ph w' hbf hJ
    exact .inl ⟨h.wanted (o := ⟨some d, op, ty, pos, af, g⟩) hg, .val v w'' (hx.2 _ _ _ _ a h) ⟨hpv, he⟩⟩⟩, k⟩
theorem fr_cons {a : Act} {s : Nat} {u : Value} (h : Fr m D a L) (hu : a.tmps[s]? = some u) : Fr m D a ((s, u) :: L) := ⟨h.size, h.defers, fun j v hj => by
  rw [at_cons] at hj
  split at hj
  · rename_i e; subst e; cases hj; exact hu
  · exact h.get j v hj⟩
/-- .. and that is made of one such. -/
theorem qx_valv {op : Op} {p q : PVP} {s : Nat} (hn : noSpB X i = true) (hs : StabX X ops i d p) (hg : wants L ops g = some true) (hd : Nat.blt d m = true) (hno : at' L d = none) (hV : (s, q) ∈ V) (hlo : s ∈ looks ops ⟨some d, op, ty, pos, af, g⟩)
    (hx : ∀ ph w' u, X.J ph w' → q ph u w' → ∃ v w'', Xv P m D ((s, u) :: L) op ty w' v w'' ∧ p ph v w'' ∧ Ext w' w'') (k : QWX X F n P m D ops K (i + 1) rest L ((d, p) :: V)) :
    QWX X F n P m D ops K i (⟨some d, op, ty, pos, af, g⟩ :: rest) L V :=
  .inr ⟨d, rfl, hd, .p p, fun _ _ => hno, hs, .inr ⟨noSp_of hn, fun ph w' _ hbf hJ a h hf => by
    obtain ⟨u, hu, hq⟩ := hf _ hV hlo
    obtain ⟨v, w'', hx, hpv, he⟩ := hx ph w' u hJ hq
    exact .inl ⟨h.wanted (o := ⟨some d, op, ty, pos, af, g⟩) hg, .val v w'' (hx.2 _ _ _ _ a (fr_cons h hu)) ⟨hpv, he⟩⟩⟩, k⟩
theorem qx_valvc {op : Op} {q : PVP} {s : Nat} (hn : noSpB X i = true) (hg : wants L ops g = some true) (hd : Nat.blt d m = true) (hV : (s, q) ∈ V) (hlo : s ∈ looks ops ⟨some d, op, ty, pos, af, g⟩)
    (hx : ∀ ph w' u, X.J ph w' → q ph u w' → Xv P m D ((s, u) :: L) op ty w' v w') (k : QWX X F n P m D ops K (i + 1) rest ((d, v) :: L) V) :
    QWX X F n P m D ops K i (⟨some d, op, ty, pos, af, g⟩ :: rest) L V :=
  .inr ⟨d, rfl, hd, .c v, nofun, stabX_c, .inr ⟨noSp_of hn, fun ph w' _ hbf hJ a h hf => by
    obtain ⟨u, hu, hq⟩ := hf _ hV hlo
    exact .inl ⟨h.wanted (o := ⟨some d, op, ty, pos, af, g⟩) hg, .val v w' ((hx ph w' u hJ hq).2 _ _ _ _ a (fr_cons h hu)) ⟨rfl, Keep.refl _ _⟩⟩⟩, k⟩
theorem qx_callc {op : Op} {f : FuncId} {args : Array Value} (hn : noSpB X i = true) (hg : wants L ops g = some true) (hd : Nat.blt d m = true) (hx : ∀ w', Xc P m D L op ty w' f args w')
    (hc : ∀ ph w', X.J ph w' → CallsIn F (n - 1) P f args w' (ok1 fun u w'' => u = v ∧ Ext w' w'')) (k : QWX X F n P m D ops K (i + 1) rest ((d, v) :: L) V) :
    QWX X F n P m D ops K i (⟨some d, op, ty, pos, af, g⟩ :: rest) L V :=
  .inr ⟨d, rfl, hd, .c v, nofun, stabX_c, .inr ⟨noSp_of hn, fun ph w' _ hbf hJ a h hf => .inl ⟨h.wanted (o := ⟨some d, op, ty, pos, af, g⟩) hg, .call f args w' ((hx w').2 _ _ _ _ a h) (hc ph w' hJ)⟩⟩, k⟩
theorem qx_callp {op : Op} {f : FuncId} {args : Array Value} {p : PVP} (hn : noSpB X i = true) (hs : StabX X ops i d p) (hg : wants L ops g = some true) (hd : Nat.blt d m = true) (hno : at' L d = none) (hx : ∀ w', Xc P m D L op ty w' f args w')
    (hc : ∀ ph w', X.J ph w' → CallsIn F (n - 1) P f args w' (ok1 fun u w'' => p ph u w'' ∧ Ext w' w'')) (k : QWX X F n P m D ops K (i + 1) rest L ((d, p) :: V)) :
    QWX X F n P m D ops K i (⟨some d, op, ty, pos, af, g⟩ :: rest) L V :=
  .inr ⟨d, rfl, hd, .p p, fun _ _ => hno, hs, .inr ⟨noSp_of hn, fun ph w' _ hbf hJ a h hf => .inl ⟨h.wanted (o := ⟨some d, op, ty, pos, af, g⟩) hg, .call f args w' ((hx w').2 _ _ _ _ a h) (hc ph w' hJ)⟩⟩, k⟩
/-- A store, to a place that is known, of a value that is known. -/
theorem qx_store {op : Op} (hk : k < X.si.length) (hi : X.at k = i) (hg : wants L ops g = some true) (hV : V.all (fun q => !(looks ops ⟨none, op, ty, pos, af, g⟩).contains q.1) = true)
    (hx : ∀ w', X.J k w' → ∃ w'', Xs P m D L op ty w' w'' ∧ X.J (k + 1) w'' ∧ X.G k w' w'') (kk : QWX X F n P m D ops K (i + 1) rest L V) :
    QWX X F n P m D ops K i (⟨none, op, ty, pos, af, g⟩ :: rest) L V :=
  .inl ⟨rfl, ⟨k, hk, hi, fun w' hJ a h hf => by
    obtain ⟨w'', hx, h1, h2⟩ := hx w' hJ
    exact ⟨h.wanted (o := ⟨none, op, ty, pos, af, g⟩) hg, .skip w'' (hx.2 _ _ _ _ a h) ⟨trivial, h1, h2, fun q hq hlo => by have := List.all_eq_true.1 hV q hq; simp [hlo] at this⟩⟩⟩, kk⟩
/-- A store to a place of which q is known. -/
theorem qx_store1 {op : Op} {q : PVP} {s : Nat} (hk : k < X.si.length) (hi : X.at k = i) (hg : wants L ops g = some true) (hV : (s, q) ∈ V) (hlo : s ∈ looks ops ⟨none, op, ty, pos, af, g⟩) (hone : ∀ q' ∈ V, q'.1 ∈ looks ops ⟨none, op, ty, pos, af, g⟩ → q' = (s, q))
    (hx : ∀ w' u, X.J k w' → q k u w' → ∃ w'', Xs P m D ((s, u) :: L) op ty w' w'' ∧ X.J (k + 1) w'' ∧ X.G k w' w'' ∧ q (k + 1) u w'') (kk : QWX X F n P m D ops K (i + 1) rest L V) :
    QWX X F n P m D ops K i (⟨none, op, ty, pos, af, g⟩ :: rest) L V :=
  .inl ⟨rfl, ⟨k, hk, hi, fun w' hJ a h hf => by
    obtain ⟨u, hu, hq⟩ := hf _ hV hlo
    obtain ⟨w'', hx, h1, h2, h3⟩ := hx w' u hJ hq
    exact ⟨h.wanted (o := ⟨none, op, ty, pos, af, g⟩) hg, .skip w'' (hx.2 _ _ _ _ a (fr_cons h hu)) ⟨trivial, h1, h2, fun q' hq' hlo' => by obtain rfl := hone q' hq' hlo'; exact ⟨u, hu, h3⟩⟩⟩⟩, kk⟩
/-- .. of a value of which q2 is known. -/
theorem qx_store2 {op : Op} {q q2 : PVP} {s s2 : Nat} (hk : k < X.si.length) (hi : X.at k = i) (hg : wants L ops g = some true) (hV : (s, q) ∈ V) (hV2 : (s2, q2) ∈ V) (hlo : s ∈ looks ops ⟨none, op, ty, pos, af, g⟩) (hlo2 : s2 ∈ looks ops ⟨none, op, ty, pos, af, g⟩)
    (hone : ∀ q' ∈ V, q'.1 ∈ looks ops ⟨none, op, ty, pos, af, g⟩ → q' = (s, q) ∨ q' = (s2, q2))
    (hx : ∀ w' u u2, X.J k w' → q k u w' → q2 k u2 w' → ∃ w'', Xs P m D ((s, u) :: (s2, u2) :: L) op ty w' w'' ∧ X.J (k + 1) w'' ∧ X.G k w' w'' ∧ q (k + 1) u w'' ∧ q2 (k + 1) u2 w'') (kk : QWX X F n P m D ops K (i + 1) rest L V) :
    QWX X F n P m D ops K i (⟨none, op, ty, pos, af, g⟩ :: rest) L V :=
  .inl ⟨rfl, ⟨k, hk, hi, fun w' hJ a h hf => by
    obtain ⟨u, hu, hq⟩ := hf _ hV hlo
    obtain ⟨u2, hu2, hq2⟩ := hf _ hV2 hlo2
    obtain ⟨w'', hx, h1, h2, h3, h4⟩ := hx w' u u2 hJ hq hq2
    exact ⟨h.wanted (o := ⟨none, op, ty, pos, af, g⟩) hg, .skip w'' (hx.2 _ _ _ _ a (fr_cons (fr_cons h hu2) hu)) ⟨trivial, h1, h2, fun q' hq' hlo' => by
      rcases hone q' hq' hlo' with rfl | rfl
      · exact ⟨u, hu, h3⟩
      · exact ⟨u2, hu2, h4⟩⟩⟩⟩, kk⟩
/-- A call that turns blocks and yields what is known. -/
theorem qx_spcall {op : Op} {f : FuncId} {args : Array Value} (hk : k < X.si.length) (hi : X.at k = i) (hg : wants L ops g = some true) (hd : Nat.blt d m = true) (hV : V.all (fun q => !(looks ops ⟨some d, op, ty, pos, af, g⟩).contains q.1) = true) (hx : ∀ w', Xc P m D L op ty w' f args w')
    (hc : ∀ w', X.J k w' → CallsIn F (n - 1) P f args w' (ok1 fun u w'' => u = v ∧ X.J (k + 1) w'' ∧ X.G k w' w'')) (kk : QWX X F n P m D ops K (i + 1) rest ((d, v) :: L) V) :
    QWX X F n P m D ops K i (⟨some d, op, ty, pos, af, g⟩ :: rest) L V :=
  .inr ⟨d, rfl, hd, .c v, nofun, stabX_c, .inl ⟨k, hk, hi, fun w' hJ a h hf => ⟨h.wanted (o := ⟨some d, op, ty, pos, af, g⟩) hg, .call f args w' ((hx w').2 _ _ _ _ a h) ((hc w' hJ).mono fun e w'' ⟨u, he, h1, h2, h3⟩ =>
    ⟨u, he, h1, h2, h3, fun q hq hlo => by have := List.all_eq_true.1 hV q hq; simp [hlo] at this⟩)⟩⟩, kk⟩
theorem tailx0 (k : ∀ w', X.J X.si.length w' → WL F n P Q m D ops tail L w') : TailX X F n P Q m D ops tail L [] := fun w' hw L' _ hs => wl_sub hs (k w' hw)
theorem tailx1 {p : PVP} (k : ∀ w' v, X.J X.si.length w' → p X.si.length v w' → WL F n P Q m D ops tail ((d, v) :: L) w') : TailX X F n P Q m D ops tail L [(d, p)] := fun w' hw L' hv hs => by
  obtain ⟨v, h1, h2⟩ := hv (d, p) (by simp)
  exact wl_sub (sub_cons h1 hs) (k w' v hw h2)
/-- Of the values of which something is known, one is looked at. -/
theorem tailxm {p : PVP} (hV : (d, p) ∈ V) (k : ∀ w' v, X.J X.si.length w' → p X.si.length v w' → WL F n P Q m D ops tail ((d, v) :: L) w') : TailX X F n P Q m D ops tail L V := fun w' hw L' hv hs => by
  obtain ⟨v, h1, h2⟩ := hv (d, p) hV
  exact wl_sub (sub_cons h1 hs) (k w' v hw h2)
end
section
variable {P : Program} {m : Nat} {D : List Deferred} {L : Env} {w : World} {ty t : TypeId} {v : Value} {x y : Operand}
theorem xs_store {b o : Nat} {cs : List Value} {T : TypeId} (hf : Flat P t) (hx : ev L x = some (.pointer (some ⟨b, o, none⟩))) (hy : ev L y = some v) (h1 : v.oneCell' = true)
    (hB : Blk w b cs T) (ho' : Nat.blt o cs.length = true) : ∃ w', Xs P m D L (.store t x y) ty w w' ∧ Blk w' b (cs.set o v) T ∧ Keep (· ≠ b) w w' := by
  have ho : o < cs.length := by simpa using ho'
  refine ⟨w.setCell ⟨b, o, none⟩ v, ⟨nofun, fun _ _ _ _ a h => ?_⟩, hB.set o v, keep_set w b o v⟩
  have hc : w.cell? ⟨b, o, none⟩ = some cs[o] := hB.cell (List.getElem?_eq_getElem ho)
  have hfz := hB.free (o := o)
  have hcs : v.cells = #[v] := by cases v <;> simp_all [Value.cells, Value.oneCell']
  have hst : (store (⟨b, o, none⟩ : Addr) v .plain).run P w = .ok () (w.setCell ⟨b, o, none⟩ v) := by
    cases v <;> simp_all [store, Sem.run, Value.oneCell']
  have ha : (⟨b, o, none⟩ : Addr).add 0 = ⟨b, o, none⟩ := by simp [Addr.add]
  simp [execOp, h.ev hx, h.ev hy, Instr.storeAt, Instr.sureAddr, storeVar, (hf w).2, hcs, storeCells, ha, hst]
theorem xs_storeA {b o k' : Nat} {cs new : List Value} {T : TypeId} (ha : Agg P t k') (hx : ev L x = some (.pointer (some ⟨b, o, none⟩))) (hy : ev L y = some (.agg new.toArray)) (h1 : new.all Value.oneCell' = true)
    (hl : new.length = k') (hB : Blk w b cs T) (ho' : Nat.ble (o + new.length) cs.length = true) : ∃ w', Xs P m D L (.store t x y) ty w w' ∧ Blk w' b (cs.take o ++ new ++ cs.drop (o + new.length)) T ∧ Keep (· ≠ b) w w' := by
  have ho : o + new.length ≤ cs.length := Nat.le_of_ble_eq_true ho'
  obtain ⟨w', hr, hB', hk, hsz⟩ := run_storeCells (P := P) new o 0 cs w hB (by omega) (List.all_eq_true.1 h1)
  refine ⟨w', ⟨nofun, fun _ _ _ _ a h => ?_⟩, hB', hk⟩
  simp [execOp, h.ev hx, h.ev hy, Instr.storeAt, Instr.sureAddr, storeVar, (ha w).2, Value.cells, hl, hr]
theorem xv_alloc {cs : List Value} {z : Value} (hz : ∀ w, (zeroValue t).run P w = .ok z w) (hcs : z.cells = cs.toArray) : ∃ b w', Xv P m D L (.alloc t) ty w (.pointer (some ⟨b, 0, none⟩)) w' ∧ w.heap.size ≤ b ∧ Blk w' b cs t ∧ Ext w w' :=
  ⟨w.heap.size, _, ⟨nofun, fun _ _ _ _ a h => by
    simp only [execOp, Instr.alloc, Sem.run_bind, hz w, Result.andThen_ok, newVar, newRow, newObj, Sem.run, Sem.run_pure, hcs]
    rfl⟩, Nat.le_refl _, blk_new w cs t, ext_alloc w _⟩
end
section
variable {X : Spx} {F : Fence} {n : Nat} {P : Program} {m : Nat} {D : List Deferred} {L : Env}
variable {ops : List Oper} {rest : List Oper} {i k : Nat} {ty t : TypeId} {pos : String} {af : Array Edge} {g : Option (Nat × Bool)} {v : Value} {x y : Operand} {K : Env → List (Nat × PVP) → Prop} {V : List (Nat × PVP)}
theorem qx_st {b o : Nat} {cs : List Value} {T : TypeId} (hk : k < X.si.length) (hi : X.at k = i) (hg : wants L ops g = some true) (hV : V.all (fun q => !(looks ops ⟨none, .store t x y, ty, pos, af, g⟩).contains q.1) = true)
    (hf : Flat P t) (hx : ev L x = some (.pointer (some ⟨b, o, none⟩))) (hy : ev L y = some v) (h1 : v.oneCell' = true) (hB : ∀ w', X.J k w' → Blk w' b cs T) (ho' : Nat.blt o cs.length = true)
    (hJ : ∀ w' w'', X.J k w' → Blk w'' b (cs.set o v) T → Keep (· ≠ b) w' w'' → X.J (k + 1) w'' ∧ X.G k w' w'') (kk : QWX X F n P m D ops K (i + 1) rest L V) :
    QWX X F n P m D ops K i (⟨none, .store t x y, ty, pos, af, g⟩ :: rest) L V :=
  qx_store hk hi hg hV (fun w' h => by
    obtain ⟨w'', h2, h3, h4⟩ := xs_store (P := P) (m := m) (D := D) (L := L) (ty := ty) hf hx hy h1 (hB w' h) ho'
    exact ⟨w'', h2, hJ w' w'' h h3 h4⟩) kk
theorem qx_stA {b o k' : Nat} {cs new : List Value} {T : TypeId} (hk : k < X.si.length) (hi : X.at k = i) (hg : wants L ops g = some true) (hV : V.all (fun q => !(looks ops ⟨none, .store t x y, ty, pos, af, g⟩).contains q.1) = true)
    (ha : Agg P t k') (hx : ev L x = some (.pointer (some ⟨b, o, none⟩))) (hy : ev L y = some (.agg new.toArray)) (h1 : new.all Value.oneCell' = true) (hl : new.length = k') (hB : ∀ w', X.J k w' → Blk w' b cs T) (ho' : Nat.ble (o + new.length) cs.length = true)
    (hJ : ∀ w' w'', X.J k w' → Blk w'' b (cs.take o ++ new ++ cs.drop (o + new.length)) T → Keep (· ≠ b) w' w'' → X.J (k + 1) w'' ∧ X.G k w' w'') (kk : QWX X F n P m D ops K (i + 1) rest L V) :
    QWX X F n P m D ops K i (⟨none, .store t x y, ty, pos, af, g⟩ :: rest) L V :=
  qx_store hk hi hg hV (fun w' h => by
    obtain ⟨w'', h2, h3, h4⟩ := xs_storeA (P := P) (m := m) (D := D) (L := L) (ty := ty) ha hx hy h1 hl (hB w' h) ho'
    exact ⟨w'', h2, hJ w' w'' h h3 h4⟩) kk
end
/-! ### method values -/
section
variable {P : Program} {m : Nat} {D : List Deferred} {L : Env} {w : World} {ty : TypeId}
theorem x_callm {f : FuncId} {fo : Operand} {xs : List Operand} {vs first : List Value} {ts : Array TypeId} (he : Enters P f) (hf : ev L fo = some (.func (.func f) first.toArray #[])) (hx : evs L xs = some vs) :
    Xc P m D L (.call ⟨.value fo, xs.toArray, ts⟩) ty w f (first ++ vs).toArray w :=
  ⟨nofun, fun _ _ _ _ a h => by
    have h1 := h.evs hx
    have h2 := h.ev hf
    simp only [execOp, resolve, h1, h2]
    simpa [Deferred.ofValue, invoke] using he (first ++ vs).toArray w⟩
theorem x_makeMeth {f : FuncId} {xs : List Operand} {vs : List Value} (hx : evs L xs = some vs) : Xv P m D L (.makeFunc (.func f) xs.toArray #[]) ty w (.func (.func f) vs.toArray #[]) w :=
  ⟨nofun, fun _ _ _ _ a h => by have := h.evs hx; simp only [execOp, this, Instr.makeFunc]; simp⟩
end
section
variable {X : Spx} {F : Fence} {n : Nat} {P : Program} {m : Nat} {D : List Deferred} {L : Env}
variable {ops : List Oper} {rest : List Oper} {i k d : Nat} {ty t : TypeId} {pos : String} {af : Array Edge} {g : Option (Nat × Bool)} {v : Value} {x y : Operand} {K : Env → List (Nat × PVP) → Prop} {V : List (Nat × PVP)}
theorem qx_alloc {cs : List Value} {z : Value} {p : PVP} (hn : noSpB X i = true) (hs : StabX X ops i d p) (hg : wants L ops g = some true) (hd : Nat.blt d m = true) (hno : at' L d = none) (hz : ∀ w, (zeroValue t).run P w = .ok z w) (hcs : z.cells = cs.toArray)
    (hp : ∀ ph w' w'' b, Bef X ops i ph → X.J ph w' → w'.heap.size ≤ b → Blk w'' b cs t → Ext w' w'' → p ph (.pointer (some ⟨b, 0, none⟩)) w'') (k : QWX X F n P m D ops K (i + 1) rest L ((d, p) :: V)) :
    QWX X F n P m D ops K i (⟨some d, .alloc t, ty, pos, af, g⟩ :: rest) L V :=
  qx_valp hn hs hg hd hno (fun ph w' hbf hJ => by
    obtain ⟨b, w'', h1, h2, h3, h4⟩ := xv_alloc (P := P) (m := m) (D := D) (L := L) (w := w') (ty := ty) hz hcs
    exact ⟨_, w'', h1, hp ph w' w'' b hbf hJ h2 h3 h4, h4⟩) k
/-- A struct is stored where slot s points to. -/
theorem qx_stA1 {q : PVP} {s k' : Nat} {new : List Value} {T : TypeId} (hk : k < X.si.length) (hi : X.at k = i) (hg : wants L ops g = some true) (hV : (s, q) ∈ V) (hlo : s ∈ looks ops ⟨none, .store t (.tmp s) y, ty, pos, af, g⟩) (hone : ∀ q' ∈ V, q'.1 ∈ looks ops ⟨none, .store t (.tmp s) y, ty, pos, af, g⟩ → q' = (s, q))
    (ha : Agg P t k') (hy : ∀ u, ev ((s, u) :: L) y = some (.agg new.toArray)) (h1 : new.all Value.oneCell' = true) (hl : new.length = k') (hq : ∀ u w', q k u w' → ∃ b cs, u = .pointer (some ⟨b, 0, none⟩) ∧ Blk w' b cs T ∧ cs.length = k')
    (hJ : ∀ w' w'' b, X.J k w' → q k (.pointer (some ⟨b, 0, none⟩)) w' → Blk w'' b new T → Keep (· ≠ b) w' w'' → X.J (k + 1) w'' ∧ X.G k w' w'' ∧ q (k + 1) (.pointer (some ⟨b, 0, none⟩)) w'') (kk : QWX X F n P m D ops K (i + 1) rest L V) :
    QWX X F n P m D ops K i (⟨none, .store t (.tmp s) y, ty, pos, af, g⟩ :: rest) L V :=
  qx_store1 hk hi hg hV hlo hone (fun w' u h h2 => by
    obtain ⟨b, cs, rfl, hB, hcl⟩ := hq u w' h2
    obtain ⟨w'', h3, h4, h5⟩ := xs_storeA (P := P) (m := m) (D := D) (L := (s, .pointer (some ⟨b, 0, none⟩)) :: L) (ty := ty) (x := .tmp s) (o := 0) ha (by show at' _ _ = _; rw [at_cons, if_pos rfl]) (hy _) h1 hl hB (by simp [hl, hcl])
    have e : cs.take 0 ++ new ++ cs.drop (0 + new.length) = new := by rw [List.take_zero, List.nil_append, List.drop_eq_nil_of_le (by omega), List.append_nil]
    rw [e] at h4
    exact ⟨w'', h3, hJ w' w'' b h h2 h4 h5⟩) kk
end
end Go.Proofs.Ytiaikajibefieaa.K
