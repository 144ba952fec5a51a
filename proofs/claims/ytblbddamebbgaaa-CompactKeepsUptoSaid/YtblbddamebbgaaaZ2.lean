import Derived.Test.YtblbddamebbgaaaZ1
import Derived.Test.YtblbddamebbgaaaProg
import Derived.Maps.AppendAt
/- A drawn region in which some operations, each forced behind the one before, turn blocks: all others may come among them. Facts are told by phases: how many of these operations have come up. -/
namespace Go.Proofs.Ytblbddamebbgaaa.K
open Go Go.RowKit
set_option linter.unusedVariables false
set_option linter.unusedSectionVars false
set_option linter.unusedSimpArgs false

/-- A value's fact, by phases. -/
abbrev PVP := Nat → VP
inductive Sq
  | c (v : Value)
  | p (q : PVP)
def Sq.holds : Sq → PVP
  | .c v => fun _ u _ => u = v
  | .p q => q
def Sq.env (s : Sq) (d : Nat) (L : Env) : Env := match s with
  | .c v => (d, v) :: L
  | .p _ => L
def Sq.fac (s : Sq) (d : Nat) (V : List (Nat × PVP)) : List (Nat × PVP) := match s with
  | .c _ => V
  | .p q => (d, q) :: V
/-- The operations that turn blocks; what holds of the world by phases; what each of them keeps. -/
structure Spx where
  si : List Nat
  J : Nat → World → Prop
  G : Nat → World → World → Prop
def Spx.at (X : Spx) (k : Nat) : Nat := X.si.getD k 0

inductive DoesX (F : Fence) (n : Nat) (P : Program) (ρ : Operand → Value) (o : Oper) (w : World) (R : Value → World → Prop) : Prop
  | val (v : Value) (w' : World) (h : (execOp ρ o).run P w = .ok (.value v) w') (hr : R v w') : DoesX F n P ρ o w R
  | skip (w' : World) (h : (execOp ρ o).run P w = .ok .skip w') (hr : R undef w') : DoesX F n P ρ o w R
  | call (f : FuncId) (args : Array Value) (w' : World) (h : (execOp ρ o).run P w = .ok (.enter f args) w') (hc : CallsIn F (n - 1) P f args w' (ok1 R)) : DoesX F n P ρ o w R
def FactsAt (ops : List Oper) (o : Oper) (V : List (Nat × PVP)) (ph : Nat) (a : Act) (w : World) : Prop := ∀ q ∈ V, q.1 ∈ looks ops o → ∃ v, a.tmps[q.1]? = some v ∧ q.2 ph v w
/-- Where an operation comes up that some of these operations wait for. -/
def Bef (X : Spx) (ops : List Oper) (i ph : Nat) : Prop := ∀ k, k < X.si.length → (∀ o, ops[X.at k]? = some o → i ∈ needsL o) → ph ≤ k
def Free1Q (X : Spx) (i : Nat) (F : Fence) (n : Nat) (P : Program) (m : Nat) (D : List Deferred) (ops : List Oper) (o : Oper) (L : Env) (V : List (Nat × PVP)) (R : PVP) : Prop :=
  ∀ ph w', ph ≤ X.si.length → Bef X ops i ph → X.J ph w' → ∀ a, Fr m D a L → FactsAt ops o V ph a w' →
    (Region.wanted o (yielded ops.toArray a.tmps) = true ∧ Does F n P a.eval o w' (fun v w'' => R ph v w'' ∧ Ext w' w'')) ∨ (Region.wanted o (yielded ops.toArray a.tmps) = false ∧ R ph undef w')
def SpQ (X : Spx) (k : Nat) (F : Fence) (n : Nat) (P : Program) (m : Nat) (D : List Deferred) (ops : List Oper) (o : Oper) (L : Env) (V : List (Nat × PVP)) (R : PVP) : Prop :=
  ∀ w', X.J k w' → ∀ a, Fr m D a L → FactsAt ops o V k a w' → Region.wanted o (yielded ops.toArray a.tmps) = true ∧
    DoesX F n P a.eval o w' (fun v w'' => R (k + 1) v w'' ∧ X.J (k + 1) w'' ∧ X.G k w' w'' ∧ FactsAt ops o V (k + 1) a w'')
/-- What a value's fact must bear. -/
def StabX (X : Spx) (ops : List Oper) (i d : Nat) (R : PVP) : Prop := (∀ ph v w w', R ph v w → Ext w w' → R ph v w') ∧
  ∀ k, k < X.si.length → X.at k ≠ i → (∀ o, ops[X.at k]? = some o → d ∉ looks ops o) → ∀ v w w', R k v w → X.G k w w' → R (k + 1) v w'
def NoSp (X : Spx) (i : Nat) : Prop := ∀ k, k < X.si.length → X.at k ≠ i
def QWX (X : Spx) (F : Fence) (n : Nat) (P : Program) (m : Nat) (D : List Deferred) (ops : List Oper) (K : Env → List (Nat × PVP) → Prop) : Nat → List Oper → Env → List (Nat × PVP) → Prop
  | _, [], L, V => K L V
  | i, o :: rest, L, V => (o.dst = none ∧ (∃ k, k < X.si.length ∧ X.at k = i ∧ SpQ X k F n P m D ops o L V (fun _ _ _ => True)) ∧ QWX X F n P m D ops K (i + 1) rest L V) ∨
      (∃ d, o.dst = some d ∧ Nat.blt d m = true ∧ ∃ s : Sq, (∀ q, s = .p q → at' L d = none) ∧ StabX X ops i d s.holds ∧
        ((∃ k, k < X.si.length ∧ X.at k = i ∧ SpQ X k F n P m D ops o L V s.holds) ∨ (NoSp X i ∧ Free1Q X i F n P m D ops o L V s.holds)) ∧ QWX X F n P m D ops K (i + 1) rest (s.env d L) (s.fac d V))
def TailX (X : Spx) (F : Fence) (n : Nat) (P : Program) (Q : Exit → Act → World → Prop) (m : Nat) (D : List Deferred) (ops tail : List Oper) (L : Env) (V : List (Nat × PVP)) : Prop :=
  ∀ w', X.J X.si.length w' → ∀ (L' : Env), (∀ q ∈ V, ∃ v, at' L' q.1 = some v ∧ q.2 X.si.length v w') → Sub L L' → WL F n P Q m D ops tail L' w'

def Lq (ops : List Oper) (S : Nat → Sq) (L : Env) : Nat → Env
  | 0 => L
  | i + 1 => match gdst ops i with
    | some d => (S i).env d (Lq ops S L i)
    | none => Lq ops S L i
def Vq (ops : List Oper) (S : Nat → Sq) (V : List (Nat × PVP)) : Nat → List (Nat × PVP)
  | 0 => V
  | i + 1 => match gdst ops i with
    | some d => (S i).fac d (Vq ops S V i)
    | none => Vq ops S V i
/-- What is asked of operation i. -/
structure ObX (X : Spx) (F : Fence) (n : Nat) (P : Program) (m : Nat) (D : List Deferred) (ops : List Oper) (S : Nat → Sq) (L : Env) (V : List (Nat × PVP)) (i : Nat) (o : Oper) : Prop where
  slot : ∀ d, o.dst = some d → Nat.blt d m = true ∧ (∀ q, S i = .p q → at' (Lq ops S L i) d = none) ∧ StabX X ops i d (S i).holds
  does : (∃ k, k < X.si.length ∧ X.at k = i ∧ SpQ X k F n P m D ops o (Lq ops S L i) (Vq ops S V i) (fun ph v w => ∀ d, o.dst = some d → (S i).holds ph v w)) ∨ (o.dst.isSome = true ∧ NoSp X i ∧ Free1Q X i F n P m D ops o (Lq ops S L i) (Vq ops S V i) (S i).holds)

section
variable {F : Fence} {n : Nat} {P : Program} {Q : Exit → Act → World → Prop} {m : Nat} {D : List Deferred} {ops : List Oper} {X : Spx} {a0 : Act} {L0 : Env}
theorem Lq_congr {L : Env} {S1 S2 : Nat → Sq} : ∀ k, (∀ j, j < k → S1 j = S2 j) → Lq ops S1 L k = Lq ops S2 L k
  | 0, _ => rfl
  | k + 1, he => by simp only [Lq]; rw [he k (by omega), Lq_congr k (fun j hj => he j (by omega))]
theorem Vq_congr {V : List (Nat × PVP)} {S1 S2 : Nat → Sq} : ∀ k, (∀ j, j < k → S1 j = S2 j) → Vq ops S1 V k = Vq ops S2 V k
  | 0, _ => rfl
  | k + 1, he => by simp only [Vq]; rw [he k (by omega), Vq_congr k (fun j hj => he j (by omega))]
theorem does_mono {ρ : Operand → Value} {o : Oper} {w : World} {R R' : Value → World → Prop} (h : DoesX F n P ρ o w R) (hr : ∀ v w', R v w' → R' v w') : DoesX F n P ρ o w R' := by
  cases h with
  | val v w' h h1 => exact .val v w' h (hr _ _ h1)
  | skip w' h h1 => exact .skip w' h (hr _ _ h1)
  | call f args w' h hc => exact .call f args w' h (hc.mono fun e w'' ⟨v, he, h1⟩ => ⟨v, he, hr _ _ h1⟩)
theorem qw_specsX {K : Env → List (Nat × PVP) → Prop} {L : Env} {V : List (Nat × PVP)} : ∀ (rest : List Oper) (i : Nat) (S : Nat → Sq), (∀ j o, rest[j]? = some o → ops[i + j]? = some o) →
    QWX X F n P m D ops K i rest (Lq ops S L i) (Vq ops S V i) →
    ∃ S' : Nat → Sq, (∀ j, j < i → S' j = S j) ∧ (∀ j o, i ≤ j → rest[j - i]? = some o → ObX X F n P m D ops S' L V j o) ∧ K (Lq ops S' L (i + rest.length)) (Vq ops S' V (i + rest.length))
  | [], i, S, ho, h => ⟨S, fun _ _ => rfl, fun j o _ hj => by simp at hj, h⟩
  | o :: rest, i, S, ho, h => by
    have hoi : ops[i]? = some o := by have := ho 0 o (by simp); simpa using this
    have ho' : ∀ j o', rest[j]? = some o' → ops[i + 1 + j]? = some o' := fun j o' hj => by
      have := ho (j + 1) o' (by simpa using hj); rwa [show i + (j + 1) = i + 1 + j from by omega] at this
    have hg : gdst ops i = o.dst := by rw [gdst_eq, hoi]; rfl
    have key : ∀ s : Sq, ObX X F n P m D ops (fun k => if k = i then s else S k) L V i o →
        QWX X F n P m D ops K (i + 1) rest (Lq ops (fun k => if k = i then s else S k) L (i + 1)) (Vq ops (fun k => if k = i then s else S k) V (i + 1)) →
        ∃ S' : Nat → Sq, (∀ j, j < i → S' j = S j) ∧ (∀ j o', i ≤ j → (o :: rest)[j - i]? = some o' → ObX X F n P m D ops S' L V j o') ∧ K (Lq ops S' L (i + (o :: rest).length)) (Vq ops S' V (i + (o :: rest).length)) := by
      intro s hob hq
      obtain ⟨S', h1, h2, h3⟩ := qw_specsX rest (i + 1) (fun k => if k = i then s else S k) ho' hq
      have hlow : ∀ j, j < i → S' j = S j := fun j hj => by rw [h1 j (by omega)]; simp [show j ≠ i from by omega]
      refine ⟨S', hlow, fun j o' hij hj => ?_, by rw [List.length_cons, show i + (rest.length + 1) = i + 1 + rest.length from by omega]; exact h3⟩
      by_cases e : j = i
      · subst e
        simp at hj
        subst hj
        have hL := Lq_congr (ops := ops) (L := L) (S1 := S') (S2 := fun k => if k = j then s else S k) j (fun k hk => h1 k (by omega))
        have hV := Vq_congr (ops := ops) (V := V) (S1 := S') (S2 := fun k => if k = j then s else S k) j (fun k hk => h1 k (by omega))
        have hS := h1 j (by omega)
        exact ⟨by rw [hS, hL]; exact hob.slot, by rw [hS, hL, hV]; exact hob.does⟩
      · refine h2 j o' (by omega) ?_
        have : j - i = (j - (i + 1)) + 1 := by omega
        rw [this, List.getElem?_cons_succ] at hj
        exact hj
    have hLk : ∀ s : Sq, Lq ops (fun k => if k = i then s else S k) L i = Lq ops S L i := fun s => Lq_congr i fun j hj => if_neg (by omega)
    have hVk : ∀ s : Sq, Vq ops (fun k => if k = i then s else S k) V i = Vq ops S V i := fun s => Vq_congr i fun j hj => if_neg (by omega)
    rcases h with ⟨hd, ⟨k, hk, hi, hs⟩, hq⟩ | ⟨d, hd, hdm, s, hno, hst, hdo, hq⟩
    · refine key (S i) ⟨fun d h => (by rw [hd] at h; cases h), .inl ⟨k, hk, hi, ?_⟩⟩ ?_
      · rw [hLk, hVk]
        intro w' hJ a ha hf
        obtain ⟨h1, h2⟩ := hs w' hJ a ha hf
        exact ⟨h1, does_mono h2 fun v w'' h => ⟨fun d h' => (by rw [hd] at h'; cases h'), h.2⟩⟩
      · simp only [Lq, Vq, hg, hd, hLk, hVk]; exact hq
    · refine key s ⟨fun d' h => ?_, ?_⟩ ?_
      · rw [hd] at h; cases h
        rw [if_pos rfl, hLk]
        exact ⟨hdm, hno, hst⟩
      · rw [hLk, hVk]
        rcases hdo with ⟨k, hk, hi, hs⟩ | ⟨hn, hf⟩
        · refine .inl ⟨k, hk, hi, ?_⟩
          intro w' hJ a ha hf
          obtain ⟨h1, h2⟩ := hs w' hJ a ha hf
          exact ⟨h1, does_mono h2 fun v w'' h => ⟨fun d _ => (by rw [if_pos rfl]; exact h.1), h.2⟩⟩
        · exact .inr ⟨by rw [hd]; rfl, hn, by rw [if_pos rfl]; exact hf⟩
      · simp only [Lq, Vq, hg, hd, if_pos, hLk, hVk]; exact hq

theorem lq_some {S : Nat → Sq} {s : Nat} {v : Value} : ∀ i, at' (Lq ops S L0 i) s = some v → (∃ j, j < i ∧ gdst ops j = some s ∧ S j = .c v) ∨ (at' L0 s = some v ∧ ∀ j, j < i → ∀ c, gdst ops j = some s → S j ≠ .c c)
  | 0, h => .inr ⟨h, fun j hj => absurd hj (Nat.not_lt_zero _)⟩
  | i + 1, h => by
    have low : at' (Lq ops S L0 i) s = some v → (∀ c, gdst ops i = some s → S i ≠ .c c) → (∃ j, j < i + 1 ∧ gdst ops j = some s ∧ S j = .c v) ∨ (at' L0 s = some v ∧ ∀ j, j < i + 1 → ∀ c, gdst ops j = some s → S j ≠ .c c) := fun h hn => by
      rcases lq_some i h with ⟨j, hj, h1, h2⟩ | ⟨h1, h2⟩
      · exact .inl ⟨j, by omega, h1, h2⟩
      · refine .inr ⟨h1, fun j hj c hg => ?_⟩
        by_cases ej : j = i
        · subst ej; exact hn c hg
        · exact h2 j (by omega) c hg
    simp only [Lq] at h
    cases hg : gdst ops i with
    | none => rw [hg] at h; exact low h (fun c h' => by rw [hg] at h'; cases h')
    | some d =>
      rw [hg] at h
      cases hS : S i with
      | p q => rw [hS] at h; exact low h (fun c _ h' => by rw [hS] at h'; cases h')
      | c u =>
        rw [hS] at h
        simp only [Sq.env] at h
        rw [at_cons] at h
        split at h
        · rename_i e; subst e; cases h; exact .inl ⟨i, by omega, hg, hS⟩
        · rename_i e; exact low h (fun c h' => by rw [hg] at h'; cases h'; exact absurd rfl e)
theorem lq_none {S : Nat → Sq} {s : Nat} : ∀ i, at' (Lq ops S L0 i) s = none → at' L0 s = none
  | 0, h => h
  | i + 1, h => by
    simp only [Lq] at h
    split at h
    · cases hS : S i with
      | p q => rw [hS] at h; exact lq_none i h
      | c u =>
        rw [hS] at h
        simp only [Sq.env] at h
        rw [at_cons] at h
        split at h
        · cases h
        · exact lq_none i h
    · exact lq_none i h
theorem vq_mem {S : Nat → Sq} {q : Nat × PVP} : ∀ i, q ∈ Vq ops S [] i → ∃ j, j < i ∧ gdst ops j = some q.1 ∧ S j = .p q.2
  | 0, h => by cases h
  | i + 1, h => by
    simp only [Vq] at h
    split at h
    · rename_i d hd
      cases hS : S i with
      | c u => rw [hS] at h; obtain ⟨j, hj, h1⟩ := vq_mem i h; exact ⟨j, by omega, h1⟩
      | p p =>
        rw [hS] at h
        rcases List.mem_cons.1 h with h | h
        · subst h; exact ⟨i, by omega, hd, hS⟩
        · obtain ⟨j, hj, h1⟩ := vq_mem i h; exact ⟨j, by omega, h1⟩
    · obtain ⟨j, hj, h1⟩ := vq_mem i h; exact ⟨j, by omega, h1⟩
theorem mem_vq {S : Nat → Sq} {j d : Nat} {p : PVP} (hg : gdst ops j = some d) (hS : S j = .p p) : ∀ i, j < i → (d, p) ∈ Vq ops S [] i
  | 0, h => absurd h (Nat.not_lt_zero _)
  | i + 1, h => by
    simp only [Vq]
    by_cases e : j = i
    · subst e; rw [hg, hS]; simp [Sq.fac]
    · have := mem_vq hg hS i (by omega)
      split
      · cases S i <;> simp [Sq.fac, this]
      · exact this

/-- Each of these operations is forced behind the ones before it. -/
def chainOk (ops : List Oper) (N : Nat) (si : List Nat) : Bool :=
  let ms := masks ops []
  (List.range si.length).all fun k => Nat.blt (si.getD k 0) N && (List.range k).all fun j => (ms.getD (si.getD k 0) 0).testBit (si.getD j 0)
theorem chain_of {N : Nat} {si : List Nat} (hc : Chk ops N) (h : chainOk ops N si = true) : (∀ k, k < si.length → si.getD k 0 < N) ∧ ∀ k j, j < k → k < si.length → ∀ ls : Nat → Bool, PC ops ls → (∀ o, ops[si.getD k 0]? = some o → ∀ j ∈ needsL o, ls j = true) → ls (si.getD j 0) = true := by
  simp only [chainOk, List.all_eq_true, List.mem_range, Bool.and_eq_true] at h
  refine ⟨fun k hk => by simpa using (h k hk).1, fun k j hj hk ls hpc hn => ?_⟩
  have hN : si.getD k 0 < N := by simpa using (h k hk).1
  have := free_len hc
  have hlt : si.getD k 0 < ops.length := by omega
  exact masks_ok (ops := ops) ops [] [] rfl rfl (fun i hi => absurd hi (Nat.not_lt_zero _)) (si.getD k 0) hlt ls hpc hn _ ((h k hk).2 j hj)

structure InvX (X : Spx) (m : Nat) (D : List Deferred) (ops : List Oper) (N : Nat) (S : Nat → Sq) (L0 : Env) (listed : Array Bool) (a : Act) (w : World) (ph : Nat) : Prop where
  size : listed.size = ops.length
  tail : ∀ i, N ≤ i → i < ops.length → listed.getD i false = false
  pc : PC ops (fun i => listed.getD i false)
  phle : ph ≤ X.si.length
  phase : ∀ k, k < X.si.length → (listed.getD (X.at k) false = true ↔ k < ph)
  world : X.J ph w
  tsize : a.tmps.size = m
  defers : a.defers = D
  old : ∀ s v, at' L0 s = some v → (∀ i, i < N → gdst ops i = some s → listed.getD i false = false) → a.tmps[s]? = some v
  new : ∀ i, i < N → listed.getD i false = true → ∀ d, gdst ops i = some d → ∃ v, a.tmps[d]? = some v ∧ (S i).holds ph v w

theorem any_freeX {N : Nat} {S : Nat → Sq} {V : List (Nat × PVP)} (hW : Wd F) (hc : Chk ops N) (hJ : ∀ ph w w', X.J ph w → Ext w w' → X.J ph w') (hsN : ∀ k, k < X.si.length → X.at k < N)
    (hch : ∀ k j, j < k → k < X.si.length → ∀ ls : Nat → Bool, PC ops ls → (∀ o, ops[X.at k]? = some o → ∀ j ∈ needsL o, ls j = true) → ls (X.at j) = true)
    (hL0 : ∀ s v, at' L0 s = some v → s < m) (hob : ∀ i o, i < N → ops[i]? = some o → ObX X F n P m D ops S L0 [] i o) (hV : V = Vq ops S [] N)
    (htail : TailX X F n P Q m D ops (ops.drop N) (Lq ops S L0 N) V) :
    ∀ (fuel : Nat) (listed : Array Bool) (a : Act) (w : World) (ph : Nat), InvX X m D ops N S L0 listed a w ph → ops.length - N + ((List.range N).filter fun i => !listed.getD i false).length ≤ fuel →
      wpAnyIn F n P .any ops.toArray Q fuel listed a w := by
  have hNl := free_len hc
  have hslot : ∀ i d, i < N → gdst ops i = some d → d < m ∧ StabX X ops i d (S i).holds ∧ (∀ q, S i = .p q → at' (Lq ops S L0 i) d = none) := fun i d hi hg => by
    obtain ⟨o, ho, -, -⟩ := hc.free i hi
    rw [gdst_eq, ho] at hg
    obtain ⟨h1, h2, h3⟩ := (hob i o hi ho).slot d hg
    exact ⟨by simpa using h1, h3, h2⟩
  have hread : ∀ (listed : Array Bool) (a : Act) (w : World) (ph : Nat), InvX X m D ops N S L0 listed a w ph → ∀ i s v, i ≤ N → at' (Lq ops S L0 i) s = some v → (∀ j, j < N → gdst ops j = some s → (j < i ∧ listed.getD j false = true) ∨ (i ≤ j ∧ listed.getD j false = false)) → a.tmps[s]? = some v := by
    intro listed a w ph hI i s v hi hs hall
    rcases lq_some i hs with ⟨j, hj, hg, hS⟩ | ⟨h1, h2⟩
    · obtain ⟨u, hu, hh⟩ := hI.new j (by omega) ((hall j (by omega) hg).elim (fun h => h.2) (fun h => absurd h.1 (by omega))) s hg
      rw [hS] at hh
      have : u = v := hh
      rw [← this]; exact hu
    · refine hI.old s v h1 (fun j hj hg => ?_)
      rcases hall j hj hg with hall' | hall'
      case inr => exact hall'.2
      exfalso
      have hji := hall'.1
      cases hSj : S j with
      | c c => exact h2 j hji c hg hSj
      | p q =>
        have := lq_none j ((hslot j s hj hg).2.2 q hSj)
        rw [this] at h1; cases h1
  have hfin : ∀ (listed : Array Bool) (a : Act) (w : World) (ph : Nat), InvX X m D ops N S L0 listed a w ph → (∀ i, i < N → listed.getD i false = true) → wpListIn F n P ops.toArray Q (ops.drop N) a w := by
    intro listed a w ph hI hall
    have hph : ph = X.si.length := by
      have h1 := hI.phle
      by_cases e : ph < X.si.length
      · have := (hI.phase ph e).1 (hall _ (hsN ph e)); omega
      · omega
    subst hph
    refine htail w hI.world ((List.range m).map fun i => (i, a.tmps.getD i undef)) (fun q hq => ?_) (fun s v hs => ?_) a ⟨hI.tsize, hI.defers, fun s v hs => ?_⟩
    · rw [hV] at hq
      obtain ⟨j, hj, hgj, hSj⟩ := vq_mem N hq
      obtain ⟨v, hv, hh⟩ := hI.new j hj (hall j hj) q.1 hgj
      have hm := (hslot j q.1 hj hgj).1
      refine ⟨v, ?_, by rw [hSj] at hh; exact hh⟩
      rw [at_tab_mem _ (List.mem_range.2 hm), Array.getD_eq_getD_getElem?, hv]; rfl
    · have hv := hread listed a w _ hI N s v (Nat.le_refl _) hs (fun j hj hgj => .inl ⟨hj, hall j hj⟩)
      have hsm : s < m := by rw [← hI.tsize]; exact (Array.getElem?_eq_some_iff.1 hv).1
      rw [at_tab_mem _ (List.mem_range.2 hsm), Array.getD_eq_getD_getElem?, hv]; rfl
    · obtain ⟨h1, h2⟩ := at_tab _ hs
      rw [List.mem_range] at h1
      rw [h2, Array.getD_eq_getD_getElem?, Array.getElem?_eq_getElem (by rw [hI.tsize]; exact h1)]; rfl
  intro fuel
  induction fuel with
  | zero =>
    intro listed a w ph hI hf
    have h0 : ops.length = N := by omega
    have hall : ∀ i, i < N → listed.getD i false = true := fun i hi => by
      have hz : ((List.range N).filter fun i => !listed.getD i false) = [] := List.eq_nil_of_length_eq_zero (by omega)
      rw [List.filter_eq_nil_iff] at hz
      simpa using hz i (List.mem_range.2 hi)
    exact any_tail hc 0 N listed a w (Nat.le_refl _) hNl hI.size (fun i hi => by rw [hall i (by omega)]; exact (decide_eq_true (by omega)).symm) (by omega) (hfin listed a w ph hI hall)
  | succ fuel ih =>
    intro listed a w ph hI hf
    by_cases hall : ∀ i, i < N → listed.getD i false = true
    · have hz : ((List.range N).filter fun i => !listed.getD i false) = [] := by
        rw [List.filter_eq_nil_iff]; intro i hi; simp [hall i (List.mem_range.1 hi)]
      rw [hz] at hf
      exact any_tail hc (fuel + 1) N listed a w (Nat.le_refl _) hNl hI.size (fun i hi => by
        by_cases h : i < N
        · rw [hall i h, decide_eq_true h]
        · rw [hI.tail i (by omega) hi, decide_eq_false h]) (by simp at hf; omega) (hfin listed a w ph hI hall)
    · have hex : ∃ i, i < N ∧ listed.getD i false = false := by
        refine Classical.byContradiction fun hne => hall fun i hi => ?_
        cases hl : listed.getD i false with
        | true => rfl
        | false => exact absurd ⟨i, hi, hl⟩ hne
      refine ⟨fun hr => ?_, fun i hi => ?_⟩
      · exfalso
        obtain ⟨i0, hi0, h1, h2⟩ := least (fun i => listed.getD i false) N hex
        have hlt : i0 < ops.length := by omega
        have : i0 ∈ Region.ready .any ops.toArray listed := ready_iff.2 ⟨ops[i0], List.getElem?_eq_getElem hlt, by rw [gd (b := true) (c := false) (by rw [hI.size]; exact hlt)]; exact h1, fun j hj => h2 j (hc.back i0 _ (List.getElem?_eq_getElem hlt) j hj)⟩
        rw [hr] at this; cases this
      · obtain ⟨o, ho, h1, h2⟩ := ready_iff.1 hi
        have hlt := (List.getElem?_eq_some_iff.1 ho).1
        have hiN : i < N := by
          refine Classical.byContradiction fun hge => ?_
          obtain ⟨j0, hj0, hun⟩ := hex
          have := hc.all i (by omega) hlt (fun j => listed.getD j false) hI.pc (fun o' ho' j hj => by rw [ho] at ho'; cases ho'; exact h2 j hj) j0 (by omega)
          rw [hun] at this; cases this
        have hun : listed.getD i false = false := by rw [gd (b := false) (c := true) (by rw [hI.size]; exact hlt)]; exact h1
        obtain ⟨o', ho', hpl, hlk⟩ := hc.free i hiN
        rw [ho] at ho'; cases ho'
        have hO := hob i o hiN ho
        have hg : gdst ops i = o.dst := by rw [gdst_eq, ho]; rfl
        have hlcm : ∀ s v, at' (Lq ops S L0 i) s = some v → s < m := fun s v hs => by
          rcases lq_some i hs with ⟨j, hj, hgj, -⟩ | ⟨h, -⟩
          · exact (hslot j s (by omega) hgj).1
          · exact hL0 s v h
        let st : Act := { a with tmps := Array.ofFn (n := m) fun s => (at' (Lq ops S L0 i) s.1).getD (a.tmps.getD s.1 undef) }
        have hstar : ∀ s, (∀ v, at' (Lq ops S L0 i) s = some v → a.tmps[s]? = some v) → st.tmps[s]? = a.tmps[s]? := fun s h => by
          show (Array.ofFn (n := m) fun s => (at' (Lq ops S L0 i) s.1).getD (a.tmps.getD s.1 undef))[s]? = _
          rw [Array.getElem?_ofFn]
          by_cases hs : s < m
          · rw [dif_pos hs]
            cases hat : at' (Lq ops S L0 i) s with
            | none => simp [Array.getD_eq_getD_getElem?, Array.getElem?_eq_getElem (show s < a.tmps.size by rw [hI.tsize]; exact hs)]
            | some v => simp [h v hat]
          · rw [dif_neg hs, Array.getElem?_eq_none (by rw [hI.tsize]; omega)]
        have hfr : Fr m D st (Lq ops S L0 i) := by
          refine ⟨by simp [st], hI.defers, fun s v hs => ?_⟩
          have hsm := hlcm s v hs
          show (Array.ofFn (n := m) fun s => (at' (Lq ops S L0 i) s.1).getD (a.tmps.getD s.1 undef))[s]? = _
          rw [Array.getElem?_ofFn, dif_pos hsm]; simp [hs]
        have hlook : ∀ s ∈ looks ops o, st.tmps[s]? = a.tmps[s]? := fun s hs => hstar s fun v hv => hread listed a w ph hI i s v (by omega) hv fun j hj hgj => by
          rcases hlk s hs j hj hgj with hn | ⟨oj, hoj, hn⟩
          · exact .inl ⟨hc.back i o ho j hn, h2 j hn⟩
          · refine .inr ⟨Nat.le_of_lt (hc.back j oj hoj i hn), ?_⟩
            cases hlj : listed.getD j false with
            | false => rfl
            | true =>
              have hli : listed.getD i false = true := hI.pc j oj hoj hlj i hn
              rw [hun] at hli; cases hli
        have hopd : ∀ x ∈ o.op.operands, st.eval x = a.eval x := fun x hx => by
          cases x with
          | tmp t =>
            have := hlook t (List.mem_append_left _ (List.mem_filterMap.2 ⟨.tmp t, by simpa using hx, rfl⟩))
            show st.tmps.getD t undef = a.tmps.getD t undef
            rw [Array.getD_eq_getD_getElem?, Array.getD_eq_getD_getElem?, this]
          | _ => rfl
        have hexec : execOp st.eval o = execOp a.eval o := execOp_congr o (fun cs b h => by rw [h] at hpl; cases hpl) hopd
        have hwant : Region.wanted o (yielded ops.toArray st.tmps) = Region.wanted o (yielded ops.toArray a.tmps) := by
          unfold Region.wanted
          cases hgd : o.guard with
          | none => rfl
          | some p =>
            obtain ⟨j, want⟩ := p
            have hy : yielded ops.toArray st.tmps j = yielded ops.toArray a.tmps j := by
              simp only [yielded, List.getElem?_toArray]
              cases hgj : (ops[j]?).bind (·.dst) with
              | none => rfl
              | some dj =>
                have := hlook dj (List.mem_append_right _ (by rw [hgd]; simp only [gdst_eq, hgj]; simp))
                simp only [Option.bind_some, this]
            simp only [hy]
        have hnd : ∀ c, o.op ≠ .defer c := fun c h => by rw [h] at hpl; cases hpl
        have hfacts : FactsAt ops o (Vq ops S [] i) ph st w := fun q hq hlo => by
          obtain ⟨j, hj, hgj, hSj⟩ := vq_mem i hq
          obtain ⟨v, hv, hh⟩ := hI.new j (by omega) (h2 j ((hlk q.1 hlo j (by omega) hgj).elim id fun ⟨oj, hoj, hn⟩ => absurd (hc.back j oj hoj i hn) (by omega))) q.1 hgj
          exact ⟨v, by rw [hlook q.1 hlo]; exact hv, by rw [hSj] at hh; exact hh⟩
        have hsz : i < listed.size := by rw [hI.size]; exact hlt
        -- what holds behind the operation
        have hnext : ∀ v w'' ph', ph' ≤ X.si.length → (∀ k, k < X.si.length → (k < ph' ↔ k < ph ∨ X.at k = i)) → X.J ph' w'' → (∀ d, o.dst = some d → (S i).holds ph' v w'') → (∀ j, j < N → j ≠ i → listed.getD j false = true → ∀ d u, gdst ops j = some d → a.tmps[d]? = some u → (S j).holds ph u w → (S j).holds ph' u w'') →
            wpAnyIn F n P .any ops.toArray Q fuel (listed.setIfInBounds i true) (a.put o.dst v) w'' := by
          intro v w'' ph' hple hphase hw'' hh hx
          refine ih _ _ _ ph' ⟨by simp [hI.size], fun k hk hkl => ?_, fun k ok hok hk j hj => ?_, hple, fun k hk => ?_, hw'', ?_, ?_, fun s u hs hk => ?_, fun k hk hkl dk hgk => ?_⟩ ?_
          · rw [getD_set hsz, if_neg (by omega)]; exact hI.tail k hk hkl
          · simp only [getD_set hsz] at hk ⊢
            by_cases e : i = j
            · rw [if_pos e]
            · rw [if_neg e]
              by_cases ek : i = k
              · subst ek; rw [ho] at hok; cases hok; exact h2 j hj
              · rw [if_neg ek] at hk; exact hI.pc k ok hok hk j hj
          · rw [getD_set hsz, hphase k hk]
            by_cases e : i = X.at k
            · rw [if_pos e]; simp [e]
            · rw [if_neg e, hI.phase k hk]
              exact ⟨.inl, fun h => h.elim id fun h => absurd h.symm e⟩
          · cases hd : o.dst <;> simp [Act.put, hI.tsize]
          · cases hd : o.dst <;> exact hI.defers
          · cases hd : o.dst with
            | none =>
              exact hI.old s u hs fun j hj hgj => by
                have := hk j hj hgj
                rw [getD_set hsz] at this
                by_cases e : i = j
                · rw [if_pos e] at this; cases this
                · rw [if_neg e] at this; exact this
            | some d =>
              have hne : d ≠ s := fun e => by
                subst e
                have := hk i hiN (hg.trans hd)
                rw [getD_set hsz, if_pos rfl] at this; cases this
              simp only [Act.put, Array.getElem?_setIfInBounds_ne hne]
              exact hI.old s u hs fun j hj hgj => by
                have := hk j hj hgj
                rw [getD_set hsz] at this
                by_cases e : i = j
                · rw [if_pos e] at this; cases this
                · rw [if_neg e] at this; exact this
          · rw [getD_set hsz] at hkl
            by_cases e : i = k
            · subst e
              rw [hg] at hgk
              have hm := (hslot i dk hiN (hg.trans hgk)).1
              exact ⟨v, by rw [hgk]; simp [Act.put, hI.tsize, hm], hh dk hgk⟩
            · rw [if_neg e] at hkl
              obtain ⟨u, hu, hhu⟩ := hI.new k hk hkl dk hgk
              refine ⟨u, ?_, hx k hk (fun e' => e e'.symm) hkl dk u hgk hu hhu⟩
              cases hd : o.dst with
              | none => exact hu
              | some d =>
                have hne : d ≠ dk := fun e' => by subst e'; exact hc.ne hiN hk e (hg.trans hd) hgk
                simp only [Act.put, Array.getElem?_setIfInBounds_ne hne]; exact hu
          · have := filter_lt (p := fun k => !(listed.setIfInBounds i true).getD k false) (q := fun k => !listed.getD k false) (List.range N) (fun k _ hk => by
              simp only [getD_set hsz] at hk
              by_cases e : i = k
              · rw [if_pos e] at hk; cases hk
              · rw [if_neg e] at hk; exact hk) ⟨i, List.mem_range.2 hiN, by simp [hun], by simp [getD_set hsz]⟩
            omega
        unfold wpOpIn
        rw [List.getElem?_toArray, ho]
        simp only
        rcases hO.does with ⟨k, hk, hki, hsp⟩ | ⟨hsome, hno, hfree⟩
        · -- one of those that turn blocks
          have hphk : ph = k := by
            have h3 : ¬ k < ph := fun h => by
              have := (hI.phase k hk).2 h
              rw [hki, hun] at this; cases this
            by_cases h4 : ph < k
            · have h5 := hch k ph h4 hk (fun j => listed.getD j false) hI.pc (fun o' ho' j hj => by rw [hki, ho] at ho'; cases ho'; exact h2 j hj)
              have := (hI.phase ph (by omega)).1 h5
              omega
            · omega
          subst hphk
          have hinj : ∀ j, j < X.si.length → X.at j = i → j = ph := fun j hj hji => by
            by_cases h3 : j < ph
            · have := (hI.phase j hj).2 h3; rw [hji, hun] at this; cases this
            · by_cases h4 : j = ph
              · exact h4
              · have h5 := hch j ph (by omega) hj (fun x => listed.getD x false) hI.pc (fun o' ho' x hx => by rw [hji, ho] at ho'; cases ho'; exact h2 x hx)
                rw [hki] at h5
                have h5' : listed.getD i false = true := h5
                rw [hun] at h5'; cases h5'
          obtain ⟨hw, hdo⟩ := hsp w hI.world st hfr hfacts
          rw [if_pos (hwant ▸ hw)]
          have hgo : ∀ v w'', (((fun ph v w => ∀ d, o.dst = some d → (S i).holds ph v w) : PVP) (ph + 1) v w'' ∧ X.J (ph + 1) w'' ∧ X.G ph w w'' ∧ FactsAt ops o (Vq ops S [] i) (ph + 1) st w'') → wpAnyIn F n P .any ops.toArray Q fuel (listed.setIfInBounds i true) (a.put o.dst v) w'' := fun v w'' ⟨h3, h4, h5, h6⟩ => by
            refine hnext v w'' (ph + 1) (by omega) (fun j hj => ?_) h4 h3 (fun j hj hji hl d u hgj hu hhu => ?_)
            · constructor
              · intro h7
                by_cases h8 : j < ph
                · exact .inl h8
                · have : j = ph := by omega
                  subst this; exact .inr hki
              · rintro (h7 | h7)
                · omega
                · have := hinj j hj h7; omega
            · by_cases hlo : d ∈ looks ops o
              · cases hSj : S j with
                | c c => rw [hSj] at hhu; exact hhu
                | p p =>
                  have hjn : j ∈ needsL o := (hlk d hlo j hj hgj).elim id fun ⟨oj, hoj, hn⟩ => by
                    have hli : listed.getD i false = true := hI.pc j oj hoj hl i hn
                    rw [hun] at hli; cases hli
                  have hjlt := hc.back i o ho j hjn
                  obtain ⟨u', hu', hh'⟩ := h6 (d, p) (mem_vq hgj hSj i hjlt) hlo
                  rw [hlook d hlo, hu] at hu'
                  cases hu'
                  exact hh'
              · exact (hslot j d hj hgj).2.1.2 ph hk (fun e => hji (by rw [← e, hki])) (fun o' ho' => by rw [hki, ho] at ho'; cases ho'; exact hlo) u w w'' hhu h5
          cases hdo with
          | val v w' h hr => exact wpIn_value hW hnd (by rw [← hexec]; exact h) (hgo v w' hr)
          | skip w' h hr => exact wpIn_skipped hW hnd (by rw [← hexec]; exact h) (hgo undef w' hr)
          | call f args w' h hcl =>
            rcases hcl with ⟨hF, hcl⟩
            have hx : (execOp a.eval o).run P w = .ok (.enter f args) w' := by rw [← hexec]; exact h
            exact wpIn_entered hW hnd hx ⟨hF, hcl⟩ (fun v w'' hr => hgo v w'' hr)
        · have hgo : ∀ v w'', (S i).holds ph v w'' → Ext w w'' → wpAnyIn F n P .any ops.toArray Q fuel (listed.setIfInBounds i true) (a.put o.dst v) w'' := fun v w'' h3 h4 =>
            hnext v w'' ph hI.phle (fun k hk => ⟨.inl, fun h => h.elim id fun h => absurd h (hno k hk)⟩) (hJ ph w w'' hI.world h4) (fun d _ => h3) (fun j hj _ _ d u hgj _ hhu => (hslot j d hj hgj).2.1.1 ph u w w'' hhu h4)
          have hbef : Bef X ops i ph := fun k hk hin => by
            refine Nat.le_of_not_lt fun hlt => ?_
            have h5 := (hI.phase k hk).2 hlt
            have h6 : X.at k < ops.length := by have := hsN k hk; omega
            have h7 := hI.pc (X.at k) ops[X.at k] (List.getElem?_eq_getElem h6) h5 i (hin _ (List.getElem?_eq_getElem h6))
            have h8 : listed.getD i false = true := h7
            rw [hun] at h8; cases h8
          rcases hfree ph w hI.phle hbef hI.world st hfr hfacts with ⟨hw, hdo⟩ | ⟨hw, hr⟩
          · rw [if_pos (hwant ▸ hw)]
            cases hdo with
            | val v w' h hr => exact wpIn_value hW hnd (by rw [← hexec]; exact h) (hgo v w' hr.1 hr.2)
            | call f args w' h hcl =>
              rcases hcl with ⟨hF, hcl⟩
              have hx : (execOp a.eval o).run P w = .ok (.enter f args) w' := by rw [← hexec]; exact h
              exact wpIn_entered hW hnd hx ⟨hF, hcl⟩ (fun v w'' hr => hgo v w'' hr.1 hr.2)
          · rw [if_neg (by rw [← hwant, hw]; simp)]
            exact ⟨fun f _ => hW.fn f, hgo undef w hr (Keep.refl _ _)⟩

/-- **A region that draws its order, some operations of which turn blocks, one behind the other.** -/
theorem wc_drawX {id : Nat} {L : Env} {w : World} (X : Spx) (N : Nat) (hW : Wd F) (hm : P.follows .mixedOrders = true) (hck : freeOk ops N = true) (hchk : chainOk ops N X.si = true) (hJ : ∀ ph w w', X.J ph w → Ext w w' → X.J ph w')
    (h0 : ∀ w0, Ext w w0 → X.J 0 w0) (hq : QWX X F n P m D ops (TailX X F n P Q m D ops (ops.drop N)) 0 (ops.take N) L []) : WC F n P Q m D (.region id ops.toArray true) L w := by
  intro a ha
  have hc := chk_of hck
  obtain ⟨hsN, hch⟩ := chain_of hc hchk
  obtain ⟨S, -, h2, h3⟩ := qw_specsX (X := X) (F := F) (n := n) (P := P) (m := m) (D := D) (ops := ops) (L := L) (V := []) (ops.take N) 0 (fun _ => .c undef) (fun j o hj => by
    rw [Nat.zero_add]
    rw [List.getElem?_take] at hj
    split at hj
    · exact hj
    · cases hj) hq
  have hlen : (ops.take N).length = N := by rw [List.length_take]; have := free_len hc; omega
  rw [Nat.zero_add, hlen] at h3
  refine wpIn_region_any hm ?_
  have hmem : ∀ s v, at' L s = some v → s < m := fun s v hs => by rw [← ha.size]; exact (Array.getElem?_eq_some_iff.1 (ha.get s v hs)).1
  have hfalse : ∀ i, (Array.replicate ops.length false).getD i false = false := fun i => by
    rw [Array.getD_eq_getD_getElem?, Array.getElem?_replicate]; split <;> rfl
  have := any_freeX (X := X) (Q := Q) (N := N) (S := S) (V := Vq ops S [] N) hW hc hJ hsN hch hmem (fun i o hi ho => h2 i o (Nat.zero_le _) (by rw [Nat.sub_zero, List.getElem?_take_of_lt hi]; exact ho)) rfl h3 ops.length
    (Array.replicate ops.length false) a w.drew 0 ⟨by simp, fun i _ _ => hfalse i, (fun i o _ h => absurd ((hfalse i).symm.trans h) Bool.false_ne_true), Nat.zero_le _, fun k _ => ⟨fun h => absurd ((hfalse _).symm.trans h) Bool.false_ne_true, fun h => absurd h (Nat.not_lt_zero _)⟩, h0 _ (ext_drew w), ha.size, ha.defers, fun s v hs _ => ha.get s v hs, (fun i _ h => absurd ((hfalse i).symm.trans h) Bool.false_ne_true)⟩
    (by
      have : ((List.range N).filter fun i => !(Array.replicate ops.length false).getD i false).length ≤ N := by
        have := List.length_filter_le (fun i => !(Array.replicate ops.length false).getD i false) (List.range N)
        simpa using this
      have := free_len hc
      omega)
  simpa using this
end

section
variable {X : Spx} {F : Fence} {n : Nat} {P : Program} {Q : Exit → Act → World → Prop} {m : Nat} {D : List Deferred} {L : Env} {w w' : World}
variable {ops tail : List Oper} {rest : List Oper} {d i k : Nat} {ty : TypeId} {pos : String} {af : Array Edge} {g : Option (Nat × Bool)} {v : Value} {K : Env → List (Nat × PVP) → Prop} {V : List (Nat × PVP)}
def noSpB (X : Spx) (i : Nat) : Bool := X.si.all fun j => j != i
theorem noSp_of (h : noSpB X i = true) : NoSp X i := fun k hk e => by
  unfold noSpB at h
  rw [List.all_eq_true] at h
  have : X.at k ∈ X.si := by unfold Spx.at; rw [List.getD_eq_getElem?_getD, List.getElem?_eq_getElem hk]; simp
  have := h _ this
  simp [e] at this
theorem stabX_c {c : Value} : StabX X ops i d (Sq.c c).holds := ⟨fun _ _ _ _ h _ => h, fun _ _ _ _ _ _ _ h _ => h⟩
theorem qx_nil (k : K L V) : QWX X F n P m D ops K i [] L V := k
theorem qx_val {op : Op} (hn : noSpB X i = true) (hg : wants L ops g = some true) (hd : Nat.blt d m = true) (hx : ∀ ph w', X.J ph w' → Xv P m D L op ty w' v w') (k : QWX X F n P m D ops K (i + 1) rest ((d, v) :: L) V) :
    QWX X F n P m D ops K i (⟨some d, op, ty, pos, af, g⟩ :: rest) L V :=
  .inr ⟨d, rfl, hd, .c v, nofun, stabX_c, .inr ⟨noSp_of hn, fun ph w' _ hbf hJ a h _ => .inl ⟨h.wanted (o := ⟨some d, op, ty, pos, af, g⟩) hg, .val v w' ((hx ph w' hJ).2 _ _ _ _ a h) ⟨rfl, Keep.refl _ _⟩⟩⟩, k⟩
theorem qx_off {op : Op} (hn : noSpB X i = true) (hg : wants L ops g = some false) (hd : Nat.blt d m = true) (k : QWX X F n P m D ops K (i + 1) rest ((d, undef) :: L) V) :
    QWX X F n P m D ops K i (⟨some d, op, ty, pos, af, g⟩ :: rest) L V :=
  .inr ⟨d, rfl, hd, .c undef, nofun, stabX_c, .inr ⟨noSp_of hn, fun ph w' _ hbf hJ a h _ => .inr ⟨h.wanted (o := ⟨some d, op, ty, pos, af, g⟩) hg, rfl⟩⟩, k⟩
/-- A value that is known up to p. -/
theorem qx_valp {op : Op} {p : PVP} (hn : noSpB X i = true) (hs : StabX X ops i d p) (hg : wants L ops g = some true) (hd : Nat.blt d m = true) (hno : at' L d = none) (hx : ∀ ph w', Bef X ops i ph → X.J ph w' → ∃ v w'', Xv P m D L op ty w' v w'' ∧ p ph v w'' ∧ Ext w' w'') (k : QWX X F n P m D ops K (i + 1) rest L ((d, p) :: V)) :
    QWX X F n P m D ops K i (⟨some d, op, ty, pos, af, g⟩ :: rest) L V :=
  .inr ⟨d, rfl, hd, .p p, fun _ _ => hno, hs, .inr ⟨noSp_of hn, fun ph w' _ hbf hJ a h _ => by
    obtain ⟨v, w'', hx, hpv, he⟩ := hx ph w' hbf hJ
    exact .inl ⟨h.wanted (o := ⟨some d, op, ty, pos, af, g⟩) hg, .val v w'' (hx.2 _ _ _ _ a h) ⟨hpv, he⟩⟩⟩, k⟩
theorem fr_cons {a : Act} {s : Nat} {u : Value} (h : Fr m D a L) (hu : a.tmps[s]? = some u) : Fr m D a ((s, u) :: L) := ⟨h.size, h.defers, fun j v hj => by
  rw [at_cons] at hj
  split at hj
  · rename_i e; subst e; cases hj; exact hu
  · exact h.get j v hj⟩
/-- .. and that is made of one such. -/
theorem qx_valv {op : Op} {p q : PVP} {s : Nat} (hn : noSpB X i = true) (hs : StabX X ops i d p) (hg : wants L ops g = some true) (hd : Nat.blt d m = true) (hno : at' L d = none) (hV : (s, q) ∈ V) (hlo : s ∈ looks ops ⟨some d, op, ty, pos, af, g⟩)
    (hx : ∀ ph w' u, X.J ph w' → q ph u w' → ∃ v w'', Xv P m D ((s, u) :: L) op ty w' v w'' ∧ p ph v w'' ∧ Ext w' w'') (k : QWX X F n P m D ops K (i + 1) rest L ((d, p) :: V)) :
    QWX X F n P m D ops K i (⟨some d, op, ty, pos, af, g⟩ :: rest) L V :=
  .inr ⟨d, rfl, hd, .p p, fun _ _ => hno, hs, .inr ⟨noSp_of hn, fun ph w' _ hbf hJ a h hf => by
    obtain ⟨u, hu, hq⟩ := hf _ hV hlo
    obtain ⟨v, w'', hx, hpv, he⟩ := hx ph w' u hJ hq
    exact .inl ⟨h.wanted (o := ⟨some d, op, ty, pos, af, g⟩) hg, .val v w'' (hx.2 _ _ _ _ a (fr_cons h hu)) ⟨hpv, he⟩⟩⟩, k⟩
theorem qx_valvc {op : Op} {q : PVP} {s : Nat} (hn : noSpB X i = true) (hg : wants L ops g = some true) (hd : Nat.blt d m = true) (hV : (s, q) ∈ V) (hlo : s ∈ looks ops ⟨some d, op, ty, pos, af, g⟩)
    (hx : ∀ ph w' u, X.J ph w' → q ph u w' → Xv P m D ((s, u) :: L) op ty w' v w') (k : QWX X F n P m D ops K (i + 1) rest ((d, v) :: L) V) :
    QWX X F n P m D ops K i (⟨some d, op, ty, pos, af, g⟩ :: rest) L V :=
  .inr ⟨d, rfl, hd, .c v, nofun, stabX_c, .inr ⟨noSp_of hn, fun ph w' _ hbf hJ a h hf => by
    obtain ⟨u, hu, hq⟩ := hf _ hV hlo
    exact .inl ⟨h.wanted (o := ⟨some d, op, ty, pos, af, g⟩) hg, .val v w' ((hx ph w' u hJ hq).2 _ _ _ _ a (fr_cons h hu)) ⟨rfl, Keep.refl _ _⟩⟩⟩, k⟩
theorem qx_callc {op : Op} {f : FuncId} {args : Array Value} (hn : noSpB X i = true) (hg : wants L ops g = some true) (hd : Nat.blt d m = true) (hx : ∀ w', Xc P m D L op ty w' f args w')
    (hc : ∀ ph w', X.J ph w' → CallsIn F (n - 1) P f args w' (ok1 fun u w'' => u = v ∧ Ext w' w'')) (k : QWX X F n P m D ops K (i + 1) rest ((d, v) :: L) V) :
    QWX X F n P m D ops K i (⟨some d, op, ty, pos, af, g⟩ :: rest) L V :=
  .inr ⟨d, rfl, hd, .c v, nofun, stabX_c, .inr ⟨noSp_of hn, fun ph w' _ hbf hJ a h hf => .inl ⟨h.wanted (o := ⟨some d, op, ty, pos, af, g⟩) hg, .call f args w' ((hx w').2 _ _ _ _ a h) (hc ph w' hJ)⟩⟩, k⟩
theorem qx_callp {op : Op} {f : FuncId} {args : Array Value} {p : PVP} (hn : noSpB X i = true) (hs : StabX X ops i d p) (hg : wants L ops g = some true) (hd : Nat.blt d m = true) (hno : at' L d = none) (hx : ∀ w', Xc P m D L op ty w' f args w')
    (hc : ∀ ph w', X.J ph w' → CallsIn F (n - 1) P f args w' (ok1 fun u w'' => p ph u w'' ∧ Ext w' w'')) (k : QWX X F n P m D ops K (i + 1) rest L ((d, p) :: V)) :
    QWX X F n P m D ops K i (⟨some d, op, ty, pos, af, g⟩ :: rest) L V :=
  .inr ⟨d, rfl, hd, .p p, fun _ _ => hno, hs, .inr ⟨noSp_of hn, fun ph w' _ hbf hJ a h hf => .inl ⟨h.wanted (o := ⟨some d, op, ty, pos, af, g⟩) hg, .call f args w' ((hx w').2 _ _ _ _ a h) (hc ph w' hJ)⟩⟩, k⟩
/-- A store, to a place that is known, of a value that is known. -/
theorem qx_store {op : Op} (hk : k < X.si.length) (hi : X.at k = i) (hg : wants L ops g = some true) (hV : V.all (fun q => !(looks ops ⟨none, op, ty, pos, af, g⟩).contains q.1) = true)
    (hx : ∀ w', X.J k w' → ∃ w'', Xs P m D L op ty w' w'' ∧ X.J (k + 1) w'' ∧ X.G k w' w'') (kk : QWX X F n P m D ops K (i + 1) rest L V) :
    QWX X F n P m D ops K i (⟨none, op, ty, pos, af, g⟩ :: rest) L V :=
  .inl ⟨rfl, ⟨k, hk, hi, fun w' hJ a h hf => by
    obtain ⟨w'', hx, h1, h2⟩ := hx w' hJ
    exact ⟨h.wanted (o := ⟨none, op, ty, pos, af, g⟩) hg, .skip w'' (hx.2 _ _ _ _ a h) ⟨trivial, h1, h2, fun q hq hlo => by have := List.all_eq_true.1 hV q hq; simp [hlo] at this⟩⟩⟩, kk⟩
/-- A store to a place of which q is known. -/
theorem qx_store1 {op : Op} {q : PVP} {s : Nat} (hk : k < X.si.length) (hi : X.at k = i) (hg : wants L ops g = some true) (hV : (s, q) ∈ V) (hlo : s ∈ looks ops ⟨none, op, ty, pos, af, g⟩) (hone : ∀ q' ∈ V, q'.1 ∈ looks ops ⟨none, op, ty, pos, af, g⟩ → q' = (s, q))
    (hx : ∀ w' u, X.J k w' → q k u w' → ∃ w'', Xs P m D ((s, u) :: L) op ty w' w'' ∧ X.J (k + 1) w'' ∧ X.G k w' w'' ∧ q (k + 1) u w'') (kk : QWX X F n P m D ops K (i + 1) rest L V) :
    QWX X F n P m D ops K i (⟨none, op, ty, pos, af, g⟩ :: rest) L V :=
  .inl ⟨rfl, ⟨k, hk, hi, fun w' hJ a h hf => by
    obtain ⟨u, hu, hq⟩ := hf _ hV hlo
    obtain ⟨w'', hx, h1, h2, h3⟩ := hx w' u hJ hq
    exact ⟨h.wanted (o := ⟨none, op, ty, pos, af, g⟩) hg, .skip w'' (hx.2 _ _ _ _ a (fr_cons h hu)) ⟨trivial, h1, h2, fun q' hq' hlo' => by obtain rfl := hone q' hq' hlo'; exact ⟨u, hu, h3⟩⟩⟩⟩, kk⟩
/-- .. of a value of which q2 is known. -/
theorem qx_store2 {op : Op} {q q2 : PVP} {s s2 : Nat} (hk : k < X.si.length) (hi : X.at k = i) (hg : wants L ops g = some true) (hV : (s, q) ∈ V) (hV2 : (s2, q2) ∈ V) (hlo : s ∈ looks ops ⟨none, op, ty, pos, af, g⟩) (hlo2 : s2 ∈ looks ops ⟨none, op, ty, pos, af, g⟩)
    (hone : ∀ q' ∈ V, q'.1 ∈ looks ops ⟨none, op, ty, pos, af, g⟩ → q' = (s, q) ∨ q' = (s2, q2))
    (hx : ∀ w' u u2, X.J k w' → q k u w' → q2 k u2 w' → ∃ w'', Xs P m D ((s, u) :: (s2, u2) :: L) op ty w' w'' ∧ X.J (k + 1) w'' ∧ X.G k w' w'' ∧ q (k + 1) u w'' ∧ q2 (k + 1) u2 w'') (kk : QWX X F n P m D ops K (i + 1) rest L V) :
    QWX X F n P m D ops K i (⟨none, op, ty, pos, af, g⟩ :: rest) L V :=
  .inl ⟨rfl, ⟨k, hk, hi, fun w' hJ a h hf => by
    obtain ⟨u, hu, hq⟩ := hf _ hV hlo
    obtain ⟨u2, hu2, hq2⟩ := hf _ hV2 hlo2
    obtain ⟨w'', hx, h1, h2, h3, h4⟩ := hx w' u u2 hJ hq hq2
    exact ⟨h.wanted (o := ⟨none, op, ty, pos, af, g⟩) hg, .skip w'' (hx.2 _ _ _ _ a (fr_cons (fr_cons h hu2) hu)) ⟨trivial, h1, h2, fun q' hq' hlo' => by
      rcases hone q' hq' hlo' with rfl | rfl
      · exact ⟨u, hu, h3⟩
      · exact ⟨u2, hu2, h4⟩⟩⟩⟩, kk⟩
/-- A call that turns blocks and yields what is known. -/
theorem qx_spcall {op : Op} {f : FuncId} {args : Array Value} (hk : k < X.si.length) (hi : X.at k = i) (hg : wants L ops g = some true) (hd : Nat.blt d m = true) (hV : V.all (fun q => !(looks ops ⟨some d, op, ty, pos, af, g⟩).contains q.1) = true) (hx : ∀ w', Xc P m D L op ty w' f args w')
    (hc : ∀ w', X.J k w' → CallsIn F (n - 1) P f args w' (ok1 fun u w'' => u = v ∧ X.J (k + 1) w'' ∧ X.G k w' w'')) (kk : QWX X F n P m D ops K (i + 1) rest ((d, v) :: L) V) :
    QWX X F n P m D ops K i (⟨some d, op, ty, pos, af, g⟩ :: rest) L V :=
  .inr ⟨d, rfl, hd, .c v, nofun, stabX_c, .inl ⟨k, hk, hi, fun w' hJ a h hf => ⟨h.wanted (o := ⟨some d, op, ty, pos, af, g⟩) hg, .call f args w' ((hx w').2 _ _ _ _ a h) ((hc w' hJ).mono fun e w'' ⟨u, he, h1, h2, h3⟩ =>
    ⟨u, he, h1, h2, h3, fun q hq hlo => by have := List.all_eq_true.1 hV q hq; simp [hlo] at this⟩)⟩⟩, kk⟩
theorem tailx0 (k : ∀ w', X.J X.si.length w' → WL F n P Q m D ops tail L w') : TailX X F n P Q m D ops tail L [] := fun w' hw L' _ hs => wl_sub hs (k w' hw)
theorem tailx1 {p : PVP} (k : ∀ w' v, X.J X.si.length w' → p X.si.length v w' → WL F n P Q m D ops tail ((d, v) :: L) w') : TailX X F n P Q m D ops tail L [(d, p)] := fun w' hw L' hv hs => by
  obtain ⟨v, h1, h2⟩ := hv (d, p) (by simp)
  exact wl_sub (sub_cons h1 hs) (k w' v hw h2)
/-- Of the values of which something is known, one is looked at. -/
theorem tailxm {p : PVP} (hV : (d, p) ∈ V) (k : ∀ w' v, X.J X.si.length w' → p X.si.length v w' → WL F n P Q m D ops tail ((d, v) :: L) w') : TailX X F n P Q m D ops tail L V := fun w' hw L' hv hs => by
  obtain ⟨v, h1, h2⟩ := hv (d, p) hV
  exact wl_sub (sub_cons h1 hs) (k w' v hw h2)
end
section
variable {P : Program} {m : Nat} {D : List Deferred} {L : Env} {w : World} {ty t : TypeId} {v : Value} {x y : Operand}
theorem xs_store {b o : Nat} {cs : List Value} {T : TypeId} (hf : Flat P t) (hx : ev L x = some (.pointer (some ⟨b, o, none⟩))) (hy : ev L y = some v) (h1 : v.oneCell' = true)
    (hB : Blk w b cs T) (ho' : Nat.blt o cs.length = true) : ∃ w', Xs P m D L (.store t x y) ty w w' ∧ Blk w' b (cs.set o v) T ∧ Keep (· ≠ b) w w' := by
  have ho : o < cs.length := by simpa using ho'
  refine ⟨w.setCell ⟨b, o, none⟩ v, ⟨nofun, fun _ _ _ _ a h => ?_⟩, hB.set o v, keep_set w b o v⟩
  have hc : w.cell? ⟨b, o, none⟩ = some cs[o] := hB.cell (List.getElem?_eq_getElem ho)
  have hfz := hB.free (o := o)
  have hcs : v.cells = #[v] := by cases v <;> simp_all [Value.cells, Value.oneCell']
  have hst : (store (⟨b, o, none⟩ : Addr) v .plain).run P w = .ok () (w.setCell ⟨b, o, none⟩ v) := by
    cases v <;> simp_all [store, Sem.run, Value.oneCell']
  have ha : (⟨b, o, none⟩ : Addr).add 0 = ⟨b, o, none⟩ := by simp [Addr.add]
  simp [execOp, h.ev hx, h.ev hy, Instr.storeAt, Instr.sureAddr, storeVar, (hf w).2, hcs, storeCells, ha, hst]
theorem xs_storeA {b o k' : Nat} {cs new : List Value} {T : TypeId} (ha : Agg P t k') (hx : ev L x = some (.pointer (some ⟨b, o, none⟩))) (hy : ev L y = some (.agg new.toArray)) (h1 : new.all Value.oneCell' = true)
    (hl : new.length = k') (hB : Blk w b cs T) (ho' : Nat.ble (o + new.length) cs.length = true) : ∃ w', Xs P m D L (.store t x y) ty w w' ∧ Blk w' b (cs.take o ++ new ++ cs.drop (o + new.length)) T ∧ Keep (· ≠ b) w w' := by
  have ho : o + new.length ≤ cs.length := Nat.le_of_ble_eq_true ho'
  obtain ⟨w', hr, hB', hk, hsz⟩ := run_storeCells (P := P) new o 0 cs w hB (by omega) (List.all_eq_true.1 h1)
  refine ⟨w', ⟨nofun, fun _ _ _ _ a h => ?_⟩, hB', hk⟩
  simp [execOp, h.ev hx, h.ev hy, Instr.storeAt, Instr.sureAddr, storeVar, (ha w).2, Value.cells, hl, hr]
theorem xv_alloc {cs : List Value} {z : Value} (hz : ∀ w, (zeroValue t).run P w = .ok z w) (hcs : z.cells = cs.toArray) : ∃ b w', Xv P m D L (.alloc t) ty w (.pointer (some ⟨b, 0, none⟩)) w' ∧ w.heap.size ≤ b ∧ Blk w' b cs t ∧ Ext w w' :=
  ⟨w.heap.size, _, ⟨nofun, fun _ _ _ _ a h => by
    simp only [execOp, Instr.alloc, Sem.run_bind, hz w, Result.andThen_ok, newVar, newRow, newObj, Sem.run, Sem.run_pure, hcs]
    rfl⟩, Nat.le_refl _, blk_new w cs t, ext_alloc w _⟩
end
section
variable {X : Spx} {F : Fence} {n : Nat} {P : Program} {m : Nat} {D : List Deferred} {L : Env}
variable {ops : List Oper} {rest : List Oper} {i k : Nat} {ty t : TypeId} {pos : String} {af : Array Edge} {g : Option (Nat × Bool)} {v : Value} {x y : Operand} {K : Env → List (Nat × PVP) → Prop} {V : List (Nat × PVP)}
theorem qx_st {b o : Nat} {cs : List Value} {T : TypeId} (hk : k < X.si.length) (hi : X.at k = i) (hg : wants L ops g = some true) (hV : V.all (fun q => !(looks ops ⟨none, .store t x y, ty, pos, af, g⟩).contains q.1) = true)
    (hf : Flat P t) (hx : ev L x = some (.pointer (some ⟨b, o, none⟩))) (hy : ev L y = some v) (h1 : v.oneCell' = true) (hB : ∀ w', X.J k w' → Blk w' b cs T) (ho' : Nat.blt o cs.length = true)
    (hJ : ∀ w' w'', X.J k w' → Blk w'' b (cs.set o v) T → Keep (· ≠ b) w' w'' → X.J (k + 1) w'' ∧ X.G k w' w'') (kk : QWX X F n P m D ops K (i + 1) rest L V) :
    QWX X F n P m D ops K i (⟨none, .store t x y, ty, pos, af, g⟩ :: rest) L V :=
  qx_store hk hi hg hV (fun w' h => by
    obtain ⟨w'', h2, h3, h4⟩ := xs_store (P := P) (m := m) (D := D) (L := L) (ty := ty) hf hx hy h1 (hB w' h) ho'
    exact ⟨w'', h2, hJ w' w'' h h3 h4⟩) kk
theorem qx_stA {b o k' : Nat} {cs new : List Value} {T : TypeId} (hk : k < X.si.length) (hi : X.at k = i) (hg : wants L ops g = some true) (hV : V.all (fun q => !(looks ops ⟨none, .store t x y, ty, pos, af, g⟩).contains q.1) = true)
    (ha : Agg P t k') (hx : ev L x = some (.pointer (some ⟨b, o, none⟩))) (hy : ev L y = some (.agg new.toArray)) (h1 : new.all Value.oneCell' = true) (hl : new.length = k') (hB : ∀ w', X.J k w' → Blk w' b cs T) (ho' : Nat.ble (o + new.length) cs.length = true)
    (hJ : ∀ w' w'', X.J k w' → Blk w'' b (cs.take o ++ new ++ cs.drop (o + new.length)) T → Keep (· ≠ b) w' w'' → X.J (k + 1) w'' ∧ X.G k w' w'') (kk : QWX X F n P m D ops K (i + 1) rest L V) :
    QWX X F n P m D ops K i (⟨none, .store t x y, ty, pos, af, g⟩ :: rest) L V :=
  qx_store hk hi hg hV (fun w' h => by
    obtain ⟨w'', h2, h3, h4⟩ := xs_storeA (P := P) (m := m) (D := D) (L := L) (ty := ty) ha hx hy h1 hl (hB w' h) ho'
    exact ⟨w'', h2, hJ w' w'' h h3 h4⟩) kk
end
/-! ### method values -/
section
variable {P : Program} {m : Nat} {D : List Deferred} {L : Env} {w : World} {ty : TypeId}
theorem x_callm {f : FuncId} {fo : Operand} {xs : List Operand} {vs first : List Value} {ts : Array TypeId} (he : Enters P f) (hf : ev L fo = some (.func (.func f) first.toArray #[])) (hx : evs L xs = some vs) :
    Xc P m D L (.call ⟨.value fo, xs.toArray, ts⟩) ty w f (first ++ vs).toArray w :=
  ⟨nofun, fun _ _ _ _ a h => by
    have h1 := h.evs hx
    have h2 := h.ev hf
    simp only [execOp, resolve, h1, h2]
    simpa [Deferred.ofValue, invoke] using he (first ++ vs).toArray w⟩
theorem x_makeMeth {f : FuncId} {xs : List Operand} {vs : List Value} (hx : evs L xs = some vs) : Xv P m D L (.makeFunc (.func f) xs.toArray #[]) ty w (.func (.func f) vs.toArray #[]) w :=
  ⟨nofun, fun _ _ _ _ a h => by have := h.evs hx; simp only [execOp, this, Instr.makeFunc]; simp⟩
end
section
variable {X : Spx} {F : Fence} {n : Nat} {P : Program} {m : Nat} {D : List Deferred} {L : Env}
variable {ops : List Oper} {rest : List Oper} {i k d : Nat} {ty t : TypeId} {pos : String} {af : Array Edge} {g : Option (Nat × Bool)} {v : Value} {x y : Operand} {K : Env → List (Nat × PVP) → Prop} {V : List (Nat × PVP)}
theorem qx_alloc {cs : List Value} {z : Value} {p : PVP} (hn : noSpB X i = true) (hs : StabX X ops i d p) (hg : wants L ops g = some true) (hd : Nat.blt d m = true) (hno : at' L d = none) (hz : ∀ w, (zeroValue t).run P w = .ok z w) (hcs : z.cells = cs.toArray)
    (hp : ∀ ph w' w'' b, Bef X ops i ph → X.J ph w' → w'.heap.size ≤ b → Blk w'' b cs t → Ext w' w'' → p ph (.pointer (some ⟨b, 0, none⟩)) w'') (k : QWX X F n P m D ops K (i + 1) rest L ((d, p) :: V)) :
    QWX X F n P m D ops K i (⟨some d, .alloc t, ty, pos, af, g⟩ :: rest) L V :=
  qx_valp hn hs hg hd hno (fun ph w' hbf hJ => by
    obtain ⟨b, w'', h1, h2, h3, h4⟩ := xv_alloc (P := P) (m := m) (D := D) (L := L) (w := w') (ty := ty) hz hcs
    exact ⟨_, w'', h1, hp ph w' w'' b hbf hJ h2 h3 h4, h4⟩) k
/-- A struct is stored where slot s points to. -/
theorem qx_stA1 {q : PVP} {s k' : Nat} {new : List Value} {T : TypeId} (hk : k < X.si.length) (hi : X.at k = i) (hg : wants L ops g = some true) (hV : (s, q) ∈ V) (hlo : s ∈ looks ops ⟨none, .store t (.tmp s) y, ty, pos, af, g⟩) (hone : ∀ q' ∈ V, q'.1 ∈ looks ops ⟨none, .store t (.tmp s) y, ty, pos, af, g⟩ → q' = (s, q))
    (ha : Agg P t k') (hy : ∀ u, ev ((s, u) :: L) y = some (.agg new.toArray)) (h1 : new.all Value.oneCell' = true) (hl : new.length = k') (hq : ∀ u w', q k u w' → ∃ b cs, u = .pointer (some ⟨b, 0, none⟩) ∧ Blk w' b cs T ∧ cs.length = k')
    (hJ : ∀ w' w'' b, X.J k w' → q k (.pointer (some ⟨b, 0, none⟩)) w' → Blk w'' b new T → Keep (· ≠ b) w' w'' → X.J (k + 1) w'' ∧ X.G k w' w'' ∧ q (k + 1) (.pointer (some ⟨b, 0, none⟩)) w'') (kk : QWX X F n P m D ops K (i + 1) rest L V) :
    QWX X F n P m D ops K i (⟨none, .store t (.tmp s) y, ty, pos, af, g⟩ :: rest) L V :=
  qx_store1 hk hi hg hV hlo hone (fun w' u h h2 => by
    obtain ⟨b, cs, rfl, hB, hcl⟩ := hq u w' h2
    obtain ⟨w'', h3, h4, h5⟩ := xs_storeA (P := P) (m := m) (D := D) (L := (s, .pointer (some ⟨b, 0, none⟩)) :: L) (ty := ty) (x := .tmp s) (o := 0) ha (by show at' _ _ = _; rw [at_cons, if_pos rfl]) (hy _) h1 hl hB (by simp [hl, hcl])
    have e : cs.take 0 ++ new ++ cs.drop (0 + new.length) = new := by rw [List.take_zero, List.nil_append, List.drop_eq_nil_of_le (by omega), List.append_nil]
    rw [e] at h4
    exact ⟨w'', h3, hJ w' w'' b h h2 h4 h5⟩) kk
end
end Go.Proofs.Ytblbddamebbgaaa.K

/- Facts on the program's types and functions, printed by my genke.py. -/
namespace Go.Proofs.Ytblbddamebbgaaa.K
open Go Go.RowKit
set_option linter.unusedVariables false
theorem fl1 : Flat Try.prog 1 := flat_of Try.underlying1 rfl (by kernel_rfl)
theorem fl2 : Flat Try.prog 2 := flat_of Try.underlying2 rfl (by kernel_rfl)
theorem fl3 : Flat Try.prog 3 := flat_of Try.underlying3 rfl (by kernel_rfl)
theorem fl4 : Flat Try.prog 4 := flat_of Try.underlying4 rfl (by kernel_rfl)
theorem fl5 : Flat Try.prog 5 := flat_of Try.underlying5 rfl (by kernel_rfl)
theorem fl6 : Flat Try.prog 6 := flat_of Try.underlying6 rfl (by kernel_rfl)
theorem ag7 : Agg Try.prog 7 4 := agg_of Try.underlying7 rfl (by kernel_rfl)
theorem ag8 : Agg Try.prog 8 4 := agg_of Try.underlying8 rfl (by kernel_rfl)
theorem fl9 : Flat Try.prog 9 := flat_of Try.underlying9 rfl (by kernel_rfl)
theorem fl10 : Flat Try.prog 10 := flat_of Try.underlying10 rfl (by kernel_rfl)
theorem fl11 : Flat Try.prog 11 := flat_of Try.underlying11 rfl (by kernel_rfl)
theorem fl12 : Flat Try.prog 12 := flat_of Try.underlying12 rfl (by kernel_rfl)
theorem ag13 : Agg Try.prog 13 2 := agg_of Try.underlying13 rfl (by kernel_rfl)
theorem ag14 : Agg Try.prog 14 2 := agg_of Try.underlying14 rfl (by kernel_rfl)
theorem fl15 : Flat Try.prog 15 := flat_of Try.underlying15 rfl (by kernel_rfl)
theorem fl16 : Flat Try.prog 16 := flat_of Try.underlying16 rfl (by kernel_rfl)
theorem fl17 : Flat Try.prog 17 := flat_of Try.underlying17 rfl (by kernel_rfl)
theorem ag18 : Agg Try.prog 18 1 := agg_of Try.underlying18 rfl (by kernel_rfl)
theorem ag19 : Agg Try.prog 19 1 := agg_of Try.underlying19 rfl (by kernel_rfl)
theorem fl21 : Flat Try.prog 21 := flat_of Try.underlying21 rfl (by kernel_rfl)
theorem fl22 : Flat Try.prog 22 := flat_of Try.underlying22 rfl (by kernel_rfl)
theorem fl23 : Flat Try.prog 23 := flat_of Try.underlying23 rfl (by kernel_rfl)
theorem ag24 : Agg Try.prog 24 4 := agg_of Try.underlying24 rfl (by kernel_rfl)
theorem ag25 : Agg Try.prog 25 4 := agg_of Try.underlying25 rfl (by kernel_rfl)
theorem fl26 : Flat Try.prog 26 := flat_of Try.underlying26 rfl (by kernel_rfl)
theorem fl27 : Flat Try.prog 27 := flat_of Try.underlying27 rfl (by kernel_rfl)
theorem fl28 : Flat Try.prog 28 := flat_of Try.underlying28 rfl (by kernel_rfl)
theorem fl29 : Flat Try.prog 29 := flat_of Try.underlying29 rfl (by kernel_rfl)
theorem fl30 : Flat Try.prog 30 := flat_of Try.underlying30 rfl (by kernel_rfl)
theorem fl31 : Flat Try.prog 31 := flat_of Try.underlying31 rfl (by kernel_rfl)
theorem fl32 : Flat Try.prog 32 := flat_of Try.underlying32 rfl (by kernel_rfl)
theorem fl34 : Flat Try.prog 34 := flat_of Try.underlying34 rfl (by kernel_rfl)
theorem fl36 : Flat Try.prog 36 := flat_of Try.underlying36 rfl (by kernel_rfl)
theorem fl37 : Flat Try.prog 37 := flat_of Try.underlying37 rfl (by kernel_rfl)
theorem fl38 : Flat Try.prog 38 := flat_of Try.underlying38 rfl (by kernel_rfl)
theorem fl39 : Flat Try.prog 39 := flat_of Try.underlying39 rfl (by kernel_rfl)
theorem fl40 : Flat Try.prog 40 := flat_of Try.underlying40 rfl (by kernel_rfl)
theorem fl41 : Flat Try.prog 41 := flat_of Try.underlying41 rfl (by kernel_rfl)
theorem fl42 : Flat Try.prog 42 := flat_of Try.underlying42 rfl (by kernel_rfl)
theorem fl43 : Flat Try.prog 43 := flat_of Try.underlying43 rfl (by kernel_rfl)
theorem fl44 : Flat Try.prog 44 := flat_of Try.underlying44 rfl (by kernel_rfl)
theorem fl45 : Flat Try.prog 45 := flat_of Try.underlying45 rfl (by kernel_rfl)
theorem fl46 : Flat Try.prog 46 := flat_of Try.underlying46 rfl (by kernel_rfl)
theorem fl47 : Flat Try.prog 47 := flat_of Try.underlying47 rfl (by kernel_rfl)
theorem fl48 : Flat Try.prog 48 := flat_of Try.underlying48 rfl (by kernel_rfl)
theorem fl49 : Flat Try.prog 49 := flat_of Try.underlying49 rfl (by kernel_rfl)
theorem fl50 : Flat Try.prog 50 := flat_of Try.underlying50 rfl (by kernel_rfl)
theorem fl51 : Flat Try.prog 51 := flat_of Try.underlying51 rfl (by kernel_rfl)
theorem ag52 : Agg Try.prog 52 4 := agg_of Try.underlying52 rfl (by kernel_rfl)
theorem ag53 : Agg Try.prog 53 4 := agg_of Try.underlying53 rfl (by kernel_rfl)
theorem fl55 : Flat Try.prog 55 := flat_of Try.underlying55 rfl (by kernel_rfl)
theorem fl56 : Flat Try.prog 56 := flat_of Try.underlying56 rfl (by kernel_rfl)
theorem fl57 : Flat Try.prog 57 := flat_of Try.underlying57 rfl (by kernel_rfl)
theorem fl58 : Flat Try.prog 58 := flat_of Try.underlying58 rfl (by kernel_rfl)
theorem fl59 : Flat Try.prog 59 := flat_of Try.underlying59 rfl (by kernel_rfl)
theorem fl60 : Flat Try.prog 60 := flat_of Try.underlying60 rfl (by kernel_rfl)
theorem fl61 : Flat Try.prog 61 := flat_of Try.underlying61 rfl (by kernel_rfl)
theorem fl62 : Flat Try.prog 62 := flat_of Try.underlying62 rfl (by kernel_rfl)
theorem fl63 : Flat Try.prog 63 := flat_of Try.underlying63 rfl (by kernel_rfl)
theorem fl64 : Flat Try.prog 64 := flat_of Try.underlying64 rfl (by kernel_rfl)
theorem fl65 : Flat Try.prog 65 := flat_of Try.underlying65 rfl (by kernel_rfl)
theorem fl66 : Flat Try.prog 66 := flat_of Try.underlying66 rfl (by kernel_rfl)
theorem fl67 : Flat Try.prog 67 := flat_of Try.underlying67 rfl (by kernel_rfl)
theorem fl68 : Flat Try.prog 68 := flat_of Try.underlying68 rfl (by kernel_rfl)
theorem ag69 : Agg Try.prog 69 7 := agg_of Try.underlying69 rfl (by kernel_rfl)
theorem fl70 : Flat Try.prog 70 := flat_of Try.underlying70 rfl (by kernel_rfl)
theorem fl71 : Flat Try.prog 71 := flat_of Try.underlying71 rfl (by kernel_rfl)
theorem fl72 : Flat Try.prog 72 := flat_of Try.underlying72 rfl (by kernel_rfl)
theorem fl73 : Flat Try.prog 73 := flat_of Try.underlying73 rfl (by kernel_rfl)
theorem fl75 : Flat Try.prog 75 := flat_of Try.underlying75 rfl (by kernel_rfl)
theorem fl76 : Flat Try.prog 76 := flat_of Try.underlying76 rfl (by kernel_rfl)
theorem ag77 : Agg Try.prog 77 3 := agg_of Try.underlying77 rfl (by kernel_rfl)
theorem ag78 : Agg Try.prog 78 3 := agg_of Try.underlying78 rfl (by kernel_rfl)
theorem fl79 : Flat Try.prog 79 := flat_of Try.underlying79 rfl (by kernel_rfl)
theorem fl80 : Flat Try.prog 80 := flat_of Try.underlying80 rfl (by kernel_rfl)
theorem ag81 : Agg Try.prog 81 4 := agg_of Try.underlying81 rfl (by kernel_rfl)
theorem ag82 : Agg Try.prog 82 4 := agg_of Try.underlying82 rfl (by kernel_rfl)
theorem fl83 : Flat Try.prog 83 := flat_of Try.underlying83 rfl (by kernel_rfl)
theorem fl85 : Flat Try.prog 85 := flat_of Try.underlying85 rfl (by kernel_rfl)
theorem ag86 : Agg Try.prog 86 5 := agg_of Try.underlying86 rfl (by kernel_rfl)
theorem ag87 : Agg Try.prog 87 5 := agg_of Try.underlying87 rfl (by kernel_rfl)
theorem fl88 : Flat Try.prog 88 := flat_of Try.underlying88 rfl (by kernel_rfl)
theorem ag89 : Agg Try.prog 89 5 := agg_of Try.underlying89 rfl (by kernel_rfl)
theorem ag90 : Agg Try.prog 90 5 := agg_of Try.underlying90 rfl (by kernel_rfl)
theorem fl91 : Flat Try.prog 91 := flat_of Try.underlying91 rfl (by kernel_rfl)
theorem fl93 : Flat Try.prog 93 := flat_of Try.underlying93 rfl (by kernel_rfl)
theorem ag94 : Agg Try.prog 94 3 := agg_of Try.underlying94 rfl (by kernel_rfl)
theorem ag95 : Agg Try.prog 95 3 := agg_of Try.underlying95 rfl (by kernel_rfl)
theorem fl97 : Flat Try.prog 97 := flat_of Try.underlying97 rfl (by kernel_rfl)
theorem fl98 : Flat Try.prog 98 := flat_of Try.underlying98 rfl (by kernel_rfl)
theorem fl99 : Flat Try.prog 99 := flat_of Try.underlying99 rfl (by kernel_rfl)
theorem fl100 : Flat Try.prog 100 := flat_of Try.underlying100 rfl (by kernel_rfl)
theorem fl101 : Flat Try.prog 101 := flat_of Try.underlying101 rfl (by kernel_rfl)
theorem fl102 : Flat Try.prog 102 := flat_of Try.underlying102 rfl (by kernel_rfl)
theorem fl103 : Flat Try.prog 103 := flat_of Try.underlying103 rfl (by kernel_rfl)
theorem fl104 : Flat Try.prog 104 := flat_of Try.underlying104 rfl (by kernel_rfl)
theorem fl105 : Flat Try.prog 105 := flat_of Try.underlying105 rfl (by kernel_rfl)
theorem fl106 : Flat Try.prog 106 := flat_of Try.underlying106 rfl (by kernel_rfl)
theorem fl107 : Flat Try.prog 107 := flat_of Try.underlying107 rfl (by kernel_rfl)
theorem fl108 : Flat Try.prog 108 := flat_of Try.underlying108 rfl (by kernel_rfl)
theorem ag109 : Agg Try.prog 109 5 := agg_of Try.underlying109 rfl (by kernel_rfl)
theorem ag110 : Agg Try.prog 110 5 := agg_of Try.underlying110 rfl (by kernel_rfl)
theorem ag111 : Agg Try.prog 111 8 := agg_of Try.underlying111 rfl (by kernel_rfl)
theorem ag112 : Agg Try.prog 112 8 := agg_of Try.underlying112 rfl (by kernel_rfl)
theorem ag113 : Agg Try.prog 113 10 := agg_of Try.underlying113 rfl (by kernel_rfl)
theorem ag114 : Agg Try.prog 114 10 := agg_of Try.underlying114 rfl (by kernel_rfl)
theorem fl115 : Flat Try.prog 115 := flat_of Try.underlying115 rfl (by kernel_rfl)
theorem fl116 : Flat Try.prog 116 := flat_of Try.underlying116 rfl (by kernel_rfl)
theorem fl117 : Flat Try.prog 117 := flat_of Try.underlying117 rfl (by kernel_rfl)
theorem fl118 : Flat Try.prog 118 := flat_of Try.underlying118 rfl (by kernel_rfl)
theorem fl119 : Flat Try.prog 119 := flat_of Try.underlying119 rfl (by kernel_rfl)
theorem fl120 : Flat Try.prog 120 := flat_of Try.underlying120 rfl (by kernel_rfl)
theorem fl121 : Flat Try.prog 121 := flat_of Try.underlying121 rfl (by kernel_rfl)
theorem fl122 : Flat Try.prog 122 := flat_of Try.underlying122 rfl (by kernel_rfl)
theorem fl123 : Flat Try.prog 123 := flat_of Try.underlying123 rfl (by kernel_rfl)
theorem fl124 : Flat Try.prog 124 := flat_of Try.underlying124 rfl (by kernel_rfl)
theorem fl125 : Flat Try.prog 125 := flat_of Try.underlying125 rfl (by kernel_rfl)
theorem fl126 : Flat Try.prog 126 := flat_of Try.underlying126 rfl (by kernel_rfl)
theorem fl127 : Flat Try.prog 127 := flat_of Try.underlying127 rfl (by kernel_rfl)
theorem fl128 : Flat Try.prog 128 := flat_of Try.underlying128 rfl (by kernel_rfl)
theorem fl129 : Flat Try.prog 129 := flat_of Try.underlying129 rfl (by kernel_rfl)
theorem fl130 : Flat Try.prog 130 := flat_of Try.underlying130 rfl (by kernel_rfl)
theorem ag131 : Agg Try.prog 131 12 := agg_of Try.underlying131 rfl (by kernel_rfl)
theorem fl132 : Flat Try.prog 132 := flat_of Try.underlying132 rfl (by kernel_rfl)
theorem fl133 : Flat Try.prog 133 := flat_of Try.underlying133 rfl (by kernel_rfl)
theorem fl134 : Flat Try.prog 134 := flat_of Try.underlying134 rfl (by kernel_rfl)
theorem fl136 : Flat Try.prog 136 := flat_of Try.underlying136 rfl (by kernel_rfl)
theorem fl137 : Flat Try.prog 137 := flat_of Try.underlying137 rfl (by kernel_rfl)
theorem fl138 : Flat Try.prog 138 := flat_of Try.underlying138 rfl (by kernel_rfl)
theorem fl139 : Flat Try.prog 139 := flat_of Try.underlying139 rfl (by kernel_rfl)
theorem fl141 : Flat Try.prog 141 := flat_of Try.underlying141 rfl (by kernel_rfl)
theorem fl142 : Flat Try.prog 142 := flat_of Try.underlying142 rfl (by kernel_rfl)
theorem fl143 : Flat Try.prog 143 := flat_of Try.underlying143 rfl (by kernel_rfl)
theorem fl144 : Flat Try.prog 144 := flat_of Try.underlying144 rfl (by kernel_rfl)
theorem fl145 : Flat Try.prog 145 := flat_of Try.underlying145 rfl (by kernel_rfl)
theorem fl146 : Flat Try.prog 146 := flat_of Try.underlying146 rfl (by kernel_rfl)
theorem fl147 : Flat Try.prog 147 := flat_of Try.underlying147 rfl (by kernel_rfl)
theorem fl148 : Flat Try.prog 148 := flat_of Try.underlying148 rfl (by kernel_rfl)
theorem fl149 : Flat Try.prog 149 := flat_of Try.underlying149 rfl (by kernel_rfl)
theorem ag150 : Agg Try.prog 150 4 := agg_of Try.underlying150 rfl (by kernel_rfl)
theorem ag151 : Agg Try.prog 151 4 := agg_of Try.underlying151 rfl (by kernel_rfl)
theorem fl155 : Flat Try.prog 155 := flat_of Try.underlying155 rfl (by kernel_rfl)
theorem fl156 : Flat Try.prog 156 := flat_of Try.underlying156 rfl (by kernel_rfl)
theorem fl157 : Flat Try.prog 157 := flat_of Try.underlying157 rfl (by kernel_rfl)
theorem fl158 : Flat Try.prog 158 := flat_of Try.underlying158 rfl (by kernel_rfl)
theorem fl159 : Flat Try.prog 159 := flat_of Try.underlying159 rfl (by kernel_rfl)
theorem fl160 : Flat Try.prog 160 := flat_of Try.underlying160 rfl (by kernel_rfl)
theorem fl161 : Flat Try.prog 161 := flat_of Try.underlying161 rfl (by kernel_rfl)
theorem ag162 : Agg Try.prog 162 11 := agg_of Try.underlying162 rfl (by kernel_rfl)
theorem ag163 : Agg Try.prog 163 11 := agg_of Try.underlying163 rfl (by kernel_rfl)
theorem en3 : Enters Try.prog 3 := enters_of Try.func3 (by kernel_rfl) rfl
theorem en4 : Enters Try.prog 4 := enters_of Try.func4 (by kernel_rfl) rfl
theorem en5 : Enters Try.prog 5 := enters_of Try.func5 (by kernel_rfl) rfl
theorem en6 : Enters Try.prog 6 := enters_of Try.func6 (by kernel_rfl) rfl
theorem en7 : Enters Try.prog 7 := enters_of Try.func7 (by kernel_rfl) rfl
theorem en8 : Enters Try.prog 8 := enters_of Try.func8 (by kernel_rfl) rfl
theorem en9 : Enters Try.prog 9 := enters_of Try.func9 (by kernel_rfl) rfl
theorem en10 : Enters Try.prog 10 := enters_of Try.func10 (by kernel_rfl) rfl
theorem en11 : Enters Try.prog 11 := enters_of Try.func11 (by kernel_rfl) rfl
theorem en12 : Enters Try.prog 12 := enters_of Try.func12 (by kernel_rfl) rfl
theorem en13 : Enters Try.prog 13 := enters_of Try.func13 (by kernel_rfl) rfl
theorem en14 : Enters Try.prog 14 := enters_of Try.func14 (by kernel_rfl) rfl
theorem en15 : Enters Try.prog 15 := enters_of Try.func15 (by kernel_rfl) rfl
theorem en16 : Enters Try.prog 16 := enters_of Try.func16 (by kernel_rfl) rfl
theorem en17 : Enters Try.prog 17 := enters_of Try.func17 (by kernel_rfl) rfl
theorem en18 : Enters Try.prog 18 := enters_of Try.func18 (by kernel_rfl) rfl
theorem en19 : Enters Try.prog 19 := enters_of Try.func19 (by kernel_rfl) rfl
theorem en20 : Enters Try.prog 20 := enters_of Try.func20 (by kernel_rfl) rfl
theorem en21 : Enters Try.prog 21 := enters_of Try.func21 (by kernel_rfl) rfl
theorem en22 : Enters Try.prog 22 := enters_of Try.func22 (by kernel_rfl) rfl
theorem en23 : Enters Try.prog 23 := enters_of Try.func23 (by kernel_rfl) rfl
theorem en24 : Enters Try.prog 24 := enters_of Try.func24 (by kernel_rfl) rfl
theorem en25 : Enters Try.prog 25 := enters_of Try.func25 (by kernel_rfl) rfl
theorem en26 : Enters Try.prog 26 := enters_of Try.func26 (by kernel_rfl) rfl
theorem en27 : Enters Try.prog 27 := enters_of Try.func27 (by kernel_rfl) rfl
theorem en28 : Enters Try.prog 28 := enters_of Try.func28 (by kernel_rfl) rfl
theorem en29 : Enters Try.prog 29 := enters_of Try.func29 (by kernel_rfl) rfl
theorem en30 : Enters Try.prog 30 := enters_of Try.func30 (by kernel_rfl) rfl
theorem en31 : Enters Try.prog 31 := enters_of Try.func31 (by kernel_rfl) rfl
theorem en32 : Enters Try.prog 32 := enters_of Try.func32 (by kernel_rfl) rfl
theorem en33 : Enters Try.prog 33 := enters_of Try.func33 (by kernel_rfl) rfl
theorem en34 : Enters Try.prog 34 := enters_of Try.func34 (by kernel_rfl) rfl
theorem en35 : Enters Try.prog 35 := enters_of Try.func35 (by kernel_rfl) rfl
theorem en36 : Enters Try.prog 36 := enters_of Try.func36 (by kernel_rfl) rfl
theorem en37 : Enters Try.prog 37 := enters_of Try.func37 (by kernel_rfl) rfl
theorem en38 : Enters Try.prog 38 := enters_of Try.func38 (by kernel_rfl) rfl
theorem en39 : Enters Try.prog 39 := enters_of Try.func39 (by kernel_rfl) rfl
theorem en40 : Enters Try.prog 40 := enters_of Try.func40 (by kernel_rfl) rfl
theorem en41 : Enters Try.prog 41 := enters_of Try.func41 (by kernel_rfl) rfl
theorem en42 : Enters Try.prog 42 := enters_of Try.func42 (by kernel_rfl) rfl
theorem en43 : Enters Try.prog 43 := enters_of Try.func43 (by kernel_rfl) rfl
theorem en44 : Enters Try.prog 44 := enters_of Try.func44 (by kernel_rfl) rfl
theorem en45 : Enters Try.prog 45 := enters_of Try.func45 (by kernel_rfl) rfl
theorem en46 : Enters Try.prog 46 := enters_of Try.func46 (by kernel_rfl) rfl
theorem en47 : Enters Try.prog 47 := enters_of Try.func47 (by kernel_rfl) rfl
theorem en48 : Enters Try.prog 48 := enters_of Try.func48 (by kernel_rfl) rfl
theorem en49 : Enters Try.prog 49 := enters_of Try.func49 (by kernel_rfl) rfl
theorem en50 : Enters Try.prog 50 := enters_of Try.func50 (by kernel_rfl) rfl
theorem en51 : Enters Try.prog 51 := enters_of Try.func51 (by kernel_rfl) rfl
theorem en52 : Enters Try.prog 52 := enters_of Try.func52 (by kernel_rfl) rfl
theorem en53 : Enters Try.prog 53 := enters_of Try.func53 (by kernel_rfl) rfl
theorem en54 : Enters Try.prog 54 := enters_of Try.func54 (by kernel_rfl) rfl
theorem en55 : Enters Try.prog 55 := enters_of Try.func55 (by kernel_rfl) rfl
theorem en56 : Enters Try.prog 56 := enters_of Try.func56 (by kernel_rfl) rfl
theorem en57 : Enters Try.prog 57 := enters_of Try.func57 (by kernel_rfl) rfl
theorem en58 : Enters Try.prog 58 := enters_of Try.func58 (by kernel_rfl) rfl
theorem en59 : Enters Try.prog 59 := enters_of Try.func59 (by kernel_rfl) rfl
theorem en60 : Enters Try.prog 60 := enters_of Try.func60 (by kernel_rfl) rfl
theorem en61 : Enters Try.prog 61 := enters_of Try.func61 (by kernel_rfl) rfl
theorem en62 : Enters Try.prog 62 := enters_of Try.func62 (by kernel_rfl) rfl
theorem en63 : Enters Try.prog 63 := enters_of Try.func63 (by kernel_rfl) rfl
theorem en64 : Enters Try.prog 64 := enters_of Try.func64 (by kernel_rfl) rfl
theorem en65 : Enters Try.prog 65 := enters_of Try.func65 (by kernel_rfl) rfl
theorem en66 : Enters Try.prog 66 := enters_of Try.func66 (by kernel_rfl) rfl
theorem en67 : Enters Try.prog 67 := enters_of Try.func67 (by kernel_rfl) rfl
theorem en68 : Enters Try.prog 68 := enters_of Try.func68 (by kernel_rfl) rfl
theorem en69 : Enters Try.prog 69 := enters_of Try.func69 (by kernel_rfl) rfl
theorem en70 : Enters Try.prog 70 := enters_of Try.func70 (by kernel_rfl) rfl
theorem en71 : Enters Try.prog 71 := enters_of Try.func71 (by kernel_rfl) rfl
theorem en72 : Enters Try.prog 72 := enters_of Try.func72 (by kernel_rfl) rfl
theorem en73 : Enters Try.prog 73 := enters_of Try.func73 (by kernel_rfl) rfl
theorem en74 : Enters Try.prog 74 := enters_of Try.func74 (by kernel_rfl) rfl
theorem en75 : Enters Try.prog 75 := enters_of Try.func75 (by kernel_rfl) rfl
theorem en76 : Enters Try.prog 76 := enters_of Try.func76 (by kernel_rfl) rfl
theorem en77 : Enters Try.prog 77 := enters_of Try.func77 (by kernel_rfl) rfl
theorem en78 : Enters Try.prog 78 := enters_of Try.func78 (by kernel_rfl) rfl
theorem en79 : Enters Try.prog 79 := enters_of Try.func79 (by kernel_rfl) rfl
theorem en80 : Enters Try.prog 80 := enters_of Try.func80 (by kernel_rfl) rfl
theorem en81 : Enters Try.prog 81 := enters_of Try.func81 (by kernel_rfl) rfl
theorem en82 : Enters Try.prog 82 := enters_of Try.func82 (by kernel_rfl) rfl
theorem en83 : Enters Try.prog 83 := enters_of Try.func83 (by kernel_rfl) rfl
theorem en84 : Enters Try.prog 84 := enters_of Try.func84 (by kernel_rfl) rfl
theorem en85 : Enters Try.prog 85 := enters_of Try.func85 (by kernel_rfl) rfl
theorem en86 : Enters Try.prog 86 := enters_of Try.func86 (by kernel_rfl) rfl
theorem en87 : Enters Try.prog 87 := enters_of Try.func87 (by kernel_rfl) rfl
theorem en88 : Enters Try.prog 88 := enters_of Try.func88 (by kernel_rfl) rfl
theorem en89 : Enters Try.prog 89 := enters_of Try.func89 (by kernel_rfl) rfl
theorem en90 : Enters Try.prog 90 := enters_of Try.func90 (by kernel_rfl) rfl
theorem en91 : Enters Try.prog 91 := enters_of Try.func91 (by kernel_rfl) rfl
theorem en92 : Enters Try.prog 92 := enters_of Try.func92 (by kernel_rfl) rfl
theorem en93 : Enters Try.prog 93 := enters_of Try.func93 (by kernel_rfl) rfl
theorem en94 : Enters Try.prog 94 := enters_of Try.func94 (by kernel_rfl) rfl
theorem en95 : Enters Try.prog 95 := enters_of Try.func95 (by kernel_rfl) rfl
theorem en96 : Enters Try.prog 96 := enters_of Try.func96 (by kernel_rfl) rfl
theorem en97 : Enters Try.prog 97 := enters_of Try.func97 (by kernel_rfl) rfl
theorem en98 : Enters Try.prog 98 := enters_of Try.func98 (by kernel_rfl) rfl
theorem en99 : Enters Try.prog 99 := enters_of Try.func99 (by kernel_rfl) rfl
theorem mixed : Try.prog.follows .mixedOrders = true := by kernel_rfl
end Go.Proofs.Ytblbddamebbgaaa.K

/- The data of glacier's entries: how a list of entries lies in memory. -/
namespace Go.Proofs.Ytblbddamebbgaaa.K
open Go Go.RowKit
set_option linter.unusedVariables false
set_option linter.unusedSectionVars false
set_option linter.unusedSimpArgs false

/-- An entry: key, number, gone, value. -/
structure Ent where
  k : ByteArray
  s : Int
  g : Bool
  v : List UInt8
def z0 : Ent := ⟨⟨#[]⟩, 0, false, []⟩
/-- Its numbers are of their kinds. -/
structure EntOk (e : Ent) : Prop where
  s0 : 0 ≤ e.s
  s1 : e.s ≤ 18446744073709551615
  k : e.k.size ≤ 1048576
  v : e.v.length ≤ 1048576

/-- What is held of cells of A's blocks holds on. -/
def CK (A : Nat → Prop) (w w' : World) : Prop := ∀ ad v, A ad.block → w.cell? ad = some v → w'.cell? ad = some v
theorem CK.of_keep {A S : Nat → Prop} {w w' : World} (h : Keep S w w') (hs : ∀ k, k < w.heap.size → A k → S k) : CK A w w' := fun ad v ha hc => h.cell hc (hs _ (World.block_lt_of_cell? w _ hc) ha)
theorem CK.of_ext {A : Nat → Prop} {w w' : World} (h : Ext w w') : CK A w w' := CK.of_keep h fun _ _ _ => trivial
theorem CK.of_nc {A : Nat → Prop} {B : Nat} {w w' : World} (h : Nc B w w') : CK A w w' := fun _ _ _ hc => h.cell hc

/-- The slice v holds the bytes l, in a block of A. -/
def Byts (A : Nat → Prop) (w : World) (v : Value) (l : List UInt8) : Prop :=
  ∃ ad cap, v = .slice ad l.length cap ∧ l.length ≤ cap ∧ (l ≠ [] → ∃ b o, ad = some ⟨b, o, none⟩ ∧ A b ∧ ∀ i u, l[i]? = some u → w.cell? ⟨b, o + i, none⟩ = some (.int .u8 u.toNat))
section
variable {A A' : Nat → Prop} {w w' : World} {v bv : Value} {l : List UInt8}
theorem Byts.ck (h : Byts A w v l) (hk : CK A w w') : Byts A w' v l := by
  obtain ⟨ad, cap, rfl, hc, h⟩ := h
  refine ⟨ad, cap, rfl, hc, fun hne => ?_⟩
  obtain ⟨b, o, rfl, hA, hcell⟩ := h hne
  exact ⟨b, o, rfl, hA, fun i u hi => hk _ _ hA (hcell i u hi)⟩
theorem Byts.ext (h : Byts A w v l) (hk : Ext w w') : Byts A w' v l := h.ck (CK.of_ext hk)
theorem Byts.mono (h : Byts A w v l) (hA : ∀ k, k < w.heap.size → A k → A' k) : Byts A' w v l := by
  obtain ⟨ad, cap, rfl, hc, h⟩ := h
  refine ⟨ad, cap, rfl, hc, fun hne => ?_⟩
  obtain ⟨b, o, rfl, hAb, hcell⟩ := h hne
  refine ⟨b, o, rfl, hA b ?_ hAb, hcell⟩
  cases l with
  | nil => exact absurd rfl hne
  | cons u l => exact World.block_lt_of_cell? w _ (hcell 0 u rfl)
theorem byts_nil (A : Nat → Prop) (w : World) : Byts A w (.slice none 0 0) [] := ⟨none, 0, rfl, Nat.le_refl _, fun h => absurd rfl h⟩
theorem Byts.one (h : Byts A w v l) : v.oneCell' = true := by obtain ⟨ad, cap, rfl, _⟩ := h; rfl
end

/-- An entry's four cells. -/
def cellsOf (e : Ent) (bv : Value) : List Value := [.string e.k, .int .u64 e.s, .bool e.g, bv]
/-- An entry as a value. -/
def EntV (A : Nat → Prop) (w : World) (v : Value) (e : Ent) : Prop := ∃ bv, v = .agg (cellsOf e bv).toArray ∧ Byts A w bv e.v
/-- Elements from cell o of block b on. -/
def RowAt (A : Nat → Prop) (w : World) (b o : Nat) (es : List Ent) : Prop := ∀ i e, es[i]? = some e → ∃ bv, Cells w b (o + i * 4) (cellsOf e bv) ∧ Byts A w bv e.v
/-- The slice v holds the entries es, in blocks of A. -/
def Row (A : Nat → Prop) (w : World) (v : Value) (es : List Ent) : Prop :=
  ∃ ad cap, v = .slice ad es.length cap ∧ es.length ≤ cap ∧ es.length ≤ 1099511627776 ∧ (∀ e ∈ es, EntOk e) ∧ (es ≠ [] → ∃ b o, ad = some ⟨b, o, none⟩ ∧ A b ∧ RowAt A w b o es)
section
variable {A A' : Nat → Prop} {w w' : World} {v bv : Value} {es : List Ent} {e : Ent}
theorem EntV.ck (h : EntV A w v e) (hk : CK A w w') : EntV A w' v e := by obtain ⟨bv, rfl, hb⟩ := h; exact ⟨bv, rfl, hb.ck hk⟩
theorem EntV.ext (h : EntV A w v e) (hk : Ext w w') : EntV A w' v e := h.ck (CK.of_ext hk)
theorem EntV.mono (h : EntV A w v e) (hA : ∀ k, k < w.heap.size → A k → A' k) : EntV A' w v e := by obtain ⟨bv, rfl, hb⟩ := h; exact ⟨bv, rfl, hb.mono hA⟩
theorem Cells.ck {b o : Nat} {cs : List Value} (h : Cells w b o cs) (hA : A b) (hk : CK A w w') : Cells w' b o cs := fun j v hj => hk _ _ hA (h j v hj)
theorem Cells.ext {b o : Nat} {cs : List Value} (h : Cells w b o cs) (hk : Ext w w') : Cells w' b o cs := fun j v hj => hk.cell (h j v hj)
theorem RowAt.ck {b o : Nat} (h : RowAt A w b o es) (hA : A b) (hk : CK A w w') : RowAt A w' b o es := fun i e hi => by
  obtain ⟨bv, h1, h2⟩ := h i e hi
  exact ⟨bv, h1.ck hA hk, h2.ck hk⟩
theorem Row.ck (h : Row A w v es) (hk : CK A w w') : Row A w' v es := by
  obtain ⟨ad, cap, rfl, h1, h2, h3, h⟩ := h
  refine ⟨ad, cap, rfl, h1, h2, h3, fun hne => ?_⟩
  obtain ⟨b, o, rfl, hA, hr⟩ := h hne
  exact ⟨b, o, rfl, hA, hr.ck hA hk⟩
theorem Row.ext (h : Row A w v es) (hk : Ext w w') : Row A w' v es := h.ck (CK.of_ext hk)
theorem Row.mono (h : Row A w v es) (hA : ∀ k, k < w.heap.size → A k → A' k) : Row A' w v es := by
  obtain ⟨ad, cap, rfl, h1, h2, h3, h⟩ := h
  refine ⟨ad, cap, rfl, h1, h2, h3, fun hne => ?_⟩
  obtain ⟨b, o, rfl, hAb, hr⟩ := h hne
  have hb : b < w.heap.size := by
    cases es with
    | nil => exact absurd rfl hne
    | cons e es =>
      obtain ⟨bv, hc, -⟩ := hr 0 e rfl
      exact World.block_lt_of_cell? w _ (hc 0 _ rfl)
  exact ⟨b, o, rfl, hA b hb hAb, fun i e hi => by obtain ⟨bv, h4, h5⟩ := hr i e hi; exact ⟨bv, h4, h5.mono hA⟩⟩
/-- Element i: where it lies. -/
theorem Row.at (h : Row A w v es) (i : Nat) (hi : i < es.length) : ∃ b o cap bv, v = .slice (some ⟨b, o, none⟩) es.length cap ∧ A b ∧ Cells w b (o + i * 4) (cellsOf es[i] bv) ∧ Byts A w bv es[i].v ∧ EntOk es[i] := by
  obtain ⟨ad, cap, rfl, h1, h2, h3, h⟩ := h
  obtain ⟨b, o, rfl, hA, hr⟩ := h (by intro e; rw [e] at hi; simp at hi)
  obtain ⟨bv, h4, h5⟩ := hr i es[i] (List.getElem?_eq_getElem hi)
  exact ⟨b, o, cap, bv, rfl, hA, h4, h5, h3 _ (List.getElem_mem hi)⟩
theorem Row.form (h : Row A w v es) : ∃ ad cap, v = .slice ad es.length cap ∧ es.length ≤ cap ∧ es.length ≤ 1099511627776 := by
  obtain ⟨ad, cap, rfl, h1, h2, -⟩ := h
  exact ⟨ad, cap, rfl, h1, h2⟩
theorem Row.ok (h : Row A w v es) : ∀ e ∈ es, EntOk e := by obtain ⟨ad, cap, rfl, h1, h2, h3, -⟩ := h; exact h3
theorem row_nil (A : Nat → Prop) (w : World) : Row A w (.slice none 0 0) [] := ⟨none, 0, rfl, Nat.le_refl _, by simp, by simp, fun h => absurd rfl h⟩
end

/-! ### a row of the call's own -/
def flat : List Ent → List Value → List Value
  | e :: es, bv :: bvs => cellsOf e bv ++ flat es bvs
  | _, _ => []
theorem flat_len : ∀ (es : List Ent) (bvs : List Value), bvs.length = es.length → (flat es bvs).length = es.length * 4
  | [], _, _ => by simp [flat]
  | e :: es, [], h => by simp at h
  | e :: es, bv :: bvs, h => by simp [flat, cellsOf, flat_len es bvs (by simpa using h)]; omega
theorem flat_snoc (e : Ent) (bv : Value) : ∀ (es : List Ent) (bvs : List Value), bvs.length = es.length → flat (es ++ [e]) (bvs ++ [bv]) = flat es bvs ++ cellsOf e bv
  | [], [], _ => by simp [flat]
  | [], b :: bvs, h => by simp at h
  | x :: es, [], h => by simp at h
  | x :: es, b :: bvs, h => by simp [flat, flat_snoc e bv es bvs (by simpa using h)]
theorem flat_at : ∀ (es : List Ent) (bvs : List Value) (i : Nat) (e : Ent) (bv : Value), bvs.length = es.length → es[i]? = some e → bvs[i]? = some bv → ∀ j v, (cellsOf e bv)[j]? = some v → (flat es bvs)[i * 4 + j]? = some v
  | [], _, i, e, bv, _, h, _, _, _, _ => by simp at h
  | x :: es, [], i, e, bv, h, _, _, _, _, _ => by simp at h
  | x :: es, b :: bvs, 0, e, bv, h, h1, h2, j, v, hj => by
    simp at h1 h2; subst h1; subst h2
    have : j < 4 := by have := (List.getElem?_eq_some_iff.1 hj).1; simpa [cellsOf] using this
    simp only [flat]
    rw [List.getElem?_append_left (by simp [cellsOf]; omega)]
    simpa using hj
  | x :: es, b :: bvs, i + 1, e, bv, h, h1, h2, j, v, hj => by
    simp only [flat]
    rw [List.getElem?_append_right (by simp [cellsOf]; omega)]
    have : (i + 1) * 4 + j - (cellsOf x b).length = i * 4 + j := by simp [cellsOf]; omega
    rw [this]
    exact flat_at es bvs i e bv (by simpa using h) (by simpa using h1) (by simpa using h2) j v hj
/-- The slice v is nil, or lies at the head of a block of entries from block number base on; what its elements lead to lies elsewhere. -/
structure OwnE (A : Nat → Prop) (base : Nat) (w : World) (v : Value) (es : List Ent) : Prop where
  ex : ∃ bvs, bvs.length = es.length ∧ w.ownsRow base 25 4 v es.length (flat es bvs) ∧ ∀ (i : Nat) (e : Ent) (bv : Value), es[i]? = some e → bvs[i]? = some bv → Byts (fun k => A k ∧ some k ≠ v.ownBlock) w bv e.v
  ok : ∀ e ∈ es, EntOk e
section
variable {A : Nat → Prop} {base : Nat} {w w' : World} {v bv : Value} {es : List Ent} {e : Ent}
theorem own_nil (A : Nat → Prop) (base : Nat) (w : World) : OwnE A base w (.slice none 0 0) [] := ⟨⟨[], rfl, World.ownsRow_nil w base 25 4, fun i e bv h => by simp at h⟩, by simp⟩
theorem ownsRow_ck {n : Nat} {xs : List Value} (h : w.ownsRow base 25 4 v n xs) (hk : ∀ b cs, v.ownBlock = some b → w.heap[b]? = some (.cells cs 25 (0, 0)) → w'.heap[b]? = some (.cells cs 25 (0, 0))) : w'.ownsRow base 25 4 v n xs := by
  refine ⟨h.1, ?_⟩
  rcases h.2 with ⟨h1, h2⟩ | ⟨g, cap, cur, rfl, hb, hg, h1⟩
  · exact .inl ⟨h1, h2⟩
  · exact .inr ⟨g, cap, cur, rfl, hb, hk g cur rfl hg, h1⟩
theorem OwnE.nc {B : Nat} (h : OwnE A base w v es) (hn : Nc B w w') : OwnE A base w' v es := by
  obtain ⟨⟨bvs, h1, h2, h3⟩, h4⟩ := h
  refine ⟨⟨bvs, h1, ownsRow_ck h2 (fun b cs _ hb => ?_), fun i e bv hi hj => (h3 i e bv hi hj).ck (CK.of_nc hn)⟩, h4⟩
  exact Blk.nc (cs := cs.toList) (by simpa [Blk] using hb) hn |> fun h => by simpa [Blk] using h
theorem OwnE.keep {S : Nat → Prop} (h : OwnE A base w v es) (hk : Keep S w w') (hv : ∀ b, v.ownBlock = some b → S b) (hA : ∀ k, k < w.heap.size → A k → S k) : OwnE A base w' v es := by
  obtain ⟨⟨bvs, h1, h2, h3⟩, h4⟩ := h
  exact ⟨⟨bvs, h1, ownsRow_ck h2 (fun b cs hb hc => (hk.block b (Array.getElem?_eq_some_iff.1 hc).1 (hv b hb)).trans hc), fun i e bv hi hj => (h3 i e bv hi hj).ck (CK.of_keep hk (fun k hk' h => hA k hk' h.1))⟩, h4⟩
theorem OwnE.ext (h : OwnE A base w v es) (hk : Ext w w') : OwnE A base w' v es := h.keep hk (fun _ _ => trivial) (fun _ _ _ => trivial)
theorem OwnE.lt (h : OwnE A base w v es) : ∀ b, v.ownBlock = some b → base ≤ b ∧ b < w.heap.size := by obtain ⟨⟨bvs, h1, h2, h3⟩, h4⟩ := h; exact h2.lt
/-- The row's block is one of entries. -/
theorem OwnE.ne {b : Nat} {cs : List Value} {t : TypeId} (h : OwnE A base w v es) (hB : Blk w b cs t) (ht : t ≠ 25) : ∀ b', v.ownBlock = some b' → b' ≠ b := by
  obtain ⟨⟨bvs, h1, h2, h3⟩, h4⟩ := h
  intro b' hb' e
  subst e
  rcases h2.2 with ⟨rfl, _⟩ | ⟨g, cap, cur, rfl, -, hg, -⟩
  · cases hb'
  · cases hb'
    unfold Blk at hB
    rw [hg] at hB
    cases hB
    exact ht rfl
theorem OwnE.form (h : OwnE A base w v es) : ∃ ad cap, v = .slice ad es.length cap := by
  obtain ⟨⟨bvs, h1, h2, h3⟩, h4⟩ := h
  rcases h2.2 with ⟨rfl, h⟩ | ⟨g, cap, cur, rfl, -⟩
  · exact ⟨none, 0, by rw [h]⟩
  · exact ⟨_, cap, rfl⟩
theorem OwnE.one (h : OwnE A base w v es) : v.oneCell' = true := by obtain ⟨ad, cap, rfl⟩ := h.form; rfl
/-- What is collected reads as a row. -/
theorem OwnE.row (h : OwnE A base w v es) (hl : es.length ≤ 1099511627776) : Row (fun k => A k ∨ base ≤ k) w v es := by
  obtain ⟨⟨bvs, h1, h2, h3⟩, h4⟩ := h
  have h5 := fun g => h2.cells (g := g)
  rcases h2.2 with ⟨rfl, h⟩ | ⟨g, cap, cur, rfl, hb, hg, hc, -⟩
  · have : es = [] := List.eq_nil_of_length_eq_zero h
    subst this
    exact row_nil _ _
  · refine ⟨_, cap, rfl, hc, hl, h4, fun _ => ⟨g, 0, rfl, .inr hb, fun i e hi => ?_⟩⟩
    have hlt := (List.getElem?_eq_some_iff.1 hi).1
    have hbv : bvs[i]? = some (bvs[i]'(by omega)) := List.getElem?_eq_getElem _
    refine ⟨_, fun j u hj => ?_, (h3 i e _ hi hbv).mono fun k hk h => .inl h.1⟩
    have := h5 g rfl (i * 4 + j) u (flat_at es bvs i e _ h1 hi hbv j u hj)
    rw [add_mk] at this
    rw [show 0 + i * 4 + j = 0 + (i * 4 + j) from by omega]
    exact this
end
theorem info25 : (Try.prog.info? 25).map (fun i => (i.zero, i.size, i.bytes)) = some (some (.agg #[.string ⟨#[]⟩, .int .u64 0, .bool false, .slice none 0 0]), 4, 56) := by kernel_rfl
theorem info5 : (Try.prog.info? 5).map (fun i => (i.zero, i.size, i.bytes)) = some (some (.int .u8 0), 1, 1) := by kernel_rfl
/-- append of one entry that lies in a new block. -/
theorem run_append1 {A : Nat → Prop} {base : Nat} {w : World} {v bv : Value} {es : List Ent} {e : Ent} {bt : Nat} {ty : TypeId} (h : OwnE A base w v es) (hl : es.length < 1099511627776) (hB : Blk w bt (cellsOf e bv) 25) (hb : Byts (fun k => A k ∧ some k ≠ v.ownBlock) w bv e.v) (he : EntOk e) (hbase : base ≤ w.heap.size) :
    ∃ v' w', (Builtin.append_ #[26, 26] ty #[v, .slice (some ⟨bt, 0, none⟩) 1 1]).run Try.prog w = .ok v' w' ∧ OwnE A base w' v' (es ++ [e]) ∧ Keep (fun k => some k ≠ v.ownBlock) w w' ∧ (v'.ownBlock = v.ownBlock ∨ ∃ b, v'.ownBlock = some b ∧ w.heap.size ≤ b) := by
  obtain ⟨i0, hi, hz0, hz1, hz2⟩ := info_parts info25
  obtain ⟨⟨bvs, h1, h2, h3⟩, h4⟩ := h
  have hmax : es.length + 1 ≤ maxLen := by unfold maxLen; omega
  obtain ⟨v', w', hr, ho, hg, -, hat⟩ := run_append_own_at (P := Try.prog) w base 26 ty 25 i0 _ 4 56 Try.underlying26 hi hz0 hz1 hz2 rfl (by decide) v es.length (flat es bvs) h2 ⟨bt, 0, none⟩ 1 1 (cellsOf e bv) rfl
    (fun j u hj => by rw [add_mk]; exact hB.cells j u hj) (by
      obtain ⟨ad, cap, rfl, -⟩ := hb
      intro u hu
      simp only [cellsOf, List.mem_cons, List.not_mem_nil, or_false] at hu
      rcases hu with rfl | rfl | rfl | rfl <;> rfl) hmax (by omega) hbase
  have hlen : (es ++ [e]).length = es.length + 1 := by simp
  have hcase : v'.ownBlock = v.ownBlock ∨ ∃ b, v'.ownBlock = some b ∧ w.heap.size ≤ b := by
    rcases hat with e | e
    · exact .inl e
    · exact .inr ⟨_, e, Nat.le_refl _⟩
  refine ⟨v', w', hr, ⟨⟨bvs ++ [bv], by simp [h1], by rw [hlen, flat_snoc e bv es bvs h1]; exact ho, fun i x b hi hj => ?_⟩, fun x hx => ?_⟩, Keep.grown hg, hcase⟩
  · have hold : Byts (fun k => A k ∧ some k ≠ v.ownBlock) w b x.v := by
      by_cases hlt : i < es.length
      · rw [List.getElem?_append_left hlt] at hi
        rw [List.getElem?_append_left (by omega)] at hj
        exact h3 i x b hi hj
      · have : i = es.length := by
          have := (List.getElem?_eq_some_iff.1 hi).1
          simp at this; omega
        subst this
        rw [List.getElem?_append_right (Nat.le_refl _)] at hi
        rw [List.getElem?_append_right (by omega), h1] at hj
        simp at hi hj
        subst hi; subst hj
        exact hb
    have hlt := hold.mono (A' := fun k => (A k ∧ some k ≠ v.ownBlock) ∧ k < w.heap.size) (fun k hk h => ⟨h, hk⟩)
    refine (hlt.ck (CK.of_keep (Keep.grown hg) fun k _ h => h.1.2)).mono fun k _ h => ⟨h.1.1, ?_⟩
    rcases hcase with e | ⟨b', e, hb'⟩
    · rw [e]; exact h.1.2
    · rw [e]; intro he; cases he; omega
  · rcases List.mem_append.1 hx with hx | hx
    · exact h4 x hx
    · simp at hx; subst hx; exact he
theorem hWw : Wd Fence.wide := Wd.wide
theorem hFw : Fence.wide = Fence.wide ∨ ∃ l, Fence.wide = Fence.wide.inRound l := .inl rfl
theorem hFr (l : Nat) : Fence.wide.inRound l = Fence.wide ∨ ∃ l', Fence.wide.inRound l = Fence.wide.inRound l' := .inr ⟨l, rfl⟩
theorem Byts.form {A : Nat → Prop} {w : World} {v : Value} {l : List UInt8} (h : Byts A w v l) : ∃ ad cap, v = .slice ad l.length cap ∧ l.length ≤ cap := by obtain ⟨ad, cap, e, hc, -⟩ := h; exact ⟨ad, cap, e, hc⟩
section
variable {F : Fence} {n : Nat} {Q : Exit → Act → World → Prop} {m : Nat} {D : List Deferred} {L : Env} {w w' : World} {ops rest : List Oper} {d : Nat} {ty : TypeId} {pos : String} {af : Array Edge} {g : Option (Nat × Bool)} {x y : Operand}
/-- 'out = append(out, e)' on a row of the call's own. -/
theorem wl_append1 {A : Nat → Prop} {base bt : Nat} {v bv : Value} {es : List Ent} {e : Ent} (hW : Wd F) (hg : wants L ops g = some true) (hd : Nat.blt d m = true) (hx : ev L x = some v) (hy : ev L y = some (.slice (some ⟨bt, 0, none⟩) 1 1))
    (h : OwnE A base w v es) (hl : es.length < 1099511627776) (hB : Blk w bt (cellsOf e bv) 25) (hb : Byts (fun k => A k ∧ some k ≠ v.ownBlock) w bv e.v) (he : EntOk e) (hbase : base ≤ w.heap.size)
    (k : ∀ v' w', OwnE A base w' v' (es ++ [e]) → Keep (fun k => some k ≠ v.ownBlock) w w' → (v'.ownBlock = v.ownBlock ∨ ∃ b, v'.ownBlock = some b ∧ w.heap.size ≤ b) → WL F n Try.prog Q m D ops rest ((d, v') :: L) w') :
    WL F n Try.prog Q m D ops (⟨some d, .call ⟨.builtin .append, #[x, y], #[26, 26]⟩, ty, pos, af, g⟩ :: rest) L w := by
  obtain ⟨v', w', hr, ho, hk, hc⟩ := run_append1 (ty := ty) h hl hB hb he hbase
  refine wl_val hW hg hd ⟨nofun, fun _ _ _ _ a h => ?_⟩ (k v' w' ho hk hc)
  simp [execOp, resolve, h.ev hx, h.ev hy, invoke, builtin, hr]
end
end Go.Proofs.Ytblbddamebbgaaa.K

/- Plain laws: the order of keys and entries, what is seen, pruned, merged. No memory, no program. -/
namespace Go.Proofs.Ytblbddamebbgaaa.K
open Go
set_option linter.unusedVariables false
set_option linter.unusedSimpArgs false

abbrev bl := Op.bytesLess
theorem bl_irrefl : ∀ x : List UInt8, bl x x = false
  | [] => rfl
  | a :: x => by have := bl_irrefl x; simp only [bl] at this; simp [bl, Op.bytesLess, this]
theorem bl_trans : ∀ x y z : List UInt8, bl x y = true → bl y z = true → bl x z = true
  | _, _, [], _, h => by simp [bl, Op.bytesLess] at h
  | _, [], _ :: _, h, _ => by simp [bl, Op.bytesLess] at h
  | [], _ :: _, _ :: _, _, _ => by simp [bl, Op.bytesLess]
  | a :: x, b :: y, c :: z, h1, h2 => by
    simp only [bl, Op.bytesLess, Bool.or_eq_true, decide_eq_true_eq, Bool.and_eq_true, beq_iff_eq] at h1 h2 ⊢
    rcases h1 with h1 | ⟨rfl, h1⟩
    · rcases h2 with h2 | ⟨rfl, h2⟩
      · exact .inl (UInt8.lt_trans h1 h2)
      · exact .inl h1
    · rcases h2 with h2 | ⟨rfl, h2⟩
      · exact .inl h2
      · exact .inr ⟨rfl, bl_trans x y z h1 h2⟩
theorem bl_total : ∀ x y : List UInt8, bl x y = false → bl y x = false → x = y
  | [], [], _, _ => rfl
  | [], _ :: _, h, _ => by simp [bl, Op.bytesLess] at h
  | _ :: _, [], _, h => by simp [bl, Op.bytesLess] at h
  | a :: x, b :: y, h1, h2 => by
    simp only [bl, Op.bytesLess, Bool.or_eq_false_iff, decide_eq_false_iff_not, Bool.and_eq_false_iff, beq_eq_false_iff_ne, ne_eq] at h1 h2
    have e : a = b := by
      rcases UInt8.lt_or_lt_of_ne (a := a) (b := b) with h
      by_cases e : a = b
      · exact e
      · rcases h e with h | h
        · exact absurd h h1.1
        · exact absurd h h2.1
    subst e
    have h3 : bl x y = false := by rcases h1.2 with h | h; exact absurd rfl h; exact h
    have h4 : bl y x = false := by rcases h2.2 with h | h; exact absurd rfl h; exact h
    rw [bl_total x y h3 h4]
theorem bl_asymm (x y : List UInt8) (h : bl x y = true) : bl y x = false := by
  cases h' : bl y x with
  | false => rfl
  | true => have := bl_trans x y x h h'; rw [bl_irrefl] at this; cases this
theorem ba_ext {a b : ByteArray} (h : a.toList = b.toList) : a = b := by
  rw [ByteArray.toList_eq, ByteArray.toList_eq] at h
  cases a; cases b; congr; exact Array.toList_inj.1 h

/-- cmp.Compare on strings, on numbers; the order of entries: by key, then the newest first. -/
def cmpS (a b : ByteArray) : Int := if bl a.toList b.toList then -1 else if bl b.toList a.toList then 1 else 0
def cmpI (a b : Int) : Int := if a < b then -1 else if b < a then 1 else 0
def cmpE (a b : Ent) : Int := if cmpS a.k b.k ≠ 0 then cmpS a.k b.k else cmpI b.s a.s
/-- a stands before b. -/
def ltE (a b : Ent) : Prop := bl a.k.toList b.k.toList = true ∨ a.k = b.k ∧ b.s < a.s
/-- They are one version. -/
def sameE (a b : Ent) : Prop := a.k = b.k ∧ a.s = b.s
theorem cmpS_zero {a b : ByteArray} : cmpS a b = 0 ↔ a = b := by
  unfold cmpS
  constructor
  · intro h
    split at h
    · cases h
    · split at h
      · cases h
      · exact ba_ext (bl_total _ _ (by simpa using ‹¬ bl a.toList b.toList = true›) (by simpa using ‹¬ bl b.toList a.toList = true›))
  · rintro rfl; simp [bl_irrefl]
theorem cmpS_neg {a b : ByteArray} : cmpS a b < 0 ↔ bl a.toList b.toList = true := by
  unfold cmpS
  split
  · simp_all
  · split <;> simp_all
theorem cmpS_1 {a b : ByteArray} (h : Op.bytesLess a.toList b.toList = true) : cmpS a b = -1 := if_pos h
theorem cmpS_2 {a b : ByteArray} (h1 : Op.bytesLess a.toList b.toList = false) (h : (!(Op.bytesLess a.toList b.toList || a.toList == b.toList)) = true) : cmpS a b = 1 := by
  have hne : a.toList ≠ b.toList := fun e => by rw [h1, e] at h; simp at h
  unfold cmpS
  rw [if_neg (by rw [show bl a.toList b.toList = false from h1]; simp), if_pos]
  cases h2 : bl b.toList a.toList with
  | true => rfl
  | false => exact absurd (bl_total _ _ h1 h2) hne
theorem cmpS_3 {a b : ByteArray} (h1 : Op.bytesLess a.toList b.toList = false) (h : (!(Op.bytesLess a.toList b.toList || a.toList == b.toList)) = false) : cmpS a b = 0 := by
  rw [h1] at h
  have e : a.toList = b.toList := by simpa using h
  exact cmpS_zero.2 (ba_ext e)
theorem cmpI_zero {a b : Int} : cmpI a b = 0 ↔ a = b := by unfold cmpI; split; omega; split <;> omega
theorem cmpI_neg {a b : Int} : cmpI a b < 0 ↔ a < b := by unfold cmpI; split; omega; split <;> omega
theorem cmpE_neg {a b : Ent} : cmpE a b < 0 ↔ ltE a b := by
  unfold cmpE ltE
  by_cases h : cmpS a.k b.k = 0
  · have e := cmpS_zero.1 h
    rw [if_neg (by simp [h]), cmpI_neg]
    simp [e, bl_irrefl]
  · rw [if_pos h, cmpS_neg]
    have : a.k ≠ b.k := fun e => h (cmpS_zero.2 e)
    simp [this]
theorem cmpE_zero {a b : Ent} : cmpE a b = 0 ↔ sameE a b := by
  unfold cmpE sameE
  by_cases h : cmpS a.k b.k = 0
  · have e := cmpS_zero.1 h
    rw [if_neg (by simp [h]), cmpI_zero]
    simp only [e, true_and]
    exact eq_comm
  · rw [if_pos h]
    have : a.k ≠ b.k := fun e => h (cmpS_zero.2 e)
    simp [this, h]
theorem ltE_trans {a b c : Ent} (h1 : ltE a b) (h2 : ltE b c) : ltE a c := by
  rcases h1 with h1 | ⟨e1, h1⟩
  · rcases h2 with h2 | ⟨e2, h2⟩
    · exact .inl (bl_trans _ _ _ h1 h2)
    · exact .inl (e2 ▸ h1)
  · rcases h2 with h2 | ⟨e2, h2⟩
    · exact .inl (e1 ▸ h2)
    · exact .inr ⟨e1.trans e2, by omega⟩
theorem ltE_irrefl (a : Ent) : ¬ ltE a a := by
  rintro (h | ⟨_, h⟩)
  · rw [bl_irrefl] at h; cases h
  · omega
theorem ltE_total (a b : Ent) : ltE a b ∨ sameE a b ∨ ltE b a := by
  by_cases h : cmpE a b = 0
  · exact .inr (.inl (cmpE_zero.1 h))
  · by_cases h' : cmpE a b < 0
    · exact .inl (cmpE_neg.1 h')
    · refine .inr (.inr ?_)
      unfold ltE
      cases hx : bl a.k.toList b.k.toList with
      | true => exact absurd (cmpE_neg.2 (.inl hx)) h'
      | false =>
        cases hy : bl b.k.toList a.k.toList with
        | true => exact .inl rfl
        | false =>
          have e := ba_ext (bl_total _ _ hx hy)
          refine .inr ⟨e.symm, ?_⟩
          have h1 : ¬ b.s < a.s := fun h1 => h' (cmpE_neg.2 (.inr ⟨e, h1⟩))
          have h2 : a.s ≠ b.s := fun h2 => h (cmpE_zero.2 ⟨e, h2⟩)
          omega
instance (a b : Ent) : Decidable (ltE a b) := by unfold ltE; exact inferInstance

/-- Right: in order, none that is gone has a value. -/
def okE (e : Ent) : Prop := e.g = true → e.v = []
def Sorted (es : List Ent) : Prop := es.Pairwise ltE
def Adj (es : List Ent) : Prop := ∀ i (h : i + 1 < es.length), ltE es[i] es[i + 1]
def Rgt (es : List Ent) : Prop := (∀ e ∈ es, okE e) ∧ Sorted es
theorem sorted_of_adj : ∀ es : List Ent, Adj es → Sorted es
  | [], _ => .nil
  | [e], _ => by unfold Sorted; simp
  | a :: b :: es, h => by
    have h0 : ltE a b := h 0 (by simp)
    have ih := sorted_of_adj (b :: es) (fun i hi => by have := h (i + 1) (by simp at hi ⊢; omega); simpa using this)
    unfold Sorted at ih ⊢
    rw [List.pairwise_cons] at ih ⊢
    refine ⟨fun x hx => ?_, List.pairwise_cons.2 ih⟩
    rcases List.mem_cons.1 hx with rfl | hx
    · exact h0
    · exact ltE_trans h0 (ih.1 x hx)
theorem adj_of_sorted {es : List Ent} (h : Sorted es) : Adj es := fun i hi => List.pairwise_iff_getElem.1 h i (i + 1) (by omega) hi (by omega)
theorem sorted_iff {es : List Ent} : Sorted es ↔ Adj es := ⟨adj_of_sorted, sorted_of_adj es⟩

def newestN (up : Int) : List Ent → Nat
  | [] => 0
  | e :: es => if e.s ≤ up then 0 else newestN up es + 1
theorem newestN_at {up : Int} : ∀ (es : List Ent) (i : Nat) (h : i < es.length), (∀ j (hj : j < i), ¬ (es[j]'(by omega)).s ≤ up) → es[i].s ≤ up → newestN up es = i
  | e :: es, 0, _, _, h => by
    simp only [List.getElem_cons_zero] at h
    simp only [newestN]; rw [if_pos h]
  | e :: es, i + 1, hi, hn, h => by
    have h0 := hn 0 (by omega)
    simp only [List.getElem_cons_zero] at h0
    have := newestN_at es i (by simpa using hi) (fun j hj => by have := hn (j + 1) (by omega); simpa using this) (by simpa using h)
    simp only [newestN]; rw [if_neg h0, this]
theorem newestN_none {up : Int} : ∀ (es : List Ent), (∀ j (hj : j < es.length), ¬ es[j].s ≤ up) → newestN up es = es.length
  | [], _ => rfl
  | e :: es, hn => by
    have h0 := hn 0 (by simp)
    simp only [List.getElem_cons_zero] at h0
    have := newestN_none es (fun j hj => by have := hn (j + 1) (by simpa using hj); simpa using this)
    simp only [newestN]; rw [if_neg h0, this]; simp

def adjB : List Ent → Bool
  | a :: b :: es => decide (ltE a b) && adjB (b :: es)
  | _ => true
theorem adjB_iff : ∀ es : List Ent, adjB es = true ↔ Adj es
  | [] => by simp [adjB, Adj]
  | [a] => by simp [adjB, Adj]
  | a :: b :: es => by
    simp only [adjB, Bool.and_eq_true, decide_eq_true_eq, adjB_iff (b :: es)]
    constructor
    · rintro ⟨h1, h2⟩ i hi
      cases i with
      | zero => exact h1
      | succ i => have := h2 i (by simp at hi ⊢; omega); simpa using this
    · intro h
      exact ⟨h 0 (by simp), fun i hi => by have := h (i + 1) (by simp at hi ⊢; omega); simpa using this⟩
def okB (e : Ent) : Bool := !(e.g && decide ((0 : Int) < (e.v.length : Int)))
theorem okB_iff {e : Ent} : okB e = true ↔ okE e := by
  unfold okB okE
  cases e.g <;> simp
def rightB (es : List Ent) : Bool := es.all okB && adjB es
theorem rightB_iff {es : List Ent} : rightB es = true ↔ Rgt es := by
  unfold rightB Rgt
  rw [Bool.and_eq_true, adjB_iff, List.all_eq_true, sorted_iff]
  simp only [okB_iff]
end Go.Proofs.Ytblbddamebbgaaa.K

/- Walks: comparing, Right. -/
namespace Go.Proofs.Ytblbddamebbgaaa.K
open Go Go.RowKit
set_option linter.unusedVariables false
set_option linter.unusedSimpArgs false

theorem C81 (s : ByteArray) (w : World) : Rt Try.prog 81 [.string s] w fun r w' => r = .bool false ∧ Ext w w' := by
  have hW := hWw
  have hFF := hFw
  have hE : Ext w w := Keep.refl _ _
  refine rt_body Try.func81 rfl Try.ntmps81 rfl ?_
  refine wc_seq ?_
  refine wc_region ?_
  refine wl_val hW rfl rfl (x_assign rfl) ?_
  refine wl_nil ?_
  refine nx_then ?_
  refine wc_seq ?_
  refine wc_region ?_
  refine wl_val hW rfl rfl (x_move rfl) ?_
  refine wl_val hW rfl rfl (x_move rfl) ?_
  refine wl_val hW rfl rfl (x_sneq rfl rfl) ?_
  refine wl_val hW rfl rfl (x_assign rfl) ?_
  refine wl_nil ?_
  refine nx_then ?_
  refine wc_ret ?_
  exact ends_ret (res_tmp Try.results81 rfl) ⟨by simp, hE⟩
theorem C82 (s : Int) (w : World) : Rt Try.prog 82 [.int .u64 s] w fun r w' => r = .bool false ∧ Ext w w' := by
  have hW := hWw
  have hFF := hFw
  have hE : Ext w w := Keep.refl _ _
  refine rt_body Try.func82 rfl Try.ntmps82 rfl ?_
  refine wc_seq ?_
  refine wc_region ?_
  refine wl_val hW rfl rfl (x_assign rfl) ?_
  refine wl_nil ?_
  refine nx_then ?_
  refine wc_seq ?_
  refine wc_region ?_
  refine wl_val hW rfl rfl (x_move rfl) ?_
  refine wl_val hW rfl rfl (x_move rfl) ?_
  refine wl_val hW rfl rfl (x_neq rfl rfl) ?_
  refine wl_val hW rfl rfl (x_assign rfl) ?_
  refine wl_nil ?_
  refine nx_then ?_
  refine wc_ret ?_
  exact ends_ret (res_tmp Try.results82 rfl) ⟨by simp, hE⟩
theorem C56 (s r : ByteArray) (w : World) : Rt Try.prog 56 [.string s, .string r] w fun v w' => v = .int .i64 (cmpS s r) ∧ Ext w w' := by
  have hW := hWw
  have hFF := hFw
  have hE : Ext w w := Keep.refl _ _
  refine rt_body Try.func56 rfl Try.ntmps56 rfl ?_
  refine wc_seq ?_
  refine wc_region ?_
  refine wl_val hW rfl rfl (x_assign rfl) ?_
  refine wl_nil ?_
  refine nx_then ?_
  refine wc_seq ?_
  refine wc_region ?_
  refine wl_val hW rfl rfl (x_move rfl) ?_
  refine wl_call hW rfl rfl (x_call en81 rfl) ((C81 _ _).inF hFF) ?_
  rintro _ wC ⟨rfl, hxC⟩
  replace hE := hE.trans hxC
  refine wl_val hW rfl rfl (x_assign rfl) ?_
  refine wl_nil ?_
  refine nx_then ?_
  refine wc_seq ?_
  refine wc_region ?_
  refine wl_val hW rfl rfl (x_move rfl) ?_
  refine wl_call hW rfl rfl (x_call en81 rfl) ((C81 _ _).inF hFF) ?_
  rintro _ wC ⟨rfl, hxC⟩
  replace hE := hE.trans hxC
  refine wl_val hW rfl rfl (x_assign rfl) ?_
  refine wl_nil ?_
  refine nx_then ?_
  refine wc_seq ?_
  refine wc_seq ?_
  refine wc_region ?_
  refine wl_val hW rfl rfl (x_move rfl) ?_
  refine wl_nil ?_
  refine nx_then ?_
  refine wc_false rfl ?_
  refine wc_skip ?_
  refine nx_then ?_
  refine wc_seq ?_
  refine wc_seq ?_
  refine wc_region ?_
  refine wl_val hW rfl rfl (x_move rfl) ?_
  refine wl_nil ?_
  refine nx_then ?_
  refine wc_false rfl ?_
  refine wc_skip ?_
  refine nx_then ?_
  refine wc_seq ?_
  refine wc_seq ?_
  refine wc_region ?_
  refine wl_val hW rfl rfl (x_move rfl) ?_
  refine wl_val hW rfl rfl (x_move rfl) ?_
  refine wl_val hW rfl rfl (x_slss rfl rfl) ?_
  refine wl_nil ?_
  refine nx_then ?_
  refine wc_bool rfl (fun hc => ?_) (fun hc => ?_)
  · refine wc_seq ?_
    refine wc_region ?_
    refine wl_val hW rfl rfl (x_assign rfl) ?_
    refine wl_nil ?_
    refine nx_then ?_
    refine wc_ret ?_
    refine nx_then_ret ?_
    exact ends_ret (res_tmp Try.results56 rfl) ⟨by rw [cmpS_1 hc], hE⟩
  · refine wc_skip ?_
    refine nx_then ?_
    refine wc_seq ?_
    refine wc_seq ?_
    refine wc_region ?_
    refine wl_val hW rfl rfl (x_move rfl) ?_
    refine wl_val hW rfl rfl (x_move rfl) ?_
    refine wl_val hW rfl rfl (x_sgtr rfl rfl) ?_
    refine wl_nil ?_
    refine nx_then ?_
    refine wc_bool rfl (fun hc => ?_) (fun hc => ?_)
    · refine wc_seq ?_
      refine wc_region ?_
      refine wl_val hW rfl rfl (x_assign rfl) ?_
      refine wl_nil ?_
      refine nx_then ?_
      refine wc_ret ?_
      refine nx_then_ret ?_
      exact ends_ret (res_tmp Try.results56 rfl) ⟨by rw [cmpS_2 ‹_› hc], hE⟩
    · refine wc_skip ?_
      refine nx_then ?_
      refine wc_seq ?_
      refine wc_region ?_
      refine wl_val hW rfl rfl (x_assign rfl) ?_
      refine wl_nil ?_
      refine nx_then ?_
      refine wc_ret ?_
      exact ends_ret (res_tmp Try.results56 rfl) ⟨by rw [cmpS_3 ‹_› hc], hE⟩
theorem C57 (s r : Int) (w : World) : Rt Try.prog 57 [.int .u64 s, .int .u64 r] w fun v w' => v = .int .i64 (cmpI s r) ∧ Ext w w' := by
  have hW := hWw
  have hFF := hFw
  have hE : Ext w w := Keep.refl _ _
  refine rt_body Try.func57 rfl Try.ntmps57 rfl ?_
  refine wc_seq ?_
  refine wc_region ?_
  refine wl_val hW rfl rfl (x_assign rfl) ?_
  refine wl_nil ?_
  refine nx_then ?_
  refine wc_seq ?_
  refine wc_region ?_
  refine wl_val hW rfl rfl (x_move rfl) ?_
  refine wl_call hW rfl rfl (x_call en82 rfl) ((C82 _ _).inF hFF) ?_
  rintro _ wC ⟨rfl, hxC⟩
  replace hE := hE.trans hxC
  refine wl_val hW rfl rfl (x_assign rfl) ?_
  refine wl_nil ?_
  refine nx_then ?_
  refine wc_seq ?_
  refine wc_region ?_
  refine wl_val hW rfl rfl (x_move rfl) ?_
  refine wl_call hW rfl rfl (x_call en82 rfl) ((C82 _ _).inF hFF) ?_
  rintro _ wC ⟨rfl, hxC⟩
  replace hE := hE.trans hxC
  refine wl_val hW rfl rfl (x_assign rfl) ?_
  refine wl_nil ?_
  refine nx_then ?_
  refine wc_seq ?_
  refine wc_seq ?_
  refine wc_region ?_
  refine wl_val hW rfl rfl (x_move rfl) ?_
  refine wl_nil ?_
  refine nx_then ?_
  refine wc_false rfl ?_
  refine wc_skip ?_
  refine nx_then ?_
  refine wc_seq ?_
  refine wc_seq ?_
  refine wc_region ?_
  refine wl_val hW rfl rfl (x_move rfl) ?_
  refine wl_nil ?_
  refine nx_then ?_
  refine wc_false rfl ?_
  refine wc_skip ?_
  refine nx_then ?_
  refine wc_seq ?_
  refine wc_seq ?_
  refine wc_region ?_
  refine wl_val hW rfl rfl (x_move rfl) ?_
  refine wl_val hW rfl rfl (x_move rfl) ?_
  refine wl_val hW rfl rfl (x_lss rfl rfl) ?_
  refine wl_nil ?_
  refine nx_then ?_
  refine wc_dec rfl (fun hc => ?_) (fun hc => ?_)
  · refine wc_seq ?_
    refine wc_region ?_
    refine wl_val hW rfl rfl (x_assign rfl) ?_
    refine wl_nil ?_
    refine nx_then ?_
    refine wc_ret ?_
    refine nx_then_ret ?_
    exact ends_ret (res_tmp Try.results57 rfl) ⟨by unfold cmpI; rw [if_pos hc], hE⟩
  · refine wc_skip ?_
    refine nx_then ?_
    refine wc_seq ?_
    refine wc_seq ?_
    refine wc_region ?_
    refine wl_val hW rfl rfl (x_move rfl) ?_
    refine wl_val hW rfl rfl (x_move rfl) ?_
    refine wl_val hW rfl rfl (x_gtr rfl rfl) ?_
    refine wl_nil ?_
    refine nx_then ?_
    refine wc_dec rfl (fun hc => ?_) (fun hc => ?_)
    · refine wc_seq ?_
      refine wc_region ?_
      refine wl_val hW rfl rfl (x_assign rfl) ?_
      refine wl_nil ?_
      refine nx_then ?_
      refine wc_ret ?_
      refine nx_then_ret ?_
      exact ends_ret (res_tmp Try.results57 rfl) ⟨by unfold cmpI; rw [if_neg ‹_›, if_pos hc], hE⟩
    · refine wc_skip ?_
      refine nx_then ?_
      refine wc_seq ?_
      refine wc_region ?_
      refine wl_val hW rfl rfl (x_assign rfl) ?_
      refine wl_nil ?_
      refine nx_then ?_
      refine wc_ret ?_
      exact ends_ret (res_tmp Try.results57 rfl) ⟨by unfold cmpI; rw [if_neg ‹_›, if_neg ‹_›], hE⟩
theorem C55 (b : Nat) (c1 c2 : Int) (w : World) (hB : Blk w b [.int .i64 c1, .int .i64 c2] 3) : Rt Try.prog 55 [.slice (some ⟨b, 0, none⟩) 2 2] w fun v w' => v = .int .i64 (if c1 ≠ 0 then c1 else c2) ∧ Ext w w' := by
  have hW := hWw
  have hFF := hFw
  have hE : Ext w w := Keep.refl _ _
  refine rt_body Try.func55 rfl Try.ntmps55 rfl ?_
  refine wc_seq ?_
  refine wc_region ?_
  refine wl_val hW rfl rfl (x_assign rfl) ?_
  refine wl_nil ?_
  refine nx_then ?_
  refine wc_seq ?_
  refine wc_region ?_
  refine wl_val hW rfl rfl (x_assign rfl) ?_
  refine wl_nil ?_
  refine nx_then ?_
  refine wc_seq ?_
  refine wc_seq ?_
  refine wc_region ?_
  refine wl_val hW rfl rfl (x_move rfl) ?_
  refine wl_val hW rfl rfl (x_len Try.underlying42 rfl) ?_
  refine wl_val hW rfl rfl (x_move rfl) ?_
  refine wl_nil ?_
  refine nx_then ?_
  refine wc_block ?_
  refine wc_loop (σ := Nat) (fun s => [(3, .int .i64 0), (6, .slice (some ⟨b, 0, none⟩) 2 2), (7, .int .i64 (2 : Nat)), (8, .int .i64 s)]) (fun s w' => (s ≤ 2 ∧ (1 ≤ s → c1 = 0) ∧ (2 ≤ s → c2 = 0)) ∧ Ext w w') (fun s => 2 - s) 0 ?_ ?_ ?_
  · exact ⟨⟨by omega, fun h => by omega, fun h => by omega⟩, hE⟩
  · repeat (first | exact sub_nil | refine sub_cons rfl ?_)
  · rintro s wr ⟨hs, hE⟩
    refine wc_seq ?_
    refine wc_region ?_
    refine wl_val hW rfl rfl (x_lss rfl rfl) ?_
    refine wl_nil ?_
    refine nx_then ?_
    refine wc_seq ?_
    refine wc_dec rfl (fun hc => ?_) (fun hc => ?_)
    · have hs2 : s < 2 := by omega
      have hC : wr.cell? ⟨b, 0 + s * 1, none⟩ = some (.int .i64 (if s = 0 then c1 else c2)) := by
        have := hB.ext hE
        rcases (show s = 0 ∨ s = 1 by omega) with rfl | rfl
        · exact this.cell (o := 0) rfl
        · exact this.cell (o := 1) rfl
      refine wc_skip ?_
      refine nx_then ?_
      refine wc_seq ?_
      refine wc_block ?_
      refine wc_seq ?_
      refine wc_region ?_
      refine wl_val hW rfl rfl (x_indexAddr Try.underlying42 fl3.siz rfl rfl (by omega) (by omega)) ?_
      refine wl_val hW rfl rfl (x_load fl3 rfl hC) ?_
      refine wl_val hW rfl rfl (x_assign rfl) ?_
      refine wl_nil ?_
      refine nx_then ?_
      refine wc_seq ?_
      refine wc_region ?_
      refine wl_val hW rfl rfl (x_move rfl) ?_
      refine wl_val hW rfl rfl (x_move rfl) ?_
      refine wl_val hW rfl rfl (x_neq rfl rfl) ?_
      refine wl_nil ?_
      refine nx_then ?_
      refine wc_dec rfl (fun hc => ?_) (fun hc => ?_)
      · refine wc_seq ?_
        refine wc_region ?_
        refine wl_val hW rfl rfl (x_move rfl) ?_
        refine wl_val hW rfl rfl (x_assign rfl) ?_
        refine wl_nil ?_
        refine nx_then ?_
        refine wc_ret ?_
        refine nx_block_ret ?_
        refine nx_then_ret ?_
        refine nx_then_ret ?_
        refine nx_block_ret ?_
        refine nx_then_ret ?_
        exact ends_ret (res_tmp Try.results55 rfl) ⟨by rcases (show s = 0 ∨ s = 1 by omega) with rfl | rfl; (simp at hc ⊢; simp [hc]); (have h1 := hs.2.1 (by omega); simp [h1]), hE⟩
      · refine wc_skip ?_
        refine nx_block ?_
        refine nx_then ?_
        refine wc_region ?_
        refine wl_val hW rfl rfl (x_inc rfl (by omega)) ?_
        refine wl_val hW rfl rfl (x_move rfl) ?_
        refine wl_nil ?_
        have hz : (if s = 0 then c1 else c2) = 0 := Decidable.not_not.1 hc
        have h74 : (1 ≤ s + 1 → c1 = 0) ∧ (2 ≤ s + 1 → c2 = 0) := by
          rcases (show s = 0 ∨ s = 1 by omega) with rfl | rfl
          · exact ⟨fun _ => by simpa using hz, fun h => by omega⟩
          · exact ⟨fun _ => hs.2.1 (by omega), fun _ => by simpa using hz⟩
        exact nx_next (s + 1) (by omega) ⟨⟨by omega, h74⟩, hE⟩ (by repeat (first | exact sub_nil | refine sub_cons rfl ?_))
    · refine wc_exit ?_
      refine nx_then_exit ?_
      refine nx_then_exit ?_
      refine nx_block_exit ?_
      refine nx_then ?_
      refine wc_seq ?_
      refine wc_region ?_
      refine wl_val hW rfl rfl (x_move rfl) ?_
      refine wl_val hW rfl rfl (x_assign rfl) ?_
      refine wl_nil ?_
      refine nx_then ?_
      refine wc_ret ?_
      exact ends_ret (res_tmp Try.results55 rfl) ⟨by have h1 := hs.2.1 (by omega); have h2 := hs.2.2 (by omega); simp [h1, h2], hE⟩
theorem C18 (e1 e2 : Ent) (v1 v2 : Value) (w : World) : Rt Try.prog 18 [.agg (cellsOf e1 v1).toArray, .agg (cellsOf e2 v2).toArray] w fun v w' => v = .int .i64 (cmpE e1 e2) ∧ Ext w w' := by
  have hW := hWw
  have hFF := hFw
  have hE : Ext w w := Keep.refl _ _
  refine rt_body Try.func18 rfl Try.ntmps18 rfl ?_
  refine wc_seq ?_
  refine wc_region ?_
  refine wl_box hW rfl rfl rfl rfl ?_
  intro b2 w2 hl2 hB2 hx2
  have g2 : w.heap.size ≤ b2 := Nat.le_trans hE.size hl2
  replace hE := hE.trans hx2
  refine wl_box hW rfl rfl rfl rfl ?_
  intro b3 w3 hl3 hB3 hx3
  have g3 : w.heap.size ≤ b3 := Nat.le_trans hE.size hl3
  have n3_2 : b3 ≠ b2 := Nat.ne_of_gt (Nat.lt_of_lt_of_le hB2.lt hl3)
  replace hB2 := hB2.ext hx3
  replace hE := hE.trans hx3
  refine wl_val hW rfl rfl (x_assign rfl) ?_
  refine wl_nil ?_
  refine nx_then ?_
  refine wc_seq ?_
  refine wc_draw' 10 hW mixed (by kernel_rfl) (fun w0 hx0 => ?_)
  replace hB2 := hB2.ext hx0
  replace hB3 := hB3.ext hx0
  replace hE := hE.trans hx0
  refine q_val rfl rfl (fun _ hx => x_fieldAddr Try.underlying25 rfl fl9.siz rfl) ?_
  refine q_val rfl rfl (fun _ hx => x_load fl9 rfl (hx.cell (hB2.cell (o := 0) rfl))) ?_
  refine q_val rfl rfl (fun _ hx => x_fieldAddr Try.underlying25 rfl fl9.siz rfl) ?_
  refine q_val rfl rfl (fun _ hx => x_load fl9 rfl (hx.cell (hB3.cell (o := 0) rfl))) ?_
  refine q_call rfl rfl (fun _ => x_call en56 rfl) (fun w' hx => (C56 _ _ _).inF hFF) ?_
  refine q_val rfl rfl (fun _ hx => x_fieldAddr Try.underlying25 rfl fl22.siz rfl) ?_
  refine q_val rfl rfl (fun _ hx => x_load fl22 rfl (hx.cell (hB3.cell (o := 1) rfl))) ?_
  refine q_val rfl rfl (fun _ hx => x_fieldAddr Try.underlying25 rfl fl22.siz rfl) ?_
  refine q_val rfl rfl (fun _ hx => x_load fl22 rfl (hx.cell (hB2.cell (o := 1) rfl))) ?_
  refine q_call rfl rfl (fun _ => x_call en57 rfl) (fun w' hx => (C57 _ _ _).inF hFF) ?_
  refine q_nil (tail0 (fun wt hxt => ?_))
  replace hB2 := hB2.ext hxt
  replace hB3 := hB3.ext hxt
  replace hE := hE.trans hxt
  refine wl_buildSlice (parts := [(0, .tmp 9), (1, .tmp 14)]) hW rfl rfl Try.underlying42 fl3.siz Try.zeroValue3 rfl rfl rfl (by omega) ?_
  intro b15 w15 hl15 hB15 hx15
  have g15 : w.heap.size ≤ b15 := Nat.le_trans hE.size hl15
  have n15_2 : b15 ≠ b2 := Nat.ne_of_gt (Nat.lt_of_lt_of_le hB2.lt hl15)
  replace hB2 := hB2.ext hx15
  have n15_3 : b15 ≠ b3 := Nat.ne_of_gt (Nat.lt_of_lt_of_le hB3.lt hl15)
  replace hB3 := hB3.ext hx15
  replace hE := hE.trans hx15
  refine wl_call hW rfl rfl (x_call en55 rfl) ((C55 _ _ _ _ hB15).inF hFF) ?_
  rintro _ wC ⟨rfl, hxC⟩
  replace hB2 := hB2.ext hxC
  replace hB3 := hB3.ext hxC
  replace hB15 := hB15.ext hxC
  replace hE := hE.trans hxC
  refine wl_val hW rfl rfl (x_assign rfl) ?_
  refine wl_nil ?_
  refine nx_then ?_
  refine wc_ret ?_
  exact ends_ret (res_tmp Try.results18 rfl) ⟨rfl, hE⟩
theorem C59 (e1 e2 : Ent) (v1 v2 : Value) (w : World) : Rt Try.prog 59 [.agg (cellsOf e1 v1).toArray, .agg (cellsOf e2 v2).toArray] w fun v w' => v = .bool (decide (ltE e1 e2)) ∧ Ext w w' := by
  have hW := hWw
  have hFF := hFw
  have hE : Ext w w := Keep.refl _ _
  refine rt_body Try.func59 rfl Try.ntmps59 rfl ?_
  refine wc_seq ?_
  refine wc_region ?_
  refine wl_box hW rfl rfl rfl rfl ?_
  intro b2 w2 hl2 hB2 hx2
  have g2 : w.heap.size ≤ b2 := Nat.le_trans hE.size hl2
  replace hE := hE.trans hx2
  refine wl_box hW rfl rfl rfl rfl ?_
  intro b3 w3 hl3 hB3 hx3
  have g3 : w.heap.size ≤ b3 := Nat.le_trans hE.size hl3
  have n3_2 : b3 ≠ b2 := Nat.ne_of_gt (Nat.lt_of_lt_of_le hB2.lt hl3)
  replace hB2 := hB2.ext hx3
  replace hE := hE.trans hx3
  refine wl_val hW rfl rfl (x_assign rfl) ?_
  refine wl_nil ?_
  refine nx_then ?_
  refine wc_seq ?_
  refine wc_region ?_
  refine wl_val hW rfl rfl (x_loadA ag25 rfl hB2.cells rfl) ?_
  refine wl_val hW rfl rfl (x_loadA ag25 rfl hB3.cells rfl) ?_
  refine wl_call hW rfl rfl (x_call en18 rfl) ((C18 _ _ _ _ _).inF hFF) ?_
  rintro _ wC ⟨rfl, hxC⟩
  replace hB2 := hB2.ext hxC
  replace hB3 := hB3.ext hxC
  replace hE := hE.trans hxC
  refine wl_val hW rfl rfl (x_lss rfl rfl) ?_
  refine wl_val hW rfl rfl (x_assign rfl) ?_
  refine wl_nil ?_
  refine nx_then ?_
  refine wc_ret ?_
  exact ends_ret (res_tmp Try.results59 rfl) ⟨by rw [decide_eq_decide.2 cmpE_neg], hE⟩
theorem C58 {A : Nat → Prop} {w : World} {v : Value} {es : List Ent} (hR : Row A w v es) : Rt Try.prog 58 [v, .func (.func 59) #[] #[]] w fun r w' => r = .bool (adjB es) ∧ Ext w w' := by
  obtain ⟨ad, cap, rfl, hcap, hlen⟩ := hR.form
  have hW := hWw
  have hFF := hFw
  have hE : Ext w w := Keep.refl _ _
  refine rt_body Try.func58 rfl Try.ntmps58 rfl ?_
  refine wc_seq ?_
  refine wc_region ?_
  refine wl_val hW rfl rfl (x_assign rfl) ?_
  refine wl_nil ?_
  refine nx_then ?_
  refine wc_seq ?_
  refine wc_seq ?_
  refine wc_region ?_
  refine wl_val hW rfl rfl (x_assign rfl) ?_
  refine wl_nil ?_
  refine nx_then ?_
  refine wc_block ?_
  refine wc_loop (σ := Nat) (fun s => [(0, .slice ad es.length cap), (1, .func (.func 59) #[] #[]), (5, .int .i64 ((s + 1 : Nat) : Int))]) (fun s w' => ((∀ i, i < s → ∀ h : i + 1 < es.length, ltE es[i] es[i + 1]) ∧ (s = 0 ∨ s + 1 ≤ es.length)) ∧ Ext w w') (fun s => es.length - s) 0 ?_ ?_ ?_
  · exact ⟨⟨fun i h => absurd h (Nat.not_lt_zero _), .inl rfl⟩, hE⟩
  · repeat (first | exact sub_nil | refine sub_cons rfl ?_)
  · rintro s wr ⟨hs, hE⟩
    refine wc_seq ?_
    refine wc_seq ?_
    refine wc_region ?_
    refine wl_val hW rfl rfl (x_move rfl) ?_
    refine wl_val hW rfl rfl (x_move rfl) ?_
    refine wl_val hW rfl rfl (x_len Try.underlying26 rfl) ?_
    refine wl_val hW rfl rfl (x_lss rfl rfl) ?_
    refine wl_nil ?_
    refine nx_then ?_
    refine wc_dec rfl (fun hc => ?_) (fun hc => ?_)
    · have hlt : s + 1 < es.length := by omega
      obtain ⟨b, o, cap', v1, e1, hA, hC16, hb1, hok1⟩ := (hR.ext hE).at s (by omega)
      cases e1
      obtain ⟨b', o', cap', v2, e2, hA', hC20, hb2, hok2⟩ := (hR.ext hE).at (s + 1) hlt
      cases e2
      refine wc_skip ?_
      refine nx_then ?_
      refine wc_seq ?_
      refine wc_block ?_
      refine wc_seq ?_
      refine wc_draw' 12 hW mixed (by kernel_rfl) (fun w0 hx0 => ?_)
      replace hE := hE.trans hx0
      replace hC16 := hC16.ext hx0
      replace hC20 := hC20.ext hx0
      refine q_val rfl rfl (fun _ hx => x_move rfl) ?_
      refine q_val rfl rfl (fun _ hx => x_move rfl) ?_
      refine q_val rfl rfl (fun _ hx => x_move rfl) ?_
      refine q_val rfl rfl (fun _ hx => x_decr rfl (by omega)) ?_
      refine q_val rfl rfl (fun _ hx => x_indexAddr Try.underlying26 ag25.siz rfl rfl (by omega) (by omega)) ?_
      refine q_val rfl rfl (fun _ hx => x_loadA ag25 rfl (hC16.ext hx) rfl) ?_
      refine q_val rfl rfl (fun _ hx => x_move rfl) ?_
      refine q_val rfl rfl (fun _ hx => x_move rfl) ?_
      refine q_val rfl rfl (fun _ hx => x_indexAddr Try.underlying26 ag25.siz rfl rfl (by omega) (by omega)) ?_
      refine q_val rfl rfl (fun _ hx => x_loadA ag25 rfl (hC20.ext hx) rfl) ?_
      refine q_call rfl rfl (fun _ => x_callv (cap := []) en59 rfl rfl) (fun w' hx => (C59 _ _ _ _ _).inF hFF) ?_
      refine q_val rfl rfl (fun _ hx => x_not rfl) ?_
      refine q_nil (tail0 (fun wt hxt => ?_))
      replace hE := hE.trans hxt
      refine wl_nil ?_
      refine nx_then ?_
      refine wc_bool rfl (fun hc => ?_) (fun hc => ?_)
      · refine wc_seq ?_
        refine wc_region ?_
        refine wl_val hW rfl rfl (x_assign rfl) ?_
        refine wl_nil ?_
        refine nx_then ?_
        refine wc_ret ?_
        refine nx_block_ret ?_
        refine nx_then_ret ?_
        refine nx_then_ret ?_
        refine nx_block_ret ?_
        refine nx_then_ret ?_
        have hfin : adjB es = false := by rw [Bool.eq_false_iff]; intro h; have h1 := (adjB_iff es).1 h s hlt; simp [h1] at hc
        exact ends_ret (res_tmp Try.results58 rfl) ⟨by rw [hfin], hE⟩
      · refine wc_skip ?_
        refine nx_block ?_
        refine nx_then ?_
        refine wc_region ?_
        refine wl_val hW rfl rfl (x_move rfl) ?_
        refine wl_val hW rfl rfl (x_inc rfl (by omega)) ?_
        refine wl_val hW rfl rfl (x_assign rfl) ?_
        refine wl_nil ?_
        exact nx_next (s + 1) (by omega) ⟨⟨fun i hi h => by rcases Nat.lt_succ_iff_lt_or_eq.1 hi with h1 | rfl; exact hs.1 i h1 h; simpa using hc, .inr (by omega)⟩, hE⟩ (by repeat (first | exact sub_nil | refine sub_cons rfl ?_))
    · refine wc_exit ?_
      refine nx_then_exit ?_
      refine nx_then_exit ?_
      refine nx_block_exit ?_
      refine nx_then ?_
      refine wc_seq ?_
      refine wc_region ?_
      refine wl_val hW rfl rfl (x_assign rfl) ?_
      refine wl_nil ?_
      refine nx_then ?_
      refine wc_ret ?_
      have hfin : adjB es = true := (adjB_iff es).2 (fun i hi => hs.1 i (by omega) hi)
      exact ends_ret (res_tmp Try.results58 rfl) ⟨by rw [hfin], hE⟩
theorem C20 {A : Nat → Prop} {w : World} {v : Value} {es : List Ent} (hR : Row A w v es) : Rt Try.prog 20 [v] w fun r w' => r = .bool (rightB es) ∧ Ext w w' := by
  obtain ⟨ad, cap, rfl, hcap, hlen⟩ := hR.form
  have hW := hWw
  have hFF := hFw
  have hE : Ext w w := Keep.refl _ _
  refine rt_body Try.func20 rfl Try.ntmps20 rfl ?_
  refine wc_seq ?_
  refine wc_region ?_
  refine wl_val hW rfl rfl (x_assign rfl) ?_
  refine wl_nil ?_
  refine nx_then ?_
  refine wc_seq ?_
  refine wc_seq ?_
  refine wc_region ?_
  refine wl_val hW rfl rfl (x_move rfl) ?_
  refine wl_val hW rfl rfl (x_len Try.underlying26 rfl) ?_
  refine wl_val hW rfl rfl (x_move rfl) ?_
  refine wl_nil ?_
  refine nx_then ?_
  refine wc_block ?_
  refine wc_loop (σ := Nat) (fun s => [(0, .slice ad es.length cap), (5, .slice ad es.length cap), (6, .int .i64 es.length), (7, .int .i64 s)]) (fun s w' => (s ≤ es.length ∧ ∀ i (h : i < es.length), i < s → okB es[i] = true) ∧ Ext w w') (fun s => es.length - s) 0 ?_ ?_ ?_
  · exact ⟨⟨Nat.zero_le _, fun i _ h => absurd h (Nat.not_lt_zero _)⟩, hE⟩
  · repeat (first | exact sub_nil | refine sub_cons rfl ?_)
  · rintro s wr ⟨hs, hE⟩
    refine wc_seq ?_
    refine wc_region ?_
    refine wl_val hW rfl rfl (x_lss rfl rfl) ?_
    refine wl_nil ?_
    refine nx_then ?_
    refine wc_seq ?_
    refine wc_dec rfl (fun hc => ?_) (fun hc => ?_)
    · have hlt : s < es.length := by omega
      obtain ⟨b, o, cap', bv, e1, hA, hC9, hb1, hok1⟩ := (hR.ext hE).at s hlt
      cases e1
      obtain ⟨av, cv, hbv, hcv⟩ := hb1.form
      subst hbv
      refine wc_skip ?_
      refine nx_then ?_
      refine wc_seq ?_
      refine wc_block ?_
      refine wc_seq ?_
      refine wc_region ?_
      refine wl_val hW rfl rfl (x_indexAddr Try.underlying26 ag25.siz rfl rfl (by omega) (by omega)) ?_
      refine wl_val hW rfl rfl (x_loadA ag25 rfl hC9 rfl) ?_
      refine wl_alloc (cs := [.string ⟨#[]⟩, .int .u64 0, .bool false, .slice none 0 0]) hW rfl rfl Try.zeroValue25 rfl ?_
      intro b4 w4 hl4 hB4 hx4
      have g4 : w.heap.size ≤ b4 := Nat.le_trans hE.size hl4
      replace hE := hE.trans hx4
      refine wl_storeA hW rfl ag25 rfl rfl rfl rfl hB4 rfl ?_
      intro wS hBS hkS
      replace hB4 := hBS
      clear hBS
      replace hE := hE.store hkS g4
      refine wl_nil ?_
      refine nx_then ?_
      refine wc_seq ?_
      refine wc_cut [(0, .slice (some ⟨b, o, none⟩) es.length cap), (5, .slice (some ⟨b, o, none⟩) es.length cap), (6, .int .i64 es.length), (7, .int .i64 s), (18, .bool (!okB es[s]))] (fun w' => w' = wS) ?_ ?_
      · refine wc_region ?_
        refine wl_val hW rfl rfl (x_fieldAddr Try.underlying25 rfl fl4.siz rfl) ?_
        refine wl_val hW rfl rfl (x_load fl4 rfl (hB4.cell (o := 2) rfl)) ?_
        refine wl_val hW rfl rfl (x_move rfl) ?_
        refine wl_bcases (d := 13) rfl (fun hg13 => ?_) (fun hg13 => ?_)
        · refine wl_val hW rfl rfl (x_fieldAddr Try.underlying25 rfl fl23.siz rfl) ?_
          refine wl_val hW rfl rfl (x_load fl23 rfl (hB4.cell (o := 3) rfl)) ?_
          refine wl_val hW rfl rfl (x_len Try.underlying23 rfl) ?_
          refine wl_val hW rfl rfl (x_gtr rfl rfl) ?_
          refine wl_val hW rfl rfl (x_pickT rfl rfl) ?_
          refine wl_nil ?_
          have e18 : (!okB es[s]) = decide ((0 : Int) < ((es[s].v.length : Nat) : Int)) := by unfold okB; rw [hg13]; simp
          rw [e18]
          exact nx_cut (by repeat (first | exact sub_nil | refine sub_cons rfl ?_)) rfl
        · refine wl_off hW rfl rfl ?_
          refine wl_off hW rfl rfl ?_
          refine wl_off hW rfl rfl ?_
          refine wl_off hW rfl rfl ?_
          refine wl_val hW rfl rfl (x_pickF rfl rfl) ?_
          refine wl_nil ?_
          have e18 : (!okB es[s]) = false := by unfold okB; rw [hg13]; simp
          rw [e18]
          exact nx_cut (by repeat (first | exact sub_nil | refine sub_cons rfl ?_)) rfl
      · rintro w' rfl
        refine nx_then ?_
        refine wc_bool rfl (fun hc => ?_) (fun hc => ?_)
        · refine wc_seq ?_
          refine wc_region ?_
          refine wl_val hW rfl rfl (x_assign rfl) ?_
          refine wl_nil ?_
          refine nx_then ?_
          refine wc_ret ?_
          refine nx_block_ret ?_
          refine nx_then_ret ?_
          refine nx_then_ret ?_
          refine nx_block_ret ?_
          refine nx_then_ret ?_
          have hfal : rightB es = false := by
            have h1 : okB es[s] = false := by simpa using hc
            unfold rightB
            rw [Bool.and_eq_false_iff]
            exact .inl (List.all_eq_false.2 ⟨es[s], List.getElem_mem hlt, by simp [h1]⟩)
          exact ends_ret (res_tmp Try.results20 rfl) ⟨by rw [hfal], hE⟩
        · refine wc_skip ?_
          refine nx_block ?_
          refine nx_then ?_
          refine wc_region ?_
          refine wl_val hW rfl rfl (x_inc rfl (by omega)) ?_
          refine wl_val hW rfl rfl (x_move rfl) ?_
          refine wl_nil ?_
          exact nx_next (s + 1) (by omega) ⟨⟨hlt, fun i hi h => by rcases Nat.lt_succ_iff_lt_or_eq.1 h with h | rfl; exact hs.2 i hi h; simpa using hc⟩, hE⟩ (by repeat (first | exact sub_nil | refine sub_cons rfl ?_))
    · refine wc_exit ?_
      refine nx_then_exit ?_
      refine nx_then_exit ?_
      refine nx_block_exit ?_
      refine nx_then ?_
      refine wc_seq ?_
      refine wc_region ?_
      refine wl_val hW rfl rfl (x_move rfl) ?_
      refine wl_call hW rfl rfl (x_call en58 rfl) ((C58 (hR.ext hE)).inF hFF) ?_
      rintro _ wC ⟨rfl, hxC⟩
      replace hE := hE.trans hxC
      refine wl_val hW rfl rfl (x_assign rfl) ?_
      refine wl_nil ?_
      refine nx_then ?_
      refine wc_ret ?_
      exact ends_ret (res_tmp Try.results20 rfl) ⟨by unfold rightB; rw [List.all_eq_true.2 (fun e he => by obtain ⟨i, hi, rfl⟩ := List.getElem_of_mem he; exact hs.2 i hi (by omega))]; simp, hE⟩
end Go.Proofs.Ytblbddamebbgaaa.K


/- More steps: slice expressions, bytes copied; groups of equal keys. -/
namespace Go.Proofs.Ytblbddamebbgaaa.K
open Go Go.RowKit
set_option linter.unusedVariables false
set_option linter.unusedSectionVars false
set_option linter.unusedSimpArgs false

theorem rt_bodyn {P : Program} {m n : Nat} {w : World} {f : FuncId} {fn : Func} {c : Code} {args : List Value} {R : Value → World → Prop} (hf : P.funcs[f]? = some fn) (hb : fn.body = some c) (hm : fn.ntmps = m) (hl : Nat.ble args.length m = true)
    (k : WC Fence.wide n P (bodyPostM Fence.wide n P fn (ok1 R)) m [] c (env0 0 args) w) : CallsIn Fence.wide n P f args.toArray w (ok1 R) :=
  callsIn_of_wp_marks hf hb trivial (k _ (fr_enter hm hl)) rfl
theorem Ext.grown {w w' : World} (h : Ext w w') : w.grownBy w' none := ⟨h.os, h.tape, h.output, h.size, fun k hk _ => h.block k hk trivial⟩

section
variable {P : Program} {m : Nat} {D : List Deferred} {L : Env} {w w' : World} {ty t e : TypeId} {x lo hi mx : Operand} {k : Nat} {A : Option Addr} {n c i j : Nat}
theorem sb3 (h1 : i ≤ j) (h2 : j ≤ c) : (Instr.sliceBounds true n c (some (.int .i64 i)) (some (.int .i64 j)) (some (.int .i64 j))).run P w = .ok (i, j, j) w := by
  simp [Instr.sliceBounds, Instr.sliceBound, asIntOf, h1, h2]
theorem sb2 (h1 : i ≤ j) (h2 : j ≤ c) : (Instr.sliceBounds true n c (some (.int .i64 i)) (some (.int .i64 j)) none).run P w = .ok (i, j, c) w := by
  simp [Instr.sliceBounds, Instr.sliceBound, asIntOf, h1, h2]
theorem sbh (h2 : j ≤ c) : (Instr.sliceBounds true n c none (some (.int .i64 j)) none).run P w = .ok (0, j, c) w := by
  simp [Instr.sliceBounds, Instr.sliceBound, asIntOf, h2]
theorem sbl (h1 : i ≤ n) : (Instr.sliceBounds true n c (some (.int .i64 i)) none none).run P w = .ok (i, n, c) w := by
  simp [Instr.sliceBounds, Instr.sliceBound, asIntOf, h1]
theorem x_slice3 (hu : P.underlying t = some (.slice e)) (hs : Siz P e k) (hx : ev L x = some (.slice A n c)) (hl : ev L lo = some (.int .i64 i)) (hh : ev L hi = some (.int .i64 j)) (hm : ev L mx = some (.int .i64 j)) (h1 : i ≤ j) (h2 : j ≤ c) :
    Xv P m D L (.slice t x (some lo) (some hi) (some mx)) ty w (.slice (if j = i then A else A.map (·.add (i * k))) (j - i) (j - i)) w :=
  x_slice (q1 := .i64) (q2 := .i64) (q3 := .i64) hu hs hx (fun a h => by simp [h.ev hl]) (fun a h => by simp [h.ev hh]) (fun a h => by simp [h.ev hm]) (sb3 h1 h2)
theorem x_slice2 (hu : P.underlying t = some (.slice e)) (hs : Siz P e k) (hx : ev L x = some (.slice A n c)) (hl : ev L lo = some (.int .i64 i)) (hh : ev L hi = some (.int .i64 j)) (h1 : i ≤ j) (h2 : j ≤ c) :
    Xv P m D L (.slice t x (some lo) (some hi) none) ty w (.slice (if c = i then A else A.map (·.add (i * k))) (j - i) (c - i)) w :=
  x_slice (q1 := .i64) (q2 := .i64) (q3 := .i64) hu hs hx (fun a h => by simp [h.ev hl]) (fun a h => by simp [h.ev hh]) (fun a h => rfl) (sb2 h1 h2)
theorem x_sliceh (hu : P.underlying t = some (.slice e)) (hs : Siz P e k) (hx : ev L x = some (.slice A n c)) (hh : ev L hi = some (.int .i64 j)) (h2 : j ≤ c) :
    Xv P m D L (.slice t x none (some hi) none) ty w (.slice (if c = 0 then A else A.map (·.add (0 * k))) (j - 0) (c - 0)) w :=
  x_slice (q1 := .i64) (q2 := .i64) (q3 := .i64) hu hs hx (fun a h => rfl) (fun a h => by simp [h.ev hh]) (fun a h => rfl) (sbh h2)
theorem x_slicel (hu : P.underlying t = some (.slice e)) (hs : Siz P e k) (hx : ev L x = some (.slice A n c)) (hl : ev L lo = some (.int .i64 i)) (h1 : i ≤ n) :
    Xv P m D L (.slice t x (some lo) none none) ty w (.slice (if c = i then A else A.map (·.add (i * k))) (n - i) (c - i)) w :=
  x_slice (q1 := .i64) (q2 := .i64) (q3 := .i64) hu hs hx (fun a h => by simp [h.ev hl]) (fun a h => rfl) (fun a h => rfl) (sbl h1)
end

/-! ### bytes copied -/
def byteCells (l : List UInt8) : List Value := l.map fun u => .int .u8 u.toNat
theorem run_cloneB {w : World} {b5 : Nat} {y : Value} {l : List UInt8} {A : Nat → Prop} {ty : TypeId} (hB : Blk w b5 [] 5) (hy : Byts A w y l) (hl : l.length ≤ 70368744177664) :
    ∃ v' w', (Builtin.append_ #[23, 23] ty #[.slice (some ⟨b5, 0, none⟩) 0 0, y]).run Try.prog w = .ok v' w' ∧ Byts (fun k => k = b5 ∨ w.heap.size ≤ k) w' v' l ∧ Keep (· ≠ b5) w w' := by
  obtain ⟨i0, hi, hz0, hz1, hz2⟩ := info_parts info5
  obtain ⟨ad, cap, rfl, hcap, hcell⟩ := hy
  have hown : w.ownsRow b5 5 1 (.slice (some ⟨b5, 0, none⟩) 0 0) 0 [] := ⟨rfl, .inr ⟨b5, 0, #[], rfl, Nat.le_refl _, hB, Nat.le_refl _, Nat.zero_le _, rfl, rfl⟩⟩
  cases ad with
  | none =>
    have hl0 : l = [] := by
      cases l with
      | nil => rfl
      | cons u l => obtain ⟨b, o, h, -⟩ := hcell (by simp); cases h
    subst hl0
    refine ⟨.slice (some ⟨b5, 0, none⟩) 0 0, w, ?_, ⟨_, 0, rfl, Nat.le_refl _, fun h => absurd rfl h⟩, Keep.refl _ _⟩
    simp [Builtin.append_, run_underlying Try.underlying23, sizeOf, typeInfo, hi, Builtin.lenOf, Builtin.firstCells, storeCells]
  | some a0 =>
    have hnews : ∀ j u, (byteCells l)[j]? = some u → w.cell? (a0.add j) = some u := fun j u hj => by
      simp only [byteCells, List.getElem?_map] at hj
      cases hlj : l[j]? with
      | none => rw [hlj] at hj; cases hj
      | some x =>
        rw [hlj] at hj
        simp only [Option.map_some, Option.some.injEq] at hj
        obtain ⟨b, o, h, -, hc⟩ := hcell (by intro e; rw [e] at hlj; simp at hlj)
        cases h
        rw [add_mk, hc j x hlj, hj]
    obtain ⟨v', w', hr, ho, hg, -, hat⟩ := run_append_own_at (P := Try.prog) w b5 23 ty 5 i0 _ 1 1 Try.underlying23 hi hz0 hz1 hz2 rfl (by decide) _ 0 [] hown a0 l.length cap (byteCells l) (by simp [byteCells]) hnews
      (fun u hu => by simp only [byteCells, List.mem_map] at hu; obtain ⟨x, -, rfl⟩ := hu; rfl) (by unfold maxLen; omega) (by omega) (Nat.le_of_lt hB.lt)
    rw [Nat.zero_add, List.nil_append] at ho
    have hk : Keep (· ≠ b5) w w' := (Keep.grown hg).mono fun k _ h => by intro e; cases e; exact h rfl
    refine ⟨v', w', hr, ?_, hk⟩
    have h5 := fun g => ho.cells (g := g)
    rcases ho.2 with ⟨rfl, h⟩ | ⟨g, cp, cur, rfl, hb, hgc, hc, -⟩
    · have : l = [] := List.eq_nil_of_length_eq_zero h
      subst this
      exact byts_nil _ _
    · refine ⟨_, cp, rfl, hc, fun _ => ⟨g, 0, rfl, ?_, fun i u hi => ?_⟩⟩
      · rcases hat with h | h
        · cases h; exact .inl rfl
        · cases h; exact .inr (Nat.le_refl _)
      · have := h5 g rfl i (.int .u8 u.toNat) (by simp [byteCells, hi])
        rw [add_mk] at this
        exact this
section
variable {F : Fence} {n : Nat} {Q : Exit → Act → World → Prop} {m : Nat} {D : List Deferred} {L : Env} {w w' : World} {ops rest : List Oper} {d : Nat} {ty : TypeId} {pos : String} {af : Array Edge} {g : Option (Nat × Bool)} {x y : Operand}
theorem wl_cloneB {b5 : Nat} {v : Value} {l : List UInt8} {A : Nat → Prop} (hW : Wd F) (hg : wants L ops g = some true) (hd : Nat.blt d m = true) (hx : ev L x = some (.slice (some ⟨b5, 0, none⟩) 0 0)) (hy : ev L y = some v)
    (hB : Blk w b5 [] 5) (hv : Byts A w v l) (hl : l.length ≤ 70368744177664) (k : ∀ v' w', Byts (fun k => k = b5 ∨ w.heap.size ≤ k) w' v' l → Keep (· ≠ b5) w w' → WL F n Try.prog Q m D ops rest ((d, v') :: L) w') :
    WL F n Try.prog Q m D ops (⟨some d, .call ⟨.builtin .append, #[x, y], #[23, 23]⟩, ty, pos, af, g⟩ :: rest) L w := by
  obtain ⟨v', w', hr, ho, hk⟩ := run_cloneB (ty := ty) hB hv hl
  refine wl_val hW hg hd ⟨nofun, fun _ _ _ _ a h => ?_⟩ (k v' w' ho hk)
  simp [execOp, resolve, h.ev hx, h.ev hy, invoke, builtin, hr]
end

/-! ### groups of equal keys: where each begins, and its entries -/
def grps : Nat → Nat → List Ent → List (Nat × List Ent)
  | 0, _, _ => []
  | _ + 1, _, [] => []
  | f + 1, o, e :: es => (o, e :: es.takeWhile fun x => decide (x.k = e.k)) :: grps f (o + 1 + (es.takeWhile fun x => decide (x.k = e.k)).length) (es.dropWhile fun x => decide (x.k = e.k))
theorem take_drop_while {p : Ent → Bool} : ∀ (es : List Ent) (n : Nat) (hn : n ≤ es.length), (∀ j (h : j < es.length), j < n → p es[j] = true) → (∀ h : n < es.length, p es[n] = false) → es.takeWhile p = es.take n ∧ es.dropWhile p = es.drop n
  | [], n, hn, _, _ => by simp
  | e :: es, 0, _, _, h => by have := h (by simp); simp at this; simp [this]
  | e :: es, n + 1, hn, h1, h2 => by
    have h0 := h1 0 (by simp) (by omega)
    simp only [List.getElem_cons_zero] at h0
    obtain ⟨i1, i2⟩ := take_drop_while es n (by simpa using hn) (fun j h hj => by have := h1 (j + 1) (by simpa using h) (by omega); simpa using this) (fun h => by have := h2 (by simpa using h); simpa using this)
    simp [h0, i1, i2]
/-- The slice that holds a group of what lies from ad on. -/
def gval (ad : Option Addr) (x : Nat × List Ent) : Value := .slice (ad.map (·.add (x.1 * 4))) x.2.length x.2.length
theorem gval_row {A : Nat → Prop} {w : World} {ad : Option Addr} {cap : Nat} {es g pre suf : List Ent} (h : Row A w (.slice ad es.length cap) es) (he : es = pre ++ g ++ suf) : Row A w (gval ad (pre.length, g)) g := by
  obtain ⟨ad', cap', e, h1, h2, h3, h⟩ := h
  cases e
  refine ⟨_, g.length, rfl, Nat.le_refl _, by rw [he] at h2; simp at h2; omega, fun x hx => h3 x (by rw [he]; simp [hx]), fun hne => ?_⟩
  obtain ⟨b, o, rfl, hA, hr⟩ := h (by rw [he]; intro e; simp at e; exact hne e.2.1)
  refine ⟨b, o + pre.length * 4, by simp [add_mk], hA, fun i x hi => ?_⟩
  have hlt := (List.getElem?_eq_some_iff.1 hi).1
  obtain ⟨bv, hc, hb⟩ := hr (pre.length + i) x (by
    rw [he, List.append_assoc, List.getElem?_append_right (by omega), Nat.add_sub_cancel_left, List.getElem?_append_left hlt]; exact hi)
  exact ⟨bv, by rw [show o + pre.length * 4 + i * 4 = o + (pre.length + i) * 4 from by omega]; exact hc, hb⟩
end Go.Proofs.Ytblbddamebbgaaa.K

/- Walks: copies, groups, newest. -/
namespace Go.Proofs.Ytblbddamebbgaaa.K
open Go Go.RowKit
set_option linter.unusedVariables false
set_option linter.unusedSimpArgs false

theorem C65 {A : Nat → Prop} {w : World} {v : Value} {l : List UInt8} (hv : Byts A w v l) (hl : l.length ≤ 70368744177664) : Rt Try.prog 65 [v] w fun r w' => Byts (fun k => w.heap.size ≤ k) w' r l ∧ Ext w w' := by
  obtain ⟨ad, cap, rfl, hcap⟩ := hv.form
  have hW := hWw
  have hFF := hFw
  have hE : Ext w w := Keep.refl _ _
  refine rt_body Try.func65 rfl Try.ntmps65 rfl ?_
  refine wc_seq ?_
  refine wc_region ?_
  refine wl_val hW rfl rfl (x_assign rfl) ?_
  refine wl_nil ?_
  refine nx_then ?_
  refine wc_seq ?_
  refine wc_seq ?_
  refine wc_region ?_
  refine wl_val hW rfl rfl (x_move rfl) ?_
  refine wl_val hW rfl rfl (x_nilEq Try.underlying23 rfl rfl) ?_
  refine wl_nil ?_
  refine nx_then ?_
  refine wc_bool rfl (fun hc => ?_) (fun hc => ?_)
  · refine wc_seq ?_
    refine wc_region ?_
    refine wl_val hW rfl rfl (x_assign rfl) ?_
    refine wl_nil ?_
    refine nx_then ?_
    refine wc_ret ?_
    refine nx_then_ret ?_
    have hl0 : l = [] := by
      obtain ⟨ad', cap', e, -, h⟩ := hv
      cases e
      cases l with
      | nil => rfl
      | cons u l => obtain ⟨b, o, h, -⟩ := h (by simp); subst h; simp at hc
    exact ends_ret (res_tmp Try.results65 rfl) ⟨by rw [hl0]; exact byts_nil _ _, hE⟩
  · refine wc_skip ?_
    refine nx_then ?_
    refine wc_seq ?_
    refine wc_region ?_
    refine wl_buildSlice (parts := []) hW rfl rfl Try.underlying23 fl5.siz Try.zeroValue5 rfl rfl rfl (by omega) ?_
    intro b5 w5 hl5 hB5 hx5
    have g5 : w.heap.size ≤ b5 := Nat.le_trans hE.size hl5
    replace hE := hE.trans hx5
    refine wl_val hW rfl rfl (x_move rfl) ?_
    have hxw := hE
    refine wl_cloneB hW rfl rfl rfl rfl hB5 (hv.ext hE) hl ?_
    intro v7 w7 hv7 hk7
    replace hE := hE.store hk7 g5
    refine wl_val hW rfl rfl (x_assign rfl) ?_
    refine wl_nil ?_
    refine nx_then ?_
    refine wc_ret ?_
    exact ends_ret (res_tmp Try.results65 rfl) ⟨hv7.mono (fun k _ h => by rcases h with h | h; omega; exact Nat.le_trans hxw.size h), hE⟩
theorem C62 {A : Nat → Prop} {w : World} {bv : Value} {e : Ent} (hv : Byts A w bv e.v) (hok : EntOk e) : Rt Try.prog 62 [.agg (cellsOf e bv).toArray] w fun r w' => (∃ bv', r = .agg (cellsOf e bv').toArray ∧ Byts (fun k => w.heap.size ≤ k) w' bv' e.v) ∧ Ext w w' := by
  obtain ⟨ad, cap, rfl, hcap⟩ := hv.form
  have hW := hWw
  have hFF := hFw
  have hE : Ext w w := Keep.refl _ _
  refine rt_body Try.func62 rfl Try.ntmps62 rfl ?_
  refine wc_seq ?_
  refine wc_region ?_
  refine wl_box hW rfl rfl rfl rfl ?_
  intro b1 w1 hl1 hB1 hx1
  have g1 : w.heap.size ≤ b1 := Nat.le_trans hE.size hl1
  replace hE := hE.trans hx1
  refine wl_alloc (cs := [.string ⟨#[]⟩, .int .u64 0, .bool false, .slice none 0 0]) hW rfl rfl Try.zeroValue25 rfl ?_
  intro b2 w2 hl2 hB2 hx2
  have g2 : w.heap.size ≤ b2 := Nat.le_trans hE.size hl2
  have n2_1 : b2 ≠ b1 := Nat.ne_of_gt (Nat.lt_of_lt_of_le hB1.lt hl2)
  replace hB1 := hB1.ext hx2
  replace hE := hE.trans hx2
  refine wl_nil ?_
  refine nx_then ?_
  refine wc_seq ?_
  refine wc_region ?_
  refine wl_val hW rfl rfl (x_fieldAddr Try.underlying25 rfl fl23.siz rfl) ?_
  refine wl_val hW rfl rfl (x_load fl23 rfl (hB1.cell (o := 3) rfl)) ?_
  have hx0 := hE.size
  have hlt1 := hB1.lt
  have hlt2 := hB2.lt
  refine wl_call hW rfl rfl (x_call en65 rfl) ((C65 (hv.ext hE) (by have := hok.v; omega)).inF hFF) ?_
  rintro v5 wC ⟨hv5, hxC⟩
  obtain ⟨a5, c5, e5, -⟩ := hv5.form
  subst e5
  replace hB1 := hB1.ext hxC
  replace hB2 := hB2.ext hxC
  replace hE := hE.trans hxC
  refine wl_val hW rfl rfl (x_fieldAddr Try.underlying25 rfl fl23.siz rfl) ?_
  refine wl_store hW rfl fl23 rfl rfl rfl hB1 rfl ?_
  intro wS hBS hkS
  replace hv5 := hv5.ck (CK.of_keep hkS (fun k _ h => by intro e; omega))
  replace hB2 := hB2.keep hkS n2_1
  replace hB1 := hBS
  clear hBS
  replace hE := hE.store hkS g1
  refine wl_nil ?_
  refine nx_then ?_
  refine wc_seq ?_
  refine wc_region ?_
  refine wl_val hW rfl rfl (x_loadA ag25 rfl hB1.cells rfl) ?_
  refine wl_storeA hW rfl ag25 rfl rfl rfl rfl hB2 rfl ?_
  intro wS hBS hkS
  replace hv5 := hv5.ck (CK.of_keep hkS (fun k _ h => by intro e; omega))
  replace hB1 := hB1.keep hkS n2_1.symm
  replace hB2 := hBS
  clear hBS
  replace hE := hE.store hkS g2
  refine wl_nil ?_
  refine nx_then ?_
  refine wc_ret ?_
  exact ends_ret (res_cell Try.results62 rfl (run_loadVar_cells ag25 hB2.cells rfl)) ⟨⟨_, rfl, hv5.mono (fun k _ h => by omega)⟩, hE⟩
theorem C60 {w : World} {ad : Option Addr} {n c : Nat} : Rt Try.prog 60 [.slice ad n c] w fun r w' => (∃ b, r = .func (.func 83) #[] #[.pointer (some ⟨b, 0, none⟩)] ∧ w.heap.size ≤ b ∧ Blk w' b [.slice ad n c] 26) ∧ Ext w w' := by
  have hW := hWw
  have hFF := hFw
  have hE : Ext w w := Keep.refl _ _
  refine rt_body Try.func60 rfl Try.ntmps60 rfl ?_
  refine wc_seq ?_
  refine wc_region ?_
  refine wl_box hW rfl rfl rfl rfl ?_
  intro b1 w1 hl1 hB1 hx1
  have g1 : w.heap.size ≤ b1 := Nat.le_trans hE.size hl1
  replace hE := hE.trans hx1
  refine wl_val hW rfl rfl (x_assign rfl) ?_
  refine wl_nil ?_
  refine nx_then ?_
  refine wc_seq ?_
  refine wc_region ?_
  refine wl_val hW rfl rfl (x_makeFunc (xs := [.tmp 1]) rfl) ?_
  refine wl_val hW rfl rfl (x_assign rfl) ?_
  refine wl_nil ?_
  refine nx_then ?_
  refine wc_ret ?_
  exact ends_ret (res_tmp Try.results60 rfl) ⟨⟨b1, rfl, g1, hB1⟩, hE⟩
theorem C61 {A : Nat → Prop} {w : World} {v : Value} {es : List Ent} {up : Int} (hR : Row A w v es) : Rt Try.prog 61 [v, .int .u64 up] w fun r w' => r = .int .i64 (newestN up es) ∧ Ext w w' := by
  obtain ⟨ad, cap, rfl, hcap, hlen⟩ := hR.form
  have hW := hWw
  have hFF := hFw
  have hE : Ext w w := Keep.refl _ _
  refine rt_body Try.func61 rfl Try.ntmps61 rfl ?_
  refine wc_seq ?_
  refine wc_region ?_
  refine wl_val hW rfl rfl (x_assign rfl) ?_
  refine wl_nil ?_
  refine nx_then ?_
  refine wc_seq ?_
  refine wc_seq ?_
  refine wc_region ?_
  refine wl_val hW rfl rfl (x_move rfl) ?_
  refine wl_val hW rfl rfl (x_len Try.underlying26 rfl) ?_
  refine wl_val hW rfl rfl (x_move rfl) ?_
  refine wl_nil ?_
  refine nx_then ?_
  refine wc_block ?_
  refine wc_loop (σ := Nat) (fun s => [(0, .slice ad es.length cap), (1, .int .u64 up), (7, .slice ad es.length cap), (8, .int .i64 es.length), (9, .int .i64 s)]) (fun s w' => (s ≤ es.length ∧ (∀ j (hj : j < es.length), j < s → ¬ es[j].s ≤ up)) ∧ Ext w w') (fun s => es.length - s) 0 ?_ ?_ ?_
  · exact ⟨⟨Nat.zero_le _, fun j _ h => absurd h (Nat.not_lt_zero _)⟩, hE⟩
  · repeat (first | exact sub_nil | refine sub_cons rfl ?_)
  · rintro s wr ⟨hs, hE⟩
    refine wc_seq ?_
    refine wc_region ?_
    refine wl_val hW rfl rfl (x_lss rfl rfl) ?_
    refine wl_nil ?_
    refine nx_then ?_
    refine wc_seq ?_
    refine wc_dec rfl (fun hc => ?_) (fun hc => ?_)
    · have hlt : s < es.length := by omega
      obtain ⟨b, o, cap', bv, e1, hA, hC12, hb1, hok1⟩ := (hR.ext hE).at s hlt
      cases e1
      obtain ⟨av, cv, hbv, hcv⟩ := hb1.form
      subst hbv
      refine wc_skip ?_
      refine nx_then ?_
      refine wc_seq ?_
      refine wc_block ?_
      refine wc_seq ?_
      refine wc_region ?_
      refine wl_val hW rfl rfl (x_move rfl) ?_
      refine wl_val hW rfl rfl (x_indexAddr Try.underlying26 ag25.siz rfl rfl (by omega) (by omega)) ?_
      refine wl_val hW rfl rfl (x_loadA ag25 rfl hC12 rfl) ?_
      refine wl_alloc (cs := [.string ⟨#[]⟩, .int .u64 0, .bool false, .slice none 0 0]) hW rfl rfl Try.zeroValue25 rfl ?_
      intro b6 w6 hl6 hB6 hx6
      have g6 : w.heap.size ≤ b6 := Nat.le_trans hE.size hl6
      replace hE := hE.trans hx6
      refine wl_val hW rfl rfl (x_assign rfl) ?_
      refine wl_storeA hW rfl ag25 rfl rfl rfl rfl hB6 rfl ?_
      intro wS hBS hkS
      replace hB6 := hBS
      clear hBS
      replace hE := hE.store hkS g6
      refine wl_nil ?_
      refine nx_then ?_
      refine wc_seq ?_
      refine wc_region ?_
      refine wl_val hW rfl rfl (x_fieldAddr Try.underlying25 rfl fl22.siz rfl) ?_
      refine wl_val hW rfl rfl (x_load fl22 rfl (hB6.cell (o := 1) rfl)) ?_
      refine wl_val hW rfl rfl (x_move rfl) ?_
      refine wl_val hW rfl rfl (x_leq rfl rfl) ?_
      refine wl_nil ?_
      refine nx_then ?_
      refine wc_dec rfl (fun hc => ?_) (fun hc => ?_)
      · refine wc_seq ?_
        refine wc_region ?_
        refine wl_val hW rfl rfl (x_move rfl) ?_
        refine wl_val hW rfl rfl (x_assign rfl) ?_
        refine wl_nil ?_
        refine nx_then ?_
        refine wc_ret ?_
        refine nx_block_ret ?_
        refine nx_then_ret ?_
        refine nx_then_ret ?_
        refine nx_block_ret ?_
        refine nx_then_ret ?_
        exact ends_ret (res_tmp Try.results61 rfl) ⟨by rw [newestN_at es s hlt (fun j hj => hs.2 j (by omega) hj) hc], hE⟩
      · refine wc_skip ?_
        refine nx_block ?_
        refine nx_then ?_
        refine wc_region ?_
        refine wl_val hW rfl rfl (x_inc rfl (by omega)) ?_
        refine wl_val hW rfl rfl (x_move rfl) ?_
        refine wl_nil ?_
        exact nx_next (s + 1) (by omega) ⟨⟨hlt, fun j hj h => by rcases Nat.lt_succ_iff_lt_or_eq.1 h with h | rfl; exact hs.2 j hj h; exact hc⟩, hE⟩ (by repeat (first | exact sub_nil | refine sub_cons rfl ?_))
    · refine wc_exit ?_
      refine nx_then_exit ?_
      refine nx_then_exit ?_
      refine nx_block_exit ?_
      refine nx_then ?_
      refine wc_seq ?_
      refine wc_region ?_
      refine wl_val hW rfl rfl (x_move rfl) ?_
      refine wl_val hW rfl rfl (x_len Try.underlying26 rfl) ?_
      refine wl_val hW rfl rfl (x_assign rfl) ?_
      refine wl_nil ?_
      refine nx_then ?_
      refine wc_ret ?_
      exact ends_ret (res_tmp Try.results61 rfl) ⟨by rw [newestN_none es (fun j hj => hs.2 j hj (by omega))], hE⟩
theorem grps_step (f o : Nat) (e : Ent) (tl : List Ent) (n : Nat) (hn : n ≤ tl.length) (h1 : ∀ j (h : j < tl.length), j < n → tl[j].k = e.k) (h2 : ∀ h : n < tl.length, tl[n].k ≠ e.k) :
    grps (f + 1) o (e :: tl) = (o, e :: tl.take n) :: grps f (o + 1 + n) (tl.drop n) := by
  obtain ⟨i1, i2⟩ := take_drop_while (p := fun x => decide (x.k = e.k)) tl n hn (fun j h hj => decide_eq_true (h1 j h hj)) (fun h => decide_eq_false (h2 h))
  simp only [grps, i1, i2, List.length_take, Nat.min_eq_left hn]
theorem grps_nil (f o : Nat) : grps f o [] = [] := by cases f <;> rfl
/-- A group that lies in es. -/
def IsGrp (es : List Ent) (x : Nat × List Ent) : Prop := ∃ p s, es = p ++ x.2 ++ s ∧ p.length = x.1
abbrev Grp (es : List Ent) := {x : Nat × List Ent // IsGrp es x}
theorem C83 {A S : Nat → Prop} {w : World} {ad : Option Addr} {cap b13 : Nat} {es : List Ent} (hR : Row A w (.slice ad es.length cap) es) (hA : ∀ k, A k → S k) (hS : S b13) (hB : Blk w b13 [.slice ad es.length cap] 26) :
    SeqStopsK (α := {x : Nat × List Ent // IsGrp es x}) Fence.wide 8 Try.prog 83 #[.pointer (some ⟨b13, 0, none⟩)] (fun x => #[gval ad x.1]) (Keep S) (fun xs => xs.map (·.1) = grps es.length 0 es) (fun pre => pre.map (·.1) <+: grps es.length 0 es) (es.length + 1) w := by
  intro l J Jx W hW' hJ hJx hY hJ0
  have hRW := hR.ext (Ext.of_below hW')
  have hBW := hB.ext (Ext.of_below hW')
  have hcapl : es.length ≤ cap ∧ es.length ≤ 1099511627776 := by obtain ⟨_, _, e, h1, h2⟩ := hR.form; cases e; exact ⟨h1, h2⟩
  clear hR hB hW'
  have hJd : ∀ pre w1 w2, J pre w1 → Ext w1 w2 → J pre w2 := fun pre w1 w2 h he => hJ pre w1 w2 none h he.grown (fun r e => by cases e)
  have hJxd : ∀ pre w1 w2, Jx pre w1 → Ext w1 w2 → Jx pre w2 := fun pre w1 w2 h he => hJx pre w1 w2 none h he.grown (fun r e => by cases e)
  refine CallsIn.mono (R := ok1 fun v W' => (∃ ys : List {x : Nat × List Ent // IsGrp es x}, ys.map (·.1) = grps es.length 0 es ∧ J ys W') ∨ (∃ pre : List {x : Nat × List Ent // IsGrp es x}, pre.map (·.1) <+: grps es.length 0 es ∧ Jx pre W')) ?_ (fun e w' ⟨v, he, h⟩ => ⟨⟨v, he⟩, h⟩)
  rw [show (#[Value.func (.yield l) #[] #[]] ++ #[Value.pointer (some ⟨b13, 0, none⟩)] : Array Value) = [Value.func (.yield l) #[] #[], Value.pointer (some ⟨b13, 0, none⟩)].toArray from by simp]
  have hW := hWw
  have hFF := hFw
  refine rt_bodyn Try.func83 rfl Try.ntmps83 rfl ?_
  refine wc_seq ?_
  refine wc_region ?_
  refine wl_val hW rfl rfl (x_assign rfl) ?_
  refine wl_nil ?_
  refine nx_then ?_
  refine wc_block ?_
  refine wc_loop (σ := List {x : Nat × List Ent // IsGrp es x} × List Ent × List Ent) (fun s => [(0, .func (.yield l) #[] #[]), (1, .pointer (some ⟨b13, 0, none⟩)), (3, .int .i64 (s.2.1.length : Nat))]) (fun s w' => (es = s.2.1 ++ s.2.2 ∧ (∃ f, s.2.2.length ≤ f ∧ grps es.length 0 es = s.1.map (·.1) ++ grps f s.2.1.length s.2.2) ∧ s.1.length ≤ s.2.1.length ∧ J s.1 w') ∧ Keep S W w') (fun s => s.2.2.length) ([], [], es) ?_ ?_ ?_
  · exact ⟨⟨rfl, ⟨es.length, Nat.le_refl _, rfl⟩, Nat.le_refl _, hJ0⟩, Keep.refl _ _⟩
  · repeat (first | exact sub_nil | refine sub_cons rfl ?_)
  · rintro ⟨pre, done, rest⟩ wr ⟨⟨he, ⟨f, hf, hg⟩, hpl, hj⟩, hK⟩
    dsimp only at he hf hg hpl hj
    have hBr := hBW.keep hK hS
    refine wc_seq ?_
    refine wc_seq ?_
    refine wc_region ?_
    refine wl_val hW rfl rfl (x_move rfl) ?_
    refine wl_val hW rfl rfl (x_load fl26 rfl (hBr.cell (o := 0) rfl)) ?_
    refine wl_val hW rfl rfl (x_len Try.underlying26 rfl) ?_
    refine wl_val hW rfl rfl (x_lss rfl rfl) ?_
    refine wl_nil ?_
    refine nx_then ?_
    refine wc_dec rfl (fun hc => ?_) (fun hc => ?_)
    · replace hc : ((done.length : Nat) : Int) < es.length := hc
      obtain ⟨e, tl, rfl⟩ : ∃ e tl, rest = e :: tl := by
        cases rest with
        | nil => exfalso; rw [List.append_nil] at he; rw [he] at hc; omega
        | cons e tl => exact ⟨e, tl, rfl⟩
      have hlen : es.length = done.length + 1 + tl.length := by rw [he]; simp; omega
      have hat0 : ∀ h : done.length < es.length, es[done.length] = e := fun h => by subst he; simp
      have hatn : ∀ n (h : done.length + 1 + n < es.length) (h' : n < tl.length), es[done.length + 1 + n] = tl[n] := fun n h h' => by
        subst he
        rw [List.getElem_append_right (by omega)]
        simp only [show done.length + 1 + n - done.length = n + 1 from by omega, List.getElem_cons_succ]
      refine wc_skip ?_
      refine nx_then ?_
      refine wc_block ?_
      refine wc_seq ?_
      refine wc_region ?_
      refine wl_val hW rfl rfl (x_move rfl) ?_
      refine wl_val hW rfl rfl (x_inc (s := done.length) rfl (by omega)) ?_
      refine wl_val hW rfl rfl (x_assign rfl) ?_
      refine wl_nil ?_
      refine nx_then ?_
      refine wc_seq ?_
      refine wc_block ?_
      refine wc_loop (σ := Nat) (fun n => [(0, .func (.yield l) #[] #[]), (1, .pointer (some ⟨b13, 0, none⟩)), (3, .int .i64 (done.length : Nat)), (4, .int .i64 ((done.length + 1 + n : Nat) : Int))]) (fun n w' => (n ≤ tl.length ∧ (∀ j (h : j < tl.length), j < n → tl[j].k = e.k) ∧ J pre w') ∧ Keep S W w') (fun n => tl.length - n) 0 ?_ ?_ ?_
      · exact ⟨⟨Nat.zero_le _, fun j _ h => absurd h (Nat.not_lt_zero _), hj⟩, hK⟩
      · repeat (first | exact sub_nil | refine sub_cons rfl ?_)
      · rintro n wr2 ⟨⟨hn, hk, hj2⟩, hK2⟩
        refine wc_seq ?_
        refine wc_seq ?_
        refine wc_cut [(0, .func (.yield l) #[] #[]), (1, .pointer (some ⟨b13, 0, none⟩)), (3, .int .i64 (done.length : Nat)), (4, .int .i64 ((done.length + 1 + n : Nat) : Int)), (27, .bool (if h : n < tl.length then tl[n].k.toList == e.k.toList else false))] (fun w' => Ext wr2 w') ?_ ?_
        · refine wc_draw' 17 hW mixed (by kernel_rfl) (fun w0 hx0 => ?_)
          have hB0 := (hBW.keep hK2 hS).ext hx0
          have hR0 := (hRW.ck (CK.of_keep hK2 (fun k _ h => hA k h))).ext hx0
          refine q_val rfl rfl (fun _ hx => x_move rfl) ?_
          refine q_val rfl rfl (fun _ hx => x_load fl26 rfl (hx.cell (hB0.cell (o := 0) rfl))) ?_
          refine q_val rfl rfl (fun _ hx => x_len Try.underlying26 rfl) ?_
          refine q_val rfl rfl (fun _ hx => x_lss rfl rfl) ?_
          refine q_val rfl rfl (fun _ hx => x_move rfl) ?_
          refine q_dcases (d := 15) rfl (fun hg15 => ?_) (fun hg15 => ?_)
          · obtain ⟨b, o, cap', v1, e1, hA1, hC18, hb1, hok1⟩ := hR0.at (done.length + 1 + n) (by omega)
            cases e1
            obtain ⟨b', o', cap'', v2, e2, hA2, hC23, hb2, hok2⟩ := hR0.at done.length (by omega)
            cases e2
            refine q_val rfl rfl (fun _ hx => x_load fl26 rfl (hx.cell (hB0.cell (o := 0) rfl))) ?_
            refine q_val rfl rfl (fun _ hx => x_move rfl) ?_
            refine q_val rfl rfl (fun _ hx => x_indexAddr Try.underlying26 ag25.siz rfl rfl (by omega) (by omega)) ?_
            refine q_val rfl rfl (fun _ hx => x_fieldAddr Try.underlying25 rfl fl9.siz rfl) ?_
            refine q_val rfl rfl (fun _ hx => x_load fl9 rfl (hx.cell (hC18 0 _ rfl))) ?_
            refine q_val rfl rfl (fun _ hx => x_load fl26 rfl (hx.cell (hB0.cell (o := 0) rfl))) ?_
            refine q_val rfl rfl (fun _ hx => x_move rfl) ?_
            refine q_val rfl rfl (fun _ hx => x_indexAddr Try.underlying26 ag25.siz rfl rfl (by omega) (by omega)) ?_
            refine q_val rfl rfl (fun _ hx => x_fieldAddr Try.underlying25 rfl fl9.siz rfl) ?_
            refine q_val rfl rfl (fun _ hx => x_load fl9 rfl (hx.cell (hC23 0 _ rfl))) ?_
            refine q_val rfl rfl (fun _ hx => x_seql rfl rfl) ?_
            refine q_val rfl rfl (fun _ hx => x_pickT rfl rfl) ?_
            refine q_nil (tail0 (fun wt hxt => ?_))
            refine wl_nil ?_
            have e27 : (if h : n < tl.length then tl[n].k.toList == e.k.toList else false) = (es[done.length + 1 + n].k.toList == es[done.length].k.toList) := by rw [dif_pos (by omega), hatn n (by omega) (by omega), hat0 (by omega)]
            rw [e27]
            exact nx_cut (by repeat (first | exact sub_nil | refine sub_cons rfl ?_)) (hx0.trans hxt)
          · refine q_off rfl rfl ?_
            refine q_off rfl rfl ?_
            refine q_off rfl rfl ?_
            refine q_off rfl rfl ?_
            refine q_off rfl rfl ?_
            refine q_off rfl rfl ?_
            refine q_off rfl rfl ?_
            refine q_off rfl rfl ?_
            refine q_off rfl rfl ?_
            refine q_off rfl rfl ?_
            refine q_off rfl rfl ?_
            refine q_val rfl rfl (fun _ hx => x_pickF rfl rfl) ?_
            refine q_nil (tail0 (fun wt hxt => ?_))
            refine wl_nil ?_
            rw [show (if h : n < tl.length then tl[n].k.toList == e.k.toList else false) = false from dif_neg (by omega)]
            exact nx_cut (by repeat (first | exact sub_nil | refine sub_cons rfl ?_)) (hx0.trans hxt)
        · intro w2 hE2
          have hj3 := hJd _ _ _ hj2 hE2
          have hK3 := hK2.trans (Keep.of_ext hE2)
          refine nx_then ?_
          refine wc_bool rfl (fun hc => ?_) (fun hc => ?_)
          · have hn1 : n < tl.length := by refine Decidable.byContradiction fun h => ?_; rw [dif_neg h] at hc; cases hc
            have hk1 : tl[n].k = e.k := by rw [dif_pos hn1] at hc; exact ba_ext (by simpa using hc)
            refine wc_skip ?_
            refine nx_then ?_
            refine wc_block ?_
            refine wc_region ?_
            refine wl_val hW rfl rfl (x_move rfl) ?_
            refine wl_val hW rfl rfl (x_inc rfl (by omega)) ?_
            refine wl_val hW rfl rfl (x_assign rfl) ?_
            refine wl_nil ?_
            refine nx_block ?_
            exact nx_next (n + 1) (by omega) ⟨⟨hn1, fun j h hj => by rcases Nat.lt_succ_iff_lt_or_eq.1 hj with hj | rfl; exact hk j h hj; exact hk1, hj3⟩, hK3⟩ (by repeat (first | exact sub_nil | refine sub_cons rfl ?_))
          · have h2 : ∀ h : n < tl.length, tl[n].k ≠ e.k := fun h heq => by rw [dif_pos h, heq] at hc; simp at hc
            obtain ⟨f', rfl⟩ : ∃ f', f = f' + 1 := ⟨f - 1, by simp at hf; omega⟩
            have hstep := grps_step f' done.length e tl n hn hk h2
            have hB2r := hBW.keep hK3 hS
            have elen : (done ++ e :: tl.take n).length = done.length + 1 + n := by simp; omega
            have egv : gval ad (done.length, e :: tl.take n) = .slice (if done.length + 1 + n = done.length then ad else ad.map (·.add (done.length * 4))) (done.length + 1 + n - done.length) (done.length + 1 + n - done.length) := by
              have e1 : (e :: tl.take n).length = done.length + 1 + n - done.length := by simp; omega
              unfold gval; rw [if_neg (by omega), e1]
            have hxg : IsGrp es (done.length, e :: tl.take n) := ⟨done, tl.drop n, by rw [he]; simp, rfl⟩
            have hYa := hY pre ⟨_, hxg⟩ w2 hj3 (by omega)
            refine wc_exit ?_
            refine nx_then_exit ?_
            refine nx_then_exit ?_
            refine nx_block_exit ?_
            refine nx_then ?_
            refine wc_seq ?_
            refine wc_seq ?_
            refine wc_region ?_
            refine wl_val hW rfl rfl (x_move rfl) ?_
            refine wl_val hW rfl rfl (x_load fl26 rfl (hB2r.cell (o := 0) rfl)) ?_
            refine wl_val hW rfl rfl (x_move rfl) ?_
            refine wl_val hW rfl rfl (x_move rfl) ?_
            refine wl_val hW rfl rfl (x_move rfl) ?_
            refine wl_val hW rfl rfl (x_slice3 Try.underlying26 ag25.siz rfl rfl rfl rfl (by omega) (by omega)) ?_
            refine wl_yield (R := fun v W' => ∃ b, v = .bool b ∧ (b = true → J (pre ++ [⟨_, hxg⟩]) W' ∧ Keep S w2 W') ∧ (b = false → Jx (pre ++ [⟨_, hxg⟩]) W')) hW rfl rfl rfl rfl (by rw [← egv]; exact hYa.mono (fun e' W' h => by rcases h with ⟨rfl, h⟩ | ⟨rfl, h⟩; exact ⟨_, rfl, true, rfl, (fun _ => h), (fun h => by cases h)⟩; exact ⟨_, rfl, false, rfl, (fun h => by cases h), (fun _ => h)⟩)) ?_
            rintro v W2 ⟨bb, rfl, hbt, hbf⟩
            refine wl_val hW rfl rfl (x_not rfl) ?_
            refine wl_nil ?_
            refine nx_then ?_
            refine wc_bool rfl (fun hc => ?_) (fun hc => ?_)
            · refine wc_ret ?_
              refine nx_then_ret ?_
              refine nx_block_ret ?_
              refine nx_then_ret ?_
              refine nx_block_ret ?_
              exact ends_ret (res_none Try.results83) (.inr ⟨_, ⟨grps f' (done.length + 1 + n) (tl.drop n), by rw [hg, hstep]; simp⟩, hbf (by simpa using hc)⟩)
            · refine wc_skip ?_
              refine nx_then ?_
              refine wc_region ?_
              refine wl_val hW rfl rfl (x_move rfl) ?_
              refine wl_val hW rfl rfl (x_assign rfl) ?_
              refine wl_nil ?_
              refine nx_block ?_
              have hb1 := hbt (by simpa using hc)
              exact nx_next (pre ++ [⟨_, hxg⟩], done ++ e :: tl.take n, tl.drop n) (by simp; omega) ⟨⟨by simp [he], ⟨f', by simp at hf ⊢; omega, by show _ = (pre ++ [⟨_, hxg⟩] : List {x : Nat × List Ent // IsGrp es x}).map (·.1) ++ grps f' (done ++ e :: tl.take n).length (tl.drop n); rw [elen, hg, hstep]; simp⟩, by show (pre ++ _).length ≤ (done ++ e :: tl.take n).length; rw [elen]; simp; omega, hb1.1⟩, hK3.trans hb1.2⟩ (by show Sub [(0, _), (1, _), (3, .int .i64 (((done ++ e :: tl.take n).length : Nat) : Int))] _; rw [elen]; repeat (first | exact sub_nil | refine sub_cons rfl ?_))
    · refine wc_exit ?_
      refine nx_then_exit ?_
      refine nx_then_exit ?_
      refine nx_block_exit ?_
      replace hc : ¬ ((done.length : Nat) : Int) < es.length := hc
      have hr0 : rest = [] := by cases rest with | nil => rfl | cons e tl => exfalso; rw [he] at hc; simp at hc; omega
      subst hr0
      exact ends_normal (res_none Try.results83) (.inl ⟨pre, by rw [hg, grps_nil, List.append_nil], hj⟩)
end Go.Proofs.Ytblbddamebbgaaa.K


/- Lists collected in a range over a function; what is seen and what is left, plain. -/
namespace Go.Proofs.Ytblbddamebbgaaa.K
open Go Go.RowKit
set_option linter.unusedVariables false
set_option linter.unusedSectionVars false
set_option linter.unusedSimpArgs false

theorem nc_put {B C : Nat} {W : World} (h : W.heap[B]? = some (.deferred (some []))) (hC : C ≤ B) : Nc C W (W.putObj B (.deferred none)) :=
  ⟨⟨some B, grownBy_putObj' W B _, fun r e => by cases e; exact ⟨hC, _, h, rfl⟩⟩⟩
theorem Keep.after {S : Nat → Prop} {w0 w w' : World} (h : Ext w0 w) (hk : Keep S w w') (hs : ∀ k, k < w0.heap.size → S k) : Ext w0 w' :=
  ⟨hk.os.trans h.os, hk.tape.trans h.tape, hk.output.trans h.output, Nat.le_trans h.size hk.size, fun k hlt _ => (hk.block k (Nat.lt_of_lt_of_le hlt h.size) (hs k hlt)).trans (h.block k hlt trivial)⟩
/-- What is seen of a group. -/
def seenG (up : Int) (g : List Ent) : List Ent := match g[newestN up g]? with
  | some e => if e.g then [] else [e]
  | none => []
def seenL (up : Int) (es : List Ent) : List Ent := (grps es.length 0 es).flatMap fun x => seenG up x.2
def leftN (keep : Int) (bottom : Bool) (g : List Ent) : Nat := match g[newestN keep g]? with
  | some e => if e.g && bottom then newestN keep g else newestN keep g + 1
  | none => newestN keep g
def leftL (keep : Int) (bottom : Bool) (es : List Ent) : List Ent := (grps es.length 0 es).flatMap fun x => x.2.take (leftN keep bottom x.2)
theorem seenG_len (up : Int) (g : List Ent) : (seenG up g).length ≤ 1 := by
  unfold seenG
  split
  · split <;> simp
  · simp
theorem seenG_mem {up : Int} {g : List Ent} {e : Ent} (h : e ∈ seenG up g) : e ∈ g := by
  unfold seenG at h
  split at h
  · rename_i x hx
    split at h
    · simp at h
    · simp at h; subst h; exact List.mem_of_getElem? hx
  · simp at h
theorem seenG_some {up : Int} {g : List Ent} (h : newestN up g < g.length) (hg : g[newestN up g].g = false) : seenG up g = [g[newestN up g]] := by
  unfold seenG; rw [List.getElem?_eq_getElem h]; simp [hg]
theorem seenG_gone {up : Int} {g : List Ent} (h : newestN up g < g.length) (hg : g[newestN up g].g = true) : seenG up g = [] := by
  unfold seenG; rw [List.getElem?_eq_getElem h]; simp [hg]
theorem seenG_none {up : Int} {g : List Ent} (h : ¬ newestN up g < g.length) : seenG up g = [] := by
  unfold seenG; rw [List.getElem?_eq_none (by omega)]
theorem flat_len_le {α : Type} (f : α → List Ent) (n : Nat) : ∀ l : List α, (∀ x ∈ l, (f x).length ≤ n) → (l.flatMap f).length ≤ l.length * n
  | [], _ => by simp
  | x :: l, h => by
    have h1 := h x (by simp)
    have h2 := flat_len_le f n l fun y hy => h y (by simp [hy])
    simp only [List.flatMap_cons, List.length_append, List.length_cons, Nat.succ_mul]
    omega
/-- A slice's block is one of entries. -/
theorem OwnE.blk {A : Nat → Prop} {base : Nat} {w : World} {v : Value} {es : List Ent} (h : OwnE A base w v es) {b : Nat} {o : Obj} (hv : v.ownBlock = some b) (ho : w.heap[b]? = some o) : o.isCells = true := by
  obtain ⟨⟨bvs, h1, h2, h3⟩, h4⟩ := h
  rcases h2.2 with ⟨rfl, _⟩ | ⟨g, cap, cur, rfl, -, hg, -⟩
  · cases hv
  · cases hv; rw [hg] at ho; cases ho; rfl
theorem Blk.isC {w : World} {b : Nat} {cs : List Value} {t : TypeId} (h : Blk w b cs t) {o : Obj} (ho : w.heap[b]? = some o) : o.isCells = true := by
  unfold Blk at h; rw [h] at ho; cases ho; rfl
/-- What is held between two rounds: the box b6 holds what is collected; what lay before lies as it lay. -/
structure Coll (W0 : World) (b6 : Nat) (A : Nat → Prop) (xs : List Ent) (W : World) : Prop where
  ex : ∃ ov, Blk W b6 [ov] 26 ∧ OwnE A W0.heap.size W ov xs
  keep : Keep (fun k => k < W0.heap.size ∧ k ≠ b6) W0 W
theorem Coll.nc {W0 W W' : World} {b6 : Nat} {A : Nat → Prop} {xs : List Ent} (h : Coll W0 b6 A xs W) (hn : Nc W0.heap.size W W') : Coll W0 b6 A xs W' := by
  obtain ⟨⟨ov, h1, h2⟩, h3⟩ := h
  exact ⟨⟨ov, h1.nc hn, h2.nc hn⟩, h3.nc hn (Nat.le_refl _)⟩
theorem Coll.start {W0 : World} {b6 : Nat} {A : Nat → Prop} (h : Blk W0 b6 [.slice none 0 0] 26) : Coll W0 b6 A [] W0 := ⟨⟨_, h, own_nil _ _ _⟩, Keep.refl _ _⟩
/-- A round that collects nothing. -/
theorem Coll.still {W0 W W' : World} {b6 : Nat} {A : Nat → Prop} {xs : List Ent} (h : Coll W0 b6 A xs W) (hx : Ext W W') : Coll W0 b6 A xs W' := by
  obtain ⟨⟨ov, h1, h2⟩, h3⟩ := h
  exact ⟨⟨ov, h1.ext hx, h2.ext hx⟩, h3.trans (Keep.of_ext hx)⟩
section
variable {P : Program} {m : Nat} {D : List Deferred} {L : Env} {w W0 W : World} {b6 : Nat} {A : Nat → Prop} {ov : Value} {xs : List Ent}
/-- What a round turns: the box and the row's block. -/
def KeepR (b6 : Nat) (ov : Value) : World → World → Prop := Keep fun k => k ≠ b6 ∧ some k ≠ ov.ownBlock
theorem round_coll {α : Type} {I : List α → World → Prop} {Ix : Code → List α → World → Prop} {ys : List α} (hI : ∀ W, Coll W0 b6 A xs W → I ys W) (hb : Blk W b6 [ov] 26) (hrow : ∃ zs, OwnE A W0.heap.size W ov zs) (h0 : Keep (fun k => k < W0.heap.size ∧ k ≠ b6) W0 W) (hk : KeepR b6 ov W w)
    (h1 : ∃ ov', Blk w b6 [ov'] 26 ∧ OwnE A W0.heap.size w ov' xs) : NX (RoundQ W0.heap.size (fun k => k < W0.heap.size ∧ k ≠ b6) I Ix ys W) m D .normal L w := by
  obtain ⟨zs, hrow⟩ := hrow
  have hs : ∀ k, (k < W0.heap.size ∧ k ≠ b6) → k ≠ b6 ∧ some k ≠ ov.ownBlock := fun k h => ⟨h.2, fun e => by have := (hrow.lt k e.symm).1; omega⟩
  exact round_normal hk hs (fun k o hB ho hc => ⟨(fun e => by subst e; exact Bool.noConfusion ((hb.isC ho).symm.trans hc)), (fun e => Bool.noConfusion ((hrow.blk e.symm ho).symm.trans hc))⟩) (hI _ ⟨h1, h0.trans (hk.mono fun k _ h => hs k h)⟩)
theorem KeepR.of_ext {W W' : World} (h : Ext W W') : KeepR b6 ov W W' := Keep.of_ext h
end
theorem coll_done {w wG W : World} {b6 B : Nat} {ov : Value} {xs : List Ent} {es : List Ent} (hE : Ext w wG) (g6 : w.heap.size ≤ b6) (hK : Keep (fun k => k < wG.heap.size ∧ k ≠ b6) wG W) (hO : OwnE (fun k => wG.heap.size ≤ k) wG.heap.size W ov xs) (hB : wG.heap.size ≤ B) (hk : W.heap[B]? = some (.deferred (some []))) (he : xs = es) (hl : es.length ≤ 1099511627776) :
    Row (fun k => w.heap.size ≤ k) (W.putObj B (.deferred none)) ov es ∧ Ext w (W.putObj B (.deferred none)) := by
  subst he
  have hs := hE.size
  have h1 : Ext w W := Keep.after hE hK (fun k h => ⟨by omega, by omega⟩)
  have hn : Nc wG.heap.size W (W.putObj B (.deferred none)) := nc_put hk hB
  exact ⟨((hO.nc hn).row hl).mono (fun k _ h => by rcases h with h | h <;> omega), h1.nc hn hs⟩
theorem grps_flat : ∀ (f o : Nat) (es : List Ent), es.length ≤ f → (grps f o es).flatMap (·.2) = es
  | 0, _, es, h => by have : es = [] := List.eq_nil_of_length_eq_zero (by omega); subst this; rfl
  | f + 1, _, [], _ => rfl
  | f + 1, o, e :: es, h => by
    have hd : (es.dropWhile fun x => decide (x.k = e.k)).length ≤ f := by
      have := congrArg List.length (List.takeWhile_append_dropWhile (p := fun x => decide (x.k = e.k)) (l := es))
      simp only [List.length_append, List.length_cons] at this h
      omega
    simp only [grps, List.flatMap_cons, grps_flat f _ _ hd, List.cons_append, List.takeWhile_append_dropWhile]
theorem flat_le2 {α : Type} (f g : α → List Ent) : ∀ l : List α, (∀ x ∈ l, (f x).length ≤ (g x).length) → (l.flatMap f).length ≤ (l.flatMap g).length
  | [], _ => by simp
  | x :: l, h => by
    have h1 := h x (by simp)
    have h2 := flat_le2 f g l fun y hy => h y (by simp [hy])
    simp only [List.flatMap_cons, List.length_append]
    omega
theorem seenG_le (up : Int) (g : List Ent) : (seenG up g).length ≤ g.length := by
  cases g with
  | nil => simp [seenG]
  | cons e g => have := seenG_len up (e :: g); simp only [List.length_cons]; omega
theorem seenL_le (up : Int) (es : List Ent) : (seenL up es).length ≤ es.length := by
  have := flat_le2 (fun x => seenG up x.2) (·.2) (grps es.length 0 es) fun x _ => seenG_le _ _
  rwa [grps_flat _ _ _ (Nat.le_refl _)] at this
theorem leftL_le (keep : Int) (bottom : Bool) (es : List Ent) : (leftL keep bottom es).length ≤ es.length := by
  have := flat_le2 (fun x => x.2.take (leftN keep bottom x.2)) (·.2) (grps es.length 0 es) fun x _ => by simp; omega
  rwa [grps_flat _ _ _ (Nat.le_refl _)] at this
theorem newestN_le (up : Int) : ∀ g : List Ent, newestN up g ≤ g.length
  | [] => by simp [newestN]
  | e :: g => by have := newestN_le up g; simp only [newestN]; split <;> simp <;> omega
theorem leftN_some {keep : Int} {bottom : Bool} {g : List Ent} (h : newestN keep g < g.length) : leftN keep bottom g = if g[newestN keep g].g && bottom then newestN keep g else newestN keep g + 1 := by
  unfold leftN; rw [List.getElem?_eq_getElem h]
theorem leftN_none {keep : Int} {bottom : Bool} {g : List Ent} (h : ¬ newestN keep g < g.length) : leftN keep bottom g = newestN keep g := by
  unfold leftN; rw [List.getElem?_eq_none (by omega)]
theorem leftN_le (keep : Int) (bottom : Bool) (g : List Ent) : newestN keep g ≤ leftN keep bottom g ∧ leftN keep bottom g ≤ newestN keep g + 1 ∧ leftN keep bottom g ≤ g.length := by
  have h1 := newestN_le keep g
  by_cases h : newestN keep g < g.length
  · rw [leftN_some h]; split <;> omega
  · rw [leftN_none h]; omega
theorem take_snoc {g : List Ent} {s k : Nat} (h : s < (g.take k).length) : g.take (s + 1) = g.take s ++ [(g.take k)[s]] := by
  have h2 : s < g.length := by simp at h; omega
  rw [List.getElem_take, List.take_add_one, List.getElem?_eq_getElem h2]; rfl
theorem Keep.then {S S' : Nat → Prop} {w0 w w' : World} (h : Keep S w0 w) (hk : Keep S' w w') (hs : ∀ k, k < w0.heap.size → S k → S' k) : Keep S w0 w' :=
  ⟨hk.os.trans h.os, hk.tape.trans h.tape, hk.output.trans h.output, Nat.le_trans h.size hk.size, fun k hlt h1 => (hk.block k (Nat.lt_of_lt_of_le hlt h.size) (hs k hlt h1)).trans (h.block k hlt h1)⟩
/-- The first k of a row. -/
theorem Row.sliceh {A : Nat → Prop} {w : World} {a : Option Addr} {n c k : Nat} {g : List Ent} (h : Row A w (.slice a n c) g) (hk : k ≤ g.length) : Row A w (.slice (if c = 0 then a else a.map (·.add (0 * 4))) (k - 0) (c - 0)) (g.take k) := by
  obtain ⟨ad', cap', e, h1, h2, h3, h⟩ := h
  cases e
  have hlen : (g.take k).length = k := by simp; omega
  refine ⟨_, _, by rw [hlen]; rfl, by omega, by omega, fun x hx => h3 x (List.mem_of_mem_take hx), fun hne => ?_⟩
  obtain ⟨b, o, rfl, hA, hr⟩ := h (by rintro rfl; simp at hne)
  refine ⟨b, o, by split <;> simp [add_mk], hA, fun i x hi => hr i x ?_⟩
  rw [List.getElem?_take] at hi
  split at hi
  · exact hi
  · cases hi
/-- What is held within a round that collects more than once. -/
structure Col2 (wG W : World) (b8 : Nat) (A : Nat → Prop) (ov : Value) (xs : List Ent) (w : World) : Prop where
  ex : ∃ ov', Blk w b8 [ov'] 26 ∧ OwnE A wG.heap.size w ov' xs ∧ ∀ b, ov'.ownBlock = some b → ov.ownBlock = some b ∨ W.heap.size ≤ b
  keep : KeepR b8 ov W w

/-- A copy of e, made since w0. -/
def ApV (w0 : World) (e : Ent) : VP := fun u w => ∃ bv, u = .agg (cellsOf e bv).toArray ∧ Byts (fun k => w0.heap.size ≤ k) w bv e.v
/-- A slice of one copy of e, made since w0. -/
def Ap1 (w0 : World) (e : Ent) : VP := fun u w => ∃ bt bv, u = .slice (some ⟨bt, 0, none⟩) 1 1 ∧ w0.heap.size ≤ bt ∧ Blk w bt (cellsOf e bv) 25 ∧ Byts (fun k => w0.heap.size ≤ k) w bv e.v
theorem ApV.stable {w0 : World} {e : Ent} : Stable (ApV w0 e) := fun v w w' ⟨bv, h, hb⟩ hx => ⟨bv, h, hb.ext hx⟩
theorem Ap1.stable {w0 : World} {e : Ent} : Stable (Ap1 w0 e) := fun v w w' ⟨bt, bv, h, h2, hB, hb⟩ hx => ⟨bt, bv, h, h2, hB.ext hx, hb.ext hx⟩
section
variable {F : Fence} {n m : Nat} {Q : Exit → Act → World → Prop} {D : List Deferred} {L : Env} {w0 : World} {ops : List Oper} {rest : List Oper} {d s : Nat} {ty : TypeId} {pos : String} {af : Array Edge} {e : Ent} {K : Env → List (Nat × VP) → Prop} {V : List (Nat × VP)}
theorem q_apart {bv : Value} {x : Operand} {ts : Array TypeId} {g : Option (Nat × Bool)} (hg : wants L ops g = some true) (hd : Nat.blt d m = true) (hno : at' L d = none) (hx : evs L [x] = some [.agg (cellsOf e bv).toArray]) (hen : Enters Try.prog 62)
    (hc : ∀ w', Ext w0 w' → CallsIn F (n - 1) Try.prog 62 [Value.agg (cellsOf e bv).toArray].toArray w' (ok1 fun r w'' => (∃ bv', r = .agg (cellsOf e bv').toArray ∧ Byts (fun k => w'.heap.size ≤ k) w'' bv' e.v) ∧ Ext w' w'')) (k : QW F n Try.prog m D ops w0 K rest L ((d, ApV w0 e) :: V)) :
    QW F n Try.prog m D ops w0 K (⟨some d, .call ⟨.value (.func 62), [x].toArray, ts⟩, ty, pos, af, g⟩ :: rest) L V :=
  q_callp ApV.stable hg hd hno (fun _ => x_call hen hx) (fun w' hw => (hc w' hw).mono (fun e' w'' ⟨v, he, ⟨bv', hv, hb⟩, hE⟩ => ⟨v, he, ⟨bv', hv, hb.mono fun k _ h => Nat.le_trans hw.size h⟩, hE⟩)) k
theorem q_build1 (hd : Nat.blt d m = true) (hno : at' L d = none) (hs : (s, ApV w0 e) ∈ V) (k : QW F n Try.prog m D ops w0 K rest L ((d, Ap1 w0 e) :: V)) :
    QW F n Try.prog m D ops w0 K (⟨some d, .buildSlice 26 1 #[(0, .tmp s)], ty, pos, af, none⟩ :: rest) L V :=
  q_valv Ap1.stable rfl hd hno hs (List.mem_append_left _ (List.mem_filterMap.2 ⟨.tmp s, by simp [Op.operands], rfl⟩)) (fun w' u hw hu => by
    obtain ⟨bv, rfl, hb⟩ := hu
    have hlook : ev ((s, .agg (cellsOf e bv).toArray) :: L) (.tmp s) = some (.agg (cellsOf e bv).toArray) := by show at' _ _ = _; rw [at_cons, if_pos rfl]
    obtain ⟨b, w'', hx, h1, h2, h3⟩ := x_buildSlice (P := Try.prog) (m := m) (D := D) (w := w') (ty := ty) (L := (s, .agg (cellsOf e bv).toArray) :: L) (vs := [.agg (cellsOf e bv).toArray]) (sz := 4) (len := 1) (parts := [(0, .tmp s)]) Try.underlying26 ag25.siz Try.zeroValue25 (by simp only [partsOk, hlook]; rfl) rfl rfl (by decide)
    exact ⟨_, w'', hx, ⟨b, bv, rfl, Nat.le_trans hw.size h1, h2, hb.ext h3⟩, h3⟩) k
end
end Go.Proofs.Ytblbddamebbgaaa.K

/- A range over a function whose yielded values' memory is told of at the yield, and whose loop variable may lie in a block of its own. No program is named here. -/
namespace Go.Proofs.Ytblbddamebbgaaa.K
open Go Go.RowKit
set_option linter.unusedVariables false
set_option linter.unusedSectionVars false
set_option linter.unusedSimpArgs false

/-- What a sequence comes to: Yp: what holds of a value when it is yielded; S: what a round keeps. -/
def SeqY {α : Type} (P : Program) (g : Nat) (lb : List Value) (enc : α → Value) (S : Nat → Prop) (Yp : α → World → Prop) (Sd Sp : List α → Prop) (N : Nat) (w : World) : Prop :=
  ∀ (l : Nat) (J Jx : List α → World → Prop) (W : World), Ext w W → (∀ pre A B, J pre A → Ext A B → J pre B) → (∀ pre A B, Jx pre A → Ext A B → Jx pre B) →
    (∀ pre x A, J pre A → Yp x A → pre.length < N → YieldAt Fence.wide 7 P l [enc x].toArray A fun e B => (e = .returned (.bool true) ∧ J (pre ++ [x]) B ∧ Keep S A B) ∨ (e = .returned (.bool false) ∧ Jx (pre ++ [x]) B)) →
    J [] W → CallsIn Fence.wide 8 P g (Value.func (.yield l) #[] #[] :: lb).toArray W fun e B => (∃ v, e = .returned v) ∧ ((∃ xs, Sd xs ∧ J xs B) ∨ (∃ pre, Sp pre ∧ Jx pre B))
theorem Ext.nc {B : Nat} {A C : World} (h : Ext A C) : Nc B A C := ⟨⟨none, h.grown, fun r e => by cases e⟩⟩
theorem nc_obj {B l : Nat} {A : World} {o o' : Obj} (h : A.heap[l]? = some o) (hc : o.isCells = false) (hB : B ≤ l) : Nc B A (A.putObj l o') :=
  ⟨⟨some l, grownBy_putObj' A l _, fun r e => by cases e; exact ⟨hB, o, h, hc⟩⟩⟩
theorem keep_obj {S : Nat → Prop} {B l : Nat} {A : World} {o' : Obj} (hS : ∀ k, S k → k < B) (hB : B ≤ l) : Keep S A (A.putObj l o') :=
  ⟨rfl, rfl, rfl, by simp [World.putObj], fun k hk hs => World.putObj_heap_other (by have := hS k hs; omega)⟩
section
variable {P : Program} {Q : Exit → Act → World → Prop} {m : Nat} {D : List Deferred} {L : Env} {w : World}
theorem wc_rangeY {α σ : Type} {g : Operand} {p : Nat} {assign body : Code} {gf : Nat} {lb : List Value} (enc : α → Value) (S : Nat → Prop) (Yp : α → World → Prop) (Sd Sp : List α → Prop) (N : Nat)
    (hg : ev L g = some (.func (.func gf) #[] lb.toArray)) (he : Enters P gf) (hp : Nat.blt p m = true)
    (hseq : SeqY P gf lb enc S Yp Sd Sp N w) (hS : ∀ k, S k → k < w.heap.size) (hY : ∀ x A B, Yp x A → Nc w.heap.size A B → Yp x B)
    (I : List α → World → Prop) (Ix : Code → List α → World → Prop) (hI : ∀ s A B, I s A → Nc w.heap.size A B → I s B) (hIx : ∀ c s A B, Ix c s A → Nc w.heap.size A B → Ix c s B) (h0 : I [] w)
    (As : α → σ → World → Prop) (hAs : ∀ x s A B, As x s A → Nc w.heap.size A B → As x s B) (La : α → σ → Env)
    (hassign : ∀ (l : Nat) (pre : List α) (x : α) (A : World) (K : Act → World → Prop), I pre A → Yp x A → (∀ s B, Ext A B → As x s B → NX (fun _ a w => K a w) m [] .normal (La x s) B) → WC (Fence.wide.inRound l) 7 P (Exit.then K (fun _ _ _ => False)) m [] assign ((p, enc x) :: L) A)
    (hbody : ∀ (l : Nat) (pre : List α) (x : α) (s : σ) (A : World), I pre A → Yp x A → As x s A → pre.length < N → WC (Fence.wide.inRound l) 7 P (RoundQ w.heap.size S I Ix (pre ++ [x]) A) m [] body (La x s) A)
    (hdone : ∀ (B : Nat) (xs : List α) (W : World), w.heap.size ≤ B → Sd xs → I xs W → W.heap[B]? = some (.deferred (some [])) → NX Q m (mark B :: D) .normal L W)
    (hstop : ∀ (B : Nat) (c : Code) (pre : List α) (W : World), w.heap.size ≤ B → Sp pre → Ix c pre W → W.heap[B]? = some (.deferred (some [])) → WC Fence.wide 9 P Q m (mark B :: D) c L W) :
    WC Fence.wide 9 P Q m D (.rangeFunc g #[p] assign body) L w := by
  intro a ha
  have hpm : p < m := by simpa using hp
  have heg := ha.ev hg
  refine wpIn_rangeFunc fun fn hfn => ?_
  obtain ⟨rc, hrc⟩ : ∃ rc : LoopState → Option Code → Loop, rc = fun st pe => { state := st, pending := pe, fn := fn, tmps := a.tmps, params := #[p], assign := assign, body := body, defers := w.heap.size } := ⟨_, rfl⟩
  obtain ⟨W1, hW1⟩ : ∃ W1, (w.alloc (.deferred (some []))).alloc (.loop (rc .ready none)) = W1 := ⟨_, rfl⟩
  have hx1 : Ext w W1 := by rw [← hW1]; exact (ext_alloc w _).trans (ext_alloc _ _)
  have hsz1 : (w.alloc (.deferred (some []))).heap.size = w.heap.size + 1 := World.size_alloc _ _
  have hL1 : W1.heap[w.heap.size + 1]? = some (.loop (rc .ready none)) := by
    rw [← hW1]; have := heap_alloc_new (w.alloc (.deferred (some []))) (.loop (rc .ready none)); rwa [hsz1] at this
  have hK1 : W1.heap[w.heap.size]? = some (.deferred (some [])) := by
    rw [← hW1]
    have h2 := (ext_alloc (w.alloc (.deferred (some []))) (.loop (rc .ready none))).block w.heap.size (by rw [hsz1]; omega) trivial
    exact h2.trans (heap_alloc_new w _)
  -- the caller's invariant with the two records
  have hJe : ∀ {A B : World} {k : Nat} {o : Obj}, A.heap[k]? = some o → Ext A B → B.heap[k]? = some o := fun h hx => (hx.block _ (Array.getElem?_eq_some_iff.1 h).1 trivial).trans h
  refine ⟨w.heap.size + 1, [mark w.heap.size], W1, { target := .fn (.func gf) lb.toArray, args := #[.func (.yield (w.heap.size + 1)) #[] #[]] }, W1, gf, #[.func (.yield (w.heap.size + 1)) #[] #[]] ++ lb.toArray, W1, ?_, ?_, fun f' hf' => trivial, ?_, fun _ => by omega, ?_⟩
  · rw [← hW1, hrc]; exact run_enterLoop_outer _ _ _ _ _
  · simp only [resolve, heg]
    simp [go_sem]
  · have h5 := he (#[.func (.yield (w.heap.size + 1)) #[] #[]] ++ lb.toArray) W1
    simpa [invoke, go_sem] using h5
  · rw [show (#[Value.func (.yield (w.heap.size + 1)) #[] #[]] ++ lb.toArray : Array Value) = (Value.func (.yield (w.heap.size + 1)) #[] #[] :: lb).toArray from by simp]
    refine (hseq (w.heap.size + 1) (fun pre A => I pre A ∧ A.heap[w.heap.size + 1]? = some (.loop (rc .ready none)) ∧ A.heap[w.heap.size]? = some (.deferred (some [])))
      (fun pre A => ∃ c, Ix c pre A ∧ A.heap[w.heap.size + 1]? = some (.loop (rc .done (some c))) ∧ A.heap[w.heap.size]? = some (.deferred (some []))) W1 hx1
      (fun pre A B ⟨h1, h2, h3⟩ hx => ⟨hI _ _ _ h1 hx.nc, hJe h2 hx, hJe h3 hx⟩) (fun pre A B ⟨c, h1, h2, h3⟩ hx => ⟨c, hIx _ _ _ _ h1 hx.nc, hJe h2 hx, hJe h3 hx⟩) ?_ ⟨hI _ _ _ h0 hx1.nc, hL1, hK1⟩).mono ?_
    · rintro pre x A ⟨hi, hl, hk⟩ hyp hlen
      have hyl := run_yield (P := P) (args := #[enc x]) hl (by rw [hrc]; rfl)
      rw [hrc] at hyl
      refine ⟨fn, _, assign, body, hyl, roundIn_of_wpIn trivial ?_⟩
      clear hyl
      refine hassign _ pre x A _ hi hyp (fun s B hxB has a' ha' => ?_) _ ⟨by simp [ha.size], rfl, fun i v hiv => ?_⟩
      · -- the round
        replace hi := hI _ _ _ hi hxB.nc
        replace hyp := hY _ _ _ hyp hxB.nc
        replace hl := hJe hl hxB
        replace hk := hJe hk hxB
        have hlt : w.heap.size + 1 < B.heap.size := (Array.getElem?_eq_some_iff.1 hl).1
        refine ⟨_, run_beginRound hl (by rw [hrc]), ?_⟩
        have hl2 : (B.putObj (w.heap.size + 1) (.loop { rc .ready none with state := .busy })).heap[w.heap.size + 1]? = some (.loop { rc .ready none with state := .busy }) := World.putObj_heap_same hlt
        have hk2 : (B.putObj (w.heap.size + 1) (.loop { rc .ready none with state := .busy })).heap[w.heap.size]? = some (.deferred (some [])) := (World.putObj_heap_other (by omega)).trans hk
        have hn2 : Nc w.heap.size B (B.putObj (w.heap.size + 1) (.loop { rc .ready none with state := .busy })) := nc_obj hl rfl (by omega)
        have hkp : Keep S A (B.putObj (w.heap.size + 1) (.loop { rc .ready none with state := .busy })) := (Keep.of_ext hxB).trans (keep_obj hS (by omega))
        refine wpIn_mono (hbody _ pre x s _ (hI _ _ _ hi hn2) (hY _ _ _ hyp hn2) (hAs _ _ _ _ has hn2) hlen a' ha') ?_
        have fin : ∀ (jump : Option Code) (C : World), KeepsFrom w.heap.size (B.putObj (w.heap.size + 1) (.loop { rc .ready none with state := .busy })) C →
            (Instr.endRound (w.heap.size + 1) jump).run P C = .ok (.bool jump.isNone) (C.putObj (w.heap.size + 1) (.loop (rc (if jump.isNone then .ready else .done) jump))) ∧ Nc w.heap.size C (C.putObj (w.heap.size + 1) (.loop (rc (if jump.isNone then .ready else .done) jump))) ∧
            (C.putObj (w.heap.size + 1) (.loop (rc (if jump.isNone then .ready else .done) jump))).heap[w.heap.size + 1]? = some (.loop (rc (if jump.isNone then .ready else .done) jump)) ∧
            (C.putObj (w.heap.size + 1) (.loop (rc (if jump.isNone then .ready else .done) jump))).heap[w.heap.size]? = some (.deferred (some [])) := fun jump C hkC => by
          have hl3 := hkC.same _ _ (by omega) hl2 rfl
          have hr := run_endRound (P := P) jump hl3
          rw [hrc] at hr ⊢
          exact ⟨hr, nc_obj hl3 rfl (by omega), World.putObj_heap_same (Array.getElem?_eq_some_iff.1 hl3).1, (World.putObj_heap_other (by omega)).trans (hkC.same _ _ (Nat.le_refl _) hk2 rfl)⟩
        have out : ∀ (c : Code) (C : World), KeepsFrom w.heap.size (B.putObj (w.heap.size + 1) (.loop { rc .ready none with state := .busy })) C → Ix c (pre ++ [x]) C →
            ∃ v w', (Instr.endRound (w.heap.size + 1) (some c)).run P C = .ok v w' ∧ ((Ending.returned v = .returned (.bool true) ∧ (I (pre ++ [x]) w' ∧ w'.heap[w.heap.size + 1]? = some (.loop (rc .ready none)) ∧ w'.heap[w.heap.size]? = some (.deferred (some []))) ∧ Keep S A w') ∨
              (Ending.returned v = .returned (.bool false) ∧ ∃ c, Ix c (pre ++ [x]) w' ∧ w'.heap[w.heap.size + 1]? = some (.loop (rc .done (some c))) ∧ w'.heap[w.heap.size]? = some (.deferred (some [])))) := fun c C hkC hx => by
          obtain ⟨h1, h2, h3, h4⟩ := fin (some c) C hkC
          exact ⟨_, _, h1, .inr ⟨rfl, c, hIx _ _ _ _ hx h2, h3, h4⟩⟩
        rintro e a3 C hC
        cases e with
        | normal =>
          obtain ⟨hkC, hkS, hiC⟩ := hC
          obtain ⟨h1, h2, h3, h4⟩ := fin none C hkC
          exact ⟨_, _, h1, .inl ⟨rfl, ⟨hI _ _ _ hiC h2, h3, h4⟩, (hkp.trans hkS).trans (keep_obj hS (by omega))⟩⟩
        | ret => exact out _ C hC.1 hC.2
        | exit id => exact out _ C hC.1 hC.2
        | goto t => exact out _ C hC.1 hC.2
        | panic ch => exact hC.elim
        | outgrown => exact hC.elim
      · rw [at_cons] at hiv
        have e : (#[p].zip #[enc x]).foldl (fun t (q : Nat × Value) => t.setIfInBounds q.1 q.2) a.tmps = a.tmps.setIfInBounds p (enc x) := by simp
        show ((#[p].zip #[enc x]).foldl (fun t (q : Nat × Value) => t.setIfInBounds q.1 q.2) a.tmps)[i]? = some v
        rw [e]
        split at hiv
        · rename_i e; subst e; cases hiv; simp [ha.size, hpm]
        · rename_i e; rw [Array.getElem?_setIfInBounds_ne e]; exact ha.get i v hiv
    · rintro e W2 ⟨⟨v, rfl⟩, (⟨xs, hs, hi, hl, hk⟩ | ⟨pre, hs, c, hi, hl, hk⟩)⟩
      · refine ⟨none, _, (by have := run_endLoop (P := P) hl (by rw [hrc]; simp); rw [hrc] at this; exact this), ?_⟩
        exact hdone _ xs _ (Nat.le_refl _) hs (hI _ _ _ hi (nc_obj hl rfl (by omega))) ((World.putObj_heap_other (by omega)).trans hk) _ ⟨ha.size, by simp [mark, ha.defers], ha.get⟩
      · refine ⟨some c, _, (by have := run_endLoop (P := P) hl (by rw [hrc]; simp); rw [hrc] at this; exact this), ?_⟩
        exact hstop _ c pre _ (Nat.le_refl _) hs (hIx _ _ _ _ hi (nc_obj hl rfl (by omega))) ((World.putObj_heap_other (by omega)).trans hk) _ ⟨ha.size, by simp [mark, ha.defers], ha.get⟩
end
end Go.Proofs.Ytblbddamebbgaaa.K
