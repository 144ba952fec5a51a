import Derived.RangeFuncNested
import Derived.RangeFuncBound
import Derived.RangeFuncCalls
import Derived.RangeFuncLeaves
import Derived.Shelf.Abstract
import Derived.OrdersIn
import Derived.OwnWalkIn
import Derived.WalkKit
import Derived.TacticsInMore
import Derived.LoopNIn
import Derived.LoopIn
import Derived.KernelRfl
import Derived.WalkLawsBesides
import Derived.WalkSpells
/- My own walking rules (part 1): frames as lists of slots, regions, loops, calls. No program is named here. -/
namespace Go.Proofs.Ytblbddamebbgaaa.K
open Go Go.RowKit
set_option linter.unusedVariables false
set_option linter.unusedSectionVars false
set_option linter.unusedSimpArgs false

abbrev Env := List (Nat × Value)
def at' : Env → Nat → Option Value
  | [], _ => none
  | p :: l, i => bif Nat.beq p.1 i then some p.2 else at' l i

/-- The frame a, of m slots, holds what L says; D: its deferred calls. -/
structure Fr (m : Nat) (D : List Deferred) (a : Act) (L : Env) : Prop where
  size : a.tmps.size = m
  defers : a.defers = D
  get : ∀ i v, at' L i = some v → a.tmps[i]? = some v

def ev (L : Env) : Operand → Option Value
  | .tmp t => at' L t
  | .const v => some v
  | .global g => some (.pointer (some ⟨g, 0, none⟩))
  | .func f => some (.func (.func f) #[] #[])
def evs (L : Env) : List Operand → Option (List Value)
  | [] => some []
  | x :: l => match ev L x, evs L l with
    | some v, some vs => some (v :: vs)
    | _, _ => none

structure Wd (F : Fence) : Prop where
  fn : ∀ f, F.fn f
  depth : F.depth = none
theorem Wd.wide : Wd Fence.wide := ⟨fun _ => trivial, rfl⟩
theorem Wd.round {F : Fence} (h : Wd F) (l : Nat) : Wd (F.inRound l) := ⟨h.fn, h.depth⟩
theorem Wd.deep {F : Fence} (h : Wd F) (n : Nat) : F.depth.isSome = true → 1 ≤ n := by rw [h.depth]; simp

section
variable {F : Fence} {n : Nat} {P : Program} {Q : Exit → Act → World → Prop} {m : Nat} {D : List Deferred} {L : Env} {w w' : World} {a : Act}
variable {ops : List Oper} {rest : List Oper} {d : Nat} {ty : TypeId} {pos : String} {af : Array Edge} {g : Option (Nat × Bool)} {v : Value}

theorem Fr.ev (h : Fr m D a L) {x : Operand} (he : K.ev L x = some v) : a.eval x = v := by
  cases x with
  | tmp t =>
    have := h.get t v he
    show a.tmps.getD t undef = v
    rw [Array.getD_eq_getD_getElem?, this]; rfl
  | const u => exact Option.some.inj he
  | global q => exact Option.some.inj he
  | func f => exact Option.some.inj he

theorem evs_toList (h : Fr m D a L) : ∀ (l : List Operand) (vs : List Value), evs L l = some vs → l.map a.eval = vs
  | [], vs, he => by simp [evs] at he; subst he; rfl
  | x :: l, vs, he => by
    simp only [evs] at he
    split at he
    · rename_i u us h1 h2
      have he := Option.some.inj he
      subst he
      rw [List.map_cons, h.ev h1, evs_toList h l us h2]
    · cases he
theorem Fr.evs (h : Fr m D a L) {l : List Operand} {vs : List Value} (he : K.evs L l = some vs) : (l.toArray).map a.eval = vs.toArray := by
  rw [List.map_toArray, evs_toList h l vs he]

theorem Fr.put (h : Fr m D a L) (hd : Nat.blt d m = true) : Fr m D (a.put (some d) v) ((d, v) :: L) := by
  have hdm : d < m := by simpa using hd
  refine ⟨by simp [Act.put, h.size], h.defers, fun i u hi => ?_⟩
  simp only [at'] at hi
  cases hb : Nat.beq d i with
  | true =>
    have e : d = i := Nat.eq_of_beq_eq_true hb
    subst e
    simp [hb] at hi
    subst hi
    simp [Act.put, h.size, hdm]
  | false =>
    simp [hb] at hi
    have hne : d ≠ i := fun e => by subst e; rw [Nat.beq_refl] at hb; cases hb
    have := h.get i u hi
    simp only [Act.put, Array.getElem?_setIfInBounds_ne hne]
    exact this
theorem Fr.skip (h : Fr m D a L) : Fr m D (a.put none v) L := h

/-- L' says no more than L. -/
def Sub (L' L : Env) : Prop := ∀ i v, at' L' i = some v → at' L i = some v
theorem sub_nil : Sub [] L := fun _ _ h => by cases h
theorem sub_cons {L' : Env} {i : Nat} {u : Value} (h1 : at' L i = some u) (h2 : Sub L' L) : Sub ((i, u) :: L') L := fun j x hj => by
  simp only [at'] at hj
  cases hb : Nat.beq i j with
  | true => have e := Nat.eq_of_beq_eq_true hb; subst e; simp [hb] at hj; subst hj; exact h1
  | false => simp [hb] at hj; exact h2 j x hj
theorem Fr.sub {L' : Env} (h : Fr m D a L) (hs : Sub L' L) : Fr m D a L' := ⟨h.size, h.defers, fun i v hi => h.get i v (hs i v hi)⟩

/-! ### what is to be shown -/
def WL (F : Fence) (n : Nat) (P : Program) (Q : Exit → Act → World → Prop) (m : Nat) (D : List Deferred) (ops : List Oper) (l : List Oper) (L : Env) (w : World) : Prop :=
  ∀ a, Fr m D a L → wpListIn F n P ops.toArray Q l a w
def WC (F : Fence) (n : Nat) (P : Program) (Q : Exit → Act → World → Prop) (m : Nat) (D : List Deferred) (c : Code) (L : Env) (w : World) : Prop :=
  ∀ a, Fr m D a L → c.wpIn F n P Q a w
def NX (Q : Exit → Act → World → Prop) (m : Nat) (D : List Deferred) (e : Exit) (L : Env) (w : World) : Prop := ∀ a, Fr m D a L → Q e a w

theorem wl_sub {l : List Oper} {L' : Env} (hs : Sub L' L) (k : WL F n P Q m D ops l L' w) : WL F n P Q m D ops l L w := fun a h => k a (h.sub hs)
theorem wc_sub {c : Code} {L' : Env} (hs : Sub L' L) (k : WC F n P Q m D c L' w) : WC F n P Q m D c L w := fun a h => k a (h.sub hs)

/-! ### code -/
theorem wc_seq {x y : Code} (k : WC F n P (Exit.then (y.wpIn F n P Q) Q) m D x L w) : WC F n P Q m D (.seq x y) L w := fun a h => wpIn_seq (k a h)
theorem wc_skip (k : NX Q m D .normal L w) : WC F n P Q m D .skip L w := fun a h => wpIn_skip (k a h)
theorem wc_exit {id : Nat} (k : NX Q m D (.exit id) L w) : WC F n P Q m D (.exit id) L w := fun a h => wpIn_exit (k a h)
theorem wc_ret (k : NX Q m D .ret L w) : WC F n P Q m D .ret L w := fun a h => wpIn_ret (k a h)
theorem wc_block {id : Nat} {c : Code} (k : WC F n P (Exit.inBlock id Q) m D c L w) : WC F n P Q m D (.block id c) L w := fun a h => wpIn_block (k a h)
theorem wc_true {c : Operand} {x y : Code} (hc : ev L c = some (.bool true)) (k : WC F n P Q m D x L w) : WC F n P Q m D (.cond c x y) L w := fun a h => wpIn_cond_true (h.ev hc) (k a h)
theorem wc_false {c : Operand} {x y : Code} (hc : ev L c = some (.bool false)) (k : WC F n P Q m D y L w) : WC F n P Q m D (.cond c x y) L w := fun a h => wpIn_cond_false (h.ev hc) (k a h)
theorem wc_bool {c : Operand} {x y : Code} {b : Bool} (hc : ev L c = some (.bool b)) (k1 : b = true → WC F n P Q m D x L w) (k2 : b = false → WC F n P Q m D y L w) : WC F n P Q m D (.cond c x y) L w :=
  fun a h => wpIn_cond_split (h.ev hc) (fun e => k1 e a h) (fun e => k2 e a h)
theorem wc_dec {c : Operand} {x y : Code} {p : Prop} [Decidable p] (hc : ev L c = some (.bool (decide p))) (k1 : p → WC F n P Q m D x L w) (k2 : ¬ p → WC F n P Q m D y L w) : WC F n P Q m D (.cond c x y) L w :=
  wc_bool hc (fun e => k1 (of_decide_eq_true e)) (fun e => k2 (of_decide_eq_false e))
theorem nx_then {y : Code} (k : WC F n P Q m D y L w) : NX (Exit.then (y.wpIn F n P Q) Q) m D .normal L w := fun a h => k a h
theorem nx_then_ret {y : Act → World → Prop} (k : NX Q m D .ret L w) : NX (Exit.then y Q) m D .ret L w := fun a h => k a h
theorem nx_then_exit {y : Act → World → Prop} {id : Nat} (k : NX Q m D (.exit id) L w) : NX (Exit.then y Q) m D (.exit id) L w := fun a h => k a h
theorem nx_block {id : Nat} (k : NX Q m D .normal L w) : NX (Exit.inBlock id Q) m D .normal L w := fun a h => k a h
theorem nx_block_ret {id : Nat} (k : NX Q m D .ret L w) : NX (Exit.inBlock id Q) m D .ret L w := fun a h => k a h
theorem nx_block_exit {id : Nat} (k : NX Q m D .normal L w) : NX (Exit.inBlock id Q) m D (.exit id) L w := fun a h => by
  show (if id = id then Q .normal a w else Q (.exit id) a w); rw [if_pos rfl]; exact k a h
theorem nx_block_other {id j : Nat} (hne : Nat.beq j id = false) (k : NX Q m D (.exit j) L w) : NX (Exit.inBlock id Q) m D (.exit j) L w := fun a h => by
  have : j ≠ id := fun e => by subst e; rw [Nat.beq_refl] at hne; cases hne
  show (if j = id then Q .normal a w else Q (.exit j) a w); rw [if_neg this]; exact k a h

/-- A loop: s: what is known at a round's head (slots: env s; the rest: inv s). -/
def Next {σ : Type} (m : Nat) (D : List Deferred) (env : σ → Env) (inv : σ → World → Prop) (μ : σ → Nat) (s : σ) (a : Act) (w : World) : Prop := ∃ s', μ s' < μ s ∧ inv s' w ∧ Fr m D a (env s')
theorem wc_loop {σ : Type} {c : Code} (env : σ → Env) (inv : σ → World → Prop) (μ : σ → Nat) (s0 : σ) (h0 : inv s0 w) (hs : Sub (env s0) L)
    (round : ∀ s w, inv s w → WC F n P (Exit.then (Next m D env inv μ s) Q) m D c (env s) w) : WC F n P Q m D (.loop c) L w := by
  intro a ha
  have key : ∀ j s w a, μ s = j → inv s w → Fr m D a (env s) → ∀ (b : Frame) (k : List Item) (cs : List Frame), b.roundOf = F.round → F.fn b.fn → F.room (cs.length + 1 + n) →
      ∃ e a' w', Q e a' w' ∧ ArrivesIn (Machine.fenced P F) P (lone (b.atR a (.code c :: .inLoop c :: k)) cs w) b k cs e a' w' := by
    intro j
    induction j using Nat.strongRecOn with
    | _ j ih =>
      intro s w a hj hI hf b k cs hro hb hr
      obtain ⟨e, a₁, w₁, hq, harr⟩ := round s w hI a hf b (.inLoop c :: k) cs hro hb hr
      cases e with
      | normal =>
        obtain ⟨s', hlt, hI₁, hf₁⟩ := hq
        obtain ⟨e₂, a₂, w₂, hq₂, harr₂⟩ := ih (μ s') (hj ▸ hlt) s' w₁ a₁ rfl hI₁ hf₁ b k cs hro hb hr
        exact ⟨e₂, a₂, w₂, hq₂, .of_steps (StepsIn.trans harr (.one (fenced_calm hb hr rfl) stepR_inLoop)) harr₂⟩
      | exit id => exact ⟨_, a₁, w₁, hq, .pass (x := .inLoop c) rfl (fun _ _ => .inl (by simp)) harr⟩
      | goto l => exact ⟨_, a₁, w₁, hq, .pass (x := .inLoop c) rfl (fun _ _ => .inl (by simp)) harr⟩
      | ret => exact ⟨_, a₁, w₁, hq, .pass (x := .inLoop c) rfl (fun _ _ => .inl (by simp)) harr⟩
      | panic ch => exact ⟨_, a₁, w₁, hq, .pass (x := .inLoop c) rfl (fun _ _ => .inl (by simp)) harr⟩
      | outgrown => exact ⟨_, a₁, w₁, hq, .pass (x := .inLoop c) rfl (fun _ _ => .inl (by simp)) harr⟩
  intro b k cs hro hb hr
  obtain ⟨e, a', w', hq, harr⟩ := key _ s0 w a rfl h0 (ha.sub hs) b k cs hro hb hr
  exact ⟨e, a', w', hq, .of_steps (.one (fenced_calm hb hr rfl) stepR_loop) harr⟩
theorem nx_next {σ : Type} {env : σ → Env} {inv : σ → World → Prop} {μ : σ → Nat} {s : σ} (s' : σ) (hμ : μ s' < μ s) (hi : inv s' w) (hs : Sub (env s') L) :
    NX (Exit.then (Next m D env inv μ s) Q) m D .normal L w := fun a h => ⟨s', hμ, hi, h.sub hs⟩

/-! ### regions in the text's order -/
theorem wc_region {id : Nat} (k : WL F n P Q m D ops ops L w) : WC F n P Q m D (.region id ops.toArray false) L w := fun a h => wpIn_region_lit (k a h)
theorem wl_nil (k : NX Q m D .normal L w) : WL F n P Q m D ops [] L w := fun a h => k a h

def gdst : List Oper → Nat → Option Tmp
  | [], _ => none
  | o :: _, 0 => o.dst
  | _ :: l, j + 1 => gdst l j
theorem gdst_eq : ∀ (l : List Oper) (j : Nat), gdst l j = (l[j]?).bind (·.dst)
  | [], _ => by simp [gdst]
  | o :: l, 0 => by simp [gdst]
  | o :: l, j + 1 => by simp [gdst, gdst_eq l j]
/-- Is a guarded operation carried out? -/
def wants (L : Env) (ops : List Oper) : Option (Nat × Bool) → Option Bool
  | none => some true
  | some (j, want) => match gdst ops j with
    | some d => match at' L d with
      | some (.bool b) => some (b == want)
      | some (.tuple _) => some false
      | _ => none
    | none => none
theorem Fr.wanted (h : Fr m D a L) {o : Oper} {b : Bool} (hw : wants L ops o.guard = some b) : Region.wanted o (yielded ops.toArray a.tmps) = b := by
  unfold Region.wanted
  cases hg : o.guard with
  | none => rw [hg] at hw; simp [wants] at hw; subst hw; rfl
  | some p =>
    obtain ⟨j, want⟩ := p
    rw [hg] at hw
    simp only [wants] at hw
    split at hw
    · rename_i d hd
      rw [gdst_eq] at hd
      split at hw
      · rename_i b' hb'
        have hw := Option.some.inj hw
        have h1 := h.get d _ hb'
        subst hw
        simp only [yielded, List.getElem?_toArray, hd, Option.bind_some, h1]
        cases b' <;> cases want <;> rfl
      · rename_i x hb'
        have hw := Option.some.inj hw
        have h1 := h.get d _ hb'
        subst hw
        simp only [yielded, List.getElem?_toArray, hd, Option.bind_some, h1]
        rfl
      · cases hw
    · cases hw

theorem wpIn_value {o : Oper} {K : Act → World → Prop} (hW : Wd F) (hnd : ∀ c, o.op ≠ .defer c) (hx : (execOp a.eval o).run P w = .ok (.value v) w') (hk : K (a.put o.dst v) w') : o.wpIn F n P a w K Q := by
  refine ⟨fun f _ => hW.fn f, ?_⟩
  rw [Oper.semAt_eq _ _ _ hnd, hx]
  exact hk
theorem wpIn_skipped {o : Oper} {K : Act → World → Prop} (hW : Wd F) (hnd : ∀ c, o.op ≠ .defer c) (hx : (execOp a.eval o).run P w = .ok .skip w') (hk : K (a.put o.dst undef) w') : o.wpIn F n P a w K Q := by
  refine ⟨fun f _ => hW.fn f, ?_⟩
  rw [Oper.semAt_eq _ _ _ hnd, hx]
  exact hk
theorem wpIn_entered {o : Oper} {K : Act → World → Prop} {f : FuncId} {args : Array Value} {R : Value → World → Prop} (hW : Wd F) (hnd : ∀ c, o.op ≠ .defer c) (hx : (execOp a.eval o).run P w = .ok (.enter f args) w')
    (hc : CallsIn F (n - 1) P f args w' fun e w'' => ∃ v, e = .returned v ∧ R v w'') (hk : ∀ v w'', R v w'' → K (a.put o.dst v) w'') : o.wpIn F n P a w K Q := by
  refine ⟨fun f _ => hW.fn f, ?_⟩
  rw [Oper.semAt_eq _ _ _ hnd, hx]
  exact ⟨hW.deep n, hc.mono (fun e w'' ⟨v, he, hr⟩ => by subst he; exact hk v w'' hr)⟩

/-- An operation that yields a value. -/
def Xv (P : Program) (m : Nat) (D : List Deferred) (L : Env) (op : Op) (ty : TypeId) (w : World) (v : Value) (w' : World) : Prop :=
  (∀ c, op ≠ .defer c) ∧ ∀ (d : Option Tmp) (pos : String) (af : Array Edge) (g : Option (Nat × Bool)) a, Fr m D a L → (execOp a.eval ⟨d, op, ty, pos, af, g⟩).run P w = .ok (.value v) w'
/-- An operation that yields none. -/
def Xs (P : Program) (m : Nat) (D : List Deferred) (L : Env) (op : Op) (ty : TypeId) (w : World) (w' : World) : Prop :=
  (∀ c, op ≠ .defer c) ∧ ∀ (d : Option Tmp) (pos : String) (af : Array Edge) (g : Option (Nat × Bool)) a, Fr m D a L → (execOp a.eval ⟨d, op, ty, pos, af, g⟩).run P w = .ok .skip w'
/-- An operation that calls. -/
def Xc (P : Program) (m : Nat) (D : List Deferred) (L : Env) (op : Op) (ty : TypeId) (w : World) (f : FuncId) (args : Array Value) (w' : World) : Prop :=
  (∀ c, op ≠ .defer c) ∧ ∀ (d : Option Tmp) (pos : String) (af : Array Edge) (g : Option (Nat × Bool)) a, Fr m D a L → (execOp a.eval ⟨d, op, ty, pos, af, g⟩).run P w = .ok (.enter f args) w'

theorem wl_val {op : Op} (hW : Wd F) (hg : wants L ops g = some true) (hd : Nat.blt d m = true) (hx : Xv P m D L op ty w v w') (k : WL F n P Q m D ops rest ((d, v) :: L) w') :
    WL F n P Q m D ops (⟨some d, op, ty, pos, af, g⟩ :: rest) L w := fun a h => by
  unfold wpListIn
  rw [if_pos (h.wanted (o := ⟨some d, op, ty, pos, af, g⟩) hg)]
  exact wpIn_value hW hx.1 (hx.2 _ _ _ _ a h) (k _ (h.put hd))
theorem wl_none {op : Op} (hW : Wd F) (hg : wants L ops g = some true) (hx : Xs P m D L op ty w w') (k : WL F n P Q m D ops rest L w') :
    WL F n P Q m D ops (⟨none, op, ty, pos, af, g⟩ :: rest) L w := fun a h => by
  unfold wpListIn
  rw [if_pos (h.wanted (o := ⟨none, op, ty, pos, af, g⟩) hg)]
  exact wpIn_skipped hW hx.1 (hx.2 _ _ _ _ a h) (k _ h)
theorem wl_valnone {op : Op} (hW : Wd F) (hg : wants L ops g = some true) (hx : Xv P m D L op ty w v w') (k : WL F n P Q m D ops rest L w') :
    WL F n P Q m D ops (⟨none, op, ty, pos, af, g⟩ :: rest) L w := fun a h => by
  unfold wpListIn
  rw [if_pos (h.wanted (o := ⟨none, op, ty, pos, af, g⟩) hg)]
  exact wpIn_value hW hx.1 (hx.2 _ _ _ _ a h) (k _ h)
theorem wl_off {op : Op} (hW : Wd F) (hg : wants L ops g = some false) (hd : Nat.blt d m = true) (k : WL F n P Q m D ops rest ((d, undef) :: L) w) :
    WL F n P Q m D ops (⟨some d, op, ty, pos, af, g⟩ :: rest) L w := fun a h => by
  unfold wpListIn
  rw [if_neg (by rw [h.wanted (o := ⟨some d, op, ty, pos, af, g⟩) hg]; simp)]
  exact ⟨fun f _ => hW.fn f, k _ (h.put hd)⟩
theorem wl_call {op : Op} {f : FuncId} {args : Array Value} {R : Value → World → Prop} (hW : Wd F) (hg : wants L ops g = some true) (hd : Nat.blt d m = true) (hx : Xc P m D L op ty w f args w)
    (hc : CallsIn F (n - 1) P f args w fun e w'' => ∃ v, e = .returned v ∧ R v w'') (k : ∀ v w'', R v w'' → WL F n P Q m D ops rest ((d, v) :: L) w'') :
    WL F n P Q m D ops (⟨some d, op, ty, pos, af, g⟩ :: rest) L w := fun a h => by
  unfold wpListIn
  rw [if_pos (h.wanted (o := ⟨some d, op, ty, pos, af, g⟩) hg)]
  exact wpIn_entered hW hx.1 (hx.2 _ _ _ _ a h) hc (fun v w'' hr => k v w'' hr _ (h.put hd))
theorem wl_callnone {op : Op} {f : FuncId} {args : Array Value} {R : Value → World → Prop} (hW : Wd F) (hg : wants L ops g = some true) (hx : Xc P m D L op ty w f args w)
    (hc : CallsIn F (n - 1) P f args w fun e w'' => ∃ v, e = .returned v ∧ R v w'') (k : ∀ v w'', R v w'' → WL F n P Q m D ops rest L w'') :
    WL F n P Q m D ops (⟨none, op, ty, pos, af, g⟩ :: rest) L w := fun a h => by
  unfold wpListIn
  rw [if_pos (h.wanted (o := ⟨none, op, ty, pos, af, g⟩) hg)]
  exact wpIn_entered hW hx.1 (hx.2 _ _ _ _ a h) hc (fun v w'' hr => k v w'' hr _ h)

/-! ### a function -/
/-- What a call comes to: it returns, and R. -/
def Rt (P : Program) (f : FuncId) (args : List Value) (w : World) (R : Value → World → Prop) : Prop := Calls P f args.toArray w fun e w' => ∃ v, e = .returned v ∧ R v w'
theorem Rt.mono {f : FuncId} {args : List Value} {R R' : Value → World → Prop} (h : Rt P f args w R) (hr : ∀ v w', R v w' → R' v w') : Rt P f args w R' :=
  Calls.mono h (fun e w' ⟨v, he, hv⟩ => ⟨v, he, hr v w' hv⟩)
theorem Rt.inF {f : FuncId} {args : List Value} {R : Value → World → Prop} (hW : F = Fence.wide ∨ ∃ l, F = Fence.wide.inRound l) (h : Rt P f args w R) : CallsIn F n P f args.toArray w fun e w' => ∃ v, e = .returned v ∧ R v w' := by
  rcases hW with rfl | ⟨l, rfl⟩
  · exact callsIn_wide.2 h
  · exact CallsIn.inRound l (callsIn_wide.2 h)

def env0 (i : Nat) : List Value → Env
  | [] => []
  | v :: l => (i, v) :: env0 (i + 1) l
theorem at_env0 : ∀ (l : List Value) (i j : Nat) (v : Value), at' (env0 i l) j = some v → i ≤ j ∧ l[j - i]? = some v
  | [], i, j, v, h => by cases h
  | u :: l, i, j, v, h => by
    simp only [env0, at'] at h
    cases hb : Nat.beq i j with
    | true => have e := Nat.eq_of_beq_eq_true hb; subst e; simp [hb] at h; subst h; exact ⟨Nat.le_refl _, by simp⟩
    | false =>
      simp [hb] at h
      obtain ⟨h1, h2⟩ := at_env0 l (i + 1) j v h
      refine ⟨by omega, ?_⟩
      have : j - i = (j - (i + 1)) + 1 := by omega
      rw [this, List.getElem?_cons_succ]; exact h2
theorem fr_enter {fn : Func} {args : List Value} (hm : fn.ntmps = m) (hl : Nat.ble args.length m = true) : Fr m [] { tmps := args.toArray ++ Array.replicate (fn.ntmps - args.toArray.size) undef, defers := [] } (env0 0 args) := by
  have hl' : args.length ≤ m := by simpa using hl
  refine ⟨by simp [hm]; omega, rfl, fun i v hi => ?_⟩
  obtain ⟨-, h2⟩ := at_env0 args 0 i v hi
  have h3 : args[i]? = some v := by simpa using h2
  have hlt : i < args.length := (List.getElem?_eq_some_iff.1 h3).1
  rw [Array.getElem?_append_left (by simpa using hlt)]
  simpa using h3

/-! ### the end of a function -/
def ok1 (R : Value → World → Prop) : Ending → World → Prop := fun e w' => ∃ v, e = .returned v ∧ R v w'
theorem rt_body {f : FuncId} {fn : Func} {c : Code} {args : List Value} {R : Value → World → Prop} (hf : P.funcs[f]? = some fn) (hb : fn.body = some c) (hm : fn.ntmps = m) (hl : Nat.ble args.length m = true)
    (k : WC Fence.wide 9 P (bodyPostM Fence.wide 9 P fn (ok1 R)) m [] c (env0 0 args) w) : Rt P f args w R := by
  refine (callsIn_wide (n := 9)).1 ?_
  exact callsIn_of_wp_marks hf hb trivial (k _ (fr_enter hm hl)) rfl

/-- Where the results lie. -/
def Res (P : Program) (fn : Func) (m : Nat) (D : List Deferred) (L : Env) (w : World) (v : Value) : Prop := ∀ a, Fr m D a L → (results fn a.tmps).run P w = .ok v w
theorem ends_ret {fn : Func} {R : Value → World → Prop} (hr : Res P fn m [] L w v) (k : R v w) : NX (bodyPostM F n P fn (ok1 R)) m [] .ret L w := fun a h => by
  show LeavesInM F n P fn a.tmps _ a.defers .returning w
  rw [h.defers]
  exact ⟨v, hr a h, v, rfl, k⟩
theorem ends_normal {fn : Func} {R : Value → World → Prop} (hr : Res P fn m [] L w v) (k : R v w) : NX (bodyPostM F n P fn (ok1 R)) m [] .normal L w := ends_ret (F := F) (n := n) hr k
def mark (B : Nat) : Deferred := { target := .collected B, args := #[] }
theorem ends_ret_mark {fn : Func} {R : Value → World → Prop} {B : Nat} (hB : w.heap[B]? = some (.deferred (some []))) (hr : Res P fn m [mark B] L (w.putObj B (.deferred none)) v) (k : R v (w.putObj B (.deferred none))) :
    NX (bodyPostM F n P fn (ok1 R)) m [mark B] .ret L w := fun a h => by
  show LeavesInM F n P fn a.tmps _ a.defers .returning w
  rw [h.defers]
  exact ⟨by simp, .inl ⟨B, _, rfl, run_takeDeferred hB, v, hr a h, v, rfl, k⟩⟩
theorem ends_normal_mark {fn : Func} {R : Value → World → Prop} {B : Nat} (hB : w.heap[B]? = some (.deferred (some []))) (hr : Res P fn m [mark B] L (w.putObj B (.deferred none)) v) (k : R v (w.putObj B (.deferred none))) :
    NX (bodyPostM F n P fn (ok1 R)) m [mark B] .normal L w := ends_ret_mark (F := F) (n := n) hB hr k
theorem res_none {fn : Func} (hr : fn.results = #[]) : Res P fn m D L w (.tuple #[]) := fun a h => results_none hr _ _ _
theorem Fr.getD (h : Fr m D a L) {t : Nat} (hv : at' L t = some v) : a.tmps.getD t undef = v := h.ev (x := .tmp t) hv
theorem res_tmp {fn : Func} {t : Tmp} (hr : fn.results = #[.tmp t]) (hv : at' L t = some v) : Res P fn m D L w v := fun a h => by rw [results_tmp hr, h.getD hv]
theorem res_tmp2 {fn : Func} {t u : Tmp} {v1 v2 : Value} (hr : fn.results = #[.tmp t, .tmp u]) (h1 : at' L t = some v1) (h2 : at' L u = some v2) : Res P fn m D L w (.tuple #[v1, v2]) := fun a h => by
  rw [results_tmp2 hr, h.getD h1, h.getD h2]
theorem res_cell {fn : Func} {t : Tmp} {T : TypeId} {ad : Addr} (hr : fn.results = #[.cell t T]) (h1 : at' L t = some (.pointer (some ad))) (hl : (loadVar T ad).run P w = .ok v w) : Res P fn m D L w v := fun a h => by
  have := h.getD h1
  simp only [Array.getD_eq_getD_getElem?] at this
  simp [results, hr, this, asAddr, hl]
theorem res_cell_tmp {fn : Func} {t u : Tmp} {T : TypeId} {ad : Addr} {v1 v2 : Value} (hr : fn.results = #[.cell t T, .tmp u]) (h1 : at' L t = some (.pointer (some ad))) (hl : (loadVar T ad).run P w = .ok v1 w) (h2 : at' L u = some v2) : Res P fn m D L w (.tuple #[v1, v2]) := fun a h => by
  have e1 := h.getD h1
  have e2 := h.getD h2
  simp only [Array.getD_eq_getD_getElem?] at e1 e2
  simp [results, hr, e1, e2, asAddr, hl]
theorem res_tmp_cell {fn : Func} {t u : Tmp} {T : TypeId} {ad : Addr} {v1 v2 : Value} (hr : fn.results = #[.tmp u, .cell t T]) (h1 : at' L t = some (.pointer (some ad))) (hl : (loadVar T ad).run P w = .ok v1 w) (h2 : at' L u = some v2) : Res P fn m D L w (.tuple #[v2, v1]) := fun a h => by
  have e1 := h.getD h1
  have e2 := h.getD h2
  simp only [Array.getD_eq_getD_getElem?] at e1 e2
  simp [results, hr, e1, e2, asAddr, hl]

/-! ### a call of yield -/
theorem wl_yield {l : Nat} {fo : Operand} {xs : List Operand} {vs : List Value} {at_ : Array TypeId} {R : Value → World → Prop} (hW : Wd F) (hg : wants L ops g = some true) (hd : Nat.blt d m = true)
    (hf : ev L fo = some (.func (.yield l) #[] #[])) (ha : evs L xs = some vs) (hY : YieldAt F (n - 1) P l vs.toArray w (ok1 R)) (k : ∀ v w'', R v w'' → WL F n P Q m D ops rest ((d, v) :: L) w'') :
    WL F n P Q m D ops (⟨some d, .call ⟨.value fo, xs.toArray, at_⟩, ty, pos, af, g⟩ :: rest) L w := fun a h => by
  unfold wpListIn
  rw [if_pos (h.wanted (o := ⟨some d, .call ⟨.value fo, xs.toArray, at_⟩, ty, pos, af, g⟩) hg)]
  obtain ⟨fn, tmps, assign, body, hy, hR⟩ := hY
  refine ⟨fun f _ => hW.fn f, ?_⟩
  rw [Oper.semAt_eq _ _ _ (by intro c h; cases h)]
  have hx : (execOp a.eval ⟨some d, .call ⟨.value fo, xs.toArray, at_⟩, ty, pos, af, g⟩).run P w = .ok (.round l fn tmps assign body) w := by
    have h2 := h.evs ha
    have h1 := h.ev hf
    simp only [execOp, resolve, h1, h2]
    simpa [Deferred.ofValue, invoke, Sem.run_bind] using hy
  rw [hx]
  exact ⟨hW.deep n, hR.mono (fun e w'' ⟨v, he, hr⟩ => by subst he; exact k v w'' hr _ (h.put hd))⟩
end
end Go.Proofs.Ytblbddamebbgaaa.K

/- My own walking rules (part 2): each kind of operation, and what it leaves of memory. No program is named here. -/
namespace Go.Proofs.Ytblbddamebbgaaa.K
open Go Go.RowKit
set_option linter.unusedVariables false
set_option linter.unusedSectionVars false
set_option linter.unusedSimpArgs false

/-! ### what a step leaves of memory -/
/-- The blocks of S are as they were. -/
structure Keep (S : Nat → Prop) (w w' : World) : Prop where
  os : w'.os = w.os
  tape : w'.tape = w.tape
  output : w'.output = w.output
  size : w.heap.size ≤ w'.heap.size
  block : ∀ k, k < w.heap.size → S k → w'.heap[k]? = w.heap[k]?
/-- All that was there is as it was. -/
abbrev Ext (w w' : World) : Prop := Keep (fun _ => True) w w'
theorem Keep.refl (S : Nat → Prop) (w : World) : Keep S w w := ⟨rfl, rfl, rfl, Nat.le_refl _, fun _ _ _ => rfl⟩
theorem Keep.trans {S : Nat → Prop} {a b c : World} (h : Keep S a b) (k : Keep S b c) : Keep S a c :=
  ⟨k.os.trans h.os, k.tape.trans h.tape, k.output.trans h.output, Nat.le_trans h.size k.size, fun i hi hs => (k.block i (Nat.lt_of_lt_of_le hi h.size) hs).trans (h.block i hi hs)⟩
theorem Keep.mono {S S' : Nat → Prop} {w w' : World} (h : Keep S w w') (hs : ∀ k, k < w.heap.size → S' k → S k) : Keep S' w w' := ⟨h.os, h.tape, h.output, h.size, fun k hk hk' => h.block k hk (hs k hk hk')⟩
theorem Keep.of_ext {S : Nat → Prop} {w w' : World} (h : Ext w w') : Keep S w w' := h.mono fun _ _ _ => trivial
theorem Keep.below {S : Nat → Prop} {w w' : World} (h : Keep S w w') {B : Nat} (hB : B ≤ w.heap.size) (hs : ∀ k, k < B → S k) : Below B w w' :=
  ⟨h.os, h.tape, h.output, h.size, fun k hk => h.block k (by omega) (hs k hk)⟩
theorem Ext.below {w w' : World} (h : Ext w w') : Below w.heap.size w w' := Keep.below h (Nat.le_refl _) fun _ _ => trivial
theorem Ext.of_below {w w' : World} (h : Below w.heap.size w w') : Ext w w' := ⟨h.os, h.tape, h.output, h.size, fun k hk _ => h.block k hk⟩
theorem Keep.of_below {B : Nat} {w w' : World} (h : Below B w w') : Keep (· < B) w w' := ⟨h.os, h.tape, h.output, h.size, fun k _ hk => h.block k hk⟩
theorem Keep.grown {w w' : World} {row : Option Nat} (h : w.grownBy w' row) : Keep (fun k => some k ≠ row) w w' := ⟨h.os, h.tape, h.output, h.size, fun k hk hs => h.block k hk hs⟩
theorem ext_drew (w : World) : Ext w w.drew := ⟨rfl, rfl, rfl, Nat.le_refl _, fun _ _ _ => rfl⟩
theorem ext_alloc (w : World) (o : Obj) : Ext w (w.alloc o) := Ext.of_below ((Below.refl _ w).alloc (Nat.le_refl _) o)
theorem Keep.cell {S : Nat → Prop} {w w' : World} (h : Keep S w w') {ad : Addr} {v : Value} (hc : w.cell? ad = some v) (hs : S ad.block) : w'.cell? ad = some v :=
  (World.cell?_of_block (w := w) (h.block _ (World.block_lt_of_cell? w _ hc) hs)).trans hc
theorem Ext.cell {w w' : World} (h : Ext w w') {ad : Addr} {v : Value} (hc : w.cell? ad = some v) : w'.cell? ad = some v := Keep.cell h hc trivial

theorem Keep.store {w0 w w' : World} {b : Nat} (h : Ext w0 w) (hk : Keep (· ≠ b) w w') (hb : w0.heap.size ≤ b) : Ext w0 w' :=
  ⟨hk.os.trans h.os, hk.tape.trans h.tape, hk.output.trans h.output, Nat.le_trans h.size hk.size, fun k hk' _ => (hk.block k (Nat.lt_of_lt_of_le hk' h.size) (by omega)).trans (h.block k hk' trivial)⟩
/-- A step that turns one row of the call's own. -/
theorem Keep.rowed {w0 w w' : World} {row : Option Nat} (h : Ext w0 w) (hk : Keep (fun k => some k ≠ row) w w') (hb : ∀ b, row = some b → w0.heap.size ≤ b) : Ext w0 w' :=
  ⟨hk.os.trans h.os, hk.tape.trans h.tape, hk.output.trans h.output, Nat.le_trans h.size hk.size, fun k hk' _ => (hk.block k (Nat.lt_of_lt_of_le hk' h.size) (fun e => by have := hb k e.symm; omega)).trans (h.block k hk' trivial)⟩
/-- Block b: cells cs, of type t, not frozen. -/
def Blk (w : World) (b : Nat) (cs : List Value) (t : TypeId) : Prop := w.heap[b]? = some (.cells cs.toArray t (0, 0))
section
variable {w w' : World} {b o : Nat} {cs : List Value} {t : TypeId} {v u : Value}
theorem Blk.lt (h : Blk w b cs t) : b < w.heap.size := (Array.getElem?_eq_some_iff.1 h).1
theorem Blk.keep {S : Nat → Prop} (h : Blk w b cs t) (hk : Keep S w w') (hs : S b) : Blk w' b cs t := (hk.block b h.lt hs).trans h
theorem Blk.ext (h : Blk w b cs t) (hk : Ext w w') : Blk w' b cs t := h.keep hk trivial
theorem Blk.cell (h : Blk w b cs t) (hc : cs[o]? = some v) : w.cell? ⟨b, o, none⟩ = some v := by
  rw [cell_of_row w b o _ t (0, 0) h]; simpa using hc
theorem Blk.free (h : Blk w b cs t) : w.frozen? ⟨b, o, none⟩ = false := frozen_of_row w b o _ t h
theorem blk_new (w : World) (cs : List Value) (t : TypeId) : Blk (w.alloc (.cells cs.toArray t)) w.heap.size cs t := heap_alloc_new w _
theorem Blk.set (h : Blk w b cs t) (o : Nat) (v : Value) : Blk (w.setCell ⟨b, o, none⟩ v) b (cs.set o v) t := by
  have := heap_setCell_same w b o cs.toArray t v h
  unfold Blk; rw [this]; simp
theorem keep_set (w : World) (b o : Nat) (v : Value) : Keep (· ≠ b) w (w.setCell ⟨b, o, none⟩ v) :=
  ⟨rfl, rfl, rfl, by simp, fun k _ hk => heap_setCell_other w ⟨b, o, none⟩ k v hk⟩
end
theorem add_mk (b o j : Nat) : (⟨b, o, none⟩ : Addr).add j = ⟨b, o + j, none⟩ := by unfold Addr.add; split <;> simp_all

/-! ### types -/
def Flat (P : Program) (t : TypeId) : Prop := ∀ w, (isAgg t).run P w = .ok false w ∧ (sizeOf t).run P w = .ok 1 w
def Agg (P : Program) (t : TypeId) (k : Nat) : Prop := ∀ w, (isAgg t).run P w = .ok true w ∧ (sizeOf t).run P w = .ok k w
def Siz (P : Program) (t : TypeId) (k : Nat) : Prop := ∀ w, (sizeOf t).run P w = .ok k w
section
variable {P : Program} {t : TypeId} {k : Nat}
theorem siz_of (hi : (P.info? t).map (·.size) = some k) : Siz P t k := fun w => by
  cases hq : P.info? t with
  | none => simp [hq] at hi
  | some i => simp [hq] at hi; simp [sizeOf, typeInfo, hq, hi]
theorem flat_of {d : TypeDesc} (hu : P.underlying t = some d) (hd : (match d with | .struct _ | .array _ _ => true | _ => false) = false) (hi : (P.info? t).map (·.size) = some 1) : Flat P t := fun w => by
  refine ⟨?_, siz_of hi w⟩
  unfold isAgg
  rw [Sem.run_bind, run_underlying hu w]
  cases d <;> simp_all
theorem agg_of {d : TypeDesc} (hu : P.underlying t = some d) (hd : (match d with | .struct _ | .array _ _ => true | _ => false) = true) (hi : (P.info? t).map (·.size) = some k) : Agg P t k := fun w => by
  refine ⟨?_, siz_of hi w⟩
  unfold isAgg
  rw [Sem.run_bind, run_underlying hu w]
  cases d <;> simp_all
theorem Flat.siz (h : Flat P t) : Siz P t 1 := fun w => (h w).2
theorem Agg.siz (h : Agg P t k) : Siz P t k := fun w => (h w).2
end

section
variable {P : Program} {m : Nat} {D : List Deferred} {L : Env} {w w' : World} {ty t e : TypeId} {x y z : Operand} {v u : Value} {k : Nat}
/-! ### operations that touch no memory -/
theorem x_move (hx : ev L x = some v) : Xv P m D L (.move x) ty w v w := ⟨nofun, fun _ _ _ _ a h => by simp [execOp, h.ev hx]⟩
theorem x_assign (hx : ev L x = some v) : Xv P m D L (.assign x) ty w v w := ⟨nofun, fun _ _ _ _ a h => by simp [execOp, h.ev hx]⟩
theorem x_pick {b : Bool} (hc : ev L z = some (.bool b)) (hx : ev L x = some u) (hy : ev L y = some v) : Xv P m D L (.pick z x y) ty w (if b then u else v) w :=
  ⟨nofun, fun _ _ _ _ a h => by simp [execOp, h.ev hc, h.ev hx, h.ev hy, asBool]⟩
theorem x_pickT (hc : ev L z = some (.bool true)) (hx : ev L x = some u) : Xv P m D L (.pick z x y) ty w u w :=
  ⟨nofun, fun _ _ _ _ a h => by simp [execOp, h.ev hc, h.ev hx, asBool]⟩
theorem x_pickF (hc : ev L z = some (.bool false)) (hx : ev L y = some u) : Xv P m D L (.pick z x y) ty w u w :=
  ⟨nofun, fun _ _ _ _ a h => by simp [execOp, h.ev hc, h.ev hx, asBool]⟩
theorem x_not {b : Bool} (hx : ev L x = some (.bool b)) : Xv P m D L (.unOp .not t x) ty w (.bool (!b)) w :=
  ⟨nofun, fun _ _ _ _ a h => by simp [execOp, h.ev hx, Op.unary]⟩
theorem x_extract {vs : Array Value} {i : Nat} (hx : ev L x = some (.tuple vs)) (hi : vs[i]? = some v) : Xv P m D L (.extract x i) ty w v w :=
  ⟨nofun, fun _ _ _ _ a h => by simp [execOp, h.ev hx, Instr.extract, hi]⟩
section
variable {q : IntKind} {i j : Int} {t' : TypeId}
theorem x_lss (hx : ev L x = some (.int q i)) (hy : ev L y = some (.int q j)) : Xv P m D L (.binOp .lss t x y t') ty w (.bool (decide (i < j))) w :=
  ⟨nofun, fun _ _ _ _ a h => by simp [execOp, h.ev hx, h.ev hy, eqGuard, binOp, Op.intCmp]⟩
theorem x_leq (hx : ev L x = some (.int q i)) (hy : ev L y = some (.int q j)) : Xv P m D L (.binOp .leq t x y t') ty w (.bool (decide (i ≤ j))) w :=
  ⟨nofun, fun _ _ _ _ a h => by simp [execOp, h.ev hx, h.ev hy, eqGuard, binOp, Op.intCmp]⟩
theorem x_gtr (hx : ev L x = some (.int q i)) (hy : ev L y = some (.int q j)) : Xv P m D L (.binOp .gtr t x y t') ty w (.bool (decide (j < i))) w :=
  ⟨nofun, fun _ _ _ _ a h => by simp [execOp, h.ev hx, h.ev hy, eqGuard, binOp, Op.intCmp]⟩
theorem x_geq (hx : ev L x = some (.int q i)) (hy : ev L y = some (.int q j)) : Xv P m D L (.binOp .geq t x y t') ty w (.bool (decide (j ≤ i))) w :=
  ⟨nofun, fun _ _ _ _ a h => by simp [execOp, h.ev hx, h.ev hy, eqGuard, binOp, Op.intCmp]⟩
theorem x_eql (hx : ev L x = some (.int q i)) (hy : ev L y = some (.int q j)) : Xv P m D L (.binOp .eql t x y t') ty w (.bool (decide (i = j))) w :=
  ⟨nofun, fun _ _ _ _ a h => by simp [execOp, h.ev hx, h.ev hy, eqGuard, binOp, Op.intCmp]; rfl⟩
theorem x_neq (hx : ev L x = some (.int q i)) (hy : ev L y = some (.int q j)) : Xv P m D L (.binOp .neq t x y t') ty w (.bool (decide (i ≠ j))) w :=
  ⟨nofun, fun _ _ _ _ a h => by
    simp only [execOp, h.ev hx, h.ev hy]
    by_cases e : i = j <;> simp [eqGuard, binOp, Op.intCmp, e]⟩
theorem x_add {r : Int} (hx : ev L x = some (.int q i)) (hy : ev L y = some (.int q j)) (hr : q.wrap (i + j) = r) : Xv P m D L (.binOp .add t x y t') ty w (.int q r) w :=
  ⟨nofun, fun _ _ _ _ a h => by simp [execOp, h.ev hx, h.ev hy, eqGuard, binOp, Op.intArith, hr]⟩
theorem x_sub {r : Int} (hx : ev L x = some (.int q i)) (hy : ev L y = some (.int q j)) (hr : q.wrap (i - j) = r) : Xv P m D L (.binOp .sub t x y t') ty w (.int q r) w :=
  ⟨nofun, fun _ _ _ _ a h => by simp [execOp, h.ev hx, h.ev hy, eqGuard, binOp, Op.intArith, hr]⟩
theorem x_mul {r : Int} (hx : ev L x = some (.int q i)) (hy : ev L y = some (.int q j)) (hr : q.wrap (i * j) = r) : Xv P m D L (.binOp .mul t x y t') ty w (.int q r) w :=
  ⟨nofun, fun _ _ _ _ a h => by simp [execOp, h.ev hx, h.ev hy, eqGuard, binOp, Op.intArith, hr]⟩
theorem x_inc {s : Nat} (hx : ev L x = some (.int .i64 s)) (hs : s < 4611686018427387904) : Xv P m D L (.binOp .add t x (.const (.int .i64 1)) t') ty w (.int .i64 ((s + 1 : Nat) : Int)) w :=
  x_add hx rfl (by rw [IntWalk.i64_in _ (by omega)]; omega)
theorem x_decr {s : Nat} (hx : ev L x = some (.int .i64 ((s + 1 : Nat) : Int))) (hs : s < 4611686018427387904) : Xv P m D L (.binOp .sub t x (.const (.int .i64 1)) t') ty w (.int .i64 (s : Int)) w :=
  x_sub hx rfl (by rw [IntWalk.i64_in _ (by omega)]; omega)
theorem x_adds {r : Int} (hx : ev L x = some (.int .i64 i)) (hy : ev L y = some (.int .i64 j)) (h0 : -9223372036854775808 ≤ i + j) (h1 : i + j ≤ 9223372036854775807) (hr : i + j = r) : Xv P m D L (.binOp .add t x y t') ty w (.int .i64 r) w :=
  x_add hx hy (by rw [IntWalk.i64_in _ (by omega), hr])
theorem x_addn {i j : Nat} (hx : ev L x = some (.int .i64 i)) (hy : ev L y = some (.int .i64 j)) (h : i + j < 4611686018427387904) : Xv P m D L (.binOp .add t x y t') ty w (.int .i64 ((i + j : Nat) : Int)) w :=
  x_add hx hy (by rw [IntWalk.i64_in _ (by omega)]; omega)
theorem x_subn {i j : Nat} (hx : ev L x = some (.int .i64 i)) (hy : ev L y = some (.int .i64 j)) (h0 : j ≤ i) (h : i < 4611686018427387904) : Xv P m D L (.binOp .sub t x y t') ty w (.int .i64 ((i - j : Nat) : Int)) w :=
  x_sub hx hy (by rw [IntWalk.i64_in _ (by omega)]; omega)
theorem x_subs {r : Int} (hx : ev L x = some (.int .i64 i)) (hy : ev L y = some (.int .i64 j)) (h0 : -9223372036854775808 ≤ i - j) (h1 : i - j ≤ 9223372036854775807) (hr : i - j = r) : Xv P m D L (.binOp .sub t x y t') ty w (.int .i64 r) w :=
  x_sub hx hy (by rw [IntWalk.i64_in _ (by omega), hr])
theorem x_lssT (hx : ev L x = some (.int q i)) (hy : ev L y = some (.int q j)) (hr : i < j) : Xv P m D L (.binOp .lss t x y t') ty w (.bool true) w := by
  have := x_lss (P := P) (m := m) (D := D) (t := t) (t' := t') (ty := ty) (w := w) hx hy; rwa [decide_eq_true hr] at this
theorem x_lssF (hx : ev L x = some (.int q i)) (hy : ev L y = some (.int q j)) (hr : ¬ i < j) : Xv P m D L (.binOp .lss t x y t') ty w (.bool false) w := by
  have := x_lss (P := P) (m := m) (D := D) (t := t) (t' := t') (ty := ty) (w := w) hx hy; rwa [decide_eq_false hr] at this
theorem x_leqT (hx : ev L x = some (.int q i)) (hy : ev L y = some (.int q j)) (hr : i ≤ j) : Xv P m D L (.binOp .leq t x y t') ty w (.bool true) w := by
  have := x_leq (P := P) (m := m) (D := D) (t := t) (t' := t') (ty := ty) (w := w) hx hy; rwa [decide_eq_true hr] at this
theorem x_leqF (hx : ev L x = some (.int q i)) (hy : ev L y = some (.int q j)) (hr : ¬ i ≤ j) : Xv P m D L (.binOp .leq t x y t') ty w (.bool false) w := by
  have := x_leq (P := P) (m := m) (D := D) (t := t) (t' := t') (ty := ty) (w := w) hx hy; rwa [decide_eq_false hr] at this
theorem x_gtrT (hx : ev L x = some (.int q i)) (hy : ev L y = some (.int q j)) (hr : j < i) : Xv P m D L (.binOp .gtr t x y t') ty w (.bool true) w := by
  have := x_gtr (P := P) (m := m) (D := D) (t := t) (t' := t') (ty := ty) (w := w) hx hy; rwa [decide_eq_true hr] at this
theorem x_gtrF (hx : ev L x = some (.int q i)) (hy : ev L y = some (.int q j)) (hr : ¬ j < i) : Xv P m D L (.binOp .gtr t x y t') ty w (.bool false) w := by
  have := x_gtr (P := P) (m := m) (D := D) (t := t) (t' := t') (ty := ty) (w := w) hx hy; rwa [decide_eq_false hr] at this
theorem x_geqT (hx : ev L x = some (.int q i)) (hy : ev L y = some (.int q j)) (hr : j ≤ i) : Xv P m D L (.binOp .geq t x y t') ty w (.bool true) w := by
  have := x_geq (P := P) (m := m) (D := D) (t := t) (t' := t') (ty := ty) (w := w) hx hy; rwa [decide_eq_true hr] at this
theorem x_geqF (hx : ev L x = some (.int q i)) (hy : ev L y = some (.int q j)) (hr : ¬ j ≤ i) : Xv P m D L (.binOp .geq t x y t') ty w (.bool false) w := by
  have := x_geq (P := P) (m := m) (D := D) (t := t) (t' := t') (ty := ty) (w := w) hx hy; rwa [decide_eq_false hr] at this
theorem x_eqlT (hx : ev L x = some (.int q i)) (hy : ev L y = some (.int q j)) (hr : i = j) : Xv P m D L (.binOp .eql t x y t') ty w (.bool true) w := by
  have := x_eql (P := P) (m := m) (D := D) (t := t) (t' := t') (ty := ty) (w := w) hx hy; rwa [decide_eq_true hr] at this
theorem x_eqlF (hx : ev L x = some (.int q i)) (hy : ev L y = some (.int q j)) (hr : ¬ i = j) : Xv P m D L (.binOp .eql t x y t') ty w (.bool false) w := by
  have := x_eql (P := P) (m := m) (D := D) (t := t) (t' := t') (ty := ty) (w := w) hx hy; rwa [decide_eq_false hr] at this
theorem x_neqT (hx : ev L x = some (.int q i)) (hy : ev L y = some (.int q j)) (hr : ¬ i = j) : Xv P m D L (.binOp .neq t x y t') ty w (.bool true) w := by
  have := x_neq (P := P) (m := m) (D := D) (t := t) (t' := t') (ty := ty) (w := w) hx hy; rwa [decide_eq_true hr] at this
theorem x_neqF (hx : ev L x = some (.int q i)) (hy : ev L y = some (.int q j)) (hr : i = j) : Xv P m D L (.binOp .neq t x y t') ty w (.bool false) w := by
  have := x_neq (P := P) (m := m) (D := D) (t := t) (t' := t') (ty := ty) (w := w) hx hy; rwa [decide_eq_false (not_not_intro hr)] at this
end
section
variable {s r : ByteArray} {t' : TypeId}
theorem x_seql (hx : ev L x = some (.string s)) (hy : ev L y = some (.string r)) : Xv P m D L (.binOp .eql t x y t') ty w (.bool (s.toList == r.toList)) w :=
  ⟨nofun, fun _ _ _ _ a h => by simp [execOp, h.ev hx, h.ev hy, eqGuard, binOp, Op.stringOp]⟩
theorem x_sneq (hx : ev L x = some (.string s)) (hy : ev L y = some (.string r)) : Xv P m D L (.binOp .neq t x y t') ty w (.bool (!(s.toList == r.toList))) w :=
  ⟨nofun, fun _ _ _ _ a h => by simp [execOp, h.ev hx, h.ev hy, eqGuard, binOp, Op.stringOp]⟩
theorem x_slss (hx : ev L x = some (.string s)) (hy : ev L y = some (.string r)) : Xv P m D L (.binOp .lss t x y t') ty w (.bool (Op.bytesLess s.toList r.toList)) w :=
  ⟨nofun, fun _ _ _ _ a h => by simp [execOp, h.ev hx, h.ev hy, eqGuard, binOp, Op.stringOp]⟩
theorem x_sgtr (hx : ev L x = some (.string s)) (hy : ev L y = some (.string r)) : Xv P m D L (.binOp .gtr t x y t') ty w (.bool (!(Op.bytesLess s.toList r.toList || s.toList == r.toList))) w :=
  ⟨nofun, fun _ _ _ _ a h => by simp [execOp, h.ev hx, h.ev hy, eqGuard, binOp, Op.stringOp]⟩
theorem x_sgeq (hx : ev L x = some (.string s)) (hy : ev L y = some (.string r)) : Xv P m D L (.binOp .geq t x y t') ty w (.bool (!(Op.bytesLess s.toList r.toList))) w :=
  ⟨nofun, fun _ _ _ _ a h => by simp [execOp, h.ev hx, h.ev hy, eqGuard, binOp, Op.stringOp]⟩
theorem x_sleq (hx : ev L x = some (.string s)) (hy : ev L y = some (.string r)) : Xv P m D L (.binOp .leq t x y t') ty w (.bool (Op.bytesLess s.toList r.toList || s.toList == r.toList)) w :=
  ⟨nofun, fun _ _ _ _ a h => by simp [execOp, h.ev hx, h.ev hy, eqGuard, binOp, Op.stringOp]⟩
theorem x_beql {b c : Bool} (hx : ev L x = some (.bool b)) (hy : ev L y = some (.bool c)) (hu : P.underlying t = some .bool) : Xv P m D L (.binOp .eql t x y t') ty w (.bool (b == c)) w :=
  ⟨nofun, fun _ _ _ _ a h => by simp [execOp, h.ev hx, h.ev hy, eqGuard, run_eql_bool w t b c hu]⟩
theorem x_bneq {b c : Bool} (hx : ev L x = some (.bool b)) (hy : ev L y = some (.bool c)) (hu : P.underlying t = some .bool) : Xv P m D L (.binOp .neq t x y t') ty w (.bool (!(b == c))) w :=
  ⟨nofun, fun _ _ _ _ a h => by simp [execOp, h.ev hx, h.ev hy, eqGuard, binOp, run_equal_bool w t b c hu]⟩
end
/-! ### addresses -/
theorem x_fieldAddr {fs : Array Field} {f : Field} {i b o : Nat} {k' : Nat} (hu : P.underlying t = some (.struct fs)) (hf : fs[i]? = some f) (hs : Siz P f.type (k' + 1)) (hx : ev L x = some (.pointer (some ⟨b, o, none⟩))) :
    Xv P m D L (.fieldAddr t x i) ty w (.pointer (some ⟨b, o + f.offset, none⟩)) w :=
  ⟨nofun, fun _ _ _ _ a h => by simp [execOp, h.ev hx, Instr.fieldAt, run_underlying hu, hf, Instr.sureAddr, fieldPlace, hs w, add_mk]⟩
theorem x_indexAddr {q : IntKind} {i : Int} {b o n c : Nat} (hu : P.underlying t = some (.slice e)) (hs : Siz P e k) (hx : ev L x = some (.slice (some ⟨b, o, none⟩) n c)) (hy : ev L y = some (.int q i)) (h0 : 0 ≤ i) (h1 : i < n) :
    Xv P m D L (.indexAddr t x y) ty w (.pointer (some ⟨b, o + i.toNat * k, none⟩)) w :=
  ⟨nofun, fun _ _ _ _ a h => by simp [execOp, h.ev hx, h.ev hy, Instr.indexAt, asIntOf, run_underlying hu, hs w, h0, h1, add_mk]⟩
theorem x_slice {q1 q2 q3 : IntKind} {lo hi mx : Option Operand} {vl vh vm : Option Value} {A : Option Addr} {n c l h' m' : Nat} (hu : P.underlying t = some (.slice e)) (hs : Siz P e k) (hx : ev L x = some (.slice A n c))
    (hl : ∀ a, Fr m D a L → lo.map a.eval = vl) (hh : ∀ a, Fr m D a L → hi.map a.eval = vh) (hm : ∀ a, Fr m D a L → mx.map a.eval = vm) (hb : (Instr.sliceBounds true n c vl vh vm).run P w = .ok (l, h', m') w) :
    Xv P m D L (.slice t x lo hi mx) ty w (.slice (if m' = l then A else A.map (·.add (l * k))) (h' - l) (m' - l)) w :=
  ⟨nofun, fun _ _ _ _ a h => by simp [execOp, h.ev hx, hl a h, hh a h, hm a h, Instr.sliceAt, Instr.slice, run_underlying hu, hb, hs w]⟩
theorem x_len {A : Option Addr} {n c : Nat} (hu : P.underlying t = some (.slice e)) (hx : ev L x = some (.slice A n c)) : Xv P m D L (.call ⟨.builtin .len, #[x], #[t]⟩) ty w (.int .i64 n) w :=
  ⟨nofun, fun _ _ _ _ a h => by simp [execOp, resolve, h.ev hx, invoke, builtin, Builtin.len_, run_underlying hu, goInt]⟩
theorem x_lens {s : ByteArray} (hu : P.underlying t = some .string) (hx : ev L x = some (.string s)) : Xv P m D L (.call ⟨.builtin .len, #[x], #[t]⟩) ty w (.int .i64 s.size) w :=
  ⟨nofun, fun _ _ _ _ a h => by simp [execOp, resolve, h.ev hx, invoke, builtin, Builtin.len_, run_underlying hu, goInt]⟩
theorem x_makeFunc {f : FuncId} {xs : List Operand} {vs : List Value} (hx : evs L xs = some vs) : Xv P m D L (.makeFunc (.func f) #[] xs.toArray) ty w (.func (.func f) #[] vs.toArray) w :=
  ⟨nofun, fun _ _ _ _ a h => by have := h.evs hx; simp only [execOp, this, Instr.makeFunc]; simp⟩
theorem x_nilCheck {ad : Addr} (hx : ev L x = some (.pointer (some ad))) : Xv P m D L (.nilCheck x) ty w (.pointer (some ad)) w :=
  ⟨nofun, fun _ _ _ _ a h => by simp [execOp, h.ev hx]⟩
theorem x_field {cs : Array Value} {fs : Array Field} {f : Field} {i : Nat} (hu : P.underlying t = some (.struct fs)) (hf : fs[i]? = some f) (hs : Flat P f.type) (hx : ev L x = some (.agg cs)) (hv : cs[f.offset]? = some v) :
    Xv P m D L (.field t x i) ty w v w :=
  ⟨nofun, fun _ _ _ _ a h => by simp [execOp, h.ev hx, Instr.field, run_underlying hu, hf, asAgg, part, (hs w).1, hv]⟩

/-! ### memory that is read -/
theorem x_load {ad : Addr} (hf : Flat P t) (hx : ev L x = some (.pointer (some ad))) (hc : w.cell? ad = some v) : Xv P m D L (.load t x) ty w v w :=
  ⟨nofun, fun _ _ _ _ a h => by simp [execOp, h.ev hx, Instr.loadAt, Instr.sureAddr, loadVar, (hf w).1, load, Sem.run, hc]⟩
def Cells (w : World) (b o : Nat) (cs : List Value) : Prop := ∀ j v, cs[j]? = some v → w.cell? ⟨b, o + j, none⟩ = some v
theorem run_loadVar_cells {b o : Nat} {cs : List Value} (ha : Agg P t k) (hc : Cells w b o cs) (hl : cs.length = k) : (loadVar t ⟨b, o, none⟩).run P w = .ok (.agg cs.toArray) w := by
  have hl' : (loadCells ⟨b, o, none⟩ cs.length).run P w = .ok cs.toArray w := run_loadCells_list (P := P) w ⟨b, o, none⟩ cs (fun j v hv => by rw [add_mk]; exact hc j v hv)
  simp [loadVar, (ha w).1, (ha w).2, ← hl, hl']
theorem x_loadA {b o : Nat} {cs : List Value} (ha : Agg P t k) (hx : ev L x = some (.pointer (some ⟨b, o, none⟩))) (hc : Cells w b o cs) (hl : cs.length = k) : Xv P m D L (.load t x) ty w (.agg cs.toArray) w :=
  ⟨nofun, fun _ _ _ _ a h => by simp [execOp, h.ev hx, Instr.loadAt, Instr.sureAddr, run_loadVar_cells ha hc hl]⟩
theorem Blk.cells {b : Nat} {cs : List Value} (h : Blk w b cs t) : Cells w b 0 cs := fun j v hv => by rw [Nat.zero_add]; exact h.cell hv

/-! ### a call of a Go function -/
theorem x_call {f : FuncId} {xs : List Operand} {vs : List Value} {ts : Array TypeId} (he : Enters P f) (hx : evs L xs = some vs) : Xc P m D L (.call ⟨.value (.func f), xs.toArray, ts⟩) ty w f vs.toArray w :=
  ⟨nofun, fun _ _ _ _ a h => by
    have h1 := h.evs hx
    simp only [execOp, resolve, h1]
    simpa [Act.eval, Deferred.ofValue, invoke] using he vs.toArray w⟩
theorem x_callv {f : FuncId} {fo : Operand} {xs : List Operand} {vs cap : List Value} {ts : Array TypeId} (he : Enters P f) (hf : ev L fo = some (.func (.func f) #[] cap.toArray)) (hx : evs L xs = some vs) :
    Xc P m D L (.call ⟨.value fo, xs.toArray, ts⟩) ty w f (vs ++ cap).toArray w :=
  ⟨nofun, fun _ _ _ _ a h => by
    have h1 := h.evs hx
    have h2 := h.ev hf
    simp only [execOp, resolve, h1, h2]
    simpa [Deferred.ofValue, invoke] using he (vs ++ cap).toArray w⟩
end

/-! ### memory that is made or written: the walk goes on in whatever world it leaves -/
section
variable {F : Fence} {n : Nat} {P : Program} {Q : Exit → Act → World → Prop} {m : Nat} {D : List Deferred} {L : Env} {w w' : World} {a : Act}
variable {ops : List Oper} {rest : List Oper} {d : Nat} {ty t e : TypeId} {pos : String} {af : Array Edge} {g : Option (Nat × Bool)} {v : Value} {x y : Operand}
theorem wl_alloc {cs : List Value} {z : Value} (hW : Wd F) (hg : wants L ops g = some true) (hd : Nat.blt d m = true) (hz : ∀ w, (zeroValue t).run P w = .ok z w) (hcs : z.cells = cs.toArray)
    (k : ∀ b w', w.heap.size ≤ b → Blk w' b cs t → Ext w w' → WL F n P Q m D ops rest ((d, .pointer (some ⟨b, 0, none⟩)) :: L) w') : WL F n P Q m D ops (⟨some d, .alloc t, ty, pos, af, g⟩ :: rest) L w :=
  wl_val hW hg hd ⟨nofun, fun _ _ _ _ a h => by
    simp only [execOp, Instr.alloc, Sem.run_bind, hz w, Result.andThen_ok, newVar, newRow, newObj, Sem.run, Sem.run_pure, hcs]
    rfl⟩ (k w.heap.size _ (Nat.le_refl _) (blk_new w cs t) (ext_alloc w _))
theorem wl_box {cs : List Value} (hW : Wd F) (hg : wants L ops g = some true) (hd : Nat.blt d m = true) (hx : ev L x = some v) (hcs : v.cells = cs.toArray)
    (k : ∀ b w', w.heap.size ≤ b → Blk w' b cs t → Ext w w' → WL F n P Q m D ops rest ((d, .pointer (some ⟨b, 0, none⟩)) :: L) w') : WL F n P Q m D ops (⟨some d, .box t x, ty, pos, af, g⟩ :: rest) L w :=
  wl_val hW hg hd ⟨nofun, fun _ _ _ _ a h => by
    simp only [execOp, h.ev hx, Instr.box, Sem.run_bind, newVar, newRow, newObj, Sem.run, Sem.run_pure, Result.andThen_ok, hcs]
    rfl⟩ (k w.heap.size _ (Nat.le_refl _) (blk_new w cs t) (ext_alloc w _))
/-- One cell of a block of the call's own is written. -/
theorem wl_store {b o : Nat} {cs : List Value} {T : TypeId} (hW : Wd F) (hg : wants L ops g = some true) (hf : Flat P t) (hx : ev L x = some (.pointer (some ⟨b, o, none⟩))) (hy : ev L y = some v) (h1 : v.oneCell' = true)
    (hB : Blk w b cs T) (ho' : Nat.blt o cs.length = true) (k : ∀ w', Blk w' b (cs.set o v) T → Keep (· ≠ b) w w' → WL F n P Q m D ops rest L w') : WL F n P Q m D ops (⟨none, .store t x y, ty, pos, af, g⟩ :: rest) L w := by
  have ho : o < cs.length := by simpa using ho'
  refine wl_none hW hg (w' := w.setCell ⟨b, o, none⟩ v) ⟨nofun, fun _ _ _ _ a h => ?_⟩ (k _ (hB.set o v) (keep_set w b o v))
  have hc : w.cell? ⟨b, o, none⟩ = some cs[o] := hB.cell (List.getElem?_eq_getElem ho)
  have hfz := hB.free (o := o)
  have hcs : v.cells = #[v] := by cases v <;> simp_all [Value.cells, Value.oneCell']
  have hst : (store (⟨b, o, none⟩ : Addr) v .plain).run P w = .ok () (w.setCell ⟨b, o, none⟩ v) := by
    cases v <;> simp_all [store, Sem.run, Value.oneCell']
  have ha : (⟨b, o, none⟩ : Addr).add 0 = ⟨b, o, none⟩ := by simp [Addr.add]
  simp [execOp, h.ev hx, h.ev hy, Instr.storeAt, Instr.sureAddr, storeVar, (hf w).2, hcs, storeCells, ha, hst]
theorem run_storeCells {T : TypeId} {b : Nat} : ∀ (new : List Value) (o i : Nat) (cs : List Value) (w : World), Blk w b cs T → o + i + new.length ≤ cs.length → (∀ u ∈ new, u.oneCell' = true) →
    ∃ w', (storeCells ⟨b, o, none⟩ new i).run P w = .ok () w' ∧ Blk w' b (cs.take (o + i) ++ new ++ cs.drop (o + i + new.length)) T ∧ Keep (· ≠ b) w w' ∧ w'.heap.size = w.heap.size
  | [], o, i, cs, w, hB, hl, _ => ⟨w, by simp [storeCells], by simpa using hB, Keep.refl _ _, rfl⟩
  | u :: new, o, i, cs, w, hB, hl, h1 => by
    simp only [List.length_cons] at hl
    have hu : u.oneCell' = true := h1 u (by simp)
    have hlt : o + i < cs.length := by omega
    have hc : w.cell? ⟨b, o + i, none⟩ = some cs[o + i] := hB.cell (List.getElem?_eq_getElem hlt)
    have hfz := hB.free (o := o + i)
    have hst : (store (⟨b, o + i, none⟩ : Addr) u .plain).run P w = .ok () (w.setCell ⟨b, o + i, none⟩ u) := by
      cases u <;> simp_all [store, Sem.run, Value.oneCell']
    obtain ⟨w', hr, hB', hk, hsz⟩ := run_storeCells new o (i + 1) (cs.set (o + i) u) (w.setCell ⟨b, o + i, none⟩ u) (hB.set (o + i) u) (by simp; omega) (fun x hx => h1 x (by simp [hx]))
    refine ⟨w', ?_, ?_, (keep_set w b (o + i) u).trans hk, by rw [hsz]; simp⟩
    · simp only [storeCells, Sem.run_bind, add_mk, hst, Result.andThen_ok, hr]
    · have e : cs.take (o + i) ++ (u :: new) ++ cs.drop (o + i + (new.length + 1)) = (cs.set (o + i) u).take (o + (i + 1)) ++ new ++ (cs.set (o + i) u).drop (o + (i + 1) + new.length) := by
        have e1 : (cs.set (o + i) u).take (o + (i + 1)) = cs.take (o + i) ++ [u] := by
          rw [show o + (i + 1) = (o + i) + 1 from by omega, List.take_succ_eq_append_getElem (by simpa using hlt)]
          simp [List.take_set_of_le]
        have e2 : (cs.set (o + i) u).drop (o + (i + 1) + new.length) = cs.drop (o + i + (new.length + 1)) := by
          rw [List.drop_set_of_lt (by omega)]; congr 1; omega
        rw [e1, e2]; simp
      rw [List.length_cons, e]; exact hB'
/-- Several cells of a block of the call's own are written. -/
theorem wl_storeA {b o k' : Nat} {cs new : List Value} {T : TypeId} (hW : Wd F) (hg : wants L ops g = some true) (ha : Agg P t k') (hx : ev L x = some (.pointer (some ⟨b, o, none⟩))) (hy : ev L y = some (.agg new.toArray)) (h1 : new.all Value.oneCell' = true)
    (hl : new.length = k') (hB : Blk w b cs T) (ho' : Nat.ble (o + new.length) cs.length = true) (k : ∀ w', Blk w' b (cs.take o ++ new ++ cs.drop (o + new.length)) T → Keep (· ≠ b) w w' → WL F n P Q m D ops rest L w') : WL F n P Q m D ops (⟨none, .store t x y, ty, pos, af, g⟩ :: rest) L w := by
  have ho : o + new.length ≤ cs.length := Nat.le_of_ble_eq_true ho'
  obtain ⟨w', hr, hB', hk, hsz⟩ := run_storeCells (P := P) new o 0 cs w hB (by omega) (List.all_eq_true.1 h1)
  refine wl_none hW hg (w' := w') ⟨nofun, fun _ _ _ _ a h => ?_⟩ (k _ hB' hk)
  simp [execOp, h.ev hx, h.ev hy, Instr.storeAt, Instr.sureAddr, storeVar, (ha w).2, Value.cells, hl, hr]
theorem x_nilEq {A : Option Addr} {nn c : Nat} {t' : TypeId} (hu : P.underlying t = some (.slice e)) (hx : ev L x = some (.slice A nn c)) (hy : ev L y = some (.slice none 0 0)) : Xv P m D L (.binOp .eql t x y t') ty w (.bool A.isNone) w :=
  ⟨nofun, fun _ _ _ _ a h => by
    have h1 : (binOp .eql t (.slice A nn c) (.slice none 0 0)).run P w = .ok (.bool A.isNone) w := by
      simp only [binOp]
      simp [Op.equal, Op.maxDepth, Lib.run_equalIn_slice_nil w 9999 t e A nn c 0 0 hu]
    simp [execOp, h.ev hx, h.ev hy, eqGuard, h1]⟩
theorem foldl_splice (off : Nat) : ∀ (new : List Value) (j : Nat) (cs : Array Value), off + j + new.length ≤ cs.size →
    ((new.zipIdx j).foldl (fun (cs : Array Value) (p : Value × Nat) => cs.setIfInBounds (off + p.2) p.1) cs).toList = cs.toList.take (off + j) ++ new ++ cs.toList.drop (off + j + new.length)
  | [], j, cs, _ => by simp
  | u :: new, j, cs, h => by
    simp only [List.length_cons] at h
    simp only [List.zipIdx_cons, List.foldl_cons]
    rw [foldl_splice off new (j + 1) _ (by simp; omega)]
    have hlt : off + j < cs.toList.length := by simp; omega
    rw [Array.toList_setIfInBounds]
    have e1 : (cs.toList.set (off + j) u).take (off + (j + 1)) = cs.toList.take (off + j) ++ [u] := by
      rw [show off + (j + 1) = (off + j) + 1 from by omega, List.take_succ_eq_append_getElem (by simpa using hlt)]
      simp [List.take_set_of_le]
    have e2 : (cs.toList.set (off + j) u).drop (off + (j + 1) + new.length) = cs.toList.drop (off + j + (new.length + 1)) := by
      rw [List.drop_set_of_lt (by omega)]; congr 1; omega
    rw [e1, e2]; simp
def allCells : List Value → List Value
  | [] => []
  | v :: vs => v.cells.toList ++ allCells vs
def withIdx : Nat → List Value → List (Nat × Value)
  | _, [] => []
  | i, v :: vs => (i, v) :: withIdx (i + 1) vs
theorem fill_all (sz : Nat) : ∀ (vs : List Value) (i : Nat) (pre suf : List Value), (∀ v ∈ vs, v.cells.size = sz) → pre.length = i * sz → suf.length = vs.length * sz →
    Instr.fill (fun i => some (i * sz, sz)) (pre ++ suf).toArray (withIdx i vs) = some (pre ++ allCells vs).toArray
  | [], i, pre, suf, _, _, hs => by
    have : suf = [] := List.eq_nil_of_length_eq_zero (by simpa using hs)
    subst this; rfl
  | v :: vs, i, pre, suf, hv, hp, hs => by
    have hsz : v.cells.size = sz := hv v (by simp)
    have hsl : sz ≤ suf.length := by rw [hs, List.length_cons]; exact Nat.le_mul_of_pos_left _ (by omega)
    simp only [withIdx, Instr.fill]
    rw [if_neg (by simp [hsz]; omega)]
    have hsp := foldl_splice (i * sz) v.cells.toList 0 (pre ++ suf).toArray (by simp [hsz]; omega)
    have e : (v.cells.zipIdx.foldl (fun cs x => cs.setIfInBounds (i * sz + x.2) x.1) (pre ++ suf).toArray) = (pre ++ v.cells.toList ++ suf.drop sz).toArray := by
      apply Array.ext'
      rw [← Array.foldl_toList, Array.toList_zipIdx]
      rw [hsp]
      simp only [Nat.add_zero, Array.length_toList, hsz, List.take_append_of_le_length (Nat.le_of_eq hp.symm), ← hp, List.take_length, List.drop_append]
      simp
    have e' : (v.cells.zipIdx.foldl (fun cs (x : Value × Nat) => match x with | (c, j) => cs.setIfInBounds (i * sz + j) c) (pre ++ suf).toArray) = (pre ++ v.cells.toList ++ suf.drop sz).toArray := e
    rw [e', fill_all sz vs (i + 1) (pre ++ v.cells.toList) (suf.drop sz) (fun u hu => hv u (by simp [hu])) (by simp [hp, hsz, Nat.add_mul]) (by simp [hs, Nat.add_mul])]
    simp [allCells]
/-- A slice literal. -/
theorem run_buildSlice {vs : List Value} {sz : Nat} (hu : P.underlying t = some (.slice e)) (hs : Siz P e sz) (hz : ∃ z, ∀ w, (zeroValue e).run P w = .ok z w) (hv : ∀ v ∈ vs, v.cells.size = sz) (hmax : vs.length * sz ≤ 16777216) :
    (Instr.buildSlice t vs.length (withIdx 0 vs).toArray).run P w = .ok (.slice (some ⟨w.heap.size, 0, none⟩) vs.length vs.length) (w.alloc (.cells (allCells vs).toArray e)) := by
  obtain ⟨z, hz⟩ := hz
  have hf : ∀ cs : Array Value, cs.size = vs.length * sz → Instr.fill (fun i => some (i * sz, sz)) cs (withIdx 0 vs) = some (allCells vs).toArray := fun cs hc => by
    have := fill_all sz vs 0 [] cs.toList hv (by simp) (by simpa using hc)
    simpa using this
  have hnot : ¬ vs.length * sz > 2 ^ 24 := by omega
  simp only [Instr.buildSlice, Sem.run_bind, run_underlying hu, Result.andThen_ok, hs w, if_neg hnot, Sem.run_pure]
  by_cases h0 : vs.length * sz = 0
  · rw [if_pos h0]
    have hf' := fun (zero : Array Value) => hf ((Array.range (vs.length * sz)).map fun x => zero[x % zero.size]!) (by simp)
    simp [hf', newRow, newObj, Sem.run_bind, Sem.run]
    try rfl
  · rw [if_neg h0]
    have hf' := fun (zero : Array Value) => hf ((Array.range (vs.length * sz)).map fun x => zero[x % zero.size]!) (by simp)
    simp [hz w, hf', newRow, newObj, Sem.run_bind, Sem.run]
    try rfl
def partsOk (L : Env) : Nat → List (Nat × Operand) → Option (List Value)
  | _, [] => some []
  | i, (j, x) :: l => if Nat.beq i j then match ev L x, partsOk L (i + 1) l with
      | some v, some vs => some (v :: vs)
      | _, _ => none
    else none
theorem parts_eq (h : Fr m D a L) : ∀ (l : List (Nat × Operand)) (i : Nat) (vs : List Value), partsOk L i l = some vs → l.map (fun p => (p.1, a.eval p.2)) = withIdx i vs
  | [], i, vs, he => by simp [partsOk] at he; subst he; rfl
  | (j, x) :: l, i, vs, he => by
    simp only [partsOk] at he
    split at he
    · rename_i hb
      split at he
      · rename_i v us h1 h2
        cases he
        have e := Nat.eq_of_beq_eq_true hb
        subst e
        simp only [List.map_cons, h.ev h1, parts_eq h l (i + 1) us h2, withIdx]
      · cases he
    · cases he
theorem x_buildSlice {vs : List Value} {sz len : Nat} {parts : List (Nat × Operand)} {z : Value} (hu : P.underlying t = some (.slice e)) (hs : Siz P e sz) (hz : ∀ w, (zeroValue e).run P w = .ok z w)
    (hp : partsOk L 0 parts = some vs) (hlen : vs.length = len) (hv : (vs.all fun v => Nat.beq v.cells.size sz) = true) (hmax : len * sz ≤ 16777216) :
    ∃ b w', Xv P m D L (.buildSlice t len parts.toArray) ty w (.slice (some ⟨b, 0, none⟩) len len) w' ∧ w.heap.size ≤ b ∧ Blk w' b (allCells vs) e ∧ Ext w w' := by
  subst hlen
  refine ⟨w.heap.size, _, ⟨nofun, fun dd pp aa gg a h => ?_⟩, Nat.le_refl _, blk_new w (allCells vs) e, ext_alloc w _⟩
  have e1 : (parts.toArray.map fun (p : Nat × Operand) => (p.1, a.eval p.2)) = (withIdx 0 vs).toArray := by rw [List.map_toArray, parts_eq h parts 0 vs hp]
  have hr := run_buildSlice (P := P) (w := w) (vs := vs) hu hs ⟨z, hz⟩ (fun v hv' => Nat.eq_of_beq_eq_true (List.all_eq_true.1 hv v hv')) hmax
  have e2 : execOp a.eval ⟨dd, .buildSlice t vs.length parts.toArray, ty, pp, aa, gg⟩ = (do pure (Next.value (← Instr.buildSlice t vs.length (parts.toArray.map fun (p : Nat × Operand) => (p.1, a.eval p.2))))) := rfl
  rw [e2, e1]
  simp [Sem.run_bind, hr]
theorem wl_buildSlice {vs : List Value} {sz len : Nat} {parts : List (Nat × Operand)} {z : Value} (hW : Wd F) (hg : wants L ops g = some true) (hd : Nat.blt d m = true) (hu : P.underlying t = some (.slice e)) (hs : Siz P e sz) (hz : ∀ w, (zeroValue e).run P w = .ok z w)
    (hp : partsOk L 0 parts = some vs) (hlen : vs.length = len) (hv : (vs.all fun v => Nat.beq v.cells.size sz) = true) (hmax : len * sz ≤ 16777216)
    (k : ∀ b w', w.heap.size ≤ b → Blk w' b (allCells vs) e → Ext w w' → WL F n P Q m D ops rest ((d, .slice (some ⟨b, 0, none⟩) len len) :: L) w') : WL F n P Q m D ops (⟨some d, .buildSlice t len parts.toArray, ty, pos, af, g⟩ :: rest) L w := by
  subst hlen
  refine wl_val hW hg hd ⟨nofun, fun dd pp aa gg a h => ?_⟩ (k w.heap.size _ (Nat.le_refl _) (blk_new w (allCells vs) e) (ext_alloc w _))
  have e1 : (parts.toArray.map fun (p : Nat × Operand) => (p.1, a.eval p.2)) = (withIdx 0 vs).toArray := by rw [List.map_toArray, parts_eq h parts 0 vs hp]
  have hr := run_buildSlice (P := P) (w := w) (vs := vs) hu hs ⟨z, hz⟩ (fun v hv' => Nat.eq_of_beq_eq_true (List.all_eq_true.1 hv v hv')) hmax
  have e2 : execOp a.eval ⟨dd, .buildSlice t vs.length parts.toArray, ty, pp, aa, gg⟩ = (do pure (Next.value (← Instr.buildSlice t vs.length (parts.toArray.map fun (p : Nat × Operand) => (p.1, a.eval p.2))))) := rfl
  rw [e2, e1]
  simp [Sem.run_bind, hr]
/-- A struct of one-cell fields is built. -/
theorem x_build {fs : Array Field} {parts : List (Nat × Operand)} {pv : List (Nat × Value)} {z : Value} {cs : Array Value} (hu : P.underlying t = some (.struct fs)) (hz : ∀ w, (zeroValue t).run P w = .ok z w)
    (hp : ∀ a, Fr m D a L → parts.map (fun p => (p.1, a.eval p.2)) = pv) (hr : ∀ w, (Instr.build t pv.toArray).run P w = .ok (.agg cs) w) : Xv P m D L (.build t parts.toArray) ty w (.agg cs) w :=
  ⟨nofun, fun _ _ _ _ a h => by
    have e : (parts.toArray.map fun (i, x) => (i, a.eval x)) = pv.toArray := by rw [List.map_toArray, ← hp a h]
    simp only [execOp, e]
    simp [hr w]⟩
end
end Go.Proofs.Ytblbddamebbgaaa.K

/- My own walking rules (part 3): a region that draws its order: a first part whose operations may come in any order, and a tail whose order is forced. No program is named here. -/
namespace Go.Proofs.Ytblbddamebbgaaa.K
open Go Go.RowKit
set_option linter.unusedVariables false
set_option linter.unusedSectionVars false
set_option linter.unusedSimpArgs false

def needsL (o : Oper) : List Nat := (o.after.toList.filter (fun e => Region.binds .any e)).map (·.on)
/-- What comes before what, as bits. -/
def mk (acc : List Nat) (l : List Nat) : Nat := l.foldl (fun s j => s ||| (2 ^ j ||| acc.getD j 0)) 0
def masks : List Oper → List Nat → List Nat
  | [], acc => acc
  | o :: rest, acc => masks rest (acc ++ [mk acc (needsL o)])
def isTmp : Operand → Option Tmp
  | .tmp t => some t
  | _ => none
/-- The slots that an operation looks at. -/
def looks (ops : List Oper) (o : Oper) : List Tmp :=
  o.op.operands.toList.filterMap isTmp ++ (match o.guard with
   | some (j, _) => match gdst ops j with
     | some d => [d]
     | none => []
   | none => [])
def plainOp : Op → Bool
  | .select .. | .defer .. => false
  | _ => true
def dstsOk : List Oper → Bool
  | [] => true
  | o :: rest => (match o.dst with
    | some d => rest.all fun o' => o'.dst != some d
    | none => true) && dstsOk rest
def needsAt (ops : List Oper) (i : Nat) : List Nat := match ops[i]? with
  | some o => needsL o
  | none => []
/-- The first N may come in any order; behind them the order is forced. -/
def freeOk (ops : List Oper) (N : Nat) : Bool :=
  ((List.range ops.length).all fun i => (needsAt ops i).all fun j => Nat.blt j i) &&
  dstsOk (ops.take N) &&
  ((List.range N).all fun i => match ops[i]? with
    | some o => plainOp o.op && (looks ops o).all fun s => (List.range N).all fun j => gdst ops j != some s || (needsL o).contains j || (needsAt ops j).contains i
    | none => false) &&
  (let ms := masks ops []
   (List.range ops.length).all fun t => Nat.blt t N || (List.range t).all fun j => (ms.getD t 0).testBit j)

section masks
variable {ops : List Oper}
def PC (ops : List Oper) (ls : Nat → Bool) : Prop := ∀ i o, ops[i]? = some o → ls i = true → ∀ j ∈ needsL o, ls j = true
def Cl (ops : List Oper) (i mask : Nat) : Prop := ∀ ls : Nat → Bool, PC ops ls → (∀ o, ops[i]? = some o → ∀ j ∈ needsL o, ls j = true) → ∀ j, mask.testBit j = true → ls j = true
theorem mk_bit (acc : List Nat) (j : Nat) : ∀ (l : List Nat) (s : Nat), (l.foldl (fun s j => s ||| (2 ^ j ||| acc.getD j 0)) s).testBit j = true → s.testBit j = true ∨ ∃ i ∈ l, i = j ∨ (acc.getD i 0).testBit j = true
  | [], s, h => .inl h
  | i :: l, s, h => by
    rcases mk_bit acc j l _ h with h | ⟨i', hi', h⟩
    · rw [Nat.testBit_or, Nat.testBit_or, Bool.or_eq_true, Bool.or_eq_true] at h
      rcases h with h | h | h
      · exact .inl h
      · rw [Nat.testBit_two_pow] at h
        exact .inr ⟨i, by simp, .inl (by simpa using h)⟩
      · exact .inr ⟨i, by simp, .inr h⟩
    · exact .inr ⟨i', by simp [hi'], h⟩
theorem masks_ok : ∀ (rest : List Oper) (acc : List Nat) (pre : List Oper), ops = pre ++ rest → pre.length = acc.length → (∀ i, i < acc.length → Cl ops i (acc.getD i 0)) →
    ∀ i, i < ops.length → Cl ops i ((masks rest acc).getD i 0)
  | [], acc, pre, he, hl, hc, i, hi => hc i (by rw [he] at hi; simp at hi; omega)
  | o :: rest, acc, pre, he, hl, hc, i, hi => by
    refine masks_ok rest (acc ++ [mk acc (needsL o)]) (pre ++ [o]) (by simp [he]) (by simp [hl]) (fun i hi' => ?_) i hi
    by_cases hlt : i < acc.length
    · have : (acc ++ [mk acc (needsL o)]).getD i 0 = acc.getD i 0 := by simp [List.getD_eq_getElem?_getD, List.getElem?_append_left hlt]
      rw [this]; exact hc i hlt
    · have e : i = acc.length := by simp at hi'; omega
      subst e
      have ho : ops[acc.length]? = some o := by rw [he, ← hl]; simp
      have : (acc ++ [mk acc (needsL o)]).getD acc.length 0 = mk acc (needsL o) := by simp [List.getD_eq_getElem?_getD]
      rw [this]
      intro ls hpc hn j hj
      rcases mk_bit acc j (needsL o) 0 hj with h | ⟨i', hi', h⟩
      · simp at h
      · have h1 := hn o ho i' hi'
        rcases h with rfl | h
        · exact h1
        · by_cases hlt' : i' < acc.length
          · exact hc i' hlt' ls hpc (fun o' ho' => hpc i' o' ho' h1) j h
          · have : acc.getD i' 0 = 0 := by simp [List.getD_eq_getElem?_getD, List.getElem?_eq_none (by omega : acc.length ≤ i')]
            rw [this] at h; simp at h
end masks

/-- What a free operation does, told of its operands alone. -/
inductive Does (F : Fence) (n : Nat) (P : Program) (ρ : Operand → Value) (o : Oper) (w : World) (R : Value → World → Prop) : Prop
  | val (v : Value) (w' : World) (h : (execOp ρ o).run P w = .ok (.value v) w') (hr : R v w') : Does F n P ρ o w R
  | call (f : FuncId) (args : Array Value) (w' : World) (h : (execOp ρ o).run P w = .ok (.enter f args) w') (hc : CallsIn F (n - 1) P f args w' (ok1 R)) : Does F n P ρ o w R

abbrev VP := Value → World → Prop
def Stable (p : VP) : Prop := ∀ v w w', p v w → Ext w w' → p v w'
inductive Sp
  | c (v : Value)
  | p (q : VP)
def Sp.holds : Sp → VP
  | .c v => fun u _ => u = v
  | .p q => q
/-- A free operation, in a frame that holds L and whatever world that has grown from w0. -/
def Free1 (F : Fence) (n : Nat) (P : Program) (m : Nat) (D : List Deferred) (ops : List Oper) (w0 : World) (o : Oper) (L : Env) (V : List (Nat × VP)) (R : VP) : Prop :=
  ∀ w', Ext w0 w' → ∀ a, Fr m D a L → (∀ q ∈ V, q.1 ∈ looks ops o → ∃ v, a.tmps[q.1]? = some v ∧ q.2 v w') → (Region.wanted o (yielded ops.toArray a.tmps) = true ∧ Does F n P a.eval o w' (fun v w'' => R v w'' ∧ Ext w' w'')) ∨ (Region.wanted o (yielded ops.toArray a.tmps) = false ∧ R undef w')
/-- One walk through the free operations, in the text's order: what each yields (a value that is the same in all these worlds, or one of which p holds); K: what is then to be shown. -/
def QW (F : Fence) (n : Nat) (P : Program) (m : Nat) (D : List Deferred) (ops : List Oper) (w0 : World) (K : Env → List (Nat × VP) → Prop) : List Oper → Env → List (Nat × VP) → Prop
  | [], L, V => K L V
  | o :: rest, L, V => ∃ d, o.dst = some d ∧ Nat.blt d m = true ∧
      ((∃ c, Free1 F n P m D ops w0 o L V (fun v _ => v = c) ∧ QW F n P m D ops w0 K rest ((d, c) :: L) V) ∨
       (∃ p, Stable p ∧ at' L d = none ∧ Free1 F n P m D ops w0 o L V p ∧ QW F n P m D ops w0 K rest L ((d, p) :: V)))
/-- The tail, whatever the values are of which only p is known. -/
def Tail (F : Fence) (n : Nat) (P : Program) (Q : Exit → Act → World → Prop) (m : Nat) (D : List Deferred) (ops tail : List Oper) (w0 : World) (L : Env) (V : List (Nat × VP)) : Prop :=
  ∀ w', Ext w0 w' → ∀ (L' : Env), (∀ q ∈ V, ∃ v, at' L' q.1 = some v ∧ q.2 v w') → Sub L L' → WL F n P Q m D ops tail L' w'

section
variable {F : Fence} {n : Nat} {P : Program} {Q : Exit → Act → World → Prop} {m : Nat} {D : List Deferred} {ops : List Oper} {w0 : World} {a0 : Act} {L0 : Env}

/-- The constants that the operations before number i give. -/
def Lc (ops : List Oper) (S : Nat → Sp) (L : Env) : Nat → Env
  | 0 => L
  | i + 1 => match gdst ops i, S i with
    | some d, .c v => (d, v) :: Lc ops S L i
    | _, _ => Lc ops S L i
def Vc (ops : List Oper) (S : Nat → Sp) (V : List (Nat × VP)) : Nat → List (Nat × VP)
  | 0 => V
  | i + 1 => match gdst ops i, S i with
    | some d, .p q => (d, q) :: Vc ops S V i
    | _, _ => Vc ops S V i
structure Ob (F : Fence) (n : Nat) (P : Program) (m : Nat) (D : List Deferred) (ops : List Oper) (w0 : World) (S : Nat → Sp) (L : Env) (V : List (Nat × VP)) (i : Nat) (o : Oper) : Prop where
  stable : Stable (S i).holds
  slot : ∃ d, o.dst = some d ∧ Nat.blt d m = true ∧ (∀ q, S i = .p q → at' (Lc ops S L i) d = none)
  does : Free1 F n P m D ops w0 o (Lc ops S L i) (Vc ops S V i) (S i).holds

theorem stable_c (c : Value) : Stable (Sp.c c).holds := fun _ _ _ h _ => h

theorem qw_specs {K : Env → List (Nat × VP) → Prop} {L : Env} {V : List (Nat × VP)} : ∀ (rest : List Oper) (i : Nat) (S : Nat → Sp), (∀ j o, rest[j]? = some o → ops[i + j]? = some o) →
    QW F n P m D ops w0 K rest (Lc ops S L i) (Vc ops S V i) →
    ∃ S' : Nat → Sp, (∀ j, j < i → S' j = S j) ∧ (∀ j o, i ≤ j → rest[j - i]? = some o → Ob F n P m D ops w0 S' L V j o) ∧ K (Lc ops S' L (i + rest.length)) (Vc ops S' V (i + rest.length))
  | [], i, S, ho, h => ⟨S, fun _ _ => rfl, fun j o _ hj => by simp at hj, h⟩
  | o :: rest, i, S, ho, h => by
    have hoi : ops[i]? = some o := by have := ho 0 o (by simp); simpa using this
    have ho' : ∀ j o', rest[j]? = some o' → ops[i + 1 + j]? = some o' := fun j o' hj => by
      have := ho (j + 1) o' (by simpa using hj); rwa [show i + (j + 1) = i + 1 + j from by omega] at this
    obtain ⟨d, hd, hdm, h⟩ := h
    have hg : gdst ops i = some d := by rw [gdst_eq, hoi]; simpa using hd
    have key : ∀ s : Sp, Stable s.holds → (∀ q, s = .p q → at' (Lc ops S L i) d = none) → Free1 F n P m D ops w0 o (Lc ops S L i) (Vc ops S V i) s.holds →
        QW F n P m D ops w0 K rest (Lc ops (fun k => if k = i then s else S k) L (i + 1)) (Vc ops (fun k => if k = i then s else S k) V (i + 1)) →
        ∃ S' : Nat → Sp, (∀ j, j < i → S' j = S j) ∧ (∀ j o', i ≤ j → (o :: rest)[j - i]? = some o' → Ob F n P m D ops w0 S' L V j o') ∧ K (Lc ops S' L (i + (o :: rest).length)) (Vc ops S' V (i + (o :: rest).length)) := by
      intro s hst hnone hf hq
      obtain ⟨S', h1, h2, h3⟩ := qw_specs rest (i + 1) (fun k => if k = i then s else S k) ho' hq
      have hLc : ∀ (S1 S2 : Nat → Sp) k, (∀ j, j < k → S1 j = S2 j) → Lc ops S1 L k = Lc ops S2 L k := by
        intro S1 S2 k
        induction k with
        | zero => intro _; rfl
        | succ k ih => intro he; simp only [Lc]; rw [he k (by omega), ih (fun j hj => he j (by omega))]
      have hVc : ∀ (S1 S2 : Nat → Sp) k, (∀ j, j < k → S1 j = S2 j) → Vc ops S1 V k = Vc ops S2 V k := by
        intro S1 S2 k
        induction k with
        | zero => intro _; rfl
        | succ k ih => intro he; simp only [Vc]; rw [he k (by omega), ih (fun j hj => he j (by omega))]
      have hlow : ∀ j, j < i → S' j = S j := fun j hj => by rw [h1 j (by omega)]; simp [show j ≠ i from by omega]
      have hSi : S' i = s := by rw [h1 i (by omega)]; simp
      refine ⟨S', hlow, fun j o' hij hj => ?_, by rw [List.length_cons, show i + (rest.length + 1) = i + 1 + rest.length from by omega]; exact h3⟩
      by_cases e : j = i
      · subst e
        simp at hj
        subst hj
        have hL := hLc S' S j hlow
        have hV := hVc S' S j hlow
        exact ⟨by rw [hSi]; exact hst, ⟨d, hd, hdm, fun q hq' => by rw [hL]; rw [hSi] at hq'; exact hnone q hq'⟩, by rw [hSi, hL, hV]; exact hf⟩
      · refine h2 j o' (by omega) ?_
        have : j - i = (j - (i + 1)) + 1 := by omega
        rw [this, List.getElem?_cons_succ] at hj
        exact hj
    have hLk : ∀ s : Sp, Lc ops (fun k => if k = i then s else S k) L i = Lc ops S L i := by
      intro s
      have : ∀ k, k ≤ i → Lc ops (fun k => if k = i then s else S k) L k = Lc ops S L k := by
        intro k
        induction k with
        | zero => intro _; rfl
        | succ k ih => intro hk; simp only [Lc]; rw [ih (by omega), if_neg (by omega : k ≠ i)]
      exact this i (Nat.le_refl _)
    have hVk : ∀ s : Sp, Vc ops (fun k => if k = i then s else S k) V i = Vc ops S V i := by
      intro s
      have : ∀ k, k ≤ i → Vc ops (fun k => if k = i then s else S k) V k = Vc ops S V k := by
        intro k
        induction k with
        | zero => intro _; rfl
        | succ k ih => intro hk; simp only [Vc]; rw [ih (by omega), if_neg (by omega : k ≠ i)]
      exact this i (Nat.le_refl _)
    rcases h with ⟨c, hf, hq⟩ | ⟨p, hst, hnone, hf, hq⟩
    · refine key (.c c) (stable_c c) (fun q h => by cases h) hf ?_
      simp only [Lc, Vc, hg, if_pos, hLk, hVk]
      exact hq
    · refine key (.p p) hst (fun _ _ => hnone) hf ?_
      simp only [Lc, Vc, hg, if_pos, hLk, hVk]
      exact hq

/-! ### which operations may come up -/
theorem ready_iff {listed : Array Bool} {i : Nat} : i ∈ Region.ready .any ops.toArray listed ↔ ∃ o, ops[i]? = some o ∧ listed.getD i true = false ∧ ∀ j ∈ needsL o, listed.getD j false = true := by
  unfold Region.ready
  rw [List.mem_filter, List.mem_range]
  simp only [List.size_toArray, List.getElem?_toArray, Bool.and_eq_true, Bool.not_eq_true']
  constructor
  · rintro ⟨hlt, h1, h2⟩
    rw [List.getElem?_eq_getElem hlt] at h2 ⊢
    refine ⟨_, rfl, h1, fun j hj => ?_⟩
    simp only [Option.map_some, Option.getD_some, Array.all_eq_true_iff_forall_mem] at h2
    simp only [needsL, List.mem_map, List.mem_filter] at hj
    obtain ⟨e, ⟨he, hb⟩, rfl⟩ := hj
    have := h2 e (by simpa using he)
    rw [hb] at this
    simpa using this
  · rintro ⟨o, ho, h1, h2⟩
    refine ⟨(List.getElem?_eq_some_iff.1 ho).1, h1, ?_⟩
    simp only [ho, Option.map_some, Option.getD_some, Array.all_eq_true_iff_forall_mem]
    intro e he
    cases hb : Region.binds .any e with
    | false => simp
    | true =>
      have := h2 e.on (by simp only [needsL, List.mem_map, List.mem_filter]; exact ⟨e, ⟨by simpa using he, hb⟩, rfl⟩)
      simpa using this
theorem getD_set {listed : Array Bool} {i j : Nat} {b : Bool} (hi : i < listed.size) : (listed.setIfInBounds i true).getD j b = if i = j then true else listed.getD j b := by
  simp only [Array.getD_eq_getD_getElem?]
  by_cases e : i = j
  · subst e; simp [hi]
  · simp [Array.getElem?_setIfInBounds_ne e, e]

structure Chk (ops : List Oper) (N : Nat) : Prop where
  back : ∀ i o, ops[i]? = some o → ∀ j ∈ needsL o, j < i
  dsts : dstsOk (ops.take N) = true
  free : ∀ i, i < N → ∃ o, ops[i]? = some o ∧ plainOp o.op = true ∧ ∀ s ∈ looks ops o, ∀ j, j < N → gdst ops j = some s → j ∈ needsL o ∨ ∃ oj, ops[j]? = some oj ∧ i ∈ needsL oj
  all : ∀ t, N ≤ t → t < ops.length → ∀ ls : Nat → Bool, PC ops ls → (∀ o, ops[t]? = some o → ∀ j ∈ needsL o, ls j = true) → ∀ j, j < t → ls j = true
theorem chk_of {N : Nat} (h : freeOk ops N = true) : Chk ops N := by
  simp only [freeOk, Bool.and_eq_true, List.all_eq_true, List.mem_range, Bool.or_eq_true] at h
  obtain ⟨⟨⟨h1, h2⟩, h3⟩, h4⟩ := h
  refine ⟨fun i o ho j hj => ?_, h2, fun i hi => ?_, fun t ht hlt ls hpc hn j hj => ?_⟩
  · have := h1 i (List.getElem?_eq_some_iff.1 ho).1
    simp only [needsAt, ho] at this
    simpa using this j hj
  · have := h3 i hi
    split at this
    · rename_i o ho
      simp only [Bool.and_eq_true, List.all_eq_true, List.mem_range, Bool.or_eq_true] at this
      refine ⟨o, ho, this.1, fun s hs j hj hg => ?_⟩
      rcases this.2 s hs j hj with (h | h) | h
      · rw [hg] at h; simp at h
      · exact .inl (by simpa using h)
      · refine .inr ?_
        unfold needsAt at h
        split at h
        · rename_i oj hoj
          exact ⟨oj, hoj, by simpa using h⟩
        · simp at h
    · cases this
  · rcases h4 t hlt with h | h
    · simp at h; omega
    · exact masks_ok ops [] [] rfl rfl (fun i hi => absurd hi (Nat.not_lt_zero _)) t hlt ls hpc hn j (h j hj)

theorem any_tail {N : Nat} (hc : Chk ops N) : ∀ (fuel t : Nat) (listed : Array Bool) (a : Act) (w : World), N ≤ t → t ≤ ops.length → listed.size = ops.length → (∀ i, i < ops.length → listed.getD i false = decide (i < t)) → ops.length - t ≤ fuel →
    wpListIn F n P ops.toArray Q (ops.drop t) a w → wpAnyIn F n P .any ops.toArray Q fuel listed a w := by
  intro fuel
  induction fuel with
  | zero =>
    intro t listed a w hN ht hs hl hf h
    have e : t = ops.length := by omega
    subst e
    rw [List.drop_length] at h
    refine ⟨?_, h⟩
    cases hr : Region.ready .any ops.toArray listed with
    | nil => rfl
    | cons i l =>
      obtain ⟨o, ho, h1, -⟩ := ready_iff.1 (hr ▸ List.mem_cons_self : i ∈ Region.ready .any ops.toArray listed)
      have hi := (List.getElem?_eq_some_iff.1 ho).1
      have := hl i hi
      rw [decide_eq_true hi] at this
      simp only [Array.getD_eq_getD_getElem?] at this h1
      rw [Array.getElem?_eq_getElem (by omega)] at this h1
      simp_all
  | succ fuel ih =>
    intro t listed a w hN ht hs hl hf h
    have hgt : ∀ i b, i < ops.length → listed.getD i b = decide (i < t) := fun i b hi => by
      have := hl i hi
      simp only [Array.getD_eq_getD_getElem?] at this ⊢
      rw [Array.getElem?_eq_getElem (by omega)] at this ⊢
      simpa using this
    have hone : ∀ i, i ∈ Region.ready .any ops.toArray listed → i = t := by
      intro i hi
      obtain ⟨o, ho, h1, h2⟩ := ready_iff.1 hi
      have hilt := (List.getElem?_eq_some_iff.1 ho).1
      rw [hgt i true hilt] at h1
      have hti : t ≤ i := by simpa using h1
      have := hc.all i (by omega) hilt (fun j => decide (j < t)) (fun i' o' ho' hi' j hj => by
        have hb := hc.back i' o' ho' j hj
        have : i' < t := by simpa using hi'
        exact decide_eq_true (by omega)) (fun o' ho' j hj => by
        rw [ho] at ho'
        cases ho'
        have hb := hc.back i o ho j hj
        have h3 := h2 j hj
        rw [hgt j false (by omega)] at h3
        exact h3)
      by_cases e : i = t
      · exact e
      · have := this t (by omega); simp at this
    refine ⟨fun hr => ?_, fun i hi => ?_⟩
    · by_cases e : t = ops.length
      · subst e; rw [List.drop_length] at h; exact h
      · exfalso
        have hlt : t < ops.length := by omega
        have : t ∈ Region.ready .any ops.toArray listed := ready_iff.2 ⟨ops[t], List.getElem?_eq_getElem hlt, by rw [hgt t true hlt]; simp, fun j hj => by
          have hb := hc.back t _ (List.getElem?_eq_getElem hlt) j hj
          rw [hgt j false (by omega)]; exact decide_eq_true hb⟩
        rw [hr] at this
        cases this
    · have e := hone i hi
      subst e
      obtain ⟨o, ho, -, -⟩ := ready_iff.1 hi
      have hlt := (List.getElem?_eq_some_iff.1 ho).1
      have hd : ops.drop i = o :: ops.drop (i + 1) := by
        rw [List.drop_eq_getElem_cons hlt]
        have := (List.getElem?_eq_some_iff.1 ho).2
        rw [this]
      rw [hd] at h
      unfold wpListIn at h
      unfold wpOpIn
      rw [List.getElem?_toArray, ho]
      simp only
      have hnext : ∀ a' w', wpListIn F n P ops.toArray Q (ops.drop (i + 1)) a' w' → wpAnyIn F n P .any ops.toArray Q fuel (listed.setIfInBounds i true) a' w' := fun a' w' h' =>
        ih (i + 1) _ a' w' (by omega) (by omega) (by simp [hs]) (fun k hk => by
          rw [getD_set (by omega), hgt k false hk]
          by_cases e : i = k
          · subst e; simp
          · rw [if_neg e]
            by_cases h1 : k < i
            · rw [decide_eq_true h1, decide_eq_true (by omega)]
            · rw [decide_eq_false h1, decide_eq_false (by omega)]) (by omega) h'
      split
      · rename_i hw; rw [if_pos hw] at h; exact Oper.wpIn_mono hnext h
      · rename_i hw; rw [if_neg hw] at h; exact ⟨h.1, hnext _ _ h.2⟩

theorem dsts_ne : ∀ (l : List Oper), dstsOk l = true → ∀ i j d, i < j → gdst l i = some d → gdst l j = some d → False
  | [], _, i, j, d, _, h, _ => by simp [gdst] at h
  | o :: l, hd, i, j, d, hij, h1, h2 => by
    simp only [dstsOk, Bool.and_eq_true] at hd
    cases j with
    | zero => omega
    | succ j =>
      simp only [gdst] at h2
      cases i with
      | zero =>
        simp only [gdst] at h1
        rw [h1] at hd
        simp only [List.all_eq_true] at hd
        rw [gdst_eq] at h2
        cases hl : l[j]? with
        | none => rw [hl] at h2; simp at h2
        | some o' =>
          rw [hl] at h2
          have := hd.1 o' (List.mem_of_getElem? hl)
          simp only [Option.bind_some] at h2
          rw [h2] at this
          simp at this
      | succ i => exact dsts_ne l hd.2 i j d (by omega) (by simpa [gdst] using h1) h2
theorem gdst_take {N i : Nat} (hi : i < N) : gdst (ops.take N) i = gdst ops i := by rw [gdst_eq, gdst_eq, List.getElem?_take_of_lt hi]
theorem Chk.ne {N : Nat} (hc : Chk ops N) {i j d : Nat} (hi : i < N) (hj : j < N) (hne : i ≠ j) (h1 : gdst ops i = some d) (h2 : gdst ops j = some d) : False := by
  rcases Nat.lt_or_ge i j with h | h
  · exact dsts_ne _ hc.dsts i j d h (by rw [gdst_take hi]; exact h1) (by rw [gdst_take hj]; exact h2)
  · exact dsts_ne _ hc.dsts j i d (by omega) (by rw [gdst_take hj]; exact h2) (by rw [gdst_take hi]; exact h1)

theorem at_cons {d s : Nat} {v : Value} {L : Env} : at' ((d, v) :: L) s = if d = s then some v else at' L s := by
  simp only [at']
  cases hb : Nat.beq d s with
  | true => rw [if_pos (Nat.eq_of_beq_eq_true hb)]; rfl
  | false => rw [if_neg (fun e => by subst e; rw [Nat.beq_refl] at hb; cases hb)]; rfl
theorem lc_some {S : Nat → Sp} {s : Nat} {v : Value} : ∀ i, at' (Lc ops S L0 i) s = some v → (∃ j, j < i ∧ gdst ops j = some s ∧ S j = .c v) ∨ (at' L0 s = some v ∧ ∀ j, j < i → ∀ c, gdst ops j = some s → S j ≠ .c c)
  | 0, h => .inr ⟨h, fun j hj => absurd hj (Nat.not_lt_zero _)⟩
  | i + 1, h => by
    simp only [Lc] at h
    split at h
    · rename_i d c hd hS
      rw [at_cons] at h
      split at h
      · rename_i e
        subst e
        cases h
        exact .inl ⟨i, by omega, hd, hS⟩
      · rename_i e
        rcases lc_some i h with ⟨j, hj, h1, h2⟩ | ⟨h1, h2⟩
        · exact .inl ⟨j, by omega, h1, h2⟩
        · refine .inr ⟨h1, fun j hj c hg => ?_⟩
          by_cases ej : j = i
          · subst ej; rw [hd] at hg; cases hg; exact absurd rfl e
          · exact h2 j (by omega) c hg
    · rename_i hn
      rcases lc_some i h with ⟨j, hj, h1, h2⟩ | ⟨h1, h2⟩
      · exact .inl ⟨j, by omega, h1, h2⟩
      · refine .inr ⟨h1, fun j hj c hg => ?_⟩
        by_cases ej : j = i
        · subst ej; intro hc; exact hn _ _ hg hc
        · exact h2 j (by omega) c hg
theorem lc_none {S : Nat → Sp} {s : Nat} : ∀ i, at' (Lc ops S L0 i) s = none → at' L0 s = none
  | 0, h => h
  | i + 1, h => by
    simp only [Lc] at h
    split at h
    · rw [at_cons] at h
      split at h
      · cases h
      · exact lc_none i h
    · exact lc_none i h

structure Inv (m : Nat) (D : List Deferred) (ops : List Oper) (N : Nat) (w0 : World) (S : Nat → Sp) (L0 : Env) (listed : Array Bool) (a : Act) (w : World) : Prop where
  size : listed.size = ops.length
  tail : ∀ i, N ≤ i → i < ops.length → listed.getD i false = false
  pc : PC ops (fun i => listed.getD i false)
  ext : Ext w0 w
  tsize : a.tmps.size = m
  defers : a.defers = D
  old : ∀ s v, at' L0 s = some v → (∀ i, i < N → gdst ops i = some s → listed.getD i false = false) → a.tmps[s]? = some v
  new : ∀ i, i < N → listed.getD i false = true → ∀ d, gdst ops i = some d → ∃ v, a.tmps[d]? = some v ∧ (S i).holds v w

theorem free_len {N : Nat} (hc : Chk ops N) : N ≤ ops.length := by
  rcases Nat.eq_zero_or_pos N with h | h
  · omega
  · obtain ⟨o, ho, -⟩ := hc.free (N - 1) (by omega)
    have := (List.getElem?_eq_some_iff.1 ho).1
    omega

theorem filter_lt {p q : Nat → Bool} : ∀ (l : List Nat), (∀ x ∈ l, p x = true → q x = true) → (∃ x ∈ l, q x = true ∧ p x = false) → (l.filter p).length < (l.filter q).length
  | [], _, ⟨x, hx, _⟩ => by cases hx
  | y :: l, h, ⟨x, hx, h1, h2⟩ => by
    have hle : ∀ l : List Nat, (∀ x ∈ l, p x = true → q x = true) → (l.filter p).length ≤ (l.filter q).length := by
      intro l
      induction l with
      | nil => intro _; simp
      | cons z l ih =>
        intro h
        have := ih (fun x hx => h x (by simp [hx]))
        simp only [List.filter_cons]
        cases hp : p z with
        | true => rw [h z (by simp) hp]; simp; omega
        | false => cases q z <;> simp <;> omega
    simp only [List.filter_cons]
    rcases List.mem_cons.1 hx with e | hx
    · subst e
      rw [h1, h2]
      have := hle l (fun x hx => h x (by simp [hx]))
      simp; omega
    · have := filter_lt l (fun x hx => h x (by simp [hx])) ⟨x, hx, h1, h2⟩
      cases hp : p y with
      | true => rw [h y (by simp) hp]; simp; omega
      | false => cases q y <;> simp <;> omega
theorem least (p : Nat → Bool) : ∀ N, (∃ i, i < N ∧ p i = false) → ∃ i, i < N ∧ p i = false ∧ ∀ j, j < i → p j = true
  | 0, ⟨i, hi, _⟩ => absurd hi (Nat.not_lt_zero _)
  | N + 1, ⟨i, hi, h⟩ => by
    by_cases e : ∃ i, i < N ∧ p i = false
    · obtain ⟨j, hj, h1, h2⟩ := least p N e
      exact ⟨j, by omega, h1, h2⟩
    · refine ⟨i, hi, h, fun j hj => ?_⟩
      cases hp : p j with
      | true => rfl
      | false => exact absurd ⟨j, by omega, hp⟩ e
theorem at_tab {f : Nat → Value} {s : Nat} {v : Value} : ∀ l : List Nat, at' (l.map fun i => (i, f i)) s = some v → s ∈ l ∧ v = f s
  | [], h => by cases h
  | i :: l, h => by
    rw [List.map_cons, at_cons] at h
    split at h
    · rename_i e; subst e; cases h; exact ⟨by simp, rfl⟩
    · obtain ⟨h1, h2⟩ := at_tab l h; exact ⟨by simp [h1], h2⟩
theorem at_tab_mem {f : Nat → Value} {s : Nat} : ∀ l : List Nat, s ∈ l → at' (l.map fun i => (i, f i)) s = some (f s)
  | i :: l, h => by
    rw [List.map_cons, at_cons]
    split
    · rename_i e; subst e; rfl
    · rename_i e
      rcases List.mem_cons.1 h with h | h
      · exact absurd h.symm e
      · exact at_tab_mem l h
theorem vc_mem {S : Nat → Sp} {q : Nat × VP} : ∀ i, q ∈ Vc ops S [] i → ∃ j, j < i ∧ gdst ops j = some q.1 ∧ S j = .p q.2
  | 0, h => by cases h
  | i + 1, h => by
    simp only [Vc] at h
    split at h
    · rename_i d p hd hS
      rcases List.mem_cons.1 h with h | h
      · subst h; exact ⟨i, by omega, hd, hS⟩
      · obtain ⟨j, hj, h1, h2⟩ := vc_mem i h; exact ⟨j, by omega, h1, h2⟩
    · obtain ⟨j, hj, h1, h2⟩ := vc_mem i h; exact ⟨j, by omega, h1, h2⟩
theorem gd {listed : Array Bool} {i : Nat} {b c : Bool} (h : i < listed.size) : listed.getD i b = listed.getD i c := by
  simp only [Array.getD_eq_getD_getElem?, Array.getElem?_eq_getElem h, Option.getD_some]

theorem any_free {N : Nat} {S : Nat → Sp} {V : List (Nat × VP)} (hW : Wd F) (hc : Chk ops N) (hL0 : ∀ s v, at' L0 s = some v → s < m) (hob : ∀ i o, i < N → ops[i]? = some o → Ob F n P m D ops w0 S L0 [] i o) (hV : V = Vc ops S [] N)
    (htail : Tail F n P Q m D ops (ops.drop N) w0 (Lc ops S L0 N) V) :
    ∀ (fuel : Nat) (listed : Array Bool) (a : Act) (w : World), Inv m D ops N w0 S L0 listed a w → ops.length - N + ((List.range N).filter fun i => !listed.getD i false).length ≤ fuel →
      wpAnyIn F n P .any ops.toArray Q fuel listed a w := by
  have hNl := free_len hc
  have hslot : ∀ i, i < N → ∃ o d, ops[i]? = some o ∧ o.dst = some d ∧ gdst ops i = some d ∧ d < m := fun i hi => by
    obtain ⟨o, ho, -, -⟩ := hc.free i hi
    obtain ⟨d, hd, hdm, -⟩ := (hob i o hi ho).slot
    exact ⟨o, d, ho, hd, by rw [gdst_eq, ho]; simpa using hd, by simpa using hdm⟩
  -- what is known of a slot of which Lc says something, once all that write it have come up
  have hread : ∀ (listed : Array Bool) (a : Act) (w : World), Inv m D ops N w0 S L0 listed a w → ∀ i s v, i ≤ N → at' (Lc ops S L0 i) s = some v → (∀ j, j < N → gdst ops j = some s → (j < i ∧ listed.getD j false = true) ∨ (i ≤ j ∧ listed.getD j false = false)) → a.tmps[s]? = some v := by
    intro listed a w hI i s v hi hs hall
    rcases lc_some i hs with ⟨j, hj, hg, hS⟩ | ⟨h1, h2⟩
    · obtain ⟨u, hu, hh⟩ := hI.new j (by omega) ((hall j (by omega) hg).elim (fun h => h.2) (fun h => absurd h.1 (by omega))) s hg
      rw [hS] at hh
      have : u = v := hh
      rw [← this]; exact hu
    · refine hI.old s v h1 (fun j hj hg => ?_)
      rcases hall j hj hg with hall' | hall'
      case inr => exact hall'.2
      exfalso
      have hji := hall'.1
      cases hSj : S j with
      | c c => exact h2 j hji c hg hSj
      | p q =>
        obtain ⟨o, d, ho, hd, hgd, -⟩ := hslot j hj
        obtain ⟨d', hd', -, hn⟩ := (hob j o hj ho).slot
        rw [hd] at hd'; cases hd'
        rw [hg] at hgd; cases hgd
        have := lc_none j (hn q hSj)
        rw [this] at h1; cases h1
  have hfin : ∀ (listed : Array Bool) (a : Act) (w : World), Inv m D ops N w0 S L0 listed a w → (∀ i, i < N → listed.getD i false = true) → wpListIn F n P ops.toArray Q (ops.drop N) a w := by
    intro listed a w hI hall
    refine htail w hI.ext ((List.range m).map fun i => (i, a.tmps.getD i undef)) (fun q hq => ?_) (fun s v hs => ?_) a ⟨hI.tsize, hI.defers, fun s v hs => ?_⟩
    · rw [hV] at hq
      obtain ⟨j, hj, hgj, hSj⟩ := vc_mem N hq
      obtain ⟨v, hv, hh⟩ := hI.new j hj (hall j hj) q.1 hgj
      obtain ⟨oj, dj, hoj, hdj, hgj', hm⟩ := hslot j hj
      rw [hgj] at hgj'; cases hgj'
      refine ⟨v, ?_, by rw [hSj] at hh; exact hh⟩
      rw [at_tab_mem _ (List.mem_range.2 hm), Array.getD_eq_getD_getElem?, hv]; rfl
    · have hv := hread listed a w hI N s v (Nat.le_refl _) hs (fun j hj hgj => .inl ⟨hj, hall j hj⟩)
      have hsm : s < m := by rw [← hI.tsize]; exact (Array.getElem?_eq_some_iff.1 hv).1
      rw [at_tab_mem _ (List.mem_range.2 hsm), Array.getD_eq_getD_getElem?, hv]; rfl
    · obtain ⟨h1, h2⟩ := at_tab _ hs
      rw [List.mem_range] at h1
      rw [h2, Array.getD_eq_getD_getElem?, Array.getElem?_eq_getElem (by rw [hI.tsize]; exact h1)]; rfl
  intro fuel
  induction fuel with
  | zero =>
    intro listed a w hI hf
    have h0 : ops.length = N := by omega
    have hall : ∀ i, i < N → listed.getD i false = true := fun i hi => by
      have hz : ((List.range N).filter fun i => !listed.getD i false) = [] := List.eq_nil_of_length_eq_zero (by omega)
      rw [List.filter_eq_nil_iff] at hz
      simpa using hz i (List.mem_range.2 hi)
    exact any_tail hc 0 N listed a w (Nat.le_refl _) hNl hI.size (fun i hi => by rw [hall i (by omega)]; exact (decide_eq_true (by omega)).symm) (by omega) (hfin listed a w hI hall)
  | succ fuel ih =>
    intro listed a w hI hf
    by_cases hall : ∀ i, i < N → listed.getD i false = true
    · have hz : ((List.range N).filter fun i => !listed.getD i false) = [] := by
        rw [List.filter_eq_nil_iff]; intro i hi; simp [hall i (List.mem_range.1 hi)]
      rw [hz] at hf
      exact any_tail hc (fuel + 1) N listed a w (Nat.le_refl _) hNl hI.size (fun i hi => by
        by_cases h : i < N
        · rw [hall i h, decide_eq_true h]
        · rw [hI.tail i (by omega) hi, decide_eq_false h]) (by simp at hf; omega) (hfin listed a w hI hall)
    · have hex : ∃ i, i < N ∧ listed.getD i false = false := by
        refine Classical.byContradiction fun hne => hall fun i hi => ?_
        cases hl : listed.getD i false with
        | true => rfl
        | false => exact absurd ⟨i, hi, hl⟩ hne
      refine ⟨fun hr => ?_, fun i hi => ?_⟩
      · exfalso
        obtain ⟨i0, hi0, h1, h2⟩ := least (fun i => listed.getD i false) N hex
        have hlt : i0 < ops.length := by omega
        have : i0 ∈ Region.ready .any ops.toArray listed := ready_iff.2 ⟨ops[i0], List.getElem?_eq_getElem hlt, by rw [gd (b := true) (c := false) (by rw [hI.size]; exact hlt)]; exact h1, fun j hj => h2 j (hc.back i0 _ (List.getElem?_eq_getElem hlt) j hj)⟩
        rw [hr] at this; cases this
      · obtain ⟨o, ho, h1, h2⟩ := ready_iff.1 hi
        have hlt := (List.getElem?_eq_some_iff.1 ho).1
        have hiN : i < N := by
          refine Classical.byContradiction fun hge => ?_
          obtain ⟨j0, hj0, hun⟩ := hex
          have := hc.all i (by omega) hlt (fun j => listed.getD j false) hI.pc (fun o' ho' j hj => by rw [ho] at ho'; cases ho'; exact h2 j hj) j0 (by omega)
          rw [hun] at this; cases this
        have hun : listed.getD i false = false := by rw [gd (b := false) (c := true) (by rw [hI.size]; exact hlt)]; exact h1
        obtain ⟨o', ho', hpl, hlk⟩ := hc.free i hiN
        rw [ho] at ho'; cases ho'
        obtain ⟨hst, ⟨d, hd, hdm, hnone⟩, hdoes⟩ := hob i o hiN ho
        have hg : gdst ops i = some d := by rw [gdst_eq, ho]; simpa using hd
        have hdm' : d < m := by simpa using hdm
        have hlcm : ∀ s v, at' (Lc ops S L0 i) s = some v → s < m := fun s v hs => by
          rcases lc_some i hs with ⟨j, hj, hgj, -⟩ | ⟨h, -⟩
          · obtain ⟨oj, dj, hoj, hdj, hgj', hm⟩ := hslot j (by omega)
            rw [hgj] at hgj'; cases hgj'; exact hm
          · exact hL0 s v h
        -- the frame that holds the constants of all that stand ahead of it in the text
        let st : Act := { a with tmps := Array.ofFn (n := m) fun s => (at' (Lc ops S L0 i) s.1).getD (a.tmps.getD s.1 undef) }
        have hstar : ∀ s, (∀ v, at' (Lc ops S L0 i) s = some v → a.tmps[s]? = some v) → st.tmps[s]? = a.tmps[s]? := fun s h => by
          show (Array.ofFn (n := m) fun s => (at' (Lc ops S L0 i) s.1).getD (a.tmps.getD s.1 undef))[s]? = _
          rw [Array.getElem?_ofFn]
          by_cases hs : s < m
          · rw [dif_pos hs]
            cases hat : at' (Lc ops S L0 i) s with
            | none => simp [Array.getD_eq_getD_getElem?, Array.getElem?_eq_getElem (show s < a.tmps.size by rw [hI.tsize]; exact hs)]
            | some v => simp [h v hat]
          · rw [dif_neg hs, Array.getElem?_eq_none (by rw [hI.tsize]; omega)]
        have hfr : Fr m D st (Lc ops S L0 i) := by
          refine ⟨by simp [st], hI.defers, fun s v hs => ?_⟩
          have hsm := hlcm s v hs
          show (Array.ofFn (n := m) fun s => (at' (Lc ops S L0 i) s.1).getD (a.tmps.getD s.1 undef))[s]? = _
          rw [Array.getElem?_ofFn, dif_pos hsm]; simp [hs]
        have hlook : ∀ s ∈ looks ops o, st.tmps[s]? = a.tmps[s]? := fun s hs => hstar s fun v hv => hread listed a w hI i s v (by omega) hv fun j hj hgj => by
          rcases hlk s hs j hj hgj with hn | ⟨oj, hoj, hn⟩
          · exact .inl ⟨hc.back i o ho j hn, h2 j hn⟩
          · refine .inr ⟨Nat.le_of_lt (hc.back j oj hoj i hn), ?_⟩
            cases hlj : listed.getD j false with
            | false => rfl
            | true =>
              have hli : listed.getD i false = true := hI.pc j oj hoj hlj i hn
              rw [hun] at hli; cases hli
        have hopd : ∀ x ∈ o.op.operands, st.eval x = a.eval x := fun x hx => by
          cases x with
          | tmp t =>
            have := hlook t (List.mem_append_left _ (List.mem_filterMap.2 ⟨.tmp t, by simpa using hx, rfl⟩))
            show st.tmps.getD t undef = a.tmps.getD t undef
            rw [Array.getD_eq_getD_getElem?, Array.getD_eq_getD_getElem?, this]
          | _ => rfl
        have hexec : execOp st.eval o = execOp a.eval o := execOp_congr o (fun cs b h => by rw [h] at hpl; cases hpl) hopd
        have hwant : Region.wanted o (yielded ops.toArray st.tmps) = Region.wanted o (yielded ops.toArray a.tmps) := by
          unfold Region.wanted
          cases hgd : o.guard with
          | none => rfl
          | some p =>
            obtain ⟨j, want⟩ := p
            have hy : yielded ops.toArray st.tmps j = yielded ops.toArray a.tmps j := by
              simp only [yielded, List.getElem?_toArray]
              cases hgj : (ops[j]?).bind (·.dst) with
              | none => rfl
              | some dj =>
                have := hlook dj (List.mem_append_right _ (by rw [hgd]; simp only [gdst_eq, hgj]; simp))
                simp only [Option.bind_some, this]
            simp only [hy]
        have hnd : ∀ c, o.op ≠ .defer c := fun c h => by rw [h] at hpl; cases hpl
        have hnext : ∀ v w'', (S i).holds v w'' → Ext w w'' → wpAnyIn F n P .any ops.toArray Q fuel (listed.setIfInBounds i true) (a.put o.dst v) w'' := by
          intro v w'' hh hx
          have hsz : i < listed.size := by rw [hI.size]; exact hlt
          refine ih _ _ _ ⟨by simp [hI.size], fun k hk hkl => ?_, fun k ok hok hk j hj => ?_, hI.ext.trans hx, ?_, hI.defers ▸ by rw [hd]; rfl, fun s u hs hk => ?_, fun k hk hkl dk hgk => ?_⟩ ?_
          · rw [getD_set hsz, if_neg (by omega)]; exact hI.tail k hk hkl
          · simp only [getD_set hsz] at hk ⊢
            by_cases e : i = j
            · rw [if_pos e]
            · rw [if_neg e]
              by_cases ek : i = k
              · subst ek; rw [ho] at hok; cases hok; exact h2 j hj
              · rw [if_neg ek] at hk; exact hI.pc k ok hok hk j hj
          · rw [hd]; simp [Act.put, hI.tsize]
          · have hne : d ≠ s := fun e => by
              subst e
              have := hk i hiN hg
              rw [getD_set hsz, if_pos rfl] at this; cases this
            rw [hd]
            simp only [Act.put, Array.getElem?_setIfInBounds_ne hne]
            exact hI.old s u hs fun j hj hgj => by
              have := hk j hj hgj
              rw [getD_set hsz] at this
              by_cases e : i = j
              · rw [if_pos e] at this; cases this
              · rw [if_neg e] at this; exact this
          · rw [getD_set hsz] at hkl
            by_cases e : i = k
            · subst e
              rw [hg] at hgk; cases hgk
              exact ⟨v, by rw [hd]; simp [Act.put, hI.tsize, hdm'], hh⟩
            · rw [if_neg e] at hkl
              have hne : d ≠ dk := fun e' => by subst e'; exact hc.ne hiN hk e hg hgk
              obtain ⟨u, hu, hhu⟩ := hI.new k hk hkl dk hgk
              obtain ⟨ok, -, hok, -⟩ := hslot k hk
              exact ⟨u, by rw [hd]; simp only [Act.put, Array.getElem?_setIfInBounds_ne hne]; exact hu, (hob k ok hk hok).stable u w w'' hhu hx⟩
          · have := filter_lt (p := fun k => !(listed.setIfInBounds i true).getD k false) (q := fun k => !listed.getD k false) (List.range N) (fun k _ hk => by
              simp only [getD_set hsz] at hk
              by_cases e : i = k
              · rw [if_pos e] at hk; cases hk
              · rw [if_neg e] at hk; exact hk) ⟨i, List.mem_range.2 hiN, by simp [hun], by simp [getD_set hsz]⟩
            omega
        unfold wpOpIn
        rw [List.getElem?_toArray, ho]
        simp only
        have hvs : ∀ q ∈ Vc ops S [] i, q.1 ∈ looks ops o → ∃ v, st.tmps[q.1]? = some v ∧ q.2 v w := fun q hq hlo => by
          obtain ⟨j, hj, hgj, hSj⟩ := vc_mem i hq
          obtain ⟨v, hv, hh⟩ := hI.new j (by omega) (h2 j ((hlk q.1 hlo j (by omega) hgj).elim id fun ⟨oj, hoj, hn⟩ => absurd (hc.back j oj hoj i hn) (by omega))) q.1 hgj
          exact ⟨v, by rw [hlook q.1 hlo]; exact hv, by rw [hSj] at hh; exact hh⟩
        rcases hdoes w hI.ext st hfr hvs with ⟨hw, hdo⟩ | ⟨hw, hr⟩
        · rw [if_pos (hwant ▸ hw)]
          cases hdo with
          | val v w' h hr => exact wpIn_value hW hnd (by rw [← hexec]; exact h) (hnext v w' hr.1 hr.2)
          | call f args w' h hcl =>
            rcases hcl with ⟨hF, hcl⟩
            have hx : (execOp a.eval o).run P w = .ok (.enter f args) w' := by rw [← hexec]; exact h
            exact wpIn_entered hW hnd hx ⟨hF, hcl⟩ (fun v w'' hr => hnext v w'' hr.1 hr.2)
        · rw [if_neg (by rw [← hwant, hw]; simp)]
          exact ⟨fun f _ => hW.fn f, hnext undef w hr (Keep.refl _ _)⟩

/-- **A region that draws its order.** -/
theorem wc_draw {id : Nat} {L : Env} {w : World} (N : Nat) (hW : Wd F) (hm : P.follows .mixedOrders = true) (hck : freeOk ops N = true)
    (hq : QW F n P m D ops w.drew (Tail F n P Q m D ops (ops.drop N) w.drew) (ops.take N) L []) : WC F n P Q m D (.region id ops.toArray true) L w := by
  intro a ha
  have hc := chk_of hck
  obtain ⟨S, -, h2, h3⟩ := qw_specs (F := F) (n := n) (P := P) (m := m) (D := D) (ops := ops) (w0 := w.drew) (L := L) (V := []) (ops.take N) 0 (fun _ => .c undef) (fun j o hj => by
    rw [Nat.zero_add]
    rw [List.getElem?_take] at hj
    split at hj
    · exact hj
    · cases hj) hq
  have hlen : (ops.take N).length = N := by rw [List.length_take]; have := free_len hc; omega
  rw [Nat.zero_add, hlen] at h3
  refine wpIn_region_any hm ?_
  have hmem : ∀ s v, at' L s = some v → s < m := fun s v hs => by rw [← ha.size]; exact (Array.getElem?_eq_some_iff.1 (ha.get s v hs)).1
  have hfalse : ∀ i, (Array.replicate ops.length false).getD i false = false := fun i => by
    rw [Array.getD_eq_getD_getElem?, Array.getElem?_replicate]; split <;> rfl
  have := any_free (Q := Q) (N := N) (S := S) (V := Vc ops S [] N) hW hc hmem (fun i o hi ho => h2 i o (Nat.zero_le _) (by rw [Nat.sub_zero, List.getElem?_take_of_lt hi]; exact ho)) rfl h3 ops.length
    (Array.replicate ops.length false) a w.drew ⟨by simp, fun i _ _ => hfalse i, (fun i o _ h => absurd ((hfalse i).symm.trans h) Bool.false_ne_true), Keep.refl _ _, ha.size, ha.defers, fun s v hs _ => ha.get s v hs, (fun i _ h => absurd ((hfalse i).symm.trans h) Bool.false_ne_true)⟩
    (by
      have : ((List.range N).filter fun i => !(Array.replicate ops.length false).getD i false).length ≤ N := by
        have := List.length_filter_le (fun i => !(Array.replicate ops.length false).getD i false) (List.range N)
        simpa using this
      have := free_len hc
      omega)
  simpa using this
end
end Go.Proofs.Ytblbddamebbgaaa.K

/- My own walking rules (part 4): the steps of a region in any order; ranges over functions; append. No program is named here. -/
namespace Go.Proofs.Ytblbddamebbgaaa.K
open Go Go.RowKit
set_option linter.unusedVariables false
set_option linter.unusedSectionVars false
set_option linter.unusedSimpArgs false

section
variable {F : Fence} {n : Nat} {P : Program} {Q : Exit → Act → World → Prop} {m : Nat} {D : List Deferred} {L : Env} {w w' w0 : World} {a : Act}
variable {ops tail : List Oper} {rest : List Oper} {d : Nat} {ty t e : TypeId} {pos : String} {af : Array Edge} {g : Option (Nat × Bool)} {v : Value} {x y : Operand} {K : Env → List (Nat × VP) → Prop} {V : List (Nat × VP)}

theorem q_nil (k : K L V) : QW F n P m D ops w0 K [] L V := k
theorem q_val {op : Op} (hg : wants L ops g = some true) (hd : Nat.blt d m = true) (hx : ∀ w', Ext w0 w' → Xv P m D L op ty w' v w') (k : QW F n P m D ops w0 K rest ((d, v) :: L) V) :
    QW F n P m D ops w0 K (⟨some d, op, ty, pos, af, g⟩ :: rest) L V :=
  ⟨d, rfl, hd, .inl ⟨v, fun w' hw a h _ => .inl ⟨h.wanted (o := ⟨some d, op, ty, pos, af, g⟩) hg, .val v w' ((hx w' hw).2 _ _ _ _ a h) ⟨rfl, Keep.refl _ _⟩⟩, k⟩⟩
theorem q_off {op : Op} (hg : wants L ops g = some false) (hd : Nat.blt d m = true) (k : QW F n P m D ops w0 K rest ((d, undef) :: L) V) :
    QW F n P m D ops w0 K (⟨some d, op, ty, pos, af, g⟩ :: rest) L V :=
  ⟨d, rfl, hd, .inl ⟨undef, fun w' hw a h _ => .inr ⟨h.wanted (o := ⟨some d, op, ty, pos, af, g⟩) hg, rfl⟩, k⟩⟩
theorem q_call {op : Op} {f : FuncId} {args : Array Value} (hg : wants L ops g = some true) (hd : Nat.blt d m = true) (hx : ∀ w', Xc P m D L op ty w' f args w')
    (hc : ∀ w', Ext w0 w' → CallsIn F (n - 1) P f args w' (ok1 fun u w'' => u = v ∧ Ext w' w'')) (k : QW F n P m D ops w0 K rest ((d, v) :: L) V) :
    QW F n P m D ops w0 K (⟨some d, op, ty, pos, af, g⟩ :: rest) L V :=
  ⟨d, rfl, hd, .inl ⟨v, fun w' hw a h _ => .inl ⟨h.wanted (o := ⟨some d, op, ty, pos, af, g⟩) hg, .call f args w' ((hx w').2 _ _ _ _ a h) (hc w' hw)⟩, k⟩⟩
theorem q_callp {op : Op} {f : FuncId} {args : Array Value} {p : VP} (hp : Stable p) (hg : wants L ops g = some true) (hd : Nat.blt d m = true) (hno : at' L d = none) (hx : ∀ w', Xc P m D L op ty w' f args w')
    (hc : ∀ w', Ext w0 w' → CallsIn F (n - 1) P f args w' (ok1 fun u w'' => p u w'' ∧ Ext w' w'')) (k : QW F n P m D ops w0 K rest L ((d, p) :: V)) :
    QW F n P m D ops w0 K (⟨some d, op, ty, pos, af, g⟩ :: rest) L V :=
  ⟨d, rfl, hd, .inr ⟨p, hp, hno, fun w' hw a h _ => .inl ⟨h.wanted (o := ⟨some d, op, ty, pos, af, g⟩) hg, .call f args w' ((hx w').2 _ _ _ _ a h) (hc w' hw)⟩, k⟩⟩
theorem q_valp {op : Op} {p : VP} (hp : Stable p) (hg : wants L ops g = some true) (hd : Nat.blt d m = true) (hno : at' L d = none) (hx : ∀ w', Ext w0 w' → ∃ v w'', Xv P m D L op ty w' v w'' ∧ p v w'' ∧ Ext w' w'') (k : QW F n P m D ops w0 K rest L ((d, p) :: V)) :
    QW F n P m D ops w0 K (⟨some d, op, ty, pos, af, g⟩ :: rest) L V :=
  ⟨d, rfl, hd, .inr ⟨p, hp, hno, fun w' hw a h _ => by
    obtain ⟨v, w'', hx, hpv, he⟩ := hx w' hw
    exact .inl ⟨h.wanted (o := ⟨some d, op, ty, pos, af, g⟩) hg, .val v w'' (hx.2 _ _ _ _ a h) ⟨hpv, he⟩⟩, k⟩⟩
/-- An operation that reads one slot of whose value only q is known. -/
theorem q_valv {op : Op} {p q : VP} {s : Nat} (hp : Stable p) (hg : wants L ops g = some true) (hd : Nat.blt d m = true) (hno : at' L d = none) (hs : (s, q) ∈ V) (hlo : s ∈ looks ops ⟨some d, op, ty, pos, af, g⟩)
    (hx : ∀ w' u, Ext w0 w' → q u w' → ∃ v w'', Xv P m D ((s, u) :: L) op ty w' v w'' ∧ p v w'' ∧ Ext w' w'') (k : QW F n P m D ops w0 K rest L ((d, p) :: V)) :
    QW F n P m D ops w0 K (⟨some d, op, ty, pos, af, g⟩ :: rest) L V :=
  ⟨d, rfl, hd, .inr ⟨p, hp, hno, fun w' hw a h hvs => by
    obtain ⟨u, hu, hq⟩ := hvs _ hs hlo
    obtain ⟨v, w'', hx, hpv, he⟩ := hx w' u hw hq
    refine .inl ⟨h.wanted (o := ⟨some d, op, ty, pos, af, g⟩) hg, .val v w'' (hx.2 _ _ _ _ a ⟨h.size, h.defers, fun i v hi => ?_⟩) ⟨hpv, he⟩⟩
    rw [at_cons] at hi
    split at hi
    · rename_i e; subst e; cases hi; exact hu
    · exact h.get i v hi, k⟩⟩
theorem tail0 (k : ∀ w', Ext w0 w' → WL F n P Q m D ops tail L w') : Tail F n P Q m D ops tail w0 L [] := fun w' hw L' _ hs => wl_sub hs (k w' hw)
theorem tail1 {p : VP} (k : ∀ w' v, Ext w0 w' → p v w' → WL F n P Q m D ops tail ((d, v) :: L) w') : Tail F n P Q m D ops tail w0 L [(d, p)] := fun w' hw L' hv hs => by
  obtain ⟨v, h1, h2⟩ := hv (d, p) (by simp)
  exact wl_sub (sub_cons h1 hs) (k w' v hw h2)
theorem tail2 {d2 : Nat} {p p2 : VP} (k : ∀ w' v v2, Ext w0 w' → p v w' → p2 v2 w' → WL F n P Q m D ops tail ((d, v) :: (d2, v2) :: L) w') : Tail F n P Q m D ops tail w0 L [(d, p), (d2, p2)] := fun w' hw L' hv hs => by
  obtain ⟨v, h1, h2⟩ := hv (d, p) (by simp)
  obtain ⟨v2, h3, h4⟩ := hv (d2, p2) (by simp)
  exact wl_sub (sub_cons h1 (sub_cons h3 hs)) (k w' v v2 hw h2 h4)
theorem fr_eqv {L' : Env} (h : ∀ i, at' L' i = at' L i) (hf : Fr m D a L) : Fr m D a L' := ⟨hf.size, hf.defers, fun i v hi => hf.get i v (by rw [← h]; exact hi)⟩
theorem qw_eqv : ∀ (rest : List Oper) (L L' : Env) (V : List (Nat × VP)), (∀ i, at' L' i = at' L i) → QW F n P m D ops w0 (Tail F n P Q m D ops tail w0) rest L' V → QW F n P m D ops w0 (Tail F n P Q m D ops tail w0) rest L V
  | [], L, L', V, he, h => fun w' hw L2 hv hs => h w' hw L2 hv (fun i v hi => hs i v (by rw [← he]; exact hi))
  | o :: rest, L, L', V, he, h => by
    obtain ⟨d, hd, hdm, h⟩ := h
    refine ⟨d, hd, hdm, ?_⟩
    rcases h with ⟨c, hf, hq⟩ | ⟨p, hp, hno, hf, hq⟩
    · exact .inl ⟨c, fun w' hw a ha hv => hf w' hw a (fr_eqv he ha) hv, qw_eqv rest ((d, c) :: L) ((d, c) :: L') V (fun i => by rw [at_cons, at_cons, he]) hq⟩
    · exact .inr ⟨p, hp, by rw [← he]; exact hno, fun w' hw a ha hv => hf w' hw a (fr_eqv he ha) hv, qw_eqv rest L L' _ he hq⟩
theorem eqv_cons {u : Value} (h : at' L d = some u) : ∀ i, at' ((d, u) :: L) i = at' L i := fun i => by
  rw [at_cons]; split
  · rename_i e; subst e; exact h.symm
  · rfl
/-- A guard that is not known yet. -/
theorem q_bcases {b : Bool} (h : at' L d = some (.bool b)) (k1 : b = true → QW F n P m D ops w0 (Tail F n P Q m D ops tail w0) rest ((d, .bool true) :: L) V) (k2 : b = false → QW F n P m D ops w0 (Tail F n P Q m D ops tail w0) rest ((d, .bool false) :: L) V) :
    QW F n P m D ops w0 (Tail F n P Q m D ops tail w0) rest L V := by
  cases b with
  | true => exact qw_eqv rest _ _ _ (eqv_cons h) (k1 rfl)
  | false => exact qw_eqv rest _ _ _ (eqv_cons h) (k2 rfl)
theorem q_dcases {p : Prop} [Decidable p] (h : at' L d = some (.bool (decide p))) (k1 : p → QW F n P m D ops w0 (Tail F n P Q m D ops tail w0) rest ((d, .bool true) :: L) V) (k2 : ¬ p → QW F n P m D ops w0 (Tail F n P Q m D ops tail w0) rest ((d, .bool false) :: L) V) :
    QW F n P m D ops w0 (Tail F n P Q m D ops tail w0) rest L V := q_bcases h (fun e => k1 (of_decide_eq_true e)) (fun e => k2 (of_decide_eq_false e))
theorem wl_bcases {b : Bool} (h : at' L d = some (.bool b)) (k1 : b = true → WL F n P Q m D ops rest ((d, .bool true) :: L) w) (k2 : b = false → WL F n P Q m D ops rest ((d, .bool false) :: L) w) : WL F n P Q m D ops rest L w := by
  cases b with
  | true => exact fun a ha => k1 rfl a (fr_eqv (eqv_cons h) ha)
  | false => exact fun a ha => k2 rfl a (fr_eqv (eqv_cons h) ha)
theorem wl_dcases {p : Prop} [Decidable p] (h : at' L d = some (.bool (decide p))) (k1 : p → WL F n P Q m D ops rest ((d, .bool true) :: L) w) (k2 : ¬ p → WL F n P Q m D ops rest ((d, .bool false) :: L) w) : WL F n P Q m D ops rest L w :=
  wl_bcases h (fun e => k1 (of_decide_eq_true e)) (fun e => k2 (of_decide_eq_false e))
/-- The ways through c meet again: behind it the frame holds L', the world is such that I. -/
def CutQ (m : Nat) (D : List Deferred) (L' : Env) (I : World → Prop) : Exit → Act → World → Prop := fun e a w' => e = .normal ∧ Fr m D a L' ∧ I w'
theorem wc_cut {c : Code} (L' : Env) (I : World → Prop) (h1 : WC F n P (CutQ m D L' I) m D c L w) (h2 : ∀ w', I w' → NX Q m D .normal L' w') : WC F n P Q m D c L w := fun a ha =>
  wpIn_mono (h1 a ha) (fun e a' w' h => by obtain ⟨rfl, hf, hi⟩ := h; exact h2 w' hi a' hf)
theorem nx_cut {L' : Env} {I : World → Prop} (hs : Sub L' L) (hi : I w) : NX (CutQ m D L' I) m D .normal L w := fun a ha => ⟨rfl, ha.sub hs, hi⟩
/-- .. where what the frame holds is known up to s. -/
def CutE {σ : Type} (m : Nat) (D : List Deferred) (L' : σ → Env) (I : σ → World → Prop) : Exit → Act → World → Prop := fun e a w' => e = .normal ∧ ∃ s, Fr m D a (L' s) ∧ I s w'
theorem wc_cutE {σ : Type} {c : Code} (L' : σ → Env) (I : σ → World → Prop) (h1 : WC F n P (CutE m D L' I) m D c L w) (h2 : ∀ s w', I s w' → NX Q m D .normal (L' s) w') : WC F n P Q m D c L w := fun a ha =>
  wpIn_mono (h1 a ha) (fun e a' w' h => by obtain ⟨rfl, s, hf, hi⟩ := h; exact h2 s w' hi a' hf)
theorem nx_cutE {σ : Type} {L' : σ → Env} {I : σ → World → Prop} (s : σ) (hs : Sub (L' s) L) (hi : I s w) : NX (CutE m D L' I) m D .normal L w := fun a ha => ⟨rfl, s, ha.sub hs, hi⟩
/-- The drawn region, its facts told of the world ahead of it. -/
theorem wc_draw' {id : Nat} (N : Nat) (hW : Wd F) (hm : P.follows .mixedOrders = true) (hck : freeOk ops N = true)
    (hq : ∀ w0, Ext w w0 → QW F n P m D ops w0 (Tail F n P Q m D ops (ops.drop N) w0) (ops.take N) L []) : WC F n P Q m D (.region id ops.toArray true) L w := wc_draw N hW hm hck (hq _ (ext_drew w))
end

/-! ### ranges over functions -/
theorem KeepsFrom.of_keep {S : Nat → Prop} {B : Nat} {w w' : World} (h : Keep S w w') (hs : ∀ k o, B ≤ k → w.heap[k]? = some o → o.isCells = false → S k) : KeepsFrom B w w' :=
  ⟨h.size, fun k o hB hk ho => by rw [h.block k (Array.getElem?_eq_some_iff.1 hk).1 (hs k o hB hk ho)]; exact hk⟩
/-- A step that turns a block that is no cells. -/
structure Nc (B : Nat) (w w' : World) : Prop where
  ex : ∃ row, w.grownBy w' row ∧ ∀ r, row = some r → B ≤ r ∧ ∃ o : Obj, w.heap[r]? = some o ∧ o.isCells = false
theorem Nc.cell {B : Nat} {w w' : World} (h : Nc B w w') {ad : Addr} {v : Value} (hc : w.cell? ad = some v) : w'.cell? ad = some v := by
  obtain ⟨row, hg, hr⟩ := h.ex
  exact cell_kept hc hg (fun r e => (hr r e).2)
theorem Blk.nc {B : Nat} {w w' : World} {b : Nat} {cs : List Value} {t : TypeId} (h : Blk w b cs t) (hn : Nc B w w') : Blk w' b cs t := by
  obtain ⟨row, hg, hr⟩ := hn.ex
  refine (hg.block b h.lt (fun e => ?_)).trans h
  obtain ⟨-, o, ho, hc⟩ := hr b e.symm
  unfold Blk at h
  rw [h] at ho
  cases ho
  cases hc
theorem Keep.nc {S : Nat → Prop} {B : Nat} {w0 w w' : World} (h : Keep S w0 w) (hn : Nc B w w') (hB : w0.heap.size ≤ B) : Keep S w0 w' := by
  obtain ⟨row, hg, hr⟩ := hn.ex
  exact ⟨hg.os.trans h.os, hg.tape.trans h.tape, hg.output.trans h.output, Nat.le_trans h.size hg.size, fun k hk hs => (hg.block k (Nat.lt_of_lt_of_le hk h.size) (fun e => by have := (hr k e.symm).1; omega)).trans (h.block k hk hs)⟩
theorem ownFrom_of {β : Type} {B : Nat} {I : β → World → Prop} (h : ∀ s w w', I s w → Nc B w w' → I s w') : OwnFrom B I := fun s W W' row hs hg hr => h s W W' hs ⟨row, hg, hr⟩

section
variable {P : Program} {Q : Exit → Act → World → Prop} {m : Nat} {D : List Deferred} {L : Env} {w w' w0 : World}
/-- What the body of a round must come to. -/
def RoundQ {α : Type} (B : Nat) (S : Nat → Prop) (I : List α → World → Prop) (Ix : Code → List α → World → Prop) (xs : List α) (W : World) : Exit → Act → World → Prop := ownPostG B (Keep S) I Ix xs W
theorem round_normal {α : Type} {B : Nat} {S S' : Nat → Prop} {I : List α → World → Prop} {Ix : Code → List α → World → Prop} {xs : List α} {W : World} (hk : Keep S' W w) (hs : ∀ k, S k → S' k) (hc : ∀ k o, B ≤ k → W.heap[k]? = some o → o.isCells = false → S' k) (hi : I xs w) :
    NX (RoundQ B S I Ix xs W) m D .normal L w := fun a h => ⟨KeepsFrom.of_keep hk hc, hk.mono (fun k _ h => hs k h), hi⟩
theorem round_ret {α : Type} {B : Nat} {S S' : Nat → Prop} {I : List α → World → Prop} {Ix : Code → List α → World → Prop} {xs : List α} {W : World} (hk : Keep S' W w) (hc : ∀ k o, B ≤ k → W.heap[k]? = some o → o.isCells = false → S' k) (hi : Ix .ret xs w) :
    NX (RoundQ B S I Ix xs W) m D .ret L w := fun a h => ⟨KeepsFrom.of_keep hk hc, hi⟩
theorem round_exit {α : Type} {B : Nat} {S S' : Nat → Prop} {I : List α → World → Prop} {Ix : Code → List α → World → Prop} {xs : List α} {W : World} {id : Nat} (hk : Keep S' W w) (hc : ∀ k o, B ≤ k → W.heap[k]? = some o → o.isCells = false → S' k) (hi : Ix (.exit id) xs w) :
    NX (RoundQ B S I Ix xs W) m D (.exit id) L w := fun a h => ⟨KeepsFrom.of_keep hk hc, hi⟩

theorem wc_range {α : Type} {g : Operand} {p : Nat} {assign body : Code} {gf : Nat} {lb : List Value} (enc : α → Value) (S : Nat → Prop) (Sd Sp : List α → Prop) (N : Nat)
    (hg : ev L g = some (.func (.func gf) #[] lb.toArray)) (he : Enters P gf) (hp : Nat.blt p m = true)
    (hseq : SeqStopsK Fence.wide 8 P gf lb.toArray (fun x => #[enc x]) (Keep S) Sd Sp N w) (hS : ∀ k, S k → k < w.heap.size)
    (I : List α → World → Prop) (Ix : Code → List α → World → Prop) (hI : ∀ s W W', I s W → Nc w.heap.size W W' → I s W') (hIx : ∀ c s W W', Ix c s W → Nc w.heap.size W W' → Ix c s W') (h0 : I [] w) (La : α → Env)
    (hassign : ∀ (l : Nat) (x : α) (W : World) (K : Act → World → Prop), NX (fun _ a w => K a w) m [] .normal (La x) W → WC (Fence.wide.inRound l) 7 P (Exit.then K (fun _ _ _ => False)) m [] assign ((p, enc x) :: L) W)
    (hbody : ∀ (l : Nat) (pre : List α) (x : α) (W : World), I pre W → pre.length < N → WC (Fence.wide.inRound l) 7 P (RoundQ w.heap.size S I Ix (pre ++ [x]) W) m [] body (La x) W)
    (hdone : ∀ (B : Nat) (xs : List α) (W : World), w.heap.size ≤ B → Sd xs → I xs W → W.heap[B]? = some (.deferred (some [])) → NX Q m (mark B :: D) .normal L W)
    (hstop : ∀ (B : Nat) (c : Code) (pre : List α) (W : World), w.heap.size ≤ B → Sp pre → Ix c pre W → W.heap[B]? = some (.deferred (some [])) → WC Fence.wide 9 P Q m (mark B :: D) c L W) :
    WC Fence.wide 9 P Q m D (.rangeFunc g #[p] assign body) L w := by
  intro a ha
  have hpm : p < m := by simpa using hp
  refine wpIn_rangeFunc_ownH (F := Fence.wide) (n := 9) rfl (by omega) (gf := gf) (lb := lb.toArray) (ha.ev hg) trivial he (encs := fun x => #[enc x]) (Kp := Keep S) (S := Sd) (Sp := Sp) (N := N) (w0 := w) hseq (fun h k => h.trans k) ?_ (Below.refl _ _) (fun _ => rfl)
    I Ix (ownFrom_of hI) (fun c => ownFrom_of (hIx c)) h0 (fun x a' _ => Fr m [] a' (La x)) (fun x a' => ownFrom_of (fun _ _ _ h _ => h)) ?_ ?_ ?_ ?_
  · intro W l o o' hl h ho _
    exact ⟨rfl, rfl, rfl, by simp [World.putObj], fun k hk hs => World.putObj_heap_other (by have := hS k hs; omega)⟩
  · intro l pre x W K hi hK
    refine hassign l x W K (fun a' h' => hK a' W (KeepsFrom.refl _ _) (Keep.refl _ _) hi h') _ ?_
    refine ⟨by simp [ha.size], rfl, fun i v hi => ?_⟩
    rw [at_cons] at hi
    show ((#[p].zip #[enc x]).foldl (fun t (q : Nat × Value) => t.setIfInBounds q.1 q.2) a.tmps)[i]? = some v
    have e : (#[p].zip #[enc x]).foldl (fun t (q : Nat × Value) => t.setIfInBounds q.1 q.2) a.tmps = a.tmps.setIfInBounds p (enc x) := by simp
    rw [e]
    split at hi
    · rename_i e; subst e; cases hi; simp [ha.size, hpm]
    · rename_i e; rw [Array.getElem?_setIfInBounds_ne e]; exact ha.get i v hi
  · intro l pre x a' W _ _ hi hax hlt
    exact hbody l pre x W hi hlt a' hax
  · intro B xs W hB hs hi hk
    exact hdone B xs W hB hs hi hk _ ⟨ha.size, by simp [mark, ha.defers], ha.get⟩
  · intro B c pre W hB hs hi hk
    exact hstop B c pre W hB hs hi hk _ ⟨ha.size, by simp [mark, ha.defers], ha.get⟩
end
end Go.Proofs.Ytblbddamebbgaaa.K

/- A drawn region in which one operation turns a block: all others may come behind it. -/
namespace Go.Proofs.Ytblbddamebbgaaa.K
open Go Go.RowKit
set_option linter.unusedVariables false
set_option linter.unusedSectionVars false
set_option linter.unusedSimpArgs false

/-- What a value's fact must bear: if the operation is the special one: what the others do; else what it does too. -/
def StableS (S : Nat → Prop) (b : Bool) (p : VP) : Prop := ∀ v w w', p v w → Keep (fun k => b = false → S k) w w' → p v w'
/-- A free operation; b: it is the special one, which may turn what lies outside S. -/
def Free1S (S : Nat → Prop) (b : Bool) (F : Fence) (n : Nat) (P : Program) (m : Nat) (D : List Deferred) (ops : List Oper) (w0 : World) (o : Oper) (L : Env) (V : List (Nat × VP)) (R : VP) : Prop :=
  ∀ w', Keep (fun k => b = false → S k) w0 w' → ∀ a, Fr m D a L → (∀ q ∈ V, q.1 ∈ looks ops o → ∃ v, a.tmps[q.1]? = some v ∧ q.2 v w') → (Region.wanted o (yielded ops.toArray a.tmps) = true ∧ Does F n P a.eval o w' (fun v w'' => R v w'' ∧ Keep (fun k => b = true → S k) w' w'')) ∨ (Region.wanted o (yielded ops.toArray a.tmps) = false ∧ R undef w')
def QWS (S : Nat → Prop) (sp : Nat) (F : Fence) (n : Nat) (P : Program) (m : Nat) (D : List Deferred) (ops : List Oper) (w0 : World) (K : Env → List (Nat × VP) → Prop) : Nat → List Oper → Env → List (Nat × VP) → Prop
  | _, [], L, V => K L V
  | i, o :: rest, L, V => ∃ d, o.dst = some d ∧ Nat.blt d m = true ∧
      ((∃ c, Free1S S (decide (i = sp)) F n P m D ops w0 o L V (fun v _ => v = c) ∧ QWS S sp F n P m D ops w0 K (i + 1) rest ((d, c) :: L) V) ∨
       (∃ p, StableS S (decide (i = sp)) p ∧ at' L d = none ∧ Free1S S (decide (i = sp)) F n P m D ops w0 o L V p ∧ QWS S sp F n P m D ops w0 K (i + 1) rest L ((d, p) :: V)))
def TailS (S : Nat → Prop) (F : Fence) (n : Nat) (P : Program) (Q : Exit → Act → World → Prop) (m : Nat) (D : List Deferred) (ops tail : List Oper) (w0 : World) (L : Env) (V : List (Nat × VP)) : Prop :=
  ∀ w', Keep S w0 w' → ∀ (L' : Env), (∀ q ∈ V, ∃ v, at' L' q.1 = some v ∧ q.2 v w') → Sub L L' → WL F n P Q m D ops tail L' w'

section
variable {F : Fence} {n : Nat} {P : Program} {Q : Exit → Act → World → Prop} {m : Nat} {D : List Deferred} {ops : List Oper} {w0 : World} {a0 : Act} {L0 : Env} {T : Nat → Prop} {sp : Nat}
structure ObS (S' : Nat → Prop) (sp : Nat) (F : Fence) (n : Nat) (P : Program) (m : Nat) (D : List Deferred) (ops : List Oper) (w0 : World) (S : Nat → Sp) (L : Env) (V : List (Nat × VP)) (i : Nat) (o : Oper) : Prop where
  stable : StableS S' (decide (i = sp)) (S i).holds
  slot : ∃ d, o.dst = some d ∧ Nat.blt d m = true ∧ (∀ q, S i = .p q → at' (Lc ops S L i) d = none)
  does : Free1S S' (decide (i = sp)) F n P m D ops w0 o (Lc ops S L i) (Vc ops S V i) (S i).holds

theorem stableS_c {S : Nat → Prop} {b : Bool} (c : Value) : StableS S b (Sp.c c).holds := fun _ _ _ h _ => h

theorem qw_specsS {K : Env → List (Nat × VP) → Prop} {L : Env} {V : List (Nat × VP)} : ∀ (rest : List Oper) (i : Nat) (S : Nat → Sp), (∀ j o, rest[j]? = some o → ops[i + j]? = some o) →
    QWS T sp F n P m D ops w0 K i rest (Lc ops S L i) (Vc ops S V i) →
    ∃ S' : Nat → Sp, (∀ j, j < i → S' j = S j) ∧ (∀ j o, i ≤ j → rest[j - i]? = some o → ObS T sp F n P m D ops w0 S' L V j o) ∧ K (Lc ops S' L (i + rest.length)) (Vc ops S' V (i + rest.length))
  | [], i, S, ho, h => ⟨S, fun _ _ => rfl, fun j o _ hj => by simp at hj, h⟩
  | o :: rest, i, S, ho, h => by
    have hoi : ops[i]? = some o := by have := ho 0 o (by simp); simpa using this
    have ho' : ∀ j o', rest[j]? = some o' → ops[i + 1 + j]? = some o' := fun j o' hj => by
      have := ho (j + 1) o' (by simpa using hj); rwa [show i + (j + 1) = i + 1 + j from by omega] at this
    obtain ⟨d, hd, hdm, h⟩ := h
    have hg : gdst ops i = some d := by rw [gdst_eq, hoi]; simpa using hd
    have key : ∀ s : Sp, StableS T (decide (i = sp)) s.holds → (∀ q, s = .p q → at' (Lc ops S L i) d = none) → Free1S T (decide (i = sp)) F n P m D ops w0 o (Lc ops S L i) (Vc ops S V i) s.holds →
        QWS T sp F n P m D ops w0 K (i + 1) rest (Lc ops (fun k => if k = i then s else S k) L (i + 1)) (Vc ops (fun k => if k = i then s else S k) V (i + 1)) →
        ∃ S' : Nat → Sp, (∀ j, j < i → S' j = S j) ∧ (∀ j o', i ≤ j → (o :: rest)[j - i]? = some o' → ObS T sp F n P m D ops w0 S' L V j o') ∧ K (Lc ops S' L (i + (o :: rest).length)) (Vc ops S' V (i + (o :: rest).length)) := by
      intro s hst hnone hf hq
      obtain ⟨S', h1, h2, h3⟩ := qw_specsS rest (i + 1) (fun k => if k = i then s else S k) ho' hq
      have hLc : ∀ (S1 S2 : Nat → Sp) k, (∀ j, j < k → S1 j = S2 j) → Lc ops S1 L k = Lc ops S2 L k := by
        intro S1 S2 k
        induction k with
        | zero => intro _; rfl
        | succ k ih => intro he; simp only [Lc]; rw [he k (by omega), ih (fun j hj => he j (by omega))]
      have hVc : ∀ (S1 S2 : Nat → Sp) k, (∀ j, j < k → S1 j = S2 j) → Vc ops S1 V k = Vc ops S2 V k := by
        intro S1 S2 k
        induction k with
        | zero => intro _; rfl
        | succ k ih => intro he; simp only [Vc]; rw [he k (by omega), ih (fun j hj => he j (by omega))]
      have hlow : ∀ j, j < i → S' j = S j := fun j hj => by rw [h1 j (by omega)]; simp [show j ≠ i from by omega]
      have hSi : S' i = s := by rw [h1 i (by omega)]; simp
      refine ⟨S', hlow, fun j o' hij hj => ?_, by rw [List.length_cons, show i + (rest.length + 1) = i + 1 + rest.length from by omega]; exact h3⟩
      by_cases e : j = i
      · subst e
        simp at hj
        subst hj
        have hL := hLc S' S j hlow
        have hV := hVc S' S j hlow
        exact ⟨by rw [hSi]; exact hst, ⟨d, hd, hdm, fun q hq' => by rw [hL]; rw [hSi] at hq'; exact hnone q hq'⟩, by rw [hSi, hL, hV]; exact hf⟩
      · refine h2 j o' (by omega) ?_
        have : j - i = (j - (i + 1)) + 1 := by omega
        rw [this, List.getElem?_cons_succ] at hj
        exact hj
    have hLk : ∀ s : Sp, Lc ops (fun k => if k = i then s else S k) L i = Lc ops S L i := by
      intro s
      have : ∀ k, k ≤ i → Lc ops (fun k => if k = i then s else S k) L k = Lc ops S L k := by
        intro k
        induction k with
        | zero => intro _; rfl
        | succ k ih => intro hk; simp only [Lc]; rw [ih (by omega), if_neg (by omega : k ≠ i)]
      exact this i (Nat.le_refl _)
    have hVk : ∀ s : Sp, Vc ops (fun k => if k = i then s else S k) V i = Vc ops S V i := by
      intro s
      have : ∀ k, k ≤ i → Vc ops (fun k => if k = i then s else S k) V k = Vc ops S V k := by
        intro k
        induction k with
        | zero => intro _; rfl
        | succ k ih => intro hk; simp only [Vc]; rw [ih (by omega), if_neg (by omega : k ≠ i)]
      exact this i (Nat.le_refl _)
    rcases h with ⟨c, hf, hq⟩ | ⟨p, hst, hnone, hf, hq⟩
    · refine key (.c c) (stableS_c c) (fun q h => by cases h) hf ?_
      simp only [Lc, Vc, hg, if_pos, hLk, hVk]
      exact hq
    · refine key (.p p) hst (fun _ _ => hnone) hf ?_
      simp only [Lc, Vc, hg, if_pos, hLk, hVk]
      exact hq

structure InvS (T : Nat → Prop) (sp : Nat) (m : Nat) (D : List Deferred) (ops : List Oper) (N : Nat) (w0 : World) (S : Nat → Sp) (L0 : Env) (listed : Array Bool) (a : Act) (w : World) : Prop where
  size : listed.size = ops.length
  tail : ∀ i, N ≤ i → i < ops.length → listed.getD i false = false
  pc : PC ops (fun i => listed.getD i false)
  ext : Keep (fun k => listed.getD sp false = true → T k) w0 w
  tsize : a.tmps.size = m
  defers : a.defers = D
  old : ∀ s v, at' L0 s = some v → (∀ i, i < N → gdst ops i = some s → listed.getD i false = false) → a.tmps[s]? = some v
  new : ∀ i, i < N → listed.getD i false = true → ∀ d, gdst ops i = some d → ∃ v, a.tmps[d]? = some v ∧ (S i).holds v w

theorem any_freeS {N : Nat} {S : Nat → Sp} {V : List (Nat × VP)} (hW : Wd F) (hc : Chk ops N) (hL0 : ∀ s v, at' L0 s = some v → s < m) (hob : ∀ i o, i < N → ops[i]? = some o → ObS T sp F n P m D ops w0 S L0 [] i o) (hV : V = Vc ops S [] N)
    (htail : TailS T F n P Q m D ops (ops.drop N) w0 (Lc ops S L0 N) V) :
    ∀ (fuel : Nat) (listed : Array Bool) (a : Act) (w : World), InvS T sp m D ops N w0 S L0 listed a w → ops.length - N + ((List.range N).filter fun i => !listed.getD i false).length ≤ fuel →
      wpAnyIn F n P .any ops.toArray Q fuel listed a w := by
  have hNl := free_len hc
  have hslot : ∀ i, i < N → ∃ o d, ops[i]? = some o ∧ o.dst = some d ∧ gdst ops i = some d ∧ d < m := fun i hi => by
    obtain ⟨o, ho, -, -⟩ := hc.free i hi
    obtain ⟨d, hd, hdm, -⟩ := (hob i o hi ho).slot
    exact ⟨o, d, ho, hd, by rw [gdst_eq, ho]; simpa using hd, by simpa using hdm⟩
  -- what is known of a slot of which Lc says something, once all that write it have come up
  have hread : ∀ (listed : Array Bool) (a : Act) (w : World), InvS T sp m D ops N w0 S L0 listed a w → ∀ i s v, i ≤ N → at' (Lc ops S L0 i) s = some v → (∀ j, j < N → gdst ops j = some s → (j < i ∧ listed.getD j false = true) ∨ (i ≤ j ∧ listed.getD j false = false)) → a.tmps[s]? = some v := by
    intro listed a w hI i s v hi hs hall
    rcases lc_some i hs with ⟨j, hj, hg, hS⟩ | ⟨h1, h2⟩
    · obtain ⟨u, hu, hh⟩ := hI.new j (by omega) ((hall j (by omega) hg).elim (fun h => h.2) (fun h => absurd h.1 (by omega))) s hg
      rw [hS] at hh
      have : u = v := hh
      rw [← this]; exact hu
    · refine hI.old s v h1 (fun j hj hg => ?_)
      rcases hall j hj hg with hall' | hall'
      case inr => exact hall'.2
      exfalso
      have hji := hall'.1
      cases hSj : S j with
      | c c => exact h2 j hji c hg hSj
      | p q =>
        obtain ⟨o, d, ho, hd, hgd, -⟩ := hslot j hj
        obtain ⟨d', hd', -, hn⟩ := (hob j o hj ho).slot
        rw [hd] at hd'; cases hd'
        rw [hg] at hgd; cases hgd
        have := lc_none j (hn q hSj)
        rw [this] at h1; cases h1
  have hfin : ∀ (listed : Array Bool) (a : Act) (w : World), InvS T sp m D ops N w0 S L0 listed a w → (∀ i, i < N → listed.getD i false = true) → wpListIn F n P ops.toArray Q (ops.drop N) a w := by
    intro listed a w hI hall
    refine htail w (hI.ext.mono fun k _ h _ => h) ((List.range m).map fun i => (i, a.tmps.getD i undef)) (fun q hq => ?_) (fun s v hs => ?_) a ⟨hI.tsize, hI.defers, fun s v hs => ?_⟩
    · rw [hV] at hq
      obtain ⟨j, hj, hgj, hSj⟩ := vc_mem N hq
      obtain ⟨v, hv, hh⟩ := hI.new j hj (hall j hj) q.1 hgj
      obtain ⟨oj, dj, hoj, hdj, hgj', hm⟩ := hslot j hj
      rw [hgj] at hgj'; cases hgj'
      refine ⟨v, ?_, by rw [hSj] at hh; exact hh⟩
      rw [at_tab_mem _ (List.mem_range.2 hm), Array.getD_eq_getD_getElem?, hv]; rfl
    · have hv := hread listed a w hI N s v (Nat.le_refl _) hs (fun j hj hgj => .inl ⟨hj, hall j hj⟩)
      have hsm : s < m := by rw [← hI.tsize]; exact (Array.getElem?_eq_some_iff.1 hv).1
      rw [at_tab_mem _ (List.mem_range.2 hsm), Array.getD_eq_getD_getElem?, hv]; rfl
    · obtain ⟨h1, h2⟩ := at_tab _ hs
      rw [List.mem_range] at h1
      rw [h2, Array.getD_eq_getD_getElem?, Array.getElem?_eq_getElem (by rw [hI.tsize]; exact h1)]; rfl
  intro fuel
  induction fuel with
  | zero =>
    intro listed a w hI hf
    have h0 : ops.length = N := by omega
    have hall : ∀ i, i < N → listed.getD i false = true := fun i hi => by
      have hz : ((List.range N).filter fun i => !listed.getD i false) = [] := List.eq_nil_of_length_eq_zero (by omega)
      rw [List.filter_eq_nil_iff] at hz
      simpa using hz i (List.mem_range.2 hi)
    exact any_tail hc 0 N listed a w (Nat.le_refl _) hNl hI.size (fun i hi => by rw [hall i (by omega)]; exact (decide_eq_true (by omega)).symm) (by omega) (hfin listed a w hI hall)
  | succ fuel ih =>
    intro listed a w hI hf
    by_cases hall : ∀ i, i < N → listed.getD i false = true
    · have hz : ((List.range N).filter fun i => !listed.getD i false) = [] := by
        rw [List.filter_eq_nil_iff]; intro i hi; simp [hall i (List.mem_range.1 hi)]
      rw [hz] at hf
      exact any_tail hc (fuel + 1) N listed a w (Nat.le_refl _) hNl hI.size (fun i hi => by
        by_cases h : i < N
        · rw [hall i h, decide_eq_true h]
        · rw [hI.tail i (by omega) hi, decide_eq_false h]) (by simp at hf; omega) (hfin listed a w hI hall)
    · have hex : ∃ i, i < N ∧ listed.getD i false = false := by
        refine Classical.byContradiction fun hne => hall fun i hi => ?_
        cases hl : listed.getD i false with
        | true => rfl
        | false => exact absurd ⟨i, hi, hl⟩ hne
      refine ⟨fun hr => ?_, fun i hi => ?_⟩
      · exfalso
        obtain ⟨i0, hi0, h1, h2⟩ := least (fun i => listed.getD i false) N hex
        have hlt : i0 < ops.length := by omega
        have : i0 ∈ Region.ready .any ops.toArray listed := ready_iff.2 ⟨ops[i0], List.getElem?_eq_getElem hlt, by rw [gd (b := true) (c := false) (by rw [hI.size]; exact hlt)]; exact h1, fun j hj => h2 j (hc.back i0 _ (List.getElem?_eq_getElem hlt) j hj)⟩
        rw [hr] at this; cases this
      · obtain ⟨o, ho, h1, h2⟩ := ready_iff.1 hi
        have hlt := (List.getElem?_eq_some_iff.1 ho).1
        have hiN : i < N := by
          refine Classical.byContradiction fun hge => ?_
          obtain ⟨j0, hj0, hun⟩ := hex
          have := hc.all i (by omega) hlt (fun j => listed.getD j false) hI.pc (fun o' ho' j hj => by rw [ho] at ho'; cases ho'; exact h2 j hj) j0 (by omega)
          rw [hun] at this; cases this
        have hun : listed.getD i false = false := by rw [gd (b := false) (c := true) (by rw [hI.size]; exact hlt)]; exact h1
        obtain ⟨o', ho', hpl, hlk⟩ := hc.free i hiN
        rw [ho] at ho'; cases ho'
        obtain ⟨hst, ⟨d, hd, hdm, hnone⟩, hdoes⟩ := hob i o hiN ho
        have hg : gdst ops i = some d := by rw [gdst_eq, ho]; simpa using hd
        have hdm' : d < m := by simpa using hdm
        have hlcm : ∀ s v, at' (Lc ops S L0 i) s = some v → s < m := fun s v hs => by
          rcases lc_some i hs with ⟨j, hj, hgj, -⟩ | ⟨h, -⟩
          · obtain ⟨oj, dj, hoj, hdj, hgj', hm⟩ := hslot j (by omega)
            rw [hgj] at hgj'; cases hgj'; exact hm
          · exact hL0 s v h
        -- the frame that holds the constants of all that stand ahead of it in the text
        let st : Act := { a with tmps := Array.ofFn (n := m) fun s => (at' (Lc ops S L0 i) s.1).getD (a.tmps.getD s.1 undef) }
        have hstar : ∀ s, (∀ v, at' (Lc ops S L0 i) s = some v → a.tmps[s]? = some v) → st.tmps[s]? = a.tmps[s]? := fun s h => by
          show (Array.ofFn (n := m) fun s => (at' (Lc ops S L0 i) s.1).getD (a.tmps.getD s.1 undef))[s]? = _
          rw [Array.getElem?_ofFn]
          by_cases hs : s < m
          · rw [dif_pos hs]
            cases hat : at' (Lc ops S L0 i) s with
            | none => simp [Array.getD_eq_getD_getElem?, Array.getElem?_eq_getElem (show s < a.tmps.size by rw [hI.tsize]; exact hs)]
            | some v => simp [h v hat]
          · rw [dif_neg hs, Array.getElem?_eq_none (by rw [hI.tsize]; omega)]
        have hfr : Fr m D st (Lc ops S L0 i) := by
          refine ⟨by simp [st], hI.defers, fun s v hs => ?_⟩
          have hsm := hlcm s v hs
          show (Array.ofFn (n := m) fun s => (at' (Lc ops S L0 i) s.1).getD (a.tmps.getD s.1 undef))[s]? = _
          rw [Array.getElem?_ofFn, dif_pos hsm]; simp [hs]
        have hlook : ∀ s ∈ looks ops o, st.tmps[s]? = a.tmps[s]? := fun s hs => hstar s fun v hv => hread listed a w hI i s v (by omega) hv fun j hj hgj => by
          rcases hlk s hs j hj hgj with hn | ⟨oj, hoj, hn⟩
          · exact .inl ⟨hc.back i o ho j hn, h2 j hn⟩
          · refine .inr ⟨Nat.le_of_lt (hc.back j oj hoj i hn), ?_⟩
            cases hlj : listed.getD j false with
            | false => rfl
            | true =>
              have hli : listed.getD i false = true := hI.pc j oj hoj hlj i hn
              rw [hun] at hli; cases hli
        have hopd : ∀ x ∈ o.op.operands, st.eval x = a.eval x := fun x hx => by
          cases x with
          | tmp t =>
            have := hlook t (List.mem_append_left _ (List.mem_filterMap.2 ⟨.tmp t, by simpa using hx, rfl⟩))
            show st.tmps.getD t undef = a.tmps.getD t undef
            rw [Array.getD_eq_getD_getElem?, Array.getD_eq_getD_getElem?, this]
          | _ => rfl
        have hexec : execOp st.eval o = execOp a.eval o := execOp_congr o (fun cs b h => by rw [h] at hpl; cases hpl) hopd
        have hwant : Region.wanted o (yielded ops.toArray st.tmps) = Region.wanted o (yielded ops.toArray a.tmps) := by
          unfold Region.wanted
          cases hgd : o.guard with
          | none => rfl
          | some p =>
            obtain ⟨j, want⟩ := p
            have hy : yielded ops.toArray st.tmps j = yielded ops.toArray a.tmps j := by
              simp only [yielded, List.getElem?_toArray]
              cases hgj : (ops[j]?).bind (·.dst) with
              | none => rfl
              | some dj =>
                have := hlook dj (List.mem_append_right _ (by rw [hgd]; simp only [gdst_eq, hgj]; simp))
                simp only [Option.bind_some, this]
            simp only [hy]
        have hnd : ∀ c, o.op ≠ .defer c := fun c h => by rw [h] at hpl; cases hpl
        have hnext : ∀ v w'', (S i).holds v w'' → Keep (fun k => decide (i = sp) = true → T k) w w'' → wpAnyIn F n P .any ops.toArray Q fuel (listed.setIfInBounds i true) (a.put o.dst v) w'' := by
          intro v w'' hh hx
          have hsz : i < listed.size := by rw [hI.size]; exact hlt
          refine ih _ _ _ ⟨by simp [hI.size], fun k hk hkl => ?_, fun k ok hok hk j hj => ?_, (hI.ext.mono fun k _ h hl => h (by rw [getD_set hsz]; split <;> first | rfl | exact hl)).trans (hx.mono fun k _ h hd => h (by rw [getD_set hsz, if_pos (of_decide_eq_true hd)])), ?_, hI.defers ▸ by rw [hd]; rfl, fun s u hs hk => ?_, fun k hk hkl dk hgk => ?_⟩ ?_
          · rw [getD_set hsz, if_neg (by omega)]; exact hI.tail k hk hkl
          · simp only [getD_set hsz] at hk ⊢
            by_cases e : i = j
            · rw [if_pos e]
            · rw [if_neg e]
              by_cases ek : i = k
              · subst ek; rw [ho] at hok; cases hok; exact h2 j hj
              · rw [if_neg ek] at hk; exact hI.pc k ok hok hk j hj
          · rw [hd]; simp [Act.put, hI.tsize]
          · have hne : d ≠ s := fun e => by
              subst e
              have := hk i hiN hg
              rw [getD_set hsz, if_pos rfl] at this; cases this
            rw [hd]
            simp only [Act.put, Array.getElem?_setIfInBounds_ne hne]
            exact hI.old s u hs fun j hj hgj => by
              have := hk j hj hgj
              rw [getD_set hsz] at this
              by_cases e : i = j
              · rw [if_pos e] at this; cases this
              · rw [if_neg e] at this; exact this
          · rw [getD_set hsz] at hkl
            by_cases e : i = k
            · subst e
              rw [hg] at hgk; cases hgk
              exact ⟨v, by rw [hd]; simp [Act.put, hI.tsize, hdm'], hh⟩
            · rw [if_neg e] at hkl
              have hne : d ≠ dk := fun e' => by subst e'; exact hc.ne hiN hk e hg hgk
              obtain ⟨u, hu, hhu⟩ := hI.new k hk hkl dk hgk
              obtain ⟨ok, -, hok, -⟩ := hslot k hk
              exact ⟨u, by rw [hd]; simp only [Act.put, Array.getElem?_setIfInBounds_ne hne]; exact hu, (hob k ok hk hok).stable u w w'' hhu (hx.mono fun j _ h hd => h (decide_eq_false fun e' => e ((of_decide_eq_true hd).trans e'.symm)))⟩
          · have := filter_lt (p := fun k => !(listed.setIfInBounds i true).getD k false) (q := fun k => !listed.getD k false) (List.range N) (fun k _ hk => by
              simp only [getD_set hsz] at hk
              by_cases e : i = k
              · rw [if_pos e] at hk; cases hk
              · rw [if_neg e] at hk; exact hk) ⟨i, List.mem_range.2 hiN, by simp [hun], by simp [getD_set hsz]⟩
            omega
        unfold wpOpIn
        rw [List.getElem?_toArray, ho]
        simp only
        have hvs : ∀ q ∈ Vc ops S [] i, q.1 ∈ looks ops o → ∃ v, st.tmps[q.1]? = some v ∧ q.2 v w := fun q hq hlo => by
          obtain ⟨j, hj, hgj, hSj⟩ := vc_mem i hq
          obtain ⟨v, hv, hh⟩ := hI.new j (by omega) (h2 j ((hlk q.1 hlo j (by omega) hgj).elim id fun ⟨oj, hoj, hn⟩ => absurd (hc.back j oj hoj i hn) (by omega))) q.1 hgj
          exact ⟨v, by rw [hlook q.1 hlo]; exact hv, by rw [hSj] at hh; exact hh⟩
        have hext : Keep (fun k => decide (i = sp) = false → T k) w0 w := hI.ext.mono fun k _ h hl => by
          refine h (decide_eq_false fun e => ?_)
          rw [← e, hun] at hl; cases hl
        rcases hdoes w hext st hfr hvs with ⟨hw, hdo⟩ | ⟨hw, hr⟩
        · rw [if_pos (hwant ▸ hw)]
          cases hdo with
          | val v w' h hr => exact wpIn_value hW hnd (by rw [← hexec]; exact h) (hnext v w' hr.1 hr.2)
          | call f args w' h hcl =>
            rcases hcl with ⟨hF, hcl⟩
            have hx : (execOp a.eval o).run P w = .ok (.enter f args) w' := by rw [← hexec]; exact h
            exact wpIn_entered hW hnd hx ⟨hF, hcl⟩ (fun v w'' hr => hnext v w'' hr.1 hr.2)
        · rw [if_neg (by rw [← hwant, hw]; simp)]
          exact ⟨fun f _ => hW.fn f, hnext undef w hr (Keep.refl _ _)⟩

/-- **A region that draws its order.** -/
theorem wc_drawS {id : Nat} {L : Env} {w : World} (N : Nat) (hW : Wd F) (hm : P.follows .mixedOrders = true) (hck : freeOk ops N = true)
    (hq : QWS T sp F n P m D ops w.drew (TailS T F n P Q m D ops (ops.drop N) w.drew) 0 (ops.take N) L []) : WC F n P Q m D (.region id ops.toArray true) L w := by
  intro a ha
  have hc := chk_of hck
  obtain ⟨S, -, h2, h3⟩ := qw_specsS (T := T) (sp := sp) (F := F) (n := n) (P := P) (m := m) (D := D) (ops := ops) (w0 := w.drew) (L := L) (V := []) (ops.take N) 0 (fun _ => .c undef) (fun j o hj => by
    rw [Nat.zero_add]
    rw [List.getElem?_take] at hj
    split at hj
    · exact hj
    · cases hj) hq
  have hlen : (ops.take N).length = N := by rw [List.length_take]; have := free_len hc; omega
  rw [Nat.zero_add, hlen] at h3
  refine wpIn_region_any hm ?_
  have hmem : ∀ s v, at' L s = some v → s < m := fun s v hs => by rw [← ha.size]; exact (Array.getElem?_eq_some_iff.1 (ha.get s v hs)).1
  have hfalse : ∀ i, (Array.replicate ops.length false).getD i false = false := fun i => by
    rw [Array.getD_eq_getD_getElem?, Array.getElem?_replicate]; split <;> rfl
  have := any_freeS (T := T) (sp := sp) (Q := Q) (N := N) (S := S) (V := Vc ops S [] N) hW hc hmem (fun i o hi ho => h2 i o (Nat.zero_le _) (by rw [Nat.sub_zero, List.getElem?_take_of_lt hi]; exact ho)) rfl h3 ops.length
    (Array.replicate ops.length false) a w.drew ⟨by simp, fun i _ _ => hfalse i, (fun i o _ h => absurd ((hfalse i).symm.trans h) Bool.false_ne_true), Keep.refl _ _, ha.size, ha.defers, fun s v hs _ => ha.get s v hs, (fun i _ h => absurd ((hfalse i).symm.trans h) Bool.false_ne_true)⟩
    (by
      have : ((List.range N).filter fun i => !(Array.replicate ops.length false).getD i false).length ≤ N := by
        have := List.length_filter_le (fun i => !(Array.replicate ops.length false).getD i false) (List.range N)
        simpa using this
      have := free_len hc
      omega)
  simpa using this
end

section
variable {F : Fence} {n : Nat} {P : Program} {Q : Exit → Act → World → Prop} {m : Nat} {D : List Deferred} {L : Env} {w w' w0 : World}
variable {ops tail : List Oper} {rest : List Oper} {d i sp : Nat} {ty : TypeId} {pos : String} {af : Array Edge} {g : Option (Nat × Bool)} {v : Value} {K : Env → List (Nat × VP) → Prop} {V : List (Nat × VP)} {S : Nat → Prop}
theorem qs_nil (k : K L V) : QWS S sp F n P m D ops w0 K i [] L V := k
theorem qs_val {op : Op} (hg : wants L ops g = some true) (hd : Nat.blt d m = true) (hx : ∀ w', Keep S w0 w' → Xv P m D L op ty w' v w') (k : QWS S sp F n P m D ops w0 K (i + 1) rest ((d, v) :: L) V) :
    QWS S sp F n P m D ops w0 K i (⟨some d, op, ty, pos, af, g⟩ :: rest) L V :=
  ⟨d, rfl, hd, .inl ⟨v, fun w' hw a h _ => .inl ⟨h.wanted (o := ⟨some d, op, ty, pos, af, g⟩) hg, .val v w' ((hx w' (hw.mono fun k _ h _ => h)).2 _ _ _ _ a h) ⟨rfl, Keep.refl _ _⟩⟩, k⟩⟩
theorem qs_valp {op : Op} {p : VP} (hne : i ≠ sp) (hp : StableS S false p) (hg : wants L ops g = some true) (hd : Nat.blt d m = true) (hno : at' L d = none) (hx : ∀ w', Keep S w0 w' → ∃ v w'', Xv P m D L op ty w' v w'' ∧ p v w'' ∧ Ext w' w'') (k : QWS S sp F n P m D ops w0 K (i + 1) rest L ((d, p) :: V)) :
    QWS S sp F n P m D ops w0 K i (⟨some d, op, ty, pos, af, g⟩ :: rest) L V :=
  ⟨d, rfl, hd, .inr ⟨p, by rw [decide_eq_false hne]; exact hp, hno, fun w' hw a h _ => by
    obtain ⟨v, w'', hx, hpv, he⟩ := hx w' (hw.mono fun k _ h _ => h)
    exact .inl ⟨h.wanted (o := ⟨some d, op, ty, pos, af, g⟩) hg, .val v w'' (hx.2 _ _ _ _ a h) ⟨hpv, he.mono fun _ _ _ => trivial⟩⟩, k⟩⟩
/-- The special operation: it reads one slot of whose value only q is known, and may turn what lies outside S. -/
theorem qs_sp {op : Op} {p q : VP} {s : Nat} (hi : i = sp) (hp : StableS S true p) (hg : wants L ops g = some true) (hd : Nat.blt d m = true) (hno : at' L d = none) (hs : (s, q) ∈ V) (hlo : s ∈ looks ops ⟨some d, op, ty, pos, af, g⟩)
    (hx : ∀ w' u, Ext w0 w' → q u w' → ∃ v w'', Xv P m D ((s, u) :: L) op ty w' v w'' ∧ p v w'' ∧ Keep S w' w'') (k : QWS S sp F n P m D ops w0 K (i + 1) rest L ((d, p) :: V)) :
    QWS S sp F n P m D ops w0 K i (⟨some d, op, ty, pos, af, g⟩ :: rest) L V :=
  ⟨d, rfl, hd, .inr ⟨p, by rw [decide_eq_true hi]; exact hp, hno, fun w' hw a h hvs => by
    rw [decide_eq_true hi] at hw
    obtain ⟨u, hu, hq⟩ := hvs _ hs hlo
    obtain ⟨v, w'', hx, hpv, he⟩ := hx w' u (hw.mono fun _ _ _ h => by cases h) hq
    refine .inl ⟨h.wanted (o := ⟨some d, op, ty, pos, af, g⟩) hg, .val v w'' (hx.2 _ _ _ _ a ⟨h.size, h.defers, fun j v hj => ?_⟩) ⟨hpv, by rw [decide_eq_true hi]; exact he.mono fun _ _ h => h rfl⟩⟩
    rw [at_cons] at hj
    split at hj
    · rename_i e; subst e; cases hj; exact hu
    · exact h.get j v hj, k⟩⟩
theorem tailS2 {p p2 : VP} {d2 : Nat} (k : ∀ w' v v2, Keep S w0 w' → p v w' → p2 v2 w' → WL F n P Q m D ops tail ((d, v) :: (d2, v2) :: L) w') : TailS S F n P Q m D ops tail w0 L [(d, p), (d2, p2)] := fun w' hw L' hv hs => by
  obtain ⟨v, h1, h2⟩ := hv (d, p) (by simp)
  obtain ⟨v2, h3, h4⟩ := hv (d2, p2) (by simp)
  exact wl_sub (sub_cons h1 (sub_cons h3 hs)) (k w' v v2 hw h2 h4)
theorem wc_drawS' {id : Nat} (T : Nat → Prop) (sp : Nat) (N : Nat) (hW : Wd F) (hm : P.follows .mixedOrders = true) (hck : freeOk ops N = true)
    (hq : ∀ w0, Ext w w0 → QWS T sp F n P m D ops w0 (TailS T F n P Q m D ops (ops.drop N) w0) 0 (ops.take N) L []) : WC F n P Q m D (.region id ops.toArray true) L w := wc_drawS N hW hm hck (hq _ (ext_drew w))
end
end Go.Proofs.Ytblbddamebbgaaa.K
