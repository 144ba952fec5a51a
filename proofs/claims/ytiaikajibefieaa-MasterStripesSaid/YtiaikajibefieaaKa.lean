/- My own walking rules (part 1): frames as lists of slots, regions, loops, calls. No program is named here. -/
import Derived.RangeFuncNested
import Derived.RangeFuncBound
import Derived.RangeFuncCalls
import Derived.RangeFuncLeaves
import Derived.Shelf.Abstract
import Derived.OrdersIn
import Derived.OwnWalkIn
import Derived.WalkKit
import Derived.TacticsInMore
import Derived.LoopNIn
import Derived.LoopIn
import Derived.KernelRfl
import Derived.WalkLawsBesides
import Derived.WalkSpells
namespace Go.Proofs.Ytiaikajibefieaa.K
open Go Go.RowKit
set_option linter.unusedVariables false
set_option linter.unusedSectionVars false
set_option linter.unusedSimpArgs false

abbrev Env := List (Nat × Value)
def at' : Env → Nat → Option Value
  | [], _ => none
  | p :: l, i => bif Nat.beq p.1 i then some p.2 else at' l i

/-- The frame a, of m slots, holds what L says; D: its deferred calls. -/
structure Fr (m : Nat) (D : List Deferred) (a : Act) (L : Env) : Prop where
  size : a.tmps.size = m
  defers : a.defers = D
  get : ∀ i v, at' L i = some v → a.tmps[i]? = some v

def ev (L : Env) : Operand → Option Value
  | .tmp t => at' L t
  | .const v => some v
  | .global g => some (.pointer (some ⟨g, 0, none⟩))
  | .func f => some (.func (.func f) #[] #[])
def evs (L : Env) : List Operand → Option (List Value)
  | [] => some []
  | x :: l => match ev L x, evs L l with
    | some v, some vs => some (v :: vs)
    | _, _ => none

structure Wd (F : Fence) : Prop where
  fn : ∀ f, F.fn f
  depth : F.depth = none
theorem Wd.wide : Wd Fence.wide := ⟨fun _ => trivial, rfl⟩
theorem Wd.round {F : Fence} (h : Wd F) (l : Nat) : Wd (F.inRound l) := ⟨h.fn, h.depth⟩
theorem Wd.deep {F : Fence} (h : Wd F) (n : Nat) : F.depth.isSome = true → 1 ≤ n := by rw [h.depth]; simp

section
variable {F : Fence} {n : Nat} {P : Program} {Q : Exit → Act → World → Prop} {m : Nat} {D : List Deferred} {L : Env} {w w' : World} {a : Act}
variable {ops : List Oper} {rest : List Oper} {d : Nat} {ty : TypeId} {pos : String} {af : Array Edge} {g : Option (Nat × Bool)} {v : Value}

theorem Fr.ev (h : Fr m D a L) {x : Operand} (he : K.ev L x = some v) : a.eval x = v := by
  cases x with
  | tmp t =>
    have := h.get t v he
    show a.tmps.getD t undef = v
    rw [Array.getD_eq_getD_getElem?, this]; rfl
  | const u => exact Option.some.inj he
  | global q => exact Option.some.inj he
  | func f => exact Option.some.inj he

theorem evs_toList (h : Fr m D a L) : ∀ (l : List Operand) (vs : List Value), evs L l = some vs → l.map a.eval = vs
  | [], vs, he => by simp [evs] at he; subst he; rfl
  | x :: l, vs, he => by
    simp only [evs] at he
    split at he
    · rename_i u us h1 h2
      have he := Option.some.inj he
      subst he
      rw [List.map_cons, h.ev h1, evs_toList h l us h2]
    · cases he
theorem Fr.evs (h : Fr m D a L) {l : List Operand} {vs : List Value} (he : K.evs L l = some vs) : (l.toArray).map a.eval = vs.toArray := by
  rw [List.map_toArray, evs_toList h l vs he]

theorem Fr.put (h : Fr m D a L) (hd : Nat.blt d m = true) : Fr m D (a.put (some d) v) ((d, v) :: L) := by
  have hdm : d < m := by simpa using hd
  refine ⟨by simp [Act.put, h.size], h.defers, fun i u hi => ?_⟩
  simp only [at'] at hi
  cases hb : Nat.beq d i with
  | true =>
    have e : d = i := Nat.eq_of_beq_eq_true hb
    subst e
    simp [hb] at hi
    subst hi
    simp [Act.put, h.size, hdm]
  | false =>
    simp [hb] at hi
    have hne : d ≠ i := fun e => by subst e; rw [Nat.beq_refl] at hb; cases hb
    have := h.get i u hi
    simp only [Act.put, Array.getElem?_setIfInBounds_ne hne]
    exact this
theorem Fr.skip (h : Fr m D a L) : Fr m D (a.put none v) L := h

/-- L' says no more than L. -/
def Sub (L' L : Env) : Prop := ∀ i v, at' L' i = some v → at' L i = some v
theorem sub_nil : Sub [] L := fun _ _ h => by cases h
theorem sub_cons {L' : Env} {i : Nat} {u : Value} (h1 : at' L i = some u) (h2 : Sub L' L) : Sub ((i, u) :: L') L := fun j x hj => by
  simp only [at'] at hj
  cases hb : Nat.beq i j with
  | true => have e := Nat.eq_of_beq_eq_true hb; subst e; simp [hb] at hj; subst hj; exact h1
  | false => simp [hb] at hj; exact h2 j x hj
theorem Fr.sub {L' : Env} (h : Fr m D a L) (hs : Sub L' L) : Fr m D a L' := ⟨h.size, h.defers, fun i v hi => h.get i v (hs i v hi)⟩

/-! ### what is to be shown -/
def WL (F : Fence) (n : Nat) (P : Program) (Q : Exit → Act → World → Prop) (m : Nat) (D : List Deferred) (ops : List Oper) (l : List Oper) (L : Env) (w : World) : Prop :=
  ∀ a, Fr m D a L → wpListIn F n P ops.toArray Q l a w
def WC (F : Fence) (n : Nat) (P : Program) (Q : Exit → Act → World → Prop) (m : Nat) (D : List Deferred) (c : Code) (L : Env) (w : World) : Prop :=
  ∀ a, Fr m D a L → c.wpIn F n P Q a w
def NX (Q : Exit → Act → World → Prop) (m : Nat) (D : List Deferred) (e : Exit) (L : Env) (w : World) : Prop := ∀ a, Fr m D a L → Q e a w

theorem wl_sub {l : List Oper} {L' : Env} (hs : Sub L' L) (k : WL F n P Q m D ops l L' w) : WL F n P Q m D ops l L w := fun a h => k a (h.sub hs)
theorem wc_sub {c : Code} {L' : Env} (hs : Sub L' L) (k : WC F n P Q m D c L' w) : WC F n P Q m D c L w := fun a h => k a (h.sub hs)

/-! ### code -/
theorem wc_seq {x y : Code} (k : WC F n P (Exit.then (y.wpIn F n P Q) Q) m D x L w) : WC F n P Q m D (.seq x y) L w := fun a h => wpIn_seq (k a h)
theorem wc_skip (k : NX Q m D .normal L w) : WC F n P Q m D .skip L w := fun a h => wpIn_skip (k a h)
theorem wc_exit {id : Nat} (k : NX Q m D (.exit id) L w) : WC F n P Q m D (.exit id) L w := fun a h => wpIn_exit (k a h)
theorem wc_ret (k : NX Q m D .ret L w) : WC F n P Q m D .ret L w := fun a h => wpIn_ret (k a h)
theorem wc_block {id : Nat} {c : Code} (k : WC F n P (Exit.inBlock id Q) m D c L w) : WC F n P Q m D (.block id c) L w := fun a h => wpIn_block (k a h)
theorem wc_true {c : Operand} {x y : Code} (hc : ev L c = some (.bool true)) (k : WC F n P Q m D x L w) : WC F n P Q m D (.cond c x y) L w := fun a h => wpIn_cond_true (h.ev hc) (k a h)
theorem wc_false {c : Operand} {x y : Code} (hc : ev L c = some (.bool false)) (k : WC F n P Q m D y L w) : WC F n P Q m D (.cond c x y) L w := fun a h => wpIn_cond_false (h.ev hc) (k a h)
theorem wc_bool {c : Operand} {x y : Code} {b : Bool} (hc : ev L c = some (.bool b)) (k1 : b = true → WC F n P Q m D x L w) (k2 : b = false → WC F n P Q m D y L w) : WC F n P Q m D (.cond c x y) L w :=
  fun a h => wpIn_cond_split (h.ev hc) (fun e => k1 e a h) (fun e => k2 e a h)
theorem wc_dec {c : Operand} {x y : Code} {p : Prop} [Decidable p] (hc : ev L c = some (.bool (decide p))) (k1 : p → WC F n P Q m D x L w) (k2 : ¬ p → WC F n P Q m D y L w) : WC F n P Q m D (.cond c x y) L w :=
  wc_bool hc (fun e => k1 (of_decide_eq_true e)) (fun e => k2 (of_decide_eq_false e))
theorem nx_then {y : Code} (k : WC F n P Q m D y L w) : NX (Exit.then (y.wpIn F n P Q) Q) m D .normal L w := fun a h => k a h
theorem nx_then_ret {y : Act → World → Prop} (k : NX Q m D .ret L w) : NX (Exit.then y Q) m D .ret L w := fun a h => k a h
theorem nx_then_exit {y : Act → World → Prop} {id : Nat} (k : NX Q m D (.exit id) L w) : NX (Exit.then y Q) m D (.exit id) L w := fun a h => k a h
theorem nx_block {id : Nat} (k : NX Q m D .normal L w) : NX (Exit.inBlock id Q) m D .normal L w := fun a h => k a h
theorem nx_block_ret {id : Nat} (k : NX Q m D .ret L w) : NX (Exit.inBlock id Q) m D .ret L w := fun a h => k a h
theorem nx_block_exit {id : Nat} (k : NX Q m D .normal L w) : NX (Exit.inBlock id Q) m D (.exit id) L w := fun a h => by
  show (if id = id then Q .normal a w else Q (.exit id) a w); rw [if_pos rfl]; exact k a h
theorem nx_block_other {id j : Nat} (hne : Nat.beq j id = false) (k : NX Q m D (.exit j) L w) : NX (Exit.inBlock id Q) m D (.exit j) L w := fun a h => by
  have : j ≠ id := fun e => by subst e; rw [Nat.beq_refl] at hne; cases hne
  show (if j = id then Q .normal a w else Q (.exit j) a w); rw [if_neg this]; exact k a h

/-- A loop: s: what is known at a round's head (slots: env s; the rest: inv s). -/
def Next {σ : Type} (m : Nat) (D : List Deferred) (env : σ → Env) (inv : σ → World → Prop) (μ : σ → Nat) (s : σ) (a : Act) (w : World) : Prop := ∃ s', μ s' < μ s ∧ inv s' w ∧ Fr m D a (env s')
theorem wc_loop {σ : Type} {c : Code} (env : σ → Env) (inv : σ → World → Prop) (μ : σ → Nat) (s0 : σ) (h0 : inv s0 w) (hs : Sub (env s0) L)
    (round : ∀ s w, inv s w → WC F n P (Exit.then (Next m D env inv μ s) Q) m D c (env s) w) : WC F n P Q m D (.loop c) L w := by
  intro a ha
  have key : ∀ j s w a, μ s = j → inv s w → Fr m D a (env s) → ∀ (b : Frame) (k : List Item) (cs : List Frame), b.roundOf = F.round → F.fn b.fn → F.room (cs.length + 1 + n) →
      ∃ e a' w', Q e a' w' ∧ ArrivesIn (Machine.fenced P F) P (lone (b.atR a (.code c :: .inLoop c :: k)) cs w) b k cs e a' w' := by
    intro j
    induction j using Nat.strongRecOn with
    | _ j ih =>
      intro s w a hj hI hf b k cs hro hb hr
      obtain ⟨e, a₁, w₁, hq, harr⟩ := round s w hI a hf b (.inLoop c :: k) cs hro hb hr
      cases e with
      | normal =>
        obtain ⟨s', hlt, hI₁, hf₁⟩ := hq
        obtain ⟨e₂, a₂, w₂, hq₂, harr₂⟩ := ih (μ s') (hj ▸ hlt) s' w₁ a₁ rfl hI₁ hf₁ b k cs hro hb hr
        exact ⟨e₂, a₂, w₂, hq₂, .of_steps (StepsIn.trans harr (.one (fenced_calm hb hr rfl) stepR_inLoop)) harr₂⟩
      | exit id => exact ⟨_, a₁, w₁, hq, .pass (x := .inLoop c) rfl (fun _ _ => .inl (by simp)) harr⟩
      | goto l => exact ⟨_, a₁, w₁, hq, .pass (x := .inLoop c) rfl (fun _ _ => .inl (by simp)) harr⟩
      | ret => exact ⟨_, a₁, w₁, hq, .pass (x := .inLoop c) rfl (fun _ _ => .inl (by simp)) harr⟩
      | panic ch => exact ⟨_, a₁, w₁, hq, .pass (x := .inLoop c) rfl (fun _ _ => .inl (by simp)) harr⟩
      | outgrown => exact ⟨_, a₁, w₁, hq, .pass (x := .inLoop c) rfl (fun _ _ => .inl (by simp)) harr⟩
  intro b k cs hro hb hr
  obtain ⟨e, a', w', hq, harr⟩ := key _ s0 w a rfl h0 (ha.sub hs) b k cs hro hb hr
  exact ⟨e, a', w', hq, .of_steps (.one (fenced_calm hb hr rfl) stepR_loop) harr⟩
theorem nx_next {σ : Type} {env : σ → Env} {inv : σ → World → Prop} {μ : σ → Nat} {s : σ} (s' : σ) (hμ : μ s' < μ s) (hi : inv s' w) (hs : Sub (env s') L) :
    NX (Exit.then (Next m D env inv μ s) Q) m D .normal L w := fun a h => ⟨s', hμ, hi, h.sub hs⟩

/-! ### regions in the text's order -/
theorem wc_region {id : Nat} (k : WL F n P Q m D ops ops L w) : WC F n P Q m D (.region id ops.toArray false) L w := fun a h => wpIn_region_lit (k a h)
theorem wl_nil (k : NX Q m D .normal L w) : WL F n P Q m D ops [] L w := fun a h => k a h

def gdst : List Oper → Nat → Option Tmp
  | [], _ => none
  | o :: _, 0 => o.dst
  | _ :: l, j + 1 => gdst l j
theorem gdst_eq : ∀ (l : List Oper) (j : Nat), gdst l j = (l[j]?).bind (·.dst)
  | [], _ => by simp [gdst]
  | o :: l, 0 => by simp [gdst]
  | o :: l, j + 1 => by simp [gdst, gdst_eq l j]
/-- Is a guarded operation carried out? -/
def wants (L : Env) (ops : List Oper) : Option (Nat × Bool) → Option Bool
  | none => some true
  | some (j, want) => match gdst ops j with
    | some d => match at' L d with
      | some (.bool b) => some (b == want)
      | some (.tuple _) => some false
      | _ => none
    | none => none
theorem Fr.wanted (h : Fr m D a L) {o : Oper} {b : Bool} (hw : wants L ops o.guard = some b) : Region.wanted o (yielded ops.toArray a.tmps) = b := by
  unfold Region.wanted
  cases hg : o.guard with
  | none => rw [hg] at hw; simp [wants] at hw; subst hw; rfl
  | some p =>
    obtain ⟨j, want⟩ := p
    rw [hg] at hw
    simp only [wants] at hw
    split at hw
    · rename_i d hd
      rw [gdst_eq] at hd
      split at hw
      · rename_i b' hb'
        have hw := Option.some.inj hw
        have h1 := h.get d _ hb'
        subst hw
        simp only [yielded, List.getElem?_toArray, hd, Option.bind_some, h1]
        cases b' <;> cases want <;> rfl
      · rename_i x hb'
        have hw := Option.some.inj hw
        have h1 := h.get d _ hb'
        subst hw
        simp only [yielded, List.getElem?_toArray, hd, Option.bind_some, h1]
        rfl
      · cases hw
    · cases hw

theorem wpIn_value {o : Oper} {K : Act → World → Prop} (hW : Wd F) (hnd : ∀ c, o.op ≠ .defer c) (hx : (execOp a.eval o).run P w = .ok (.value v) w') (hk : K (a.put o.dst v) w') : o.wpIn F n P a w K Q := by
  refine ⟨fun f _ => hW.fn f, ?_⟩
  rw [Oper.semAt_eq _ _ _ hnd, hx]
  exact hk
theorem wpIn_skipped {o : Oper} {K : Act → World → Prop} (hW : Wd F) (hnd : ∀ c, o.op ≠ .defer c) (hx : (execOp a.eval o).run P w = .ok .skip w') (hk : K (a.put o.dst undef) w') : o.wpIn F n P a w K Q := by
  refine ⟨fun f _ => hW.fn f, ?_⟩
  rw [Oper.semAt_eq _ _ _ hnd, hx]
  exact hk
theorem wpIn_entered {o : Oper} {K : Act → World → Prop} {f : FuncId} {args : Array Value} {R : Value → World → Prop} (hW : Wd F) (hnd : ∀ c, o.op ≠ .defer c) (hx : (execOp a.eval o).run P w = .ok (.enter f args) w')
    (hc : CallsIn F (n - 1) P f args w' fun e w'' => ∃ v, e = .returned v ∧ R v w'') (hk : ∀ v w'', R v w'' → K (a.put o.dst v) w'') : o.wpIn F n P a w K Q := by
  refine ⟨fun f _ => hW.fn f, ?_⟩
  rw [Oper.semAt_eq _ _ _ hnd, hx]
  exact ⟨hW.deep n, hc.mono (fun e w'' ⟨v, he, hr⟩ => by subst he; exact hk v w'' hr)⟩

/-- An operation that yields a value. -/
def Xv (P : Program) (m : Nat) (D : List Deferred) (L : Env) (op : Op) (ty : TypeId) (w : World) (v : Value) (w' : World) : Prop :=
  (∀ c, op ≠ .defer c) ∧ ∀ (d : Option Tmp) (pos : String) (af : Array Edge) (g : Option (Nat × Bool)) a, Fr m D a L → (execOp a.eval ⟨d, op, ty, pos, af, g⟩).run P w = .ok (.value v) w'
/-- An operation that yields none. -/
def Xs (P : Program) (m : Nat) (D : List Deferred) (L : Env) (op : Op) (ty : TypeId) (w : World) (w' : World) : Prop :=
  (∀ c, op ≠ .defer c) ∧ ∀ (d : Option Tmp) (pos : String) (af : Array Edge) (g : Option (Nat × Bool)) a, Fr m D a L → (execOp a.eval ⟨d, op, ty, pos, af, g⟩).run P w = .ok .skip w'
/-- An operation that calls. -/
def Xc (P : Program) (m : Nat) (D : List Deferred) (L : Env) (op : Op) (ty : TypeId) (w : World) (f : FuncId) (args : Array Value) (w' : World) : Prop :=
  (∀ c, op ≠ .defer c) ∧ ∀ (d : Option Tmp) (pos : String) (af : Array Edge) (g : Option (Nat × Bool)) a, Fr m D a L → (execOp a.eval ⟨d, op, ty, pos, af, g⟩).run P w = .ok (.enter f args) w'

theorem wl_val {op : Op} (hW : Wd F) (hg : wants L ops g = some true) (hd : Nat.blt d m = true) (hx : Xv P m D L op ty w v w') (k : WL F n P Q m D ops rest ((d, v) :: L) w') :
    WL F n P Q m D ops (⟨some d, op, ty, pos, af, g⟩ :: rest) L w := fun a h => by
  unfold wpListIn
  rw [if_pos (h.wanted (o := ⟨some d, op, ty, pos, af, g⟩) hg)]
  exact wpIn_value hW hx.1 (hx.2 _ _ _ _ a h) (k _ (h.put hd))
theorem wl_none {op : Op} (hW : Wd F) (hg : wants L ops g = some true) (hx : Xs P m D L op ty w w') (k : WL F n P Q m D ops rest L w') :
    WL F n P Q m D ops (⟨none, op, ty, pos, af, g⟩ :: rest) L w := fun a h => by
  unfold wpListIn
  rw [if_pos (h.wanted (o := ⟨none, op, ty, pos, af, g⟩) hg)]
  exact wpIn_skipped hW hx.1 (hx.2 _ _ _ _ a h) (k _ h)
theorem wl_valnone {op : Op} (hW : Wd F) (hg : wants L ops g = some true) (hx : Xv P m D L op ty w v w') (k : WL F n P Q m D ops rest L w') :
    WL F n P Q m D ops (⟨none, op, ty, pos, af, g⟩ :: rest) L w := fun a h => by
  unfold wpListIn
  rw [if_pos (h.wanted (o := ⟨none, op, ty, pos, af, g⟩) hg)]
  exact wpIn_value hW hx.1 (hx.2 _ _ _ _ a h) (k _ h)
theorem wl_off {op : Op} (hW : Wd F) (hg : wants L ops g = some false) (hd : Nat.blt d m = true) (k : WL F n P Q m D ops rest ((d, undef) :: L) w) :
    WL F n P Q m D ops (⟨some d, op, ty, pos, af, g⟩ :: rest) L w := fun a h => by
  unfold wpListIn
  rw [if_neg (by rw [h.wanted (o := ⟨some d, op, ty, pos, af, g⟩) hg]; simp)]
  exact ⟨fun f _ => hW.fn f, k _ (h.put hd)⟩
theorem wl_call {op : Op} {f : FuncId} {args : Array Value} {R : Value → World → Prop} (hW : Wd F) (hg : wants L ops g = some true) (hd : Nat.blt d m = true) (hx : Xc P m D L op ty w f args w)
    (hc : CallsIn F (n - 1) P f args w fun e w'' => ∃ v, e = .returned v ∧ R v w'') (k : ∀ v w'', R v w'' → WL F n P Q m D ops rest ((d, v) :: L) w'') :
    WL F n P Q m D ops (⟨some d, op, ty, pos, af, g⟩ :: rest) L w := fun a h => by
  unfold wpListIn
  rw [if_pos (h.wanted (o := ⟨some d, op, ty, pos, af, g⟩) hg)]
  exact wpIn_entered hW hx.1 (hx.2 _ _ _ _ a h) hc (fun v w'' hr => k v w'' hr _ (h.put hd))
theorem wl_callnone {op : Op} {f : FuncId} {args : Array Value} {R : Value → World → Prop} (hW : Wd F) (hg : wants L ops g = some true) (hx : Xc P m D L op ty w f args w)
    (hc : CallsIn F (n - 1) P f args w fun e w'' => ∃ v, e = .returned v ∧ R v w'') (k : ∀ v w'', R v w'' → WL F n P Q m D ops rest L w'') :
    WL F n P Q m D ops (⟨none, op, ty, pos, af, g⟩ :: rest) L w := fun a h => by
  unfold wpListIn
  rw [if_pos (h.wanted (o := ⟨none, op, ty, pos, af, g⟩) hg)]
  exact wpIn_entered hW hx.1 (hx.2 _ _ _ _ a h) hc (fun v w'' hr => k v w'' hr _ h)

/-! ### a function -/
/-- What a call comes to: it returns, and R. -/
def Rt (P : Program) (f : FuncId) (args : List Value) (w : World) (R : Value → World → Prop) : Prop := Calls P f args.toArray w fun e w' => ∃ v, e = .returned v ∧ R v w'
theorem Rt.mono {f : FuncId} {args : List Value} {R R' : Value → World → Prop} (h : Rt P f args w R) (hr : ∀ v w', R v w' → R' v w') : Rt P f args w R' :=
  Calls.mono h (fun e w' ⟨v, he, hv⟩ => ⟨v, he, hr v w' hv⟩)
theorem Rt.inF {f : FuncId} {args : List Value} {R : Value → World → Prop} (hW : F = Fence.wide ∨ ∃ l, F = Fence.wide.inRound l) (h : Rt P f args w R) : CallsIn F n P f args.toArray w fun e w' => ∃ v, e = .returned v ∧ R v w' := by
  rcases hW with rfl | ⟨l, rfl⟩
  · exact callsIn_wide.2 h
  · exact CallsIn.inRound l (callsIn_wide.2 h)

def env0 (i : Nat) : List Value → Env
  | [] => []
  | v :: l => (i, v) :: env0 (i + 1) l
theorem at_env0 : ∀ (l : List Value) (i j : Nat) (v : Value), at' (env0 i l) j = some v → i ≤ j ∧ l[j - i]? = some v
  | [], i, j, v, h => by cases h
  | u :: l, i, j, v, h => by
    simp only [env0, at'] at h
    cases hb : Nat.beq i j with
    | true => have e := Nat.eq_of_beq_eq_true hb; subst e; simp [hb] at h; subst h; exact ⟨Nat.le_refl _, by simp⟩
    | false =>
      simp [hb] at h
      obtain ⟨h1, h2⟩ := at_env0 l (i + 1) j v h
      refine ⟨by omega, ?_⟩
      have : j - i = (j - (i + 1)) + 1 := by omega
      rw [this, List.getElem?_cons_succ]; exact h2
theorem fr_enter {fn : Func} {args : List Value} (hm : fn.ntmps = m) (hl : Nat.ble args.length m = true) : Fr m [] { tmps := args.toArray ++ Array.replicate (fn.ntmps - args.toArray.size) undef, defers := [] } (env0 0 args) := by
  have hl' : args.length ≤ m := by simpa using hl
  refine ⟨by simp [hm]; omega, rfl, fun i v hi => ?_⟩
  obtain ⟨-, h2⟩ := at_env0 args 0 i v hi
  have h3 : args[i]? = some v := by simpa using h2
  have hlt : i < args.length := (List.getElem?_eq_some_iff.1 h3).1
  rw [Array.getElem?_append_left (by simpa using hlt)]
  simpa using h3

/-! ### the end of a function -/
def ok1 (R : Value → World → Prop) : Ending → World → Prop := fun e w' => ∃ v, e = .returned v ∧ R v w'
theorem rt_body {f : FuncId} {fn : Func} {c : Code} {args : List Value} {R : Value → World → Prop} (hf : P.funcs[f]? = some fn) (hb : fn.body = some c) (hm : fn.ntmps = m) (hl : Nat.ble args.length m = true)
    (k : WC Fence.wide 9 P (bodyPostM Fence.wide 9 P fn (ok1 R)) m [] c (env0 0 args) w) : Rt P f args w R := by
  refine (callsIn_wide (n := 9)).1 ?_
  exact callsIn_of_wp_marks hf hb trivial (k _ (fr_enter hm hl)) rfl

/-- Where the results lie. -/
def Res (P : Program) (fn : Func) (m : Nat) (D : List Deferred) (L : Env) (w : World) (v : Value) : Prop := ∀ a, Fr m D a L → (results fn a.tmps).run P w = .ok v w
theorem ends_ret {fn : Func} {R : Value → World → Prop} (hr : Res P fn m [] L w v) (k : R v w) : NX (bodyPostM F n P fn (ok1 R)) m [] .ret L w := fun a h => by
  show LeavesInM F n P fn a.tmps _ a.defers .returning w
  rw [h.defers]
  exact ⟨v, hr a h, v, rfl, k⟩
theorem ends_normal {fn : Func} {R : Value → World → Prop} (hr : Res P fn m [] L w v) (k : R v w) : NX (bodyPostM F n P fn (ok1 R)) m [] .normal L w := ends_ret (F := F) (n := n) hr k
def mark (B : Nat) : Deferred := { target := .collected B, args := #[] }
theorem ends_ret_mark {fn : Func} {R : Value → World → Prop} {B : Nat} (hB : w.heap[B]? = some (.deferred (some []))) (hr : Res P fn m [mark B] L (w.putObj B (.deferred none)) v) (k : R v (w.putObj B (.deferred none))) :
    NX (bodyPostM F n P fn (ok1 R)) m [mark B] .ret L w := fun a h => by
  show LeavesInM F n P fn a.tmps _ a.defers .returning w
  rw [h.defers]
  exact ⟨by simp, .inl ⟨B, _, rfl, run_takeDeferred hB, v, hr a h, v, rfl, k⟩⟩
theorem ends_normal_mark {fn : Func} {R : Value → World → Prop} {B : Nat} (hB : w.heap[B]? = some (.deferred (some []))) (hr : Res P fn m [mark B] L (w.putObj B (.deferred none)) v) (k : R v (w.putObj B (.deferred none))) :
    NX (bodyPostM F n P fn (ok1 R)) m [mark B] .normal L w := ends_ret_mark (F := F) (n := n) hB hr k
theorem res_none {fn : Func} (hr : fn.results = #[]) : Res P fn m D L w (.tuple #[]) := fun a h => results_none hr _ _ _
theorem Fr.getD (h : Fr m D a L) {t : Nat} (hv : at' L t = some v) : a.tmps.getD t undef = v := h.ev (x := .tmp t) hv
theorem res_tmp {fn : Func} {t : Tmp} (hr : fn.results = #[.tmp t]) (hv : at' L t = some v) : Res P fn m D L w v := fun a h => by rw [results_tmp hr, h.getD hv]
theorem res_tmp2 {fn : Func} {t u : Tmp} {v1 v2 : Value} (hr : fn.results = #[.tmp t, .tmp u]) (h1 : at' L t = some v1) (h2 : at' L u = some v2) : Res P fn m D L w (.tuple #[v1, v2]) := fun a h => by
  rw [results_tmp2 hr, h.getD h1, h.getD h2]
theorem res_cell {fn : Func} {t : Tmp} {T : TypeId} {ad : Addr} (hr : fn.results = #[.cell t T]) (h1 : at' L t = some (.pointer (some ad))) (hl : (loadVar T ad).run P w = .ok v w) : Res P fn m D L w v := fun a h => by
  have := h.getD h1
  simp only [Array.getD_eq_getD_getElem?] at this
  simp [results, hr, this, asAddr, hl]
theorem res_cell_tmp {fn : Func} {t u : Tmp} {T : TypeId} {ad : Addr} {v1 v2 : Value} (hr : fn.results = #[.cell t T, .tmp u]) (h1 : at' L t = some (.pointer (some ad))) (hl : (loadVar T ad).run P w = .ok v1 w) (h2 : at' L u = some v2) : Res P fn m D L w (.tuple #[v1, v2]) := fun a h => by
  have e1 := h.getD h1
  have e2 := h.getD h2
  simp only [Array.getD_eq_getD_getElem?] at e1 e2
  simp [results, hr, e1, e2, asAddr, hl]
theorem res_tmp_cell {fn : Func} {t u : Tmp} {T : TypeId} {ad : Addr} {v1 v2 : Value} (hr : fn.results = #[.tmp u, .cell t T]) (h1 : at' L t = some (.pointer (some ad))) (hl : (loadVar T ad).run P w = .ok v1 w) (h2 : at' L u = some v2) : Res P fn m D L w (.tuple #[v2, v1]) := fun a h => by
  have e1 := h.getD h1
  have e2 := h.getD h2
  simp only [Array.getD_eq_getD_getElem?] at e1 e2
  simp [results, hr, e1, e2, asAddr, hl]

/-! ### a call of yield -/
theorem wl_yield {l : Nat} {fo : Operand} {xs : List Operand} {vs : List Value} {at_ : Array TypeId} {R : Value → World → Prop} (hW : Wd F) (hg : wants L ops g = some true) (hd : Nat.blt d m = true)
    (hf : ev L fo = some (.func (.yield l) #[] #[])) (ha : evs L xs = some vs) (hY : YieldAt F (n - 1) P l vs.toArray w (ok1 R)) (k : ∀ v w'', R v w'' → WL F n P Q m D ops rest ((d, v) :: L) w'') :
    WL F n P Q m D ops (⟨some d, .call ⟨.value fo, xs.toArray, at_⟩, ty, pos, af, g⟩ :: rest) L w := fun a h => by
  unfold wpListIn
  rw [if_pos (h.wanted (o := ⟨some d, .call ⟨.value fo, xs.toArray, at_⟩, ty, pos, af, g⟩) hg)]
  obtain ⟨fn, tmps, assign, body, hy, hR⟩ := hY
  refine ⟨fun f _ => hW.fn f, ?_⟩
  rw [Oper.semAt_eq _ _ _ (by intro c h; cases h)]
  have hx : (execOp a.eval ⟨some d, .call ⟨.value fo, xs.toArray, at_⟩, ty, pos, af, g⟩).run P w = .ok (.round l fn tmps assign body) w := by
    have h2 := h.evs ha
    have h1 := h.ev hf
    simp only [execOp, resolve, h1, h2]
    simpa [Deferred.ofValue, invoke, Sem.run_bind] using hy
  rw [hx]
  exact ⟨hW.deep n, hR.mono (fun e w'' ⟨v, he, hr⟩ => by subst he; exact k v w'' hr _ (h.put hd))⟩
end
end Go.Proofs.Ytiaikajibefieaa.K
