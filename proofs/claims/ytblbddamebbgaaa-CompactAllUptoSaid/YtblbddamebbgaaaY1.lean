import Derived.RangeFuncNested
import Derived.RangeFuncBound
import Derived.RangeFuncCalls
import Derived.RangeFuncLeaves
import Derived.Shelf.Abstract
import Derived.OrdersIn
import Derived.OwnWalkIn
import Derived.WalkKit
import Derived.TacticsInMore
import Derived.LoopNIn
import Derived.LoopIn
import Derived.KernelRfl
import Derived.WalkLawsBesides
import Derived.WalkSpells
import Derived.Test.YtblbddamebbgaaaProg
import Derived.Maps.AppendAt
/- My own walking rules (part 1): frames as lists of slots, regions, loops, calls. No program is named here. -/
namespace Go.Proofs.Ytblbddamebbgaaa.K
open Go Go.RowKit
set_option linter.unusedVariables false
set_option linter.unusedSectionVars false
set_option linter.unusedSimpArgs false

abbrev Env := List (Nat × Value)
def at' : Env → Nat → Option Value
  | [], _ => none
  | p :: l, i => bif Nat.beq p.1 i then some p.2 else at' l i

/-- The frame a, of m slots, holds what L says; D: its deferred calls. -/
structure Fr (m : Nat) (D : List Deferred) (a : Act) (L : Env) : Prop where
  size : a.tmps.size = m
  defers : a.defers = D
  get : ∀ i v, at' L i = some v → a.tmps[i]? = some v

def ev (L : Env) : Operand → Option Value
  | .tmp t => at' L t
  | .const v => some v
  | .global g => some (.pointer (some ⟨g, 0, none⟩))
  | .func f => some (.func (.func f) #[] #[])
def evs (L : Env) : List Operand → Option (List Value)
  | [] => some []
  | x :: l => match ev L x, evs L l with
    | some v, some vs => some (v :: vs)
    | _, _ => none

structure Wd (F : Fence) : Prop where
  fn : ∀ f, F.fn f
  depth : F.depth = none
theorem Wd.wide : Wd Fence.wide := ⟨fun _ => trivial, rfl⟩
theorem Wd.round {F : Fence} (h : Wd F) (l : Nat) : Wd (F.inRound l) := ⟨h.fn, h.depth⟩
theorem Wd.deep {F : Fence} (h : Wd F) (n : Nat) : F.depth.isSome = true → 1 ≤ n := by rw [h.depth]; simp

section
variable {F : Fence} {n : Nat} {P : Program} {Q : Exit → Act → World → Prop} {m : Nat} {D : List Deferred} {L : Env} {w w' : World} {a : Act}
variable {ops : List Oper} {rest : List Oper} {d : Nat} {ty : TypeId} {pos : String} {af : Array Edge} {g : Option (Nat × Bool)} {v : Value}

theorem Fr.ev (h : Fr m D a L) {x : Operand} (he : K.ev L x = some v) : a.eval x = v := by
  cases x with
  | tmp t =>
    have := h.get t v he
    show a.tmps.getD t undef = v
    rw [Array.getD_eq_getD_getElem?, this]; rfl
  | const u => exact Option.some.inj he
  | global q => exact Option.some.inj he
  | func f => exact Option.some.inj he

theorem evs_toList (h : Fr m D a L) : ∀ (l : List Operand) (vs : List Value), evs L l = some vs → l.map a.eval = vs
  | [], vs, he => by simp [evs] at he; subst he; rfl
  | x :: l, vs, he => by
    simp only [evs] at he
    split at he
    · rename_i u us h1 h2
      have he := Option.some.inj he
      subst he
      rw [List.map_cons, h.ev h1, evs_toList h l us h2]
    · cases he
theorem Fr.evs (h : Fr m D a L) {l : List Operand} {vs : List Value} (he : K.evs L l = some vs) : (l.toArray).map a.eval = vs.toArray := by
  rw [List.map_toArray, evs_toList h l vs he]

theorem Fr.put (h : Fr m D a L) (hd : Nat.blt d m = true) : Fr m D (a.put (some d) v) ((d, v) :: L) := by
  have hdm : d < m := by simpa using hd
  refine ⟨by simp [Act.put, h.size], h.defers, fun i u hi => ?_⟩
  simp only [at'] at hi
  cases hb : Nat.beq d i with
  | true =>
    have e : d = i := Nat.eq_of_beq_eq_true hb
    subst e
    simp [hb] at hi
    subst hi
    simp [Act.put, h.size, hdm]
  | false =>
    simp [hb] at hi
    have hne : d ≠ i := fun e => by subst e; rw [Nat.beq_refl] at hb; cases hb
    have := h.get i u hi
    simp only [Act.put, Array.getElem?_setIfInBounds_ne hne]
    exact this
/-- L' says no more than L. -/
def Sub (L' L : Env) : Prop := ∀ i v, at' L' i = some v → at' L i = some v
theorem sub_nil : Sub [] L := fun _ _ h => by cases h
theorem sub_cons {L' : Env} {i : Nat} {u : Value} (h1 : at' L i = some u) (h2 : Sub L' L) : Sub ((i, u) :: L') L := fun j x hj => by
  simp only [at'] at hj
  cases hb : Nat.beq i j with
  | true => have e := Nat.eq_of_beq_eq_true hb; subst e; simp [hb] at hj; subst hj; exact h1
  | false => simp [hb] at hj; exact h2 j x hj
theorem Fr.sub {L' : Env} (h : Fr m D a L) (hs : Sub L' L) : Fr m D a L' := ⟨h.size, h.defers, fun i v hi => h.get i v (hs i v hi)⟩

def WL (F : Fence) (n : Nat) (P : Program) (Q : Exit → Act → World → Prop) (m : Nat) (D : List Deferred) (ops : List Oper) (l : List Oper) (L : Env) (w : World) : Prop :=
  ∀ a, Fr m D a L → wpListIn F n P ops.toArray Q l a w
def WC (F : Fence) (n : Nat) (P : Program) (Q : Exit → Act → World → Prop) (m : Nat) (D : List Deferred) (c : Code) (L : Env) (w : World) : Prop :=
  ∀ a, Fr m D a L → c.wpIn F n P Q a w
def NX (Q : Exit → Act → World → Prop) (m : Nat) (D : List Deferred) (e : Exit) (L : Env) (w : World) : Prop := ∀ a, Fr m D a L → Q e a w

theorem wl_sub {l : List Oper} {L' : Env} (hs : Sub L' L) (k : WL F n P Q m D ops l L' w) : WL F n P Q m D ops l L w := fun a h => k a (h.sub hs)
theorem wc_seq {x y : Code} (k : WC F n P (Exit.then (y.wpIn F n P Q) Q) m D x L w) : WC F n P Q m D (.seq x y) L w := fun a h => wpIn_seq (k a h)
theorem wc_skip (k : NX Q m D .normal L w) : WC F n P Q m D .skip L w := fun a h => wpIn_skip (k a h)
theorem wc_exit {id : Nat} (k : NX Q m D (.exit id) L w) : WC F n P Q m D (.exit id) L w := fun a h => wpIn_exit (k a h)
theorem wc_ret (k : NX Q m D .ret L w) : WC F n P Q m D .ret L w := fun a h => wpIn_ret (k a h)
theorem wc_block {id : Nat} {c : Code} (k : WC F n P (Exit.inBlock id Q) m D c L w) : WC F n P Q m D (.block id c) L w := fun a h => wpIn_block (k a h)
theorem wc_false {c : Operand} {x y : Code} (hc : ev L c = some (.bool false)) (k : WC F n P Q m D y L w) : WC F n P Q m D (.cond c x y) L w := fun a h => wpIn_cond_false (h.ev hc) (k a h)
theorem wc_bool {c : Operand} {x y : Code} {b : Bool} (hc : ev L c = some (.bool b)) (k1 : b = true → WC F n P Q m D x L w) (k2 : b = false → WC F n P Q m D y L w) : WC F n P Q m D (.cond c x y) L w :=
  fun a h => wpIn_cond_split (h.ev hc) (fun e => k1 e a h) (fun e => k2 e a h)
theorem wc_dec {c : Operand} {x y : Code} {p : Prop} [Decidable p] (hc : ev L c = some (.bool (decide p))) (k1 : p → WC F n P Q m D x L w) (k2 : ¬ p → WC F n P Q m D y L w) : WC F n P Q m D (.cond c x y) L w :=
  wc_bool hc (fun e => k1 (of_decide_eq_true e)) (fun e => k2 (of_decide_eq_false e))
theorem nx_then {y : Code} (k : WC F n P Q m D y L w) : NX (Exit.then (y.wpIn F n P Q) Q) m D .normal L w := fun a h => k a h
theorem nx_then_ret {y : Act → World → Prop} (k : NX Q m D .ret L w) : NX (Exit.then y Q) m D .ret L w := fun a h => k a h
theorem nx_then_exit {y : Act → World → Prop} {id : Nat} (k : NX Q m D (.exit id) L w) : NX (Exit.then y Q) m D (.exit id) L w := fun a h => k a h
theorem nx_block {id : Nat} (k : NX Q m D .normal L w) : NX (Exit.inBlock id Q) m D .normal L w := fun a h => k a h
theorem nx_block_ret {id : Nat} (k : NX Q m D .ret L w) : NX (Exit.inBlock id Q) m D .ret L w := fun a h => k a h
theorem nx_block_exit {id : Nat} (k : NX Q m D .normal L w) : NX (Exit.inBlock id Q) m D (.exit id) L w := fun a h => by
  show (if id = id then Q .normal a w else Q (.exit id) a w); rw [if_pos rfl]; exact k a h
/-- A loop: s: what is known at a round's head (slots: env s; the rest: inv s). -/
def Next {σ : Type} (m : Nat) (D : List Deferred) (env : σ → Env) (inv : σ → World → Prop) (μ : σ → Nat) (s : σ) (a : Act) (w : World) : Prop := ∃ s', μ s' < μ s ∧ inv s' w ∧ Fr m D a (env s')
theorem wc_loop {σ : Type} {c : Code} (env : σ → Env) (inv : σ → World → Prop) (μ : σ → Nat) (s0 : σ) (h0 : inv s0 w) (hs : Sub (env s0) L)
    (round : ∀ s w, inv s w → WC F n P (Exit.then (Next m D env inv μ s) Q) m D c (env s) w) : WC F n P Q m D (.loop c) L w := by
  intro a ha
  have key : ∀ j s w a, μ s = j → inv s w → Fr m D a (env s) → ∀ (b : Frame) (k : List Item) (cs : List Frame), b.roundOf = F.round → F.fn b.fn → F.room (cs.length + 1 + n) →
      ∃ e a' w', Q e a' w' ∧ ArrivesIn (Machine.fenced P F) P (lone (b.atR a (.code c :: .inLoop c :: k)) cs w) b k cs e a' w' := by
    intro j
    induction j using Nat.strongRecOn with
    | _ j ih =>
      intro s w a hj hI hf b k cs hro hb hr
      obtain ⟨e, a₁, w₁, hq, harr⟩ := round s w hI a hf b (.inLoop c :: k) cs hro hb hr
      cases e with
      | normal =>
        obtain ⟨s', hlt, hI₁, hf₁⟩ := hq
        obtain ⟨e₂, a₂, w₂, hq₂, harr₂⟩ := ih (μ s') (hj ▸ hlt) s' w₁ a₁ rfl hI₁ hf₁ b k cs hro hb hr
        exact ⟨e₂, a₂, w₂, hq₂, .of_steps (StepsIn.trans harr (.one (fenced_calm hb hr rfl) stepR_inLoop)) harr₂⟩
      | exit id => exact ⟨_, a₁, w₁, hq, .pass (x := .inLoop c) rfl (fun _ _ => .inl (by simp)) harr⟩
      | goto l => exact ⟨_, a₁, w₁, hq, .pass (x := .inLoop c) rfl (fun _ _ => .inl (by simp)) harr⟩
      | ret => exact ⟨_, a₁, w₁, hq, .pass (x := .inLoop c) rfl (fun _ _ => .inl (by simp)) harr⟩
      | panic ch => exact ⟨_, a₁, w₁, hq, .pass (x := .inLoop c) rfl (fun _ _ => .inl (by simp)) harr⟩
      | outgrown => exact ⟨_, a₁, w₁, hq, .pass (x := .inLoop c) rfl (fun _ _ => .inl (by simp)) harr⟩
  intro b k cs hro hb hr
  obtain ⟨e, a', w', hq, harr⟩ := key _ s0 w a rfl h0 (ha.sub hs) b k cs hro hb hr
  exact ⟨e, a', w', hq, .of_steps (.one (fenced_calm hb hr rfl) stepR_loop) harr⟩
theorem nx_next {σ : Type} {env : σ → Env} {inv : σ → World → Prop} {μ : σ → Nat} {s : σ} (s' : σ) (hμ : μ s' < μ s) (hi : inv s' w) (hs : Sub (env s') L) :
    NX (Exit.then (Next m D env inv μ s) Q) m D .normal L w := fun a h => ⟨s', hμ, hi, h.sub hs⟩

theorem wc_region {id : Nat} (k : WL F n P Q m D ops ops L w) : WC F n P Q m D (.region id ops.toArray false) L w := fun a h => wpIn_region_lit (k a h)
theorem wl_nil (k : NX Q m D .normal L w) : WL F n P Q m D ops [] L w := fun a h => k a h

def gdst : List Oper → Nat → Option Tmp
  | [], _ => none
  | o :: _, 0 => o.dst
  | _ :: l, j + 1 => gdst l j
theorem gdst_eq : ∀ (l : List Oper) (j : Nat), gdst l j = (l[j]?).bind (·.dst)
  | [], _ => by simp [gdst]
  | o :: l, 0 => by simp [gdst]
  | o :: l, j + 1 => by simp [gdst, gdst_eq l j]
/-- Is a guarded operation carried out? -/
def wants (L : Env) (ops : List Oper) : Option (Nat × Bool) → Option Bool
  | none => some true
  | some (j, want) => match gdst ops j with
    | some d => match at' L d with
      | some (.bool b) => some (b == want)
      | some (.tuple _) => some false
      | _ => none
    | none => none
theorem Fr.wanted (h : Fr m D a L) {o : Oper} {b : Bool} (hw : wants L ops o.guard = some b) : Region.wanted o (yielded ops.toArray a.tmps) = b := by
  unfold Region.wanted
  cases hg : o.guard with
  | none => rw [hg] at hw; simp [wants] at hw; subst hw; rfl
  | some p =>
    obtain ⟨j, want⟩ := p
    rw [hg] at hw
    simp only [wants] at hw
    split at hw
    · rename_i d hd
      rw [gdst_eq] at hd
      split at hw
      · rename_i b' hb'
        have hw := Option.some.inj hw
        have h1 := h.get d _ hb'
        subst hw
        simp only [yielded, List.getElem?_toArray, hd, Option.bind_some, h1]
        cases b' <;> cases want <;> rfl
      · rename_i x hb'
        have hw := Option.some.inj hw
        have h1 := h.get d _ hb'
        subst hw
        simp only [yielded, List.getElem?_toArray, hd, Option.bind_some, h1]
        rfl
      · cases hw
    · cases hw

theorem wpIn_value {o : Oper} {K : Act → World → Prop} (hW : Wd F) (hnd : ∀ c, o.op ≠ .defer c) (hx : (execOp a.eval o).run P w = .ok (.value v) w') (hk : K (a.put o.dst v) w') : o.wpIn F n P a w K Q := by
  refine ⟨fun f _ => hW.fn f, ?_⟩
  rw [Oper.semAt_eq _ _ _ hnd, hx]
  exact hk
theorem wpIn_skipped {o : Oper} {K : Act → World → Prop} (hW : Wd F) (hnd : ∀ c, o.op ≠ .defer c) (hx : (execOp a.eval o).run P w = .ok .skip w') (hk : K (a.put o.dst undef) w') : o.wpIn F n P a w K Q := by
  refine ⟨fun f _ => hW.fn f, ?_⟩
  rw [Oper.semAt_eq _ _ _ hnd, hx]
  exact hk
theorem wpIn_entered {o : Oper} {K : Act → World → Prop} {f : FuncId} {args : Array Value} {R : Value → World → Prop} (hW : Wd F) (hnd : ∀ c, o.op ≠ .defer c) (hx : (execOp a.eval o).run P w = .ok (.enter f args) w')
    (hc : CallsIn F (n - 1) P f args w' fun e w'' => ∃ v, e = .returned v ∧ R v w'') (hk : ∀ v w'', R v w'' → K (a.put o.dst v) w'') : o.wpIn F n P a w K Q := by
  refine ⟨fun f _ => hW.fn f, ?_⟩
  rw [Oper.semAt_eq _ _ _ hnd, hx]
  exact ⟨hW.deep n, hc.mono (fun e w'' ⟨v, he, hr⟩ => by subst he; exact hk v w'' hr)⟩

/-- An operation that yields a value. -/
def Xv (P : Program) (m : Nat) (D : List Deferred) (L : Env) (op : Op) (ty : TypeId) (w : World) (v : Value) (w' : World) : Prop :=
  (∀ c, op ≠ .defer c) ∧ ∀ (d : Option Tmp) (pos : String) (af : Array Edge) (g : Option (Nat × Bool)) a, Fr m D a L → (execOp a.eval ⟨d, op, ty, pos, af, g⟩).run P w = .ok (.value v) w'
/-- An operation that yields none. -/
def Xs (P : Program) (m : Nat) (D : List Deferred) (L : Env) (op : Op) (ty : TypeId) (w : World) (w' : World) : Prop :=
  (∀ c, op ≠ .defer c) ∧ ∀ (d : Option Tmp) (pos : String) (af : Array Edge) (g : Option (Nat × Bool)) a, Fr m D a L → (execOp a.eval ⟨d, op, ty, pos, af, g⟩).run P w = .ok .skip w'
/-- An operation that calls. -/
def Xc (P : Program) (m : Nat) (D : List Deferred) (L : Env) (op : Op) (ty : TypeId) (w : World) (f : FuncId) (args : Array Value) (w' : World) : Prop :=
  (∀ c, op ≠ .defer c) ∧ ∀ (d : Option Tmp) (pos : String) (af : Array Edge) (g : Option (Nat × Bool)) a, Fr m D a L → (execOp a.eval ⟨d, op, ty, pos, af, g⟩).run P w = .ok (.enter f args) w'

theorem wl_val {op : Op} (hW : Wd F) (hg : wants L ops g = some true) (hd : Nat.blt d m = true) (hx : Xv P m D L op ty w v w') (k : WL F n P Q m D ops rest ((d, v) :: L) w') :
    WL F n P Q m D ops (⟨some d, op, ty, pos, af, g⟩ :: rest) L w := fun a h => by
  unfold wpListIn
  rw [if_pos (h.wanted (o := ⟨some d, op, ty, pos, af, g⟩) hg)]
  exact wpIn_value hW hx.1 (hx.2 _ _ _ _ a h) (k _ (h.put hd))
theorem wl_none {op : Op} (hW : Wd F) (hg : wants L ops g = some true) (hx : Xs P m D L op ty w w') (k : WL F n P Q m D ops rest L w') :
    WL F n P Q m D ops (⟨none, op, ty, pos, af, g⟩ :: rest) L w := fun a h => by
  unfold wpListIn
  rw [if_pos (h.wanted (o := ⟨none, op, ty, pos, af, g⟩) hg)]
  exact wpIn_skipped hW hx.1 (hx.2 _ _ _ _ a h) (k _ h)
theorem wl_valnone {op : Op} (hW : Wd F) (hg : wants L ops g = some true) (hx : Xv P m D L op ty w v w') (k : WL F n P Q m D ops rest L w') :
    WL F n P Q m D ops (⟨none, op, ty, pos, af, g⟩ :: rest) L w := fun a h => by
  unfold wpListIn
  rw [if_pos (h.wanted (o := ⟨none, op, ty, pos, af, g⟩) hg)]
  exact wpIn_value hW hx.1 (hx.2 _ _ _ _ a h) (k _ h)
theorem wl_off {op : Op} (hW : Wd F) (hg : wants L ops g = some false) (hd : Nat.blt d m = true) (k : WL F n P Q m D ops rest ((d, undef) :: L) w) :
    WL F n P Q m D ops (⟨some d, op, ty, pos, af, g⟩ :: rest) L w := fun a h => by
  unfold wpListIn
  rw [if_neg (by rw [h.wanted (o := ⟨some d, op, ty, pos, af, g⟩) hg]; simp)]
  exact ⟨fun f _ => hW.fn f, k _ (h.put hd)⟩
theorem wl_call {op : Op} {f : FuncId} {args : Array Value} {R : Value → World → Prop} (hW : Wd F) (hg : wants L ops g = some true) (hd : Nat.blt d m = true) (hx : Xc P m D L op ty w f args w)
    (hc : CallsIn F (n - 1) P f args w fun e w'' => ∃ v, e = .returned v ∧ R v w'') (k : ∀ v w'', R v w'' → WL F n P Q m D ops rest ((d, v) :: L) w'') :
    WL F n P Q m D ops (⟨some d, op, ty, pos, af, g⟩ :: rest) L w := fun a h => by
  unfold wpListIn
  rw [if_pos (h.wanted (o := ⟨some d, op, ty, pos, af, g⟩) hg)]
  exact wpIn_entered hW hx.1 (hx.2 _ _ _ _ a h) hc (fun v w'' hr => k v w'' hr _ (h.put hd))
/-- What a call comes to: it returns, and R. -/
def Rt (P : Program) (f : FuncId) (args : List Value) (w : World) (R : Value → World → Prop) : Prop := Calls P f args.toArray w fun e w' => ∃ v, e = .returned v ∧ R v w'
theorem Rt.mono {f : FuncId} {args : List Value} {R R' : Value → World → Prop} (h : Rt P f args w R) (hr : ∀ v w', R v w' → R' v w') : Rt P f args w R' :=
  Calls.mono h (fun e w' ⟨v, he, hv⟩ => ⟨v, he, hr v w' hv⟩)
theorem Rt.inF {f : FuncId} {args : List Value} {R : Value → World → Prop} (hW : F = Fence.wide ∨ ∃ l, F = Fence.wide.inRound l) (h : Rt P f args w R) : CallsIn F n P f args.toArray w fun e w' => ∃ v, e = .returned v ∧ R v w' := by
  rcases hW with rfl | ⟨l, rfl⟩
  · exact callsIn_wide.2 h
  · exact CallsIn.inRound l (callsIn_wide.2 h)

def env0 (i : Nat) : List Value → Env
  | [] => []
  | v :: l => (i, v) :: env0 (i + 1) l
theorem at_env0 : ∀ (l : List Value) (i j : Nat) (v : Value), at' (env0 i l) j = some v → i ≤ j ∧ l[j - i]? = some v
  | [], i, j, v, h => by cases h
  | u :: l, i, j, v, h => by
    simp only [env0, at'] at h
    cases hb : Nat.beq i j with
    | true => have e := Nat.eq_of_beq_eq_true hb; subst e; simp [hb] at h; subst h; exact ⟨Nat.le_refl _, by simp⟩
    | false =>
      simp [hb] at h
      obtain ⟨h1, h2⟩ := at_env0 l (i + 1) j v h
      refine ⟨by omega, ?_⟩
      have : j - i = (j - (i + 1)) + 1 := by omega
      rw [this, List.getElem?_cons_succ]; exact h2
theorem fr_enter {fn : Func} {args : List Value} (hm : fn.ntmps = m) (hl : Nat.ble args.length m = true) : Fr m [] { tmps := args.toArray ++ Array.replicate (fn.ntmps - args.toArray.size) undef, defers := [] } (env0 0 args) := by
  have hl' : args.length ≤ m := by simpa using hl
  refine ⟨by simp [hm]; omega, rfl, fun i v hi => ?_⟩
  obtain ⟨-, h2⟩ := at_env0 args 0 i v hi
  have h3 : args[i]? = some v := by simpa using h2
  have hlt : i < args.length := (List.getElem?_eq_some_iff.1 h3).1
  rw [Array.getElem?_append_left (by simpa using hlt)]
  simpa using h3

def ok1 (R : Value → World → Prop) : Ending → World → Prop := fun e w' => ∃ v, e = .returned v ∧ R v w'
theorem rt_body {f : FuncId} {fn : Func} {c : Code} {args : List Value} {R : Value → World → Prop} (hf : P.funcs[f]? = some fn) (hb : fn.body = some c) (hm : fn.ntmps = m) (hl : Nat.ble args.length m = true)
    (k : WC Fence.wide 9 P (bodyPostM Fence.wide 9 P fn (ok1 R)) m [] c (env0 0 args) w) : Rt P f args w R := by
  refine (callsIn_wide (n := 9)).1 ?_
  exact callsIn_of_wp_marks hf hb trivial (k _ (fr_enter hm hl)) rfl

/-- Where the results lie. -/
def Res (P : Program) (fn : Func) (m : Nat) (D : List Deferred) (L : Env) (w : World) (v : Value) : Prop := ∀ a, Fr m D a L → (results fn a.tmps).run P w = .ok v w
theorem ends_ret {fn : Func} {R : Value → World → Prop} (hr : Res P fn m [] L w v) (k : R v w) : NX (bodyPostM F n P fn (ok1 R)) m [] .ret L w := fun a h => by
  show LeavesInM F n P fn a.tmps _ a.defers .returning w
  rw [h.defers]
  exact ⟨v, hr a h, v, rfl, k⟩
theorem ends_normal {fn : Func} {R : Value → World → Prop} (hr : Res P fn m [] L w v) (k : R v w) : NX (bodyPostM F n P fn (ok1 R)) m [] .normal L w := ends_ret (F := F) (n := n) hr k
def mark (B : Nat) : Deferred := { target := .collected B, args := #[] }
theorem ends_ret_mark {fn : Func} {R : Value → World → Prop} {B : Nat} (hB : w.heap[B]? = some (.deferred (some []))) (hr : Res P fn m [mark B] L (w.putObj B (.deferred none)) v) (k : R v (w.putObj B (.deferred none))) :
    NX (bodyPostM F n P fn (ok1 R)) m [mark B] .ret L w := fun a h => by
  show LeavesInM F n P fn a.tmps _ a.defers .returning w
  rw [h.defers]
  exact ⟨by simp, .inl ⟨B, _, rfl, run_takeDeferred hB, v, hr a h, v, rfl, k⟩⟩
theorem res_none {fn : Func} (hr : fn.results = #[]) : Res P fn m D L w (.tuple #[]) := fun a h => results_none hr _ _ _
theorem Fr.getD (h : Fr m D a L) {t : Nat} (hv : at' L t = some v) : a.tmps.getD t undef = v := h.ev (x := .tmp t) hv
theorem res_tmp {fn : Func} {t : Tmp} (hr : fn.results = #[.tmp t]) (hv : at' L t = some v) : Res P fn m D L w v := fun a h => by rw [results_tmp hr, h.getD hv]
theorem res_tmp2 {fn : Func} {t u : Tmp} {v1 v2 : Value} (hr : fn.results = #[.tmp t, .tmp u]) (h1 : at' L t = some v1) (h2 : at' L u = some v2) : Res P fn m D L w (.tuple #[v1, v2]) := fun a h => by
  rw [results_tmp2 hr, h.getD h1, h.getD h2]
theorem res_cell {fn : Func} {t : Tmp} {T : TypeId} {ad : Addr} (hr : fn.results = #[.cell t T]) (h1 : at' L t = some (.pointer (some ad))) (hl : (loadVar T ad).run P w = .ok v w) : Res P fn m D L w v := fun a h => by
  have := h.getD h1
  simp only [Array.getD_eq_getD_getElem?] at this
  simp [results, hr, this, asAddr, hl]
theorem res_cell_tmp {fn : Func} {t u : Tmp} {T : TypeId} {ad : Addr} {v1 v2 : Value} (hr : fn.results = #[.cell t T, .tmp u]) (h1 : at' L t = some (.pointer (some ad))) (hl : (loadVar T ad).run P w = .ok v1 w) (h2 : at' L u = some v2) : Res P fn m D L w (.tuple #[v1, v2]) := fun a h => by
  have e1 := h.getD h1
  have e2 := h.getD h2
  simp only [Array.getD_eq_getD_getElem?] at e1 e2
  simp [results, hr, e1, e2, asAddr, hl]
theorem wl_yield {l : Nat} {fo : Operand} {xs : List Operand} {vs : List Value} {at_ : Array TypeId} {R : Value → World → Prop} (hW : Wd F) (hg : wants L ops g = some true) (hd : Nat.blt d m = true)
    (hf : ev L fo = some (.func (.yield l) #[] #[])) (ha : evs L xs = some vs) (hY : YieldAt F (n - 1) P l vs.toArray w (ok1 R)) (k : ∀ v w'', R v w'' → WL F n P Q m D ops rest ((d, v) :: L) w'') :
    WL F n P Q m D ops (⟨some d, .call ⟨.value fo, xs.toArray, at_⟩, ty, pos, af, g⟩ :: rest) L w := fun a h => by
  unfold wpListIn
  rw [if_pos (h.wanted (o := ⟨some d, .call ⟨.value fo, xs.toArray, at_⟩, ty, pos, af, g⟩) hg)]
  obtain ⟨fn, tmps, assign, body, hy, hR⟩ := hY
  refine ⟨fun f _ => hW.fn f, ?_⟩
  rw [Oper.semAt_eq _ _ _ (by intro c h; cases h)]
  have hx : (execOp a.eval ⟨some d, .call ⟨.value fo, xs.toArray, at_⟩, ty, pos, af, g⟩).run P w = .ok (.round l fn tmps assign body) w := by
    have h2 := h.evs ha
    have h1 := h.ev hf
    simp only [execOp, resolve, h1, h2]
    simpa [Deferred.ofValue, invoke, Sem.run_bind] using hy
  rw [hx]
  exact ⟨hW.deep n, hR.mono (fun e w'' ⟨v, he, hr⟩ => by subst he; exact k v w'' hr _ (h.put hd))⟩
end
end Go.Proofs.Ytblbddamebbgaaa.K

/- My own walking rules (part 2): each kind of operation, and what it leaves of memory. No program is named here. -/
namespace Go.Proofs.Ytblbddamebbgaaa.K
open Go Go.RowKit
set_option linter.unusedVariables false
set_option linter.unusedSectionVars false
set_option linter.unusedSimpArgs false

/-- The blocks of S are as they were. -/
structure Keep (S : Nat → Prop) (w w' : World) : Prop where
  os : w'.os = w.os
  tape : w'.tape = w.tape
  output : w'.output = w.output
  size : w.heap.size ≤ w'.heap.size
  block : ∀ k, k < w.heap.size → S k → w'.heap[k]? = w.heap[k]?
/-- All that was there is as it was. -/
abbrev Ext (w w' : World) : Prop := Keep (fun _ => True) w w'
theorem Keep.refl (S : Nat → Prop) (w : World) : Keep S w w := ⟨rfl, rfl, rfl, Nat.le_refl _, fun _ _ _ => rfl⟩
theorem Keep.trans {S : Nat → Prop} {a b c : World} (h : Keep S a b) (k : Keep S b c) : Keep S a c :=
  ⟨k.os.trans h.os, k.tape.trans h.tape, k.output.trans h.output, Nat.le_trans h.size k.size, fun i hi hs => (k.block i (Nat.lt_of_lt_of_le hi h.size) hs).trans (h.block i hi hs)⟩
theorem Keep.mono {S S' : Nat → Prop} {w w' : World} (h : Keep S w w') (hs : ∀ k, k < w.heap.size → S' k → S k) : Keep S' w w' := ⟨h.os, h.tape, h.output, h.size, fun k hk hk' => h.block k hk (hs k hk hk')⟩
theorem Keep.of_ext {S : Nat → Prop} {w w' : World} (h : Ext w w') : Keep S w w' := h.mono fun _ _ _ => trivial
theorem Keep.below {S : Nat → Prop} {w w' : World} (h : Keep S w w') {B : Nat} (hB : B ≤ w.heap.size) (hs : ∀ k, k < B → S k) : Below B w w' :=
  ⟨h.os, h.tape, h.output, h.size, fun k hk => h.block k (by omega) (hs k hk)⟩
theorem Ext.below {w w' : World} (h : Ext w w') : Below w.heap.size w w' := Keep.below h (Nat.le_refl _) fun _ _ => trivial
theorem Ext.of_below {w w' : World} (h : Below w.heap.size w w') : Ext w w' := ⟨h.os, h.tape, h.output, h.size, fun k hk _ => h.block k hk⟩
theorem Keep.grown {w w' : World} {row : Option Nat} (h : w.grownBy w' row) : Keep (fun k => some k ≠ row) w w' := ⟨h.os, h.tape, h.output, h.size, fun k hk hs => h.block k hk hs⟩
theorem ext_drew (w : World) : Ext w w.drew := ⟨rfl, rfl, rfl, Nat.le_refl _, fun _ _ _ => rfl⟩
theorem ext_alloc (w : World) (o : Obj) : Ext w (w.alloc o) := Ext.of_below ((Below.refl _ w).alloc (Nat.le_refl _) o)
theorem Keep.cell {S : Nat → Prop} {w w' : World} (h : Keep S w w') {ad : Addr} {v : Value} (hc : w.cell? ad = some v) (hs : S ad.block) : w'.cell? ad = some v :=
  (World.cell?_of_block (w := w) (h.block _ (World.block_lt_of_cell? w _ hc) hs)).trans hc
theorem Ext.cell {w w' : World} (h : Ext w w') {ad : Addr} {v : Value} (hc : w.cell? ad = some v) : w'.cell? ad = some v := Keep.cell h hc trivial

theorem Keep.store {w0 w w' : World} {b : Nat} (h : Ext w0 w) (hk : Keep (· ≠ b) w w') (hb : w0.heap.size ≤ b) : Ext w0 w' :=
  ⟨hk.os.trans h.os, hk.tape.trans h.tape, hk.output.trans h.output, Nat.le_trans h.size hk.size, fun k hk' _ => (hk.block k (Nat.lt_of_lt_of_le hk' h.size) (by omega)).trans (h.block k hk' trivial)⟩
/-- A step that turns one row of the call's own. -/
theorem Keep.rowed {w0 w w' : World} {row : Option Nat} (h : Ext w0 w) (hk : Keep (fun k => some k ≠ row) w w') (hb : ∀ b, row = some b → w0.heap.size ≤ b) : Ext w0 w' :=
  ⟨hk.os.trans h.os, hk.tape.trans h.tape, hk.output.trans h.output, Nat.le_trans h.size hk.size, fun k hk' _ => (hk.block k (Nat.lt_of_lt_of_le hk' h.size) (fun e => by have := hb k e.symm; omega)).trans (h.block k hk' trivial)⟩
/-- Block b: cells cs, of type t, not frozen. -/
def Blk (w : World) (b : Nat) (cs : List Value) (t : TypeId) : Prop := w.heap[b]? = some (.cells cs.toArray t (0, 0))
section
variable {w w' : World} {b o : Nat} {cs : List Value} {t : TypeId} {v u : Value}
theorem Blk.lt (h : Blk w b cs t) : b < w.heap.size := (Array.getElem?_eq_some_iff.1 h).1
theorem Blk.keep {S : Nat → Prop} (h : Blk w b cs t) (hk : Keep S w w') (hs : S b) : Blk w' b cs t := (hk.block b h.lt hs).trans h
theorem Blk.ext (h : Blk w b cs t) (hk : Ext w w') : Blk w' b cs t := h.keep hk trivial
theorem Blk.cell (h : Blk w b cs t) (hc : cs[o]? = some v) : w.cell? ⟨b, o, none⟩ = some v := by
  rw [cell_of_row w b o _ t (0, 0) h]; simpa using hc
theorem Blk.free (h : Blk w b cs t) : w.frozen? ⟨b, o, none⟩ = false := frozen_of_row w b o _ t h
theorem blk_new (w : World) (cs : List Value) (t : TypeId) : Blk (w.alloc (.cells cs.toArray t)) w.heap.size cs t := heap_alloc_new w _
theorem Blk.set (h : Blk w b cs t) (o : Nat) (v : Value) : Blk (w.setCell ⟨b, o, none⟩ v) b (cs.set o v) t := by
  have := heap_setCell_same w b o cs.toArray t v h
  unfold Blk; rw [this]; simp
theorem keep_set (w : World) (b o : Nat) (v : Value) : Keep (· ≠ b) w (w.setCell ⟨b, o, none⟩ v) :=
  ⟨rfl, rfl, rfl, by simp, fun k _ hk => heap_setCell_other w ⟨b, o, none⟩ k v hk⟩
end
theorem add_mk (b o j : Nat) : (⟨b, o, none⟩ : Addr).add j = ⟨b, o + j, none⟩ := by unfold Addr.add; split <;> simp_all

def Flat (P : Program) (t : TypeId) : Prop := ∀ w, (isAgg t).run P w = .ok false w ∧ (sizeOf t).run P w = .ok 1 w
def Agg (P : Program) (t : TypeId) (k : Nat) : Prop := ∀ w, (isAgg t).run P w = .ok true w ∧ (sizeOf t).run P w = .ok k w
def Siz (P : Program) (t : TypeId) (k : Nat) : Prop := ∀ w, (sizeOf t).run P w = .ok k w
section
variable {P : Program} {t : TypeId} {k : Nat}
theorem siz_of (hi : (P.info? t).map (·.size) = some k) : Siz P t k := fun w => by
  cases hq : P.info? t with
  | none => simp [hq] at hi
  | some i => simp [hq] at hi; simp [sizeOf, typeInfo, hq, hi]
theorem flat_of {d : TypeDesc} (hu : P.underlying t = some d) (hd : (match d with | .struct _ | .array _ _ => true | _ => false) = false) (hi : (P.info? t).map (·.size) = some 1) : Flat P t := fun w => by
  refine ⟨?_, siz_of hi w⟩
  unfold isAgg
  rw [Sem.run_bind, run_underlying hu w]
  cases d <;> simp_all
theorem agg_of {d : TypeDesc} (hu : P.underlying t = some d) (hd : (match d with | .struct _ | .array _ _ => true | _ => false) = true) (hi : (P.info? t).map (·.size) = some k) : Agg P t k := fun w => by
  refine ⟨?_, siz_of hi w⟩
  unfold isAgg
  rw [Sem.run_bind, run_underlying hu w]
  cases d <;> simp_all
theorem Flat.siz (h : Flat P t) : Siz P t 1 := fun w => (h w).2
theorem Agg.siz (h : Agg P t k) : Siz P t k := fun w => (h w).2
end

section
variable {P : Program} {m : Nat} {D : List Deferred} {L : Env} {w w' : World} {ty t e : TypeId} {x y z : Operand} {v u : Value} {k : Nat}
theorem x_move (hx : ev L x = some v) : Xv P m D L (.move x) ty w v w := ⟨nofun, fun _ _ _ _ a h => by simp [execOp, h.ev hx]⟩
theorem x_assign (hx : ev L x = some v) : Xv P m D L (.assign x) ty w v w := ⟨nofun, fun _ _ _ _ a h => by simp [execOp, h.ev hx]⟩
theorem x_pickT (hc : ev L z = some (.bool true)) (hx : ev L x = some u) : Xv P m D L (.pick z x y) ty w u w :=
  ⟨nofun, fun _ _ _ _ a h => by simp [execOp, h.ev hc, h.ev hx, asBool]⟩
theorem x_pickF (hc : ev L z = some (.bool false)) (hx : ev L y = some u) : Xv P m D L (.pick z x y) ty w u w :=
  ⟨nofun, fun _ _ _ _ a h => by simp [execOp, h.ev hc, h.ev hx, asBool]⟩
theorem x_not {b : Bool} (hx : ev L x = some (.bool b)) : Xv P m D L (.unOp .not t x) ty w (.bool (!b)) w :=
  ⟨nofun, fun _ _ _ _ a h => by simp [execOp, h.ev hx, Op.unary]⟩
theorem x_extract {vs : Array Value} {i : Nat} (hx : ev L x = some (.tuple vs)) (hi : vs[i]? = some v) : Xv P m D L (.extract x i) ty w v w :=
  ⟨nofun, fun _ _ _ _ a h => by simp [execOp, h.ev hx, Instr.extract, hi]⟩
section
variable {q : IntKind} {i j : Int} {t' : TypeId}
theorem x_lss (hx : ev L x = some (.int q i)) (hy : ev L y = some (.int q j)) : Xv P m D L (.binOp .lss t x y t') ty w (.bool (decide (i < j))) w :=
  ⟨nofun, fun _ _ _ _ a h => by simp [execOp, h.ev hx, h.ev hy, eqGuard, binOp, Op.intCmp]⟩
theorem x_leq (hx : ev L x = some (.int q i)) (hy : ev L y = some (.int q j)) : Xv P m D L (.binOp .leq t x y t') ty w (.bool (decide (i ≤ j))) w :=
  ⟨nofun, fun _ _ _ _ a h => by simp [execOp, h.ev hx, h.ev hy, eqGuard, binOp, Op.intCmp]⟩
theorem x_gtr (hx : ev L x = some (.int q i)) (hy : ev L y = some (.int q j)) : Xv P m D L (.binOp .gtr t x y t') ty w (.bool (decide (j < i))) w :=
  ⟨nofun, fun _ _ _ _ a h => by simp [execOp, h.ev hx, h.ev hy, eqGuard, binOp, Op.intCmp]⟩
theorem x_geq (hx : ev L x = some (.int q i)) (hy : ev L y = some (.int q j)) : Xv P m D L (.binOp .geq t x y t') ty w (.bool (decide (j ≤ i))) w :=
  ⟨nofun, fun _ _ _ _ a h => by simp [execOp, h.ev hx, h.ev hy, eqGuard, binOp, Op.intCmp]⟩
theorem x_eql (hx : ev L x = some (.int q i)) (hy : ev L y = some (.int q j)) : Xv P m D L (.binOp .eql t x y t') ty w (.bool (decide (i = j))) w :=
  ⟨nofun, fun _ _ _ _ a h => by simp [execOp, h.ev hx, h.ev hy, eqGuard, binOp, Op.intCmp]; rfl⟩
theorem x_neq (hx : ev L x = some (.int q i)) (hy : ev L y = some (.int q j)) : Xv P m D L (.binOp .neq t x y t') ty w (.bool (decide (i ≠ j))) w :=
  ⟨nofun, fun _ _ _ _ a h => by
    simp only [execOp, h.ev hx, h.ev hy]
    by_cases e : i = j <;> simp [eqGuard, binOp, Op.intCmp, e]⟩
theorem x_add {r : Int} (hx : ev L x = some (.int q i)) (hy : ev L y = some (.int q j)) (hr : q.wrap (i + j) = r) : Xv P m D L (.binOp .add t x y t') ty w (.int q r) w :=
  ⟨nofun, fun _ _ _ _ a h => by simp [execOp, h.ev hx, h.ev hy, eqGuard, binOp, Op.intArith, hr]⟩
theorem x_sub {r : Int} (hx : ev L x = some (.int q i)) (hy : ev L y = some (.int q j)) (hr : q.wrap (i - j) = r) : Xv P m D L (.binOp .sub t x y t') ty w (.int q r) w :=
  ⟨nofun, fun _ _ _ _ a h => by simp [execOp, h.ev hx, h.ev hy, eqGuard, binOp, Op.intArith, hr]⟩
theorem x_mul {r : Int} (hx : ev L x = some (.int q i)) (hy : ev L y = some (.int q j)) (hr : q.wrap (i * j) = r) : Xv P m D L (.binOp .mul t x y t') ty w (.int q r) w :=
  ⟨nofun, fun _ _ _ _ a h => by simp [execOp, h.ev hx, h.ev hy, eqGuard, binOp, Op.intArith, hr]⟩
theorem x_inc {s : Nat} (hx : ev L x = some (.int .i64 s)) (hs : s < 4611686018427387904) : Xv P m D L (.binOp .add t x (.const (.int .i64 1)) t') ty w (.int .i64 ((s + 1 : Nat) : Int)) w :=
  x_add hx rfl (by rw [IntWalk.i64_in _ (by omega)]; omega)
theorem x_decr {s : Nat} (hx : ev L x = some (.int .i64 ((s + 1 : Nat) : Int))) (hs : s < 4611686018427387904) : Xv P m D L (.binOp .sub t x (.const (.int .i64 1)) t') ty w (.int .i64 (s : Int)) w :=
  x_sub hx rfl (by rw [IntWalk.i64_in _ (by omega)]; omega)
theorem x_addn {i j : Nat} (hx : ev L x = some (.int .i64 i)) (hy : ev L y = some (.int .i64 j)) (h : i + j < 4611686018427387904) : Xv P m D L (.binOp .add t x y t') ty w (.int .i64 ((i + j : Nat) : Int)) w :=
  x_add hx hy (by rw [IntWalk.i64_in _ (by omega)]; omega)
theorem x_subn {i j : Nat} (hx : ev L x = some (.int .i64 i)) (hy : ev L y = some (.int .i64 j)) (h0 : j ≤ i) (h : i < 4611686018427387904) : Xv P m D L (.binOp .sub t x y t') ty w (.int .i64 ((i - j : Nat) : Int)) w :=
  x_sub hx hy (by rw [IntWalk.i64_in _ (by omega)]; omega)
theorem x_lssF (hx : ev L x = some (.int q i)) (hy : ev L y = some (.int q j)) (hr : ¬ i < j) : Xv P m D L (.binOp .lss t x y t') ty w (.bool false) w := by
  have := x_lss (P := P) (m := m) (D := D) (t := t) (t' := t') (ty := ty) (w := w) hx hy; rwa [decide_eq_false hr] at this
theorem x_gtrF (hx : ev L x = some (.int q i)) (hy : ev L y = some (.int q j)) (hr : ¬ j < i) : Xv P m D L (.binOp .gtr t x y t') ty w (.bool false) w := by
  have := x_gtr (P := P) (m := m) (D := D) (t := t) (t' := t') (ty := ty) (w := w) hx hy; rwa [decide_eq_false hr] at this
theorem x_geqF (hx : ev L x = some (.int q i)) (hy : ev L y = some (.int q j)) (hr : ¬ j ≤ i) : Xv P m D L (.binOp .geq t x y t') ty w (.bool false) w := by
  have := x_geq (P := P) (m := m) (D := D) (t := t) (t' := t') (ty := ty) (w := w) hx hy; rwa [decide_eq_false hr] at this
theorem x_eqlT (hx : ev L x = some (.int q i)) (hy : ev L y = some (.int q j)) (hr : i = j) : Xv P m D L (.binOp .eql t x y t') ty w (.bool true) w := by
  have := x_eql (P := P) (m := m) (D := D) (t := t) (t' := t') (ty := ty) (w := w) hx hy; rwa [decide_eq_true hr] at this
theorem x_neqF (hx : ev L x = some (.int q i)) (hy : ev L y = some (.int q j)) (hr : i = j) : Xv P m D L (.binOp .neq t x y t') ty w (.bool false) w := by
  have := x_neq (P := P) (m := m) (D := D) (t := t) (t' := t') (ty := ty) (w := w) hx hy; rwa [decide_eq_false (not_not_intro hr)] at this
end
section
variable {s r : ByteArray} {t' : TypeId}
theorem x_seql (hx : ev L x = some (.string s)) (hy : ev L y = some (.string r)) : Xv P m D L (.binOp .eql t x y t') ty w (.bool (s.toList == r.toList)) w :=
  ⟨nofun, fun _ _ _ _ a h => by simp [execOp, h.ev hx, h.ev hy, eqGuard, binOp, Op.stringOp]⟩
theorem x_sneq (hx : ev L x = some (.string s)) (hy : ev L y = some (.string r)) : Xv P m D L (.binOp .neq t x y t') ty w (.bool (!(s.toList == r.toList))) w :=
  ⟨nofun, fun _ _ _ _ a h => by simp [execOp, h.ev hx, h.ev hy, eqGuard, binOp, Op.stringOp]⟩
theorem x_slss (hx : ev L x = some (.string s)) (hy : ev L y = some (.string r)) : Xv P m D L (.binOp .lss t x y t') ty w (.bool (Op.bytesLess s.toList r.toList)) w :=
  ⟨nofun, fun _ _ _ _ a h => by simp [execOp, h.ev hx, h.ev hy, eqGuard, binOp, Op.stringOp]⟩
theorem x_sgtr (hx : ev L x = some (.string s)) (hy : ev L y = some (.string r)) : Xv P m D L (.binOp .gtr t x y t') ty w (.bool (!(Op.bytesLess s.toList r.toList || s.toList == r.toList))) w :=
  ⟨nofun, fun _ _ _ _ a h => by simp [execOp, h.ev hx, h.ev hy, eqGuard, binOp, Op.stringOp]⟩
theorem x_sleq (hx : ev L x = some (.string s)) (hy : ev L y = some (.string r)) : Xv P m D L (.binOp .leq t x y t') ty w (.bool (Op.bytesLess s.toList r.toList || s.toList == r.toList)) w :=
  ⟨nofun, fun _ _ _ _ a h => by simp [execOp, h.ev hx, h.ev hy, eqGuard, binOp, Op.stringOp]⟩
theorem x_beql {b c : Bool} (hx : ev L x = some (.bool b)) (hy : ev L y = some (.bool c)) (hu : P.underlying t = some .bool) : Xv P m D L (.binOp .eql t x y t') ty w (.bool (b == c)) w :=
  ⟨nofun, fun _ _ _ _ a h => by simp [execOp, h.ev hx, h.ev hy, eqGuard, run_eql_bool w t b c hu]⟩
end
theorem x_fieldAddr {fs : Array Field} {f : Field} {i b o : Nat} {k' : Nat} (hu : P.underlying t = some (.struct fs)) (hf : fs[i]? = some f) (hs : Siz P f.type (k' + 1)) (hx : ev L x = some (.pointer (some ⟨b, o, none⟩))) :
    Xv P m D L (.fieldAddr t x i) ty w (.pointer (some ⟨b, o + f.offset, none⟩)) w :=
  ⟨nofun, fun _ _ _ _ a h => by simp [execOp, h.ev hx, Instr.fieldAt, run_underlying hu, hf, Instr.sureAddr, fieldPlace, hs w, add_mk]⟩
theorem x_indexAddr {q : IntKind} {i : Int} {b o n c : Nat} (hu : P.underlying t = some (.slice e)) (hs : Siz P e k) (hx : ev L x = some (.slice (some ⟨b, o, none⟩) n c)) (hy : ev L y = some (.int q i)) (h0 : 0 ≤ i) (h1 : i < n) :
    Xv P m D L (.indexAddr t x y) ty w (.pointer (some ⟨b, o + i.toNat * k, none⟩)) w :=
  ⟨nofun, fun _ _ _ _ a h => by simp [execOp, h.ev hx, h.ev hy, Instr.indexAt, asIntOf, run_underlying hu, hs w, h0, h1, add_mk]⟩
theorem x_slice {q1 q2 q3 : IntKind} {lo hi mx : Option Operand} {vl vh vm : Option Value} {A : Option Addr} {n c l h' m' : Nat} (hu : P.underlying t = some (.slice e)) (hs : Siz P e k) (hx : ev L x = some (.slice A n c))
    (hl : ∀ a, Fr m D a L → lo.map a.eval = vl) (hh : ∀ a, Fr m D a L → hi.map a.eval = vh) (hm : ∀ a, Fr m D a L → mx.map a.eval = vm) (hb : (Instr.sliceBounds true n c vl vh vm).run P w = .ok (l, h', m') w) :
    Xv P m D L (.slice t x lo hi mx) ty w (.slice (if m' = l then A else A.map (·.add (l * k))) (h' - l) (m' - l)) w :=
  ⟨nofun, fun _ _ _ _ a h => by simp [execOp, h.ev hx, hl a h, hh a h, hm a h, Instr.sliceAt, Instr.slice, run_underlying hu, hb, hs w]⟩
theorem x_len {A : Option Addr} {n c : Nat} (hu : P.underlying t = some (.slice e)) (hx : ev L x = some (.slice A n c)) : Xv P m D L (.call ⟨.builtin .len, #[x], #[t]⟩) ty w (.int .i64 n) w :=
  ⟨nofun, fun _ _ _ _ a h => by simp [execOp, resolve, h.ev hx, invoke, builtin, Builtin.len_, run_underlying hu, goInt]⟩
theorem x_lens {s : ByteArray} (hu : P.underlying t = some .string) (hx : ev L x = some (.string s)) : Xv P m D L (.call ⟨.builtin .len, #[x], #[t]⟩) ty w (.int .i64 s.size) w :=
  ⟨nofun, fun _ _ _ _ a h => by simp [execOp, resolve, h.ev hx, invoke, builtin, Builtin.len_, run_underlying hu, goInt]⟩
theorem x_makeFunc {f : FuncId} {xs : List Operand} {vs : List Value} (hx : evs L xs = some vs) : Xv P m D L (.makeFunc (.func f) #[] xs.toArray) ty w (.func (.func f) #[] vs.toArray) w :=
  ⟨nofun, fun _ _ _ _ a h => by have := h.evs hx; simp only [execOp, this, Instr.makeFunc]; simp⟩
theorem x_load {ad : Addr} (hf : Flat P t) (hx : ev L x = some (.pointer (some ad))) (hc : w.cell? ad = some v) : Xv P m D L (.load t x) ty w v w :=
  ⟨nofun, fun _ _ _ _ a h => by simp [execOp, h.ev hx, Instr.loadAt, Instr.sureAddr, loadVar, (hf w).1, load, Sem.run, hc]⟩
def Cells (w : World) (b o : Nat) (cs : List Value) : Prop := ∀ j v, cs[j]? = some v → w.cell? ⟨b, o + j, none⟩ = some v
theorem run_loadVar_cells {b o : Nat} {cs : List Value} (ha : Agg P t k) (hc : Cells w b o cs) (hl : cs.length = k) : (loadVar t ⟨b, o, none⟩).run P w = .ok (.agg cs.toArray) w := by
  have hl' : (loadCells ⟨b, o, none⟩ cs.length).run P w = .ok cs.toArray w := run_loadCells_list (P := P) w ⟨b, o, none⟩ cs (fun j v hv => by rw [add_mk]; exact hc j v hv)
  simp [loadVar, (ha w).1, (ha w).2, ← hl, hl']
theorem x_loadA {b o : Nat} {cs : List Value} (ha : Agg P t k) (hx : ev L x = some (.pointer (some ⟨b, o, none⟩))) (hc : Cells w b o cs) (hl : cs.length = k) : Xv P m D L (.load t x) ty w (.agg cs.toArray) w :=
  ⟨nofun, fun _ _ _ _ a h => by simp [execOp, h.ev hx, Instr.loadAt, Instr.sureAddr, run_loadVar_cells ha hc hl]⟩
theorem Blk.cells {b : Nat} {cs : List Value} (h : Blk w b cs t) : Cells w b 0 cs := fun j v hv => by rw [Nat.zero_add]; exact h.cell hv

theorem x_call {f : FuncId} {xs : List Operand} {vs : List Value} {ts : Array TypeId} (he : Enters P f) (hx : evs L xs = some vs) : Xc P m D L (.call ⟨.value (.func f), xs.toArray, ts⟩) ty w f vs.toArray w :=
  ⟨nofun, fun _ _ _ _ a h => by
    have h1 := h.evs hx
    simp only [execOp, resolve, h1]
    simpa [Act.eval, Deferred.ofValue, invoke] using he vs.toArray w⟩
theorem x_callv {f : FuncId} {fo : Operand} {xs : List Operand} {vs cap : List Value} {ts : Array TypeId} (he : Enters P f) (hf : ev L fo = some (.func (.func f) #[] cap.toArray)) (hx : evs L xs = some vs) :
    Xc P m D L (.call ⟨.value fo, xs.toArray, ts⟩) ty w f (vs ++ cap).toArray w :=
  ⟨nofun, fun _ _ _ _ a h => by
    have h1 := h.evs hx
    have h2 := h.ev hf
    simp only [execOp, resolve, h1, h2]
    simpa [Deferred.ofValue, invoke] using he (vs ++ cap).toArray w⟩
end

section
variable {F : Fence} {n : Nat} {P : Program} {Q : Exit → Act → World → Prop} {m : Nat} {D : List Deferred} {L : Env} {w w' : World} {a : Act}
variable {ops : List Oper} {rest : List Oper} {d : Nat} {ty t e : TypeId} {pos : String} {af : Array Edge} {g : Option (Nat × Bool)} {v : Value} {x y : Operand}
theorem wl_alloc {cs : List Value} {z : Value} (hW : Wd F) (hg : wants L ops g = some true) (hd : Nat.blt d m = true) (hz : ∀ w, (zeroValue t).run P w = .ok z w) (hcs : z.cells = cs.toArray)
    (k : ∀ b w', w.heap.size ≤ b → Blk w' b cs t → Ext w w' → WL F n P Q m D ops rest ((d, .pointer (some ⟨b, 0, none⟩)) :: L) w') : WL F n P Q m D ops (⟨some d, .alloc t, ty, pos, af, g⟩ :: rest) L w :=
  wl_val hW hg hd ⟨nofun, fun _ _ _ _ a h => by
    simp only [execOp, Instr.alloc, Sem.run_bind, hz w, Result.andThen_ok, newVar, newRow, newObj, Sem.run, Sem.run_pure, hcs]
    rfl⟩ (k w.heap.size _ (Nat.le_refl _) (blk_new w cs t) (ext_alloc w _))
theorem wl_box {cs : List Value} (hW : Wd F) (hg : wants L ops g = some true) (hd : Nat.blt d m = true) (hx : ev L x = some v) (hcs : v.cells = cs.toArray)
    (k : ∀ b w', w.heap.size ≤ b → Blk w' b cs t → Ext w w' → WL F n P Q m D ops rest ((d, .pointer (some ⟨b, 0, none⟩)) :: L) w') : WL F n P Q m D ops (⟨some d, .box t x, ty, pos, af, g⟩ :: rest) L w :=
  wl_val hW hg hd ⟨nofun, fun _ _ _ _ a h => by
    simp only [execOp, h.ev hx, Instr.box, Sem.run_bind, newVar, newRow, newObj, Sem.run, Sem.run_pure, Result.andThen_ok, hcs]
    rfl⟩ (k w.heap.size _ (Nat.le_refl _) (blk_new w cs t) (ext_alloc w _))
/-- One cell of a block of the call's own is written. -/
theorem wl_store {b o : Nat} {cs : List Value} {T : TypeId} (hW : Wd F) (hg : wants L ops g = some true) (hf : Flat P t) (hx : ev L x = some (.pointer (some ⟨b, o, none⟩))) (hy : ev L y = some v) (h1 : v.oneCell' = true)
    (hB : Blk w b cs T) (ho' : Nat.blt o cs.length = true) (k : ∀ w', Blk w' b (cs.set o v) T → Keep (· ≠ b) w w' → WL F n P Q m D ops rest L w') : WL F n P Q m D ops (⟨none, .store t x y, ty, pos, af, g⟩ :: rest) L w := by
  have ho : o < cs.length := by simpa using ho'
  refine wl_none hW hg (w' := w.setCell ⟨b, o, none⟩ v) ⟨nofun, fun _ _ _ _ a h => ?_⟩ (k _ (hB.set o v) (keep_set w b o v))
  have hc : w.cell? ⟨b, o, none⟩ = some cs[o] := hB.cell (List.getElem?_eq_getElem ho)
  have hfz := hB.free (o := o)
  have hcs : v.cells = #[v] := by cases v <;> simp_all [Value.cells, Value.oneCell']
  have hst : (store (⟨b, o, none⟩ : Addr) v .plain).run P w = .ok () (w.setCell ⟨b, o, none⟩ v) := by
    cases v <;> simp_all [store, Sem.run, Value.oneCell']
  have ha : (⟨b, o, none⟩ : Addr).add 0 = ⟨b, o, none⟩ := by simp [Addr.add]
  simp [execOp, h.ev hx, h.ev hy, Instr.storeAt, Instr.sureAddr, storeVar, (hf w).2, hcs, storeCells, ha, hst]
theorem run_storeCells {T : TypeId} {b : Nat} : ∀ (new : List Value) (o i : Nat) (cs : List Value) (w : World), Blk w b cs T → o + i + new.length ≤ cs.length → (∀ u ∈ new, u.oneCell' = true) →
    ∃ w', (storeCells ⟨b, o, none⟩ new i).run P w = .ok () w' ∧ Blk w' b (cs.take (o + i) ++ new ++ cs.drop (o + i + new.length)) T ∧ Keep (· ≠ b) w w' ∧ w'.heap.size = w.heap.size
  | [], o, i, cs, w, hB, hl, _ => ⟨w, by simp [storeCells], by simpa using hB, Keep.refl _ _, rfl⟩
  | u :: new, o, i, cs, w, hB, hl, h1 => by
    simp only [List.length_cons] at hl
    have hu : u.oneCell' = true := h1 u (by simp)
    have hlt : o + i < cs.length := by omega
    have hc : w.cell? ⟨b, o + i, none⟩ = some cs[o + i] := hB.cell (List.getElem?_eq_getElem hlt)
    have hfz := hB.free (o := o + i)
    have hst : (store (⟨b, o + i, none⟩ : Addr) u .plain).run P w = .ok () (w.setCell ⟨b, o + i, none⟩ u) := by
      cases u <;> simp_all [store, Sem.run, Value.oneCell']
    obtain ⟨w', hr, hB', hk, hsz⟩ := run_storeCells new o (i + 1) (cs.set (o + i) u) (w.setCell ⟨b, o + i, none⟩ u) (hB.set (o + i) u) (by simp; omega) (fun x hx => h1 x (by simp [hx]))
    refine ⟨w', ?_, ?_, (keep_set w b (o + i) u).trans hk, by rw [hsz]; simp⟩
    · simp only [storeCells, Sem.run_bind, add_mk, hst, Result.andThen_ok, hr]
    · have e : cs.take (o + i) ++ (u :: new) ++ cs.drop (o + i + (new.length + 1)) = (cs.set (o + i) u).take (o + (i + 1)) ++ new ++ (cs.set (o + i) u).drop (o + (i + 1) + new.length) := by
        have e1 : (cs.set (o + i) u).take (o + (i + 1)) = cs.take (o + i) ++ [u] := by
          rw [show o + (i + 1) = (o + i) + 1 from by omega, List.take_succ_eq_append_getElem (by simpa using hlt)]
          simp [List.take_set_of_le]
        have e2 : (cs.set (o + i) u).drop (o + (i + 1) + new.length) = cs.drop (o + i + (new.length + 1)) := by
          rw [List.drop_set_of_lt (by omega)]; congr 1; omega
        rw [e1, e2]; simp
      rw [List.length_cons, e]; exact hB'
/-- Several cells of a block of the call's own are written. -/
theorem wl_storeA {b o k' : Nat} {cs new : List Value} {T : TypeId} (hW : Wd F) (hg : wants L ops g = some true) (ha : Agg P t k') (hx : ev L x = some (.pointer (some ⟨b, o, none⟩))) (hy : ev L y = some (.agg new.toArray)) (h1 : new.all Value.oneCell' = true)
    (hl : new.length = k') (hB : Blk w b cs T) (ho' : Nat.ble (o + new.length) cs.length = true) (k : ∀ w', Blk w' b (cs.take o ++ new ++ cs.drop (o + new.length)) T → Keep (· ≠ b) w w' → WL F n P Q m D ops rest L w') : WL F n P Q m D ops (⟨none, .store t x y, ty, pos, af, g⟩ :: rest) L w := by
  have ho : o + new.length ≤ cs.length := Nat.le_of_ble_eq_true ho'
  obtain ⟨w', hr, hB', hk, hsz⟩ := run_storeCells (P := P) new o 0 cs w hB (by omega) (List.all_eq_true.1 h1)
  refine wl_none hW hg (w' := w') ⟨nofun, fun _ _ _ _ a h => ?_⟩ (k _ hB' hk)
  simp [execOp, h.ev hx, h.ev hy, Instr.storeAt, Instr.sureAddr, storeVar, (ha w).2, Value.cells, hl, hr]
theorem x_nilEq {A : Option Addr} {nn c : Nat} {t' : TypeId} (hu : P.underlying t = some (.slice e)) (hx : ev L x = some (.slice A nn c)) (hy : ev L y = some (.slice none 0 0)) : Xv P m D L (.binOp .eql t x y t') ty w (.bool A.isNone) w :=
  ⟨nofun, fun _ _ _ _ a h => by
    have h1 : (binOp .eql t (.slice A nn c) (.slice none 0 0)).run P w = .ok (.bool A.isNone) w := by
      simp only [binOp]
      simp [Op.equal, Op.maxDepth, Lib.run_equalIn_slice_nil w 9999 t e A nn c 0 0 hu]
    simp [execOp, h.ev hx, h.ev hy, eqGuard, h1]⟩
theorem foldl_splice (off : Nat) : ∀ (new : List Value) (j : Nat) (cs : Array Value), off + j + new.length ≤ cs.size →
    ((new.zipIdx j).foldl (fun (cs : Array Value) (p : Value × Nat) => cs.setIfInBounds (off + p.2) p.1) cs).toList = cs.toList.take (off + j) ++ new ++ cs.toList.drop (off + j + new.length)
  | [], j, cs, _ => by simp
  | u :: new, j, cs, h => by
    simp only [List.length_cons] at h
    simp only [List.zipIdx_cons, List.foldl_cons]
    rw [foldl_splice off new (j + 1) _ (by simp; omega)]
    have hlt : off + j < cs.toList.length := by simp; omega
    rw [Array.toList_setIfInBounds]
    have e1 : (cs.toList.set (off + j) u).take (off + (j + 1)) = cs.toList.take (off + j) ++ [u] := by
      rw [show off + (j + 1) = (off + j) + 1 from by omega, List.take_succ_eq_append_getElem (by simpa using hlt)]
      simp [List.take_set_of_le]
    have e2 : (cs.toList.set (off + j) u).drop (off + (j + 1) + new.length) = cs.toList.drop (off + j + (new.length + 1)) := by
      rw [List.drop_set_of_lt (by omega)]; congr 1; omega
    rw [e1, e2]; simp
def allCells : List Value → List Value
  | [] => []
  | v :: vs => v.cells.toList ++ allCells vs
def withIdx : Nat → List Value → List (Nat × Value)
  | _, [] => []
  | i, v :: vs => (i, v) :: withIdx (i + 1) vs
theorem fill_all (sz : Nat) : ∀ (vs : List Value) (i : Nat) (pre suf : List Value), (∀ v ∈ vs, v.cells.size = sz) → pre.length = i * sz → suf.length = vs.length * sz →
    Instr.fill (fun i => some (i * sz, sz)) (pre ++ suf).toArray (withIdx i vs) = some (pre ++ allCells vs).toArray
  | [], i, pre, suf, _, _, hs => by
    have : suf = [] := List.eq_nil_of_length_eq_zero (by simpa using hs)
    subst this; rfl
  | v :: vs, i, pre, suf, hv, hp, hs => by
    have hsz : v.cells.size = sz := hv v (by simp)
    have hsl : sz ≤ suf.length := by rw [hs, List.length_cons]; exact Nat.le_mul_of_pos_left _ (by omega)
    simp only [withIdx, Instr.fill]
    rw [if_neg (by simp [hsz]; omega)]
    have hsp := foldl_splice (i * sz) v.cells.toList 0 (pre ++ suf).toArray (by simp [hsz]; omega)
    have e : (v.cells.zipIdx.foldl (fun cs x => cs.setIfInBounds (i * sz + x.2) x.1) (pre ++ suf).toArray) = (pre ++ v.cells.toList ++ suf.drop sz).toArray := by
      apply Array.ext'
      rw [← Array.foldl_toList, Array.toList_zipIdx]
      rw [hsp]
      simp only [Nat.add_zero, Array.length_toList, hsz, List.take_append_of_le_length (Nat.le_of_eq hp.symm), ← hp, List.take_length, List.drop_append]
      simp
    have e' : (v.cells.zipIdx.foldl (fun cs (x : Value × Nat) => match x with | (c, j) => cs.setIfInBounds (i * sz + j) c) (pre ++ suf).toArray) = (pre ++ v.cells.toList ++ suf.drop sz).toArray := e
    rw [e', fill_all sz vs (i + 1) (pre ++ v.cells.toList) (suf.drop sz) (fun u hu => hv u (by simp [hu])) (by simp [hp, hsz, Nat.add_mul]) (by simp [hs, Nat.add_mul])]
    simp [allCells]
/-- A slice literal. -/
theorem run_buildSlice {vs : List Value} {sz : Nat} (hu : P.underlying t = some (.slice e)) (hs : Siz P e sz) (hz : ∃ z, ∀ w, (zeroValue e).run P w = .ok z w) (hv : ∀ v ∈ vs, v.cells.size = sz) (hmax : vs.length * sz ≤ 16777216) :
    (Instr.buildSlice t vs.length (withIdx 0 vs).toArray).run P w = .ok (.slice (some ⟨w.heap.size, 0, none⟩) vs.length vs.length) (w.alloc (.cells (allCells vs).toArray e)) := by
  obtain ⟨z, hz⟩ := hz
  have hf : ∀ cs : Array Value, cs.size = vs.length * sz → Instr.fill (fun i => some (i * sz, sz)) cs (withIdx 0 vs) = some (allCells vs).toArray := fun cs hc => by
    have := fill_all sz vs 0 [] cs.toList hv (by simp) (by simpa using hc)
    simpa using this
  have hnot : ¬ vs.length * sz > 2 ^ 24 := by omega
  simp only [Instr.buildSlice, Sem.run_bind, run_underlying hu, Result.andThen_ok, hs w, if_neg hnot, Sem.run_pure]
  by_cases h0 : vs.length * sz = 0
  · rw [if_pos h0]
    have hf' := fun (zero : Array Value) => hf ((Array.range (vs.length * sz)).map fun x => zero[x % zero.size]!) (by simp)
    simp [hf', newRow, newObj, Sem.run_bind, Sem.run]
    try rfl
  · rw [if_neg h0]
    have hf' := fun (zero : Array Value) => hf ((Array.range (vs.length * sz)).map fun x => zero[x % zero.size]!) (by simp)
    simp [hz w, hf', newRow, newObj, Sem.run_bind, Sem.run]
    try rfl
def partsOk (L : Env) : Nat → List (Nat × Operand) → Option (List Value)
  | _, [] => some []
  | i, (j, x) :: l => if Nat.beq i j then match ev L x, partsOk L (i + 1) l with
      | some v, some vs => some (v :: vs)
      | _, _ => none
    else none
theorem parts_eq (h : Fr m D a L) : ∀ (l : List (Nat × Operand)) (i : Nat) (vs : List Value), partsOk L i l = some vs → l.map (fun p => (p.1, a.eval p.2)) = withIdx i vs
  | [], i, vs, he => by simp [partsOk] at he; subst he; rfl
  | (j, x) :: l, i, vs, he => by
    simp only [partsOk] at he
    split at he
    · rename_i hb
      split at he
      · rename_i v us h1 h2
        cases he
        have e := Nat.eq_of_beq_eq_true hb
        subst e
        simp only [List.map_cons, h.ev h1, parts_eq h l (i + 1) us h2, withIdx]
      · cases he
    · cases he
theorem x_buildSlice {vs : List Value} {sz len : Nat} {parts : List (Nat × Operand)} {z : Value} (hu : P.underlying t = some (.slice e)) (hs : Siz P e sz) (hz : ∀ w, (zeroValue e).run P w = .ok z w)
    (hp : partsOk L 0 parts = some vs) (hlen : vs.length = len) (hv : (vs.all fun v => Nat.beq v.cells.size sz) = true) (hmax : len * sz ≤ 16777216) :
    ∃ b w', Xv P m D L (.buildSlice t len parts.toArray) ty w (.slice (some ⟨b, 0, none⟩) len len) w' ∧ w.heap.size ≤ b ∧ Blk w' b (allCells vs) e ∧ Ext w w' := by
  subst hlen
  refine ⟨w.heap.size, _, ⟨nofun, fun dd pp aa gg a h => ?_⟩, Nat.le_refl _, blk_new w (allCells vs) e, ext_alloc w _⟩
  have e1 : (parts.toArray.map fun (p : Nat × Operand) => (p.1, a.eval p.2)) = (withIdx 0 vs).toArray := by rw [List.map_toArray, parts_eq h parts 0 vs hp]
  have hr := run_buildSlice (P := P) (w := w) (vs := vs) hu hs ⟨z, hz⟩ (fun v hv' => Nat.eq_of_beq_eq_true (List.all_eq_true.1 hv v hv')) hmax
  have e2 : execOp a.eval ⟨dd, .buildSlice t vs.length parts.toArray, ty, pp, aa, gg⟩ = (do pure (Next.value (← Instr.buildSlice t vs.length (parts.toArray.map fun (p : Nat × Operand) => (p.1, a.eval p.2))))) := rfl
  rw [e2, e1]
  simp [Sem.run_bind, hr]
theorem wl_buildSlice {vs : List Value} {sz len : Nat} {parts : List (Nat × Operand)} {z : Value} (hW : Wd F) (hg : wants L ops g = some true) (hd : Nat.blt d m = true) (hu : P.underlying t = some (.slice e)) (hs : Siz P e sz) (hz : ∀ w, (zeroValue e).run P w = .ok z w)
    (hp : partsOk L 0 parts = some vs) (hlen : vs.length = len) (hv : (vs.all fun v => Nat.beq v.cells.size sz) = true) (hmax : len * sz ≤ 16777216)
    (k : ∀ b w', w.heap.size ≤ b → Blk w' b (allCells vs) e → Ext w w' → WL F n P Q m D ops rest ((d, .slice (some ⟨b, 0, none⟩) len len) :: L) w') : WL F n P Q m D ops (⟨some d, .buildSlice t len parts.toArray, ty, pos, af, g⟩ :: rest) L w := by
  subst hlen
  refine wl_val hW hg hd ⟨nofun, fun dd pp aa gg a h => ?_⟩ (k w.heap.size _ (Nat.le_refl _) (blk_new w (allCells vs) e) (ext_alloc w _))
  have e1 : (parts.toArray.map fun (p : Nat × Operand) => (p.1, a.eval p.2)) = (withIdx 0 vs).toArray := by rw [List.map_toArray, parts_eq h parts 0 vs hp]
  have hr := run_buildSlice (P := P) (w := w) (vs := vs) hu hs ⟨z, hz⟩ (fun v hv' => Nat.eq_of_beq_eq_true (List.all_eq_true.1 hv v hv')) hmax
  have e2 : execOp a.eval ⟨dd, .buildSlice t vs.length parts.toArray, ty, pp, aa, gg⟩ = (do pure (Next.value (← Instr.buildSlice t vs.length (parts.toArray.map fun (p : Nat × Operand) => (p.1, a.eval p.2))))) := rfl
  rw [e2, e1]
  simp [Sem.run_bind, hr]
/-- A struct of one-cell fields is built. -/
theorem x_build {fs : Array Field} {parts : List (Nat × Operand)} {pv : List (Nat × Value)} {z : Value} {cs : Array Value} (hu : P.underlying t = some (.struct fs)) (hz : ∀ w, (zeroValue t).run P w = .ok z w)
    (hp : ∀ a, Fr m D a L → parts.map (fun p => (p.1, a.eval p.2)) = pv) (hr : ∀ w, (Instr.build t pv.toArray).run P w = .ok (.agg cs) w) : Xv P m D L (.build t parts.toArray) ty w (.agg cs) w :=
  ⟨nofun, fun _ _ _ _ a h => by
    have e : (parts.toArray.map fun (i, x) => (i, a.eval x)) = pv.toArray := by rw [List.map_toArray, ← hp a h]
    simp only [execOp, e]
    simp [hr w]⟩
end
end Go.Proofs.Ytblbddamebbgaaa.K

/- My own walking rules (part 3): a region that draws its order: a first part whose operations may come in any order, and a tail whose order is forced. No program is named here. -/
namespace Go.Proofs.Ytblbddamebbgaaa.K
open Go Go.RowKit
set_option linter.unusedVariables false
set_option linter.unusedSectionVars false
set_option linter.unusedSimpArgs false

def needsL (o : Oper) : List Nat := (o.after.toList.filter (fun e => Region.binds .any e)).map (·.on)
/-- What comes before what, as bits. -/
def mk (acc : List Nat) (l : List Nat) : Nat := l.foldl (fun s j => s ||| (2 ^ j ||| acc.getD j 0)) 0
def masks : List Oper → List Nat → List Nat
  | [], acc => acc
  | o :: rest, acc => masks rest (acc ++ [mk acc (needsL o)])
def isTmp : Operand → Option Tmp
  | .tmp t => some t
  | _ => none
/-- The slots that an operation looks at. -/
def looks (ops : List Oper) (o : Oper) : List Tmp :=
  o.op.operands.toList.filterMap isTmp ++ (match o.guard with
   | some (j, _) => match gdst ops j with
     | some d => [d]
     | none => []
   | none => [])
def plainOp : Op → Bool
  | .select .. | .defer .. => false
  | _ => true
def dstsOk : List Oper → Bool
  | [] => true
  | o :: rest => (match o.dst with
    | some d => rest.all fun o' => o'.dst != some d
    | none => true) && dstsOk rest
def needsAt (ops : List Oper) (i : Nat) : List Nat := match ops[i]? with
  | some o => needsL o
  | none => []
/-- The first N may come in any order; behind them the order is forced. -/
def freeOk (ops : List Oper) (N : Nat) : Bool :=
  ((List.range ops.length).all fun i => (needsAt ops i).all fun j => Nat.blt j i) &&
  dstsOk (ops.take N) &&
  ((List.range N).all fun i => match ops[i]? with
    | some o => plainOp o.op && (looks ops o).all fun s => (List.range N).all fun j => gdst ops j != some s || (needsL o).contains j || (needsAt ops j).contains i
    | none => false) &&
  (let ms := masks ops []
   (List.range ops.length).all fun t => Nat.blt t N || (List.range t).all fun j => (ms.getD t 0).testBit j)

section masks
variable {ops : List Oper}
def PC (ops : List Oper) (ls : Nat → Bool) : Prop := ∀ i o, ops[i]? = some o → ls i = true → ∀ j ∈ needsL o, ls j = true
def Cl (ops : List Oper) (i mask : Nat) : Prop := ∀ ls : Nat → Bool, PC ops ls → (∀ o, ops[i]? = some o → ∀ j ∈ needsL o, ls j = true) → ∀ j, mask.testBit j = true → ls j = true
theorem mk_bit (acc : List Nat) (j : Nat) : ∀ (l : List Nat) (s : Nat), (l.foldl (fun s j => s ||| (2 ^ j ||| acc.getD j 0)) s).testBit j = true → s.testBit j = true ∨ ∃ i ∈ l, i = j ∨ (acc.getD i 0).testBit j = true
  | [], s, h => .inl h
  | i :: l, s, h => by
    rcases mk_bit acc j l _ h with h | ⟨i', hi', h⟩
    · rw [Nat.testBit_or, Nat.testBit_or, Bool.or_eq_true, Bool.or_eq_true] at h
      rcases h with h | h | h
      · exact .inl h
      · rw [Nat.testBit_two_pow] at h
        exact .inr ⟨i, by simp, .inl (by simpa using h)⟩
      · exact .inr ⟨i, by simp, .inr h⟩
    · exact .inr ⟨i', by simp [hi'], h⟩
theorem masks_ok : ∀ (rest : List Oper) (acc : List Nat) (pre : List Oper), ops = pre ++ rest → pre.length = acc.length → (∀ i, i < acc.length → Cl ops i (acc.getD i 0)) →
    ∀ i, i < ops.length → Cl ops i ((masks rest acc).getD i 0)
  | [], acc, pre, he, hl, hc, i, hi => hc i (by rw [he] at hi; simp at hi; omega)
  | o :: rest, acc, pre, he, hl, hc, i, hi => by
    refine masks_ok rest (acc ++ [mk acc (needsL o)]) (pre ++ [o]) (by simp [he]) (by simp [hl]) (fun i hi' => ?_) i hi
    by_cases hlt : i < acc.length
    · have : (acc ++ [mk acc (needsL o)]).getD i 0 = acc.getD i 0 := by simp [List.getD_eq_getElem?_getD, List.getElem?_append_left hlt]
      rw [this]; exact hc i hlt
    · have e : i = acc.length := by simp at hi'; omega
      subst e
      have ho : ops[acc.length]? = some o := by rw [he, ← hl]; simp
      have : (acc ++ [mk acc (needsL o)]).getD acc.length 0 = mk acc (needsL o) := by simp [List.getD_eq_getElem?_getD]
      rw [this]
      intro ls hpc hn j hj
      rcases mk_bit acc j (needsL o) 0 hj with h | ⟨i', hi', h⟩
      · simp at h
      · have h1 := hn o ho i' hi'
        rcases h with rfl | h
        · exact h1
        · by_cases hlt' : i' < acc.length
          · exact hc i' hlt' ls hpc (fun o' ho' => hpc i' o' ho' h1) j h
          · have : acc.getD i' 0 = 0 := by simp [List.getD_eq_getElem?_getD, List.getElem?_eq_none (by omega : acc.length ≤ i')]
            rw [this] at h; simp at h
end masks

/-- What a free operation does, told of its operands alone. -/
inductive Does (F : Fence) (n : Nat) (P : Program) (ρ : Operand → Value) (o : Oper) (w : World) (R : Value → World → Prop) : Prop
  | val (v : Value) (w' : World) (h : (execOp ρ o).run P w = .ok (.value v) w') (hr : R v w') : Does F n P ρ o w R
  | call (f : FuncId) (args : Array Value) (w' : World) (h : (execOp ρ o).run P w = .ok (.enter f args) w') (hc : CallsIn F (n - 1) P f args w' (ok1 R)) : Does F n P ρ o w R

abbrev VP := Value → World → Prop
def Stable (p : VP) : Prop := ∀ v w w', p v w → Ext w w' → p v w'
inductive Sp
  | c (v : Value)
  | p (q : VP)
def Sp.holds : Sp → VP
  | .c v => fun u _ => u = v
  | .p q => q
/-- A free operation, in a frame that holds L and whatever world that has grown from w0. -/
def Free1 (F : Fence) (n : Nat) (P : Program) (m : Nat) (D : List Deferred) (ops : List Oper) (w0 : World) (o : Oper) (L : Env) (V : List (Nat × VP)) (R : VP) : Prop :=
  ∀ w', Ext w0 w' → ∀ a, Fr m D a L → (∀ q ∈ V, q.1 ∈ looks ops o → ∃ v, a.tmps[q.1]? = some v ∧ q.2 v w') → (Region.wanted o (yielded ops.toArray a.tmps) = true ∧ Does F n P a.eval o w' (fun v w'' => R v w'' ∧ Ext w' w'')) ∨ (Region.wanted o (yielded ops.toArray a.tmps) = false ∧ R undef w')
/-- One walk through the free operations, in the text's order: what each yields (a value that is the same in all these worlds, or one of which p holds); K: what is then to be shown. -/
def QW (F : Fence) (n : Nat) (P : Program) (m : Nat) (D : List Deferred) (ops : List Oper) (w0 : World) (K : Env → List (Nat × VP) → Prop) : List Oper → Env → List (Nat × VP) → Prop
  | [], L, V => K L V
  | o :: rest, L, V => ∃ d, o.dst = some d ∧ Nat.blt d m = true ∧
      ((∃ c, Free1 F n P m D ops w0 o L V (fun v _ => v = c) ∧ QW F n P m D ops w0 K rest ((d, c) :: L) V) ∨
       (∃ p, Stable p ∧ at' L d = none ∧ Free1 F n P m D ops w0 o L V p ∧ QW F n P m D ops w0 K rest L ((d, p) :: V)))
/-- The tail, whatever the values are of which only p is known. -/
def Tail (F : Fence) (n : Nat) (P : Program) (Q : Exit → Act → World → Prop) (m : Nat) (D : List Deferred) (ops tail : List Oper) (w0 : World) (L : Env) (V : List (Nat × VP)) : Prop :=
  ∀ w', Ext w0 w' → ∀ (L' : Env), (∀ q ∈ V, ∃ v, at' L' q.1 = some v ∧ q.2 v w') → Sub L L' → WL F n P Q m D ops tail L' w'

section
variable {F : Fence} {n : Nat} {P : Program} {Q : Exit → Act → World → Prop} {m : Nat} {D : List Deferred} {ops : List Oper} {w0 : World} {a0 : Act} {L0 : Env}

/-- The constants that the operations before number i give. -/
def Lc (ops : List Oper) (S : Nat → Sp) (L : Env) : Nat → Env
  | 0 => L
  | i + 1 => match gdst ops i, S i with
    | some d, .c v => (d, v) :: Lc ops S L i
    | _, _ => Lc ops S L i
def Vc (ops : List Oper) (S : Nat → Sp) (V : List (Nat × VP)) : Nat → List (Nat × VP)
  | 0 => V
  | i + 1 => match gdst ops i, S i with
    | some d, .p q => (d, q) :: Vc ops S V i
    | _, _ => Vc ops S V i
structure Ob (F : Fence) (n : Nat) (P : Program) (m : Nat) (D : List Deferred) (ops : List Oper) (w0 : World) (S : Nat → Sp) (L : Env) (V : List (Nat × VP)) (i : Nat) (o : Oper) : Prop where
  stable : Stable (S i).holds
  slot : ∃ d, o.dst = some d ∧ Nat.blt d m = true ∧ (∀ q, S i = .p q → at' (Lc ops S L i) d = none)
  does : Free1 F n P m D ops w0 o (Lc ops S L i) (Vc ops S V i) (S i).holds

theorem stable_c (c : Value) : Stable (Sp.c c).holds := fun _ _ _ h _ => h

theorem qw_specs {K : Env → List (Nat × VP) → Prop} {L : Env} {V : List (Nat × VP)} : ∀ (rest : List Oper) (i : Nat) (S : Nat → Sp), (∀ j o, rest[j]? = some o → ops[i + j]? = some o) →
    QW F n P m D ops w0 K rest (Lc ops S L i) (Vc ops S V i) →
    ∃ S' : Nat → Sp, (∀ j, j < i → S' j = S j) ∧ (∀ j o, i ≤ j → rest[j - i]? = some o → Ob F n P m D ops w0 S' L V j o) ∧ K (Lc ops S' L (i + rest.length)) (Vc ops S' V (i + rest.length))
  | [], i, S, ho, h => ⟨S, fun _ _ => rfl, fun j o _ hj => by simp at hj, h⟩
  | o :: rest, i, S, ho, h => by
    have hoi : ops[i]? = some o := by have := ho 0 o (by simp); simpa using this
    have ho' : ∀ j o', rest[j]? = some o' → ops[i + 1 + j]? = some o' := fun j o' hj => by
      have := ho (j + 1) o' (by simpa using hj); rwa [show i + (j + 1) = i + 1 + j from by omega] at this
    obtain ⟨d, hd, hdm, h⟩ := h
    have hg : gdst ops i = some d := by rw [gdst_eq, hoi]; simpa using hd
    have key : ∀ s : Sp, Stable s.holds → (∀ q, s = .p q → at' (Lc ops S L i) d = none) → Free1 F n P m D ops w0 o (Lc ops S L i) (Vc ops S V i) s.holds →
        QW F n P m D ops w0 K rest (Lc ops (fun k => if k = i then s else S k) L (i + 1)) (Vc ops (fun k => if k = i then s else S k) V (i + 1)) →
        ∃ S' : Nat → Sp, (∀ j, j < i → S' j = S j) ∧ (∀ j o', i ≤ j → (o :: rest)[j - i]? = some o' → Ob F n P m D ops w0 S' L V j o') ∧ K (Lc ops S' L (i + (o :: rest).length)) (Vc ops S' V (i + (o :: rest).length)) := by
      intro s hst hnone hf hq
      obtain ⟨S', h1, h2, h3⟩ := qw_specs rest (i + 1) (fun k => if k = i then s else S k) ho' hq
      have hLc : ∀ (S1 S2 : Nat → Sp) k, (∀ j, j < k → S1 j = S2 j) → Lc ops S1 L k = Lc ops S2 L k := by
        intro S1 S2 k
        induction k with
        | zero => intro _; rfl
        | succ k ih => intro he; simp only [Lc]; rw [he k (by omega), ih (fun j hj => he j (by omega))]
      have hVc : ∀ (S1 S2 : Nat → Sp) k, (∀ j, j < k → S1 j = S2 j) → Vc ops S1 V k = Vc ops S2 V k := by
        intro S1 S2 k
        induction k with
        | zero => intro _; rfl
        | succ k ih => intro he; simp only [Vc]; rw [he k (by omega), ih (fun j hj => he j (by omega))]
      have hlow : ∀ j, j < i → S' j = S j := fun j hj => by rw [h1 j (by omega)]; simp [show j ≠ i from by omega]
      have hSi : S' i = s := by rw [h1 i (by omega)]; simp
      refine ⟨S', hlow, fun j o' hij hj => ?_, by rw [List.length_cons, show i + (rest.length + 1) = i + 1 + rest.length from by omega]; exact h3⟩
      by_cases e : j = i
      · subst e
        simp at hj
        subst hj
        have hL := hLc S' S j hlow
        have hV := hVc S' S j hlow
        exact ⟨by rw [hSi]; exact hst, ⟨d, hd, hdm, fun q hq' => by rw [hL]; rw [hSi] at hq'; exact hnone q hq'⟩, by rw [hSi, hL, hV]; exact hf⟩
      · refine h2 j o' (by omega) ?_
        have : j - i = (j - (i + 1)) + 1 := by omega
        rw [this, List.getElem?_cons_succ] at hj
        exact hj
    have hLk : ∀ s : Sp, Lc ops (fun k => if k = i then s else S k) L i = Lc ops S L i := by
      intro s
      have : ∀ k, k ≤ i → Lc ops (fun k => if k = i then s else S k) L k = Lc ops S L k := by
        intro k
        induction k with
        | zero => intro _; rfl
        | succ k ih => intro hk; simp only [Lc]; rw [ih (by omega), if_neg (by omega : k ≠ i)]
      exact this i (Nat.le_refl _)
    have hVk : ∀ s : Sp, Vc ops (fun k => if k = i then s else S k) V i = Vc ops S V i := by
      intro s
      have : ∀ k, k ≤ i → Vc ops (fun k => if k = i then s else S k) V k = Vc ops S V k := by
        intro k
        induction k with
        | zero => intro _; rfl
        | succ k ih => intro hk; simp only [Vc]; rw [ih (by omega), if_neg (by omega : k ≠ i)]
      exact this i (Nat.le_refl _)
    rcases h with ⟨c, hf, hq⟩ | ⟨p, hst, hnone, hf, hq⟩
    · refine key (.c c) (stable_c c) (fun q h => by cases h) hf ?_
      simp only [Lc, Vc, hg, if_pos, hLk, hVk]
      exact hq
    · refine key (.p p) hst (fun _ _ => hnone) hf ?_
      simp only [Lc, Vc, hg, if_pos, hLk, hVk]
      exact hq

theorem ready_iff {listed : Array Bool} {i : Nat} : i ∈ Region.ready .any ops.toArray listed ↔ ∃ o, ops[i]? = some o ∧ listed.getD i true = false ∧ ∀ j ∈ needsL o, listed.getD j false = true := by
  unfold Region.ready
  rw [List.mem_filter, List.mem_range]
  simp only [List.size_toArray, List.getElem?_toArray, Bool.and_eq_true, Bool.not_eq_true']
  constructor
  · rintro ⟨hlt, h1, h2⟩
    rw [List.getElem?_eq_getElem hlt] at h2 ⊢
    refine ⟨_, rfl, h1, fun j hj => ?_⟩
    simp only [Option.map_some, Option.getD_some, Array.all_eq_true_iff_forall_mem] at h2
    simp only [needsL, List.mem_map, List.mem_filter] at hj
    obtain ⟨e, ⟨he, hb⟩, rfl⟩ := hj
    have := h2 e (by simpa using he)
    rw [hb] at this
    simpa using this
  · rintro ⟨o, ho, h1, h2⟩
    refine ⟨(List.getElem?_eq_some_iff.1 ho).1, h1, ?_⟩
    simp only [ho, Option.map_some, Option.getD_some, Array.all_eq_true_iff_forall_mem]
    intro e he
    cases hb : Region.binds .any e with
    | false => simp
    | true =>
      have := h2 e.on (by simp only [needsL, List.mem_map, List.mem_filter]; exact ⟨e, ⟨by simpa using he, hb⟩, rfl⟩)
      simpa using this
theorem getD_set {listed : Array Bool} {i j : Nat} {b : Bool} (hi : i < listed.size) : (listed.setIfInBounds i true).getD j b = if i = j then true else listed.getD j b := by
  simp only [Array.getD_eq_getD_getElem?]
  by_cases e : i = j
  · subst e; simp [hi]
  · simp [Array.getElem?_setIfInBounds_ne e, e]

structure Chk (ops : List Oper) (N : Nat) : Prop where
  back : ∀ i o, ops[i]? = some o → ∀ j ∈ needsL o, j < i
  dsts : dstsOk (ops.take N) = true
  free : ∀ i, i < N → ∃ o, ops[i]? = some o ∧ plainOp o.op = true ∧ ∀ s ∈ looks ops o, ∀ j, j < N → gdst ops j = some s → j ∈ needsL o ∨ ∃ oj, ops[j]? = some oj ∧ i ∈ needsL oj
  all : ∀ t, N ≤ t → t < ops.length → ∀ ls : Nat → Bool, PC ops ls → (∀ o, ops[t]? = some o → ∀ j ∈ needsL o, ls j = true) → ∀ j, j < t → ls j = true
theorem chk_of {N : Nat} (h : freeOk ops N = true) : Chk ops N := by
  simp only [freeOk, Bool.and_eq_true, List.all_eq_true, List.mem_range, Bool.or_eq_true] at h
  obtain ⟨⟨⟨h1, h2⟩, h3⟩, h4⟩ := h
  refine ⟨fun i o ho j hj => ?_, h2, fun i hi => ?_, fun t ht hlt ls hpc hn j hj => ?_⟩
  · have := h1 i (List.getElem?_eq_some_iff.1 ho).1
    simp only [needsAt, ho] at this
    simpa using this j hj
  · have := h3 i hi
    split at this
    · rename_i o ho
      simp only [Bool.and_eq_true, List.all_eq_true, List.mem_range, Bool.or_eq_true] at this
      refine ⟨o, ho, this.1, fun s hs j hj hg => ?_⟩
      rcases this.2 s hs j hj with (h | h) | h
      · rw [hg] at h; simp at h
      · exact .inl (by simpa using h)
      · refine .inr ?_
        unfold needsAt at h
        split at h
        · rename_i oj hoj
          exact ⟨oj, hoj, by simpa using h⟩
        · simp at h
    · cases this
  · rcases h4 t hlt with h | h
    · simp at h; omega
    · exact masks_ok ops [] [] rfl rfl (fun i hi => absurd hi (Nat.not_lt_zero _)) t hlt ls hpc hn j (h j hj)

theorem any_tail {N : Nat} (hc : Chk ops N) : ∀ (fuel t : Nat) (listed : Array Bool) (a : Act) (w : World), N ≤ t → t ≤ ops.length → listed.size = ops.length → (∀ i, i < ops.length → listed.getD i false = decide (i < t)) → ops.length - t ≤ fuel →
    wpListIn F n P ops.toArray Q (ops.drop t) a w → wpAnyIn F n P .any ops.toArray Q fuel listed a w := by
  intro fuel
  induction fuel with
  | zero =>
    intro t listed a w hN ht hs hl hf h
    have e : t = ops.length := by omega
    subst e
    rw [List.drop_length] at h
    refine ⟨?_, h⟩
    cases hr : Region.ready .any ops.toArray listed with
    | nil => rfl
    | cons i l =>
      obtain ⟨o, ho, h1, -⟩ := ready_iff.1 (hr ▸ List.mem_cons_self : i ∈ Region.ready .any ops.toArray listed)
      have hi := (List.getElem?_eq_some_iff.1 ho).1
      have := hl i hi
      rw [decide_eq_true hi] at this
      simp only [Array.getD_eq_getD_getElem?] at this h1
      rw [Array.getElem?_eq_getElem (by omega)] at this h1
      simp_all
  | succ fuel ih =>
    intro t listed a w hN ht hs hl hf h
    have hgt : ∀ i b, i < ops.length → listed.getD i b = decide (i < t) := fun i b hi => by
      have := hl i hi
      simp only [Array.getD_eq_getD_getElem?] at this ⊢
      rw [Array.getElem?_eq_getElem (by omega)] at this ⊢
      simpa using this
    have hone : ∀ i, i ∈ Region.ready .any ops.toArray listed → i = t := by
      intro i hi
      obtain ⟨o, ho, h1, h2⟩ := ready_iff.1 hi
      have hilt := (List.getElem?_eq_some_iff.1 ho).1
      rw [hgt i true hilt] at h1
      have hti : t ≤ i := by simpa using h1
      have := hc.all i (by omega) hilt (fun j => decide (j < t)) (fun i' o' ho' hi' j hj => by
        have hb := hc.back i' o' ho' j hj
        have : i' < t := by simpa using hi'
        exact decide_eq_true (by omega)) (fun o' ho' j hj => by
        rw [ho] at ho'
        cases ho'
        have hb := hc.back i o ho j hj
        have h3 := h2 j hj
        rw [hgt j false (by omega)] at h3
        exact h3)
      by_cases e : i = t
      · exact e
      · have := this t (by omega); simp at this
    refine ⟨fun hr => ?_, fun i hi => ?_⟩
    · by_cases e : t = ops.length
      · subst e; rw [List.drop_length] at h; exact h
      · exfalso
        have hlt : t < ops.length := by omega
        have : t ∈ Region.ready .any ops.toArray listed := ready_iff.2 ⟨ops[t], List.getElem?_eq_getElem hlt, by rw [hgt t true hlt]; simp, fun j hj => by
          have hb := hc.back t _ (List.getElem?_eq_getElem hlt) j hj
          rw [hgt j false (by omega)]; exact decide_eq_true hb⟩
        rw [hr] at this
        cases this
    · have e := hone i hi
      subst e
      obtain ⟨o, ho, -, -⟩ := ready_iff.1 hi
      have hlt := (List.getElem?_eq_some_iff.1 ho).1
      have hd : ops.drop i = o :: ops.drop (i + 1) := by
        rw [List.drop_eq_getElem_cons hlt]
        have := (List.getElem?_eq_some_iff.1 ho).2
        rw [this]
      rw [hd] at h
      unfold wpListIn at h
      unfold wpOpIn
      rw [List.getElem?_toArray, ho]
      simp only
      have hnext : ∀ a' w', wpListIn F n P ops.toArray Q (ops.drop (i + 1)) a' w' → wpAnyIn F n P .any ops.toArray Q fuel (listed.setIfInBounds i true) a' w' := fun a' w' h' =>
        ih (i + 1) _ a' w' (by omega) (by omega) (by simp [hs]) (fun k hk => by
          rw [getD_set (by omega), hgt k false hk]
          by_cases e : i = k
          · subst e; simp
          · rw [if_neg e]
            by_cases h1 : k < i
            · rw [decide_eq_true h1, decide_eq_true (by omega)]
            · rw [decide_eq_false h1, decide_eq_false (by omega)]) (by omega) h'
      split
      · rename_i hw; rw [if_pos hw] at h; exact Oper.wpIn_mono hnext h
      · rename_i hw; rw [if_neg hw] at h; exact ⟨h.1, hnext _ _ h.2⟩

theorem dsts_ne : ∀ (l : List Oper), dstsOk l = true → ∀ i j d, i < j → gdst l i = some d → gdst l j = some d → False
  | [], _, i, j, d, _, h, _ => by simp [gdst] at h
  | o :: l, hd, i, j, d, hij, h1, h2 => by
    simp only [dstsOk, Bool.and_eq_true] at hd
    cases j with
    | zero => omega
    | succ j =>
      simp only [gdst] at h2
      cases i with
      | zero =>
        simp only [gdst] at h1
        rw [h1] at hd
        simp only [List.all_eq_true] at hd
        rw [gdst_eq] at h2
        cases hl : l[j]? with
        | none => rw [hl] at h2; simp at h2
        | some o' =>
          rw [hl] at h2
          have := hd.1 o' (List.mem_of_getElem? hl)
          simp only [Option.bind_some] at h2
          rw [h2] at this
          simp at this
      | succ i => exact dsts_ne l hd.2 i j d (by omega) (by simpa [gdst] using h1) h2
theorem gdst_take {N i : Nat} (hi : i < N) : gdst (ops.take N) i = gdst ops i := by rw [gdst_eq, gdst_eq, List.getElem?_take_of_lt hi]
theorem Chk.ne {N : Nat} (hc : Chk ops N) {i j d : Nat} (hi : i < N) (hj : j < N) (hne : i ≠ j) (h1 : gdst ops i = some d) (h2 : gdst ops j = some d) : False := by
  rcases Nat.lt_or_ge i j with h | h
  · exact dsts_ne _ hc.dsts i j d h (by rw [gdst_take hi]; exact h1) (by rw [gdst_take hj]; exact h2)
  · exact dsts_ne _ hc.dsts j i d (by omega) (by rw [gdst_take hj]; exact h2) (by rw [gdst_take hi]; exact h1)

theorem at_cons {d s : Nat} {v : Value} {L : Env} : at' ((d, v) :: L) s = if d = s then some v else at' L s := by
  simp only [at']
  cases hb : Nat.beq d s with
  | true => rw [if_pos (Nat.eq_of_beq_eq_true hb)]; rfl
  | false => rw [if_neg (fun e => by subst e; rw [Nat.beq_refl] at hb; cases hb)]; rfl
theorem lc_some {S : Nat → Sp} {s : Nat} {v : Value} : ∀ i, at' (Lc ops S L0 i) s = some v → (∃ j, j < i ∧ gdst ops j = some s ∧ S j = .c v) ∨ (at' L0 s = some v ∧ ∀ j, j < i → ∀ c, gdst ops j = some s → S j ≠ .c c)
  | 0, h => .inr ⟨h, fun j hj => absurd hj (Nat.not_lt_zero _)⟩
  | i + 1, h => by
    simp only [Lc] at h
    split at h
    · rename_i d c hd hS
      rw [at_cons] at h
      split at h
      · rename_i e
        subst e
        cases h
        exact .inl ⟨i, by omega, hd, hS⟩
      · rename_i e
        rcases lc_some i h with ⟨j, hj, h1, h2⟩ | ⟨h1, h2⟩
        · exact .inl ⟨j, by omega, h1, h2⟩
        · refine .inr ⟨h1, fun j hj c hg => ?_⟩
          by_cases ej : j = i
          · subst ej; rw [hd] at hg; cases hg; exact absurd rfl e
          · exact h2 j (by omega) c hg
    · rename_i hn
      rcases lc_some i h with ⟨j, hj, h1, h2⟩ | ⟨h1, h2⟩
      · exact .inl ⟨j, by omega, h1, h2⟩
      · refine .inr ⟨h1, fun j hj c hg => ?_⟩
        by_cases ej : j = i
        · subst ej; intro hc; exact hn _ _ hg hc
        · exact h2 j (by omega) c hg
theorem lc_none {S : Nat → Sp} {s : Nat} : ∀ i, at' (Lc ops S L0 i) s = none → at' L0 s = none
  | 0, h => h
  | i + 1, h => by
    simp only [Lc] at h
    split at h
    · rw [at_cons] at h
      split at h
      · cases h
      · exact lc_none i h
    · exact lc_none i h

structure Inv (m : Nat) (D : List Deferred) (ops : List Oper) (N : Nat) (w0 : World) (S : Nat → Sp) (L0 : Env) (listed : Array Bool) (a : Act) (w : World) : Prop where
  size : listed.size = ops.length
  tail : ∀ i, N ≤ i → i < ops.length → listed.getD i false = false
  pc : PC ops (fun i => listed.getD i false)
  ext : Ext w0 w
  tsize : a.tmps.size = m
  defers : a.defers = D
  old : ∀ s v, at' L0 s = some v → (∀ i, i < N → gdst ops i = some s → listed.getD i false = false) → a.tmps[s]? = some v
  new : ∀ i, i < N → listed.getD i false = true → ∀ d, gdst ops i = some d → ∃ v, a.tmps[d]? = some v ∧ (S i).holds v w

theorem free_len {N : Nat} (hc : Chk ops N) : N ≤ ops.length := by
  rcases Nat.eq_zero_or_pos N with h | h
  · omega
  · obtain ⟨o, ho, -⟩ := hc.free (N - 1) (by omega)
    have := (List.getElem?_eq_some_iff.1 ho).1
    omega

theorem filter_lt {p q : Nat → Bool} : ∀ (l : List Nat), (∀ x ∈ l, p x = true → q x = true) → (∃ x ∈ l, q x = true ∧ p x = false) → (l.filter p).length < (l.filter q).length
  | [], _, ⟨x, hx, _⟩ => by cases hx
  | y :: l, h, ⟨x, hx, h1, h2⟩ => by
    have hle : ∀ l : List Nat, (∀ x ∈ l, p x = true → q x = true) → (l.filter p).length ≤ (l.filter q).length := by
      intro l
      induction l with
      | nil => intro _; simp
      | cons z l ih =>
        intro h
        have := ih (fun x hx => h x (by simp [hx]))
        simp only [List.filter_cons]
        cases hp : p z with
        | true => rw [h z (by simp) hp]; simp; omega
        | false => cases q z <;> simp <;> omega
    simp only [List.filter_cons]
    rcases List.mem_cons.1 hx with e | hx
    · subst e
      rw [h1, h2]
      have := hle l (fun x hx => h x (by simp [hx]))
      simp; omega
    · have := filter_lt l (fun x hx => h x (by simp [hx])) ⟨x, hx, h1, h2⟩
      cases hp : p y with
      | true => rw [h y (by simp) hp]; simp; omega
      | false => cases q y <;> simp <;> omega
theorem least (p : Nat → Bool) : ∀ N, (∃ i, i < N ∧ p i = false) → ∃ i, i < N ∧ p i = false ∧ ∀ j, j < i → p j = true
  | 0, ⟨i, hi, _⟩ => absurd hi (Nat.not_lt_zero _)
  | N + 1, ⟨i, hi, h⟩ => by
    by_cases e : ∃ i, i < N ∧ p i = false
    · obtain ⟨j, hj, h1, h2⟩ := least p N e
      exact ⟨j, by omega, h1, h2⟩
    · refine ⟨i, hi, h, fun j hj => ?_⟩
      cases hp : p j with
      | true => rfl
      | false => exact absurd ⟨j, by omega, hp⟩ e
theorem at_tab {f : Nat → Value} {s : Nat} {v : Value} : ∀ l : List Nat, at' (l.map fun i => (i, f i)) s = some v → s ∈ l ∧ v = f s
  | [], h => by cases h
  | i :: l, h => by
    rw [List.map_cons, at_cons] at h
    split at h
    · rename_i e; subst e; cases h; exact ⟨by simp, rfl⟩
    · obtain ⟨h1, h2⟩ := at_tab l h; exact ⟨by simp [h1], h2⟩
theorem at_tab_mem {f : Nat → Value} {s : Nat} : ∀ l : List Nat, s ∈ l → at' (l.map fun i => (i, f i)) s = some (f s)
  | i :: l, h => by
    rw [List.map_cons, at_cons]
    split
    · rename_i e; subst e; rfl
    · rename_i e
      rcases List.mem_cons.1 h with h | h
      · exact absurd h.symm e
      · exact at_tab_mem l h
theorem vc_mem {S : Nat → Sp} {q : Nat × VP} : ∀ i, q ∈ Vc ops S [] i → ∃ j, j < i ∧ gdst ops j = some q.1 ∧ S j = .p q.2
  | 0, h => by cases h
  | i + 1, h => by
    simp only [Vc] at h
    split at h
    · rename_i d p hd hS
      rcases List.mem_cons.1 h with h | h
      · subst h; exact ⟨i, by omega, hd, hS⟩
      · obtain ⟨j, hj, h1, h2⟩ := vc_mem i h; exact ⟨j, by omega, h1, h2⟩
    · obtain ⟨j, hj, h1, h2⟩ := vc_mem i h; exact ⟨j, by omega, h1, h2⟩
theorem gd {listed : Array Bool} {i : Nat} {b c : Bool} (h : i < listed.size) : listed.getD i b = listed.getD i c := by
  simp only [Array.getD_eq_getD_getElem?, Array.getElem?_eq_getElem h, Option.getD_some]

theorem any_free {N : Nat} {S : Nat → Sp} {V : List (Nat × VP)} (hW : Wd F) (hc : Chk ops N) (hL0 : ∀ s v, at' L0 s = some v → s < m) (hob : ∀ i o, i < N → ops[i]? = some o → Ob F n P m D ops w0 S L0 [] i o) (hV : V = Vc ops S [] N)
    (htail : Tail F n P Q m D ops (ops.drop N) w0 (Lc ops S L0 N) V) :
    ∀ (fuel : Nat) (listed : Array Bool) (a : Act) (w : World), Inv m D ops N w0 S L0 listed a w → ops.length - N + ((List.range N).filter fun i => !listed.getD i false).length ≤ fuel →
      wpAnyIn F n P .any ops.toArray Q fuel listed a w := by
  have hNl := free_len hc
  have hslot : ∀ i, i < N → ∃ o d, ops[i]? = some o ∧ o.dst = some d ∧ gdst ops i = some d ∧ d < m := fun i hi => by
    obtain ⟨o, ho, -, -⟩ := hc.free i hi
    obtain ⟨d, hd, hdm, -⟩ := (hob i o hi ho).slot
    exact ⟨o, d, ho, hd, by rw [gdst_eq, ho]; simpa using hd, by simpa using hdm⟩
  -- what is known of a slot of which Lc says something, once all that write it have come up
  have hread : ∀ (listed : Array Bool) (a : Act) (w : World), Inv m D ops N w0 S L0 listed a w → ∀ i s v, i ≤ N → at' (Lc ops S L0 i) s = some v → (∀ j, j < N → gdst ops j = some s → (j < i ∧ listed.getD j false = true) ∨ (i ≤ j ∧ listed.getD j false = false)) → a.tmps[s]? = some v := by
    intro listed a w hI i s v hi hs hall
    rcases lc_some i hs with ⟨j, hj, hg, hS⟩ | ⟨h1, h2⟩
    · obtain ⟨u, hu, hh⟩ := hI.new j (by omega) ((hall j (by omega) hg).elim (fun h => h.2) (fun h => absurd h.1 (by omega))) s hg
      rw [hS] at hh
      have : u = v := hh
      rw [← this]; exact hu
    · refine hI.old s v h1 (fun j hj hg => ?_)
      rcases hall j hj hg with hall' | hall'
      case inr => exact hall'.2
      exfalso
      have hji := hall'.1
      cases hSj : S j with
      | c c => exact h2 j hji c hg hSj
      | p q =>
        obtain ⟨o, d, ho, hd, hgd, -⟩ := hslot j hj
        obtain ⟨d', hd', -, hn⟩ := (hob j o hj ho).slot
        rw [hd] at hd'; cases hd'
        rw [hg] at hgd; cases hgd
        have := lc_none j (hn q hSj)
        rw [this] at h1; cases h1
  have hfin : ∀ (listed : Array Bool) (a : Act) (w : World), Inv m D ops N w0 S L0 listed a w → (∀ i, i < N → listed.getD i false = true) → wpListIn F n P ops.toArray Q (ops.drop N) a w := by
    intro listed a w hI hall
    refine htail w hI.ext ((List.range m).map fun i => (i, a.tmps.getD i undef)) (fun q hq => ?_) (fun s v hs => ?_) a ⟨hI.tsize, hI.defers, fun s v hs => ?_⟩
    · rw [hV] at hq
      obtain ⟨j, hj, hgj, hSj⟩ := vc_mem N hq
      obtain ⟨v, hv, hh⟩ := hI.new j hj (hall j hj) q.1 hgj
      obtain ⟨oj, dj, hoj, hdj, hgj', hm⟩ := hslot j hj
      rw [hgj] at hgj'; cases hgj'
      refine ⟨v, ?_, by rw [hSj] at hh; exact hh⟩
      rw [at_tab_mem _ (List.mem_range.2 hm), Array.getD_eq_getD_getElem?, hv]; rfl
    · have hv := hread listed a w hI N s v (Nat.le_refl _) hs (fun j hj hgj => .inl ⟨hj, hall j hj⟩)
      have hsm : s < m := by rw [← hI.tsize]; exact (Array.getElem?_eq_some_iff.1 hv).1
      rw [at_tab_mem _ (List.mem_range.2 hsm), Array.getD_eq_getD_getElem?, hv]; rfl
    · obtain ⟨h1, h2⟩ := at_tab _ hs
      rw [List.mem_range] at h1
      rw [h2, Array.getD_eq_getD_getElem?, Array.getElem?_eq_getElem (by rw [hI.tsize]; exact h1)]; rfl
  intro fuel
  induction fuel with
  | zero =>
    intro listed a w hI hf
    have h0 : ops.length = N := by omega
    have hall : ∀ i, i < N → listed.getD i false = true := fun i hi => by
      have hz : ((List.range N).filter fun i => !listed.getD i false) = [] := List.eq_nil_of_length_eq_zero (by omega)
      rw [List.filter_eq_nil_iff] at hz
      simpa using hz i (List.mem_range.2 hi)
    exact any_tail hc 0 N listed a w (Nat.le_refl _) hNl hI.size (fun i hi => by rw [hall i (by omega)]; exact (decide_eq_true (by omega)).symm) (by omega) (hfin listed a w hI hall)
  | succ fuel ih =>
    intro listed a w hI hf
    by_cases hall : ∀ i, i < N → listed.getD i false = true
    · have hz : ((List.range N).filter fun i => !listed.getD i false) = [] := by
        rw [List.filter_eq_nil_iff]; intro i hi; simp [hall i (List.mem_range.1 hi)]
      rw [hz] at hf
      exact any_tail hc (fuel + 1) N listed a w (Nat.le_refl _) hNl hI.size (fun i hi => by
        by_cases h : i < N
        · rw [hall i h, decide_eq_true h]
        · rw [hI.tail i (by omega) hi, decide_eq_false h]) (by simp at hf; omega) (hfin listed a w hI hall)
    · have hex : ∃ i, i < N ∧ listed.getD i false = false := by
        refine Classical.byContradiction fun hne => hall fun i hi => ?_
        cases hl : listed.getD i false with
        | true => rfl
        | false => exact absurd ⟨i, hi, hl⟩ hne
      refine ⟨fun hr => ?_, fun i hi => ?_⟩
      · exfalso
        obtain ⟨i0, hi0, h1, h2⟩ := least (fun i => listed.getD i false) N hex
        have hlt : i0 < ops.length := by omega
        have : i0 ∈ Region.ready .any ops.toArray listed := ready_iff.2 ⟨ops[i0], List.getElem?_eq_getElem hlt, by rw [gd (b := true) (c := false) (by rw [hI.size]; exact hlt)]; exact h1, fun j hj => h2 j (hc.back i0 _ (List.getElem?_eq_getElem hlt) j hj)⟩
        rw [hr] at this; cases this
      · obtain ⟨o, ho, h1, h2⟩ := ready_iff.1 hi
        have hlt := (List.getElem?_eq_some_iff.1 ho).1
        have hiN : i < N := by
          refine Classical.byContradiction fun hge => ?_
          obtain ⟨j0, hj0, hun⟩ := hex
          have := hc.all i (by omega) hlt (fun j => listed.getD j false) hI.pc (fun o' ho' j hj => by rw [ho] at ho'; cases ho'; exact h2 j hj) j0 (by omega)
          rw [hun] at this; cases this
        have hun : listed.getD i false = false := by rw [gd (b := false) (c := true) (by rw [hI.size]; exact hlt)]; exact h1
        obtain ⟨o', ho', hpl, hlk⟩ := hc.free i hiN
        rw [ho] at ho'; cases ho'
        obtain ⟨hst, ⟨d, hd, hdm, hnone⟩, hdoes⟩ := hob i o hiN ho
        have hg : gdst ops i = some d := by rw [gdst_eq, ho]; simpa using hd
        have hdm' : d < m := by simpa using hdm
        have hlcm : ∀ s v, at' (Lc ops S L0 i) s = some v → s < m := fun s v hs => by
          rcases lc_some i hs with ⟨j, hj, hgj, -⟩ | ⟨h, -⟩
          · obtain ⟨oj, dj, hoj, hdj, hgj', hm⟩ := hslot j (by omega)
            rw [hgj] at hgj'; cases hgj'; exact hm
          · exact hL0 s v h
        -- the frame that holds the constants of all that stand ahead of it in the text
        let st : Act := { a with tmps := Array.ofFn (n := m) fun s => (at' (Lc ops S L0 i) s.1).getD (a.tmps.getD s.1 undef) }
        have hstar : ∀ s, (∀ v, at' (Lc ops S L0 i) s = some v → a.tmps[s]? = some v) → st.tmps[s]? = a.tmps[s]? := fun s h => by
          show (Array.ofFn (n := m) fun s => (at' (Lc ops S L0 i) s.1).getD (a.tmps.getD s.1 undef))[s]? = _
          rw [Array.getElem?_ofFn]
          by_cases hs : s < m
          · rw [dif_pos hs]
            cases hat : at' (Lc ops S L0 i) s with
            | none => simp [Array.getD_eq_getD_getElem?, Array.getElem?_eq_getElem (show s < a.tmps.size by rw [hI.tsize]; exact hs)]
            | some v => simp [h v hat]
          · rw [dif_neg hs, Array.getElem?_eq_none (by rw [hI.tsize]; omega)]
        have hfr : Fr m D st (Lc ops S L0 i) := by
          refine ⟨by simp [st], hI.defers, fun s v hs => ?_⟩
          have hsm := hlcm s v hs
          show (Array.ofFn (n := m) fun s => (at' (Lc ops S L0 i) s.1).getD (a.tmps.getD s.1 undef))[s]? = _
          rw [Array.getElem?_ofFn, dif_pos hsm]; simp [hs]
        have hlook : ∀ s ∈ looks ops o, st.tmps[s]? = a.tmps[s]? := fun s hs => hstar s fun v hv => hread listed a w hI i s v (by omega) hv fun j hj hgj => by
          rcases hlk s hs j hj hgj with hn | ⟨oj, hoj, hn⟩
          · exact .inl ⟨hc.back i o ho j hn, h2 j hn⟩
          · refine .inr ⟨Nat.le_of_lt (hc.back j oj hoj i hn), ?_⟩
            cases hlj : listed.getD j false with
            | false => rfl
            | true =>
              have hli : listed.getD i false = true := hI.pc j oj hoj hlj i hn
              rw [hun] at hli; cases hli
        have hopd : ∀ x ∈ o.op.operands, st.eval x = a.eval x := fun x hx => by
          cases x with
          | tmp t =>
            have := hlook t (List.mem_append_left _ (List.mem_filterMap.2 ⟨.tmp t, by simpa using hx, rfl⟩))
            show st.tmps.getD t undef = a.tmps.getD t undef
            rw [Array.getD_eq_getD_getElem?, Array.getD_eq_getD_getElem?, this]
          | _ => rfl
        have hexec : execOp st.eval o = execOp a.eval o := execOp_congr o (fun cs b h => by rw [h] at hpl; cases hpl) hopd
        have hwant : Region.wanted o (yielded ops.toArray st.tmps) = Region.wanted o (yielded ops.toArray a.tmps) := by
          unfold Region.wanted
          cases hgd : o.guard with
          | none => rfl
          | some p =>
            obtain ⟨j, want⟩ := p
            have hy : yielded ops.toArray st.tmps j = yielded ops.toArray a.tmps j := by
              simp only [yielded, List.getElem?_toArray]
              cases hgj : (ops[j]?).bind (·.dst) with
              | none => rfl
              | some dj =>
                have := hlook dj (List.mem_append_right _ (by rw [hgd]; simp only [gdst_eq, hgj]; simp))
                simp only [Option.bind_some, this]
            simp only [hy]
        have hnd : ∀ c, o.op ≠ .defer c := fun c h => by rw [h] at hpl; cases hpl
        have hnext : ∀ v w'', (S i).holds v w'' → Ext w w'' → wpAnyIn F n P .any ops.toArray Q fuel (listed.setIfInBounds i true) (a.put o.dst v) w'' := by
          intro v w'' hh hx
          have hsz : i < listed.size := by rw [hI.size]; exact hlt
          refine ih _ _ _ ⟨by simp [hI.size], fun k hk hkl => ?_, fun k ok hok hk j hj => ?_, hI.ext.trans hx, ?_, hI.defers ▸ by rw [hd]; rfl, fun s u hs hk => ?_, fun k hk hkl dk hgk => ?_⟩ ?_
          · rw [getD_set hsz, if_neg (by omega)]; exact hI.tail k hk hkl
          · simp only [getD_set hsz] at hk ⊢
            by_cases e : i = j
            · rw [if_pos e]
            · rw [if_neg e]
              by_cases ek : i = k
              · subst ek; rw [ho] at hok; cases hok; exact h2 j hj
              · rw [if_neg ek] at hk; exact hI.pc k ok hok hk j hj
          · rw [hd]; simp [Act.put, hI.tsize]
          · have hne : d ≠ s := fun e => by
              subst e
              have := hk i hiN hg
              rw [getD_set hsz, if_pos rfl] at this; cases this
            rw [hd]
            simp only [Act.put, Array.getElem?_setIfInBounds_ne hne]
            exact hI.old s u hs fun j hj hgj => by
              have := hk j hj hgj
              rw [getD_set hsz] at this
              by_cases e : i = j
              · rw [if_pos e] at this; cases this
              · rw [if_neg e] at this; exact this
          · rw [getD_set hsz] at hkl
            by_cases e : i = k
            · subst e
              rw [hg] at hgk; cases hgk
              exact ⟨v, by rw [hd]; simp [Act.put, hI.tsize, hdm'], hh⟩
            · rw [if_neg e] at hkl
              have hne : d ≠ dk := fun e' => by subst e'; exact hc.ne hiN hk e hg hgk
              obtain ⟨u, hu, hhu⟩ := hI.new k hk hkl dk hgk
              obtain ⟨ok, -, hok, -⟩ := hslot k hk
              exact ⟨u, by rw [hd]; simp only [Act.put, Array.getElem?_setIfInBounds_ne hne]; exact hu, (hob k ok hk hok).stable u w w'' hhu hx⟩
          · have := filter_lt (p := fun k => !(listed.setIfInBounds i true).getD k false) (q := fun k => !listed.getD k false) (List.range N) (fun k _ hk => by
              simp only [getD_set hsz] at hk
              by_cases e : i = k
              · rw [if_pos e] at hk; cases hk
              · rw [if_neg e] at hk; exact hk) ⟨i, List.mem_range.2 hiN, by simp [hun], by simp [getD_set hsz]⟩
            omega
        unfold wpOpIn
        rw [List.getElem?_toArray, ho]
        simp only
        have hvs : ∀ q ∈ Vc ops S [] i, q.1 ∈ looks ops o → ∃ v, st.tmps[q.1]? = some v ∧ q.2 v w := fun q hq hlo => by
          obtain ⟨j, hj, hgj, hSj⟩ := vc_mem i hq
          obtain ⟨v, hv, hh⟩ := hI.new j (by omega) (h2 j ((hlk q.1 hlo j (by omega) hgj).elim id fun ⟨oj, hoj, hn⟩ => absurd (hc.back j oj hoj i hn) (by omega))) q.1 hgj
          exact ⟨v, by rw [hlook q.1 hlo]; exact hv, by rw [hSj] at hh; exact hh⟩
        rcases hdoes w hI.ext st hfr hvs with ⟨hw, hdo⟩ | ⟨hw, hr⟩
        · rw [if_pos (hwant ▸ hw)]
          cases hdo with
          | val v w' h hr => exact wpIn_value hW hnd (by rw [← hexec]; exact h) (hnext v w' hr.1 hr.2)
          | call f args w' h hcl =>
            rcases hcl with ⟨hF, hcl⟩
            have hx : (execOp a.eval o).run P w = .ok (.enter f args) w' := by rw [← hexec]; exact h
            exact wpIn_entered hW hnd hx ⟨hF, hcl⟩ (fun v w'' hr => hnext v w'' hr.1 hr.2)
        · rw [if_neg (by rw [← hwant, hw]; simp)]
          exact ⟨fun f _ => hW.fn f, hnext undef w hr (Keep.refl _ _)⟩

/-- **A region that draws its order.** -/
theorem wc_draw {id : Nat} {L : Env} {w : World} (N : Nat) (hW : Wd F) (hm : P.follows .mixedOrders = true) (hck : freeOk ops N = true)
    (hq : QW F n P m D ops w.drew (Tail F n P Q m D ops (ops.drop N) w.drew) (ops.take N) L []) : WC F n P Q m D (.region id ops.toArray true) L w := by
  intro a ha
  have hc := chk_of hck
  obtain ⟨S, -, h2, h3⟩ := qw_specs (F := F) (n := n) (P := P) (m := m) (D := D) (ops := ops) (w0 := w.drew) (L := L) (V := []) (ops.take N) 0 (fun _ => .c undef) (fun j o hj => by
    rw [Nat.zero_add]
    rw [List.getElem?_take] at hj
    split at hj
    · exact hj
    · cases hj) hq
  have hlen : (ops.take N).length = N := by rw [List.length_take]; have := free_len hc; omega
  rw [Nat.zero_add, hlen] at h3
  refine wpIn_region_any hm ?_
  have hmem : ∀ s v, at' L s = some v → s < m := fun s v hs => by rw [← ha.size]; exact (Array.getElem?_eq_some_iff.1 (ha.get s v hs)).1
  have hfalse : ∀ i, (Array.replicate ops.length false).getD i false = false := fun i => by
    rw [Array.getD_eq_getD_getElem?, Array.getElem?_replicate]; split <;> rfl
  have := any_free (Q := Q) (N := N) (S := S) (V := Vc ops S [] N) hW hc hmem (fun i o hi ho => h2 i o (Nat.zero_le _) (by rw [Nat.sub_zero, List.getElem?_take_of_lt hi]; exact ho)) rfl h3 ops.length
    (Array.replicate ops.length false) a w.drew ⟨by simp, fun i _ _ => hfalse i, (fun i o _ h => absurd ((hfalse i).symm.trans h) Bool.false_ne_true), Keep.refl _ _, ha.size, ha.defers, fun s v hs _ => ha.get s v hs, (fun i _ h => absurd ((hfalse i).symm.trans h) Bool.false_ne_true)⟩
    (by
      have : ((List.range N).filter fun i => !(Array.replicate ops.length false).getD i false).length ≤ N := by
        have := List.length_filter_le (fun i => !(Array.replicate ops.length false).getD i false) (List.range N)
        simpa using this
      have := free_len hc
      omega)
  simpa using this
end
end Go.Proofs.Ytblbddamebbgaaa.K

/- My own walking rules (part 4): the steps of a region in any order; ranges over functions; append. No program is named here. -/
namespace Go.Proofs.Ytblbddamebbgaaa.K
open Go Go.RowKit
set_option linter.unusedVariables false
set_option linter.unusedSectionVars false
set_option linter.unusedSimpArgs false

section
variable {F : Fence} {n : Nat} {P : Program} {Q : Exit → Act → World → Prop} {m : Nat} {D : List Deferred} {L : Env} {w w' w0 : World} {a : Act}
variable {ops tail : List Oper} {rest : List Oper} {d : Nat} {ty t e : TypeId} {pos : String} {af : Array Edge} {g : Option (Nat × Bool)} {v : Value} {x y : Operand} {K : Env → List (Nat × VP) → Prop} {V : List (Nat × VP)}

theorem q_nil (k : K L V) : QW F n P m D ops w0 K [] L V := k
theorem q_val {op : Op} (hg : wants L ops g = some true) (hd : Nat.blt d m = true) (hx : ∀ w', Ext w0 w' → Xv P m D L op ty w' v w') (k : QW F n P m D ops w0 K rest ((d, v) :: L) V) :
    QW F n P m D ops w0 K (⟨some d, op, ty, pos, af, g⟩ :: rest) L V :=
  ⟨d, rfl, hd, .inl ⟨v, fun w' hw a h _ => .inl ⟨h.wanted (o := ⟨some d, op, ty, pos, af, g⟩) hg, .val v w' ((hx w' hw).2 _ _ _ _ a h) ⟨rfl, Keep.refl _ _⟩⟩, k⟩⟩
theorem q_off {op : Op} (hg : wants L ops g = some false) (hd : Nat.blt d m = true) (k : QW F n P m D ops w0 K rest ((d, undef) :: L) V) :
    QW F n P m D ops w0 K (⟨some d, op, ty, pos, af, g⟩ :: rest) L V :=
  ⟨d, rfl, hd, .inl ⟨undef, fun w' hw a h _ => .inr ⟨h.wanted (o := ⟨some d, op, ty, pos, af, g⟩) hg, rfl⟩, k⟩⟩
theorem q_call {op : Op} {f : FuncId} {args : Array Value} (hg : wants L ops g = some true) (hd : Nat.blt d m = true) (hx : ∀ w', Xc P m D L op ty w' f args w')
    (hc : ∀ w', Ext w0 w' → CallsIn F (n - 1) P f args w' (ok1 fun u w'' => u = v ∧ Ext w' w'')) (k : QW F n P m D ops w0 K rest ((d, v) :: L) V) :
    QW F n P m D ops w0 K (⟨some d, op, ty, pos, af, g⟩ :: rest) L V :=
  ⟨d, rfl, hd, .inl ⟨v, fun w' hw a h _ => .inl ⟨h.wanted (o := ⟨some d, op, ty, pos, af, g⟩) hg, .call f args w' ((hx w').2 _ _ _ _ a h) (hc w' hw)⟩, k⟩⟩
theorem q_callp {op : Op} {f : FuncId} {args : Array Value} {p : VP} (hp : Stable p) (hg : wants L ops g = some true) (hd : Nat.blt d m = true) (hno : at' L d = none) (hx : ∀ w', Xc P m D L op ty w' f args w')
    (hc : ∀ w', Ext w0 w' → CallsIn F (n - 1) P f args w' (ok1 fun u w'' => p u w'' ∧ Ext w' w'')) (k : QW F n P m D ops w0 K rest L ((d, p) :: V)) :
    QW F n P m D ops w0 K (⟨some d, op, ty, pos, af, g⟩ :: rest) L V :=
  ⟨d, rfl, hd, .inr ⟨p, hp, hno, fun w' hw a h _ => .inl ⟨h.wanted (o := ⟨some d, op, ty, pos, af, g⟩) hg, .call f args w' ((hx w').2 _ _ _ _ a h) (hc w' hw)⟩, k⟩⟩
theorem q_valp {op : Op} {p : VP} (hp : Stable p) (hg : wants L ops g = some true) (hd : Nat.blt d m = true) (hno : at' L d = none) (hx : ∀ w', Ext w0 w' → ∃ v w'', Xv P m D L op ty w' v w'' ∧ p v w'' ∧ Ext w' w'') (k : QW F n P m D ops w0 K rest L ((d, p) :: V)) :
    QW F n P m D ops w0 K (⟨some d, op, ty, pos, af, g⟩ :: rest) L V :=
  ⟨d, rfl, hd, .inr ⟨p, hp, hno, fun w' hw a h _ => by
    obtain ⟨v, w'', hx, hpv, he⟩ := hx w' hw
    exact .inl ⟨h.wanted (o := ⟨some d, op, ty, pos, af, g⟩) hg, .val v w'' (hx.2 _ _ _ _ a h) ⟨hpv, he⟩⟩, k⟩⟩
/-- An operation that reads one slot of whose value only q is known. -/
theorem q_valv {op : Op} {p q : VP} {s : Nat} (hp : Stable p) (hg : wants L ops g = some true) (hd : Nat.blt d m = true) (hno : at' L d = none) (hs : (s, q) ∈ V) (hlo : s ∈ looks ops ⟨some d, op, ty, pos, af, g⟩)
    (hx : ∀ w' u, Ext w0 w' → q u w' → ∃ v w'', Xv P m D ((s, u) :: L) op ty w' v w'' ∧ p v w'' ∧ Ext w' w'') (k : QW F n P m D ops w0 K rest L ((d, p) :: V)) :
    QW F n P m D ops w0 K (⟨some d, op, ty, pos, af, g⟩ :: rest) L V :=
  ⟨d, rfl, hd, .inr ⟨p, hp, hno, fun w' hw a h hvs => by
    obtain ⟨u, hu, hq⟩ := hvs _ hs hlo
    obtain ⟨v, w'', hx, hpv, he⟩ := hx w' u hw hq
    refine .inl ⟨h.wanted (o := ⟨some d, op, ty, pos, af, g⟩) hg, .val v w'' (hx.2 _ _ _ _ a ⟨h.size, h.defers, fun i v hi => ?_⟩) ⟨hpv, he⟩⟩
    rw [at_cons] at hi
    split at hi
    · rename_i e; subst e; cases hi; exact hu
    · exact h.get i v hi, k⟩⟩
theorem tail0 (k : ∀ w', Ext w0 w' → WL F n P Q m D ops tail L w') : Tail F n P Q m D ops tail w0 L [] := fun w' hw L' _ hs => wl_sub hs (k w' hw)
theorem tail1 {p : VP} (k : ∀ w' v, Ext w0 w' → p v w' → WL F n P Q m D ops tail ((d, v) :: L) w') : Tail F n P Q m D ops tail w0 L [(d, p)] := fun w' hw L' hv hs => by
  obtain ⟨v, h1, h2⟩ := hv (d, p) (by simp)
  exact wl_sub (sub_cons h1 hs) (k w' v hw h2)
theorem tail2 {d2 : Nat} {p p2 : VP} (k : ∀ w' v v2, Ext w0 w' → p v w' → p2 v2 w' → WL F n P Q m D ops tail ((d, v) :: (d2, v2) :: L) w') : Tail F n P Q m D ops tail w0 L [(d, p), (d2, p2)] := fun w' hw L' hv hs => by
  obtain ⟨v, h1, h2⟩ := hv (d, p) (by simp)
  obtain ⟨v2, h3, h4⟩ := hv (d2, p2) (by simp)
  exact wl_sub (sub_cons h1 (sub_cons h3 hs)) (k w' v v2 hw h2 h4)
theorem fr_eqv {L' : Env} (h : ∀ i, at' L' i = at' L i) (hf : Fr m D a L) : Fr m D a L' := ⟨hf.size, hf.defers, fun i v hi => hf.get i v (by rw [← h]; exact hi)⟩
theorem qw_eqv : ∀ (rest : List Oper) (L L' : Env) (V : List (Nat × VP)), (∀ i, at' L' i = at' L i) → QW F n P m D ops w0 (Tail F n P Q m D ops tail w0) rest L' V → QW F n P m D ops w0 (Tail F n P Q m D ops tail w0) rest L V
  | [], L, L', V, he, h => fun w' hw L2 hv hs => h w' hw L2 hv (fun i v hi => hs i v (by rw [← he]; exact hi))
  | o :: rest, L, L', V, he, h => by
    obtain ⟨d, hd, hdm, h⟩ := h
    refine ⟨d, hd, hdm, ?_⟩
    rcases h with ⟨c, hf, hq⟩ | ⟨p, hp, hno, hf, hq⟩
    · exact .inl ⟨c, fun w' hw a ha hv => hf w' hw a (fr_eqv he ha) hv, qw_eqv rest ((d, c) :: L) ((d, c) :: L') V (fun i => by rw [at_cons, at_cons, he]) hq⟩
    · exact .inr ⟨p, hp, by rw [← he]; exact hno, fun w' hw a ha hv => hf w' hw a (fr_eqv he ha) hv, qw_eqv rest L L' _ he hq⟩
theorem eqv_cons {u : Value} (h : at' L d = some u) : ∀ i, at' ((d, u) :: L) i = at' L i := fun i => by
  rw [at_cons]; split
  · rename_i e; subst e; exact h.symm
  · rfl
/-- A guard that is not known yet. -/
theorem q_bcases {b : Bool} (h : at' L d = some (.bool b)) (k1 : b = true → QW F n P m D ops w0 (Tail F n P Q m D ops tail w0) rest ((d, .bool true) :: L) V) (k2 : b = false → QW F n P m D ops w0 (Tail F n P Q m D ops tail w0) rest ((d, .bool false) :: L) V) :
    QW F n P m D ops w0 (Tail F n P Q m D ops tail w0) rest L V := by
  cases b with
  | true => exact qw_eqv rest _ _ _ (eqv_cons h) (k1 rfl)
  | false => exact qw_eqv rest _ _ _ (eqv_cons h) (k2 rfl)
theorem q_dcases {p : Prop} [Decidable p] (h : at' L d = some (.bool (decide p))) (k1 : p → QW F n P m D ops w0 (Tail F n P Q m D ops tail w0) rest ((d, .bool true) :: L) V) (k2 : ¬ p → QW F n P m D ops w0 (Tail F n P Q m D ops tail w0) rest ((d, .bool false) :: L) V) :
    QW F n P m D ops w0 (Tail F n P Q m D ops tail w0) rest L V := q_bcases h (fun e => k1 (of_decide_eq_true e)) (fun e => k2 (of_decide_eq_false e))
theorem wl_bcases {b : Bool} (h : at' L d = some (.bool b)) (k1 : b = true → WL F n P Q m D ops rest ((d, .bool true) :: L) w) (k2 : b = false → WL F n P Q m D ops rest ((d, .bool false) :: L) w) : WL F n P Q m D ops rest L w := by
  cases b with
  | true => exact fun a ha => k1 rfl a (fr_eqv (eqv_cons h) ha)
  | false => exact fun a ha => k2 rfl a (fr_eqv (eqv_cons h) ha)
theorem wl_dcases {p : Prop} [Decidable p] (h : at' L d = some (.bool (decide p))) (k1 : p → WL F n P Q m D ops rest ((d, .bool true) :: L) w) (k2 : ¬ p → WL F n P Q m D ops rest ((d, .bool false) :: L) w) : WL F n P Q m D ops rest L w :=
  wl_bcases h (fun e => k1 (of_decide_eq_true e)) (fun e => k2 (of_decide_eq_false e))
/-- The ways through c meet again: behind it the frame holds L', the world is such that I. -/
def CutQ (m : Nat) (D : List Deferred) (L' : Env) (I : World → Prop) : Exit → Act → World → Prop := fun e a w' => e = .normal ∧ Fr m D a L' ∧ I w'
theorem wc_cut {c : Code} (L' : Env) (I : World → Prop) (h1 : WC F n P (CutQ m D L' I) m D c L w) (h2 : ∀ w', I w' → NX Q m D .normal L' w') : WC F n P Q m D c L w := fun a ha =>
  wpIn_mono (h1 a ha) (fun e a' w' h => by obtain ⟨rfl, hf, hi⟩ := h; exact h2 w' hi a' hf)
theorem nx_cut {L' : Env} {I : World → Prop} (hs : Sub L' L) (hi : I w) : NX (CutQ m D L' I) m D .normal L w := fun a ha => ⟨rfl, ha.sub hs, hi⟩
/-- .. where what the frame holds is known up to s. -/
def CutE {σ : Type} (m : Nat) (D : List Deferred) (L' : σ → Env) (I : σ → World → Prop) : Exit → Act → World → Prop := fun e a w' => e = .normal ∧ ∃ s, Fr m D a (L' s) ∧ I s w'
theorem wc_cutE {σ : Type} {c : Code} (L' : σ → Env) (I : σ → World → Prop) (h1 : WC F n P (CutE m D L' I) m D c L w) (h2 : ∀ s w', I s w' → NX Q m D .normal (L' s) w') : WC F n P Q m D c L w := fun a ha =>
  wpIn_mono (h1 a ha) (fun e a' w' h => by obtain ⟨rfl, s, hf, hi⟩ := h; exact h2 s w' hi a' hf)
theorem nx_cutE {σ : Type} {L' : σ → Env} {I : σ → World → Prop} (s : σ) (hs : Sub (L' s) L) (hi : I s w) : NX (CutE m D L' I) m D .normal L w := fun a ha => ⟨rfl, s, ha.sub hs, hi⟩
/-- The drawn region, its facts told of the world ahead of it. -/
theorem wc_draw' {id : Nat} (N : Nat) (hW : Wd F) (hm : P.follows .mixedOrders = true) (hck : freeOk ops N = true)
    (hq : ∀ w0, Ext w w0 → QW F n P m D ops w0 (Tail F n P Q m D ops (ops.drop N) w0) (ops.take N) L []) : WC F n P Q m D (.region id ops.toArray true) L w := wc_draw N hW hm hck (hq _ (ext_drew w))
end

theorem KeepsFrom.of_keep {S : Nat → Prop} {B : Nat} {w w' : World} (h : Keep S w w') (hs : ∀ k o, B ≤ k → w.heap[k]? = some o → o.isCells = false → S k) : KeepsFrom B w w' :=
  ⟨h.size, fun k o hB hk ho => by rw [h.block k (Array.getElem?_eq_some_iff.1 hk).1 (hs k o hB hk ho)]; exact hk⟩
/-- A step that turns a block that is no cells. -/
structure Nc (B : Nat) (w w' : World) : Prop where
  ex : ∃ row, w.grownBy w' row ∧ ∀ r, row = some r → B ≤ r ∧ ∃ o : Obj, w.heap[r]? = some o ∧ o.isCells = false
theorem Nc.cell {B : Nat} {w w' : World} (h : Nc B w w') {ad : Addr} {v : Value} (hc : w.cell? ad = some v) : w'.cell? ad = some v := by
  obtain ⟨row, hg, hr⟩ := h.ex
  exact cell_kept hc hg (fun r e => (hr r e).2)
theorem Blk.nc {B : Nat} {w w' : World} {b : Nat} {cs : List Value} {t : TypeId} (h : Blk w b cs t) (hn : Nc B w w') : Blk w' b cs t := by
  obtain ⟨row, hg, hr⟩ := hn.ex
  refine (hg.block b h.lt (fun e => ?_)).trans h
  obtain ⟨-, o, ho, hc⟩ := hr b e.symm
  unfold Blk at h
  rw [h] at ho
  cases ho
  cases hc
theorem Keep.nc {S : Nat → Prop} {B : Nat} {w0 w w' : World} (h : Keep S w0 w) (hn : Nc B w w') (hB : w0.heap.size ≤ B) : Keep S w0 w' := by
  obtain ⟨row, hg, hr⟩ := hn.ex
  exact ⟨hg.os.trans h.os, hg.tape.trans h.tape, hg.output.trans h.output, Nat.le_trans h.size hg.size, fun k hk hs => (hg.block k (Nat.lt_of_lt_of_le hk h.size) (fun e => by have := (hr k e.symm).1; omega)).trans (h.block k hk hs)⟩
theorem ownFrom_of {β : Type} {B : Nat} {I : β → World → Prop} (h : ∀ s w w', I s w → Nc B w w' → I s w') : OwnFrom B I := fun s W W' row hs hg hr => h s W W' hs ⟨row, hg, hr⟩

section
variable {P : Program} {Q : Exit → Act → World → Prop} {m : Nat} {D : List Deferred} {L : Env} {w w' w0 : World}
/-- What the body of a round must come to. -/
def RoundQ {α : Type} (B : Nat) (S : Nat → Prop) (I : List α → World → Prop) (Ix : Code → List α → World → Prop) (xs : List α) (W : World) : Exit → Act → World → Prop := ownPostG B (Keep S) I Ix xs W
theorem round_normal {α : Type} {B : Nat} {S S' : Nat → Prop} {I : List α → World → Prop} {Ix : Code → List α → World → Prop} {xs : List α} {W : World} (hk : Keep S' W w) (hs : ∀ k, S k → S' k) (hc : ∀ k o, B ≤ k → W.heap[k]? = some o → o.isCells = false → S' k) (hi : I xs w) :
    NX (RoundQ B S I Ix xs W) m D .normal L w := fun a h => ⟨KeepsFrom.of_keep hk hc, hk.mono (fun k _ h => hs k h), hi⟩
theorem wc_range {α : Type} {g : Operand} {p : Nat} {assign body : Code} {gf : Nat} {lb : List Value} (enc : α → Value) (S : Nat → Prop) (Sd Sp : List α → Prop) (N : Nat)
    (hg : ev L g = some (.func (.func gf) #[] lb.toArray)) (he : Enters P gf) (hp : Nat.blt p m = true)
    (hseq : SeqStopsK Fence.wide 8 P gf lb.toArray (fun x => #[enc x]) (Keep S) Sd Sp N w) (hS : ∀ k, S k → k < w.heap.size)
    (I : List α → World → Prop) (Ix : Code → List α → World → Prop) (hI : ∀ s W W', I s W → Nc w.heap.size W W' → I s W') (hIx : ∀ c s W W', Ix c s W → Nc w.heap.size W W' → Ix c s W') (h0 : I [] w) (La : α → Env)
    (hassign : ∀ (l : Nat) (x : α) (W : World) (K : Act → World → Prop), NX (fun _ a w => K a w) m [] .normal (La x) W → WC (Fence.wide.inRound l) 7 P (Exit.then K (fun _ _ _ => False)) m [] assign ((p, enc x) :: L) W)
    (hbody : ∀ (l : Nat) (pre : List α) (x : α) (W : World), I pre W → pre.length < N → WC (Fence.wide.inRound l) 7 P (RoundQ w.heap.size S I Ix (pre ++ [x]) W) m [] body (La x) W)
    (hdone : ∀ (B : Nat) (xs : List α) (W : World), w.heap.size ≤ B → Sd xs → I xs W → W.heap[B]? = some (.deferred (some [])) → NX Q m (mark B :: D) .normal L W)
    (hstop : ∀ (B : Nat) (c : Code) (pre : List α) (W : World), w.heap.size ≤ B → Sp pre → Ix c pre W → W.heap[B]? = some (.deferred (some [])) → WC Fence.wide 9 P Q m (mark B :: D) c L W) :
    WC Fence.wide 9 P Q m D (.rangeFunc g #[p] assign body) L w := by
  intro a ha
  have hpm : p < m := by simpa using hp
  refine wpIn_rangeFunc_ownH (F := Fence.wide) (n := 9) rfl (by omega) (gf := gf) (lb := lb.toArray) (ha.ev hg) trivial he (encs := fun x => #[enc x]) (Kp := Keep S) (S := Sd) (Sp := Sp) (N := N) (w0 := w) hseq (fun h k => h.trans k) ?_ (Below.refl _ _) (fun _ => rfl)
    I Ix (ownFrom_of hI) (fun c => ownFrom_of (hIx c)) h0 (fun x a' _ => Fr m [] a' (La x)) (fun x a' => ownFrom_of (fun _ _ _ h _ => h)) ?_ ?_ ?_ ?_
  · intro W l o o' hl h ho _
    exact ⟨rfl, rfl, rfl, by simp [World.putObj], fun k hk hs => World.putObj_heap_other (by have := hS k hs; omega)⟩
  · intro l pre x W K hi hK
    refine hassign l x W K (fun a' h' => hK a' W (KeepsFrom.refl _ _) (Keep.refl _ _) hi h') _ ?_
    refine ⟨by simp [ha.size], rfl, fun i v hi => ?_⟩
    rw [at_cons] at hi
    show ((#[p].zip #[enc x]).foldl (fun t (q : Nat × Value) => t.setIfInBounds q.1 q.2) a.tmps)[i]? = some v
    have e : (#[p].zip #[enc x]).foldl (fun t (q : Nat × Value) => t.setIfInBounds q.1 q.2) a.tmps = a.tmps.setIfInBounds p (enc x) := by simp
    rw [e]
    split at hi
    · rename_i e; subst e; cases hi; simp [ha.size, hpm]
    · rename_i e; rw [Array.getElem?_setIfInBounds_ne e]; exact ha.get i v hi
  · intro l pre x a' W _ _ hi hax hlt
    exact hbody l pre x W hi hlt a' hax
  · intro B xs W hB hs hi hk
    exact hdone B xs W hB hs hi hk _ ⟨ha.size, by simp [mark, ha.defers], ha.get⟩
  · intro B c pre W hB hs hi hk
    exact hstop B c pre W hB hs hi hk _ ⟨ha.size, by simp [mark, ha.defers], ha.get⟩
end
end Go.Proofs.Ytblbddamebbgaaa.K

/- A drawn region in which some operations, each forced behind the one before, turn blocks: all others may come among them. Facts are told by phases: how many of these operations have come up. -/
namespace Go.Proofs.Ytblbddamebbgaaa.K
open Go Go.RowKit
set_option linter.unusedVariables false
set_option linter.unusedSectionVars false
set_option linter.unusedSimpArgs false

/-- A value's fact, by phases. -/
abbrev PVP := Nat → VP
inductive Sq
  | c (v : Value)
  | p (q : PVP)
def Sq.holds : Sq → PVP
  | .c v => fun _ u _ => u = v
  | .p q => q
def Sq.env (s : Sq) (d : Nat) (L : Env) : Env := match s with
  | .c v => (d, v) :: L
  | .p _ => L
def Sq.fac (s : Sq) (d : Nat) (V : List (Nat × PVP)) : List (Nat × PVP) := match s with
  | .c _ => V
  | .p q => (d, q) :: V
/-- The operations that turn blocks; what holds of the world by phases; what each of them keeps. -/
structure Spx where
  si : List Nat
  J : Nat → World → Prop
  G : Nat → World → World → Prop
def Spx.at (X : Spx) (k : Nat) : Nat := X.si.getD k 0

inductive DoesX (F : Fence) (n : Nat) (P : Program) (ρ : Operand → Value) (o : Oper) (w : World) (R : Value → World → Prop) : Prop
  | val (v : Value) (w' : World) (h : (execOp ρ o).run P w = .ok (.value v) w') (hr : R v w') : DoesX F n P ρ o w R
  | skip (w' : World) (h : (execOp ρ o).run P w = .ok .skip w') (hr : R undef w') : DoesX F n P ρ o w R
  | call (f : FuncId) (args : Array Value) (w' : World) (h : (execOp ρ o).run P w = .ok (.enter f args) w') (hc : CallsIn F (n - 1) P f args w' (ok1 R)) : DoesX F n P ρ o w R
def FactsAt (ops : List Oper) (o : Oper) (V : List (Nat × PVP)) (ph : Nat) (a : Act) (w : World) : Prop := ∀ q ∈ V, q.1 ∈ looks ops o → ∃ v, a.tmps[q.1]? = some v ∧ q.2 ph v w
/-- Where an operation comes up that some of these operations wait for. -/
def Bef (X : Spx) (ops : List Oper) (i ph : Nat) : Prop := ∀ k, k < X.si.length → (∀ o, ops[X.at k]? = some o → i ∈ needsL o) → ph ≤ k
def Free1Q (X : Spx) (i : Nat) (F : Fence) (n : Nat) (P : Program) (m : Nat) (D : List Deferred) (ops : List Oper) (o : Oper) (L : Env) (V : List (Nat × PVP)) (R : PVP) : Prop :=
  ∀ ph w', ph ≤ X.si.length → Bef X ops i ph → X.J ph w' → ∀ a, Fr m D a L → FactsAt ops o V ph a w' →
    (Region.wanted o (yielded ops.toArray a.tmps) = true ∧ Does F n P a.eval o w' (fun v w'' => R ph v w'' ∧ Ext w' w'')) ∨ (Region.wanted o (yielded ops.toArray a.tmps) = false ∧ R ph undef w')
def SpQ (X : Spx) (k : Nat) (F : Fence) (n : Nat) (P : Program) (m : Nat) (D : List Deferred) (ops : List Oper) (o : Oper) (L : Env) (V : List (Nat × PVP)) (R : PVP) : Prop :=
  ∀ w', X.J k w' → ∀ a, Fr m D a L → FactsAt ops o V k a w' → Region.wanted o (yielded ops.toArray a.tmps) = true ∧
    DoesX F n P a.eval o w' (fun v w'' => R (k + 1) v w'' ∧ X.J (k + 1) w'' ∧ X.G k w' w'' ∧ FactsAt ops o V (k + 1) a w'')
/-- What a value's fact must bear. -/
def StabX (X : Spx) (ops : List Oper) (i d : Nat) (R : PVP) : Prop := (∀ ph v w w', R ph v w → Ext w w' → R ph v w') ∧
  ∀ k, k < X.si.length → X.at k ≠ i → (∀ o, ops[X.at k]? = some o → d ∉ looks ops o) → ∀ v w w', R k v w → X.G k w w' → R (k + 1) v w'
def NoSp (X : Spx) (i : Nat) : Prop := ∀ k, k < X.si.length → X.at k ≠ i
def QWX (X : Spx) (F : Fence) (n : Nat) (P : Program) (m : Nat) (D : List Deferred) (ops : List Oper) (K : Env → List (Nat × PVP) → Prop) : Nat → List Oper → Env → List (Nat × PVP) → Prop
  | _, [], L, V => K L V
  | i, o :: rest, L, V => (o.dst = none ∧ (∃ k, k < X.si.length ∧ X.at k = i ∧ SpQ X k F n P m D ops o L V (fun _ _ _ => True)) ∧ QWX X F n P m D ops K (i + 1) rest L V) ∨
      (∃ d, o.dst = some d ∧ Nat.blt d m = true ∧ ∃ s : Sq, (∀ q, s = .p q → at' L d = none) ∧ StabX X ops i d s.holds ∧
        ((∃ k, k < X.si.length ∧ X.at k = i ∧ SpQ X k F n P m D ops o L V s.holds) ∨ (NoSp X i ∧ Free1Q X i F n P m D ops o L V s.holds)) ∧ QWX X F n P m D ops K (i + 1) rest (s.env d L) (s.fac d V))
def TailX (X : Spx) (F : Fence) (n : Nat) (P : Program) (Q : Exit → Act → World → Prop) (m : Nat) (D : List Deferred) (ops tail : List Oper) (L : Env) (V : List (Nat × PVP)) : Prop :=
  ∀ w', X.J X.si.length w' → ∀ (L' : Env), (∀ q ∈ V, ∃ v, at' L' q.1 = some v ∧ q.2 X.si.length v w') → Sub L L' → WL F n P Q m D ops tail L' w'

def Lq (ops : List Oper) (S : Nat → Sq) (L : Env) : Nat → Env
  | 0 => L
  | i + 1 => match gdst ops i with
    | some d => (S i).env d (Lq ops S L i)
    | none => Lq ops S L i
def Vq (ops : List Oper) (S : Nat → Sq) (V : List (Nat × PVP)) : Nat → List (Nat × PVP)
  | 0 => V
  | i + 1 => match gdst ops i with
    | some d => (S i).fac d (Vq ops S V i)
    | none => Vq ops S V i
/-- What is asked of operation i. -/
structure ObX (X : Spx) (F : Fence) (n : Nat) (P : Program) (m : Nat) (D : List Deferred) (ops : List Oper) (S : Nat → Sq) (L : Env) (V : List (Nat × PVP)) (i : Nat) (o : Oper) : Prop where
  slot : ∀ d, o.dst = some d → Nat.blt d m = true ∧ (∀ q, S i = .p q → at' (Lq ops S L i) d = none) ∧ StabX X ops i d (S i).holds
  does : (∃ k, k < X.si.length ∧ X.at k = i ∧ SpQ X k F n P m D ops o (Lq ops S L i) (Vq ops S V i) (fun ph v w => ∀ d, o.dst = some d → (S i).holds ph v w)) ∨ (o.dst.isSome = true ∧ NoSp X i ∧ Free1Q X i F n P m D ops o (Lq ops S L i) (Vq ops S V i) (S i).holds)

section
variable {F : Fence} {n : Nat} {P : Program} {Q : Exit → Act → World → Prop} {m : Nat} {D : List Deferred} {ops : List Oper} {X : Spx} {a0 : Act} {L0 : Env}
theorem Lq_congr {L : Env} {S1 S2 : Nat → Sq} : ∀ k, (∀ j, j < k → S1 j = S2 j) → Lq ops S1 L k = Lq ops S2 L k
  | 0, _ => rfl
  | k + 1, he => by simp only [Lq]; rw [he k (by omega), Lq_congr k (fun j hj => he j (by omega))]
theorem Vq_congr {V : List (Nat × PVP)} {S1 S2 : Nat → Sq} : ∀ k, (∀ j, j < k → S1 j = S2 j) → Vq ops S1 V k = Vq ops S2 V k
  | 0, _ => rfl
  | k + 1, he => by simp only [Vq]; rw [he k (by omega), Vq_congr k (fun j hj => he j (by omega))]
theorem does_mono {ρ : Operand → Value} {o : Oper} {w : World} {R R' : Value → World → Prop} (h : DoesX F n P ρ o w R) (hr : ∀ v w', R v w' → R' v w') : DoesX F n P ρ o w R' := by
  cases h with
  | val v w' h h1 => exact .val v w' h (hr _ _ h1)
  | skip w' h h1 => exact .skip w' h (hr _ _ h1)
  | call f args w' h hc => exact .call f args w' h (hc.mono fun e w'' ⟨v, he, h1⟩ => ⟨v, he, hr _ _ h1⟩)
theorem qw_specsX {K : Env → List (Nat × PVP) → Prop} {L : Env} {V : List (Nat × PVP)} : ∀ (rest : List Oper) (i : Nat) (S : Nat → Sq), (∀ j o, rest[j]? = some o → ops[i + j]? = some o) →
    QWX X F n P m D ops K i rest (Lq ops S L i) (Vq ops S V i) →
    ∃ S' : Nat → Sq, (∀ j, j < i → S' j = S j) ∧ (∀ j o, i ≤ j → rest[j - i]? = some o → ObX X F n P m D ops S' L V j o) ∧ K (Lq ops S' L (i + rest.length)) (Vq ops S' V (i + rest.length))
  | [], i, S, ho, h => ⟨S, fun _ _ => rfl, fun j o _ hj => by simp at hj, h⟩
  | o :: rest, i, S, ho, h => by
    have hoi : ops[i]? = some o := by have := ho 0 o (by simp); simpa using this
    have ho' : ∀ j o', rest[j]? = some o' → ops[i + 1 + j]? = some o' := fun j o' hj => by
      have := ho (j + 1) o' (by simpa using hj); rwa [show i + (j + 1) = i + 1 + j from by omega] at this
    have hg : gdst ops i = o.dst := by rw [gdst_eq, hoi]; rfl
    have key : ∀ s : Sq, ObX X F n P m D ops (fun k => if k = i then s else S k) L V i o →
        QWX X F n P m D ops K (i + 1) rest (Lq ops (fun k => if k = i then s else S k) L (i + 1)) (Vq ops (fun k => if k = i then s else S k) V (i + 1)) →
        ∃ S' : Nat → Sq, (∀ j, j < i → S' j = S j) ∧ (∀ j o', i ≤ j → (o :: rest)[j - i]? = some o' → ObX X F n P m D ops S' L V j o') ∧ K (Lq ops S' L (i + (o :: rest).length)) (Vq ops S' V (i + (o :: rest).length)) := by
      intro s hob hq
      obtain ⟨S', h1, h2, h3⟩ := qw_specsX rest (i + 1) (fun k => if k = i then s else S k) ho' hq
      have hlow : ∀ j, j < i → S' j = S j := fun j hj => by rw [h1 j (by omega)]; simp [show j ≠ i from by omega]
      refine ⟨S', hlow, fun j o' hij hj => ?_, by rw [List.length_cons, show i + (rest.length + 1) = i + 1 + rest.length from by omega]; exact h3⟩
      by_cases e : j = i
      · subst e
        simp at hj
        subst hj
        have hL := Lq_congr (ops := ops) (L := L) (S1 := S') (S2 := fun k => if k = j then s else S k) j (fun k hk => h1 k (by omega))
        have hV := Vq_congr (ops := ops) (V := V) (S1 := S') (S2 := fun k => if k = j then s else S k) j (fun k hk => h1 k (by omega))
        have hS := h1 j (by omega)
        exact ⟨by rw [hS, hL]; exact hob.slot, by rw [hS, hL, hV]; exact hob.does⟩
      · refine h2 j o' (by omega) ?_
        have : j - i = (j - (i + 1)) + 1 := by omega
        rw [this, List.getElem?_cons_succ] at hj
        exact hj
    have hLk : ∀ s : Sq, Lq ops (fun k => if k = i then s else S k) L i = Lq ops S L i := fun s => Lq_congr i fun j hj => if_neg (by omega)
    have hVk : ∀ s : Sq, Vq ops (fun k => if k = i then s else S k) V i = Vq ops S V i := fun s => Vq_congr i fun j hj => if_neg (by omega)
    rcases h with ⟨hd, ⟨k, hk, hi, hs⟩, hq⟩ | ⟨d, hd, hdm, s, hno, hst, hdo, hq⟩
    · refine key (S i) ⟨fun d h => (by rw [hd] at h; cases h), .inl ⟨k, hk, hi, ?_⟩⟩ ?_
      · rw [hLk, hVk]
        intro w' hJ a ha hf
        obtain ⟨h1, h2⟩ := hs w' hJ a ha hf
        exact ⟨h1, does_mono h2 fun v w'' h => ⟨fun d h' => (by rw [hd] at h'; cases h'), h.2⟩⟩
      · simp only [Lq, Vq, hg, hd, hLk, hVk]; exact hq
    · refine key s ⟨fun d' h => ?_, ?_⟩ ?_
      · rw [hd] at h; cases h
        rw [if_pos rfl, hLk]
        exact ⟨hdm, hno, hst⟩
      · rw [hLk, hVk]
        rcases hdo with ⟨k, hk, hi, hs⟩ | ⟨hn, hf⟩
        · refine .inl ⟨k, hk, hi, ?_⟩
          intro w' hJ a ha hf
          obtain ⟨h1, h2⟩ := hs w' hJ a ha hf
          exact ⟨h1, does_mono h2 fun v w'' h => ⟨fun d _ => (by rw [if_pos rfl]; exact h.1), h.2⟩⟩
        · exact .inr ⟨by rw [hd]; rfl, hn, by rw [if_pos rfl]; exact hf⟩
      · simp only [Lq, Vq, hg, hd, if_pos, hLk, hVk]; exact hq

theorem lq_some {S : Nat → Sq} {s : Nat} {v : Value} : ∀ i, at' (Lq ops S L0 i) s = some v → (∃ j, j < i ∧ gdst ops j = some s ∧ S j = .c v) ∨ (at' L0 s = some v ∧ ∀ j, j < i → ∀ c, gdst ops j = some s → S j ≠ .c c)
  | 0, h => .inr ⟨h, fun j hj => absurd hj (Nat.not_lt_zero _)⟩
  | i + 1, h => by
    have low : at' (Lq ops S L0 i) s = some v → (∀ c, gdst ops i = some s → S i ≠ .c c) → (∃ j, j < i + 1 ∧ gdst ops j = some s ∧ S j = .c v) ∨ (at' L0 s = some v ∧ ∀ j, j < i + 1 → ∀ c, gdst ops j = some s → S j ≠ .c c) := fun h hn => by
      rcases lq_some i h with ⟨j, hj, h1, h2⟩ | ⟨h1, h2⟩
      · exact .inl ⟨j, by omega, h1, h2⟩
      · refine .inr ⟨h1, fun j hj c hg => ?_⟩
        by_cases ej : j = i
        · subst ej; exact hn c hg
        · exact h2 j (by omega) c hg
    simp only [Lq] at h
    cases hg : gdst ops i with
    | none => rw [hg] at h; exact low h (fun c h' => by rw [hg] at h'; cases h')
    | some d =>
      rw [hg] at h
      cases hS : S i with
      | p q => rw [hS] at h; exact low h (fun c _ h' => by rw [hS] at h'; cases h')
      | c u =>
        rw [hS] at h
        simp only [Sq.env] at h
        rw [at_cons] at h
        split at h
        · rename_i e; subst e; cases h; exact .inl ⟨i, by omega, hg, hS⟩
        · rename_i e; exact low h (fun c h' => by rw [hg] at h'; cases h'; exact absurd rfl e)
theorem lq_none {S : Nat → Sq} {s : Nat} : ∀ i, at' (Lq ops S L0 i) s = none → at' L0 s = none
  | 0, h => h
  | i + 1, h => by
    simp only [Lq] at h
    split at h
    · cases hS : S i with
      | p q => rw [hS] at h; exact lq_none i h
      | c u =>
        rw [hS] at h
        simp only [Sq.env] at h
        rw [at_cons] at h
        split at h
        · cases h
        · exact lq_none i h
    · exact lq_none i h
theorem vq_mem {S : Nat → Sq} {q : Nat × PVP} : ∀ i, q ∈ Vq ops S [] i → ∃ j, j < i ∧ gdst ops j = some q.1 ∧ S j = .p q.2
  | 0, h => by cases h
  | i + 1, h => by
    simp only [Vq] at h
    split at h
    · rename_i d hd
      cases hS : S i with
      | c u => rw [hS] at h; obtain ⟨j, hj, h1⟩ := vq_mem i h; exact ⟨j, by omega, h1⟩
      | p p =>
        rw [hS] at h
        rcases List.mem_cons.1 h with h | h
        · subst h; exact ⟨i, by omega, hd, hS⟩
        · obtain ⟨j, hj, h1⟩ := vq_mem i h; exact ⟨j, by omega, h1⟩
    · obtain ⟨j, hj, h1⟩ := vq_mem i h; exact ⟨j, by omega, h1⟩
theorem mem_vq {S : Nat → Sq} {j d : Nat} {p : PVP} (hg : gdst ops j = some d) (hS : S j = .p p) : ∀ i, j < i → (d, p) ∈ Vq ops S [] i
  | 0, h => absurd h (Nat.not_lt_zero _)
  | i + 1, h => by
    simp only [Vq]
    by_cases e : j = i
    · subst e; rw [hg, hS]; simp [Sq.fac]
    · have := mem_vq hg hS i (by omega)
      split
      · cases S i <;> simp [Sq.fac, this]
      · exact this

/-- Each of these operations is forced behind the ones before it. -/
def chainOk (ops : List Oper) (N : Nat) (si : List Nat) : Bool :=
  let ms := masks ops []
  (List.range si.length).all fun k => Nat.blt (si.getD k 0) N && (List.range k).all fun j => (ms.getD (si.getD k 0) 0).testBit (si.getD j 0)
theorem chain_of {N : Nat} {si : List Nat} (hc : Chk ops N) (h : chainOk ops N si = true) : (∀ k, k < si.length → si.getD k 0 < N) ∧ ∀ k j, j < k → k < si.length → ∀ ls : Nat → Bool, PC ops ls → (∀ o, ops[si.getD k 0]? = some o → ∀ j ∈ needsL o, ls j = true) → ls (si.getD j 0) = true := by
  simp only [chainOk, List.all_eq_true, List.mem_range, Bool.and_eq_true] at h
  refine ⟨fun k hk => by simpa using (h k hk).1, fun k j hj hk ls hpc hn => ?_⟩
  have hN : si.getD k 0 < N := by simpa using (h k hk).1
  have := free_len hc
  have hlt : si.getD k 0 < ops.length := by omega
  exact masks_ok (ops := ops) ops [] [] rfl rfl (fun i hi => absurd hi (Nat.not_lt_zero _)) (si.getD k 0) hlt ls hpc hn _ ((h k hk).2 j hj)

structure InvX (X : Spx) (m : Nat) (D : List Deferred) (ops : List Oper) (N : Nat) (S : Nat → Sq) (L0 : Env) (listed : Array Bool) (a : Act) (w : World) (ph : Nat) : Prop where
  size : listed.size = ops.length
  tail : ∀ i, N ≤ i → i < ops.length → listed.getD i false = false
  pc : PC ops (fun i => listed.getD i false)
  phle : ph ≤ X.si.length
  phase : ∀ k, k < X.si.length → (listed.getD (X.at k) false = true ↔ k < ph)
  world : X.J ph w
  tsize : a.tmps.size = m
  defers : a.defers = D
  old : ∀ s v, at' L0 s = some v → (∀ i, i < N → gdst ops i = some s → listed.getD i false = false) → a.tmps[s]? = some v
  new : ∀ i, i < N → listed.getD i false = true → ∀ d, gdst ops i = some d → ∃ v, a.tmps[d]? = some v ∧ (S i).holds ph v w

theorem any_freeX {N : Nat} {S : Nat → Sq} {V : List (Nat × PVP)} (hW : Wd F) (hc : Chk ops N) (hJ : ∀ ph w w', X.J ph w → Ext w w' → X.J ph w') (hsN : ∀ k, k < X.si.length → X.at k < N)
    (hch : ∀ k j, j < k → k < X.si.length → ∀ ls : Nat → Bool, PC ops ls → (∀ o, ops[X.at k]? = some o → ∀ j ∈ needsL o, ls j = true) → ls (X.at j) = true)
    (hL0 : ∀ s v, at' L0 s = some v → s < m) (hob : ∀ i o, i < N → ops[i]? = some o → ObX X F n P m D ops S L0 [] i o) (hV : V = Vq ops S [] N)
    (htail : TailX X F n P Q m D ops (ops.drop N) (Lq ops S L0 N) V) :
    ∀ (fuel : Nat) (listed : Array Bool) (a : Act) (w : World) (ph : Nat), InvX X m D ops N S L0 listed a w ph → ops.length - N + ((List.range N).filter fun i => !listed.getD i false).length ≤ fuel →
      wpAnyIn F n P .any ops.toArray Q fuel listed a w := by
  have hNl := free_len hc
  have hslot : ∀ i d, i < N → gdst ops i = some d → d < m ∧ StabX X ops i d (S i).holds ∧ (∀ q, S i = .p q → at' (Lq ops S L0 i) d = none) := fun i d hi hg => by
    obtain ⟨o, ho, -, -⟩ := hc.free i hi
    rw [gdst_eq, ho] at hg
    obtain ⟨h1, h2, h3⟩ := (hob i o hi ho).slot d hg
    exact ⟨by simpa using h1, h3, h2⟩
  have hread : ∀ (listed : Array Bool) (a : Act) (w : World) (ph : Nat), InvX X m D ops N S L0 listed a w ph → ∀ i s v, i ≤ N → at' (Lq ops S L0 i) s = some v → (∀ j, j < N → gdst ops j = some s → (j < i ∧ listed.getD j false = true) ∨ (i ≤ j ∧ listed.getD j false = false)) → a.tmps[s]? = some v := by
    intro listed a w ph hI i s v hi hs hall
    rcases lq_some i hs with ⟨j, hj, hg, hS⟩ | ⟨h1, h2⟩
    · obtain ⟨u, hu, hh⟩ := hI.new j (by omega) ((hall j (by omega) hg).elim (fun h => h.2) (fun h => absurd h.1 (by omega))) s hg
      rw [hS] at hh
      have : u = v := hh
      rw [← this]; exact hu
    · refine hI.old s v h1 (fun j hj hg => ?_)
      rcases hall j hj hg with hall' | hall'
      case inr => exact hall'.2
      exfalso
      have hji := hall'.1
      cases hSj : S j with
      | c c => exact h2 j hji c hg hSj
      | p q =>
        have := lq_none j ((hslot j s hj hg).2.2 q hSj)
        rw [this] at h1; cases h1
  have hfin : ∀ (listed : Array Bool) (a : Act) (w : World) (ph : Nat), InvX X m D ops N S L0 listed a w ph → (∀ i, i < N → listed.getD i false = true) → wpListIn F n P ops.toArray Q (ops.drop N) a w := by
    intro listed a w ph hI hall
    have hph : ph = X.si.length := by
      have h1 := hI.phle
      by_cases e : ph < X.si.length
      · have := (hI.phase ph e).1 (hall _ (hsN ph e)); omega
      · omega
    subst hph
    refine htail w hI.world ((List.range m).map fun i => (i, a.tmps.getD i undef)) (fun q hq => ?_) (fun s v hs => ?_) a ⟨hI.tsize, hI.defers, fun s v hs => ?_⟩
    · rw [hV] at hq
      obtain ⟨j, hj, hgj, hSj⟩ := vq_mem N hq
      obtain ⟨v, hv, hh⟩ := hI.new j hj (hall j hj) q.1 hgj
      have hm := (hslot j q.1 hj hgj).1
      refine ⟨v, ?_, by rw [hSj] at hh; exact hh⟩
      rw [at_tab_mem _ (List.mem_range.2 hm), Array.getD_eq_getD_getElem?, hv]; rfl
    · have hv := hread listed a w _ hI N s v (Nat.le_refl _) hs (fun j hj hgj => .inl ⟨hj, hall j hj⟩)
      have hsm : s < m := by rw [← hI.tsize]; exact (Array.getElem?_eq_some_iff.1 hv).1
      rw [at_tab_mem _ (List.mem_range.2 hsm), Array.getD_eq_getD_getElem?, hv]; rfl
    · obtain ⟨h1, h2⟩ := at_tab _ hs
      rw [List.mem_range] at h1
      rw [h2, Array.getD_eq_getD_getElem?, Array.getElem?_eq_getElem (by rw [hI.tsize]; exact h1)]; rfl
  intro fuel
  induction fuel with
  | zero =>
    intro listed a w ph hI hf
    have h0 : ops.length = N := by omega
    have hall : ∀ i, i < N → listed.getD i false = true := fun i hi => by
      have hz : ((List.range N).filter fun i => !listed.getD i false) = [] := List.eq_nil_of_length_eq_zero (by omega)
      rw [List.filter_eq_nil_iff] at hz
      simpa using hz i (List.mem_range.2 hi)
    exact any_tail hc 0 N listed a w (Nat.le_refl _) hNl hI.size (fun i hi => by rw [hall i (by omega)]; exact (decide_eq_true (by omega)).symm) (by omega) (hfin listed a w ph hI hall)
  | succ fuel ih =>
    intro listed a w ph hI hf
    by_cases hall : ∀ i, i < N → listed.getD i false = true
    · have hz : ((List.range N).filter fun i => !listed.getD i false) = [] := by
        rw [List.filter_eq_nil_iff]; intro i hi; simp [hall i (List.mem_range.1 hi)]
      rw [hz] at hf
      exact any_tail hc (fuel + 1) N listed a w (Nat.le_refl _) hNl hI.size (fun i hi => by
        by_cases h : i < N
        · rw [hall i h, decide_eq_true h]
        · rw [hI.tail i (by omega) hi, decide_eq_false h]) (by simp at hf; omega) (hfin listed a w ph hI hall)
    · have hex : ∃ i, i < N ∧ listed.getD i false = false := by
        refine Classical.byContradiction fun hne => hall fun i hi => ?_
        cases hl : listed.getD i false with
        | true => rfl
        | false => exact absurd ⟨i, hi, hl⟩ hne
      refine ⟨fun hr => ?_, fun i hi => ?_⟩
      · exfalso
        obtain ⟨i0, hi0, h1, h2⟩ := least (fun i => listed.getD i false) N hex
        have hlt : i0 < ops.length := by omega
        have : i0 ∈ Region.ready .any ops.toArray listed := ready_iff.2 ⟨ops[i0], List.getElem?_eq_getElem hlt, by rw [gd (b := true) (c := false) (by rw [hI.size]; exact hlt)]; exact h1, fun j hj => h2 j (hc.back i0 _ (List.getElem?_eq_getElem hlt) j hj)⟩
        rw [hr] at this; cases this
      · obtain ⟨o, ho, h1, h2⟩ := ready_iff.1 hi
        have hlt := (List.getElem?_eq_some_iff.1 ho).1
        have hiN : i < N := by
          refine Classical.byContradiction fun hge => ?_
          obtain ⟨j0, hj0, hun⟩ := hex
          have := hc.all i (by omega) hlt (fun j => listed.getD j false) hI.pc (fun o' ho' j hj => by rw [ho] at ho'; cases ho'; exact h2 j hj) j0 (by omega)
          rw [hun] at this; cases this
        have hun : listed.getD i false = false := by rw [gd (b := false) (c := true) (by rw [hI.size]; exact hlt)]; exact h1
        obtain ⟨o', ho', hpl, hlk⟩ := hc.free i hiN
        rw [ho] at ho'; cases ho'
        have hO := hob i o hiN ho
        have hg : gdst ops i = o.dst := by rw [gdst_eq, ho]; rfl
        have hlcm : ∀ s v, at' (Lq ops S L0 i) s = some v → s < m := fun s v hs => by
          rcases lq_some i hs with ⟨j, hj, hgj, -⟩ | ⟨h, -⟩
          · exact (hslot j s (by omega) hgj).1
          · exact hL0 s v h
        let st : Act := { a with tmps := Array.ofFn (n := m) fun s => (at' (Lq ops S L0 i) s.1).getD (a.tmps.getD s.1 undef) }
        have hstar : ∀ s, (∀ v, at' (Lq ops S L0 i) s = some v → a.tmps[s]? = some v) → st.tmps[s]? = a.tmps[s]? := fun s h => by
          show (Array.ofFn (n := m) fun s => (at' (Lq ops S L0 i) s.1).getD (a.tmps.getD s.1 undef))[s]? = _
          rw [Array.getElem?_ofFn]
          by_cases hs : s < m
          · rw [dif_pos hs]
            cases hat : at' (Lq ops S L0 i) s with
            | none => simp [Array.getD_eq_getD_getElem?, Array.getElem?_eq_getElem (show s < a.tmps.size by rw [hI.tsize]; exact hs)]
            | some v => simp [h v hat]
          · rw [dif_neg hs, Array.getElem?_eq_none (by rw [hI.tsize]; omega)]
        have hfr : Fr m D st (Lq ops S L0 i) := by
          refine ⟨by simp [st], hI.defers, fun s v hs => ?_⟩
          have hsm := hlcm s v hs
          show (Array.ofFn (n := m) fun s => (at' (Lq ops S L0 i) s.1).getD (a.tmps.getD s.1 undef))[s]? = _
          rw [Array.getElem?_ofFn, dif_pos hsm]; simp [hs]
        have hlook : ∀ s ∈ looks ops o, st.tmps[s]? = a.tmps[s]? := fun s hs => hstar s fun v hv => hread listed a w ph hI i s v (by omega) hv fun j hj hgj => by
          rcases hlk s hs j hj hgj with hn | ⟨oj, hoj, hn⟩
          · exact .inl ⟨hc.back i o ho j hn, h2 j hn⟩
          · refine .inr ⟨Nat.le_of_lt (hc.back j oj hoj i hn), ?_⟩
            cases hlj : listed.getD j false with
            | false => rfl
            | true =>
              have hli : listed.getD i false = true := hI.pc j oj hoj hlj i hn
              rw [hun] at hli; cases hli
        have hopd : ∀ x ∈ o.op.operands, st.eval x = a.eval x := fun x hx => by
          cases x with
          | tmp t =>
            have := hlook t (List.mem_append_left _ (List.mem_filterMap.2 ⟨.tmp t, by simpa using hx, rfl⟩))
            show st.tmps.getD t undef = a.tmps.getD t undef
            rw [Array.getD_eq_getD_getElem?, Array.getD_eq_getD_getElem?, this]
          | _ => rfl
        have hexec : execOp st.eval o = execOp a.eval o := execOp_congr o (fun cs b h => by rw [h] at hpl; cases hpl) hopd
        have hwant : Region.wanted o (yielded ops.toArray st.tmps) = Region.wanted o (yielded ops.toArray a.tmps) := by
          unfold Region.wanted
          cases hgd : o.guard with
          | none => rfl
          | some p =>
            obtain ⟨j, want⟩ := p
            have hy : yielded ops.toArray st.tmps j = yielded ops.toArray a.tmps j := by
              simp only [yielded, List.getElem?_toArray]
              cases hgj : (ops[j]?).bind (·.dst) with
              | none => rfl
              | some dj =>
                have := hlook dj (List.mem_append_right _ (by rw [hgd]; simp only [gdst_eq, hgj]; simp))
                simp only [Option.bind_some, this]
            simp only [hy]
        have hnd : ∀ c, o.op ≠ .defer c := fun c h => by rw [h] at hpl; cases hpl
        have hfacts : FactsAt ops o (Vq ops S [] i) ph st w := fun q hq hlo => by
          obtain ⟨j, hj, hgj, hSj⟩ := vq_mem i hq
          obtain ⟨v, hv, hh⟩ := hI.new j (by omega) (h2 j ((hlk q.1 hlo j (by omega) hgj).elim id fun ⟨oj, hoj, hn⟩ => absurd (hc.back j oj hoj i hn) (by omega))) q.1 hgj
          exact ⟨v, by rw [hlook q.1 hlo]; exact hv, by rw [hSj] at hh; exact hh⟩
        have hsz : i < listed.size := by rw [hI.size]; exact hlt
        -- what holds behind the operation
        have hnext : ∀ v w'' ph', ph' ≤ X.si.length → (∀ k, k < X.si.length → (k < ph' ↔ k < ph ∨ X.at k = i)) → X.J ph' w'' → (∀ d, o.dst = some d → (S i).holds ph' v w'') → (∀ j, j < N → j ≠ i → listed.getD j false = true → ∀ d u, gdst ops j = some d → a.tmps[d]? = some u → (S j).holds ph u w → (S j).holds ph' u w'') →
            wpAnyIn F n P .any ops.toArray Q fuel (listed.setIfInBounds i true) (a.put o.dst v) w'' := by
          intro v w'' ph' hple hphase hw'' hh hx
          refine ih _ _ _ ph' ⟨by simp [hI.size], fun k hk hkl => ?_, fun k ok hok hk j hj => ?_, hple, fun k hk => ?_, hw'', ?_, ?_, fun s u hs hk => ?_, fun k hk hkl dk hgk => ?_⟩ ?_
          · rw [getD_set hsz, if_neg (by omega)]; exact hI.tail k hk hkl
          · simp only [getD_set hsz] at hk ⊢
            by_cases e : i = j
            · rw [if_pos e]
            · rw [if_neg e]
              by_cases ek : i = k
              · subst ek; rw [ho] at hok; cases hok; exact h2 j hj
              · rw [if_neg ek] at hk; exact hI.pc k ok hok hk j hj
          · rw [getD_set hsz, hphase k hk]
            by_cases e : i = X.at k
            · rw [if_pos e]; simp [e]
            · rw [if_neg e, hI.phase k hk]
              exact ⟨.inl, fun h => h.elim id fun h => absurd h.symm e⟩
          · cases hd : o.dst <;> simp [Act.put, hI.tsize]
          · cases hd : o.dst <;> exact hI.defers
          · cases hd : o.dst with
            | none =>
              exact hI.old s u hs fun j hj hgj => by
                have := hk j hj hgj
                rw [getD_set hsz] at this
                by_cases e : i = j
                · rw [if_pos e] at this; cases this
                · rw [if_neg e] at this; exact this
            | some d =>
              have hne : d ≠ s := fun e => by
                subst e
                have := hk i hiN (hg.trans hd)
                rw [getD_set hsz, if_pos rfl] at this; cases this
              simp only [Act.put, Array.getElem?_setIfInBounds_ne hne]
              exact hI.old s u hs fun j hj hgj => by
                have := hk j hj hgj
                rw [getD_set hsz] at this
                by_cases e : i = j
                · rw [if_pos e] at this; cases this
                · rw [if_neg e] at this; exact this
          · rw [getD_set hsz] at hkl
            by_cases e : i = k
            · subst e
              rw [hg] at hgk
              have hm := (hslot i dk hiN (hg.trans hgk)).1
              exact ⟨v, by rw [hgk]; simp [Act.put, hI.tsize, hm], hh dk hgk⟩
            · rw [if_neg e] at hkl
              obtain ⟨u, hu, hhu⟩ := hI.new k hk hkl dk hgk
              refine ⟨u, ?_, hx k hk (fun e' => e e'.symm) hkl dk u hgk hu hhu⟩
              cases hd : o.dst with
              | none => exact hu
              | some d =>
                have hne : d ≠ dk := fun e' => by subst e'; exact hc.ne hiN hk e (hg.trans hd) hgk
                simp only [Act.put, Array.getElem?_setIfInBounds_ne hne]; exact hu
          · have := filter_lt (p := fun k => !(listed.setIfInBounds i true).getD k false) (q := fun k => !listed.getD k false) (List.range N) (fun k _ hk => by
              simp only [getD_set hsz] at hk
              by_cases e : i = k
              · rw [if_pos e] at hk; cases hk
              · rw [if_neg e] at hk; exact hk) ⟨i, List.mem_range.2 hiN, by simp [hun], by simp [getD_set hsz]⟩
            omega
        unfold wpOpIn
        rw [List.getElem?_toArray, ho]
        simp only
        rcases hO.does with ⟨k, hk, hki, hsp⟩ | ⟨hsome, hno, hfree⟩
        · -- one of those that turn blocks
          have hphk : ph = k := by
            have h3 : ¬ k < ph := fun h => by
              have := (hI.phase k hk).2 h
              rw [hki, hun] at this; cases this
            by_cases h4 : ph < k
            · have h5 := hch k ph h4 hk (fun j => listed.getD j false) hI.pc (fun o' ho' j hj => by rw [hki, ho] at ho'; cases ho'; exact h2 j hj)
              have := (hI.phase ph (by omega)).1 h5
              omega
            · omega
          subst hphk
          have hinj : ∀ j, j < X.si.length → X.at j = i → j = ph := fun j hj hji => by
            by_cases h3 : j < ph
            · have := (hI.phase j hj).2 h3; rw [hji, hun] at this; cases this
            · by_cases h4 : j = ph
              · exact h4
              · have h5 := hch j ph (by omega) hj (fun x => listed.getD x false) hI.pc (fun o' ho' x hx => by rw [hji, ho] at ho'; cases ho'; exact h2 x hx)
                rw [hki] at h5
                have h5' : listed.getD i false = true := h5
                rw [hun] at h5'; cases h5'
          obtain ⟨hw, hdo⟩ := hsp w hI.world st hfr hfacts
          rw [if_pos (hwant ▸ hw)]
          have hgo : ∀ v w'', (((fun ph v w => ∀ d, o.dst = some d → (S i).holds ph v w) : PVP) (ph + 1) v w'' ∧ X.J (ph + 1) w'' ∧ X.G ph w w'' ∧ FactsAt ops o (Vq ops S [] i) (ph + 1) st w'') → wpAnyIn F n P .any ops.toArray Q fuel (listed.setIfInBounds i true) (a.put o.dst v) w'' := fun v w'' ⟨h3, h4, h5, h6⟩ => by
            refine hnext v w'' (ph + 1) (by omega) (fun j hj => ?_) h4 h3 (fun j hj hji hl d u hgj hu hhu => ?_)
            · constructor
              · intro h7
                by_cases h8 : j < ph
                · exact .inl h8
                · have : j = ph := by omega
                  subst this; exact .inr hki
              · rintro (h7 | h7)
                · omega
                · have := hinj j hj h7; omega
            · by_cases hlo : d ∈ looks ops o
              · cases hSj : S j with
                | c c => rw [hSj] at hhu; exact hhu
                | p p =>
                  have hjn : j ∈ needsL o := (hlk d hlo j hj hgj).elim id fun ⟨oj, hoj, hn⟩ => by
                    have hli : listed.getD i false = true := hI.pc j oj hoj hl i hn
                    rw [hun] at hli; cases hli
                  have hjlt := hc.back i o ho j hjn
                  obtain ⟨u', hu', hh'⟩ := h6 (d, p) (mem_vq hgj hSj i hjlt) hlo
                  rw [hlook d hlo, hu] at hu'
                  cases hu'
                  exact hh'
              · exact (hslot j d hj hgj).2.1.2 ph hk (fun e => hji (by rw [← e, hki])) (fun o' ho' => by rw [hki, ho] at ho'; cases ho'; exact hlo) u w w'' hhu h5
          cases hdo with
          | val v w' h hr => exact wpIn_value hW hnd (by rw [← hexec]; exact h) (hgo v w' hr)
          | skip w' h hr => exact wpIn_skipped hW hnd (by rw [← hexec]; exact h) (hgo undef w' hr)
          | call f args w' h hcl =>
            rcases hcl with ⟨hF, hcl⟩
            have hx : (execOp a.eval o).run P w = .ok (.enter f args) w' := by rw [← hexec]; exact h
            exact wpIn_entered hW hnd hx ⟨hF, hcl⟩ (fun v w'' hr => hgo v w'' hr)
        · have hgo : ∀ v w'', (S i).holds ph v w'' → Ext w w'' → wpAnyIn F n P .any ops.toArray Q fuel (listed.setIfInBounds i true) (a.put o.dst v) w'' := fun v w'' h3 h4 =>
            hnext v w'' ph hI.phle (fun k hk => ⟨.inl, fun h => h.elim id fun h => absurd h (hno k hk)⟩) (hJ ph w w'' hI.world h4) (fun d _ => h3) (fun j hj _ _ d u hgj _ hhu => (hslot j d hj hgj).2.1.1 ph u w w'' hhu h4)
          have hbef : Bef X ops i ph := fun k hk hin => by
            refine Nat.le_of_not_lt fun hlt => ?_
            have h5 := (hI.phase k hk).2 hlt
            have h6 : X.at k < ops.length := by have := hsN k hk; omega
            have h7 := hI.pc (X.at k) ops[X.at k] (List.getElem?_eq_getElem h6) h5 i (hin _ (List.getElem?_eq_getElem h6))
            have h8 : listed.getD i false = true := h7
            rw [hun] at h8; cases h8
          rcases hfree ph w hI.phle hbef hI.world st hfr hfacts with ⟨hw, hdo⟩ | ⟨hw, hr⟩
          · rw [if_pos (hwant ▸ hw)]
            cases hdo with
            | val v w' h hr => exact wpIn_value hW hnd (by rw [← hexec]; exact h) (hgo v w' hr.1 hr.2)
            | call f args w' h hcl =>
              rcases hcl with ⟨hF, hcl⟩
              have hx : (execOp a.eval o).run P w = .ok (.enter f args) w' := by rw [← hexec]; exact h
              exact wpIn_entered hW hnd hx ⟨hF, hcl⟩ (fun v w'' hr => hgo v w'' hr.1 hr.2)
          · rw [if_neg (by rw [← hwant, hw]; simp)]
            exact ⟨fun f _ => hW.fn f, hgo undef w hr (Keep.refl _ _)⟩

/-- **A region that draws its order, some operations of which turn blocks, one behind the other.** -/
theorem wc_drawX {id : Nat} {L : Env} {w : World} (X : Spx) (N : Nat) (hW : Wd F) (hm : P.follows .mixedOrders = true) (hck : freeOk ops N = true) (hchk : chainOk ops N X.si = true) (hJ : ∀ ph w w', X.J ph w → Ext w w' → X.J ph w')
    (h0 : ∀ w0, Ext w w0 → X.J 0 w0) (hq : QWX X F n P m D ops (TailX X F n P Q m D ops (ops.drop N)) 0 (ops.take N) L []) : WC F n P Q m D (.region id ops.toArray true) L w := by
  intro a ha
  have hc := chk_of hck
  obtain ⟨hsN, hch⟩ := chain_of hc hchk
  obtain ⟨S, -, h2, h3⟩ := qw_specsX (X := X) (F := F) (n := n) (P := P) (m := m) (D := D) (ops := ops) (L := L) (V := []) (ops.take N) 0 (fun _ => .c undef) (fun j o hj => by
    rw [Nat.zero_add]
    rw [List.getElem?_take] at hj
    split at hj
    · exact hj
    · cases hj) hq
  have hlen : (ops.take N).length = N := by rw [List.length_take]; have := free_len hc; omega
  rw [Nat.zero_add, hlen] at h3
  refine wpIn_region_any hm ?_
  have hmem : ∀ s v, at' L s = some v → s < m := fun s v hs => by rw [← ha.size]; exact (Array.getElem?_eq_some_iff.1 (ha.get s v hs)).1
  have hfalse : ∀ i, (Array.replicate ops.length false).getD i false = false := fun i => by
    rw [Array.getD_eq_getD_getElem?, Array.getElem?_replicate]; split <;> rfl
  have := any_freeX (X := X) (Q := Q) (N := N) (S := S) (V := Vq ops S [] N) hW hc hJ hsN hch hmem (fun i o hi ho => h2 i o (Nat.zero_le _) (by rw [Nat.sub_zero, List.getElem?_take_of_lt hi]; exact ho)) rfl h3 ops.length
    (Array.replicate ops.length false) a w.drew 0 ⟨by simp, fun i _ _ => hfalse i, (fun i o _ h => absurd ((hfalse i).symm.trans h) Bool.false_ne_true), Nat.zero_le _, fun k _ => ⟨fun h => absurd ((hfalse _).symm.trans h) Bool.false_ne_true, fun h => absurd h (Nat.not_lt_zero _)⟩, h0 _ (ext_drew w), ha.size, ha.defers, fun s v hs _ => ha.get s v hs, (fun i _ h => absurd ((hfalse i).symm.trans h) Bool.false_ne_true)⟩
    (by
      have : ((List.range N).filter fun i => !(Array.replicate ops.length false).getD i false).length ≤ N := by
        have := List.length_filter_le (fun i => !(Array.replicate ops.length false).getD i false) (List.range N)
        simpa using this
      have := free_len hc
      omega)
  simpa using this
end

section
variable {X : Spx} {F : Fence} {n : Nat} {P : Program} {Q : Exit → Act → World → Prop} {m : Nat} {D : List Deferred} {L : Env} {w w' : World}
variable {ops tail : List Oper} {rest : List Oper} {d i k : Nat} {ty : TypeId} {pos : String} {af : Array Edge} {g : Option (Nat × Bool)} {v : Value} {K : Env → List (Nat × PVP) → Prop} {V : List (Nat × PVP)}
def noSpB (X : Spx) (i : Nat) : Bool := X.si.all fun j => j != i
theorem noSp_of (h : noSpB X i = true) : NoSp X i := fun k hk e => by
  unfold noSpB at h
  rw [List.all_eq_true] at h
  have : X.at k ∈ X.si := by unfold Spx.at; rw [List.getD_eq_getElem?_getD, List.getElem?_eq_getElem hk]; simp
  have := h _ this
  simp [e] at this
theorem stabX_c {c : Value} : StabX X ops i d (Sq.c c).holds := ⟨fun _ _ _ _ h _ => h, fun _ _ _ _ _ _ _ h _ => h⟩
theorem qx_nil (k : K L V) : QWX X F n P m D ops K i [] L V := k
theorem qx_val {op : Op} (hn : noSpB X i = true) (hg : wants L ops g = some true) (hd : Nat.blt d m = true) (hx : ∀ ph w', X.J ph w' → Xv P m D L op ty w' v w') (k : QWX X F n P m D ops K (i + 1) rest ((d, v) :: L) V) :
    QWX X F n P m D ops K i (⟨some d, op, ty, pos, af, g⟩ :: rest) L V :=
  .inr ⟨d, rfl, hd, .c v, nofun, stabX_c, .inr ⟨noSp_of hn, fun ph w' _ hbf hJ a h _ => .inl ⟨h.wanted (o := ⟨some d, op, ty, pos, af, g⟩) hg, .val v w' ((hx ph w' hJ).2 _ _ _ _ a h) ⟨rfl, Keep.refl _ _⟩⟩⟩, k⟩
/-- A value that is known up to p. -/
theorem qx_valp {op : Op} {p : PVP} (hn : noSpB X i = true) (hs : StabX X ops i d p) (hg : wants L ops g = some true) (hd : Nat.blt d m = true) (hno : at' L d = none) (hx : ∀ ph w', Bef X ops i ph → X.J ph w' → ∃ v w'', Xv P m D L op ty w' v w'' ∧ p ph v w'' ∧ Ext w' w'') (k : QWX X F n P m D ops K (i + 1) rest L ((d, p) :: V)) :
    QWX X F n P m D ops K i (⟨some d, op, ty, pos, af, g⟩ :: rest) L V :=
  .inr ⟨d, rfl, hd, .p p, fun _ _ => hno, hs, .inr ⟨noSp_of hn, fun ph w' _ hbf hJ a h _ => by
    obtain ⟨v, w'', hx, hpv, he⟩ := hx ph w' hbf hJ
    exact .inl ⟨h.wanted (o := ⟨some d, op, ty, pos, af, g⟩) hg, .val v w'' (hx.2 _ _ _ _ a h) ⟨hpv, he⟩⟩⟩, k⟩
theorem fr_cons {a : Act} {s : Nat} {u : Value} (h : Fr m D a L) (hu : a.tmps[s]? = some u) : Fr m D a ((s, u) :: L) := ⟨h.size, h.defers, fun j v hj => by
  rw [at_cons] at hj
  split at hj
  · rename_i e; subst e; cases hj; exact hu
  · exact h.get j v hj⟩
/-- .. and that is made of one such. -/
theorem qx_valv {op : Op} {p q : PVP} {s : Nat} (hn : noSpB X i = true) (hs : StabX X ops i d p) (hg : wants L ops g = some true) (hd : Nat.blt d m = true) (hno : at' L d = none) (hV : (s, q) ∈ V) (hlo : s ∈ looks ops ⟨some d, op, ty, pos, af, g⟩)
    (hx : ∀ ph w' u, X.J ph w' → q ph u w' → ∃ v w'', Xv P m D ((s, u) :: L) op ty w' v w'' ∧ p ph v w'' ∧ Ext w' w'') (k : QWX X F n P m D ops K (i + 1) rest L ((d, p) :: V)) :
    QWX X F n P m D ops K i (⟨some d, op, ty, pos, af, g⟩ :: rest) L V :=
  .inr ⟨d, rfl, hd, .p p, fun _ _ => hno, hs, .inr ⟨noSp_of hn, fun ph w' _ hbf hJ a h hf => by
    obtain ⟨u, hu, hq⟩ := hf _ hV hlo
    obtain ⟨v, w'', hx, hpv, he⟩ := hx ph w' u hJ hq
    exact .inl ⟨h.wanted (o := ⟨some d, op, ty, pos, af, g⟩) hg, .val v w'' (hx.2 _ _ _ _ a (fr_cons h hu)) ⟨hpv, he⟩⟩⟩, k⟩
theorem qx_valvc {op : Op} {q : PVP} {s : Nat} (hn : noSpB X i = true) (hg : wants L ops g = some true) (hd : Nat.blt d m = true) (hV : (s, q) ∈ V) (hlo : s ∈ looks ops ⟨some d, op, ty, pos, af, g⟩)
    (hx : ∀ ph w' u, X.J ph w' → q ph u w' → Xv P m D ((s, u) :: L) op ty w' v w') (k : QWX X F n P m D ops K (i + 1) rest ((d, v) :: L) V) :
    QWX X F n P m D ops K i (⟨some d, op, ty, pos, af, g⟩ :: rest) L V :=
  .inr ⟨d, rfl, hd, .c v, nofun, stabX_c, .inr ⟨noSp_of hn, fun ph w' _ hbf hJ a h hf => by
    obtain ⟨u, hu, hq⟩ := hf _ hV hlo
    exact .inl ⟨h.wanted (o := ⟨some d, op, ty, pos, af, g⟩) hg, .val v w' ((hx ph w' u hJ hq).2 _ _ _ _ a (fr_cons h hu)) ⟨rfl, Keep.refl _ _⟩⟩⟩, k⟩
theorem qx_callc {op : Op} {f : FuncId} {args : Array Value} (hn : noSpB X i = true) (hg : wants L ops g = some true) (hd : Nat.blt d m = true) (hx : ∀ w', Xc P m D L op ty w' f args w')
    (hc : ∀ ph w', X.J ph w' → CallsIn F (n - 1) P f args w' (ok1 fun u w'' => u = v ∧ Ext w' w'')) (k : QWX X F n P m D ops K (i + 1) rest ((d, v) :: L) V) :
    QWX X F n P m D ops K i (⟨some d, op, ty, pos, af, g⟩ :: rest) L V :=
  .inr ⟨d, rfl, hd, .c v, nofun, stabX_c, .inr ⟨noSp_of hn, fun ph w' _ hbf hJ a h hf => .inl ⟨h.wanted (o := ⟨some d, op, ty, pos, af, g⟩) hg, .call f args w' ((hx w').2 _ _ _ _ a h) (hc ph w' hJ)⟩⟩, k⟩
theorem qx_callp {op : Op} {f : FuncId} {args : Array Value} {p : PVP} (hn : noSpB X i = true) (hs : StabX X ops i d p) (hg : wants L ops g = some true) (hd : Nat.blt d m = true) (hno : at' L d = none) (hx : ∀ w', Xc P m D L op ty w' f args w')
    (hc : ∀ ph w', X.J ph w' → CallsIn F (n - 1) P f args w' (ok1 fun u w'' => p ph u w'' ∧ Ext w' w'')) (k : QWX X F n P m D ops K (i + 1) rest L ((d, p) :: V)) :
    QWX X F n P m D ops K i (⟨some d, op, ty, pos, af, g⟩ :: rest) L V :=
  .inr ⟨d, rfl, hd, .p p, fun _ _ => hno, hs, .inr ⟨noSp_of hn, fun ph w' _ hbf hJ a h hf => .inl ⟨h.wanted (o := ⟨some d, op, ty, pos, af, g⟩) hg, .call f args w' ((hx w').2 _ _ _ _ a h) (hc ph w' hJ)⟩⟩, k⟩
/-- A store to a place of which q is known. -/
theorem qx_store1 {op : Op} {q : PVP} {s : Nat} (hk : k < X.si.length) (hi : X.at k = i) (hg : wants L ops g = some true) (hV : (s, q) ∈ V) (hlo : s ∈ looks ops ⟨none, op, ty, pos, af, g⟩) (hone : ∀ q' ∈ V, q'.1 ∈ looks ops ⟨none, op, ty, pos, af, g⟩ → q' = (s, q))
    (hx : ∀ w' u, X.J k w' → q k u w' → ∃ w'', Xs P m D ((s, u) :: L) op ty w' w'' ∧ X.J (k + 1) w'' ∧ X.G k w' w'' ∧ q (k + 1) u w'') (kk : QWX X F n P m D ops K (i + 1) rest L V) :
    QWX X F n P m D ops K i (⟨none, op, ty, pos, af, g⟩ :: rest) L V :=
  .inl ⟨rfl, ⟨k, hk, hi, fun w' hJ a h hf => by
    obtain ⟨u, hu, hq⟩ := hf _ hV hlo
    obtain ⟨w'', hx, h1, h2, h3⟩ := hx w' u hJ hq
    exact ⟨h.wanted (o := ⟨none, op, ty, pos, af, g⟩) hg, .skip w'' (hx.2 _ _ _ _ a (fr_cons h hu)) ⟨trivial, h1, h2, fun q' hq' hlo' => by obtain rfl := hone q' hq' hlo'; exact ⟨u, hu, h3⟩⟩⟩⟩, kk⟩
/-- Of the values of which something is known, one is looked at. -/
theorem tailxm {p : PVP} (hV : (d, p) ∈ V) (k : ∀ w' v, X.J X.si.length w' → p X.si.length v w' → WL F n P Q m D ops tail ((d, v) :: L) w') : TailX X F n P Q m D ops tail L V := fun w' hw L' hv hs => by
  obtain ⟨v, h1, h2⟩ := hv (d, p) hV
  exact wl_sub (sub_cons h1 hs) (k w' v hw h2)
end
section
variable {P : Program} {m : Nat} {D : List Deferred} {L : Env} {w : World} {ty t : TypeId} {v : Value} {x y : Operand}
theorem xs_storeA {b o k' : Nat} {cs new : List Value} {T : TypeId} (ha : Agg P t k') (hx : ev L x = some (.pointer (some ⟨b, o, none⟩))) (hy : ev L y = some (.agg new.toArray)) (h1 : new.all Value.oneCell' = true)
    (hl : new.length = k') (hB : Blk w b cs T) (ho' : Nat.ble (o + new.length) cs.length = true) : ∃ w', Xs P m D L (.store t x y) ty w w' ∧ Blk w' b (cs.take o ++ new ++ cs.drop (o + new.length)) T ∧ Keep (· ≠ b) w w' := by
  have ho : o + new.length ≤ cs.length := Nat.le_of_ble_eq_true ho'
  obtain ⟨w', hr, hB', hk, hsz⟩ := run_storeCells (P := P) new o 0 cs w hB (by omega) (List.all_eq_true.1 h1)
  refine ⟨w', ⟨nofun, fun _ _ _ _ a h => ?_⟩, hB', hk⟩
  simp [execOp, h.ev hx, h.ev hy, Instr.storeAt, Instr.sureAddr, storeVar, (ha w).2, Value.cells, hl, hr]
theorem xv_alloc {cs : List Value} {z : Value} (hz : ∀ w, (zeroValue t).run P w = .ok z w) (hcs : z.cells = cs.toArray) : ∃ b w', Xv P m D L (.alloc t) ty w (.pointer (some ⟨b, 0, none⟩)) w' ∧ w.heap.size ≤ b ∧ Blk w' b cs t ∧ Ext w w' :=
  ⟨w.heap.size, _, ⟨nofun, fun _ _ _ _ a h => by
    simp only [execOp, Instr.alloc, Sem.run_bind, hz w, Result.andThen_ok, newVar, newRow, newObj, Sem.run, Sem.run_pure, hcs]
    rfl⟩, Nat.le_refl _, blk_new w cs t, ext_alloc w _⟩
end
end Go.Proofs.Ytblbddamebbgaaa.K

/- Facts on the program's types and functions, printed by my genke.py. -/
namespace Go.Proofs.Ytblbddamebbgaaa.K
open Go Go.RowKit
set_option linter.unusedVariables false
theorem fl3 : Flat Try.prog 3 := flat_of Try.underlying3 rfl (by kernel_rfl)
theorem fl4 : Flat Try.prog 4 := flat_of Try.underlying4 rfl (by kernel_rfl)
theorem fl5 : Flat Try.prog 5 := flat_of Try.underlying5 rfl (by kernel_rfl)
theorem fl9 : Flat Try.prog 9 := flat_of Try.underlying9 rfl (by kernel_rfl)
theorem fl22 : Flat Try.prog 22 := flat_of Try.underlying22 rfl (by kernel_rfl)
theorem fl23 : Flat Try.prog 23 := flat_of Try.underlying23 rfl (by kernel_rfl)
theorem ag25 : Agg Try.prog 25 4 := agg_of Try.underlying25 rfl (by kernel_rfl)
theorem fl26 : Flat Try.prog 26 := flat_of Try.underlying26 rfl (by kernel_rfl)
theorem fl42 : Flat Try.prog 42 := flat_of Try.underlying42 rfl (by kernel_rfl)
theorem ag78 : Agg Try.prog 78 3 := agg_of Try.underlying78 rfl (by kernel_rfl)
theorem fl80 : Flat Try.prog 80 := flat_of Try.underlying80 rfl (by kernel_rfl)
theorem ag82 : Agg Try.prog 82 4 := agg_of Try.underlying82 rfl (by kernel_rfl)
theorem ag87 : Agg Try.prog 87 5 := agg_of Try.underlying87 rfl (by kernel_rfl)
theorem ag90 : Agg Try.prog 90 5 := agg_of Try.underlying90 rfl (by kernel_rfl)
theorem ag95 : Agg Try.prog 95 3 := agg_of Try.underlying95 rfl (by kernel_rfl)
theorem en17 : Enters Try.prog 17 := enters_of Try.func17 (by kernel_rfl) rfl
theorem en18 : Enters Try.prog 18 := enters_of Try.func18 (by kernel_rfl) rfl
theorem en19 : Enters Try.prog 19 := enters_of Try.func19 (by kernel_rfl) rfl
theorem en20 : Enters Try.prog 20 := enters_of Try.func20 (by kernel_rfl) rfl
theorem en21 : Enters Try.prog 21 := enters_of Try.func21 (by kernel_rfl) rfl
theorem en23 : Enters Try.prog 23 := enters_of Try.func23 (by kernel_rfl) rfl
theorem en24 : Enters Try.prog 24 := enters_of Try.func24 (by kernel_rfl) rfl
theorem en25 : Enters Try.prog 25 := enters_of Try.func25 (by kernel_rfl) rfl
theorem en38 : Enters Try.prog 38 := enters_of Try.func38 (by kernel_rfl) rfl
theorem en46 : Enters Try.prog 46 := enters_of Try.func46 (by kernel_rfl) rfl
theorem en47 : Enters Try.prog 47 := enters_of Try.func47 (by kernel_rfl) rfl
theorem en48 : Enters Try.prog 48 := enters_of Try.func48 (by kernel_rfl) rfl
theorem en49 : Enters Try.prog 49 := enters_of Try.func49 (by kernel_rfl) rfl
theorem en50 : Enters Try.prog 50 := enters_of Try.func50 (by kernel_rfl) rfl
theorem en51 : Enters Try.prog 51 := enters_of Try.func51 (by kernel_rfl) rfl
theorem en52 : Enters Try.prog 52 := enters_of Try.func52 (by kernel_rfl) rfl
theorem en53 : Enters Try.prog 53 := enters_of Try.func53 (by kernel_rfl) rfl
theorem en54 : Enters Try.prog 54 := enters_of Try.func54 (by kernel_rfl) rfl
theorem en55 : Enters Try.prog 55 := enters_of Try.func55 (by kernel_rfl) rfl
theorem en56 : Enters Try.prog 56 := enters_of Try.func56 (by kernel_rfl) rfl
theorem en57 : Enters Try.prog 57 := enters_of Try.func57 (by kernel_rfl) rfl
theorem en58 : Enters Try.prog 58 := enters_of Try.func58 (by kernel_rfl) rfl
theorem en59 : Enters Try.prog 59 := enters_of Try.func59 (by kernel_rfl) rfl
theorem en60 : Enters Try.prog 60 := enters_of Try.func60 (by kernel_rfl) rfl
theorem en61 : Enters Try.prog 61 := enters_of Try.func61 (by kernel_rfl) rfl
theorem en62 : Enters Try.prog 62 := enters_of Try.func62 (by kernel_rfl) rfl
theorem en65 : Enters Try.prog 65 := enters_of Try.func65 (by kernel_rfl) rfl
theorem en73 : Enters Try.prog 73 := enters_of Try.func73 (by kernel_rfl) rfl
theorem en74 : Enters Try.prog 74 := enters_of Try.func74 (by kernel_rfl) rfl
theorem en75 : Enters Try.prog 75 := enters_of Try.func75 (by kernel_rfl) rfl
theorem en76 : Enters Try.prog 76 := enters_of Try.func76 (by kernel_rfl) rfl
theorem en77 : Enters Try.prog 77 := enters_of Try.func77 (by kernel_rfl) rfl
theorem en78 : Enters Try.prog 78 := enters_of Try.func78 (by kernel_rfl) rfl
theorem en79 : Enters Try.prog 79 := enters_of Try.func79 (by kernel_rfl) rfl
theorem en80 : Enters Try.prog 80 := enters_of Try.func80 (by kernel_rfl) rfl
theorem en81 : Enters Try.prog 81 := enters_of Try.func81 (by kernel_rfl) rfl
theorem en82 : Enters Try.prog 82 := enters_of Try.func82 (by kernel_rfl) rfl
theorem en83 : Enters Try.prog 83 := enters_of Try.func83 (by kernel_rfl) rfl
theorem en88 : Enters Try.prog 88 := enters_of Try.func88 (by kernel_rfl) rfl
theorem en89 : Enters Try.prog 89 := enters_of Try.func89 (by kernel_rfl) rfl
theorem en90 : Enters Try.prog 90 := enters_of Try.func90 (by kernel_rfl) rfl
theorem en91 : Enters Try.prog 91 := enters_of Try.func91 (by kernel_rfl) rfl
theorem en92 : Enters Try.prog 92 := enters_of Try.func92 (by kernel_rfl) rfl
theorem en93 : Enters Try.prog 93 := enters_of Try.func93 (by kernel_rfl) rfl
theorem en94 : Enters Try.prog 94 := enters_of Try.func94 (by kernel_rfl) rfl
theorem en96 : Enters Try.prog 96 := enters_of Try.func96 (by kernel_rfl) rfl
theorem en97 : Enters Try.prog 97 := enters_of Try.func97 (by kernel_rfl) rfl
theorem en98 : Enters Try.prog 98 := enters_of Try.func98 (by kernel_rfl) rfl
theorem en99 : Enters Try.prog 99 := enters_of Try.func99 (by kernel_rfl) rfl
theorem mixed : Try.prog.follows .mixedOrders = true := by kernel_rfl
end Go.Proofs.Ytblbddamebbgaaa.K

/- The data of glacier's entries: how a list of entries lies in memory. -/
namespace Go.Proofs.Ytblbddamebbgaaa.K
open Go Go.RowKit
set_option linter.unusedVariables false
set_option linter.unusedSectionVars false
set_option linter.unusedSimpArgs false

/-- An entry: key, number, gone, value. -/
structure Ent where
  k : ByteArray
  s : Int
  g : Bool
  v : List UInt8
def z0 : Ent := ⟨⟨#[]⟩, 0, false, []⟩
/-- Its numbers are of their kinds. -/
structure EntOk (e : Ent) : Prop where
  s0 : 0 ≤ e.s
  s1 : e.s ≤ 18446744073709551615
  k : e.k.size ≤ 1048576
  v : e.v.length ≤ 1048576

/-- What is held of cells of A's blocks holds on. -/
def CK (A : Nat → Prop) (w w' : World) : Prop := ∀ ad v, A ad.block → w.cell? ad = some v → w'.cell? ad = some v
theorem CK.of_keep {A S : Nat → Prop} {w w' : World} (h : Keep S w w') (hs : ∀ k, k < w.heap.size → A k → S k) : CK A w w' := fun ad v ha hc => h.cell hc (hs _ (World.block_lt_of_cell? w _ hc) ha)
theorem CK.of_ext {A : Nat → Prop} {w w' : World} (h : Ext w w') : CK A w w' := CK.of_keep h fun _ _ _ => trivial
theorem CK.of_nc {A : Nat → Prop} {B : Nat} {w w' : World} (h : Nc B w w') : CK A w w' := fun _ _ _ hc => h.cell hc

/-- The slice v holds the bytes l, in a block of A. -/
def Byts (A : Nat → Prop) (w : World) (v : Value) (l : List UInt8) : Prop :=
  ∃ ad cap, v = .slice ad l.length cap ∧ l.length ≤ cap ∧ (l ≠ [] → ∃ b o, ad = some ⟨b, o, none⟩ ∧ A b ∧ ∀ i u, l[i]? = some u → w.cell? ⟨b, o + i, none⟩ = some (.int .u8 u.toNat))
section
variable {A A' : Nat → Prop} {w w' : World} {v bv : Value} {l : List UInt8}
theorem Byts.ck (h : Byts A w v l) (hk : CK A w w') : Byts A w' v l := by
  obtain ⟨ad, cap, rfl, hc, h⟩ := h
  refine ⟨ad, cap, rfl, hc, fun hne => ?_⟩
  obtain ⟨b, o, rfl, hA, hcell⟩ := h hne
  exact ⟨b, o, rfl, hA, fun i u hi => hk _ _ hA (hcell i u hi)⟩
theorem Byts.ext (h : Byts A w v l) (hk : Ext w w') : Byts A w' v l := h.ck (CK.of_ext hk)
theorem Byts.mono (h : Byts A w v l) (hA : ∀ k, k < w.heap.size → A k → A' k) : Byts A' w v l := by
  obtain ⟨ad, cap, rfl, hc, h⟩ := h
  refine ⟨ad, cap, rfl, hc, fun hne => ?_⟩
  obtain ⟨b, o, rfl, hAb, hcell⟩ := h hne
  refine ⟨b, o, rfl, hA b ?_ hAb, hcell⟩
  cases l with
  | nil => exact absurd rfl hne
  | cons u l => exact World.block_lt_of_cell? w _ (hcell 0 u rfl)
theorem byts_nil (A : Nat → Prop) (w : World) : Byts A w (.slice none 0 0) [] := ⟨none, 0, rfl, Nat.le_refl _, fun h => absurd rfl h⟩
theorem Byts.one (h : Byts A w v l) : v.oneCell' = true := by obtain ⟨ad, cap, rfl, _⟩ := h; rfl
end

/-- An entry's four cells. -/
def cellsOf (e : Ent) (bv : Value) : List Value := [.string e.k, .int .u64 e.s, .bool e.g, bv]
/-- Elements from cell o of block b on. -/
def RowAt (A : Nat → Prop) (w : World) (b o : Nat) (es : List Ent) : Prop := ∀ i e, es[i]? = some e → ∃ bv, Cells w b (o + i * 4) (cellsOf e bv) ∧ Byts A w bv e.v
/-- The slice v holds the entries es, in blocks of A. -/
def Row (A : Nat → Prop) (w : World) (v : Value) (es : List Ent) : Prop :=
  ∃ ad cap, v = .slice ad es.length cap ∧ es.length ≤ cap ∧ es.length ≤ 1099511627776 ∧ (∀ e ∈ es, EntOk e) ∧ (es ≠ [] → ∃ b o, ad = some ⟨b, o, none⟩ ∧ A b ∧ RowAt A w b o es)
section
variable {A A' : Nat → Prop} {w w' : World} {v bv : Value} {es : List Ent} {e : Ent}
theorem Cells.ck {b o : Nat} {cs : List Value} (h : Cells w b o cs) (hA : A b) (hk : CK A w w') : Cells w' b o cs := fun j v hj => hk _ _ hA (h j v hj)
theorem Cells.ext {b o : Nat} {cs : List Value} (h : Cells w b o cs) (hk : Ext w w') : Cells w' b o cs := fun j v hj => hk.cell (h j v hj)
theorem RowAt.ck {b o : Nat} (h : RowAt A w b o es) (hA : A b) (hk : CK A w w') : RowAt A w' b o es := fun i e hi => by
  obtain ⟨bv, h1, h2⟩ := h i e hi
  exact ⟨bv, h1.ck hA hk, h2.ck hk⟩
theorem Row.ck (h : Row A w v es) (hk : CK A w w') : Row A w' v es := by
  obtain ⟨ad, cap, rfl, h1, h2, h3, h⟩ := h
  refine ⟨ad, cap, rfl, h1, h2, h3, fun hne => ?_⟩
  obtain ⟨b, o, rfl, hA, hr⟩ := h hne
  exact ⟨b, o, rfl, hA, hr.ck hA hk⟩
theorem Row.ext (h : Row A w v es) (hk : Ext w w') : Row A w' v es := h.ck (CK.of_ext hk)
theorem Row.mono (h : Row A w v es) (hA : ∀ k, k < w.heap.size → A k → A' k) : Row A' w v es := by
  obtain ⟨ad, cap, rfl, h1, h2, h3, h⟩ := h
  refine ⟨ad, cap, rfl, h1, h2, h3, fun hne => ?_⟩
  obtain ⟨b, o, rfl, hAb, hr⟩ := h hne
  have hb : b < w.heap.size := by
    cases es with
    | nil => exact absurd rfl hne
    | cons e es =>
      obtain ⟨bv, hc, -⟩ := hr 0 e rfl
      exact World.block_lt_of_cell? w _ (hc 0 _ rfl)
  exact ⟨b, o, rfl, hA b hb hAb, fun i e hi => by obtain ⟨bv, h4, h5⟩ := hr i e hi; exact ⟨bv, h4, h5.mono hA⟩⟩
/-- Element i: where it lies. -/
theorem Row.at (h : Row A w v es) (i : Nat) (hi : i < es.length) : ∃ b o cap bv, v = .slice (some ⟨b, o, none⟩) es.length cap ∧ A b ∧ Cells w b (o + i * 4) (cellsOf es[i] bv) ∧ Byts A w bv es[i].v ∧ EntOk es[i] := by
  obtain ⟨ad, cap, rfl, h1, h2, h3, h⟩ := h
  obtain ⟨b, o, rfl, hA, hr⟩ := h (by intro e; rw [e] at hi; simp at hi)
  obtain ⟨bv, h4, h5⟩ := hr i es[i] (List.getElem?_eq_getElem hi)
  exact ⟨b, o, cap, bv, rfl, hA, h4, h5, h3 _ (List.getElem_mem hi)⟩
theorem Row.form (h : Row A w v es) : ∃ ad cap, v = .slice ad es.length cap ∧ es.length ≤ cap ∧ es.length ≤ 1099511627776 := by
  obtain ⟨ad, cap, rfl, h1, h2, -⟩ := h
  exact ⟨ad, cap, rfl, h1, h2⟩
theorem Row.ok (h : Row A w v es) : ∀ e ∈ es, EntOk e := by obtain ⟨ad, cap, rfl, h1, h2, h3, -⟩ := h; exact h3
theorem row_nil (A : Nat → Prop) (w : World) : Row A w (.slice none 0 0) [] := ⟨none, 0, rfl, Nat.le_refl _, by simp, by simp, fun h => absurd rfl h⟩
end

def flat : List Ent → List Value → List Value
  | e :: es, bv :: bvs => cellsOf e bv ++ flat es bvs
  | _, _ => []
theorem flat_len : ∀ (es : List Ent) (bvs : List Value), bvs.length = es.length → (flat es bvs).length = es.length * 4
  | [], _, _ => by simp [flat]
  | e :: es, [], h => by simp at h
  | e :: es, bv :: bvs, h => by simp [flat, cellsOf, flat_len es bvs (by simpa using h)]; omega
theorem flat_snoc (e : Ent) (bv : Value) : ∀ (es : List Ent) (bvs : List Value), bvs.length = es.length → flat (es ++ [e]) (bvs ++ [bv]) = flat es bvs ++ cellsOf e bv
  | [], [], _ => by simp [flat]
  | [], b :: bvs, h => by simp at h
  | x :: es, [], h => by simp at h
  | x :: es, b :: bvs, h => by simp [flat, flat_snoc e bv es bvs (by simpa using h)]
theorem flat_at : ∀ (es : List Ent) (bvs : List Value) (i : Nat) (e : Ent) (bv : Value), bvs.length = es.length → es[i]? = some e → bvs[i]? = some bv → ∀ j v, (cellsOf e bv)[j]? = some v → (flat es bvs)[i * 4 + j]? = some v
  | [], _, i, e, bv, _, h, _, _, _, _ => by simp at h
  | x :: es, [], i, e, bv, h, _, _, _, _, _ => by simp at h
  | x :: es, b :: bvs, 0, e, bv, h, h1, h2, j, v, hj => by
    simp at h1 h2; subst h1; subst h2
    have : j < 4 := by have := (List.getElem?_eq_some_iff.1 hj).1; simpa [cellsOf] using this
    simp only [flat]
    rw [List.getElem?_append_left (by simp [cellsOf]; omega)]
    simpa using hj
  | x :: es, b :: bvs, i + 1, e, bv, h, h1, h2, j, v, hj => by
    simp only [flat]
    rw [List.getElem?_append_right (by simp [cellsOf]; omega)]
    have : (i + 1) * 4 + j - (cellsOf x b).length = i * 4 + j := by simp [cellsOf]; omega
    rw [this]
    exact flat_at es bvs i e bv (by simpa using h) (by simpa using h1) (by simpa using h2) j v hj
/-- The slice v is nil, or lies at the head of a block of entries from block number base on; what its elements lead to lies elsewhere. -/
structure OwnE (A : Nat → Prop) (base : Nat) (w : World) (v : Value) (es : List Ent) : Prop where
  ex : ∃ bvs, bvs.length = es.length ∧ w.ownsRow base 25 4 v es.length (flat es bvs) ∧ ∀ (i : Nat) (e : Ent) (bv : Value), es[i]? = some e → bvs[i]? = some bv → Byts (fun k => A k ∧ some k ≠ v.ownBlock) w bv e.v
  ok : ∀ e ∈ es, EntOk e
section
variable {A : Nat → Prop} {base : Nat} {w w' : World} {v bv : Value} {es : List Ent} {e : Ent}
theorem own_nil (A : Nat → Prop) (base : Nat) (w : World) : OwnE A base w (.slice none 0 0) [] := ⟨⟨[], rfl, World.ownsRow_nil w base 25 4, fun i e bv h => by simp at h⟩, by simp⟩
theorem ownsRow_ck {n : Nat} {xs : List Value} (h : w.ownsRow base 25 4 v n xs) (hk : ∀ b cs, v.ownBlock = some b → w.heap[b]? = some (.cells cs 25 (0, 0)) → w'.heap[b]? = some (.cells cs 25 (0, 0))) : w'.ownsRow base 25 4 v n xs := by
  refine ⟨h.1, ?_⟩
  rcases h.2 with ⟨h1, h2⟩ | ⟨g, cap, cur, rfl, hb, hg, h1⟩
  · exact .inl ⟨h1, h2⟩
  · exact .inr ⟨g, cap, cur, rfl, hb, hk g cur rfl hg, h1⟩
theorem OwnE.nc {B : Nat} (h : OwnE A base w v es) (hn : Nc B w w') : OwnE A base w' v es := by
  obtain ⟨⟨bvs, h1, h2, h3⟩, h4⟩ := h
  refine ⟨⟨bvs, h1, ownsRow_ck h2 (fun b cs _ hb => ?_), fun i e bv hi hj => (h3 i e bv hi hj).ck (CK.of_nc hn)⟩, h4⟩
  exact Blk.nc (cs := cs.toList) (by simpa [Blk] using hb) hn |> fun h => by simpa [Blk] using h
theorem OwnE.keep {S : Nat → Prop} (h : OwnE A base w v es) (hk : Keep S w w') (hv : ∀ b, v.ownBlock = some b → S b) (hA : ∀ k, k < w.heap.size → A k → S k) : OwnE A base w' v es := by
  obtain ⟨⟨bvs, h1, h2, h3⟩, h4⟩ := h
  exact ⟨⟨bvs, h1, ownsRow_ck h2 (fun b cs hb hc => (hk.block b (Array.getElem?_eq_some_iff.1 hc).1 (hv b hb)).trans hc), fun i e bv hi hj => (h3 i e bv hi hj).ck (CK.of_keep hk (fun k hk' h => hA k hk' h.1))⟩, h4⟩
theorem OwnE.ext (h : OwnE A base w v es) (hk : Ext w w') : OwnE A base w' v es := h.keep hk (fun _ _ => trivial) (fun _ _ _ => trivial)
theorem OwnE.lt (h : OwnE A base w v es) : ∀ b, v.ownBlock = some b → base ≤ b ∧ b < w.heap.size := by obtain ⟨⟨bvs, h1, h2, h3⟩, h4⟩ := h; exact h2.lt
/-- The row's block is one of entries. -/
theorem OwnE.ne {b : Nat} {cs : List Value} {t : TypeId} (h : OwnE A base w v es) (hB : Blk w b cs t) (ht : t ≠ 25) : ∀ b', v.ownBlock = some b' → b' ≠ b := by
  obtain ⟨⟨bvs, h1, h2, h3⟩, h4⟩ := h
  intro b' hb' e
  subst e
  rcases h2.2 with ⟨rfl, _⟩ | ⟨g, cap, cur, rfl, -, hg, -⟩
  · cases hb'
  · cases hb'
    unfold Blk at hB
    rw [hg] at hB
    cases hB
    exact ht rfl
theorem OwnE.form (h : OwnE A base w v es) : ∃ ad cap, v = .slice ad es.length cap := by
  obtain ⟨⟨bvs, h1, h2, h3⟩, h4⟩ := h
  rcases h2.2 with ⟨rfl, h⟩ | ⟨g, cap, cur, rfl, -⟩
  · exact ⟨none, 0, by rw [h]⟩
  · exact ⟨_, cap, rfl⟩
theorem OwnE.one (h : OwnE A base w v es) : v.oneCell' = true := by obtain ⟨ad, cap, rfl⟩ := h.form; rfl
/-- What is collected reads as a row. -/
theorem OwnE.row (h : OwnE A base w v es) (hl : es.length ≤ 1099511627776) : Row (fun k => A k ∨ base ≤ k) w v es := by
  obtain ⟨⟨bvs, h1, h2, h3⟩, h4⟩ := h
  have h5 := fun g => h2.cells (g := g)
  rcases h2.2 with ⟨rfl, h⟩ | ⟨g, cap, cur, rfl, hb, hg, hc, -⟩
  · have : es = [] := List.eq_nil_of_length_eq_zero h
    subst this
    exact row_nil _ _
  · refine ⟨_, cap, rfl, hc, hl, h4, fun _ => ⟨g, 0, rfl, .inr hb, fun i e hi => ?_⟩⟩
    have hlt := (List.getElem?_eq_some_iff.1 hi).1
    have hbv : bvs[i]? = some (bvs[i]'(by omega)) := List.getElem?_eq_getElem _
    refine ⟨_, fun j u hj => ?_, (h3 i e _ hi hbv).mono fun k hk h => .inl h.1⟩
    have := h5 g rfl (i * 4 + j) u (flat_at es bvs i e _ h1 hi hbv j u hj)
    rw [add_mk] at this
    rw [show 0 + i * 4 + j = 0 + (i * 4 + j) from by omega]
    exact this
end
theorem info25 : (Try.prog.info? 25).map (fun i => (i.zero, i.size, i.bytes)) = some (some (.agg #[.string ⟨#[]⟩, .int .u64 0, .bool false, .slice none 0 0]), 4, 56) := by kernel_rfl
theorem info5 : (Try.prog.info? 5).map (fun i => (i.zero, i.size, i.bytes)) = some (some (.int .u8 0), 1, 1) := by kernel_rfl
/-- append of one entry that lies in a new block. -/
theorem run_append1 {A : Nat → Prop} {base : Nat} {w : World} {v bv : Value} {es : List Ent} {e : Ent} {bt : Nat} {ty : TypeId} (h : OwnE A base w v es) (hl : es.length < 1099511627776) (hB : Blk w bt (cellsOf e bv) 25) (hb : Byts (fun k => A k ∧ some k ≠ v.ownBlock) w bv e.v) (he : EntOk e) (hbase : base ≤ w.heap.size) :
    ∃ v' w', (Builtin.append_ #[26, 26] ty #[v, .slice (some ⟨bt, 0, none⟩) 1 1]).run Try.prog w = .ok v' w' ∧ OwnE A base w' v' (es ++ [e]) ∧ Keep (fun k => some k ≠ v.ownBlock) w w' ∧ (v'.ownBlock = v.ownBlock ∨ ∃ b, v'.ownBlock = some b ∧ w.heap.size ≤ b) := by
  obtain ⟨i0, hi, hz0, hz1, hz2⟩ := info_parts info25
  obtain ⟨⟨bvs, h1, h2, h3⟩, h4⟩ := h
  have hmax : es.length + 1 ≤ maxLen := by unfold maxLen; omega
  obtain ⟨v', w', hr, ho, hg, -, hat⟩ := run_append_own_at (P := Try.prog) w base 26 ty 25 i0 _ 4 56 Try.underlying26 hi hz0 hz1 hz2 rfl (by decide) v es.length (flat es bvs) h2 ⟨bt, 0, none⟩ 1 1 (cellsOf e bv) rfl
    (fun j u hj => by rw [add_mk]; exact hB.cells j u hj) (by
      obtain ⟨ad, cap, rfl, -⟩ := hb
      intro u hu
      simp only [cellsOf, List.mem_cons, List.not_mem_nil, or_false] at hu
      rcases hu with rfl | rfl | rfl | rfl <;> rfl) hmax (by omega) hbase
  have hlen : (es ++ [e]).length = es.length + 1 := by simp
  have hcase : v'.ownBlock = v.ownBlock ∨ ∃ b, v'.ownBlock = some b ∧ w.heap.size ≤ b := by
    rcases hat with e | e
    · exact .inl e
    · exact .inr ⟨_, e, Nat.le_refl _⟩
  refine ⟨v', w', hr, ⟨⟨bvs ++ [bv], by simp [h1], by rw [hlen, flat_snoc e bv es bvs h1]; exact ho, fun i x b hi hj => ?_⟩, fun x hx => ?_⟩, Keep.grown hg, hcase⟩
  · have hold : Byts (fun k => A k ∧ some k ≠ v.ownBlock) w b x.v := by
      by_cases hlt : i < es.length
      · rw [List.getElem?_append_left hlt] at hi
        rw [List.getElem?_append_left (by omega)] at hj
        exact h3 i x b hi hj
      · have : i = es.length := by
          have := (List.getElem?_eq_some_iff.1 hi).1
          simp at this; omega
        subst this
        rw [List.getElem?_append_right (Nat.le_refl _)] at hi
        rw [List.getElem?_append_right (by omega), h1] at hj
        simp at hi hj
        subst hi; subst hj
        exact hb
    have hlt := hold.mono (A' := fun k => (A k ∧ some k ≠ v.ownBlock) ∧ k < w.heap.size) (fun k hk h => ⟨h, hk⟩)
    refine (hlt.ck (CK.of_keep (Keep.grown hg) fun k _ h => h.1.2)).mono fun k _ h => ⟨h.1.1, ?_⟩
    rcases hcase with e | ⟨b', e, hb'⟩
    · rw [e]; exact h.1.2
    · rw [e]; intro he; cases he; omega
  · rcases List.mem_append.1 hx with hx | hx
    · exact h4 x hx
    · simp at hx; subst hx; exact he
theorem hWw : Wd Fence.wide := Wd.wide
theorem hFw : Fence.wide = Fence.wide ∨ ∃ l, Fence.wide = Fence.wide.inRound l := .inl rfl
theorem hFr (l : Nat) : Fence.wide.inRound l = Fence.wide ∨ ∃ l', Fence.wide.inRound l = Fence.wide.inRound l' := .inr ⟨l, rfl⟩
theorem Byts.form {A : Nat → Prop} {w : World} {v : Value} {l : List UInt8} (h : Byts A w v l) : ∃ ad cap, v = .slice ad l.length cap ∧ l.length ≤ cap := by obtain ⟨ad, cap, e, hc, -⟩ := h; exact ⟨ad, cap, e, hc⟩
section
variable {F : Fence} {n : Nat} {Q : Exit → Act → World → Prop} {m : Nat} {D : List Deferred} {L : Env} {w w' : World} {ops rest : List Oper} {d : Nat} {ty : TypeId} {pos : String} {af : Array Edge} {g : Option (Nat × Bool)} {x y : Operand}
/-- 'out = append(out, e)' on a row of the call's own. -/
theorem wl_append1 {A : Nat → Prop} {base bt : Nat} {v bv : Value} {es : List Ent} {e : Ent} (hW : Wd F) (hg : wants L ops g = some true) (hd : Nat.blt d m = true) (hx : ev L x = some v) (hy : ev L y = some (.slice (some ⟨bt, 0, none⟩) 1 1))
    (h : OwnE A base w v es) (hl : es.length < 1099511627776) (hB : Blk w bt (cellsOf e bv) 25) (hb : Byts (fun k => A k ∧ some k ≠ v.ownBlock) w bv e.v) (he : EntOk e) (hbase : base ≤ w.heap.size)
    (k : ∀ v' w', OwnE A base w' v' (es ++ [e]) → Keep (fun k => some k ≠ v.ownBlock) w w' → (v'.ownBlock = v.ownBlock ∨ ∃ b, v'.ownBlock = some b ∧ w.heap.size ≤ b) → WL F n Try.prog Q m D ops rest ((d, v') :: L) w') :
    WL F n Try.prog Q m D ops (⟨some d, .call ⟨.builtin .append, #[x, y], #[26, 26]⟩, ty, pos, af, g⟩ :: rest) L w := by
  obtain ⟨v', w', hr, ho, hk, hc⟩ := run_append1 (ty := ty) h hl hB hb he hbase
  refine wl_val hW hg hd ⟨nofun, fun _ _ _ _ a h => ?_⟩ (k v' w' ho hk hc)
  simp [execOp, resolve, h.ev hx, h.ev hy, invoke, builtin, hr]
end
end Go.Proofs.Ytblbddamebbgaaa.K

/- Plain laws: the order of keys and entries, what is seen, pruned, merged. No memory, no program. -/
namespace Go.Proofs.Ytblbddamebbgaaa.K
open Go
set_option linter.unusedVariables false
set_option linter.unusedSimpArgs false

abbrev bl := Op.bytesLess
theorem bl_irrefl : ∀ x : List UInt8, bl x x = false
  | [] => rfl
  | a :: x => by have := bl_irrefl x; simp only [bl] at this; simp [bl, Op.bytesLess, this]
theorem bl_trans : ∀ x y z : List UInt8, bl x y = true → bl y z = true → bl x z = true
  | _, _, [], _, h => by simp [bl, Op.bytesLess] at h
  | _, [], _ :: _, h, _ => by simp [bl, Op.bytesLess] at h
  | [], _ :: _, _ :: _, _, _ => by simp [bl, Op.bytesLess]
  | a :: x, b :: y, c :: z, h1, h2 => by
    simp only [bl, Op.bytesLess, Bool.or_eq_true, decide_eq_true_eq, Bool.and_eq_true, beq_iff_eq] at h1 h2 ⊢
    rcases h1 with h1 | ⟨rfl, h1⟩
    · rcases h2 with h2 | ⟨rfl, h2⟩
      · exact .inl (UInt8.lt_trans h1 h2)
      · exact .inl h1
    · rcases h2 with h2 | ⟨rfl, h2⟩
      · exact .inl h2
      · exact .inr ⟨rfl, bl_trans x y z h1 h2⟩
theorem bl_total : ∀ x y : List UInt8, bl x y = false → bl y x = false → x = y
  | [], [], _, _ => rfl
  | [], _ :: _, h, _ => by simp [bl, Op.bytesLess] at h
  | _ :: _, [], _, h => by simp [bl, Op.bytesLess] at h
  | a :: x, b :: y, h1, h2 => by
    simp only [bl, Op.bytesLess, Bool.or_eq_false_iff, decide_eq_false_iff_not, Bool.and_eq_false_iff, beq_eq_false_iff_ne, ne_eq] at h1 h2
    have e : a = b := by
      rcases UInt8.lt_or_lt_of_ne (a := a) (b := b) with h
      by_cases e : a = b
      · exact e
      · rcases h e with h | h
        · exact absurd h h1.1
        · exact absurd h h2.1
    subst e
    have h3 : bl x y = false := by rcases h1.2 with h | h; exact absurd rfl h; exact h
    have h4 : bl y x = false := by rcases h2.2 with h | h; exact absurd rfl h; exact h
    rw [bl_total x y h3 h4]
theorem bl_asymm (x y : List UInt8) (h : bl x y = true) : bl y x = false := by
  cases h' : bl y x with
  | false => rfl
  | true => have := bl_trans x y x h h'; rw [bl_irrefl] at this; cases this
theorem ba_ext {a b : ByteArray} (h : a.toList = b.toList) : a = b := by
  rw [ByteArray.toList_eq, ByteArray.toList_eq] at h
  cases a; cases b; congr; exact Array.toList_inj.1 h

/-- cmp.Compare on strings, on numbers; the order of entries: by key, then the newest first. -/
def cmpS (a b : ByteArray) : Int := if bl a.toList b.toList then -1 else if bl b.toList a.toList then 1 else 0
def cmpI (a b : Int) : Int := if a < b then -1 else if b < a then 1 else 0
def cmpE (a b : Ent) : Int := if cmpS a.k b.k ≠ 0 then cmpS a.k b.k else cmpI b.s a.s
/-- a stands before b. -/
def ltE (a b : Ent) : Prop := bl a.k.toList b.k.toList = true ∨ a.k = b.k ∧ b.s < a.s
/-- They are one version. -/
def sameE (a b : Ent) : Prop := a.k = b.k ∧ a.s = b.s
theorem cmpS_zero {a b : ByteArray} : cmpS a b = 0 ↔ a = b := by
  unfold cmpS
  constructor
  · intro h
    split at h
    · cases h
    · split at h
      · cases h
      · exact ba_ext (bl_total _ _ (by simpa using ‹¬ bl a.toList b.toList = true›) (by simpa using ‹¬ bl b.toList a.toList = true›))
  · rintro rfl; simp [bl_irrefl]
theorem cmpS_neg {a b : ByteArray} : cmpS a b < 0 ↔ bl a.toList b.toList = true := by
  unfold cmpS
  split
  · simp_all
  · split <;> simp_all
theorem cmpS_1 {a b : ByteArray} (h : Op.bytesLess a.toList b.toList = true) : cmpS a b = -1 := if_pos h
theorem cmpS_2 {a b : ByteArray} (h1 : Op.bytesLess a.toList b.toList = false) (h : (!(Op.bytesLess a.toList b.toList || a.toList == b.toList)) = true) : cmpS a b = 1 := by
  have hne : a.toList ≠ b.toList := fun e => by rw [h1, e] at h; simp at h
  unfold cmpS
  rw [if_neg (by rw [show bl a.toList b.toList = false from h1]; simp), if_pos]
  cases h2 : bl b.toList a.toList with
  | true => rfl
  | false => exact absurd (bl_total _ _ h1 h2) hne
theorem cmpS_3 {a b : ByteArray} (h1 : Op.bytesLess a.toList b.toList = false) (h : (!(Op.bytesLess a.toList b.toList || a.toList == b.toList)) = false) : cmpS a b = 0 := by
  rw [h1] at h
  have e : a.toList = b.toList := by simpa using h
  exact cmpS_zero.2 (ba_ext e)
theorem cmpI_zero {a b : Int} : cmpI a b = 0 ↔ a = b := by unfold cmpI; split; omega; split <;> omega
theorem cmpI_neg {a b : Int} : cmpI a b < 0 ↔ a < b := by unfold cmpI; split; omega; split <;> omega
theorem cmpE_neg {a b : Ent} : cmpE a b < 0 ↔ ltE a b := by
  unfold cmpE ltE
  by_cases h : cmpS a.k b.k = 0
  · have e := cmpS_zero.1 h
    rw [if_neg (by simp [h]), cmpI_neg]
    simp [e, bl_irrefl]
  · rw [if_pos h, cmpS_neg]
    have : a.k ≠ b.k := fun e => h (cmpS_zero.2 e)
    simp [this]
theorem cmpE_zero {a b : Ent} : cmpE a b = 0 ↔ sameE a b := by
  unfold cmpE sameE
  by_cases h : cmpS a.k b.k = 0
  · have e := cmpS_zero.1 h
    rw [if_neg (by simp [h]), cmpI_zero]
    simp only [e, true_and]
    exact eq_comm
  · rw [if_pos h]
    have : a.k ≠ b.k := fun e => h (cmpS_zero.2 e)
    simp [this, h]
theorem ltE_trans {a b c : Ent} (h1 : ltE a b) (h2 : ltE b c) : ltE a c := by
  rcases h1 with h1 | ⟨e1, h1⟩
  · rcases h2 with h2 | ⟨e2, h2⟩
    · exact .inl (bl_trans _ _ _ h1 h2)
    · exact .inl (e2 ▸ h1)
  · rcases h2 with h2 | ⟨e2, h2⟩
    · exact .inl (e1 ▸ h2)
    · exact .inr ⟨e1.trans e2, by omega⟩
theorem ltE_irrefl (a : Ent) : ¬ ltE a a := by
  rintro (h | ⟨_, h⟩)
  · rw [bl_irrefl] at h; cases h
  · omega
theorem ltE_total (a b : Ent) : ltE a b ∨ sameE a b ∨ ltE b a := by
  by_cases h : cmpE a b = 0
  · exact .inr (.inl (cmpE_zero.1 h))
  · by_cases h' : cmpE a b < 0
    · exact .inl (cmpE_neg.1 h')
    · refine .inr (.inr ?_)
      unfold ltE
      cases hx : bl a.k.toList b.k.toList with
      | true => exact absurd (cmpE_neg.2 (.inl hx)) h'
      | false =>
        cases hy : bl b.k.toList a.k.toList with
        | true => exact .inl rfl
        | false =>
          have e := ba_ext (bl_total _ _ hx hy)
          refine .inr ⟨e.symm, ?_⟩
          have h1 : ¬ b.s < a.s := fun h1 => h' (cmpE_neg.2 (.inr ⟨e, h1⟩))
          have h2 : a.s ≠ b.s := fun h2 => h (cmpE_zero.2 ⟨e, h2⟩)
          omega
instance (a b : Ent) : Decidable (ltE a b) := by unfold ltE; exact inferInstance

/-- Right: in order, none that is gone has a value. -/
def okE (e : Ent) : Prop := e.g = true → e.v = []
def Sorted (es : List Ent) : Prop := es.Pairwise ltE
def Adj (es : List Ent) : Prop := ∀ i (h : i + 1 < es.length), ltE es[i] es[i + 1]
def Rgt (es : List Ent) : Prop := (∀ e ∈ es, okE e) ∧ Sorted es
theorem sorted_of_adj : ∀ es : List Ent, Adj es → Sorted es
  | [], _ => .nil
  | [e], _ => by unfold Sorted; simp
  | a :: b :: es, h => by
    have h0 : ltE a b := h 0 (by simp)
    have ih := sorted_of_adj (b :: es) (fun i hi => by have := h (i + 1) (by simp at hi ⊢; omega); simpa using this)
    unfold Sorted at ih ⊢
    rw [List.pairwise_cons] at ih ⊢
    refine ⟨fun x hx => ?_, List.pairwise_cons.2 ih⟩
    rcases List.mem_cons.1 hx with rfl | hx
    · exact h0
    · exact ltE_trans h0 (ih.1 x hx)
theorem adj_of_sorted {es : List Ent} (h : Sorted es) : Adj es := fun i hi => List.pairwise_iff_getElem.1 h i (i + 1) (by omega) hi (by omega)
theorem sorted_iff {es : List Ent} : Sorted es ↔ Adj es := ⟨adj_of_sorted, sorted_of_adj es⟩

def newestN (up : Int) : List Ent → Nat
  | [] => 0
  | e :: es => if e.s ≤ up then 0 else newestN up es + 1
theorem newestN_at {up : Int} : ∀ (es : List Ent) (i : Nat) (h : i < es.length), (∀ j (hj : j < i), ¬ (es[j]'(by omega)).s ≤ up) → es[i].s ≤ up → newestN up es = i
  | e :: es, 0, _, _, h => by
    simp only [List.getElem_cons_zero] at h
    simp only [newestN]; rw [if_pos h]
  | e :: es, i + 1, hi, hn, h => by
    have h0 := hn 0 (by omega)
    simp only [List.getElem_cons_zero] at h0
    have := newestN_at es i (by simpa using hi) (fun j hj => by have := hn (j + 1) (by omega); simpa using this) (by simpa using h)
    simp only [newestN]; rw [if_neg h0, this]
theorem newestN_none {up : Int} : ∀ (es : List Ent), (∀ j (hj : j < es.length), ¬ es[j].s ≤ up) → newestN up es = es.length
  | [], _ => rfl
  | e :: es, hn => by
    have h0 := hn 0 (by simp)
    simp only [List.getElem_cons_zero] at h0
    have := newestN_none es (fun j hj => by have := hn (j + 1) (by simpa using hj); simpa using this)
    simp only [newestN]; rw [if_neg h0, this]; simp

def adjB : List Ent → Bool
  | a :: b :: es => decide (ltE a b) && adjB (b :: es)
  | _ => true
theorem adjB_iff : ∀ es : List Ent, adjB es = true ↔ Adj es
  | [] => by simp [adjB, Adj]
  | [a] => by simp [adjB, Adj]
  | a :: b :: es => by
    simp only [adjB, Bool.and_eq_true, decide_eq_true_eq, adjB_iff (b :: es)]
    constructor
    · rintro ⟨h1, h2⟩ i hi
      cases i with
      | zero => exact h1
      | succ i => have := h2 i (by simp at hi ⊢; omega); simpa using this
    · intro h
      exact ⟨h 0 (by simp), fun i hi => by have := h (i + 1) (by simp at hi ⊢; omega); simpa using this⟩
def okB (e : Ent) : Bool := !(e.g && decide ((0 : Int) < (e.v.length : Int)))
theorem okB_iff {e : Ent} : okB e = true ↔ okE e := by
  unfold okB okE
  cases e.g <;> simp
def rightB (es : List Ent) : Bool := es.all okB && adjB es
theorem rightB_iff {es : List Ent} : rightB es = true ↔ Rgt es := by
  unfold rightB Rgt
  rw [Bool.and_eq_true, adjB_iff, List.all_eq_true, sorted_iff]
  simp only [okB_iff]
end Go.Proofs.Ytblbddamebbgaaa.K
