/- My own walking rules (part 4): the steps of a region in any order; ranges over functions; append. No program is named here. -/
import Derived.Test.YtiaikajibefieaaKc
namespace Go.Proofs.Ytiaikajibefieaa.K
open Go Go.RowKit
set_option linter.unusedVariables false
set_option linter.unusedSectionVars false
set_option linter.unusedSimpArgs false

section
variable {F : Fence} {n : Nat} {P : Program} {Q : Exit → Act → World → Prop} {m : Nat} {D : List Deferred} {L : Env} {w w' w0 : World} {a : Act}
variable {ops tail : List Oper} {rest : List Oper} {d : Nat} {ty t e : TypeId} {pos : String} {af : Array Edge} {g : Option (Nat × Bool)} {v : Value} {x y : Operand} {K : Env → List (Nat × VP) → Prop} {V : List (Nat × VP)}

theorem q_nil (k : K L V) : QW F n P m D ops w0 K [] L V := k
theorem q_val {op : Op} (hg : wants L ops g = some true) (hd : Nat.blt d m = true) (hx : ∀ w', Ext w0 w' → Xv P m D L op ty w' v w') (k : QW F n P m D ops w0 K rest ((d, v) :: L) V) :
    QW F n P m D ops w0 K (⟨some d, op, ty, pos, af, g⟩ :: rest) L V :=
  ⟨d, rfl, hd, .inl ⟨v, fun w' hw a h _ => .inl ⟨h.wanted (o := ⟨some d, op, ty, pos, af, g⟩) hg, .val v w' ((hx w' hw).2 _ _ _ _ a h) ⟨rfl, Keep.refl _ _⟩⟩, k⟩⟩
theorem q_off {op : Op} (hg : wants L ops g = some false) (hd : Nat.blt d m = true) (k : QW F n P m D ops w0 K rest ((d, undef) :: L) V) :
    QW F n P m D ops w0 K (⟨some d, op, ty, pos, af, g⟩ :: rest) L V :=
  ⟨d, rfl, hd, .inl ⟨undef, fun w' hw a h _ => .inr ⟨h.wanted (o := ⟨some d, op, ty, pos, af, g⟩) hg, rfl⟩, k⟩⟩
theorem q_call {op : Op} {f : FuncId} {args : Array Value} (hg : wants L ops g = some true) (hd : Nat.blt d m = true) (hx : ∀ w', Xc P m D L op ty w' f args w')
    (hc : ∀ w', Ext w0 w' → CallsIn F (n - 1) P f args w' (ok1 fun u w'' => u = v ∧ Ext w' w'')) (k : QW F n P m D ops w0 K rest ((d, v) :: L) V) :
    QW F n P m D ops w0 K (⟨some d, op, ty, pos, af, g⟩ :: rest) L V :=
  ⟨d, rfl, hd, .inl ⟨v, fun w' hw a h _ => .inl ⟨h.wanted (o := ⟨some d, op, ty, pos, af, g⟩) hg, .call f args w' ((hx w').2 _ _ _ _ a h) (hc w' hw)⟩, k⟩⟩
theorem q_callp {op : Op} {f : FuncId} {args : Array Value} {p : VP} (hp : Stable p) (hg : wants L ops g = some true) (hd : Nat.blt d m = true) (hno : at' L d = none) (hx : ∀ w', Xc P m D L op ty w' f args w')
    (hc : ∀ w', Ext w0 w' → CallsIn F (n - 1) P f args w' (ok1 fun u w'' => p u w'' ∧ Ext w' w'')) (k : QW F n P m D ops w0 K rest L ((d, p) :: V)) :
    QW F n P m D ops w0 K (⟨some d, op, ty, pos, af, g⟩ :: rest) L V :=
  ⟨d, rfl, hd, .inr ⟨p, hp, hno, fun w' hw a h _ => .inl ⟨h.wanted (o := ⟨some d, op, ty, pos, af, g⟩) hg, .call f args w' ((hx w').2 _ _ _ _ a h) (hc w' hw)⟩, k⟩⟩
theorem q_valp {op : Op} {p : VP} (hp : Stable p) (hg : wants L ops g = some true) (hd : Nat.blt d m = true) (hno : at' L d = none) (hx : ∀ w', Ext w0 w' → ∃ v w'', Xv P m D L op ty w' v w'' ∧ p v w'' ∧ Ext w' w'') (k : QW F n P m D ops w0 K rest L ((d, p) :: V)) :
    QW F n P m D ops w0 K (⟨some d, op, ty, pos, af, g⟩ :: rest) L V :=
  ⟨d, rfl, hd, .inr ⟨p, hp, hno, fun w' hw a h _ => by
    obtain ⟨v, w'', hx, hpv, he⟩ := hx w' hw
    exact .inl ⟨h.wanted (o := ⟨some d, op, ty, pos, af, g⟩) hg, .val v w'' (hx.2 _ _ _ _ a h) ⟨hpv, he⟩⟩, k⟩⟩
/-- An operation that reads one slot of whose value only q is known. -/
theorem q_valv {op : Op} {p q : VP} {s : Nat} (hp : Stable p) (hg : wants L ops g = some true) (hd : Nat.blt d m = true) (hno : at' L d = none) (hs : (s, q) ∈ V) (hlo : s ∈ looks ops ⟨some d, op, ty, pos, af, g⟩)
    (hx : ∀ w' u, Ext w0 w' → q u w' → ∃ v w'', Xv P m D ((s, u) :: L) op ty w' v w'' ∧ p v w'' ∧ Ext w' w'') (k : QW F n P m D ops w0 K rest L ((d, p) :: V)) :
    QW F n P m D ops w0 K (⟨some d, op, ty, pos, af, g⟩ :: rest) L V :=
  ⟨d, rfl, hd, .inr ⟨p, hp, hno, fun w' hw a h hvs => by
    obtain ⟨u, hu, hq⟩ := hvs _ hs hlo
    obtain ⟨v, w'', hx, hpv, he⟩ := hx w' u hw hq
    refine .inl ⟨h.wanted (o := ⟨some d, op, ty, pos, af, g⟩) hg, .val v w'' (hx.2 _ _ _ _ a ⟨h.size, h.defers, fun i v hi => ?_⟩) ⟨hpv, he⟩⟩
    rw [at_cons] at hi
    split at hi
    · rename_i e; subst e; cases hi; exact hu
    · exact h.get i v hi, k⟩⟩
theorem tail0 (k : ∀ w', Ext w0 w' → WL F n P Q m D ops tail L w') : Tail F n P Q m D ops tail w0 L [] := fun w' hw L' _ hs => wl_sub hs (k w' hw)
theorem tail1 {p : VP} (k : ∀ w' v, Ext w0 w' → p v w' → WL F n P Q m D ops tail ((d, v) :: L) w') : Tail F n P Q m D ops tail w0 L [(d, p)] := fun w' hw L' hv hs => by
  obtain ⟨v, h1, h2⟩ := hv (d, p) (by simp)
  exact wl_sub (sub_cons h1 hs) (k w' v hw h2)
theorem tail2 {d2 : Nat} {p p2 : VP} (k : ∀ w' v v2, Ext w0 w' → p v w' → p2 v2 w' → WL F n P Q m D ops tail ((d, v) :: (d2, v2) :: L) w') : Tail F n P Q m D ops tail w0 L [(d, p), (d2, p2)] := fun w' hw L' hv hs => by
  obtain ⟨v, h1, h2⟩ := hv (d, p) (by simp)
  obtain ⟨v2, h3, h4⟩ := hv (d2, p2) (by simp)
  exact wl_sub (sub_cons h1 (sub_cons h3 hs)) (k w' v v2 hw h2 h4)
theorem fr_eqv {L' : Env} (h : ∀ i, at' L' i = at' L i) (hf : Fr m D a L) : Fr m D a L' := ⟨hf.size, hf.defers, fun i v hi => hf.get i v (by rw [← h]; exact hi)⟩
theorem qw_eqv : ∀ (rest : List Oper) (L L' : Env) (V : List (Nat × VP)), (∀ i, at' L' i = at' L i) → QW F n P m D ops w0 (Tail F n P Q m D ops tail w0) rest L' V → QW F n P m D ops w0 (Tail F n P Q m D ops tail w0) rest L V
  | [], L, L', V, he, h => fun w' hw L2 hv hs => h w' hw L2 hv (fun i v hi => hs i v (by rw [← he]; exact hi))
  | o :: rest, L, L', V, he, h => by
    obtain ⟨d, hd, hdm, h⟩ := h
    refine ⟨d, hd, hdm, ?_⟩
    rcases h with ⟨c, hf, hq⟩ | ⟨p, hp, hno, hf, hq⟩
    · exact .inl ⟨c, fun w' hw a ha hv => hf w' hw a (fr_eqv he ha) hv, qw_eqv rest ((d, c) :: L) ((d, c) :: L') V (fun i => by rw [at_cons, at_cons, he]) hq⟩
    · exact .inr ⟨p, hp, by rw [← he]; exact hno, fun w' hw a ha hv => hf w' hw a (fr_eqv he ha) hv, qw_eqv rest L L' _ he hq⟩
theorem eqv_cons {u : Value} (h : at' L d = some u) : ∀ i, at' ((d, u) :: L) i = at' L i := fun i => by
  rw [at_cons]; split
  · rename_i e; subst e; exact h.symm
  · rfl
/-- A guard that is not known yet. -/
theorem q_bcases {b : Bool} (h : at' L d = some (.bool b)) (k1 : b = true → QW F n P m D ops w0 (Tail F n P Q m D ops tail w0) rest ((d, .bool true) :: L) V) (k2 : b = false → QW F n P m D ops w0 (Tail F n P Q m D ops tail w0) rest ((d, .bool false) :: L) V) :
    QW F n P m D ops w0 (Tail F n P Q m D ops tail w0) rest L V := by
  cases b with
  | true => exact qw_eqv rest _ _ _ (eqv_cons h) (k1 rfl)
  | false => exact qw_eqv rest _ _ _ (eqv_cons h) (k2 rfl)
theorem q_dcases {p : Prop} [Decidable p] (h : at' L d = some (.bool (decide p))) (k1 : p → QW F n P m D ops w0 (Tail F n P Q m D ops tail w0) rest ((d, .bool true) :: L) V) (k2 : ¬ p → QW F n P m D ops w0 (Tail F n P Q m D ops tail w0) rest ((d, .bool false) :: L) V) :
    QW F n P m D ops w0 (Tail F n P Q m D ops tail w0) rest L V := q_bcases h (fun e => k1 (of_decide_eq_true e)) (fun e => k2 (of_decide_eq_false e))
theorem wl_bcases {b : Bool} (h : at' L d = some (.bool b)) (k1 : b = true → WL F n P Q m D ops rest ((d, .bool true) :: L) w) (k2 : b = false → WL F n P Q m D ops rest ((d, .bool false) :: L) w) : WL F n P Q m D ops rest L w := by
  cases b with
  | true => exact fun a ha => k1 rfl a (fr_eqv (eqv_cons h) ha)
  | false => exact fun a ha => k2 rfl a (fr_eqv (eqv_cons h) ha)
theorem wl_dcases {p : Prop} [Decidable p] (h : at' L d = some (.bool (decide p))) (k1 : p → WL F n P Q m D ops rest ((d, .bool true) :: L) w) (k2 : ¬ p → WL F n P Q m D ops rest ((d, .bool false) :: L) w) : WL F n P Q m D ops rest L w :=
  wl_bcases h (fun e => k1 (of_decide_eq_true e)) (fun e => k2 (of_decide_eq_false e))
/-- The ways through c meet again: behind it the frame holds L', the world is such that I. -/
def CutQ (m : Nat) (D : List Deferred) (L' : Env) (I : World → Prop) : Exit → Act → World → Prop := fun e a w' => e = .normal ∧ Fr m D a L' ∧ I w'
theorem wc_cut {c : Code} (L' : Env) (I : World → Prop) (h1 : WC F n P (CutQ m D L' I) m D c L w) (h2 : ∀ w', I w' → NX Q m D .normal L' w') : WC F n P Q m D c L w := fun a ha =>
  wpIn_mono (h1 a ha) (fun e a' w' h => by obtain ⟨rfl, hf, hi⟩ := h; exact h2 w' hi a' hf)
theorem nx_cut {L' : Env} {I : World → Prop} (hs : Sub L' L) (hi : I w) : NX (CutQ m D L' I) m D .normal L w := fun a ha => ⟨rfl, ha.sub hs, hi⟩
/-- .. where what the frame holds is known up to s. -/
def CutE {σ : Type} (m : Nat) (D : List Deferred) (L' : σ → Env) (I : σ → World → Prop) : Exit → Act → World → Prop := fun e a w' => e = .normal ∧ ∃ s, Fr m D a (L' s) ∧ I s w'
theorem wc_cutE {σ : Type} {c : Code} (L' : σ → Env) (I : σ → World → Prop) (h1 : WC F n P (CutE m D L' I) m D c L w) (h2 : ∀ s w', I s w' → NX Q m D .normal (L' s) w') : WC F n P Q m D c L w := fun a ha =>
  wpIn_mono (h1 a ha) (fun e a' w' h => by obtain ⟨rfl, s, hf, hi⟩ := h; exact h2 s w' hi a' hf)
theorem nx_cutE {σ : Type} {L' : σ → Env} {I : σ → World → Prop} (s : σ) (hs : Sub (L' s) L) (hi : I s w) : NX (CutE m D L' I) m D .normal L w := fun a ha => ⟨rfl, s, ha.sub hs, hi⟩
/-- The drawn region, its facts told of the world ahead of it. -/
theorem wc_draw' {id : Nat} (N : Nat) (hW : Wd F) (hm : P.follows .mixedOrders = true) (hck : freeOk ops N = true)
    (hq : ∀ w0, Ext w w0 → QW F n P m D ops w0 (Tail F n P Q m D ops (ops.drop N) w0) (ops.take N) L []) : WC F n P Q m D (.region id ops.toArray true) L w := wc_draw N hW hm hck (hq _ (ext_drew w))
end

/-! ### ranges over functions -/
theorem KeepsFrom.of_keep {S : Nat → Prop} {B : Nat} {w w' : World} (h : Keep S w w') (hs : ∀ k o, B ≤ k → w.heap[k]? = some o → o.isCells = false → S k) : KeepsFrom B w w' :=
  ⟨h.size, fun k o hB hk ho => by rw [h.block k (Array.getElem?_eq_some_iff.1 hk).1 (hs k o hB hk ho)]; exact hk⟩
/-- A step that turns a block that is no cells. -/
structure Nc (B : Nat) (w w' : World) : Prop where
  ex : ∃ row, w.grownBy w' row ∧ ∀ r, row = some r → B ≤ r ∧ ∃ o : Obj, w.heap[r]? = some o ∧ o.isCells = false
theorem Nc.cell {B : Nat} {w w' : World} (h : Nc B w w') {ad : Addr} {v : Value} (hc : w.cell? ad = some v) : w'.cell? ad = some v := by
  obtain ⟨row, hg, hr⟩ := h.ex
  exact cell_kept hc hg (fun r e => (hr r e).2)
theorem Blk.nc {B : Nat} {w w' : World} {b : Nat} {cs : List Value} {t : TypeId} (h : Blk w b cs t) (hn : Nc B w w') : Blk w' b cs t := by
  obtain ⟨row, hg, hr⟩ := hn.ex
  refine (hg.block b h.lt (fun e => ?_)).trans h
  obtain ⟨-, o, ho, hc⟩ := hr b e.symm
  unfold Blk at h
  rw [h] at ho
  cases ho
  cases hc
theorem Keep.nc {S : Nat → Prop} {B : Nat} {w0 w w' : World} (h : Keep S w0 w) (hn : Nc B w w') (hB : w0.heap.size ≤ B) : Keep S w0 w' := by
  obtain ⟨row, hg, hr⟩ := hn.ex
  exact ⟨hg.os.trans h.os, hg.tape.trans h.tape, hg.output.trans h.output, Nat.le_trans h.size hg.size, fun k hk hs => (hg.block k (Nat.lt_of_lt_of_le hk h.size) (fun e => by have := (hr k e.symm).1; omega)).trans (h.block k hk hs)⟩
theorem ownFrom_of {β : Type} {B : Nat} {I : β → World → Prop} (h : ∀ s w w', I s w → Nc B w w' → I s w') : OwnFrom B I := fun s W W' row hs hg hr => h s W W' hs ⟨row, hg, hr⟩

section
variable {P : Program} {Q : Exit → Act → World → Prop} {m : Nat} {D : List Deferred} {L : Env} {w w' w0 : World}
/-- What the body of a round must come to. -/
def RoundQ {α : Type} (B : Nat) (S : Nat → Prop) (I : List α → World → Prop) (Ix : Code → List α → World → Prop) (xs : List α) (W : World) : Exit → Act → World → Prop := ownPostG B (Keep S) I Ix xs W
theorem round_normal {α : Type} {B : Nat} {S S' : Nat → Prop} {I : List α → World → Prop} {Ix : Code → List α → World → Prop} {xs : List α} {W : World} (hk : Keep S' W w) (hs : ∀ k, S k → S' k) (hc : ∀ k o, B ≤ k → W.heap[k]? = some o → o.isCells = false → S' k) (hi : I xs w) :
    NX (RoundQ B S I Ix xs W) m D .normal L w := fun a h => ⟨KeepsFrom.of_keep hk hc, hk.mono (fun k _ h => hs k h), hi⟩
theorem round_ret {α : Type} {B : Nat} {S S' : Nat → Prop} {I : List α → World → Prop} {Ix : Code → List α → World → Prop} {xs : List α} {W : World} (hk : Keep S' W w) (hc : ∀ k o, B ≤ k → W.heap[k]? = some o → o.isCells = false → S' k) (hi : Ix .ret xs w) :
    NX (RoundQ B S I Ix xs W) m D .ret L w := fun a h => ⟨KeepsFrom.of_keep hk hc, hi⟩
theorem round_exit {α : Type} {B : Nat} {S S' : Nat → Prop} {I : List α → World → Prop} {Ix : Code → List α → World → Prop} {xs : List α} {W : World} {id : Nat} (hk : Keep S' W w) (hc : ∀ k o, B ≤ k → W.heap[k]? = some o → o.isCells = false → S' k) (hi : Ix (.exit id) xs w) :
    NX (RoundQ B S I Ix xs W) m D (.exit id) L w := fun a h => ⟨KeepsFrom.of_keep hk hc, hi⟩

theorem wc_range {α : Type} {g : Operand} {p : Nat} {assign body : Code} {gf : Nat} {lb : List Value} (enc : α → Value) (S : Nat → Prop) (Sd Sp : List α → Prop) (N : Nat)
    (hg : ev L g = some (.func (.func gf) #[] lb.toArray)) (he : Enters P gf) (hp : Nat.blt p m = true)
    (hseq : SeqStopsK Fence.wide 8 P gf lb.toArray (fun x => #[enc x]) (Keep S) Sd Sp N w) (hS : ∀ k, S k → k < w.heap.size)
    (I : List α → World → Prop) (Ix : Code → List α → World → Prop) (hI : ∀ s W W', I s W → Nc w.heap.size W W' → I s W') (hIx : ∀ c s W W', Ix c s W → Nc w.heap.size W W' → Ix c s W') (h0 : I [] w) (La : α → Env)
    (hassign : ∀ (l : Nat) (x : α) (W : World) (K : Act → World → Prop), NX (fun _ a w => K a w) m [] .normal (La x) W → WC (Fence.wide.inRound l) 7 P (Exit.then K (fun _ _ _ => False)) m [] assign ((p, enc x) :: L) W)
    (hbody : ∀ (l : Nat) (pre : List α) (x : α) (W : World), I pre W → pre.length < N → WC (Fence.wide.inRound l) 7 P (RoundQ w.heap.size S I Ix (pre ++ [x]) W) m [] body (La x) W)
    (hdone : ∀ (B : Nat) (xs : List α) (W : World), w.heap.size ≤ B → Sd xs → I xs W → W.heap[B]? = some (.deferred (some [])) → NX Q m (mark B :: D) .normal L W)
    (hstop : ∀ (B : Nat) (c : Code) (pre : List α) (W : World), w.heap.size ≤ B → Sp pre → Ix c pre W → W.heap[B]? = some (.deferred (some [])) → WC Fence.wide 9 P Q m (mark B :: D) c L W) :
    WC Fence.wide 9 P Q m D (.rangeFunc g #[p] assign body) L w := by
  intro a ha
  have hpm : p < m := by simpa using hp
  refine wpIn_rangeFunc_ownH (F := Fence.wide) (n := 9) rfl (by omega) (gf := gf) (lb := lb.toArray) (ha.ev hg) trivial he (encs := fun x => #[enc x]) (Kp := Keep S) (S := Sd) (Sp := Sp) (N := N) (w0 := w) hseq (fun h k => h.trans k) ?_ (Below.refl _ _) (fun _ => rfl)
    I Ix (ownFrom_of hI) (fun c => ownFrom_of (hIx c)) h0 (fun x a' _ => Fr m [] a' (La x)) (fun x a' => ownFrom_of (fun _ _ _ h _ => h)) ?_ ?_ ?_ ?_
  · intro W l o o' hl h ho _
    exact ⟨rfl, rfl, rfl, by simp [World.putObj], fun k hk hs => World.putObj_heap_other (by have := hS k hs; omega)⟩
  · intro l pre x W K hi hK
    refine hassign l x W K (fun a' h' => hK a' W (KeepsFrom.refl _ _) (Keep.refl _ _) hi h') _ ?_
    refine ⟨by simp [ha.size], rfl, fun i v hi => ?_⟩
    rw [at_cons] at hi
    show ((#[p].zip #[enc x]).foldl (fun t (q : Nat × Value) => t.setIfInBounds q.1 q.2) a.tmps)[i]? = some v
    have e : (#[p].zip #[enc x]).foldl (fun t (q : Nat × Value) => t.setIfInBounds q.1 q.2) a.tmps = a.tmps.setIfInBounds p (enc x) := by simp
    rw [e]
    split at hi
    · rename_i e; subst e; cases hi; simp [ha.size, hpm]
    · rename_i e; rw [Array.getElem?_setIfInBounds_ne e]; exact ha.get i v hi
  · intro l pre x a' W _ _ hi hax hlt
    exact hbody l pre x W hi hlt a' hax
  · intro B xs W hB hs hi hk
    exact hdone B xs W hB hs hi hk _ ⟨ha.size, by simp [mark, ha.defers], ha.get⟩
  · intro B c pre W hB hs hi hk
    exact hstop B c pre W hB hs hi hk _ ⟨ha.size, by simp [mark, ha.defers], ha.get⟩
end
end Go.Proofs.Ytiaikajibefieaa.K
