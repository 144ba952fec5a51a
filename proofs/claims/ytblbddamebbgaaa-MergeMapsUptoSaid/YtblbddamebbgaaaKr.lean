/- Lists collected in a range over a function; what is seen and what is left, plain. -/
import Derived.Test.YtblbddamebbgaaaKh
namespace Go.Proofs.Ytblbddamebbgaaa.K
open Go Go.RowKit
set_option linter.unusedVariables false
set_option linter.unusedSectionVars false
set_option linter.unusedSimpArgs false

theorem nc_put {B C : Nat} {W : World} (h : W.heap[B]? = some (.deferred (some []))) (hC : C ≤ B) : Nc C W (W.putObj B (.deferred none)) :=
  ⟨⟨some B, grownBy_putObj' W B _, fun r e => by cases e; exact ⟨hC, _, h, rfl⟩⟩⟩
theorem Keep.after {S : Nat → Prop} {w0 w w' : World} (h : Ext w0 w) (hk : Keep S w w') (hs : ∀ k, k < w0.heap.size → S k) : Ext w0 w' :=
  ⟨hk.os.trans h.os, hk.tape.trans h.tape, hk.output.trans h.output, Nat.le_trans h.size hk.size, fun k hlt _ => (hk.block k (Nat.lt_of_lt_of_le hlt h.size) (hs k hlt)).trans (h.block k hlt trivial)⟩
/-- What is seen of a group. -/
def seenG (up : Int) (g : List Ent) : List Ent := match g[newestN up g]? with
  | some e => if e.g then [] else [e]
  | none => []
def seenL (up : Int) (es : List Ent) : List Ent := (grps es.length 0 es).flatMap fun x => seenG up x.2
def leftN (keep : Int) (bottom : Bool) (g : List Ent) : Nat := match g[newestN keep g]? with
  | some e => if e.g && bottom then newestN keep g else newestN keep g + 1
  | none => newestN keep g
def leftL (keep : Int) (bottom : Bool) (es : List Ent) : List Ent := (grps es.length 0 es).flatMap fun x => x.2.take (leftN keep bottom x.2)
theorem seenG_len (up : Int) (g : List Ent) : (seenG up g).length ≤ 1 := by
  unfold seenG
  split
  · split <;> simp
  · simp
theorem seenG_mem {up : Int} {g : List Ent} {e : Ent} (h : e ∈ seenG up g) : e ∈ g := by
  unfold seenG at h
  split at h
  · rename_i x hx
    split at h
    · simp at h
    · simp at h; subst h; exact List.mem_of_getElem? hx
  · simp at h
theorem seenG_some {up : Int} {g : List Ent} (h : newestN up g < g.length) (hg : g[newestN up g].g = false) : seenG up g = [g[newestN up g]] := by
  unfold seenG; rw [List.getElem?_eq_getElem h]; simp [hg]
theorem seenG_gone {up : Int} {g : List Ent} (h : newestN up g < g.length) (hg : g[newestN up g].g = true) : seenG up g = [] := by
  unfold seenG; rw [List.getElem?_eq_getElem h]; simp [hg]
theorem seenG_none {up : Int} {g : List Ent} (h : ¬ newestN up g < g.length) : seenG up g = [] := by
  unfold seenG; rw [List.getElem?_eq_none (by omega)]
theorem flat_len_le {α : Type} (f : α → List Ent) (n : Nat) : ∀ l : List α, (∀ x ∈ l, (f x).length ≤ n) → (l.flatMap f).length ≤ l.length * n
  | [], _ => by simp
  | x :: l, h => by
    have h1 := h x (by simp)
    have h2 := flat_len_le f n l fun y hy => h y (by simp [hy])
    simp only [List.flatMap_cons, List.length_append, List.length_cons, Nat.succ_mul]
    omega
/-- A slice's block is one of entries. -/
theorem OwnE.blk {A : Nat → Prop} {base : Nat} {w : World} {v : Value} {es : List Ent} (h : OwnE A base w v es) {b : Nat} {o : Obj} (hv : v.ownBlock = some b) (ho : w.heap[b]? = some o) : o.isCells = true := by
  obtain ⟨⟨bvs, h1, h2, h3⟩, h4⟩ := h
  rcases h2.2 with ⟨rfl, _⟩ | ⟨g, cap, cur, rfl, -, hg, -⟩
  · cases hv
  · cases hv; rw [hg] at ho; cases ho; rfl
theorem Blk.isC {w : World} {b : Nat} {cs : List Value} {t : TypeId} (h : Blk w b cs t) {o : Obj} (ho : w.heap[b]? = some o) : o.isCells = true := by
  unfold Blk at h; rw [h] at ho; cases ho; rfl
/-- What is held between two rounds: the box b6 holds what is collected; what lay before lies as it lay. -/
structure Coll (W0 : World) (b6 : Nat) (A : Nat → Prop) (xs : List Ent) (W : World) : Prop where
  ex : ∃ ov, Blk W b6 [ov] 26 ∧ OwnE A W0.heap.size W ov xs
  keep : Keep (fun k => k < W0.heap.size ∧ k ≠ b6) W0 W
theorem Coll.nc {W0 W W' : World} {b6 : Nat} {A : Nat → Prop} {xs : List Ent} (h : Coll W0 b6 A xs W) (hn : Nc W0.heap.size W W') : Coll W0 b6 A xs W' := by
  obtain ⟨⟨ov, h1, h2⟩, h3⟩ := h
  exact ⟨⟨ov, h1.nc hn, h2.nc hn⟩, h3.nc hn (Nat.le_refl _)⟩
theorem Coll.start {W0 : World} {b6 : Nat} {A : Nat → Prop} (h : Blk W0 b6 [.slice none 0 0] 26) : Coll W0 b6 A [] W0 := ⟨⟨_, h, own_nil _ _ _⟩, Keep.refl _ _⟩
/-- A round that collects nothing. -/
theorem Coll.still {W0 W W' : World} {b6 : Nat} {A : Nat → Prop} {xs : List Ent} (h : Coll W0 b6 A xs W) (hx : Ext W W') : Coll W0 b6 A xs W' := by
  obtain ⟨⟨ov, h1, h2⟩, h3⟩ := h
  exact ⟨⟨ov, h1.ext hx, h2.ext hx⟩, h3.trans (Keep.of_ext hx)⟩
section
variable {P : Program} {m : Nat} {D : List Deferred} {L : Env} {w W0 W : World} {b6 : Nat} {A : Nat → Prop} {ov : Value} {xs : List Ent}
/-- What a round turns: the box and the row's block. -/
def KeepR (b6 : Nat) (ov : Value) : World → World → Prop := Keep fun k => k ≠ b6 ∧ some k ≠ ov.ownBlock
theorem round_coll {α : Type} {I : List α → World → Prop} {Ix : Code → List α → World → Prop} {ys : List α} (hI : ∀ W, Coll W0 b6 A xs W → I ys W) (hb : Blk W b6 [ov] 26) (hrow : ∃ zs, OwnE A W0.heap.size W ov zs) (h0 : Keep (fun k => k < W0.heap.size ∧ k ≠ b6) W0 W) (hk : KeepR b6 ov W w)
    (h1 : ∃ ov', Blk w b6 [ov'] 26 ∧ OwnE A W0.heap.size w ov' xs) : NX (RoundQ W0.heap.size (fun k => k < W0.heap.size ∧ k ≠ b6) I Ix ys W) m D .normal L w := by
  obtain ⟨zs, hrow⟩ := hrow
  have hs : ∀ k, (k < W0.heap.size ∧ k ≠ b6) → k ≠ b6 ∧ some k ≠ ov.ownBlock := fun k h => ⟨h.2, fun e => by have := (hrow.lt k e.symm).1; omega⟩
  exact round_normal hk hs (fun k o hB ho hc => ⟨(fun e => by subst e; exact Bool.noConfusion ((hb.isC ho).symm.trans hc)), (fun e => Bool.noConfusion ((hrow.blk e.symm ho).symm.trans hc))⟩) (hI _ ⟨h1, h0.trans (hk.mono fun k _ h => hs k h)⟩)
theorem KeepR.of_ext {W W' : World} (h : Ext W W') : KeepR b6 ov W W' := Keep.of_ext h
end
theorem coll_done {w wG W : World} {b6 B : Nat} {ov : Value} {xs : List Ent} {es : List Ent} (hE : Ext w wG) (g6 : w.heap.size ≤ b6) (hK : Keep (fun k => k < wG.heap.size ∧ k ≠ b6) wG W) (hO : OwnE (fun k => wG.heap.size ≤ k) wG.heap.size W ov xs) (hB : wG.heap.size ≤ B) (hk : W.heap[B]? = some (.deferred (some []))) (he : xs = es) (hl : es.length ≤ 1099511627776) :
    Row (fun k => w.heap.size ≤ k) (W.putObj B (.deferred none)) ov es ∧ Ext w (W.putObj B (.deferred none)) := by
  subst he
  have hs := hE.size
  have h1 : Ext w W := Keep.after hE hK (fun k h => ⟨by omega, by omega⟩)
  have hn : Nc wG.heap.size W (W.putObj B (.deferred none)) := nc_put hk hB
  exact ⟨((hO.nc hn).row hl).mono (fun k _ h => by rcases h with h | h <;> omega), h1.nc hn hs⟩
theorem grps_flat : ∀ (f o : Nat) (es : List Ent), es.length ≤ f → (grps f o es).flatMap (·.2) = es
  | 0, _, es, h => by have : es = [] := List.eq_nil_of_length_eq_zero (by omega); subst this; rfl
  | f + 1, _, [], _ => rfl
  | f + 1, o, e :: es, h => by
    have hd : (es.dropWhile fun x => decide (x.k = e.k)).length ≤ f := by
      have := congrArg List.length (List.takeWhile_append_dropWhile (p := fun x => decide (x.k = e.k)) (l := es))
      simp only [List.length_append, List.length_cons] at this h
      omega
    simp only [grps, List.flatMap_cons, grps_flat f _ _ hd, List.cons_append, List.takeWhile_append_dropWhile]
theorem flat_le2 {α : Type} (f g : α → List Ent) : ∀ l : List α, (∀ x ∈ l, (f x).length ≤ (g x).length) → (l.flatMap f).length ≤ (l.flatMap g).length
  | [], _ => by simp
  | x :: l, h => by
    have h1 := h x (by simp)
    have h2 := flat_le2 f g l fun y hy => h y (by simp [hy])
    simp only [List.flatMap_cons, List.length_append]
    omega
theorem seenG_le (up : Int) (g : List Ent) : (seenG up g).length ≤ g.length := by
  cases g with
  | nil => simp [seenG]
  | cons e g => have := seenG_len up (e :: g); simp only [List.length_cons]; omega
theorem seenL_le (up : Int) (es : List Ent) : (seenL up es).length ≤ es.length := by
  have := flat_le2 (fun x => seenG up x.2) (·.2) (grps es.length 0 es) fun x _ => seenG_le _ _
  rwa [grps_flat _ _ _ (Nat.le_refl _)] at this
theorem leftL_le (keep : Int) (bottom : Bool) (es : List Ent) : (leftL keep bottom es).length ≤ es.length := by
  have := flat_le2 (fun x => x.2.take (leftN keep bottom x.2)) (·.2) (grps es.length 0 es) fun x _ => by simp; omega
  rwa [grps_flat _ _ _ (Nat.le_refl _)] at this
theorem newestN_le (up : Int) : ∀ g : List Ent, newestN up g ≤ g.length
  | [] => by simp [newestN]
  | e :: g => by have := newestN_le up g; simp only [newestN]; split <;> simp <;> omega
theorem leftN_some {keep : Int} {bottom : Bool} {g : List Ent} (h : newestN keep g < g.length) : leftN keep bottom g = if g[newestN keep g].g && bottom then newestN keep g else newestN keep g + 1 := by
  unfold leftN; rw [List.getElem?_eq_getElem h]
theorem leftN_none {keep : Int} {bottom : Bool} {g : List Ent} (h : ¬ newestN keep g < g.length) : leftN keep bottom g = newestN keep g := by
  unfold leftN; rw [List.getElem?_eq_none (by omega)]
theorem leftN_le (keep : Int) (bottom : Bool) (g : List Ent) : newestN keep g ≤ leftN keep bottom g ∧ leftN keep bottom g ≤ newestN keep g + 1 ∧ leftN keep bottom g ≤ g.length := by
  have h1 := newestN_le keep g
  by_cases h : newestN keep g < g.length
  · rw [leftN_some h]; split <;> omega
  · rw [leftN_none h]; omega
theorem take_snoc {g : List Ent} {s k : Nat} (h : s < (g.take k).length) : g.take (s + 1) = g.take s ++ [(g.take k)[s]] := by
  have h2 : s < g.length := by simp at h; omega
  rw [List.getElem_take, List.take_add_one, List.getElem?_eq_getElem h2]; rfl
theorem Keep.then {S S' : Nat → Prop} {w0 w w' : World} (h : Keep S w0 w) (hk : Keep S' w w') (hs : ∀ k, k < w0.heap.size → S k → S' k) : Keep S w0 w' :=
  ⟨hk.os.trans h.os, hk.tape.trans h.tape, hk.output.trans h.output, Nat.le_trans h.size hk.size, fun k hlt h1 => (hk.block k (Nat.lt_of_lt_of_le hlt h.size) (hs k hlt h1)).trans (h.block k hlt h1)⟩
/-- The first k of a row. -/
theorem Row.sliceh {A : Nat → Prop} {w : World} {a : Option Addr} {n c k : Nat} {g : List Ent} (h : Row A w (.slice a n c) g) (hk : k ≤ g.length) : Row A w (.slice (if c = 0 then a else a.map (·.add (0 * 4))) (k - 0) (c - 0)) (g.take k) := by
  obtain ⟨ad', cap', e, h1, h2, h3, h⟩ := h
  cases e
  have hlen : (g.take k).length = k := by simp; omega
  refine ⟨_, _, by rw [hlen]; rfl, by omega, by omega, fun x hx => h3 x (List.mem_of_mem_take hx), fun hne => ?_⟩
  obtain ⟨b, o, rfl, hA, hr⟩ := h (by rintro rfl; simp at hne)
  refine ⟨b, o, by split <;> simp [add_mk], hA, fun i x hi => hr i x ?_⟩
  rw [List.getElem?_take] at hi
  split at hi
  · exact hi
  · cases hi
/-- What is held within a round that collects more than once. -/
structure Col2 (wG W : World) (b8 : Nat) (A : Nat → Prop) (ov : Value) (xs : List Ent) (w : World) : Prop where
  ex : ∃ ov', Blk w b8 [ov'] 26 ∧ OwnE A wG.heap.size w ov' xs ∧ ∀ b, ov'.ownBlock = some b → ov.ownBlock = some b ∨ W.heap.size ≤ b
  keep : KeepR b8 ov W w

/-- A copy of e, made since w0. -/
def ApV (w0 : World) (e : Ent) : VP := fun u w => ∃ bv, u = .agg (cellsOf e bv).toArray ∧ Byts (fun k => w0.heap.size ≤ k) w bv e.v
/-- A slice of one copy of e, made since w0. -/
def Ap1 (w0 : World) (e : Ent) : VP := fun u w => ∃ bt bv, u = .slice (some ⟨bt, 0, none⟩) 1 1 ∧ w0.heap.size ≤ bt ∧ Blk w bt (cellsOf e bv) 25 ∧ Byts (fun k => w0.heap.size ≤ k) w bv e.v
theorem ApV.stable {w0 : World} {e : Ent} : Stable (ApV w0 e) := fun v w w' ⟨bv, h, hb⟩ hx => ⟨bv, h, hb.ext hx⟩
theorem Ap1.stable {w0 : World} {e : Ent} : Stable (Ap1 w0 e) := fun v w w' ⟨bt, bv, h, h2, hB, hb⟩ hx => ⟨bt, bv, h, h2, hB.ext hx, hb.ext hx⟩
section
variable {F : Fence} {n m : Nat} {Q : Exit → Act → World → Prop} {D : List Deferred} {L : Env} {w0 : World} {ops : List Oper} {rest : List Oper} {d s : Nat} {ty : TypeId} {pos : String} {af : Array Edge} {e : Ent} {K : Env → List (Nat × VP) → Prop} {V : List (Nat × VP)}
theorem q_apart {bv : Value} {x : Operand} {ts : Array TypeId} {g : Option (Nat × Bool)} (hg : wants L ops g = some true) (hd : Nat.blt d m = true) (hno : at' L d = none) (hx : evs L [x] = some [.agg (cellsOf e bv).toArray]) (hen : Enters Try.prog 62)
    (hc : ∀ w', Ext w0 w' → CallsIn F (n - 1) Try.prog 62 [Value.agg (cellsOf e bv).toArray].toArray w' (ok1 fun r w'' => (∃ bv', r = .agg (cellsOf e bv').toArray ∧ Byts (fun k => w'.heap.size ≤ k) w'' bv' e.v) ∧ Ext w' w'')) (k : QW F n Try.prog m D ops w0 K rest L ((d, ApV w0 e) :: V)) :
    QW F n Try.prog m D ops w0 K (⟨some d, .call ⟨.value (.func 62), [x].toArray, ts⟩, ty, pos, af, g⟩ :: rest) L V :=
  q_callp ApV.stable hg hd hno (fun _ => x_call hen hx) (fun w' hw => (hc w' hw).mono (fun e' w'' ⟨v, he, ⟨bv', hv, hb⟩, hE⟩ => ⟨v, he, ⟨bv', hv, hb.mono fun k _ h => Nat.le_trans hw.size h⟩, hE⟩)) k
theorem q_build1 (hd : Nat.blt d m = true) (hno : at' L d = none) (hs : (s, ApV w0 e) ∈ V) (k : QW F n Try.prog m D ops w0 K rest L ((d, Ap1 w0 e) :: V)) :
    QW F n Try.prog m D ops w0 K (⟨some d, .buildSlice 26 1 #[(0, .tmp s)], ty, pos, af, none⟩ :: rest) L V :=
  q_valv Ap1.stable rfl hd hno hs (List.mem_append_left _ (List.mem_filterMap.2 ⟨.tmp s, by simp [Op.operands], rfl⟩)) (fun w' u hw hu => by
    obtain ⟨bv, rfl, hb⟩ := hu
    have hlook : ev ((s, .agg (cellsOf e bv).toArray) :: L) (.tmp s) = some (.agg (cellsOf e bv).toArray) := by show at' _ _ = _; rw [at_cons, if_pos rfl]
    obtain ⟨b, w'', hx, h1, h2, h3⟩ := x_buildSlice (P := Try.prog) (m := m) (D := D) (w := w') (ty := ty) (L := (s, .agg (cellsOf e bv).toArray) :: L) (vs := [.agg (cellsOf e bv).toArray]) (sz := 4) (len := 1) (parts := [(0, .tmp s)]) Try.underlying26 ag25.siz Try.zeroValue25 (by simp only [partsOk, hlook]; rfl) rfl rfl (by decide)
    exact ⟨_, w'', hx, ⟨b, bv, rfl, Nat.le_trans hw.size h1, h2, hb.ext h3⟩, h3⟩) k
end
end Go.Proofs.Ytblbddamebbgaaa.K
