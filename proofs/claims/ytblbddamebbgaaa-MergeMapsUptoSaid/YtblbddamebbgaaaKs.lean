/- Bytes and strings converted; what the document's functions tell, plain. -/
import Derived.Test.YtblbddamebbgaaaKr
import Derived.Laws.IdiomStrings
import Derived.Laws.BytesArg
namespace Go.Proofs.Ytblbddamebbgaaa.K
open Go Go.RowKit
set_option linter.unusedVariables false
set_option linter.unusedSectionVars false
set_option linter.unusedSimpArgs false

section
variable {m : Nat} {D : List Deferred} {L : Env} {w : World} {ty : TypeId} {x : Operand} {v : Value} {A : Nat → Prop} {l : List UInt8}
theorem run_convB (h : Byts A w v l) : (convert 23 9 v).run Try.prog w = .ok (.string ⟨l.toArray⟩) w := by
  obtain ⟨ad, cap, rfl, hcap, hc⟩ := h
  cases ad with
  | none =>
    have hl0 : l = [] := by
      cases l with
      | nil => rfl
      | cons u l => obtain ⟨b, o, h, -⟩ := hc (by simp); cases h
    subst hl0
    exact run_convert_bytes_nil (P := Try.prog) (w := w) 23 5 Try.underlying23 Try.underlying5 _ _ 9 Try.underlying9
  | some a =>
    refine run_convert_bytes_back (P := Try.prog) w 23 9 5 a cap l Try.underlying23 Try.underlying5 Try.underlying9 (fun j hj => ?_)
    obtain ⟨b, o, h, -, hcell⟩ := hc (by rintro rfl; simp at hj)
    cases h
    rw [add_mk]
    exact hcell j _ (List.getElem?_eq_getElem hj)
theorem x_convB (hx : ev L x = some v) (h : Byts A w v l) : Xv Try.prog m D L (.convert 23 9 x) ty w (.string ⟨l.toArray⟩) w :=
  ⟨nofun, fun _ _ _ _ a ha => by simp [execOp, ha.ev hx, run_convB h]⟩
end
theorem toList_mk (l : List UInt8) : (ByteArray.mk l.toArray).toList = l := by
  have h : ∀ (b : ByteArray), b.toList = b.data.toList := fun b => by simp [ByteArray.toList_eq]
  rw [h]

/-! ### entries compared -/
def sameB (a b : Ent) : Bool := a.k.toList == b.k.toList && (decide (a.s = b.s) && ((a.g == b.g) && ((ByteArray.mk a.v.toArray).toList == (ByteArray.mk b.v.toArray).toList)))
theorem sameB_iff {a b : Ent} : sameB a b = true ↔ a = b := by
  constructor
  · intro h
    simp only [sameB, Bool.and_eq_true, beq_iff_eq, decide_eq_true_eq, toList_mk] at h
    obtain ⟨ak, as_, ag, av⟩ := a
    obtain ⟨bk, bs, bg, bv⟩ := b
    obtain ⟨h1, h2, h3, h4⟩ := h
    simp only at h1 h2 h3 h4
    rw [ba_ext h1, h2, h3, h4]
  · rintro rfl; simp [sameB]

theorem cmpE_1 {a b : Ent} (h : Op.bytesLess a.k.toList b.k.toList = true) : cmpE a b = -1 := by unfold cmpE; rw [cmpS_1 h]; rfl
theorem cmpE_2 {a b : Ent} (h1 : Op.bytesLess a.k.toList b.k.toList = false) (h : (!(Op.bytesLess a.k.toList b.k.toList || a.k.toList == b.k.toList)) = true) : cmpE a b = 1 := by unfold cmpE; rw [cmpS_2 h1 h]; rfl
theorem cmpE_3 {a b : Ent} (h1 : Op.bytesLess a.k.toList b.k.toList = false) (h : (!(Op.bytesLess a.k.toList b.k.toList || a.k.toList == b.k.toList)) = false) : cmpE a b = cmpI b.s a.s := by unfold cmpE; rw [cmpS_3 h1 h]; rfl
/-- Is something wrong with element s? -/
def badB (es : List Ent) (s : Nat) : Bool := !okB (es.getD s z0) || (decide (0 < s) && decide (0 ≤ cmpE (es.getD (s - 1) z0) (es.getD s z0)))
theorem getD_eq {es : List Ent} {s : Nat} (h : s < es.length) : es.getD s z0 = es[s] := by rw [List.getD_eq_getElem?_getD, List.getElem?_eq_getElem h]; rfl
theorem badB_true {es : List Ent} {s : Nat} (hs : s < es.length) (h : badB es s = true) : rightB es = false := by
  cases hr : rightB es with
  | false => rfl
  | true =>
    obtain ⟨h1, h2⟩ := rightB_iff.1 hr
    have h3 := adj_of_sorted h2
    unfold badB at h
    rw [Bool.or_eq_true] at h
    rcases h with h | h
    · rw [getD_eq hs, okB_iff.2 (h1 _ (List.getElem_mem hs))] at h; cases h
    · rw [Bool.and_eq_true, decide_eq_true_eq, decide_eq_true_eq] at h
      obtain ⟨t, rfl⟩ : ∃ t, s = t + 1 := ⟨s - 1, by omega⟩
      rw [getD_eq hs, Nat.add_sub_cancel, getD_eq (by omega)] at h
      have := cmpE_neg.2 (h3 t hs)
      omega
theorem badB_false {es : List Ent} (h : ∀ s, s < es.length → badB es s = false) : rightB es = true := by
  have h0 : ∀ s, s < es.length → okB (es.getD s z0) = true ∧ (0 < s → cmpE (es.getD (s - 1) z0) (es.getD s z0) < 0) := fun s hs => by
    have := h s hs
    unfold badB at this
    rw [Bool.or_eq_false_iff] at this
    refine ⟨by simpa using this.1, fun hs => ?_⟩
    have h2 := this.2
    rw [decide_eq_true hs, Bool.true_and, decide_eq_false_iff_not] at h2
    omega
  refine rightB_iff.2 ⟨fun e he => ?_, sorted_of_adj _ fun i hi => ?_⟩
  · obtain ⟨i, hi, rfl⟩ := List.getElem_of_mem he
    have := (h0 i hi).1
    rw [getD_eq hi] at this
    exact okB_iff.1 this
  · have := (h0 (i + 1) hi).2 (by omega)
    rw [getD_eq hi, Nat.add_sub_cancel, getD_eq (by omega)] at this
    exact cmpE_neg.1 this

theorem badB_1 {es : List Ent} {s : Nat} (hs : s < es.length) (h : okB es[s] = false) : badB es s = true := by unfold badB; rw [getD_eq hs, h]; rfl
theorem badB_2 {es : List Ent} {s : Nat} (hs : s < es.length) (h : okB es[s] = true) (hp : 0 < s) : badB es s = decide (0 ≤ cmpE es[s - 1] es[s]) := by unfold badB; rw [getD_eq hs, getD_eq (show s - 1 < es.length by omega), h, decide_eq_true hp]; simp
theorem badB_3 {es : List Ent} {s : Nat} (hs : s < es.length) (h : okB es[s] = true) (hp : ¬ 0 < s) : badB es s = false := by unfold badB; rw [getD_eq hs, h, decide_eq_false hp]; rfl
theorem okB_1 {e : Ent} (h1 : e.g = true) (h2 : (0 : Int) < (e.v.length : Int)) : okB e = false := by unfold okB; rw [h1, decide_eq_true h2]; rfl
theorem okB_2 {e : Ent} (h2 : ¬ (0 : Int) < (e.v.length : Int)) : okB e = true := by unfold okB; rw [decide_eq_false h2, Bool.and_false]; rfl
theorem okB_3 {e : Ent} (h1 : e.g = false) : okB e = true := by unfold okB; rw [h1]; rfl

/-! ### the document's Seen and Prune -/
def freshB (pk : Option ByteArray) (e : Ent) : Bool := match pk with
  | some k => !(e.k.toList == k.toList)
  | none => false
def doneB (pk : Option ByteArray) (d : Bool) (e : Ent) : Bool := if freshB pk e then false else d
def rSeen (up : Int) : Option ByteArray → Bool → List Ent → List Ent
  | _, _, [] => []
  | pk, d, e :: es => if doneB pk d e || decide (up < e.s) then rSeen up (some e.k) (doneB pk d e) es else (if e.g then [] else [e]) ++ rSeen up (some e.k) true es
def rLeft (keep : Int) (bottom : Bool) : Option ByteArray → Bool → List Ent → List Ent
  | _, _, [] => []
  | pk, d, e :: es => if keep < e.s then e :: rLeft keep bottom (some e.k) (doneB pk d e) es else (if !doneB pk d e && !(e.g && bottom) then [e] else []) ++ rLeft keep bottom (some e.k) true es
theorem doneB_same {k : ByteArray} {d : Bool} {e : Ent} (h : e.k = k) : doneB (some k) d e = d := by simp [doneB, freshB, h]
theorem doneB_new {k : ByteArray} {d : Bool} {e : Ent} (h : e.k ≠ k) : doneB (some k) d e = false := by
  have : (e.k.toList == k.toList) = false := by
    cases hb : e.k.toList == k.toList with
    | false => rfl
    | true => exact absurd (ba_ext (by simpa using hb)) h
  simp [doneB, freshB, this]
theorem rSeen_done (up : Int) (k : ByteArray) (rest : List Ent) : ∀ g : List Ent, (∀ e ∈ g, e.k = k) → rSeen up (some k) true (g ++ rest) = rSeen up (some k) true rest
  | [], _ => rfl
  | e :: g, h => by
    have hk := h e (by simp)
    simp only [List.cons_append, rSeen, doneB_same hk, Bool.true_or, if_true]
    rw [hk]; exact rSeen_done up k rest g fun x hx => h x (by simp [hx])
theorem rSeen_grp (up : Int) (k : ByteArray) (rest : List Ent) : ∀ g : List Ent, (∀ e ∈ g, e.k = k) → rSeen up (some k) false (g ++ rest) = seenG up g ++ rSeen up (some k) (decide (newestN up g < g.length)) rest
  | [], _ => by simp [seenG, newestN]
  | e :: g, h => by
    have hk := h e (by simp)
    have hg : ∀ x ∈ g, x.k = k := fun x hx => h x (by simp [hx])
    simp only [List.cons_append, rSeen, doneB_same hk, Bool.false_or]
    by_cases hs : e.s ≤ up
    · have h0 : newestN up (e :: g) = 0 := by simp [newestN, hs]
      rw [if_neg (by simpa using hs), hk, rSeen_done up k rest g hg]
      simp only [seenG, h0, List.getElem?_cons_zero, List.length_cons]
      cases e.g <;> simp
    · have h1 : newestN up (e :: g) = newestN up g + 1 := by simp [newestN, hs]
      rw [if_pos (by simp; omega), hk, rSeen_grp up k rest g hg]
      simp only [seenG, h1, List.getElem?_cons_succ, List.length_cons]
      congr 2
      simp
theorem rSeen_fresh (up : Int) (k : ByteArray) (d : Bool) : ∀ rest : List Ent, (∀ e, rest.head? = some e → e.k ≠ k) → rSeen up (some k) d rest = rSeen up none false rest
  | [], _ => rfl
  | e :: rest, h => by
    have := h e rfl
    simp only [rSeen, doneB_new this]
    rfl
theorem rSeen_start (up : Int) (e : Ent) (tl : List Ent) : rSeen up none false (e :: tl) = rSeen up (some e.k) false (e :: tl) := by
  simp only [rSeen, doneB_same rfl]; rfl
theorem head_drop {p : Ent → Bool} {e : Ent} : ∀ l : List Ent, (l.dropWhile p).head? = some e → p e = false
  | [], h => by simp at h
  | x :: l, h => by
    by_cases hp : p x = true
    · simp [hp] at h; exact head_drop l (by simpa using h)
    · simp [hp] at h; subst h; simpa using hp
theorem grps_all {k : ByteArray} {l : List Ent} : ∀ e ∈ l.takeWhile (fun x => decide (x.k = k)), e.k = k := fun e he => by
  induction l with
  | nil => simp at he
  | cons x l ih =>
    simp only [List.takeWhile_cons] at he
    split at he
    · rename_i hx
      rcases List.mem_cons.1 he with rfl | he
      · simpa using hx
      · exact ih he
    · simp at he
theorem rSeen_eq (up : Int) : ∀ (f o : Nat) (es : List Ent), es.length ≤ f → rSeen up none false es = (grps f o es).flatMap fun x => seenG up x.2
  | _, _, [], _ => by rename_i f o _; cases f <;> rfl
  | 0, _, e :: es, h => by simp at h
  | f + 1, o, e :: es, h => by
    have happ := List.takeWhile_append_dropWhile (p := fun x : Ent => decide (x.k = e.k)) (l := es)
    have hl : (es.dropWhile fun x => decide (x.k = e.k)).length ≤ f := by
      have := congrArg List.length happ
      simp only [List.length_append, List.length_cons] at this h
      omega
    have hall : ∀ x ∈ e :: es.takeWhile (fun x => decide (x.k = e.k)), x.k = e.k := fun x hx => by
      rcases List.mem_cons.1 hx with rfl | hx
      · rfl
      · exact grps_all x hx
    rw [rSeen_start]
    conv => lhs; rw [← happ, ← List.cons_append]
    rw [rSeen_grp up e.k _ _ hall, rSeen_fresh up e.k _ _ (fun x hx => by simpa using head_drop es hx), rSeen_eq up f _ _ hl]
    rfl
theorem rSeen_is (up : Int) (es : List Ent) : rSeen up none false es = seenL up es := rSeen_eq up _ 0 es (Nat.le_refl _)

/-- Numbers fall. -/
def Fall (g : List Ent) : Prop := g.Pairwise fun a b => b.s < a.s
theorem rLeft_done (keep : Int) (bottom : Bool) (k : ByteArray) (rest : List Ent) : ∀ g : List Ent, (∀ e ∈ g, e.k = k) → (∀ e ∈ g, e.s ≤ keep) → rLeft keep bottom (some k) true (g ++ rest) = rLeft keep bottom (some k) true rest
  | [], _, _ => rfl
  | e :: g, h, hs => by
    have hk := h e (by simp)
    have h1 := hs e (by simp)
    simp only [List.cons_append, rLeft, doneB_same hk]
    rw [if_neg (by omega), hk]
    simp only [Bool.not_true, Bool.false_and, Bool.false_eq_true, if_false, List.nil_append]
    exact rLeft_done keep bottom k rest g (fun x hx => h x (by simp [hx])) (fun x hx => hs x (by simp [hx]))
theorem rLeft_grp (keep : Int) (bottom : Bool) (k : ByteArray) (rest : List Ent) : ∀ g : List Ent, (∀ e ∈ g, e.k = k) → Fall g → ∃ d, rLeft keep bottom (some k) false (g ++ rest) = g.take (leftN keep bottom g) ++ rLeft keep bottom (some k) d rest
  | [], _, _ => ⟨false, by simp⟩
  | e :: g, h, hf => by
    have hk := h e (by simp)
    have hg : ∀ x ∈ g, x.k = k := fun x hx => h x (by simp [hx])
    have hf1 := (List.pairwise_cons.1 hf).1
    have hf2 := (List.pairwise_cons.1 hf).2
    by_cases hs : e.s ≤ keep
    · have h0 : newestN keep (e :: g) = 0 := by simp [newestN, hs]
      refine ⟨true, ?_⟩
      simp only [List.cons_append, rLeft, doneB_same hk]
      rw [if_neg (by omega), hk, rLeft_done keep bottom k rest g hg (fun x hx => by have := hf1 x hx; omega)]
      simp only [leftN, h0, List.getElem?_cons_zero]
      cases e.g <;> cases bottom <;> simp
    · have h1 : newestN keep (e :: g) = newestN keep g + 1 := by simp [newestN, hs]
      have h2 : leftN keep bottom (e :: g) = leftN keep bottom g + 1 := by
        simp only [leftN, h1, List.getElem?_cons_succ]
        split
        · split <;> rfl
        · rfl
      obtain ⟨d, hd⟩ := rLeft_grp keep bottom k rest g hg hf2
      refine ⟨d, ?_⟩
      simp only [List.cons_append, rLeft, doneB_same hk]
      rw [if_pos (by omega), hk, hd, h2]
      rfl
theorem rLeft_fresh (keep : Int) (bottom : Bool) (k : ByteArray) (d : Bool) : ∀ rest : List Ent, (∀ e, rest.head? = some e → e.k ≠ k) → rLeft keep bottom (some k) d rest = rLeft keep bottom none false rest
  | [], _ => rfl
  | e :: rest, h => by
    have := h e rfl
    simp only [rLeft, doneB_new this]
    rfl
theorem rLeft_start (keep : Int) (bottom : Bool) (e : Ent) (tl : List Ent) : rLeft keep bottom none false (e :: tl) = rLeft keep bottom (some e.k) false (e :: tl) := by
  simp only [rLeft, doneB_same rfl]; rfl
theorem fall_of {k : ByteArray} {g : List Ent} (h : ∀ e ∈ g, e.k = k) (hs : Sorted g) : Fall g := by
  refine List.Pairwise.imp_of_mem (fun {a b} ha hb h' => ?_) hs
  rcases h' with h' | ⟨-, h'⟩
  · rw [h a ha, h b hb, bl_irrefl] at h'; cases h'
  · exact h'
theorem rLeft_eq (keep : Int) (bottom : Bool) : ∀ (f o : Nat) (es : List Ent), es.length ≤ f → Sorted es → rLeft keep bottom none false es = (grps f o es).flatMap fun x => x.2.take (leftN keep bottom x.2)
  | _, _, [], _, _ => by rename_i f o _ _; cases f <;> rfl
  | 0, _, e :: es, h, _ => by simp at h
  | f + 1, o, e :: es, h, hso => by
    have happ := List.takeWhile_append_dropWhile (p := fun x : Ent => decide (x.k = e.k)) (l := es)
    have hl : (es.dropWhile fun x => decide (x.k = e.k)).length ≤ f := by
      have := congrArg List.length happ
      simp only [List.length_append, List.length_cons] at this h
      omega
    have hall : ∀ x ∈ e :: es.takeWhile (fun x => decide (x.k = e.k)), x.k = e.k := fun x hx => by
      rcases List.mem_cons.1 hx with rfl | hx
      · rfl
      · exact grps_all x hx
    have hso2 : Sorted ((e :: es.takeWhile fun x => decide (x.k = e.k)) ++ es.dropWhile fun x => decide (x.k = e.k)) := by rw [List.cons_append, happ]; exact hso
    obtain ⟨hs1, hs2, -⟩ := List.pairwise_append.1 hso2
    rw [rLeft_start]
    conv => lhs; rw [← happ, ← List.cons_append]
    obtain ⟨d, hd⟩ := rLeft_grp keep bottom e.k (es.dropWhile fun x => decide (x.k = e.k)) _ hall (fall_of hall hs1)
    rw [hd, rLeft_fresh keep bottom e.k _ _ (fun x hx => by simpa using head_drop es hx), rLeft_eq keep bottom f (o + 1 + (es.takeWhile fun x => decide (x.k = e.k)).length) _ hl hs2]
    rfl
theorem rLeft_is (keep : Int) (bottom : Bool) (es : List Ent) (h : Sorted es) : rLeft keep bottom none false es = leftL keep bottom es := rLeft_eq keep bottom _ 0 es (Nat.le_refl _) h

/-! ### the loops of the document's Seen and Prune -/
def pkOf (es : List Ent) (s : Nat) : Option ByteArray := if s = 0 then none else some (es.getD (s - 1) z0).k
theorem pkOf_succ {es : List Ent} {s : Nat} (h : s < es.length) : pkOf es (s + 1) = some es[s].k := by unfold pkOf; rw [if_neg (by omega), Nat.add_sub_cancel, getD_eq h]
theorem fresh_pos {es : List Ent} {s : Nat} {e : Ent} (h0 : 0 < s) (h : s - 1 < es.length) : freshB (pkOf es s) e = !(e.k.toList == es[s - 1].k.toList) := by unfold pkOf; rw [if_neg (by omega), getD_eq h]; rfl
theorem fresh_zero {es : List Ent} {s : Nat} {e : Ent} (h0 : ¬ 0 < s) : freshB (pkOf es s) e = false := by unfold pkOf; rw [if_pos (by omega)]; rfl
theorem doneB_fresh {pk : Option ByteArray} {d : Bool} {e : Ent} (h : freshB pk e = true) : doneB pk d e = false := by unfold doneB; rw [h]; rfl
theorem doneB_stale {pk : Option ByteArray} {d : Bool} {e : Ent} (h : freshB pk e = false) : doneB pk d e = d := by unfold doneB; rw [h]; rfl
theorem drop_at {es : List Ent} {s : Nat} (h : s < es.length) : es.drop s = es[s] :: es.drop (s + 1) := List.drop_eq_getElem_cons h
theorem rSeen_skip {up : Int} {pk : Option ByteArray} {d : Bool} {e : Ent} {es : List Ent} (h : (doneB pk d e || decide (up < e.s)) = true) : rSeen up pk d (e :: es) = rSeen up (some e.k) (doneB pk d e) es := by simp only [rSeen, h, if_true]
theorem rSeen_take {up : Int} {pk : Option ByteArray} {d : Bool} {e : Ent} {es : List Ent} (h : (doneB pk d e || decide (up < e.s)) = false) : rSeen up pk d (e :: es) = (if e.g then [] else [e]) ++ rSeen up (some e.k) true es := by simp [rSeen, h]
theorem rLeft_keep {keep : Int} {bottom : Bool} {pk : Option ByteArray} {d : Bool} {e : Ent} {es : List Ent} (h : keep < e.s) : rLeft keep bottom pk d (e :: es) = e :: rLeft keep bottom (some e.k) (doneB pk d e) es := by simp only [rLeft, h, if_true]
theorem rLeft_old {keep : Int} {bottom : Bool} {pk : Option ByteArray} {d : Bool} {e : Ent} {es : List Ent} (h : ¬ keep < e.s) : rLeft keep bottom pk d (e :: es) = (if !doneB pk d e && !(e.g && bottom) then [e] else []) ++ rLeft keep bottom (some e.k) true es := by simp only [rLeft, if_neg h]
/-- What is collected in ov, and what is still to come. -/
def OutIs (w w' : World) (ov : Value) (n : Nat) (rest all : List Ent) : Prop := ∃ coll, OwnE (fun k => k < w.heap.size) w.heap.size w' ov coll ∧ coll.length ≤ n ∧ coll ++ rest = all
theorem OutIs.row {w w' : World} {ov : Value} {n : Nat} {all : List Ent} (h : OutIs w w' ov n [] all) (hn : n ≤ 1099511627776) : Row (fun _ => True) w' ov all := by
  obtain ⟨coll, h1, h2, h3⟩ := h
  rw [List.append_nil] at h3
  subst h3
  exact (h1.row (by omega)).mono fun _ _ _ => trivial
end Go.Proofs.Ytblbddamebbgaaa.K
