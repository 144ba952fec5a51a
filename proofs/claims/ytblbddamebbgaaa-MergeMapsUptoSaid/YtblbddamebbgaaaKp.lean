/- Plain laws: the order of keys and entries, what is seen, pruned, merged. No memory, no program. -/
import Derived.Test.YtblbddamebbgaaaKf
namespace Go.Proofs.Ytblbddamebbgaaa.K
open Go
set_option linter.unusedVariables false
set_option linter.unusedSimpArgs false

abbrev bl := Op.bytesLess
theorem bl_irrefl : ∀ x : List UInt8, bl x x = false
  | [] => rfl
  | a :: x => by have := bl_irrefl x; simp only [bl] at this; simp [bl, Op.bytesLess, this]
theorem bl_trans : ∀ x y z : List UInt8, bl x y = true → bl y z = true → bl x z = true
  | _, _, [], _, h => by simp [bl, Op.bytesLess] at h
  | _, [], _ :: _, h, _ => by simp [bl, Op.bytesLess] at h
  | [], _ :: _, _ :: _, _, _ => by simp [bl, Op.bytesLess]
  | a :: x, b :: y, c :: z, h1, h2 => by
    simp only [bl, Op.bytesLess, Bool.or_eq_true, decide_eq_true_eq, Bool.and_eq_true, beq_iff_eq] at h1 h2 ⊢
    rcases h1 with h1 | ⟨rfl, h1⟩
    · rcases h2 with h2 | ⟨rfl, h2⟩
      · exact .inl (UInt8.lt_trans h1 h2)
      · exact .inl h1
    · rcases h2 with h2 | ⟨rfl, h2⟩
      · exact .inl h2
      · exact .inr ⟨rfl, bl_trans x y z h1 h2⟩
theorem bl_total : ∀ x y : List UInt8, bl x y = false → bl y x = false → x = y
  | [], [], _, _ => rfl
  | [], _ :: _, h, _ => by simp [bl, Op.bytesLess] at h
  | _ :: _, [], _, h => by simp [bl, Op.bytesLess] at h
  | a :: x, b :: y, h1, h2 => by
    simp only [bl, Op.bytesLess, Bool.or_eq_false_iff, decide_eq_false_iff_not, Bool.and_eq_false_iff, beq_eq_false_iff_ne, ne_eq] at h1 h2
    have e : a = b := by
      rcases UInt8.lt_or_lt_of_ne (a := a) (b := b) with h
      by_cases e : a = b
      · exact e
      · rcases h e with h | h
        · exact absurd h h1.1
        · exact absurd h h2.1
    subst e
    have h3 : bl x y = false := by rcases h1.2 with h | h; exact absurd rfl h; exact h
    have h4 : bl y x = false := by rcases h2.2 with h | h; exact absurd rfl h; exact h
    rw [bl_total x y h3 h4]
theorem bl_asymm (x y : List UInt8) (h : bl x y = true) : bl y x = false := by
  cases h' : bl y x with
  | false => rfl
  | true => have := bl_trans x y x h h'; rw [bl_irrefl] at this; cases this
theorem ba_ext {a b : ByteArray} (h : a.toList = b.toList) : a = b := by
  rw [ByteArray.toList_eq, ByteArray.toList_eq] at h
  cases a; cases b; congr; exact Array.toList_inj.1 h

/-- cmp.Compare on strings, on numbers; the order of entries: by key, then the newest first. -/
def cmpS (a b : ByteArray) : Int := if bl a.toList b.toList then -1 else if bl b.toList a.toList then 1 else 0
def cmpI (a b : Int) : Int := if a < b then -1 else if b < a then 1 else 0
def cmpE (a b : Ent) : Int := if cmpS a.k b.k ≠ 0 then cmpS a.k b.k else cmpI b.s a.s
/-- a stands before b. -/
def ltE (a b : Ent) : Prop := bl a.k.toList b.k.toList = true ∨ a.k = b.k ∧ b.s < a.s
/-- They are one version. -/
def sameE (a b : Ent) : Prop := a.k = b.k ∧ a.s = b.s
theorem cmpS_zero {a b : ByteArray} : cmpS a b = 0 ↔ a = b := by
  unfold cmpS
  constructor
  · intro h
    split at h
    · cases h
    · split at h
      · cases h
      · exact ba_ext (bl_total _ _ (by simpa using ‹¬ bl a.toList b.toList = true›) (by simpa using ‹¬ bl b.toList a.toList = true›))
  · rintro rfl; simp [bl_irrefl]
theorem cmpS_neg {a b : ByteArray} : cmpS a b < 0 ↔ bl a.toList b.toList = true := by
  unfold cmpS
  split
  · simp_all
  · split <;> simp_all
theorem cmpS_1 {a b : ByteArray} (h : Op.bytesLess a.toList b.toList = true) : cmpS a b = -1 := if_pos h
theorem cmpS_2 {a b : ByteArray} (h1 : Op.bytesLess a.toList b.toList = false) (h : (!(Op.bytesLess a.toList b.toList || a.toList == b.toList)) = true) : cmpS a b = 1 := by
  have hne : a.toList ≠ b.toList := fun e => by rw [h1, e] at h; simp at h
  unfold cmpS
  rw [if_neg (by rw [show bl a.toList b.toList = false from h1]; simp), if_pos]
  cases h2 : bl b.toList a.toList with
  | true => rfl
  | false => exact absurd (bl_total _ _ h1 h2) hne
theorem cmpS_3 {a b : ByteArray} (h1 : Op.bytesLess a.toList b.toList = false) (h : (!(Op.bytesLess a.toList b.toList || a.toList == b.toList)) = false) : cmpS a b = 0 := by
  rw [h1] at h
  have e : a.toList = b.toList := by simpa using h
  exact cmpS_zero.2 (ba_ext e)
theorem cmpI_zero {a b : Int} : cmpI a b = 0 ↔ a = b := by unfold cmpI; split; omega; split <;> omega
theorem cmpI_neg {a b : Int} : cmpI a b < 0 ↔ a < b := by unfold cmpI; split; omega; split <;> omega
theorem cmpE_neg {a b : Ent} : cmpE a b < 0 ↔ ltE a b := by
  unfold cmpE ltE
  by_cases h : cmpS a.k b.k = 0
  · have e := cmpS_zero.1 h
    rw [if_neg (by simp [h]), cmpI_neg]
    simp [e, bl_irrefl]
  · rw [if_pos h, cmpS_neg]
    have : a.k ≠ b.k := fun e => h (cmpS_zero.2 e)
    simp [this]
theorem cmpE_zero {a b : Ent} : cmpE a b = 0 ↔ sameE a b := by
  unfold cmpE sameE
  by_cases h : cmpS a.k b.k = 0
  · have e := cmpS_zero.1 h
    rw [if_neg (by simp [h]), cmpI_zero]
    simp only [e, true_and]
    exact eq_comm
  · rw [if_pos h]
    have : a.k ≠ b.k := fun e => h (cmpS_zero.2 e)
    simp [this, h]
theorem ltE_trans {a b c : Ent} (h1 : ltE a b) (h2 : ltE b c) : ltE a c := by
  rcases h1 with h1 | ⟨e1, h1⟩
  · rcases h2 with h2 | ⟨e2, h2⟩
    · exact .inl (bl_trans _ _ _ h1 h2)
    · exact .inl (e2 ▸ h1)
  · rcases h2 with h2 | ⟨e2, h2⟩
    · exact .inl (e1 ▸ h2)
    · exact .inr ⟨e1.trans e2, by omega⟩
theorem ltE_irrefl (a : Ent) : ¬ ltE a a := by
  rintro (h | ⟨_, h⟩)
  · rw [bl_irrefl] at h; cases h
  · omega
theorem ltE_total (a b : Ent) : ltE a b ∨ sameE a b ∨ ltE b a := by
  by_cases h : cmpE a b = 0
  · exact .inr (.inl (cmpE_zero.1 h))
  · by_cases h' : cmpE a b < 0
    · exact .inl (cmpE_neg.1 h')
    · refine .inr (.inr ?_)
      unfold ltE
      cases hx : bl a.k.toList b.k.toList with
      | true => exact absurd (cmpE_neg.2 (.inl hx)) h'
      | false =>
        cases hy : bl b.k.toList a.k.toList with
        | true => exact .inl rfl
        | false =>
          have e := ba_ext (bl_total _ _ hx hy)
          refine .inr ⟨e.symm, ?_⟩
          have h1 : ¬ b.s < a.s := fun h1 => h' (cmpE_neg.2 (.inr ⟨e, h1⟩))
          have h2 : a.s ≠ b.s := fun h2 => h (cmpE_zero.2 ⟨e, h2⟩)
          omega
instance (a b : Ent) : Decidable (ltE a b) := by unfold ltE; exact inferInstance

/-- Right: in order, none that is gone has a value. -/
def okE (e : Ent) : Prop := e.g = true → e.v = []
def Sorted (es : List Ent) : Prop := es.Pairwise ltE
def Adj (es : List Ent) : Prop := ∀ i (h : i + 1 < es.length), ltE es[i] es[i + 1]
def Rgt (es : List Ent) : Prop := (∀ e ∈ es, okE e) ∧ Sorted es
theorem sorted_of_adj : ∀ es : List Ent, Adj es → Sorted es
  | [], _ => .nil
  | [e], _ => by unfold Sorted; simp
  | a :: b :: es, h => by
    have h0 : ltE a b := h 0 (by simp)
    have ih := sorted_of_adj (b :: es) (fun i hi => by have := h (i + 1) (by simp at hi ⊢; omega); simpa using this)
    unfold Sorted at ih ⊢
    rw [List.pairwise_cons] at ih ⊢
    refine ⟨fun x hx => ?_, List.pairwise_cons.2 ih⟩
    rcases List.mem_cons.1 hx with rfl | hx
    · exact h0
    · exact ltE_trans h0 (ih.1 x hx)
theorem adj_of_sorted {es : List Ent} (h : Sorted es) : Adj es := fun i hi => List.pairwise_iff_getElem.1 h i (i + 1) (by omega) hi (by omega)
theorem sorted_iff {es : List Ent} : Sorted es ↔ Adj es := ⟨adj_of_sorted, sorted_of_adj es⟩

def newestN (up : Int) : List Ent → Nat
  | [] => 0
  | e :: es => if e.s ≤ up then 0 else newestN up es + 1
theorem newestN_at {up : Int} : ∀ (es : List Ent) (i : Nat) (h : i < es.length), (∀ j (hj : j < i), ¬ (es[j]'(by omega)).s ≤ up) → es[i].s ≤ up → newestN up es = i
  | e :: es, 0, _, _, h => by
    simp only [List.getElem_cons_zero] at h
    simp only [newestN]; rw [if_pos h]
  | e :: es, i + 1, hi, hn, h => by
    have h0 := hn 0 (by omega)
    simp only [List.getElem_cons_zero] at h0
    have := newestN_at es i (by simpa using hi) (fun j hj => by have := hn (j + 1) (by omega); simpa using this) (by simpa using h)
    simp only [newestN]; rw [if_neg h0, this]
theorem newestN_none {up : Int} : ∀ (es : List Ent), (∀ j (hj : j < es.length), ¬ es[j].s ≤ up) → newestN up es = es.length
  | [], _ => rfl
  | e :: es, hn => by
    have h0 := hn 0 (by simp)
    simp only [List.getElem_cons_zero] at h0
    have := newestN_none es (fun j hj => by have := hn (j + 1) (by simpa using hj); simpa using this)
    simp only [newestN]; rw [if_neg h0, this]; simp

def adjB : List Ent → Bool
  | a :: b :: es => decide (ltE a b) && adjB (b :: es)
  | _ => true
theorem adjB_iff : ∀ es : List Ent, adjB es = true ↔ Adj es
  | [] => by simp [adjB, Adj]
  | [a] => by simp [adjB, Adj]
  | a :: b :: es => by
    simp only [adjB, Bool.and_eq_true, decide_eq_true_eq, adjB_iff (b :: es)]
    constructor
    · rintro ⟨h1, h2⟩ i hi
      cases i with
      | zero => exact h1
      | succ i => have := h2 i (by simp at hi ⊢; omega); simpa using this
    · intro h
      exact ⟨h 0 (by simp), fun i hi => by have := h (i + 1) (by simp at hi ⊢; omega); simpa using this⟩
def okB (e : Ent) : Bool := !(e.g && decide ((0 : Int) < (e.v.length : Int)))
theorem okB_iff {e : Ent} : okB e = true ↔ okE e := by
  unfold okB okE
  cases e.g <;> simp
def rightB (es : List Ent) : Bool := es.all okB && adjB es
theorem rightB_iff {es : List Ent} : rightB es = true ↔ Rgt es := by
  unfold rightB Rgt
  rw [Bool.and_eq_true, adjB_iff, List.all_eq_true, sorted_iff]
  simp only [okB_iff]
end Go.Proofs.Ytblbddamebbgaaa.K
