import Derived.Test.YtblbddamebbgaaaY2
import Derived.Maps.Own
import Derived.Maps.OwnOps
import Derived.Maps.Range
import Derived.Maps.Views
import Derived.Maps.Keyed
import Derived.StringKeys
import Derived.Maps.AppendAt
import Derived.AtR
import Derived.Scope
/- The plain law of merging: what is merged is sorted, and of the same the first list's. -/
namespace Go.Proofs.Ytblbddamebbgaaa.K
open Go Go.RowKit
set_option linter.unusedVariables false
set_option linter.unusedSectionVars false
set_option linter.unusedSimpArgs false

theorem ltE_not_same {a b : Ent} (h : ltE a b) : ¬ sameE a b := by
  rintro ⟨h1, h2⟩
  rcases h with h | ⟨-, h⟩
  · rw [h1, bl_irrefl] at h; cases h
  · omega
theorem same_symm {a b : Ent} (h : sameE a b) : sameE b a := ⟨h.1.symm, h.2.symm⟩
theorem same_trans {a b c : Ent} (h : sameE a b) (h' : sameE b c) : sameE a c := ⟨h.1.trans h'.1, h.2.trans h'.2⟩
theorem ltE_same {a b c : Ent} (h : ltE a b) (h' : sameE b c) : ltE a c := by
  rcases h with h | ⟨h1, h2⟩
  · exact .inl (by rw [← h'.1]; exact h)
  · exact .inr ⟨h1.trans h'.1, by rw [← h'.2]; exact h2⟩
theorem same_ltE {a b c : Ent} (h : sameE a b) (h' : ltE b c) : ltE a c := by
  rcases h' with h' | ⟨h1, h2⟩
  · exact .inl (by rw [h.1]; exact h')
  · exact .inr ⟨h.1.trans h1, by rw [h.2]; exact h2⟩
theorem ltE_asymm {a b : Ent} (h : ltE a b) : ¬ ltE b a := fun h' => ltE_irrefl a (ltE_trans h h')
/-- A sorted list is known by its members. -/
theorem sorted_ext : ∀ (a b : List Ent), Sorted a → Sorted b → (∀ x, x ∈ a ↔ x ∈ b) → a = b
  | [], [], _, _, _ => rfl
  | [], y :: b, _, _, h => by have := (h y).2 (by simp); simp at this
  | x :: a, [], _, _, h => by have := (h x).1 (by simp); simp at this
  | x :: a, y :: b, ha, hb, h => by
    obtain ⟨ha1, ha2⟩ := List.pairwise_cons.1 ha
    obtain ⟨hb1, hb2⟩ := List.pairwise_cons.1 hb
    have hxy : x = y := by
      have h1 := (h x).1 (by simp)
      have h2 := (h y).2 (by simp)
      rcases List.mem_cons.1 h1 with h1 | h1
      · exact h1
      · rcases List.mem_cons.1 h2 with h2 | h2
        · exact h2.symm
        · exact absurd (hb1 x h1) (ltE_asymm (ha1 y h2))
    subst hxy
    congr 1
    refine sorted_ext a b ha2 hb2 fun z => ⟨fun hz => ?_, fun hz => ?_⟩
    · rcases List.mem_cons.1 ((h z).1 (List.mem_cons_of_mem _ hz)) with rfl | h'
      · exact absurd (ha1 z hz) (ltE_irrefl z)
      · exact h'
    · rcases List.mem_cons.1 ((h z).2 (List.mem_cons_of_mem _ hz)) with rfl | h'
      · exact absurd (hb1 z hz) (ltE_irrefl z)
      · exact h'
/-- x comes up in a list, and none before holds the same. -/
def Pri (ls : List (List Ent)) (x : Ent) : Prop := ∃ (i : Nat) (l : List Ent), ls[i]? = some l ∧ x ∈ l ∧ ∀ (j : Nat) (l' : List Ent), j < i → ls[j]? = some l' → ∀ y ∈ l', ¬ sameE y x
/-- The first list of those whose head is least: number bi, head e. -/
def FirstMin (ls : List (List Ent)) (bi : Nat) (e : Ent) : Prop := (∃ t, ls[bi]? = some (e :: t)) ∧ ∀ (j : Nat) (x : Ent) (t : List Ent), ls[j]? = some (x :: t) → ¬ ltE x e ∧ (j < bi → ¬ sameE x e)
def dropS (e : Ent) (l : List Ent) : List Ent := l.dropWhile fun x => decide (cmpE x e = 0)
inductive MRel : List (List Ent) → List Ent → Prop
  | done (ls : List (List Ent)) (h : ∀ l ∈ ls, l = []) : MRel ls []
  | step (ls : List (List Ent)) (bi : Nat) (e : Ent) (M : List Ent) (h : FirstMin ls bi e) (h' : MRel (ls.map (dropS e)) M) : MRel ls (e :: M)
theorem dropS_nil (e : Ent) : dropS e [] = [] := rfl
theorem dropS_same {e x : Ent} {t : List Ent} (h : sameE x e) : dropS e (x :: t) = dropS e t := by simp [dropS, cmpE_zero.2 h]
theorem dropS_diff {e x : Ent} {t : List Ent} (h : ¬ sameE x e) : dropS e (x :: t) = x :: t := by
  have : ¬ cmpE x e = 0 := fun h' => h (cmpE_zero.1 h')
  simp [dropS, this]
/-- In a sorted list whose head isn't less than e: what is left is what is more than e. -/
theorem dropS_sorted {e : Ent} {l : List Ent} (hs : Sorted l) (hm : ∀ x t, l = x :: t → ¬ ltE x e) : Sorted (dropS e l) ∧ (∀ x, x ∈ dropS e l ↔ x ∈ l ∧ ltE e x) ∧ (∀ x ∈ l, sameE x e → ∃ t, l = x :: t) := by
  cases l with
  | nil => exact ⟨by rw [dropS_nil]; exact List.Pairwise.nil, by simp [dropS_nil], by simp⟩
  | cons y t =>
    obtain ⟨h1, h2⟩ := List.pairwise_cons.1 hs
    have hy := hm y t rfl
    by_cases hsm : sameE y e
    · have hgt : ∀ x ∈ t, ltE e x := fun x hx => same_ltE (same_symm hsm) (h1 x hx)
      have hd : dropS e (y :: t) = t := by
        rw [dropS_same hsm]
        cases t with
        | nil => rfl
        | cons z t => exact dropS_diff fun h => ltE_not_same (hgt z (by simp)) (same_symm h)
      rw [hd]
      refine ⟨h2, fun x => ⟨fun hx => ⟨by simp [hx], hgt x hx⟩, fun ⟨hx, hlt⟩ => ?_⟩, fun x hx hxe => ?_⟩
      · rcases List.mem_cons.1 hx with rfl | hx
        · exact absurd (same_symm hsm) (ltE_not_same hlt)
        · exact hx
      · rcases List.mem_cons.1 hx with rfl | hx
        · exact ⟨t, rfl⟩
        · exact absurd (same_symm hxe) (ltE_not_same (hgt x hx))
    · have hgt : ltE e y := by
        rcases ltE_total y e with h | h | h
        · exact absurd h hy
        · exact absurd h hsm
        · exact h
      rw [dropS_diff hsm]
      have hall : ∀ x ∈ y :: t, ltE e x := fun x hx => by
        rcases List.mem_cons.1 hx with rfl | hx
        · exact hgt
        · exact ltE_trans hgt (h1 x hx)
      exact ⟨hs, fun x => ⟨fun hx => ⟨hx, hall x hx⟩, fun h => h.1⟩, fun x hx hxe => absurd (same_symm hxe) (ltE_not_same (hall x hx))⟩
theorem mrel_law {ls : List (List Ent)} {M : List Ent} (h : MRel ls M) : (∀ l ∈ ls, Sorted l) → Sorted M ∧ ∀ x, x ∈ M ↔ Pri ls x := by
  induction h with
  | done ls h =>
    intro _
    refine ⟨List.Pairwise.nil, fun x => ⟨fun hx => by simp at hx, fun ⟨i, l, hl, hx, _⟩ => ?_⟩⟩
    rw [h l (List.mem_of_getElem? hl)] at hx
    simp at hx
  | step ls bi e M hf hr ih =>
    intro hs
    obtain ⟨⟨tb, hb⟩, hmin⟩ := hf
    have hd : ∀ (i : Nat) (l : List Ent), ls[i]? = some l → Sorted (dropS e l) ∧ (∀ x, x ∈ dropS e l ↔ x ∈ l ∧ ltE e x) ∧ (∀ x ∈ l, sameE x e → ∃ t, l = x :: t) := fun i l hl =>
      dropS_sorted (hs l (List.mem_of_getElem? hl)) fun x t e' => (hmin i x t (by rw [hl, e'])).1
    obtain ⟨i1, i2⟩ := ih (fun l hl => by
      obtain ⟨l0, hl0, rfl⟩ := List.mem_map.1 hl
      obtain ⟨i, hi⟩ := List.getElem?_of_mem hl0
      exact (hd i l0 hi).1)
    have hgt : ∀ x, x ∈ M → ltE e x := fun x hx => by
      obtain ⟨i, l, hl, hxl, -⟩ := (i2 x).1 hx
      rw [List.getElem?_map] at hl
      cases hli : ls[i]? with
      | none => rw [hli] at hl; simp at hl
      | some l0 =>
        rw [hli] at hl
        simp at hl
        subst hl
        exact (((hd i l0 hli).2.1 x).1 hxl).2
    have hpe : Pri ls e := ⟨bi, _, hb, by simp, fun j l' hj hl' y hy hye => by
      obtain ⟨t, ht⟩ := (hd j l' hl').2.2 y hy hye
      exact (hmin j y t (by rw [hl', ht])).2 hj hye⟩
    refine ⟨List.pairwise_cons.2 ⟨hgt, i1⟩, fun x => ⟨fun hx => ?_, fun hx => ?_⟩⟩
    · rcases List.mem_cons.1 hx with rfl | hx
      · exact hpe
      · have hlt := hgt x hx
        obtain ⟨i, l, hl, hxl, hno⟩ := (i2 x).1 hx
        rw [List.getElem?_map] at hl
        cases hli : ls[i]? with
        | none => rw [hli] at hl; simp at hl
        | some l0 =>
          rw [hli] at hl
          simp at hl
          subst hl
          refine ⟨i, l0, hli, (((hd i l0 hli).2.1 x).1 hxl).1, fun j l' hj hl' y hy hyx => ?_⟩
          refine hno j (dropS e l') hj (by rw [List.getElem?_map, hl']; rfl) y (((hd j l' hl').2.1 y).2 ⟨hy, ltE_same hlt (same_symm hyx)⟩) hyx
    · obtain ⟨i, l, hl, hxl, hno⟩ := hx
      by_cases hxe : sameE x e
      · have hij : i = bi := by
          rcases Nat.lt_trichotomy i bi with h | h | h
          · obtain ⟨t, ht⟩ := (hd i l hl).2.2 x hxl hxe
            exact absurd hxe ((hmin i x t (by rw [hl, ht])).2 h)
          · exact h
          · exact absurd (same_symm hxe) (hno bi _ h hb e (by simp))
        subst hij
        rw [hb] at hl
        cases hl
        obtain ⟨t, ht⟩ := (hd i _ hb).2.2 x hxl hxe
        cases ht
        simp
      · refine List.mem_cons_of_mem _ ((i2 x).2 ⟨i, dropS e l, by rw [List.getElem?_map, hl]; rfl, ?_, fun j l' hj hl' y hy hyx => ?_⟩)
        · refine ((hd i l hl).2.1 x).2 ⟨hxl, ?_⟩
          cases hlc : l with
          | nil => rw [hlc] at hxl; simp at hxl
          | cons z t =>
            have hz := (hmin i z t (by rw [hl, hlc])).1
            have hxz : x = z ∨ ltE z x := by
              rw [hlc] at hxl
              rcases List.mem_cons.1 hxl with h | h
              · exact .inl h
              · have := hs l (List.mem_of_getElem? hl)
                rw [hlc] at this
                exact .inr ((List.pairwise_cons.1 this).1 x h)
            rcases ltE_total x e with h | h | h
            · rcases hxz with rfl | hzx
              · exact absurd h hz
              · exact absurd (ltE_trans hzx h) hz
            · exact absurd h hxe
            · exact h
        · rw [List.getElem?_map] at hl'
          cases hlj : ls[j]? with
          | none => rw [hlj] at hl'; simp at hl'
          | some l0 =>
            rw [hlj] at hl'
            simp at hl'
            subst hl'
            exact hno j l0 hj hlj y (((hd j l0 hlj).2.1 y).1 hy).1 hyx

def twoF : Nat → List Ent → List Ent → List Ent
  | 0, _, _ => []
  | _ + 1, [], [] => []
  | n + 1, [], y :: b => y :: twoF n [] b
  | n + 1, x :: a, [] => x :: twoF n a []
  | n + 1, x :: a, y :: b => if cmpE x y ≤ 0 then x :: twoF n a (if cmpE x y = 0 then b else y :: b) else y :: twoF n (x :: a) b
theorem twoF_nil_left : ∀ (n : Nat) (b : List Ent), b.length ≤ n → twoF n [] b = b
  | 0, [], _ => rfl
  | 0, y :: b, h => by simp at h
  | n + 1, [], _ => rfl
  | n + 1, y :: b, h => by simp only [twoF]; rw [twoF_nil_left n b (by simpa using h)]
theorem twoF_nil_right : ∀ (n : Nat) (a : List Ent), a.length ≤ n → twoF n a [] = a
  | 0, [], _ => rfl
  | 0, y :: b, h => by simp at h
  | n + 1, [], _ => rfl
  | n + 1, y :: b, h => by simp only [twoF]; rw [twoF_nil_right n b (by simpa using h)]
theorem cmpE_le {x y : Ent} : cmpE x y ≤ 0 ↔ ltE x y ∨ sameE x y := by
  rw [← cmpE_neg, ← cmpE_zero]; omega
theorem two_law : ∀ (n : Nat) (a b : List Ent), a.length + b.length ≤ n → Sorted a → Sorted b → Sorted (twoF n a b) ∧ ∀ x, x ∈ twoF n a b ↔ x ∈ a ∨ (x ∈ b ∧ ∀ y ∈ a, ¬ sameE y x)
  | 0, [], [], _, _, _ => by simp [twoF, Sorted]
  | 0, x :: a, _, h, _, _ => by simp at h
  | 0, [], y :: b, h, _, _ => by simp at h
  | n + 1, [], b, h, _, hb => by rw [twoF_nil_left _ _ (by simpa using h)]; exact ⟨hb, by simp⟩
  | n + 1, x :: a, [], h, ha, _ => by rw [twoF_nil_right _ _ (by simpa using h)]; exact ⟨ha, by simp⟩
  | n + 1, x :: a, y :: b, h, ha, hb => by
    obtain ⟨ha1, ha2⟩ := List.pairwise_cons.1 ha
    obtain ⟨hb1, hb2⟩ := List.pairwise_cons.1 hb
    simp only [List.length_cons] at h
    simp only [twoF]
    by_cases hle : cmpE x y ≤ 0
    · rw [if_pos hle]
      by_cases heq : cmpE x y = 0
      · rw [if_pos heq]
        have hxy := cmpE_zero.1 heq
        obtain ⟨i1, i2⟩ := two_law n a b (by omega) ha2 hb2
        refine ⟨List.pairwise_cons.2 ⟨fun z hz => ?_, i1⟩, fun z => ?_⟩
        · rcases (i2 z).1 hz with h' | ⟨h', -⟩
          · exact ha1 z h'
          · exact same_ltE hxy (hb1 z h')
        · rw [List.mem_cons, i2, List.mem_cons]
          constructor
          · rintro (rfl | h' | ⟨h', hn⟩)
            · exact .inl (.inl rfl)
            · exact .inl (.inr h')
            · refine .inr ⟨List.mem_cons_of_mem _ h', fun w hw => ?_⟩
              rcases List.mem_cons.1 hw with rfl | hw
              · exact fun hwz => ltE_not_same (hb1 z h') (same_trans (same_symm hxy) hwz)
              · exact hn w hw
          · rintro ((rfl | h') | ⟨h', hn⟩)
            · exact .inl rfl
            · exact .inr (.inl h')
            · rcases List.mem_cons.1 h' with rfl | h'
              · exact absurd hxy (hn x (by simp))
              · exact .inr (.inr ⟨h', fun w hw => hn w (List.mem_cons_of_mem _ hw)⟩)
      · rw [if_neg heq]
        have hxy : ltE x y := by rcases cmpE_le.1 hle with h' | h'; exact h'; exact absurd (cmpE_zero.2 h') heq
        obtain ⟨i1, i2⟩ := two_law n a (y :: b) (by simp only [List.length_cons]; omega) ha2 hb
        have hgt : ∀ z ∈ y :: b, ltE x z := fun z hz => by
          rcases List.mem_cons.1 hz with rfl | hz
          · exact hxy
          · exact ltE_trans hxy (hb1 z hz)
        refine ⟨List.pairwise_cons.2 ⟨fun z hz => ?_, i1⟩, fun z => ?_⟩
        · rcases (i2 z).1 hz with h' | ⟨h', -⟩
          · exact ha1 z h'
          · exact hgt z h'
        · rw [List.mem_cons, i2, List.mem_cons (a := z) (b := x)]
          constructor
          · rintro (rfl | h' | ⟨h', hn⟩)
            · exact .inl (.inl rfl)
            · exact .inl (.inr h')
            · refine .inr ⟨h', fun w hw => ?_⟩
              rcases List.mem_cons.1 hw with rfl | hw
              · exact ltE_not_same (hgt z h')
              · exact hn w hw
          · rintro ((rfl | h') | ⟨h', hn⟩)
            · exact .inl rfl
            · exact .inr (.inl h')
            · exact .inr (.inr ⟨h', fun w hw => hn w (List.mem_cons_of_mem _ hw)⟩)
    · rw [if_neg hle]
      have hyx : ltE y x := by
        rcases ltE_total x y with h' | h' | h'
        · exact absurd (cmpE_le.2 (.inl h')) hle
        · exact absurd (cmpE_le.2 (.inr h')) hle
        · exact h'
      obtain ⟨i1, i2⟩ := two_law n (x :: a) b (by simp only [List.length_cons]; omega) ha hb2
      have hgt : ∀ z ∈ x :: a, ltE y z := fun z hz => by
        rcases List.mem_cons.1 hz with rfl | hz
        · exact hyx
        · exact ltE_trans hyx (ha1 z hz)
      refine ⟨List.pairwise_cons.2 ⟨fun z hz => ?_, i1⟩, fun z => ?_⟩
      · rcases (i2 z).1 hz with h' | ⟨h', -⟩
        · exact hgt z h'
        · exact hb1 z h'
      · rw [List.mem_cons, i2, List.mem_cons (a := z) (b := y)]
        constructor
        · rintro (rfl | h' | ⟨h', hn⟩)
          · exact .inr ⟨.inl rfl, fun w hw hwz => ltE_not_same (hgt w hw) (same_symm hwz)⟩
          · exact .inl h'
          · exact .inr ⟨.inr h', hn⟩
        · rintro (h' | ⟨rfl | h', hn⟩)
          · exact .inr (.inl h')
          · exact .inl rfl
          · exact .inr (.inr ⟨h', hn⟩)
theorem pri_cons {l : List Ent} {ls : List (List Ent)} {x : Ent} : Pri (l :: ls) x ↔ x ∈ l ∨ ((∀ y ∈ l, ¬ sameE y x) ∧ Pri ls x) := by
  constructor
  · rintro ⟨i, l', hl, hx, hno⟩
    cases i with
    | zero => simp at hl; subst hl; exact .inl hx
    | succ i => exact .inr ⟨hno 0 l (by omega) rfl, i, l', by simpa using hl, hx, fun j l'' hj hl'' => hno (j + 1) l'' (by omega) (by simpa using hl'')⟩
  · rintro (h | ⟨h, i, l', hl, hx, hno⟩)
    · exact ⟨0, l, rfl, h, fun j l' hj => absurd hj (Nat.not_lt_zero _)⟩
    · refine ⟨i + 1, l', by simpa using hl, hx, fun j l'' hj hl'' => ?_⟩
      cases j with
      | zero => simp at hl''; subst hl''; exact h
      | succ j => exact hno j l'' (by omega) (by simpa using hl'')
theorem pri_nil {x : Ent} : ¬ Pri [] x := by rintro ⟨i, l, h, -⟩; simp at h
def foldTwo : List Ent → List (List Ent) → List Ent
  | acc, [] => acc
  | acc, l :: ls => foldTwo (twoF (acc.length + l.length) acc l) ls
theorem fold_law : ∀ (ls : List (List Ent)) (acc : List Ent), Sorted acc → (∀ l ∈ ls, Sorted l) → Sorted (foldTwo acc ls) ∧ ∀ x, x ∈ foldTwo acc ls ↔ Pri (acc :: ls) x
  | [], acc, ha, _ => ⟨ha, fun x => by rw [pri_cons]; simp [foldTwo, pri_nil]⟩
  | l :: ls, acc, ha, h => by
    obtain ⟨t1, t2⟩ := two_law _ acc l (Nat.le_refl _) ha (h l (by simp))
    obtain ⟨i1, i2⟩ := fold_law ls _ t1 fun l' hl' => h l' (by simp [hl'])
    refine ⟨i1, fun x => ?_⟩
    show x ∈ foldTwo _ ls ↔ _
    rw [i2, pri_cons, pri_cons, pri_cons, t2]
    constructor
    · rintro ((h' | ⟨h', hn⟩) | ⟨hn, hp⟩)
      · exact .inl h'
      · exact .inr ⟨hn, .inl h'⟩
      · have h1 : ∀ y ∈ acc, ¬ sameE y x := fun y hy => hn y ((t2 y).2 (.inl hy))
        refine .inr ⟨h1, .inr ⟨fun y hy hyx => ?_, hp⟩⟩
        refine hn y ((t2 y).2 (.inr ⟨hy, fun z hz hzy => h1 z hz (same_trans hzy hyx)⟩)) hyx
    · rintro (h' | ⟨hn, h' | ⟨hn2, hp⟩⟩)
      · exact .inl (.inl h')
      · exact .inl (.inr ⟨h', hn⟩)
      · refine .inr ⟨fun y hy => ?_, hp⟩
        rcases (t2 y).1 hy with h' | ⟨h', -⟩
        · exact hn y h'
        · exact hn2 y h'
theorem merge_is {ls : List (List Ent)} {M : List Ent} (h : MRel ls M) (hs : ∀ l ∈ ls, Sorted l) : M = foldTwo [] ls := by
  obtain ⟨h1, h2⟩ := mrel_law h hs
  obtain ⟨h3, h4⟩ := fold_law ls [] List.Pairwise.nil hs
  refine sorted_ext _ _ h1 h3 fun x => ?_
  rw [h2, h4, pri_cons]
  simp

theorem twoF_len : ∀ (n : Nat) (a b : List Ent), (twoF n a b).length ≤ n
  | 0, _, _ => by simp [twoF]
  | n + 1, [], [] => by simp [twoF]
  | n + 1, [], y :: b => by simp only [twoF, List.length_cons]; have := twoF_len n [] b; omega
  | n + 1, x :: a, [] => by simp only [twoF, List.length_cons]; have := twoF_len n a []; omega
  | n + 1, x :: a, y :: b => by
    simp only [twoF]
    split
    · simp only [List.length_cons]; have := twoF_len n a (if cmpE x y = 0 then b else y :: b); omega
    · simp only [List.length_cons]; have := twoF_len n (x :: a) b; omega
/-- What two compares at places i and k. -/
def twoC (a b : List Ent) (i k : Nat) : Int := if i = a.length then 1 else if k = b.length then -1 else cmpE (a.getD i z0) (b.getD k z0)
theorem twoC_le {a b : List Ent} {i k : Nat} (hi : i ≤ a.length) (h : twoC a b i k ≤ 0) : i < a.length := by
  by_cases e : i = a.length
  · unfold twoC at h; rw [if_pos e] at h; omega
  · omega
theorem twoC_gt {a b : List Ent} {i k : Nat} (hk : k ≤ b.length) (hc : i < a.length ∨ k < b.length) (h : ¬ twoC a b i k ≤ 0) : k < b.length := by
  by_cases e : k = b.length
  · by_cases e2 : i = a.length
    · omega
    · unfold twoC at h; rw [if_neg e2, if_pos e] at h; omega
  · omega
theorem two_less {a b : List Ent} {i k n : Nat} (hi : i < a.length) (hk : k ≤ b.length) (h : twoC a b i k ≤ 0) (h0 : twoC a b i k ≠ 0) : twoF (n + 1) (a.drop i) (b.drop k) = a[i] :: twoF n (a.drop (i + 1)) (b.drop k) := by
  unfold twoC at h h0
  rw [if_neg (by omega)] at h h0
  rw [drop_at hi]
  by_cases e : k = b.length
  · rw [List.drop_eq_nil_of_le (show b.length ≤ k by omega)]; simp only [twoF]
  · have hk' : k < b.length := by omega
    rw [if_neg e, getD_eq hi, getD_eq hk'] at h h0
    rw [drop_at hk']
    simp only [twoF]
    rw [if_pos h, if_neg h0]
theorem two_both {a b : List Ent} {i k n : Nat} (hi : i < a.length) (hk : k ≤ b.length) (h0 : twoC a b i k = 0) : k < b.length ∧ twoF (n + 1) (a.drop i) (b.drop k) = a[i] :: twoF n (a.drop (i + 1)) (b.drop (k + 1)) := by
  unfold twoC at h0
  rw [if_neg (by omega)] at h0
  by_cases e : k = b.length
  · rw [if_pos e] at h0; omega
  · have hk' : k < b.length := by omega
    rw [if_neg e, getD_eq hi, getD_eq hk'] at h0
    rw [drop_at hi, drop_at hk']
    simp only [twoF]
    rw [if_pos (by omega), if_pos h0]
    exact ⟨hk', rfl⟩
theorem two_more {a b : List Ent} {i k n : Nat} (hi : i ≤ a.length) (hk : k < b.length) (h : ¬ twoC a b i k ≤ 0) : twoF (n + 1) (a.drop i) (b.drop k) = b[k] :: twoF n (a.drop i) (b.drop (k + 1)) := by
  unfold twoC at h
  rw [drop_at hk]
  by_cases e : i = a.length
  · rw [List.drop_eq_nil_of_le (show a.length ≤ i by omega)]; simp only [twoF]
  · have hi' : i < a.length := by omega
    rw [if_neg e, if_neg (by omega), getD_eq hi', getD_eq hk] at h
    rw [drop_at hi']
    simp only [twoF]
    rw [if_neg h]
theorem two_end (n : Nat) {a b : List Ent} {i k : Nat} (hi : ¬ i < a.length) (hk : ¬ k < b.length) : twoF n (a.drop i) (b.drop k) = [] := by
  rw [List.drop_eq_nil_of_le (by omega), List.drop_eq_nil_of_le (by omega)]
  cases n <;> rfl

def tot : List (List Ent) → Nat
  | [] => 0
  | l :: ls => l.length + tot ls
theorem tot_le {ls ms : List (List Ent)} : ∀ (f : List Ent → List Ent), (∀ l, (f l).length ≤ l.length) → tot (ls.map f) ≤ tot ls := fun f hf => by
  induction ls with
  | nil => simp [tot]
  | cons l ls ih => simp only [List.map_cons, tot]; have := hf l; omega
theorem dropS_len (e : Ent) (l : List Ent) : (dropS e l).length ≤ l.length := by
  have := congrArg List.length (List.takeWhile_append_dropWhile (p := fun x : Ent => decide (cmpE x e = 0)) (l := l))
  simp only [List.length_append] at this
  unfold dropS; omega
theorem tot_lt {e : Ent} {t : List Ent} : ∀ {ls : List (List Ent)} {i : Nat}, ls[i]? = some (e :: t) → tot (ls.map (dropS e)) < tot ls
  | [], i, h => by simp at h
  | l :: ls, 0, h => by
    simp at h; subst h
    simp only [List.map_cons, tot]
    rw [dropS_same ⟨rfl, rfl⟩]
    have h1 := dropS_len e t
    have h2 := tot_le (ls := ls) (ms := []) (dropS e) (dropS_len e)
    simp only [List.length_cons]; omega
  | l :: ls, i + 1, h => by
    simp only [List.map_cons, tot]
    have h1 := dropS_len e l
    have h2 := tot_lt (ls := ls) (i := i) (by simpa using h)
    omega
/-- The best of the first s lists: b = -1: none. -/
def BestI (cur : List (List Ent)) (s : Nat) (b : Int) : Prop :=
  (b = -1 ∧ ∀ (j : Nat) (l : List Ent), j < s → cur[j]? = some l → l = []) ∨ ∃ (bi : Nat) (e : Ent) (t : List Ent), b = bi ∧ bi < s ∧ cur[bi]? = some (e :: t) ∧ ∀ (j : Nat) (x : Ent) (t' : List Ent), j < s → cur[j]? = some (x :: t') → ¬ ltE x e ∧ (j < bi → ¬ sameE x e)
/-- Is list s better? -/
def takeB (cur : List (List Ent)) (s : Nat) (b : Int) : Bool := match cur.getD s [] with
  | [] => false
  | x :: _ => decide (b < 0) || (match cur.getD b.toNat [] with
    | [] => false
    | e :: _ => decide (cmpE x e < 0))
theorem getD_l {cur : List (List Ent)} {s : Nat} (h : s < cur.length) : cur.getD s [] = cur[s] := by rw [List.getD_eq_getElem?_getD, List.getElem?_eq_getElem h]; rfl
theorem takeB_nil {cur : List (List Ent)} {s : Nat} {b : Int} (h : s < cur.length) (hn : cur[s] = []) : takeB cur s b = false := by unfold takeB; rw [getD_l h, hn]
theorem takeB_first {cur : List (List Ent)} {s : Nat} {b : Int} (h : s < cur.length) (hn : 0 < cur[s].length) (hb : b < 0) : takeB cur s b = true := by
  unfold takeB; rw [getD_l h]
  cases hc : cur[s] with
  | nil => rw [hc] at hn; simp at hn
  | cons x t => simp [hb]
theorem takeB_cmp {cur : List (List Ent)} {s bi : Nat} {x e : Ent} {t t' : List Ent} (h : s < cur.length) (h2 : bi < cur.length) (hx : cur[s] = x :: t) (he : cur[bi] = e :: t') : takeB cur s (bi : Int) = decide (cmpE x e < 0) := by
  unfold takeB; rw [getD_l h, Int.toNat_natCast, getD_l h2, hx, he]
  have : ¬ ((bi : Int) < 0) := by omega
  simp [this]
theorem takeB_cmp' {cur : List (List Ent)} {s bi : Nat} (h : s < cur.length) (h2 : bi < cur.length) (hn : 0 < cur[s].length) (hn2 : 0 < cur[bi].length) : takeB cur s (bi : Int) = decide (cmpE (cur[s][0]) (cur[bi][0]) < 0) :=
  takeB_cmp (t := cur[s].drop 1) (t' := cur[bi].drop 1) h h2 (by have := List.drop_eq_getElem_cons (l := cur[s]) hn; simpa using this) (by have := List.drop_eq_getElem_cons (l := cur[bi]) hn2; simpa using this)
theorem best_start (cur : List (List Ent)) : BestI cur 0 (-1) := .inl ⟨rfl, fun j l h => absurd h (Nat.not_lt_zero _)⟩
theorem best_still {cur : List (List Ent)} {s : Nat} {b : Int} (hs : s < cur.length) (h : BestI cur s b) (ht : takeB cur s b = false) : BestI cur (s + 1) b := by
  rcases h with ⟨rfl, h⟩ | ⟨bi, e, t, rfl, hb, hc, h⟩
  · refine .inl ⟨rfl, fun j l hj hl => ?_⟩
    rcases Nat.lt_succ_iff_lt_or_eq.1 hj with hj | rfl
    · exact h j l hj hl
    · rw [List.getElem?_eq_getElem hs] at hl
      cases hl
      cases hc : cur[j] with
      | nil => rfl
      | cons x t => rw [takeB_first hs (by rw [hc]; simp) (by omega)] at ht; cases ht
  · refine .inr ⟨bi, e, t, rfl, by omega, hc, fun j x t' hj hl => ?_⟩
    rcases Nat.lt_succ_iff_lt_or_eq.1 hj with hj | rfl
    · exact h j x t' hj hl
    · refine ⟨fun hlt => ?_, fun h' => by omega⟩
      have hbl : bi < cur.length := (List.getElem?_eq_some_iff.1 hc).1
      rw [List.getElem?_eq_getElem hs] at hl
      rw [List.getElem?_eq_getElem hbl] at hc
      have h1 : cur[j] = x :: t' := by simpa using hl
      have h2 : cur[bi] = e :: t := by simpa using hc
      rw [takeB_cmp hs hbl h1 h2] at ht
      exact of_decide_eq_false ht (cmpE_neg.2 hlt)
theorem best_new {cur : List (List Ent)} {s : Nat} {b : Int} (hs : s < cur.length) (h : BestI cur s b) (ht : takeB cur s b = true) : BestI cur (s + 1) (s : Int) := by
  have hne : ∃ x t, cur[s] = x :: t := by
    cases hc : cur[s] with
    | nil => rw [takeB_nil hs hc] at ht; cases ht
    | cons x t => exact ⟨x, t, rfl⟩
  obtain ⟨x, t, hx⟩ := hne
  refine .inr ⟨s, x, t, rfl, by omega, by rw [List.getElem?_eq_getElem hs, hx], fun j y t' hj hl => ?_⟩
  rcases Nat.lt_succ_iff_lt_or_eq.1 hj with hj | rfl
  · rcases h with ⟨rfl, h⟩ | ⟨bi, e, t2, rfl, hb, hc, h⟩
    · have := h j _ hj hl; cases this
    · have hbl : bi < cur.length := (List.getElem?_eq_some_iff.1 hc).1
      rw [List.getElem?_eq_getElem hbl] at hc
      have h2 : cur[bi] = e :: t2 := by simpa using hc
      rw [takeB_cmp hs hbl hx h2] at ht
      have hlt := cmpE_neg.1 (of_decide_eq_true ht)
      obtain ⟨h3, h4⟩ := h j y t' hj hl
      have hxy : ltE x y := by
        rcases ltE_total y e with h' | h' | h'
        · exact absurd h' h3
        · exact ltE_same hlt (same_symm h')
        · exact ltE_trans hlt h'
      exact ⟨ltE_asymm hxy, fun _ h' => ltE_not_same hxy (same_symm h')⟩
  · rw [List.getElem?_eq_getElem hs, hx] at hl
    cases hl
    exact ⟨ltE_irrefl x, fun h => by omega⟩
/-- The lists of which the first s are cut. -/
def cutS (e : Ent) (cur : List (List Ent)) (s : Nat) : List (List Ent) := (cur.take s).map (dropS e) ++ cur.drop s
theorem cutS_len (e : Ent) (cur : List (List Ent)) (s : Nat) : (cutS e cur s).length = cur.length := by simp [cutS]; omega
theorem cutS_zero (e : Ent) (cur : List (List Ent)) : cutS e cur 0 = cur := by simp [cutS]
theorem cutS_all (e : Ent) (cur : List (List Ent)) {s : Nat} (h : cur.length ≤ s) : cutS e cur s = cur.map (dropS e) := by simp [cutS, List.take_of_length_le h, List.drop_eq_nil_of_le h]
theorem cutS_at {e : Ent} {cur : List (List Ent)} {s : Nat} (h : s < cur.length) : (cutS e cur s)[s]'(by rw [cutS_len]; exact h) = cur[s] := by
  unfold cutS
  rw [List.getElem_append_right (by simp; omega)]
  simp [Nat.min_eq_left (Nat.le_of_lt h)]
theorem cutS_succ {e : Ent} {cur : List (List Ent)} {s : Nat} (h : s < cur.length) : (cutS e cur s).set s (dropS e cur[s]) = cutS e cur (s + 1) := by
  unfold cutS
  rw [List.set_append_right _ _ (by simp; omega)]
  have h1 : ((cur.take s).map (dropS e)).length = s := by simp; omega
  rw [h1, Nat.sub_self, List.drop_eq_getElem_cons h, List.set_cons_zero, List.take_add_one, List.getElem?_eq_getElem h]
  simp only [Option.toList, List.map_append, List.map_cons, List.map_nil, List.append_assoc, List.cons_append, List.nil_append]
def sameHd (e : Ent) (l : List Ent) : Bool := match l with
  | [] => false
  | x :: _ => decide (cmpE x e = 0)
theorem sameHd_false {e : Ent} {l : List Ent} (h : sameHd e l = false) : dropS e l = l := by
  cases l with
  | nil => rfl
  | cons x t => exact dropS_diff fun h' => by simp [sameHd, cmpE_zero.2 h'] at h
theorem sameHd_true {e : Ent} {l : List Ent} (h : sameHd e l = true) : ∃ x t, l = x :: t ∧ dropS e l = dropS e t := by
  cases l with
  | nil => simp [sameHd] at h
  | cons x t => exact ⟨x, t, rfl, dropS_same (cmpE_zero.1 (by simpa [sameHd] using h))⟩

theorem foldTwo_drop {ls : List (List Ent)} {s : Nat} (h : s < ls.length) (acc : List Ent) : foldTwo acc (ls.drop s) = foldTwo (twoF (acc.length + ls[s].length) acc ls[s]) (ls.drop (s + 1)) := by
  rw [List.drop_eq_getElem_cons h]; rfl
theorem tot_drop {ls : List (List Ent)} : ∀ {s : Nat} (h : s < ls.length), tot (ls.drop s) = ls[s].length + tot (ls.drop (s + 1)) := fun {s} h => by
  rw [List.drop_eq_getElem_cons h]; rfl
theorem tot_take_drop (ls : List (List Ent)) (s : Nat) : tot (ls.take s) + tot (ls.drop s) = tot ls := by
  induction ls generalizing s with
  | nil => simp [tot]
  | cons l ls ih =>
    cases s with
    | zero => simp [tot]
    | succ s => simp only [List.take_succ_cons, List.drop_succ_cons, tot]; have := ih s; omega
theorem tot_mem {ls : List (List Ent)} {l : List Ent} (h : l ∈ ls) : l.length ≤ tot ls := by
  induction ls with
  | nil => simp at h
  | cons x ls ih =>
    simp only [tot]
    rcases List.mem_cons.1 h with rfl | h
    · omega
    · have := ih h; omega
theorem all_sorted {ls : List (List Ent)} (h : ls.all rightB = true) : ∀ l ∈ ls, Sorted l := fun l hl => (rightB_iff.1 (List.all_eq_true.1 h l hl)).2
theorem all_at {ls : List (List Ent)} {s : Nat} (h : s < ls.length) (hf : rightB ls[s] = false) : ls.all rightB = false := by
  cases ha : ls.all rightB with
  | false => rfl
  | true => rw [List.all_eq_true.1 ha _ (List.getElem_mem h)] at hf; cases hf
theorem all_of {ls : List (List Ent)} (h : ∀ (j : Nat) (hj : j < ls.length), rightB ls[j] = true) : ls.all rightB = true := List.all_eq_true.2 fun l hl => by
  obtain ⟨j, hj, rfl⟩ := List.getElem_of_mem hl
  exact h j hj
theorem foldTwo_len : ∀ (ls : List (List Ent)) (acc : List Ent), (foldTwo acc ls).length ≤ acc.length + tot ls
  | [], acc => by simp [foldTwo, tot]
  | l :: ls, acc => by
    have h1 := foldTwo_len ls (twoF (acc.length + l.length) acc l)
    have h2 := twoF_len (acc.length + l.length) acc l
    simp only [foldTwo, tot]; omega
/-- All merged. -/
def mrg (ls : List (List Ent)) : List Ent := foldTwo [] ls
theorem mrg_mem {ls : List (List Ent)} (hs : ∀ l ∈ ls, Sorted l) {x : Ent} : x ∈ mrg ls ↔ Pri ls x := by
  unfold mrg; rw [(fold_law ls [] List.Pairwise.nil hs).2, pri_cons]; simp
theorem mrg_sorted {ls : List (List Ent)} (hs : ∀ l ∈ ls, Sorted l) : Sorted (mrg ls) := (fold_law ls [] List.Pairwise.nil hs).1
theorem mrg_right {ls : List (List Ent)} (h : ls.all rightB = true) : rightB (mrg ls) = true := by
  have hs := all_sorted h
  refine rightB_iff.2 ⟨fun e he => ?_, mrg_sorted hs⟩
  obtain ⟨i, l, hl, hx, -⟩ := (mrg_mem hs).1 he
  exact (rightB_iff.1 (List.all_eq_true.1 h l (List.mem_of_getElem? hl))).1 e hx
end Go.Proofs.Ytblbddamebbgaaa.K

/- A list parted in seven; arrays; remainders. -/
namespace Go.Proofs.Ytblbddamebbgaaa.K
open Go Go.RowKit
set_option linter.unusedVariables false
set_option linter.unusedSectionVars false
set_option linter.unusedSimpArgs false


/-- The slice v holds the numbers zs. -/
def IRow (A : Nat → Prop) (w : World) (v : Value) (zs : List Int) : Prop := ∃ ad cap, v = .slice ad zs.length cap ∧ zs.length ≤ 1099511627776 ∧ (zs ≠ [] → ∃ b o, ad = some ⟨b, o, none⟩ ∧ A b ∧ ∀ (i : Nat) (z : Int), zs[i]? = some z → w.cell? ⟨b, o + i, none⟩ = some (.int .i64 z))
theorem IRow.ext {A : Nat → Prop} {w w' : World} {v : Value} {zs : List Int} (h : IRow A w v zs) (hx : Ext w w') : IRow A w' v zs := by
  obtain ⟨ad, cap, rfl, h1, h⟩ := h
  exact ⟨ad, cap, rfl, h1, fun hne => by obtain ⟨b, o, e, hA, hc⟩ := h hne; exact ⟨b, o, e, hA, fun i z hi => hx.cell (hc i z hi)⟩⟩
theorem IRow.form {A : Nat → Prop} {w : World} {v : Value} {zs : List Int} (h : IRow A w v zs) : ∃ ad cap, v = .slice ad zs.length cap ∧ zs.length ≤ 1099511627776 := by obtain ⟨ad, cap, e, h1, -⟩ := h; exact ⟨ad, cap, e, h1⟩
theorem IRow.at {A : Nat → Prop} {w : World} {v : Value} {zs : List Int} (h : IRow A w v zs) (i : Nat) (hi : i < zs.length) : ∃ b o cap, v = .slice (some ⟨b, o, none⟩) zs.length cap ∧ Cells w b (o + i * 1) [.int .i64 zs[i]] := by
  obtain ⟨ad, cap, rfl, h1, h⟩ := h
  obtain ⟨b, o, rfl, hA, hc⟩ := h (by rintro rfl; simp at hi)
  refine ⟨b, o, cap, rfl, fun j u hj => ?_⟩
  have : j = 0 := by have := (List.getElem?_eq_some_iff.1 hj).1; simp at this; omega
  subst this
  simp at hj
  subst hj
  rw [Nat.mul_one, Nat.add_zero]
  exact hc i _ (List.getElem?_eq_getElem hi)
end Go.Proofs.Ytblbddamebbgaaa.K

/- The row of a law that holds: from what the walk gives to the row's own words. -/
namespace Go.Proofs.Ytblbddamebbgaaa.K
open Go Go.RowKit Go.ChangeShapes Go.WideShapes Go.ChangeAt
set_option linter.unusedVariables false
set_option linter.unusedSectionVars false
set_option linter.unusedSimpArgs false
set_option maxRecDepth 100000

section
variable {H : Type} {enc : TypeId × Value → H} {W W' : World}
theorem laidOut : laidOutB Try.prog = true := by kernel_rfl
theorem own : ownKnob Try.prog.godebug = none := by kernel_rfl
theorem post_true {f : Func} {s : ChangeSpec} {fresh handsOn again : Bool} {args : Array Value} {ds gs : List (DataW H)} {before : List MemPlace}
    (hW : DataW.Whole enc Try.prog f.params.toList s.vars false W args.toList ds gs before) (hv : s.vars = []) (hs : s.fn H (ds ++ gs) = { results := [.lit (.bool true)], args := ds })
    (ht : ∀ t ∈ f.params.toList, Try.prog.readableRec t = true ∧ t < Try.prog.types.size) (hr : f.resultTypes = #[4]) (hx : Ext W W') :
    s.post enc Try.prog f false fresh handsOn again W args (.bool true) W' := by
  have hb := hx.below
  have hlt : ∀ p ∈ before, p.block < W.heap.size := fun p hp => hW.lt p hp
  have hargs : ∀ sp : Nat → Bool, (∀ p ∈ before, sp p.block = true) → DataW.TrodAll enc Try.prog W' 0 sp true f.params.toList args.toList (s.fn H (ds ++ gs)).args before := fun sp hsp => by
    obtain ⟨p, q, hA, hV, rfl, -, -⟩ := hW
    rw [hv] at hV
    obtain ⟨rfl, rfl⟩ := trodVars_none hV
    rw [hs]
    simp only [List.append_nil] at hlt hsp ⊢
    exact trodAll_stays laidOut hb _ _ _ _ ht hlt hsp hA
  have hres : ∀ (b : Nat) (sp : Nat → Bool) (hd : Bool), DataW.TrodAll enc Try.prog W' b sp hd f.resultTypes.toList ((Value.bool true).resultList f.resultTypes.size) (s.fn H (ds ++ gs)).results [] := fun b sp hd => by
    rw [hs, hr]
    exact trodAll_cons_mk (shut_bool Try.underlying4 _) trodAll_mk0
  have hvars : ∀ sp : Nat → Bool, DataW.TrodVars enc Try.prog W' sp s.vars (s.fn H (ds ++ gs)).vars [] := fun sp => by
    rw [hs, hv]; rfl
  have hold : ∀ p ∈ before, (fun b => decide (b < W.heap.size)) p.block = true := fun p hp => by simpa using hlt p hp
  refine ⟨ds, gs, before, [], before, [], hW, hres _ _ _, hargs _ hold, hvars _, hb.frame _, fun _ => ?_⟩
  obtain ⟨_, _, _, _, _, hz, hn⟩ := hW
  refine ⟨ok_one hr rfl (okWide_bool_mk Try.underlying4 _), _, _, ([] ++ before) ++ [], ⟨[] ++ before, [], trodAll_append (hargs _ (fun _ _ => rfl)) (hres _ _ _), hvars _, rfl, ?_, fun h => by cases h⟩, ?_⟩
  · intro b off hp
    simp only [List.nil_append, List.append_nil] at hp
    rw [hb.frozen (p := ⟨b, off, none⟩) (hlt _ hp)]
    exact hz b off hp
  · intro p hp _
    simpa using hp
/-- .. of type 65: a list of lists. -/
theorem open_rows_arg {r : Reach} {b0 : Nat} {v : Value} {d : DataW H} {p : List MemPlace} (h : DataW.Trod enc Try.prog W 0 (fun _ => true) true 65 v d p) (hval : Value.okWide Try.prog W r b0 65 v) (hb : Rows.uptoBulk d ≤ 1048576) : ∃ ls, LRow (fun k => k < W.heap.size) W v ls ∧ ls.length ≤ 1048576 := by
  obtain ⟨a', len, cap, rfl⟩ := okWide_slice Try.underlying65 hval
  obtain ⟨fu, hn⟩ := h
  rcases Go.Deep.open_slice Try.underlying65 hn with ⟨he, hx⟩ | ⟨a, len2, cap2, m, n, D, Pl, he, -, hl, -, hm, hx, hel⟩
  · have he : [Value.slice a' len cap] = [.slice none 0 0] := he
    cases he
    exact ⟨[], ⟨none, 0, rfl, Nat.le_refl _, by simp, fun h => absurd rfl h⟩, by simp⟩
  · have he : [Value.slice a' len cap] = [.slice (some a) len2 cap2] := he
    cases he
    cases hx
    have hle : len ≤ m := by rw [hm]; split <;> omega
    simp only [Rows.uptoBulk] at hb
    have hlen : len ≤ 1048576 := by have := bulkAll_len ((List.range len).map D); simp at this; omega
    have hent : ∀ i, i < len → ∃ l : List Ent, ∃ rv, W.cell? (a.add i) = some rv ∧ Row (fun k => k < W.heap.size) W rv l := fun i hi => by
      obtain ⟨cs', h1, h2⟩ := hel i (by omega)
      rw [cellsOf26, Nat.mul_one] at h1
      have := bulkAll_mem ((List.range len).map D) (D i) (List.mem_map.2 ⟨i, List.mem_range.2 hi, rfl⟩)
      obtain ⟨-, hl1, hg⟩ := World.cells?_some h1
      obtain ⟨rv, rfl⟩ : ∃ rv, cs' = [rv] := by
        match cs', hl1 with
        | [rv], _ => exact ⟨rv, rfl⟩
      have h0 := hg 0 (by omega)
      rw [addr_add0] at h0
      obtain ⟨es, h3, -⟩ := open_row h2 rfl (by simp only; omega)
      exact ⟨es, rv, h0, h3⟩
    refine ⟨(List.range len).map fun i => if hi : i < len then (hent i hi).choose else [], ⟨some a, cap, by simp, by simpa using hl, by simp; omega, fun hne => ?_⟩, by simpa using hlen⟩
    have h0 : 0 < len := by
      rcases Nat.eq_zero_or_pos len with h | h
      · subst h; simp at hne
      · exact h
    obtain ⟨l0, rv0, h1, -⟩ := hent 0 h0
    rw [addr_add0] at h1
    obtain ⟨b, o, sp⟩ := a
    have hsp : sp = none := cell_spot h1
    subst hsp
    refine ⟨b, o, rfl, World.block_lt_of_cell? W _ h1, fun i l hi => ?_⟩
    have hil : i < len := by have := (List.getElem?_eq_some_iff.1 hi).1; simpa using this
    rw [List.getElem?_map, List.getElem?_range hil] at hi
    simp only [Option.map_some, Option.some.injEq, dif_pos hil] at hi
    subst hi
    have h2 := (hent i hil).choose_spec
    generalize (hent i hil).choose = l1 at h2 ⊢
    obtain ⟨rv1, h3, h4⟩ := h2
    rw [add_mk] at h3
    refine ⟨rv1, fun j u hj => ?_, h4⟩
    have : j = 0 := by have := (List.getElem?_eq_some_iff.1 hj).1; simp at this; omega
    subst this
    simp at hj
    subst hj
    rw [Nat.mul_one, Nat.add_zero]; exact h3
theorem cellsOf3 : Try.prog.cellsOf 3 = 1 := by kernel_rfl
end
end Go.Proofs.Ytblbddamebbgaaa.K

/- Walks: lists copied, merged. -/
namespace Go.Proofs.Ytblbddamebbgaaa.K
open Go Go.RowKit
set_option linter.unusedVariables false
set_option linter.unusedSimpArgs false

theorem C74 {A : Nat → Prop} {w : World} {v : Value} {ls : List (List Ent)} (hL : LRow A w v ls) (hA : ∀ k, A k → k < w.heap.size) : Rt Try.prog 74 [v] w fun r w' => LOwn A w.heap.size w' r ls ∧ Ext w w' := by
  obtain ⟨ad, cap, rfl, hcap, hlen⟩ := hL.form
  have hW := hWw
  have hFF := hFw
  have hE : Ext w w := Keep.refl _ _
  refine rt_body Try.func74 rfl Try.ntmps74 rfl ?_
  refine wc_seq ?_
  refine wc_region ?_
  refine wl_val hW rfl rfl (x_assign rfl) ?_
  refine wl_nil ?_
  refine nx_then ?_
  refine wc_seq ?_
  refine wc_seq ?_
  refine wc_region ?_
  refine wl_val hW rfl rfl (x_move rfl) ?_
  refine wl_val hW rfl rfl (x_nilEq Try.underlying65 rfl rfl) ?_
  refine wl_nil ?_
  refine nx_then ?_
  refine wc_bool rfl (fun hc => ?_) (fun hc => ?_)
  · refine wc_seq ?_
    refine wc_region ?_
    refine wl_val hW rfl rfl (x_assign rfl) ?_
    refine wl_nil ?_
    refine nx_then ?_
    refine wc_ret ?_
    refine nx_then_ret ?_
    have hl0 : ls = [] := by
      obtain ⟨ad', cap', e, -, -, h⟩ := hL
      cases e
      cases ls with
      | nil => rfl
      | cons u l => obtain ⟨b, o, h, -⟩ := h (by simp); subst h; simp at hc
    exact ends_ret (res_tmp Try.results74 rfl) ⟨by rw [hl0]; exact lown_nil _ _ _, hE⟩
  · refine wc_skip ?_
    refine nx_then ?_
    refine wc_seq ?_
    refine wc_region ?_
    refine wl_buildSlice (parts := []) hW rfl rfl Try.underlying65 fl26.siz Try.zeroValue26 rfl rfl rfl (by omega) ?_
    intro b5 w5 hl5 hB5 hx5
    have g5 : w.heap.size ≤ b5 := Nat.le_trans hE.size hl5
    replace hE := hE.trans hx5
    refine wl_val hW rfl rfl (x_move rfl) ?_
    have hxw := hE
    refine wl_cloneL hW rfl rfl rfl rfl hB5 (hL.ext hE) (fun k h => by have := hA k h; omega) ?_
    intro v7 w7 hv7 hk7 hc7
    replace hE := hE.store hk7 g5
    refine wl_val hW rfl rfl (x_assign rfl) ?_
    refine wl_nil ?_
    refine nx_then ?_
    refine wc_ret ?_
    exact ends_ret (res_tmp Try.results74 rfl) ⟨⟨by obtain ⟨vals, h1, h2, h3⟩ := hv7.ex; refine ⟨vals, h1, ⟨h2.1, ?_⟩, h3⟩; rcases h2.2 with h | ⟨g, c, cur, e1, e2, e3⟩; exact .inl h; exact .inr ⟨g, c, cur, e1, Nat.le_trans g5 e2, e3⟩, hv7.len⟩, hE⟩
theorem C73 {A : Nat → Prop} {base : Nat} {w : World} {v : Value} {ls : List (List Ent)} (hL : LOwn A base w v ls) (hA : ∀ k, A k → k < w.heap.size) (htot : tot ls ≤ 1099511627000) :
    Rt Try.prog 73 [v] w fun r w' => (∃ M, MRel ls M ∧ Row (fun k => w.heap.size ≤ k) w' r M) ∧ Keep (fun k => some k ≠ v.ownBlock) w w' := by
  obtain ⟨ad, cap, rfl⟩ := hL.form
  have hnl := hL.len
  have hW := hWw
  have hFF := hFw
  have hE : Ext w w := Keep.refl _ _
  refine rt_body Try.func73 rfl Try.ntmps73 rfl ?_
  refine wc_seq ?_
  refine wc_region ?_
  refine wl_val hW rfl rfl (x_assign rfl) ?_
  refine wl_nil ?_
  refine nx_then ?_
  refine wc_seq ?_
  refine wc_region ?_
  refine wl_val hW rfl rfl (x_assign rfl) ?_
  refine wl_nil ?_
  refine nx_then ?_
  refine wc_block ?_
  refine wc_loop (σ := Value × List (List Ent)) (fun s => [(0, .slice ad ls.length cap), (3, s.1)]) (fun s w' => s.2.length = ls.length ∧ LOwn A base w' (.slice ad ls.length cap) s.2 ∧ (∃ coll, OwnE (fun k => w.heap.size ≤ k) w.heap.size w' s.1 coll ∧ coll.length + tot s.2 ≤ tot ls ∧ ∀ M, MRel s.2 M → MRel ls (coll ++ M)) ∧ Keep (fun k => some k ≠ (Value.slice ad ls.length cap).ownBlock) w w') (fun s => tot s.2) (.slice none 0 0, ls) ?_ ?_ ?_
  · exact ⟨rfl, hL, ⟨[], own_nil _ _ _, by simp, fun M h => h⟩, Keep.refl _ _⟩
  · repeat (first | exact sub_nil | refine sub_cons rfl ?_)
  · rintro ⟨ov, cur⟩ wr ⟨hcl, hLc, ⟨coll, hO, hct, hM⟩, hK⟩
    dsimp only at hcl hLc hO hct hM
    have hE : Ext wr wr := Keep.refl _ _
    have hKsz := hK.size
    refine wc_block ?_
    refine wc_seq ?_
    refine wc_region ?_
    refine wl_val hW rfl rfl (x_assign rfl) ?_
    refine wl_nil ?_
    refine nx_then ?_
    refine wc_seq ?_
    refine wc_seq ?_
    refine wc_region ?_
    refine wl_val hW rfl rfl (x_move rfl) ?_
    refine wl_val hW rfl rfl (x_len Try.underlying65 rfl) ?_
    refine wl_val hW rfl rfl (x_move rfl) ?_
    refine wl_nil ?_
    refine nx_then ?_
    refine wc_block ?_
    refine wc_loop (σ := Nat × Int) (fun s => [(0, .slice ad ls.length cap), (3, ov), (4, .int .i64 s.2), (10, .slice ad ls.length cap), (11, .int .i64 ls.length), (12, .int .i64 s.1)]) (fun s w' => (s.1 ≤ ls.length ∧ BestI cur s.1 s.2) ∧ Ext wr w') (fun s => ls.length - s.1) (0, -1) ?_ ?_ ?_
    · exact ⟨⟨Nat.zero_le _, best_start _⟩, hE⟩
    · repeat (first | exact sub_nil | refine sub_cons rfl ?_)
    · rintro ⟨s2, bI⟩ w2 ⟨⟨hsl, hbst⟩, hE⟩
      dsimp only at hsl hbst
      refine wc_seq ?_
      refine wc_region ?_
      refine wl_val hW rfl rfl (x_lss rfl rfl) ?_
      refine wl_nil ?_
      refine nx_then ?_
      refine wc_seq ?_
      refine wc_dec rfl (fun hc => ?_) (fun hc => ?_)
      · replace hc : ((s2 : Nat) : Int) < ls.length := hc
        have hlt : s2 < cur.length := by omega
        refine wc_skip ?_
        refine nx_then ?_
        refine wc_seq ?_
        refine wc_block ?_
        refine wc_seq ?_
        refine wc_region ?_
        refine wl_val hW rfl rfl (x_move rfl) ?_
        obtain ⟨rv, hsl1, hC15, hRl⟩ := (hLc.ext hE).at2 s2 hlt
        obtain ⟨la, lc, rfl, hlc, hll⟩ := hRl.form
        refine wl_val hW rfl rfl (x_indexAddr Try.underlying65 fl26.siz (congrArg (fun a => some (Value.slice a ls.length cap)) hsl1) rfl (by omega) (by omega)) ?_
        refine wl_val hW rfl rfl (x_load fl26 rfl (hC15 0 _ rfl)) ?_
        refine wl_val hW rfl rfl (x_assign rfl) ?_
        refine wl_val hW rfl rfl (x_assign rfl) ?_
        refine wl_nil ?_
        refine nx_then ?_
        refine wc_seq ?_
        refine wc_cut [(0, .slice ad ls.length cap), (3, ov), (4, .int .i64 bI), (5, .int .i64 s2), (10, .slice ad ls.length cap), (11, .int .i64 ls.length), (12, .int .i64 s2), (36, .bool (takeB cur s2 bI))] (fun w' => Ext wr w') ?_ ?_
        · refine wc_draw' 20 hW mixed (by kernel_rfl) (fun w0 hx0 => ?_)
          replace hE := hE.trans hx0
          refine q_val rfl rfl (fun _ hx => x_move rfl) ?_
          refine q_val rfl rfl (fun _ hx => x_len Try.underlying26 rfl) ?_
          refine q_val rfl rfl (fun _ hx => x_gtr rfl rfl) ?_
          refine q_val rfl rfl (fun _ hx => x_move rfl) ?_
          refine q_dcases (d := 20) rfl (fun hg20 => ?_) (fun hg20 => ?_)
          · refine q_val rfl rfl (fun _ hx => x_move rfl) ?_
            refine q_val rfl rfl (fun _ hx => x_lss rfl rfl) ?_
            refine q_val rfl rfl (fun _ hx => x_move rfl) ?_
            refine q_dcases (d := 23) rfl (fun hg23 => ?_) (fun hg23 => ?_)
            · refine q_off rfl rfl ?_
              refine q_off rfl rfl ?_
              refine q_off rfl rfl ?_
              refine q_off rfl rfl ?_
              refine q_off rfl rfl ?_
              refine q_off rfl rfl ?_
              refine q_off rfl rfl ?_
              refine q_off rfl rfl ?_
              refine q_off rfl rfl ?_
              refine q_off rfl rfl ?_
              refine q_off rfl rfl ?_
              refine q_val rfl rfl (fun _ hx => x_pickT rfl rfl) ?_
              refine q_val rfl rfl (fun _ hx => x_pickT rfl rfl) ?_
              refine q_nil (tail0 (fun wt hxt => ?_))
              replace hE := hE.trans hxt
              refine wl_nil ?_
              exact nx_cut (by rw [takeB_first hlt (by omega) hg23]; repeat (first | exact sub_nil | refine sub_cons rfl ?_)) hE
            · obtain ⟨bi, ebst, tb, rfl, hbl, hcb⟩ : ∃ (bi : Nat) (e : Ent) (t : List Ent), bI = bi ∧ bi < s2 ∧ cur[bi]? = some (e :: t) := by rcases hbst with ⟨rfl, -⟩ | ⟨bi, e, t, h1, h2, h3, -⟩; exact absurd (show (-1 : Int) < 0 by decide) hg23; exact ⟨bi, e, t, h1, h2, h3⟩
              have hbl2 : bi < cur.length := by omega
              have hcb' : cur[bi] = ebst :: tb := by rw [List.getElem?_eq_getElem hbl2] at hcb; exact Option.some.inj hcb
              have hpos : 0 < cur[bi].length := by rw [hcb']; simp
              have hpos2 : 0 < cur[s2].length := by omega
              obtain ⟨rv2, -, hC29, hRb⟩ := (hLc.ext hE).at2 bi hbl2
              obtain ⟨b1, o1, c1, v1, e1, hA1, hC25, hb1, hok1⟩ := (hRl.ext hx0).at 0 hpos2
              injection e1 with e1a e1b e1c
              subst e1a
              obtain ⟨b2, o2, c2, v2, e2, hA2, hC31, hb2, hok2⟩ := hRb.at 0 hpos
              subst e2
              refine q_val rfl rfl (fun _ hx => x_move rfl) ?_
              refine q_val rfl rfl (fun _ hx => x_indexAddr Try.underlying26 ag25.siz rfl rfl (by omega) (by omega)) ?_
              refine q_val rfl rfl (fun _ hx => x_loadA ag25 rfl (hC25.ext hx) rfl) ?_
              refine q_val rfl rfl (fun _ hx => x_move rfl) ?_
              refine q_val rfl rfl (fun _ hx => x_move rfl) ?_
              refine q_val rfl rfl (fun _ hx => x_indexAddr Try.underlying65 fl26.siz (congrArg (fun a => some (Value.slice a ls.length cap)) hsl1) rfl (by omega) (by omega)) ?_
              refine q_val rfl rfl (fun _ hx => x_load fl26 rfl (hx.cell (hC29 0 _ rfl))) ?_
              refine q_val rfl rfl (fun _ hx => x_indexAddr Try.underlying26 ag25.siz rfl rfl (by omega) (by omega)) ?_
              refine q_val rfl rfl (fun _ hx => x_loadA ag25 rfl (hC31.ext hx) rfl) ?_
              refine q_call rfl rfl (fun _ => x_call en18 rfl) (fun w' hx => (C18 _ _ _ _ _).inF hFF) ?_
              refine q_val rfl rfl (fun _ hx => x_lss rfl rfl) ?_
              refine q_val rfl rfl (fun _ hx => x_pickF rfl rfl) ?_
              refine q_val rfl rfl (fun _ hx => x_pickT rfl rfl) ?_
              refine q_nil (tail0 (fun wt hxt => ?_))
              replace hE := hE.trans hxt
              refine wl_nil ?_
              exact nx_cut (by rw [takeB_cmp' hlt hbl2 hpos2 hpos]; repeat (first | exact sub_nil | refine sub_cons rfl ?_)) hE
          · refine q_off rfl rfl ?_
            refine q_off rfl rfl ?_
            refine q_off rfl rfl ?_
            refine q_off rfl rfl ?_
            refine q_off rfl rfl ?_
            refine q_off rfl rfl ?_
            refine q_off rfl rfl ?_
            refine q_off rfl rfl ?_
            refine q_off rfl rfl ?_
            refine q_off rfl rfl ?_
            refine q_off rfl rfl ?_
            refine q_off rfl rfl ?_
            refine q_off rfl rfl ?_
            refine q_off rfl rfl ?_
            refine q_off rfl rfl ?_
            refine q_val rfl rfl (fun _ hx => x_pickF rfl rfl) ?_
            refine q_nil (tail0 (fun wt hxt => ?_))
            replace hE := hE.trans hxt
            refine wl_nil ?_
            exact nx_cut (by rw [takeB_nil hlt (List.eq_nil_of_length_eq_zero (by omega))]; repeat (first | exact sub_nil | refine sub_cons rfl ?_)) hE
        · rintro w' hE
          refine nx_then ?_
          refine wc_bool rfl (fun hc => ?_) (fun hc => ?_)
          · refine wc_region ?_
            refine wl_val hW rfl rfl (x_move rfl) ?_
            refine wl_val hW rfl rfl (x_assign rfl) ?_
            refine wl_nil ?_
            refine nx_block ?_
            refine nx_then ?_
            refine wc_region ?_
            refine wl_val hW rfl rfl (x_inc (s := s2) rfl (by omega)) ?_
            refine wl_val hW rfl rfl (x_move rfl) ?_
            refine wl_nil ?_
            exact nx_next (s2 + 1, (s2 : Int)) (by dsimp only; omega) ⟨⟨by dsimp only; omega, best_new hlt hbst hc⟩, hE⟩ (by repeat (first | exact sub_nil | refine sub_cons rfl ?_))
          · refine wc_skip ?_
            refine nx_block ?_
            refine nx_then ?_
            refine wc_region ?_
            refine wl_val hW rfl rfl (x_inc (s := s2) rfl (by omega)) ?_
            refine wl_val hW rfl rfl (x_move rfl) ?_
            refine wl_nil ?_
            exact nx_next (s2 + 1, bI) (by dsimp only; omega) ⟨⟨by dsimp only; omega, best_still hlt hbst hc⟩, hE⟩ (by repeat (first | exact sub_nil | refine sub_cons rfl ?_))
      · refine wc_exit ?_
        refine nx_then_exit ?_
        refine nx_then_exit ?_
        refine nx_block_exit ?_
        replace hc : ¬ ((s2 : Nat) : Int) < ls.length := hc
        have hs2 : s2 = ls.length := by omega
        refine nx_then ?_
        refine wc_seq ?_
        refine wc_seq ?_
        refine wc_region ?_
        refine wl_val hW rfl rfl (x_move rfl) ?_
        refine wl_val hW rfl rfl (x_lss rfl rfl) ?_
        refine wl_nil ?_
        refine nx_then ?_
        refine wc_dec rfl (fun hc => ?_) (fun hc => ?_)
        · have hall : ∀ l ∈ cur, l = [] := fun l hl => by
            obtain ⟨j, hj⟩ := List.getElem?_of_mem hl
            have hjl := (List.getElem?_eq_some_iff.1 hj).1
            rcases hbst with ⟨rfl, h⟩ | ⟨bi, e, t, rfl, -⟩
            · exact h j l (by omega) hj
            · omega
          refine wc_seq ?_
          refine wc_region ?_
          refine wl_val hW rfl rfl (x_move rfl) ?_
          refine wl_val hW rfl rfl (x_assign rfl) ?_
          refine wl_nil ?_
          refine nx_then ?_
          refine wc_ret ?_
          refine nx_then_ret ?_
          refine nx_block_ret ?_
          refine nx_then_ret ?_
          refine nx_block_ret ?_
          exact ends_ret (res_tmp Try.results73 rfl) ⟨⟨coll, by have := hM [] (MRel.done _ hall); rwa [List.append_nil] at this, ((hO.ext hE).row (by omega)).mono (fun k _ h => by rcases h with h | h <;> exact h)⟩, hK.trans (Keep.of_ext hE)⟩
        · refine wc_skip ?_
          refine nx_then ?_
          refine wc_seq ?_
          obtain ⟨bi, e0, tb, rfl, hbl, hcb, hmin⟩ : ∃ (bi : Nat) (e : Ent) (t : List Ent), bI = bi ∧ bi < s2 ∧ cur[bi]? = some (e :: t) ∧ ∀ (j : Nat) (x : Ent) (t' : List Ent), j < s2 → cur[j]? = some (x :: t') → ¬ ltE x e ∧ (j < bi → ¬ sameE x e) := by rcases hbst with ⟨rfl, -⟩ | ⟨bi, e, t, h1, h2, h3, h4⟩; exact absurd (show (-1 : Int) < 0 by decide) hc; exact ⟨bi, e, t, h1, h2, h3, h4⟩
          have hbl2 : bi < cur.length := by omega
          have hcb' : cur[bi] = e0 :: tb := by rw [List.getElem?_eq_getElem hbl2] at hcb; exact Option.some.inj hcb
          obtain ⟨rv2, hsl1, hC44, hRb⟩ := hLc.at2 bi hbl2
          rw [hcb'] at hRb
          obtain ⟨b2, o2, c2, v2, e2, hA2, hC46, hb2, hok2⟩ := hRb.at 0 (by simp)
          subst e2
          replace hC46 : Cells wr b2 (o2 + 0 * 4) (cellsOf e0 v2) := hC46
          replace hb2 : Byts _ wr v2 e0.v := hb2
          replace hok2 : EntOk e0 := hok2
          obtain ⟨av, cv, hbv, hcv⟩ := hb2.form
          subst hbv
          refine wc_region ?_
          refine wl_val hW rfl rfl (x_move rfl) ?_
          refine wl_val hW rfl rfl (x_move rfl) ?_
          refine wl_val hW rfl rfl (x_indexAddr Try.underlying65 fl26.siz (congrArg (fun a => some (Value.slice a ls.length cap)) hsl1) rfl (by omega) (by omega)) ?_
          refine wl_val hW rfl rfl (x_load fl26 rfl (hE.cell (hC44 0 _ rfl))) ?_
          refine wl_val hW rfl rfl (x_indexAddr Try.underlying26 ag25.siz rfl rfl (by omega) (by simp)) ?_
          refine wl_val hW rfl rfl (x_loadA ag25 rfl (hC46.ext hE) rfl) ?_
          refine wl_alloc (cs := [.string ⟨#[]⟩, .int .u64 0, .bool false, .slice none 0 0]) hW rfl rfl Try.zeroValue25 rfl ?_
          intro b7 w7 hl7 hB7 hx7
          have g7 : wr.heap.size ≤ b7 := Nat.le_trans hE.size hl7
          replace hE := hE.trans hx7
          refine wl_storeA hW rfl ag25 rfl rfl rfl rfl hB7 rfl ?_
          intro wS hBS hkS
          replace hB7 := hBS
          clear hBS
          replace hE := hE.store hkS g7
          refine wl_nil ?_
          refine nx_then ?_
          refine wc_seq ?_
          refine wc_region ?_
          have hszS := hE.size
          refine wl_val hW rfl rfl (x_move rfl) ?_
          refine wl_val hW rfl rfl (x_loadA ag25 rfl hB7.cells rfl) ?_
          refine wl_call hW rfl rfl (x_call en62 rfl) ((C62 (hb2.ext hE) hok2).inF hFF) ?_
          rintro _ wC ⟨⟨bv', rfl, hb'⟩, hxC⟩
          replace hB7 := hB7.ext hxC
          replace hE := hE.trans hxC
          refine wl_buildSlice (parts := [(0, .tmp 50)]) hW rfl rfl Try.underlying26 ag25.siz Try.zeroValue25 rfl rfl rfl (by omega) ?_
          intro b51 w51 hl51 hB51 hx51
          have n51_7 : b51 ≠ b7 := Nat.ne_of_gt (Nat.lt_of_lt_of_le hB7.lt hl51)
          replace hB7 := hB7.ext hx51
          replace hE := hE.trans hx51
          have hsz2 := hE.size
          refine wl_append1 hW rfl rfl rfl rfl (hO.ext hE) (by omega) (show Blk _ _ (cellsOf e0 bv') 25 from hB51) ((hb'.ext hx51).mono (fun k _ h => ⟨by omega, fun e => by have := hO.lt _ e.symm; omega⟩)) hok2 (by omega) ?_
          intro v52 wA hO2 hkA hcA
          have hKA : Keep (fun k => some k ≠ (Value.slice ad ls.length cap).ownBlock) w wA := (hK.trans (Keep.of_ext hE)).then hkA (fun k hk _ e => by have := (hO.lt k e.symm).1; omega)
          have hLA := (hLc.ext hE).keep hkA (fun b hb e => by obtain ⟨cs, hBl⟩ := (hLc.ext hE).blk b hb; exact (hO.ext hE).ne hBl (by decide) b e.symm rfl) (fun k _ h e => by have := (hO.lt k e.symm).1; have := hA k h; omega)
          have hB7A := hB7.keep hkA (fun e => by have := (hO.lt b7 e.symm).2; omega)
          clear hB7 hB51
          refine wl_val hW rfl rfl (x_assign rfl) ?_
          refine wl_nil ?_
          refine nx_then ?_
          refine wc_seq ?_
          refine wc_region ?_
          refine wl_val hW rfl rfl (x_move rfl) ?_
          refine wl_val hW rfl rfl (x_len Try.underlying65 rfl) ?_
          refine wl_val hW rfl rfl (x_move rfl) ?_
          refine wl_nil ?_
          refine nx_then ?_
          refine wc_block ?_
          refine wc_loop (σ := Nat) (fun s => [(0, .slice ad ls.length cap), (3, v52), (7, .pointer (some ⟨b7, 0, none⟩)), (53, .slice ad ls.length cap), (54, .int .i64 ls.length), (55, .int .i64 s)]) (fun s w' => s ≤ ls.length ∧ LOwn A base w' (.slice ad ls.length cap) (cutS e0 cur s) ∧ OwnE (fun k => w.heap.size ≤ k) w.heap.size w' v52 (coll ++ [e0]) ∧ Blk w' b7 (cellsOf e0 (.slice av e0.v.length cv)) 25 ∧ Keep (fun k => some k ≠ (Value.slice ad ls.length cap).ownBlock) w w') (fun s => ls.length - s) 0 ?_ ?_ ?_
          · exact ⟨Nat.zero_le _, by rw [cutS_zero]; exact hLA, hO2, hB7A, hKA⟩
          · repeat (first | exact sub_nil | refine sub_cons rfl ?_)
          · rintro s w3 ⟨hsl3, hL3, hO3, hB7, hK3⟩
            have hE : Ext w3 w3 := Keep.refl _ _
            refine wc_seq ?_
            refine wc_region ?_
            refine wl_val hW rfl rfl (x_lss rfl rfl) ?_
            refine wl_nil ?_
            refine nx_then ?_
            refine wc_seq ?_
            refine wc_dec rfl (fun hc => ?_) (fun hc => ?_)
            · replace hc : ((s : Nat) : Int) < ls.length := hc
              have hlt : s < cur.length := by omega
              refine wc_skip ?_
              refine nx_then ?_
              refine wc_seq ?_
              refine wc_block ?_
              refine wc_seq ?_
              refine wc_region ?_
              refine wl_val hW rfl rfl (x_move rfl) ?_
              obtain ⟨rv, hsl1, hC58, hRl⟩ := hL3.at2 s (by rw [cutS_len]; exact hlt)
              rw [cutS_at hlt] at hRl
              obtain ⟨la, lc, rfl, hlc, hll⟩ := hRl.form
              refine wl_val hW rfl rfl (x_indexAddr Try.underlying65 fl26.siz (congrArg (fun a => some (Value.slice a ls.length cap)) hsl1) rfl (by omega) (by omega)) ?_
              refine wl_val hW rfl rfl (x_load fl26 rfl (hC58 0 _ rfl)) ?_
              refine wl_val hW rfl rfl (x_assign rfl) ?_
              refine wl_val hW rfl rfl (x_assign rfl) ?_
              refine wl_nil ?_
              refine nx_then ?_
              refine wc_seq ?_
              refine wc_block ?_
              refine wc_loop (σ := Value × List Ent) (fun u => [(0, .slice ad ls.length cap), (3, v52), (7, .pointer (some ⟨b7, 0, none⟩)), (8, .int .i64 s), (9, u.1), (53, .slice ad ls.length cap), (54, .int .i64 ls.length), (55, .int .i64 s)]) (fun u w' => (Row (fun k => A k ∧ k ≠ gOf ad) w3 u.1 u.2 ∧ dropS e0 u.2 = dropS e0 cur[s]) ∧ Ext w3 w') (fun u => u.2.length) (.slice la cur[s].length lc, cur[s]) ?_ ?_ ?_
              · exact ⟨⟨hRl, rfl⟩, hE⟩
              · repeat (first | exact sub_nil | refine sub_cons rfl ?_)
              · rintro ⟨lv4, l4⟩ w4 ⟨⟨hR4, hd4⟩, hE⟩
                dsimp only at hR4 hd4
                obtain ⟨la4, lc4, rfl, hlc4, hll4⟩ := hR4.form
                replace hB7 := hB7.ext hE
                refine wc_seq ?_
                refine wc_seq ?_
                refine wc_cut [(0, .slice ad ls.length cap), (3, v52), (7, .pointer (some ⟨b7, 0, none⟩)), (8, .int .i64 s), (9, .slice la4 l4.length lc4), (53, .slice ad ls.length cap), (54, .int .i64 ls.length), (55, .int .i64 s), (70, .bool (sameHd e0 l4))] (fun w' => Ext w3 w' ∧ Blk w' b7 (cellsOf e0 (.slice av e0.v.length cv)) 25) ?_ ?_
                · refine wc_draw' 11 hW mixed (by kernel_rfl) (fun w0 hx0 => ?_)
                  replace hB7 := hB7.ext hx0
                  replace hE := hE.trans hx0
                  refine q_val rfl rfl (fun _ hx => x_move rfl) ?_
                  refine q_val rfl rfl (fun _ hx => x_len Try.underlying26 rfl) ?_
                  refine q_val rfl rfl (fun _ hx => x_gtr rfl rfl) ?_
                  refine q_val rfl rfl (fun _ hx => x_move rfl) ?_
                  refine q_dcases (d := 63) rfl (fun hg63 => ?_) (fun hg63 => ?_)
                  · obtain ⟨x4, t4, rfl⟩ : ∃ x t, l4 = x :: t := by cases l4 with | nil => exact absurd hg63 (by simp) | cons x t => exact ⟨x, t, rfl⟩
                    obtain ⟨b4, o4, c4, v4, e4, hA4, hC65, hb4, hok4⟩ := (hR4.ext hE).at 0 (by simp)
                    injection e4 with e4a e4b e4c
                    subst e4a
                    refine q_val rfl rfl (fun _ hx => x_move rfl) ?_
                    refine q_val rfl rfl (fun _ hx => x_indexAddr Try.underlying26 ag25.siz rfl rfl (by omega) (by omega)) ?_
                    refine q_val rfl rfl (fun _ hx => x_loadA ag25 rfl (hC65.ext hx) rfl) ?_
                    refine q_val rfl rfl (fun _ hx => x_loadA ag25 rfl (hB7.ext hx).cells rfl) ?_
                    refine q_call rfl rfl (fun _ => x_call en18 rfl) (fun w' hx => (C18 _ _ _ _ _).inF hFF) ?_
                    refine q_val rfl rfl (fun _ hx => x_eql rfl rfl) ?_
                    refine q_val rfl rfl (fun _ hx => x_pickT rfl rfl) ?_
                    refine q_nil (tail0 (fun wt hxt => ?_))
                    replace hB7 := hB7.ext hxt
                    replace hE := hE.trans hxt
                    refine wl_nil ?_
                    exact nx_cut (by repeat (first | exact sub_nil | refine sub_cons rfl ?_)) ⟨hE, hB7⟩
                  · refine q_off rfl rfl ?_
                    refine q_off rfl rfl ?_
                    refine q_off rfl rfl ?_
                    refine q_off rfl rfl ?_
                    refine q_off rfl rfl ?_
                    refine q_off rfl rfl ?_
                    refine q_val rfl rfl (fun _ hx => x_pickF rfl rfl) ?_
                    refine q_nil (tail0 (fun wt hxt => ?_))
                    replace hB7 := hB7.ext hxt
                    replace hE := hE.trans hxt
                    refine wl_nil ?_
                    exact nx_cut (by rw [show sameHd e0 l4 = false from by cases l4 with | nil => rfl | cons x t => exact absurd (by simp) hg63]; repeat (first | exact sub_nil | refine sub_cons rfl ?_)) ⟨hE, hB7⟩
                · rintro w' ⟨hE, hB7⟩
                  refine nx_then ?_
                  refine wc_bool rfl (fun hc => ?_) (fun hc => ?_)
                  · refine wc_skip ?_
                    refine nx_then ?_
                    refine wc_block ?_
                    obtain ⟨x4, t4, rfl, hdt⟩ := sameHd_true hc
                    refine wc_region ?_
                    refine wl_val hW rfl rfl (x_move rfl) ?_
                    refine wl_val hW rfl rfl (x_slicel (i := 1) Try.underlying26 ag25.siz rfl rfl (by simp)) ?_
                    refine wl_val hW rfl rfl (x_assign rfl) ?_
                    refine wl_nil ?_
                    refine nx_block ?_
                    exact nx_next (_, t4) (by simp) ⟨⟨hR4.tail, by dsimp only; rw [← hd4, hdt]⟩, hE⟩ (by repeat (first | exact sub_nil | refine sub_cons rfl ?_))
                  · refine wc_exit ?_
                    refine nx_then_exit ?_
                    refine nx_then_exit ?_
                    refine nx_block_exit ?_
                    refine nx_then ?_
                    have hl4 : dropS e0 cur[s] = l4 := by rw [← hd4, sameHd_false hc]
                    have hown : (Value.slice ad ls.length cap).ownBlock = some (gOf ad) := by rw [hsl1]; rfl
                    have hgl := (hL.lt _ hown).2
                    obtain ⟨cs, hBl, hblt, hput⟩ := (hL3.ext hE).put s (by rw [cutS_len]; exact hlt)
                    refine wc_region ?_
                    refine wl_val hW rfl rfl (x_move rfl) ?_
                    refine wl_val hW rfl rfl (x_move rfl) ?_
                    refine wl_val hW rfl rfl (x_move rfl) ?_
                    refine wl_val hW rfl rfl (x_indexAddr Try.underlying65 fl26.siz (congrArg (fun a => some (Value.slice a ls.length cap)) hsl1) rfl (by omega) (by omega)) ?_
                    refine wl_store hW rfl fl26 rfl rfl rfl hBl hblt ?_
                    intro wS hBS hkS
                    refine wl_nil ?_
                    refine nx_block ?_
                    refine nx_then ?_
                    refine wc_region ?_
                    refine wl_val hW rfl rfl (x_inc (s := s) rfl (by omega)) ?_
                    refine wl_val hW rfl rfl (x_move rfl) ?_
                    refine wl_nil ?_
                    exact nx_next (s + 1) (by omega) ⟨by omega, by rw [← cutS_succ hlt, hl4]; exact hput _ _ l4 hBS hkS ((hR4.ext hE).ck (CK.of_keep hkS (fun k _ h => h.2))), (hO3.ext hE).keep hkS ((hO3.ext hE).ne hBl (by decide)) (fun k _ h => by omega), hB7.keep hkS (by omega), (hK3.trans (Keep.of_ext hE)).then hkS (fun k _ h e => h (by rw [e, hown]))⟩ (by repeat (first | exact sub_nil | refine sub_cons rfl ?_))
            · replace hc : ¬ ((s : Nat) : Int) < ls.length := hc
              have htl := tot_lt hcb
              refine wc_exit ?_
              refine nx_then_exit ?_
              refine nx_then_exit ?_
              refine nx_block_exit ?_
              refine nx_block ?_
              exact nx_next (v52, cur.map (dropS e0)) htl ⟨by simp [hcl], by rw [cutS_all _ _ (by omega)] at hL3; exact hL3, ⟨coll ++ [e0], hO3, by dsimp only; simp only [List.length_append, List.length_cons, List.length_nil]; omega, fun M hM' => by rw [List.append_assoc]; exact hM _ (MRel.step _ bi e0 M ⟨⟨tb, hcb⟩, fun j x t h => hmin j x t (by have := (List.getElem?_eq_some_iff.1 h).1; omega) h⟩ hM')⟩, hK3⟩ (by repeat (first | exact sub_nil | refine sub_cons rfl ?_))
end Go.Proofs.Ytblbddamebbgaaa.K


/- Walks: the document's merging; Merge; the law MergeLists. -/
namespace Go.Proofs.Ytblbddamebbgaaa.K
open Go Go.RowKit
set_option linter.unusedVariables false
set_option linter.unusedSimpArgs false

theorem C75 {w : World} {v u : Value} {a b : List Ent} (hR : Row (fun k => k < w.heap.size) w v a) (hS : Row (fun k => k < w.heap.size) w u b) (hab : a.length + b.length ≤ 1099511627000) :
    Rt Try.prog 75 [v, u] w fun r w' => Row (fun _ => True) w' r (twoF (a.length + b.length) a b) ∧ Ext w w' := by
  obtain ⟨ad, cap, rfl, hcap, hlen⟩ := hR.form
  obtain ⟨ad2, cap2, rfl, hcap2, hlen2⟩ := hS.form
  have hW := hWw
  have hFF := hFw
  have hE : Ext w w := Keep.refl _ _
  refine rt_body Try.func75 rfl Try.ntmps75 rfl ?_
  refine wc_seq ?_
  refine wc_region ?_
  refine wl_val hW rfl rfl (x_assign rfl) ?_
  refine wl_nil ?_
  refine nx_then ?_
  refine wc_seq ?_
  refine wc_region ?_
  refine wl_val hW rfl rfl (x_assign rfl) ?_
  refine wl_nil ?_
  refine nx_then ?_
  refine wc_seq ?_
  refine wc_region ?_
  refine wl_val hW rfl rfl (x_assign rfl) ?_
  refine wl_nil ?_
  refine nx_then ?_
  refine wc_seq ?_
  refine wc_region ?_
  refine wl_val hW rfl rfl (x_assign rfl) ?_
  refine wl_nil ?_
  refine nx_then ?_
  refine wc_seq ?_
  refine wc_block ?_
  refine wc_loop (σ := Value × Nat × Nat) (fun s => [(0, .slice ad a.length cap), (1, .slice ad2 b.length cap2), (5, s.1), (6, .int .i64 s.2.1), (7, .int .i64 s.2.2)]) (fun s w' => (s.2.1 ≤ a.length ∧ s.2.2 ≤ b.length ∧ ∃ coll n, OwnE (fun k => k < w.heap.size) w.heap.size w' s.1 coll ∧ coll.length ≤ s.2.1 + s.2.2 ∧ (a.length - s.2.1) + (b.length - s.2.2) ≤ n ∧ coll ++ twoF n (a.drop s.2.1) (b.drop s.2.2) = twoF (a.length + b.length) a b) ∧ Ext w w') (fun s => (a.length - s.2.1) + (b.length - s.2.2)) (.slice none 0 0, 0, 0) ?_ ?_ ?_
  · exact ⟨⟨Nat.zero_le _, Nat.zero_le _, [], _, own_nil _ _ _, by simp, Nat.le_refl _, by simp⟩, hE⟩
  · repeat (first | exact sub_nil | refine sub_cons rfl ?_)
  · rintro ⟨ov, i, k⟩ wr ⟨⟨hi, hk, coll, n, hO, hcl, hn, hco⟩, hEw⟩
    dsimp only at hi hk hO hcl hn hco
    have hE : Ext wr wr := Keep.refl _ _
    have hszw := hEw.size
    refine wc_seq ?_
    refine wc_seq ?_
    refine wc_cut [(0, .slice ad a.length cap), (1, .slice ad2 b.length cap2), (5, ov), (6, .int .i64 i), (7, .int .i64 k), (18, .bool (decide (((i : Nat) : Int) < a.length) || decide (((k : Nat) : Int) < b.length)))] (fun w' => w' = wr) ?_ ?_
    · refine wc_region ?_
      refine wl_val hW rfl rfl (x_move rfl) ?_
      refine wl_val hW rfl rfl (x_move rfl) ?_
      refine wl_val hW rfl rfl (x_len Try.underlying26 rfl) ?_
      refine wl_val hW rfl rfl (x_lss rfl rfl) ?_
      refine wl_val hW rfl rfl (x_move rfl) ?_
      refine wl_dcases (d := 13) rfl (fun hg13 => ?_) (fun hg13 => ?_)
      · refine wl_off hW rfl rfl ?_
        refine wl_off hW rfl rfl ?_
        refine wl_off hW rfl rfl ?_
        refine wl_off hW rfl rfl ?_
        refine wl_val hW rfl rfl (x_pickT rfl rfl) ?_
        refine wl_nil ?_
        exact nx_cut (by rw [decide_eq_true (show ((i : Nat) : Int) < a.length from hg13), Bool.true_or]; repeat (first | exact sub_nil | refine sub_cons rfl ?_)) rfl
      · refine wl_val hW rfl rfl (x_move rfl) ?_
        refine wl_val hW rfl rfl (x_move rfl) ?_
        refine wl_val hW rfl rfl (x_len Try.underlying26 rfl) ?_
        refine wl_val hW rfl rfl (x_lss rfl rfl) ?_
        refine wl_val hW rfl rfl (x_pickF rfl rfl) ?_
        refine wl_nil ?_
        exact nx_cut (by rw [decide_eq_false (show ¬ ((i : Nat) : Int) < a.length from hg13), Bool.false_or]; repeat (first | exact sub_nil | refine sub_cons rfl ?_)) rfl
    · rintro w' rfl
      refine nx_then ?_
      refine wc_bool rfl (fun hc => ?_) (fun hc => ?_)
      · replace hc : i < a.length ∨ k < b.length := by simp only [Bool.or_eq_true, decide_eq_true_eq] at hc; omega
        refine wc_skip ?_
        refine nx_then ?_
        refine wc_block ?_
        refine wc_seq ?_
        refine wc_region ?_
        refine wl_val hW rfl rfl (x_assign rfl) ?_
        refine wl_nil ?_
        refine nx_then ?_
        refine wc_seq ?_
        refine wc_seq ?_
        refine wc_region ?_
        refine wl_val hW rfl rfl (x_move rfl) ?_
        refine wl_val hW rfl rfl (x_move rfl) ?_
        refine wl_val hW rfl rfl (x_len Try.underlying26 rfl) ?_
        refine wl_val hW rfl rfl (x_eql rfl rfl) ?_
        refine wl_nil ?_
        refine nx_then ?_
        refine wc_cut [(0, .slice ad a.length cap), (1, .slice ad2 b.length cap2), (5, ov), (6, .int .i64 i), (7, .int .i64 k), (8, .int .i64 (twoC a b i k))] (fun w'' => Ext w' w'') ?_ ?_
        · refine wc_dec rfl (fun hc => ?_) (fun hc => ?_)
          · rename_i hc0 hcI
            replace hc : ((i : Nat) : Int) = a.length := hc
            refine wc_region ?_
            refine wl_val hW rfl rfl (x_assign rfl) ?_
            refine wl_nil ?_
            exact nx_cut (by rw [show twoC a b i k = 1 from if_pos (by omega)]; repeat (first | exact sub_nil | refine sub_cons rfl ?_)) hE
          · have hci : ¬ ((i : Nat) : Int) = a.length := hc
            refine wc_seq ?_
            refine wc_region ?_
            refine wl_val hW rfl rfl (x_move rfl) ?_
            refine wl_val hW rfl rfl (x_move rfl) ?_
            refine wl_val hW rfl rfl (x_len Try.underlying26 rfl) ?_
            refine wl_val hW rfl rfl (x_eql rfl rfl) ?_
            refine wl_nil ?_
            refine nx_then ?_
            refine wc_dec rfl (fun hc => ?_) (fun hc => ?_)
            · replace hc : ((k : Nat) : Int) = b.length := hc
              refine wc_region ?_
              refine wl_val hW rfl rfl (x_assign rfl) ?_
              refine wl_nil ?_
              exact nx_cut (by rw [show twoC a b i k = -1 from by unfold twoC; rw [if_neg (by omega), if_pos (by omega)]]; repeat (first | exact sub_nil | refine sub_cons rfl ?_)) hE
            · have hck : ¬ ((k : Nat) : Int) = b.length := hc
              refine wc_draw' 10 hW mixed (by kernel_rfl) (fun w0 hx0 => ?_)
              replace hE := hE.trans hx0
              have hil : i < a.length := by omega
              have hkl : k < b.length := by omega
              obtain ⟨b1, o1, c1, v1, e1, hA1, hC29, hb1, hok1⟩ := ((hR.ext hEw).ext hE).at i hil
              cases e1
              obtain ⟨b2, o2, c2, v2, e2, hA2, hC33, hb2, hok2⟩ := ((hS.ext hEw).ext hE).at k hkl
              cases e2
              refine q_val rfl rfl (fun _ hx => x_move rfl) ?_
              refine q_val rfl rfl (fun _ hx => x_move rfl) ?_
              refine q_val rfl rfl (fun _ hx => x_indexAddr Try.underlying26 ag25.siz rfl rfl (by omega) (by omega)) ?_
              refine q_val rfl rfl (fun _ hx => x_loadA ag25 rfl (hC29.ext hx) rfl) ?_
              refine q_val rfl rfl (fun _ hx => x_move rfl) ?_
              refine q_val rfl rfl (fun _ hx => x_move rfl) ?_
              refine q_val rfl rfl (fun _ hx => x_indexAddr Try.underlying26 ag25.siz rfl rfl (by omega) (by omega)) ?_
              refine q_val rfl rfl (fun _ hx => x_loadA ag25 rfl (hC33.ext hx) rfl) ?_
              refine q_call rfl rfl (fun _ => x_call en19 rfl) (fun w' hx => C19.inF hFF) ?_
              refine q_val rfl rfl (fun _ hx => x_assign rfl) ?_
              refine q_nil (tail0 (fun wt hxt => ?_))
              replace hE := hE.trans hxt
              refine wl_nil ?_
              exact nx_cut (by rw [show twoC a b i k = cmpE a[i] b[k] from by unfold twoC; rw [if_neg (by omega), if_neg (by omega), getD_eq hil, getD_eq hkl]]; repeat (first | exact sub_nil | refine sub_cons rfl ?_)) hE
        · rintro w2 hE
          refine nx_then ?_
          refine wc_seq ?_
          refine wc_region ?_
          refine wl_val hW rfl rfl (x_move rfl) ?_
          refine wl_val hW rfl rfl (x_leq rfl rfl) ?_
          refine wl_nil ?_
          refine nx_then ?_
          refine wc_dec rfl (fun hc => ?_) (fun hc => ?_)
          · replace hc : twoC a b i k ≤ 0 := hc
            have hil := twoC_le hi hc
            obtain ⟨n, rfl⟩ : ∃ m, n = m + 1 := ⟨n - 1, by omega⟩
            refine wc_seq ?_
            refine wc_region ?_
            obtain ⟨b1, o1, c1, v1, e1, hA1, hC41, hb1, hok1⟩ := ((hR.ext hEw).ext hE).at i hil
            cases e1
            refine wl_val hW rfl rfl (x_move rfl) ?_
            refine wl_val hW rfl rfl (x_move rfl) ?_
            refine wl_val hW rfl rfl (x_move rfl) ?_
            refine wl_val hW rfl rfl (x_indexAddr Try.underlying26 ag25.siz rfl rfl (by omega) (by omega)) ?_
            refine wl_val hW rfl rfl (x_loadA ag25 rfl hC41 rfl) ?_
            refine wl_buildSlice (parts := [(0, .tmp 42)]) hW rfl rfl Try.underlying26 ag25.siz Try.zeroValue25 rfl rfl rfl (by omega) ?_
            intro b43 w43 hl43 hB43 hx43
            replace hE := hE.trans hx43
            have hsz := hE.size
            refine wl_append1 hW rfl rfl rfl rfl (hO.ext hE) (by omega) (show Blk _ _ (cellsOf a[i] v1) 25 from hB43) ((hb1.ext hx43).mono (fun k _ h => ⟨h, fun e => by have := hO.lt _ e.symm; omega⟩)) hok1 (by omega) ?_
            intro v44 wA hO2 hkA hcA
            refine wl_val hW rfl rfl (x_assign rfl) ?_
            refine wl_nil ?_
            refine nx_then ?_
            refine wc_seq ?_
            refine wc_region ?_
            refine wl_val hW rfl rfl (x_move rfl) ?_
            refine wl_val hW rfl rfl (x_inc (s := i) rfl (by omega)) ?_
            refine wl_val hW rfl rfl (x_assign rfl) ?_
            refine wl_nil ?_
            refine nx_then ?_
            refine wc_seq ?_
            refine wc_region ?_
            refine wl_val hW rfl rfl (x_move rfl) ?_
            refine wl_val hW rfl rfl (x_eql rfl rfl) ?_
            refine wl_nil ?_
            refine nx_then ?_
            refine wc_dec rfl (fun hc => ?_) (fun hc => ?_)
            · replace hc : twoC a b i k = 0 := hc
              obtain ⟨hkl, h2⟩ := two_both (n := n) hil hk hc
              refine wc_region ?_
              refine wl_val hW rfl rfl (x_move rfl) ?_
              refine wl_val hW rfl rfl (x_inc (s := k) rfl (by omega)) ?_
              refine wl_val hW rfl rfl (x_assign rfl) ?_
              refine wl_nil ?_
              refine nx_block ?_
              exact nx_next (v44, i + 1, k + 1) (by dsimp only; omega) ⟨⟨by dsimp only; omega, by dsimp only; omega, coll ++ [a[i]], n, hO2, by simp only [List.length_append, List.length_cons, List.length_nil]; omega, by dsimp only; omega, by dsimp only; rw [← hco, h2, List.append_assoc]; rfl⟩, Keep.rowed (hEw.trans hE) hkA (fun b h => (hO.lt b h).1)⟩ (by repeat (first | exact sub_nil | refine sub_cons rfl ?_))
            · have hne : twoC a b i k ≠ 0 := hc
              refine wc_skip ?_
              refine nx_block ?_
              exact nx_next (v44, i + 1, k) (by dsimp only; omega) ⟨⟨by dsimp only; omega, hk, coll ++ [a[i]], n, hO2, by simp only [List.length_append, List.length_cons, List.length_nil]; omega, by dsimp only; omega, by dsimp only; rw [← hco, two_less hil hk ‹twoC a b i k ≤ 0› hne, List.append_assoc]; rfl⟩, Keep.rowed (hEw.trans hE) hkA (fun b h => (hO.lt b h).1)⟩ (by repeat (first | exact sub_nil | refine sub_cons rfl ?_))
          · replace hc : ¬ twoC a b i k ≤ 0 := hc
            have hkl := twoC_gt hk (by assumption) hc
            obtain ⟨n, rfl⟩ : ∃ m, n = m + 1 := ⟨n - 1, by omega⟩
            refine wc_seq ?_
            refine wc_region ?_
            obtain ⟨b1, o1, c1, v1, e1, hA1, hC54, hb1, hok1⟩ := ((hS.ext hEw).ext hE).at k hkl
            cases e1
            refine wl_val hW rfl rfl (x_move rfl) ?_
            refine wl_val hW rfl rfl (x_move rfl) ?_
            refine wl_val hW rfl rfl (x_move rfl) ?_
            refine wl_val hW rfl rfl (x_indexAddr Try.underlying26 ag25.siz rfl rfl (by omega) (by omega)) ?_
            refine wl_val hW rfl rfl (x_loadA ag25 rfl hC54 rfl) ?_
            refine wl_buildSlice (parts := [(0, .tmp 55)]) hW rfl rfl Try.underlying26 ag25.siz Try.zeroValue25 rfl rfl rfl (by omega) ?_
            intro b56 w56 hl56 hB56 hx56
            replace hE := hE.trans hx56
            have hsz := hE.size
            refine wl_append1 hW rfl rfl rfl rfl (hO.ext hE) (by omega) (show Blk _ _ (cellsOf b[k] v1) 25 from hB56) ((hb1.ext hx56).mono (fun k _ h => ⟨h, fun e => by have := hO.lt _ e.symm; omega⟩)) hok1 (by omega) ?_
            intro v57 wA hO2 hkA hcA
            refine wl_val hW rfl rfl (x_assign rfl) ?_
            refine wl_nil ?_
            refine nx_then ?_
            refine wc_region ?_
            refine wl_val hW rfl rfl (x_move rfl) ?_
            refine wl_val hW rfl rfl (x_inc (s := k) rfl (by omega)) ?_
            refine wl_val hW rfl rfl (x_assign rfl) ?_
            refine wl_nil ?_
            refine nx_block ?_
            exact nx_next (v57, i, k + 1) (by dsimp only; omega) ⟨⟨hi, by dsimp only; omega, coll ++ [b[k]], n, hO2, by simp only [List.length_append, List.length_cons, List.length_nil]; omega, by dsimp only; omega, by dsimp only; rw [← hco, two_more hi hkl hc, List.append_assoc]; rfl⟩, Keep.rowed (hEw.trans hE) hkA (fun b h => (hO.lt b h).1)⟩ (by repeat (first | exact sub_nil | refine sub_cons rfl ?_))
      · refine wc_exit ?_
        refine nx_then_exit ?_
        refine nx_then_exit ?_
        refine nx_block_exit ?_
        refine nx_then ?_
        refine wc_seq ?_
        replace hc : ¬ (i < a.length ∨ k < b.length) := by intro h; simp only [Bool.or_eq_false_iff, decide_eq_false_iff_not] at hc; omega
        rw [two_end n (by omega) (by omega), List.append_nil] at hco
        subst hco
        refine wc_region ?_
        refine wl_val hW rfl rfl (x_move rfl) ?_
        refine wl_val hW rfl rfl (x_assign rfl) ?_
        refine wl_nil ?_
        refine nx_then ?_
        refine wc_ret ?_
        exact ends_ret (res_tmp Try.results75 rfl) ⟨(hO.row (by omega)).mono (fun _ _ _ => trivial), hEw⟩
theorem C47 {w : World} {v : Value} {ls : List (List Ent)} (hL : LRow (fun k => k < w.heap.size) w v ls) (htot : tot ls ≤ 1099511627000) : Rt Try.prog 47 [v] w fun r w' => (∃ rv, r = .tuple #[rv, .int .i64 (if ls.all rightB then 0 else 15)] ∧ Row (fun _ => True) w' rv (if ls.all rightB then foldTwo [] ls else [])) ∧ Ext w w' := by
  obtain ⟨ad, cap, rfl, hcap, hlen⟩ := hL.form
  have hW := hWw
  have hFF := hFw
  have hE : Ext w w := Keep.refl _ _
  refine rt_body Try.func47 rfl Try.ntmps47 rfl ?_
  refine wc_seq ?_
  refine wc_region ?_
  refine wl_val hW rfl rfl (x_assign rfl) ?_
  refine wl_val hW rfl rfl (x_assign rfl) ?_
  refine wl_nil ?_
  refine nx_then ?_
  refine wc_seq ?_
  refine wc_region ?_
  refine wl_val hW rfl rfl (x_assign rfl) ?_
  refine wl_nil ?_
  refine nx_then ?_
  refine wc_seq ?_
  refine wc_seq ?_
  refine wc_region ?_
  refine wl_val hW rfl rfl (x_assign rfl) ?_
  refine wl_nil ?_
  refine nx_then ?_
  refine wc_block ?_
  refine wc_loop (σ := Nat) (fun s => [(0, .slice ad ls.length cap), (4, .slice none 0 0), (5, .int .i64 s)]) (fun s w' => (s ≤ ls.length ∧ ∀ (j : Nat) (hj : j < ls.length), j < s → rightB ls[j] = true) ∧ Ext w w') (fun s => ls.length - s) 0 ?_ ?_ ?_
  · exact ⟨⟨Nat.zero_le _, fun j _ h => absurd h (Nat.not_lt_zero _)⟩, hE⟩
  · repeat (first | exact sub_nil | refine sub_cons rfl ?_)
  · rintro s wr ⟨hs, hE⟩
    refine wc_seq ?_
    refine wc_seq ?_
    refine wc_region ?_
    refine wl_val hW rfl rfl (x_move rfl) ?_
    refine wl_val hW rfl rfl (x_move rfl) ?_
    refine wl_val hW rfl rfl (x_len Try.underlying65 rfl) ?_
    refine wl_val hW rfl rfl (x_lss rfl rfl) ?_
    refine wl_nil ?_
    refine nx_then ?_
    refine wc_dec rfl (fun hc => ?_) (fun hc => ?_)
    · replace hc : ((s : Nat) : Int) < ls.length := hc
      have hlt : s < ls.length := by omega
      refine wc_skip ?_
      refine nx_then ?_
      refine wc_seq ?_
      refine wc_block ?_
      refine wc_seq ?_
      refine wc_region ?_
      refine wl_val hW rfl rfl (x_move rfl) ?_
      refine wl_val hW rfl rfl (x_move rfl) ?_
      obtain ⟨b1, o1, c1, rv, e1, hA1, hC15, hRl⟩ := (hL.ext hE).at s hlt
      cases e1
      refine wl_val hW rfl rfl (x_indexAddr Try.underlying65 fl26.siz rfl rfl (by omega) (by omega)) ?_
      refine wl_val hW rfl rfl (x_load fl26 rfl (hC15 0 _ rfl)) ?_
      refine wl_call hW rfl rfl (x_call en21 rfl) ((C21 hRl).inF hFF) ?_
      rintro _ wC ⟨rfl, hxC⟩
      replace hE := hE.trans hxC
      refine wl_val hW rfl rfl (x_not rfl) ?_
      refine wl_nil ?_
      refine nx_then ?_
      refine wc_bool rfl (fun hc => ?_) (fun hc => ?_)
      · have hal : ls.all rightB = false := all_at hlt (by simpa using hc)
        refine wc_seq ?_
        refine wc_region ?_
        refine wl_val hW rfl rfl (x_assign rfl) ?_
        refine wl_val hW rfl rfl (x_assign rfl) ?_
        refine wl_nil ?_
        refine nx_then ?_
        refine wc_ret ?_
        refine nx_block_ret ?_
        refine nx_then_ret ?_
        refine nx_then_ret ?_
        refine nx_block_ret ?_
        refine nx_then_ret ?_
        exact ends_ret (res_tmp2 Try.results47 rfl rfl) ⟨⟨_, by rw [hal]; rfl, by rw [hal]; exact row_nil _ _⟩, hE⟩
      · refine wc_skip ?_
        refine nx_block ?_
        refine nx_then ?_
        refine wc_region ?_
        refine wl_val hW rfl rfl (x_move rfl) ?_
        refine wl_val hW rfl rfl (x_inc (s := s) rfl (by omega)) ?_
        refine wl_val hW rfl rfl (x_assign rfl) ?_
        refine wl_nil ?_
        exact nx_next (s + 1) (by omega) ⟨⟨hlt, fun j hj h => by rcases Nat.lt_succ_iff_lt_or_eq.1 h with h | rfl; exact hs.2 j hj h; simpa using hc⟩, hE⟩ (by repeat (first | exact sub_nil | refine sub_cons rfl ?_))
    · refine wc_exit ?_
      refine nx_then_exit ?_
      refine nx_then_exit ?_
      refine nx_block_exit ?_
      refine nx_then ?_
      replace hc : ¬ ((s : Nat) : Int) < ls.length := hc
      have hal : ls.all rightB = true := all_of fun j hj => hs.2 j hj (by omega)
      refine wc_seq ?_
      refine wc_seq ?_
      refine wc_region ?_
      refine wl_val hW rfl rfl (x_assign rfl) ?_
      refine wl_nil ?_
      refine nx_then ?_
      refine wc_block ?_
      refine wc_loop (σ := Value × Nat) (fun u => [(0, .slice ad ls.length cap), (4, u.1), (6, .int .i64 u.2)]) (fun u w' => (u.2 ≤ ls.length ∧ ∃ acc, Row (fun _ => True) w' u.1 acc ∧ acc.length + tot (ls.drop u.2) ≤ tot ls ∧ foldTwo acc (ls.drop u.2) = foldTwo [] ls) ∧ Ext w w') (fun u => ls.length - u.2) (.slice none 0 0, 0) ?_ ?_ ?_
      · exact ⟨⟨Nat.zero_le _, [], row_nil _ _, by simp, by rw [List.drop_zero]⟩, hE⟩
      · repeat (first | exact sub_nil | refine sub_cons rfl ?_)
      · rintro ⟨ov, t⟩ w2 ⟨⟨htl, acc, hRa, hat, hf⟩, hE⟩
        dsimp only at htl hRa hat hf
        refine wc_seq ?_
        refine wc_seq ?_
        refine wc_region ?_
        refine wl_val hW rfl rfl (x_move rfl) ?_
        refine wl_val hW rfl rfl (x_move rfl) ?_
        refine wl_val hW rfl rfl (x_len Try.underlying65 rfl) ?_
        refine wl_val hW rfl rfl (x_lss rfl rfl) ?_
        refine wl_nil ?_
        refine nx_then ?_
        refine wc_dec rfl (fun hc => ?_) (fun hc => ?_)
        · replace hc : ((t : Nat) : Int) < ls.length := hc
          have hlt : t < ls.length := by omega
          refine wc_skip ?_
          refine nx_then ?_
          refine wc_seq ?_
          refine wc_block ?_
          refine wc_region ?_
          refine wl_val hW rfl rfl (x_move rfl) ?_
          refine wl_val hW rfl rfl (x_move rfl) ?_
          refine wl_val hW rfl rfl (x_move rfl) ?_
          obtain ⟨b1, o1, c1, rv, e1, hA1, hC28, hRl⟩ := (hL.ext hE).at t hlt
          cases e1
          have htd := tot_drop hlt
          refine wl_val hW rfl rfl (x_indexAddr Try.underlying65 fl26.siz rfl rfl (by omega) (by omega)) ?_
          refine wl_val hW rfl rfl (x_load fl26 rfl (hC28 0 _ rfl)) ?_
          refine wl_call hW rfl rfl (x_call en75 rfl) ((C75 (hRa.mono (fun k h _ => h)) (hRl.mono (fun k h _ => h)) (by omega)).inF hFF) ?_
          rintro rv2 wC ⟨hR2, hxC⟩
          replace hE := hE.trans hxC
          refine wl_val hW rfl rfl (x_assign rfl) ?_
          refine wl_nil ?_
          refine nx_block ?_
          refine nx_then ?_
          refine wc_region ?_
          refine wl_val hW rfl rfl (x_move rfl) ?_
          refine wl_val hW rfl rfl (x_inc (s := t) rfl (by omega)) ?_
          refine wl_val hW rfl rfl (x_assign rfl) ?_
          refine wl_nil ?_
          exact nx_next (rv2, t + 1) (by dsimp only; omega) ⟨⟨hlt, _, hR2, by have := twoF_len (acc.length + ls[t].length) acc ls[t]; dsimp only; omega, by dsimp only; rw [← foldTwo_drop hlt]; exact hf⟩, hE⟩ (by repeat (first | exact sub_nil | refine sub_cons rfl ?_))
        · refine wc_exit ?_
          refine nx_then_exit ?_
          refine nx_then_exit ?_
          refine nx_block_exit ?_
          refine nx_then ?_
          refine wc_seq ?_
          replace hc : ¬ ((t : Nat) : Int) < ls.length := hc
          rw [List.drop_eq_nil_of_le (show ls.length ≤ t by omega)] at hf
          refine wc_region ?_
          refine wl_val hW rfl rfl (x_move rfl) ?_
          refine wl_val hW rfl rfl (x_assign rfl) ?_
          refine wl_val hW rfl rfl (x_assign rfl) ?_
          refine wl_nil ?_
          refine nx_then ?_
          refine wc_ret ?_
          exact ends_ret (res_tmp2 Try.results47 rfl rfl) ⟨⟨_, by rw [hal]; rfl, by rw [hal, if_pos rfl, ← hf]; exact hRa⟩, hE⟩
theorem C46 {w : World} {v : Value} {ls : List (List Ent)} (hL : LRow (fun k => k < w.heap.size) w v ls) (htot : tot ls ≤ 1099511627000) : Rt Try.prog 46 [v] w fun r w' => (∃ rv, r = .tuple #[rv, .int .i64 (if ls.all rightB then 0 else 15)] ∧ Row (fun k => w.heap.size ≤ k) w' rv (if ls.all rightB then foldTwo [] ls else [])) ∧ Ext w w' := by
  obtain ⟨ad, cap, rfl, hcap, hlen⟩ := hL.form
  have hW := hWw
  have hFF := hFw
  have hE : Ext w w := Keep.refl _ _
  refine rt_body Try.func46 rfl Try.ntmps46 rfl ?_
  refine wc_seq ?_
  refine wc_region ?_
  refine wl_val hW rfl rfl (x_assign rfl) ?_
  refine wl_val hW rfl rfl (x_assign rfl) ?_
  refine wl_nil ?_
  refine nx_then ?_
  refine wc_seq ?_
  refine wc_seq ?_
  refine wc_region ?_
  refine wl_val hW rfl rfl (x_move rfl) ?_
  refine wl_val hW rfl rfl (x_len Try.underlying65 rfl) ?_
  refine wl_val hW rfl rfl (x_move rfl) ?_
  refine wl_nil ?_
  refine nx_then ?_
  refine wc_block ?_
  refine wc_loop (σ := Nat) (fun s => [(0, .slice ad ls.length cap), (6, .slice ad ls.length cap), (7, .int .i64 ls.length), (8, .int .i64 s)]) (fun s w' => (s ≤ ls.length ∧ ∀ (j : Nat) (hj : j < ls.length), j < s → rightB ls[j] = true) ∧ Ext w w') (fun s => ls.length - s) 0 ?_ ?_ ?_
  · exact ⟨⟨Nat.zero_le _, fun j _ h => absurd h (Nat.not_lt_zero _)⟩, hE⟩
  · repeat (first | exact sub_nil | refine sub_cons rfl ?_)
  · rintro s wr ⟨hs, hE⟩
    refine wc_seq ?_
    refine wc_region ?_
    refine wl_val hW rfl rfl (x_lss rfl rfl) ?_
    refine wl_nil ?_
    refine nx_then ?_
    refine wc_seq ?_
    refine wc_dec rfl (fun hc => ?_) (fun hc => ?_)
    · replace hc : ((s : Nat) : Int) < ls.length := hc
      have hlt : s < ls.length := by omega
      refine wc_skip ?_
      refine nx_then ?_
      refine wc_seq ?_
      refine wc_block ?_
      refine wc_seq ?_
      refine wc_region ?_
      obtain ⟨b1, o1, c1, rv, e1, hA1, hC10, hRl⟩ := (hL.ext hE).at s hlt
      cases e1
      refine wl_val hW rfl rfl (x_indexAddr Try.underlying65 fl26.siz rfl rfl (by omega) (by omega)) ?_
      refine wl_val hW rfl rfl (x_load fl26 rfl (hC10 0 _ rfl)) ?_
      refine wl_val hW rfl rfl (x_assign rfl) ?_
      refine wl_nil ?_
      refine nx_then ?_
      refine wc_seq ?_
      refine wc_region ?_
      refine wl_val hW rfl rfl (x_move rfl) ?_
      refine wl_call hW rfl rfl (x_call en20 rfl) ((C20 hRl).inF hFF) ?_
      rintro _ wC ⟨rfl, hxC⟩
      replace hE := hE.trans hxC
      refine wl_val hW rfl rfl (x_not rfl) ?_
      refine wl_nil ?_
      refine nx_then ?_
      refine wc_bool rfl (fun hc => ?_) (fun hc => ?_)
      · have hal : ls.all rightB = false := all_at hlt (by simpa using hc)
        refine wc_seq ?_
        refine wc_region ?_
        refine wl_val hW rfl rfl (x_assign rfl) ?_
        refine wl_val hW rfl rfl (x_assign rfl) ?_
        refine wl_nil ?_
        refine nx_then ?_
        refine wc_ret ?_
        refine nx_block_ret ?_
        refine nx_then_ret ?_
        refine nx_then_ret ?_
        refine nx_block_ret ?_
        refine nx_then_ret ?_
        exact ends_ret (res_tmp2 Try.results46 rfl rfl) ⟨⟨_, by rw [hal]; rfl, by rw [hal]; exact row_nil _ _⟩, hE⟩
      · refine wc_skip ?_
        refine nx_block ?_
        refine nx_then ?_
        refine wc_region ?_
        refine wl_val hW rfl rfl (x_inc (s := s) rfl (by omega)) ?_
        refine wl_val hW rfl rfl (x_move rfl) ?_
        refine wl_nil ?_
        exact nx_next (s + 1) (by omega) ⟨⟨hlt, fun j hj h => by rcases Nat.lt_succ_iff_lt_or_eq.1 h with h | rfl; exact hs.2 j hj h; simpa using hc⟩, hE⟩ (by repeat (first | exact sub_nil | refine sub_cons rfl ?_))
    · refine wc_exit ?_
      refine nx_then_exit ?_
      refine nx_then_exit ?_
      refine nx_block_exit ?_
      replace hc : ¬ ((s : Nat) : Int) < ls.length := hc
      have hal : ls.all rightB = true := all_of fun j hj => hs.2 j hj (by omega)
      refine nx_then ?_
      refine wc_seq ?_
      refine wc_region ?_
      have hEw := hE
      have hsz0 := hE.size
      refine wl_val hW rfl rfl (x_move rfl) ?_
      refine wl_call hW rfl rfl (x_call en74 rfl) ((C74 (hL.ext hE) (fun k h => Nat.lt_of_lt_of_le h hE.size)).inF hFF) ?_
      rintro cv wC ⟨hLo, hxC⟩
      replace hE := hE.trans hxC
      have hsz := hE.size
      refine wl_call hW rfl rfl (x_call en73 rfl) ((C73 hLo (fun k h => by omega) htot).inF hFF) ?_
      rintro rv wT ⟨⟨M, hM, hRM⟩, hkT⟩
      have hET : Ext w wT := Keep.after hE hkT (fun k hk e => by have := (hLo.lt k e.symm).1; omega)
      have hMf := merge_is hM (all_sorted hal)
      refine wl_val hW rfl rfl (x_assign rfl) ?_
      refine wl_val hW rfl rfl (x_assign rfl) ?_
      refine wl_nil ?_
      refine nx_then ?_
      refine wc_ret ?_
      exact ends_ret (res_tmp2 Try.results46 rfl rfl) ⟨⟨_, by rw [hal]; rfl, by rw [hal, if_pos rfl, ← hMf]; exact hRM.mono (fun k _ h => by omega)⟩, hET⟩
end Go.Proofs.Ytblbddamebbgaaa.K


/- Go maps of the call's own: made, read, written, gone over. -/
namespace Go.Proofs.Ytblbddamebbgaaa.K
open Go Go.RowKit
set_option linter.unusedVariables false
set_option linter.unusedSectionVars false
set_option linter.unusedSimpArgs false

/-- A type of keys: how a key is a value, and a literal. -/
structure KT (P : Program) (kt : TypeId) (κ : Type) where
  ok : κ → Prop
  v : κ → Value
  l : κ → Lit
  key : ∀ k, ok k → keyOf P kt (v k) = some (l k)
  inj : ∀ a b, l a = l b → a = b
  inv : ∀ val lit, keyOf P kt val = some lit → ∃ k, ok k ∧ val = v k ∧ lit = l k
  keyed : Go.Maps.Keyed P kt
def RV (v : Value) : Option (DataW Value × List MemPlace) := some (.held v, [])
/-- The map in block b, of at most n entries, tells f. -/
def MapIs {P : Program} {kt : TypeId} {κ : Type} (T : KT P kt κ) (w : World) (b n : Nat) (f : κ → Option Value) : Prop :=
  ∃ D : DataW Value, w.ownsMap P kt RV b n D ∧ Go.Maps.IsMap D ∧ ∀ k, T.ok k → ∀ zd, D.atKey (T.l k) zd = match f k with
    | some v => .held v
    | none => zd
section
variable {P : Program} {kt et t : TypeId} {κ : Type} {T : KT P kt κ} {w w' : World} {b n : Nat} {f : κ → Option Value}
theorem MapIs.lt (h : MapIs T w b n f) : b < w.heap.size := by obtain ⟨D, h, -⟩ := h; exact h.lt
theorem MapIs.keep {S : Nat → Prop} (h : MapIs T w b n f) (hk : Keep S w w') (hs : S b) : MapIs T w' b n f := by
  obtain ⟨D, ⟨es, clock, hb, h1, h2, h3⟩, h4, h5⟩ := h
  exact ⟨D, ⟨es, clock, (hk.block b (Array.getElem?_eq_some_iff.1 hb).1 hs).trans hb, h1, h2, h3⟩, h4, h5⟩
theorem MapIs.ext (h : MapIs T w b n f) (hk : Ext w w') : MapIs T w' b n f := h.keep hk trivial
theorem MapIs.noCells (h : MapIs T w b n f) : ∀ o, w.heap[b]? = some o → o.isCells = false := by
  obtain ⟨D, ⟨es, clock, hb, -⟩, -⟩ := h
  intro o ho
  rw [hb] at ho; cases ho; rfl
theorem MapIs.ne (h : MapIs T w b n f) : ∀ k, (∃ o, w.heap[k]? = some o ∧ o.isCells = true) → k ≠ b := by
  rintro k ⟨o, ho, hc⟩ rfl
  rw [h.noCells o ho] at hc; cases hc
theorem mapIs_new (T : KT P kt κ) (w : World) : MapIs T (w.alloc (.map #[] 0)) w.heap.size 0 (fun _ => none) :=
  ⟨_, World.ownsMap_made w P kt RV, Go.Maps.isMap_empty, fun k _ zd => rfl⟩
theorem MapIs.look (c : Bool) (h : MapIs T w b n f) (ht : P.underlying t = some (.map kt et)) {z : Value} (hz : (zeroValue et).run P w = .ok z w) {k : κ} (hk : T.ok k) :
    (Instr.lookup t (.map (some b)) (T.v k) c).run P w = .ok (if c then .tuple #[(f k).getD z, .bool (f k).isSome] else (f k).getD z) w := by
  obtain ⟨D, ⟨es, clock, hb, F, hs, rfl⟩, -, hf⟩ := h
  have hfk := hf k hk
  rcases Go.Maps.fit_look c T.keyed ht hz hb F (T.key k hk) with ⟨hrun, -, hat⟩ | ⟨e0, y, -, -, hrun, hRv, hat, -⟩
  · have h1 := (hat .nil).symm.trans (hfk .nil)
    cases hfe : f k with
    | none => rw [hrun]; rfl
    | some v => rw [hfe] at h1; cases h1
  · have h1 := (hat .nil).symm.trans (hfk .nil)
    cases hRv
    cases hfe : f k with
    | none => rw [hfe] at h1; cases h1
    | some v => rw [hfe] at h1; cases h1; rw [hrun]; rfl
theorem MapIs.put (h : MapIs T w b n f) (ht : P.underlying t = some (.map kt et)) (hn : n < maxLen) {k : κ} (hk : T.ok k) (v : Value) [DecidableEq κ] :
    ∃ w', (Instr.mapUpdate t (.map (some b)) (T.v k) v).run P w = .ok () w' ∧ MapIs T w' b (n + 1) (fun x => if x = k then some v else f x) ∧ Keep (· ≠ b) w w' := by
  obtain ⟨D, ho, hm, hf⟩ := h
  obtain ⟨w', hr, h1, h2⟩ := ho.update T.keyed ht hn (T.key k hk) (d := .held v) (ps := []) (val := v) rfl
  refine ⟨w', hr, ⟨_, h1, hm.put _ _, fun x hx zd => ?_⟩, (Keep.grown h2).mono fun j _ hj e => by cases e; exact hj rfl⟩
  by_cases e : x = k
  · subst e
    show _ = match (if x = x then some v else f x) with
      | some v => DataW.held v
      | none => zd
    rw [if_pos rfl]
    exact Go.Maps.atKey_put_same hm (T.keyed.key (T.key x hx)) _ _
  · show _ = match (if x = k then some v else f x) with
      | some v => DataW.held v
      | none => zd
    rw [if_neg e, Go.Maps.atKey_put_other (fun h => e (T.inj _ _ h))]
    exact hf x hx zd
end
section
variable {F : Fence} {nn : Nat} {P : Program} {Q : Exit → Act → World → Prop} {m : Nat} {D : List Deferred} {L : Env} {w w' : World} {ops rest : List Oper} {d : Nat} {ty kt et t : TypeId} {pos : String} {af : Array Edge} {g : Option (Nat × Bool)} {x y z : Operand} {κ : Type} {T : KT P kt κ} {b n : Nat} {f : κ → Option Value}
theorem wl_makeMap (T : KT P kt κ) (hW : Wd F) (hg : wants L ops g = some true) (hd : Nat.blt d m = true) (k : ∀ b w', w.heap.size ≤ b → MapIs T w' b 0 (fun _ => none) → Ext w w' → WL F nn P Q m D ops rest ((d, .map (some b)) :: L) w') :
    WL F nn P Q m D ops (⟨some d, .makeMap t none, ty, pos, af, g⟩ :: rest) L w :=
  wl_val hW hg hd ⟨nofun, fun _ _ _ _ a h => by simp [execOp, run_makeMap]⟩ (k w.heap.size _ (Nat.le_refl _) (mapIs_new T w) (ext_alloc w _))
theorem x_lookup {c : Bool} {k : κ} {zv : Value} (hM : MapIs T w b n f) (ht : P.underlying t = some (.map kt et)) (hz : ∀ w, (zeroValue et).run P w = .ok zv w) (hx : ev L x = some (.map (some b))) (hy : ev L y = some (T.v k)) (hk : T.ok k) :
    Xv P m D L (.lookup t x y c) ty w (if c then .tuple #[(f k).getD zv, .bool (f k).isSome] else (f k).getD zv) w :=
  ⟨nofun, fun _ _ _ _ a h => by simp [execOp, h.ev hx, h.ev hy, hM.look c ht (hz w) hk]⟩
theorem x_lookup1 {k : κ} {zv v1 : Value} (hM : MapIs T w b n f) (ht : P.underlying t = some (.map kt et)) (hz : ∀ w, (zeroValue et).run P w = .ok zv w) (hx : ev L x = some (.map (some b))) (hy : ev L y = some (T.v k)) (hk : T.ok k) (h1 : (f k).getD zv = v1) :
    Xv P m D L (.lookup t x y false) ty w v1 w := by
  have := x_lookup (m := m) (D := D) (c := false) (ty := ty) hM ht hz hx hy hk
  rw [h1] at this; exact this
theorem wl_mapUpdate [DecidableEq κ] {k : κ} {v : Value} (hW : Wd F) (hg : wants L ops g = some true) (hM : MapIs T w b n f) (ht : P.underlying t = some (.map kt et)) (hn : n < maxLen) (hx : ev L x = some (.map (some b))) (hy : ev L y = some (T.v k)) (hz : ev L z = some v) (hk : T.ok k)
    (kk : ∀ w', MapIs T w' b (n + 1) (fun x => if x = k then some v else f x) → Keep (· ≠ b) w w' → WL F nn P Q m D ops rest L w') : WL F nn P Q m D ops (⟨none, .mapUpdate t x y z, ty, pos, af, g⟩ :: rest) L w := by
  obtain ⟨w', hr, h1, h2⟩ := hM.put ht hn hk v
  refine wl_none hW hg (w' := w') ⟨nofun, fun _ _ _ _ a h => ?_⟩ (kk w' h1 h2)
  simp [execOp, h.ev hx, h.ev hy, h.ev hz, hr, Result.andThen]
end


end Go.Proofs.Ytblbddamebbgaaa.K

/- The plain law of MergeMaps: what is seen of merged lists is what a map tells. -/
namespace Go.Proofs.Ytblbddamebbgaaa.K
open Go Go.RowKit
set_option linter.unusedVariables false
set_option linter.unusedSectionVars false
set_option linter.unusedSimpArgs false

/-- The newest of a key up to a number, in a sorted list. -/
def top (up : Int) (m : List Ent) (k : ByteArray) : Option Ent := m.find? fun e => decide (e.k = k) && decide (e.s ≤ up)
theorem top_some {up : Int} {m : List Ent} {k : ByteArray} {e : Ent} (hs : Sorted m) : top up m k = some e ↔ e ∈ m ∧ e.k = k ∧ e.s ≤ up ∧ ∀ x ∈ m, x.k = k → x.s ≤ up → x.s ≤ e.s := by
  induction m with
  | nil => simp [top]
  | cons y m ih =>
    obtain ⟨h1, h2⟩ := List.pairwise_cons.1 hs
    have ih := ih h2
    unfold top at ih ⊢
    rw [List.find?_cons]
    by_cases hy : y.k = k ∧ y.s ≤ up
    · rw [show (decide (y.k = k) && decide (y.s ≤ up)) = true from by simp [hy]]
      constructor
      · intro h
        cases h
        refine ⟨by simp, hy.1, hy.2, fun x hx hxk hxs => ?_⟩
        rcases List.mem_cons.1 hx with rfl | hx
        · exact Int.le_refl _
        · rcases h1 x hx with h | ⟨-, h⟩
          · rw [hy.1, hxk, bl_irrefl] at h; cases h
          · omega
      · rintro ⟨he, hek, hes, hmax⟩
        have h3 := hmax y (by simp) hy.1 hy.2
        rcases List.mem_cons.1 he with rfl | he
        · rfl
        · rcases h1 e he with h | ⟨-, h⟩
          · rw [hy.1, hek, bl_irrefl] at h; cases h
          · omega
    · rw [show (decide (y.k = k) && decide (y.s ≤ up)) = false from by
        rw [Bool.and_eq_false_iff, decide_eq_false_iff_not, decide_eq_false_iff_not]
        by_cases h : y.k = k
        · exact .inr fun h' => hy ⟨h, h'⟩
        · exact .inl h]
      simp only
      rw [ih]
      constructor
      · rintro ⟨he, hek, hes, hmax⟩
        refine ⟨by simp [he], hek, hes, fun x hx hxk hxs => ?_⟩
        rcases List.mem_cons.1 hx with rfl | hx
        · exact absurd ⟨hxk, hxs⟩ hy
        · exact hmax x hx hxk hxs
      · rintro ⟨he, hek, hes, hmax⟩
        rcases List.mem_cons.1 he with rfl | he
        · exact absurd ⟨hek, hes⟩ hy
        · exact ⟨he, hek, hes, fun x hx => hmax x (by simp [hx])⟩
theorem seenG_mem_iff {up : Int} : ∀ {g : List Ent}, Fall g → ∀ e, e ∈ seenG up g ↔ e ∈ g ∧ e.s ≤ up ∧ e.g = false ∧ ∀ x ∈ g, x.s ≤ up → x.s ≤ e.s
  | [], _, e => by simp [seenG]
  | y :: g, hf, e => by
    obtain ⟨h1, h2⟩ := List.pairwise_cons.1 hf
    by_cases hy : y.s ≤ up
    · rw [seenG_cons_hit hy]
      constructor
      · intro h
        have hyg : y.g = false := by
          cases hg : y.g with
          | false => rfl
          | true => rw [hg] at h; simp at h
        rw [hyg] at h
        simp at h
        subst h
        refine ⟨by simp, hy, hyg, fun x hx hxs => ?_⟩
        rcases List.mem_cons.1 hx with rfl | hx
        · exact Int.le_refl _
        · have := h1 x hx; omega
      · rintro ⟨he, hes, heg, hmax⟩
        have h3 := hmax y (by simp) hy
        rcases List.mem_cons.1 he with rfl | he
        · rw [heg]; simp
        · have := h1 e he; omega
    · rw [seenG_cons_miss hy, seenG_mem_iff h2 e]
      constructor
      · rintro ⟨he, hes, heg, hmax⟩
        refine ⟨by simp [he], hes, heg, fun x hx hxs => ?_⟩
        rcases List.mem_cons.1 hx with rfl | hx
        · exact absurd hxs hy
        · exact hmax x hx hxs
      · rintro ⟨he, hes, heg, hmax⟩
        rcases List.mem_cons.1 he with rfl | he
        · exact absurd hes hy
        · exact ⟨he, hes, heg, fun x hx => hmax x (by simp [hx])⟩
theorem rSeen_mem {up : Int} : ∀ (n : Nat) (m : List Ent), m.length ≤ n → Sorted m → ∀ e, e ∈ rSeen up none false m ↔ top up m e.k = some e ∧ e.g = false
  | _, [], _, _, e => by simp [rSeen, top]
  | 0, y :: m, h, _, _ => by simp at h
  | n + 1, y :: m, h, hs, e => by
    obtain ⟨g, r, he, hg, hgk, hrk, hf, hsr⟩ := sorted_split hs
    have hl : r.length ≤ n := by
      have h1 := congrArg List.length he
      have h2 : 0 < g.length := List.length_pos_iff.2 hg
      simp only [List.length_cons, List.length_append] at h1 h
      omega
    have ih := rSeen_mem (up := up) n r hl hsr e
    rw [he] at hs
    rw [he, rSeen_join up hgk (fun x hx => hrk x (head_mem hx)), List.mem_append, seenG_mem_iff hf, ih, top_some hs, top_some hsr]
    constructor
    · rintro (⟨h1, h2, h3, h4⟩ | ⟨⟨h1, h2, h3, h4⟩, h5⟩)
      · refine ⟨⟨List.mem_append_left _ h1, rfl, h2, fun x hx hxk hxs => ?_⟩, h3⟩
        rcases List.mem_append.1 hx with hx | hx
        · exact h4 x hx hxs
        · exact absurd (hxk.trans (hgk e h1)) (hrk x hx)
      · refine ⟨⟨List.mem_append_right _ h1, rfl, h3, fun x hx hxk hxs => ?_⟩, h5⟩
        rcases List.mem_append.1 hx with hx | hx
        · exact absurd (hxk.symm.trans (hgk x hx)) (hrk e h1)
        · exact h4 x hx hxk hxs
    · rintro ⟨⟨h1, -, h3, h4⟩, h5⟩
      rcases List.mem_append.1 h1 with h1 | h1
      · exact .inl ⟨h1, h3, h5, fun x hx hxs => h4 x (List.mem_append_left _ hx) ((hgk x hx).trans (hgk e h1).symm) hxs⟩
      · exact .inr ⟨⟨h1, rfl, h3, fun x hx => h4 x (List.mem_append_right _ hx)⟩, h5⟩
theorem rSeen_sub (up : Int) : ∀ (pk : Option ByteArray) (d : Bool) (es : List Ent), (rSeen up pk d es).Sublist es
  | _, _, [] => by simp [rSeen]
  | pk, d, e :: es => by
    simp only [rSeen]
    split
    · exact (rSeen_sub up _ _ es).cons e
    · split
      · exact (rSeen_sub up _ _ es).cons e
      · exact (rSeen_sub up _ _ es).cons_cons e
theorem seen_keys {up : Int} {m : List Ent} (hs : Sorted m) : (seenL up m).Pairwise fun a b => bl a.k.toList b.k.toList = true := by
  rw [← rSeen_is]
  refine List.Pairwise.imp_of_mem (fun {a b} ha hb h => ?_) (List.Pairwise.sublist (rSeen_sub up none false m) hs)
  rcases h with h | ⟨h, h'⟩
  · exact h
  · have h1 := (top_some hs).1 ((rSeen_mem _ m (Nat.le_refl _) hs a).1 ha).1
    have h2 := (top_some hs).1 ((rSeen_mem _ m (Nat.le_refl _) hs b).1 hb).1
    have := h2.2.2.2 a h1.1 h h1.2.2.1
    omega
theorem seen_mem {up : Int} {m : List Ent} (hs : Sorted m) (e : Ent) : e ∈ seenL up m ↔ top up m e.k = some e ∧ e.g = false := by
  rw [← rSeen_is]; exact rSeen_mem _ m (Nat.le_refl _) hs e
end Go.Proofs.Ytblbddamebbgaaa.K

/- Walks: the table in memory, its small parts. -/
namespace Go.Proofs.Ytblbddamebbgaaa.K
open Go Go.RowKit
set_option linter.unusedVariables false
set_option linter.unusedSimpArgs false

/-- What a version costs. -/
def costE (e : Ent) : Nat := e.k.size + e.v.length + 16
end Go.Proofs.Ytblbddamebbgaaa.K


/- The table in memory: a skip list's nodes, plain and in blocks. -/
namespace Go.Proofs.Ytblbddamebbgaaa.K
open Go Go.RowKit
set_option linter.unusedVariables false
set_option linter.unusedSectionVars false
set_option linter.unusedSimpArgs false

/-- A node: its block, its tower's block, its height, its version, its value's slice. -/
structure Nd where
  b : Nat
  a : Nat
  h : Nat
  e : Ent
  bv : Value
end Go.Proofs.Ytblbddamebbgaaa.K

/- The table in memory: how it lies in blocks, what is read of it. -/
namespace Go.Proofs.Ytblbddamebbgaaa.K
open Go Go.RowKit
set_option linter.unusedVariables false
set_option linter.unusedSectionVars false
set_option linter.unusedSimpArgs false

/-- What a table holds: its nodes, the highest tower, how many there are, the draws, the size. -/
structure Td where
  bt : Nat
  ha : Nat
  ns : List Nd
  hgt : Nat
  cnt : Nat
  dv : Value
  ds : List Int
  sz : Int
section
variable {O : Nat → Prop} {w w' : World} {t : Td}
theorem IRow.ck {A : Nat → Prop} {v : Value} {zs : List Int} (h : IRow A w v zs) (hk : CK A w w') : IRow A w' v zs := by
  obtain ⟨ad, cap, e, h1, h2⟩ := h
  refine ⟨ad, cap, e, h1, fun hne => ?_⟩
  obtain ⟨b, o, h3, h4, h5⟩ := h2 hne
  exact ⟨b, o, h3, h4, fun i z hi => hk _ _ h4 (h5 i z hi)⟩
end
end Go.Proofs.Ytblbddamebbgaaa.K

/- The table in memory: what a put turns. -/
namespace Go.Proofs.Ytblbddamebbgaaa.K
open Go Go.RowKit
set_option linter.unusedVariables false
set_option linter.unusedSectionVars false
set_option linter.unusedSimpArgs false

theorem Blk.ne {w : World} {b b' : Nat} {cs cs' : List Value} {t t' : TypeId} (h : Blk w b cs t) (h' : Blk w b' cs' t') (ht : t ≠ t') : b ≠ b' := by
  rintro rfl
  unfold Blk at h h'
  rw [h] at h'
  cases h'
  exact ht rfl
theorem cells_one {e : Ent} {bv : Value} (h : bv.oneCell' = true) : (cellsOf e bv).all Value.oneCell' = true := by
  show (true && (true && (true && (bv.oneCell' && true)))) = true
  rw [h]; rfl
end Go.Proofs.Ytblbddamebbgaaa.K

/- The table in memory: Put, plain. -/
namespace Go.Proofs.Ytblbddamebbgaaa.K
open Go Go.RowKit
set_option linter.unusedVariables false
set_option linter.unusedSectionVars false
set_option linter.unusedSimpArgs false

theorem cost_le {e : Ent} (h : EntOk e) : costE e ≤ 4194304 := by have := h.k; have := h.v; unfold costE; omega
end Go.Proofs.Ytblbddamebbgaaa.K

/- append, of whatever type of elements, to a row of the call's own. No program is named here. -/
namespace Go.Proofs.Ytblbddamebbgaaa.K
open Go Go.RowKit
set_option linter.unusedVariables false
set_option linter.unusedSectionVars false
set_option linter.unusedSimpArgs false

section
variable {P : Program} {w : World} {base : Nat} {t ty e : TypeId} {z : Value} {size bytes : Nat}
/-- The slice whose address is ad holds news, if there are any. -/
def Src (w : World) (ad : Option Addr) (news : List Value) : Prop := news ≠ [] → ∃ b o, ad = some ⟨b, o, none⟩ ∧ ∀ j u, news[j]? = some u → w.cell? ⟨b, o + j, none⟩ = some u
theorem run_appG (ht : P.underlying t = some (.slice e)) (hin : (P.info? e).map (fun i => (i.zero, i.size, i.bytes)) = some (some z, size, bytes)) (hzs : z.cells.size = size) (hsz : 0 < size)
    {v : Value} {n : Nat} {xs : List Value} (hown : w.ownsRow base e size v n xs) {ad : Option Addr} {m c : Nat} {news : List Value} (hl : news.length = m * size) (hnews : Src w ad news) (h1 : ∀ u ∈ news, u.oneCell' = true)
    (h63 : n + m ≤ 1099511627776) (hbytes : bytes ≤ 128) (hbase : base ≤ w.heap.size) :
    ∃ v' w', (Builtin.append_ #[t, t] ty #[v, .slice ad m c]).run P w = .ok v' w' ∧ w'.ownsRow base e size v' (n + m) (xs ++ news) ∧ Keep (fun k => some k ≠ v.ownBlock) w w' ∧ (v'.ownBlock = v.ownBlock ∨ ∃ b, v'.ownBlock = some b ∧ w.heap.size ≤ b) := by
  obtain ⟨i0, hi, hz0, hz1, hz2⟩ := info_parts hin
  have hb128 : (n + m) * bytes ≤ 140737488355328 := Nat.le_trans (Nat.mul_le_mul h63 hbytes) (by decide)
  cases ad with
  | none =>
    have hn0 : news = [] := Decidable.byContradiction fun h => by obtain ⟨b, o, h, -⟩ := hnews h; cases h
    subst hn0
    have hm : m = 0 := by
      rcases Nat.eq_zero_or_pos m with h | h
      · exact h
      · have := Nat.mul_pos h hsz; simp at hl; omega
    subst hm
    rw [Nat.add_zero, List.append_nil]
    refine ⟨v, w, ?_, hown, Keep.refl _ _, .inl rfl⟩
    rcases hown.2 with ⟨rfl, h⟩ | ⟨g, cap, cur, rfl, hb, hg, hc1, hc2, hc3, hc4⟩
    · simp [Builtin.append_, run_underlying ht, sizeOf, typeInfo, hi, Builtin.lenOf, Builtin.firstCells, storeCells]
    · simp [Builtin.append_, run_underlying ht, sizeOf, typeInfo, hi, Builtin.lenOf, Builtin.firstCells, storeCells, hc1]
  | some a0 =>
    obtain ⟨v', w', hr, ho, hg, -, hat⟩ := run_append_own_at (P := P) w base t ty e i0 z size bytes ht hi hz0 hz1 hz2 hzs hsz v n xs hown a0 m c news hl (fun j u hj => by
      obtain ⟨b, o, h, hc⟩ := hnews (by intro e; rw [e] at hj; simp at hj)
      cases h; rw [add_mk]; exact hc j u hj) h1 (by unfold maxLen; omega) hb128 hbase
    refine ⟨v', w', hr, ho, Keep.grown hg, ?_⟩
    rcases hat with e | e
    · exact .inl e
    · exact .inr ⟨_, e, Nat.le_refl _⟩
/-- An empty slice literal is a row of one's own. -/
theorem owns_empty {b : Nat} (hB : Blk w b [] e) (hb : base ≤ b) : w.ownsRow base e size (.slice (some ⟨b, 0, none⟩) 0 0) 0 [] :=
  ⟨by simp, .inr ⟨b, 0, #[], rfl, hb, hB, Nat.le_refl _, by simp, by simp, by simp⟩⟩
end
section
variable {F : Fence} {n : Nat} {P : Program} {Q : Exit → Act → World → Prop} {m : Nat} {D : List Deferred} {L : Env} {w w' : World} {ops rest : List Oper} {d : Nat} {ty t e : TypeId} {pos : String} {af : Array Edge} {g : Option (Nat × Bool)} {x y : Operand} {z : Value} {size bytes base : Nat}
theorem xv_append (ht : P.underlying t = some (.slice e)) (hin : (P.info? e).map (fun i => (i.zero, i.size, i.bytes)) = some (some z, size, bytes)) (hzs : z.cells.size = size) (hsz : 0 < size)
    {v : Value} {k : Nat} {xs : List Value} {ad : Option Addr} {k2 c : Nat} {news : List Value} (hx : ev L x = some v) (hy : ev L y = some (.slice ad k2 c)) (hown : w.ownsRow base e size v k xs) (hl : news.length = k2 * size) (hnews : Src w ad news) (h1 : ∀ u ∈ news, u.oneCell' = true)
    (h63 : k + k2 ≤ 1099511627776) (hbytes : bytes ≤ 128) (hbase : base ≤ w.heap.size) :
    ∃ v' w', Xv P m D L (.call ⟨.builtin .append, #[x, y], #[t, t]⟩) ty w v' w' ∧ w'.ownsRow base e size v' (k + k2) (xs ++ news) ∧ Keep (fun k => some k ≠ v.ownBlock) w w' ∧ (v'.ownBlock = v.ownBlock ∨ ∃ b, v'.ownBlock = some b ∧ w.heap.size ≤ b) := by
  obtain ⟨v', w', hr, h2⟩ := run_appG (ty := ty) (c := c) ht hin hzs hsz hown hl hnews h1 h63 hbytes hbase
  refine ⟨v', w', ⟨nofun, fun _ _ _ _ a h => ?_⟩, h2⟩
  simp [execOp, resolve, h.ev hx, h.ev hy, invoke, builtin, hr]
theorem wl_append (ht : P.underlying t = some (.slice e)) (hin : (P.info? e).map (fun i => (i.zero, i.size, i.bytes)) = some (some z, size, bytes)) (hzs : z.cells.size = size) (hsz : 0 < size)
    {v : Value} {k : Nat} {xs : List Value} {ad : Option Addr} {k2 c : Nat} {news : List Value} (hW : Wd F) (hg : wants L ops g = some true) (hd : Nat.blt d m = true) (hx : ev L x = some v) (hy : ev L y = some (.slice ad k2 c)) (hown : w.ownsRow base e size v k xs) (hl : news.length = k2 * size) (hnews : Src w ad news) (h1 : ∀ u ∈ news, u.oneCell' = true)
    (h63 : k + k2 ≤ 1099511627776) (hbytes : bytes ≤ 128) (hbase : base ≤ w.heap.size)
    (kk : ∀ v' w', w'.ownsRow base e size v' (k + k2) (xs ++ news) → Keep (fun k => some k ≠ v.ownBlock) w w' → (v'.ownBlock = v.ownBlock ∨ ∃ b, v'.ownBlock = some b ∧ w.heap.size ≤ b) → WL F n P Q m D ops rest ((d, v') :: L) w') :
    WL F n P Q m D ops (⟨some d, .call ⟨.builtin .append, #[x, y], #[t, t]⟩, ty, pos, af, g⟩ :: rest) L w := by
  obtain ⟨v', w', h2, h3, h4, h5⟩ := xv_append (P := P) (m := m) (D := D) (ty := ty) ht hin hzs hsz hx hy hown hl hnews h1 h63 hbytes hbase
  exact wl_val hW hg hd h2 (kk v' w' h3 h4 h5)
/-- What a row of one's own holds, as it is read. -/
theorem owns_src {v : Value} {k : Nat} {xs : List Value} (h : w.ownsRow base e size v k xs) : ∃ ad c, v = .slice ad k c ∧ k ≤ c ∧ Src w ad xs ∧ (xs ≠ [] → ∀ b, ad.map (·.block) = some b → base ≤ b) := by
  have h5 := fun g => h.cells (g := g)
  rcases h.2 with ⟨rfl, h0⟩ | ⟨g, cap, cur, rfl, hb, hg, hc, -⟩
  · subst h0
    have : xs = [] := by have := h.1; simpa using this
    subst this
    exact ⟨none, 0, rfl, Nat.le_refl _, fun h => absurd rfl h, fun h => absurd rfl h⟩
  · refine ⟨some ⟨g, 0, none⟩, cap, rfl, hc, fun _ => ⟨g, 0, rfl, fun j u hj => ?_⟩, fun _ b hb' => by cases hb'; exact hb⟩
    have := h5 g rfl j u hj
    rw [add_mk] at this; exact this
theorem ownsRow_keep {S : Nat → Prop} {v : Value} {k : Nat} {xs : List Value} (h : w.ownsRow base e size v k xs) (hk : Keep S w w') (hv : ∀ b, v.ownBlock = some b → S b) : w'.ownsRow base e size v k xs := by
  refine ⟨h.1, ?_⟩
  rcases h.2 with ⟨h1, h2⟩ | ⟨g, cap, cur, rfl, hb, hg, h1⟩
  · exact .inl ⟨h1, h2⟩
  · exact .inr ⟨g, cap, cur, rfl, hb, (hk.block g (Array.getElem?_eq_some_iff.1 hg).1 (hv g rfl)).trans hg, h1⟩
theorem ownsRow_base {base' : Nat} {v : Value} {k : Nat} {xs : List Value} (h : w.ownsRow base e size v k xs) (hb : ∀ b, v.ownBlock = some b → base' ≤ b) : w.ownsRow base' e size v k xs := by
  refine ⟨h.1, ?_⟩
  rcases h.2 with ⟨h1, h2⟩ | ⟨g, cap, cur, rfl, hb', hg, h1⟩
  · exact .inl ⟨h1, h2⟩
  · exact .inr ⟨g, cap, cur, rfl, hb g rfl, hg, h1⟩
theorem ownsRow_blk {v : Value} {k b : Nat} {xs : List Value} (h : w.ownsRow base e size v k xs) (hb : v.ownBlock = some b) : base ≤ b ∧ ∃ cs, Blk w b cs e := by
  rcases h.2 with ⟨rfl, h2⟩ | ⟨g, cap, cur, rfl, hb', hg, h1⟩
  · cases hb
  · cases hb; exact ⟨hb', cur.toList, by simpa [Blk] using hg⟩
end
end Go.Proofs.Ytblbddamebbgaaa.K

/- Numbers in rows of one's own; tables and their parts made. -/
namespace Go.Proofs.Ytblbddamebbgaaa.K
open Go Go.RowKit
set_option linter.unusedVariables false
set_option linter.unusedSectionVars false
set_option linter.unusedSimpArgs false

theorem info3 : (Try.prog.info? 3).map (fun i => (i.zero, i.size, i.bytes)) = some (some (.int .i64 0), 1, 8) := by kernel_rfl
def intCells (zs : List Int) : List Value := zs.map fun z => .int .i64 z
theorem intCells_len (zs : List Int) : (intCells zs).length = zs.length := by simp [intCells]
theorem intCells_one {zs : List Int} : ∀ u ∈ intCells zs, u.oneCell' = true := fun u hu => by
  simp only [intCells, List.mem_map] at hu; obtain ⟨z, -, rfl⟩ := hu; rfl
theorem IRow.mono {A A' : Nat → Prop} {w : World} {v : Value} {zs : List Int} (h : IRow A w v zs) (hA : ∀ k, k < w.heap.size → A k → A' k) : IRow A' w v zs := by
  obtain ⟨ad, cap, e, h1, h2⟩ := h
  refine ⟨ad, cap, e, h1, fun hne => ?_⟩
  obtain ⟨b, o, h3, h4, h5⟩ := h2 hne
  refine ⟨b, o, h3, hA b ?_ h4, h5⟩
  cases zs with
  | nil => exact absurd rfl hne
  | cons z zs => exact World.block_lt_of_cell? w _ (h5 0 z rfl)
end Go.Proofs.Ytblbddamebbgaaa.K

/- append to an empty slice leaves all as it was. No program is named here. -/
namespace Go.Proofs.Ytblbddamebbgaaa.K
open Go Go.RowKit
set_option linter.unusedVariables false
set_option linter.unusedSectionVars false
set_option linter.unusedSimpArgs false

section
variable {P : Program} {w : World} {base : Nat} {t ty e : TypeId} {z : Value} {size bytes : Nat}
theorem run_appE (ht : P.underlying t = some (.slice e)) (hin : (P.info? e).map (fun i => (i.zero, i.size, i.bytes)) = some (some z, size, bytes)) (hzs : z.cells.size = size) (hsz : 0 < size)
    {b : Nat} (hB : Blk w b [] e) (hb : base ≤ b) {ad : Option Addr} {m c : Nat} {news : List Value} (hl : news.length = m * size) (hnews : Src w ad news) (h1 : ∀ u ∈ news, u.oneCell' = true)
    (h63 : m ≤ 1099511627776) (hbytes : bytes ≤ 128) :
    ∃ v' w', (Builtin.append_ #[t, t] ty #[.slice (some ⟨b, 0, none⟩) 0 0, .slice ad m c]).run P w = .ok v' w' ∧ w'.ownsRow base e size v' m news ∧ Ext w w' := by
  have hbase : base ≤ w.heap.size := Nat.le_trans hb (Nat.le_of_lt hB.lt)
  have hown := owns_empty (size := size) hB hb
  obtain ⟨v', w', hr, ho, hk, hc⟩ := run_appG (ty := ty) (c := c) ht hin hzs hsz hown hl hnews h1 (by omega) hbytes hbase
  rw [Nat.zero_add, List.nil_append] at ho
  refine ⟨v', w', hr, ho, ?_⟩
  obtain ⟨i0, hi, hz0, hz1, hz2⟩ := info_parts hin
  rcases Nat.eq_zero_or_pos m with hm | hm
  · subst hm
    have hr2 : (Builtin.append_ #[t, t] ty #[.slice (some ⟨b, 0, none⟩) 0 0, .slice ad 0 c]).run P w = .ok (.slice (some ⟨b, 0, none⟩) 0 0) w := by
      cases ad <;> simp [Builtin.append_, run_underlying ht, sizeOf, typeInfo, hi, Builtin.lenOf, Builtin.firstCells, loadCells, loadCellsFrom, storeCells]
    rw [hr2] at hr
    cases hr
    exact Keep.refl _ _
  · obtain ⟨bs, o, rfl, hcell⟩ := hnews (by rintro rfl; have := Nat.mul_pos hm hsz; simp at hl; omega)
    subst hz1
    have hfit := growslice_fits (need := 0 + m) (old := 0) (bytes := i0.bytes) (by omega) (Nat.le_trans (Nat.mul_le_mul (by omega : 0 + m ≤ 1099511627776) (by rw [hz2]; exact hbytes)) (by decide))
    have hg := run_append_grow (P := P) w t ty e i0 z ht hi hz0 ⟨b, 0, none⟩ 0 0 [] (by simp) (fun j v h => by simp at h) ⟨bs, o, none⟩ m c news hl (fun j v h => by rw [add_mk]; exact hcell j v h) (by omega) (by omega) hfit
    rw [hg] at hr
    cases hr
    exact (ext_drew w).trans (ext_alloc _ _)
end
section
variable {F : Fence} {n : Nat} {P : Program} {Q : Exit → Act → World → Prop} {m : Nat} {D : List Deferred} {L : Env} {w w' w0 : World}
variable {ops tail : List Oper} {rest : List Oper} {d : Nat} {ty t e : TypeId} {pos : String} {af : Array Edge} {g : Option (Nat × Bool)} {y : Operand} {K : Env → List (Nat × VP) → Prop} {V : List (Nat × VP)} {z : Value} {size bytes : Nat}
/-- An empty slice, made since w0. -/
def Emp (w0 : World) (e : TypeId) : VP := fun v w => ∃ b, v = .slice (some ⟨b, 0, none⟩) 0 0 ∧ w0.heap.size ≤ b ∧ Blk w b [] e
theorem Emp.stable {e : TypeId} : Stable (Emp w0 e) := fun v w w' ⟨b, h1, h2, h3⟩ hx => ⟨b, h1, h2, h3.ext hx⟩
/-- A row of one's own, made since w0. -/
def Own1 (w0 : World) (e : TypeId) (size k : Nat) (xs : List Value) : VP := fun v w => w.ownsRow w0.heap.size e size v k xs
theorem Own1.stable {e : TypeId} {size k : Nat} {xs : List Value} : Stable (Own1 w0 e size k xs) := fun v w w' h hx => ownsRow_keep h hx fun _ _ => trivial
theorem q_buildEmp (hg : wants L ops g = some true) (hd : Nat.blt d m = true) (hno : at' L d = none) (hu : P.underlying t = some (.slice e)) (hs : Siz P e size) (hz : ∀ w, (zeroValue e).run P w = .ok z w)
    (k : QW F n P m D ops w0 K rest L ((d, Emp w0 e) :: V)) : QW F n P m D ops w0 K (⟨some d, .buildSlice t 0 #[], ty, pos, af, g⟩ :: rest) L V :=
  q_valp Emp.stable hg hd hno (fun w' hw => by
    obtain ⟨b, w'', hx, h1, h2, h3⟩ := x_buildSlice (P := P) (m := m) (D := D) (w := w') (ty := ty) (L := L) (vs := []) (sz := size) (len := 0) (parts := []) hu hs hz rfl rfl rfl (by omega)
    exact ⟨_, w'', hx, ⟨b, rfl, Nat.le_trans hw.size h1, h2⟩, h3⟩) k
theorem q_appendE {s : Nat} {ad : Option Addr} {k2 c : Nat} {news : List Value} (ht : P.underlying t = some (.slice e)) (hin : (P.info? e).map (fun i => (i.zero, i.size, i.bytes)) = some (some z, size, bytes)) (hzs : z.cells.size = size) (hsz : 0 < size)
    (hg : wants L ops g = some true) (hd : Nat.blt d m = true) (hno : at' L d = none) (hV : (s, Emp w0 e) ∈ V) (hlo : s ∈ looks ops ⟨some d, .call ⟨.builtin .append, #[.tmp s, y], #[t, t]⟩, ty, pos, af, g⟩) (hy : ∀ u, ev ((s, u) :: L) y = some (.slice ad k2 c))
    (hl : news.length = k2 * size) (hnews : ∀ w', Ext w0 w' → Src w' ad news) (h1 : ∀ u ∈ news, u.oneCell' = true) (h63 : k2 ≤ 1099511627776) (hbytes : bytes ≤ 128)
    (k : QW F n P m D ops w0 K rest L ((d, Own1 w0 e size k2 news) :: V)) : QW F n P m D ops w0 K (⟨some d, .call ⟨.builtin .append, #[.tmp s, y], #[t, t]⟩, ty, pos, af, g⟩ :: rest) L V :=
  q_valv Own1.stable hg hd hno hV hlo (fun w' u hw ⟨b, hu, hb, hB⟩ => by
    subst hu
    obtain ⟨v', w'', hr, ho, hx⟩ := run_appE (P := P) (ty := ty) (c := c) ht hin hzs hsz hB hb hl (hnews w' hw) h1 h63 hbytes
    refine ⟨v', w'', ⟨nofun, fun _ _ _ _ a h => ?_⟩, ho, hx⟩
    have e1 : a.eval (.tmp s) = .slice (some ⟨b, 0, none⟩) 0 0 := h.ev (x := .tmp s) (by show at' _ _ = _; rw [at_cons, if_pos rfl])
    simp [execOp, resolve, e1, h.ev (hy _), invoke, builtin, hr]) k
theorem Src.ext {ad : Option Addr} {news : List Value} (h : Src w ad news) (hx : Ext w w') : Src w' ad news := fun hne => by
  obtain ⟨b, o, h1, h2⟩ := h hne
  exact ⟨b, o, h1, fun j u hj => hx.cell (h2 j u hj)⟩
/-- Of the values of which something is known, two are looked at. -/
theorem tailm2 {d2 : Nat} {p p2 : VP} (hV : (d, p) ∈ V) (hV2 : (d2, p2) ∈ V) (k : ∀ w' v v2, Ext w0 w' → p v w' → p2 v2 w' → WL F n P Q m D ops tail ((d, v) :: (d2, v2) :: L) w') : Tail F n P Q m D ops tail w0 L V := fun w' hw L' hv hs => by
  obtain ⟨v, h1, h2⟩ := hv (d, p) hV
  obtain ⟨v2, h3, h4⟩ := hv (d2, p2) hV2
  exact wl_sub (sub_cons h1 (sub_cons h3 hs)) (k w' v v2 hw h2 h4)
end
end Go.Proofs.Ytblbddamebbgaaa.K

/- The document's table: how it lies in memory, what its Put turns. -/
namespace Go.Proofs.Ytblbddamebbgaaa.K
open Go Go.RowKit
set_option linter.unusedVariables false
set_option linter.unusedSectionVars false
set_option linter.unusedSimpArgs false

theorem flat_one {A : Nat → Prop} {w : World} : ∀ (es : List Ent) (bvs : List Value), (∀ (i : Nat) (e : Ent) (bv : Value), es[i]? = some e → bvs[i]? = some bv → bv.oneCell' = true) → ∀ u ∈ flat es bvs, u.oneCell' = true
  | [], _, _, u, h => by simp [flat] at h
  | _ :: _, [], _, u, h => by simp [flat] at h
  | e :: es, b :: bvs, hb, u, h => by
    simp only [flat, List.mem_append] at h
    rcases h with h | h
    · have := List.all_eq_true.1 (cells_one (e := e) (hb 0 e b rfl rfl)) u h; exact this
    · exact flat_one (A := A) (w := w) es bvs (fun i e' b' h1 h2 => hb (i + 1) e' b' (by simpa using h1) (by simpa using h2)) u h
section
variable {A : Nat → Prop} {base : Nat} {w w' : World} {ad : Option Addr} {n c : Nat} {es : List Ent} {v : Value}
theorem Src.take {news : List Value} (h : Src w ad news) (k c : Nat) : Src w (if c = 0 then ad else ad.map (·.add (0 * k))) (news.take n) := fun hne => by
  obtain ⟨b, o, h1, h2⟩ := h (by rintro rfl; simp at hne)
  refine ⟨b, o, by split <;> simp [h1, add_mk], fun j u hj => h2 j u ?_⟩
  rw [List.getElem?_take] at hj
  split at hj
  · exact hj
  · cases hj
theorem Src.drop {news : List Value} (h : Src w ad news) {k i : Nat} (hc : c = i → news.drop (i * k) = []) : Src w (if c = i then ad else ad.map (·.add (i * k))) (news.drop (i * k)) := fun hne => by
  obtain ⟨b, o, h1, h2⟩ := h (by rintro rfl; simp at hne)
  refine ⟨b, o + i * k, by rw [if_neg (fun e => hne (hc e)), h1]; simp [add_mk], fun j u hj => ?_⟩
  rw [List.getElem?_drop] at hj
  have := h2 _ _ hj
  rwa [← Nat.add_assoc] at this
theorem own_of_flat {bvs : List Value} (h : w.ownsRow base 25 4 v es.length (flat es bvs)) (hl : bvs.length = es.length) (hb : ∀ (i : Nat) (e : Ent) (bv : Value), es[i]? = some e → bvs[i]? = some bv → Byts A w bv e.v) (hA : ∀ k, k < w.heap.size → A k → some k ≠ v.ownBlock) (hok : ∀ e ∈ es, EntOk e) : OwnE A base w v es :=
  ⟨⟨bvs, hl, h, fun i e bv h1 h2 => (hb i e bv h1 h2).mono fun k hk ha => ⟨ha, hA k hk ha⟩⟩, hok⟩
end
theorem src_blk {w : World} {b : Nat} {cs : List Value} {t : TypeId} (h : Blk w b cs t) : Src w (some ⟨b, 0, none⟩) cs := fun _ => ⟨b, 0, rfl, fun j u hj => by rw [Nat.zero_add]; exact h.cell hj⟩
end Go.Proofs.Ytblbddamebbgaaa.K

/- Walks: the document's table: Size, Newest, From, tower. -/
namespace Go.Proofs.Ytblbddamebbgaaa.K
open Go Go.RowKit
set_option linter.unusedVariables false
set_option linter.unusedSimpArgs false

def sizeL (es : List Ent) : Nat := (es.map costE).sum
theorem sizeL_le : ∀ es : List Ent, (∀ e ∈ es, EntOk e) → sizeL es ≤ es.length * 4194304
  | [], _ => by simp [sizeL]
  | e :: es, h => by
    have h1 := cost_le (h e (by simp))
    have h2 := sizeL_le es fun x hx => h x (by simp [hx])
    simp only [sizeL, List.map_cons, List.sum_cons, List.length_cons] at h2 ⊢
    omega
end Go.Proofs.Ytblbddamebbgaaa.K


/- Tables and the document's: plain. -/
namespace Go.Proofs.Ytblbddamebbgaaa.K
open Go Go.RowKit
set_option linter.unusedVariables false
set_option linter.unusedSectionVars false
set_option linter.unusedSimpArgs false

theorem sizeL_append (a b : List Ent) : sizeL (a ++ b) = sizeL a + sizeL b := by simp [sizeL]
theorem sizeL_cons (e : Ent) (b : List Ent) : sizeL (e :: b) = costE e + sizeL b := by simp [sizeL]
end Go.Proofs.Ytblbddamebbgaaa.K

/- A table and the document's side by side. -/
namespace Go.Proofs.Ytblbddamebbgaaa.K
open Go Go.RowKit
set_option linter.unusedVariables false
set_option linter.unusedSectionVars false
set_option linter.unusedSimpArgs false

section
variable {F : Fence} {n : Nat} {Q : Exit → Act → World → Prop} {m : Nat} {D : List Deferred} {L : Env} {w0 w : World} {ops tail rest : List Oper} {d : Nat} {ty t t' : TypeId} {pos : String} {af : Array Edge} {g : Option (Nat × Bool)} {v : Value} {x y : Operand} {K : Env → List (Nat × VP) → Prop} {V : List (Nat × VP)} {P : Program}
theorem C24r {A : Nat → Prop} {w : World} {v u : Value} {as_ bs : List Ent} (hR : Row A w v as_) (hS : Row A w u bs) (h : as_ = bs) : Rt Try.prog 24 [v, u] w fun r w' => r = .bool true ∧ Ext w w' :=
  (C24 hR hS).mono fun r w' ⟨⟨b, h1, h2⟩, h3⟩ => ⟨by rw [h1, h2.2 h], h3⟩
end
end Go.Proofs.Ytblbddamebbgaaa.K

/- Scopes; rows of flat structs; clear; min and max of strings. -/
namespace Go.Proofs.Ytblbddamebbgaaa.K
open Go Go.RowKit
set_option linter.unusedVariables false
set_option linter.unusedSectionVars false
set_option linter.unusedSimpArgs false

section
variable {F : Fence} {n : Nat} {P : Program} {Q : Exit → Act → World → Prop} {m : Nat} {D : List Deferred} {L : Env} {w : World} {a : Act} {b : Frame} {k : List Item} {cs : List Frame}
theorem stepR_scope {c : Code} : step P (lone (b.atR a (.code (.scope c) :: k)) cs w) = .next (lone (b.atR a (.code c :: .inScope c :: k)) cs w) :=
  step_lone_go (by simp [stepG, stepG.exec, Frame.atR])
theorem stepR_inScope {c : Code} : step P (lone (b.atR a (.inScope c :: k)) cs w) = .next (lone (b.atR a k) cs w) :=
  step_lone_go (by simp [stepG, stepG.exec, Frame.atR])
theorem wpIn_scope {c : Code} (h : c.wpIn F n P (Exit.noGoto Q) a w) : (Code.scope c).wpIn F n P Q a w := by
  intro b k cs hro hb hr
  have h0 : (lone (b.atR a (.code (.scope c) :: k)) cs w).fenced P F := fenced_calm hb hr rfl
  obtain ⟨e, a₁, w₁, hq, harr⟩ := h b (.inScope c :: k) cs hro hb hr
  cases e with
  | normal => exact ⟨.normal, a₁, w₁, hq, StepsIn.head h0 stepR_scope (StepsIn.trans harr (.one (fenced_calm hb hr rfl) stepR_inScope))⟩
  | exit id => exact ⟨.exit id, a₁, w₁, hq, .of_steps (.one h0 stepR_scope) ⟨fun k' hk => harr.1 k' (by simp [exitTo, hk]), fun hr hk => harr.2 hr (by simp [exitTo, hk])⟩⟩
  | goto l => exact hq.elim
  | ret => exact ⟨_, a₁, w₁, hq, .of_steps (.one h0 stepR_scope) harr⟩
  | panic ch => exact ⟨_, a₁, w₁, hq, .of_steps (.one h0 stepR_scope) harr⟩
  | outgrown => exact ⟨_, a₁, w₁, hq, .of_steps (.one h0 stepR_scope) harr⟩
theorem wc_scope {c : Code} (h : WC F n P (Exit.noGoto Q) m D c L w) : WC F n P Q m D (.scope c) L w := fun a ha => wpIn_scope (h a ha)
theorem wc_label {l : Nat} (h : NX Q m D .normal L w) : WC F n P Q m D (.label l) L w := fun a ha => wpIn_label (h a ha)
theorem nx_scope_ret (h : NX Q m D .ret L w) : NX (Exit.noGoto Q) m D .ret L w := fun a ha => h a ha
end
theorem sbhm {P : Program} {w : World} {n c : Nat} (h2 : n ≤ c) : (Instr.sliceBounds true n c none (some (.int .i64 (n : Nat))) (some (.int .i64 (n : Nat)))).run P w = .ok (0, n, n) w := by
  simp [Instr.sliceBounds, Instr.sliceBound, asIntOf, h2]
section
variable {F : Fence} {n : Nat} {P : Program} {Q : Exit → Act → World → Prop} {m : Nat} {D : List Deferred} {L : Env} {w w' : World} {ops rest : List Oper} {d : Nat} {ty t t' e : TypeId} {pos : String} {af : Array Edge} {g : Option (Nat × Bool)} {x y : Operand}
theorem gtr_bl (a b : List UInt8) : (!(bl a b || a == b)) = bl b a := by
  by_cases h : a = b
  · subst h; simp [bl_irrefl]
  · cases h1 : bl a b with
    | true => simp [bl_asymm _ _ h1]
    | false =>
      cases h2 : bl b a with
      | true => simp [h]
      | false => exact absurd (bl_total _ _ h1 h2) h
theorem x_sgt {s r : ByteArray} (hx : ev L x = some (.string s)) (hy : ev L y = some (.string r)) : Xv P m D L (.binOp .gtr t x y t') ty w (.bool (bl r.toList s.toList)) w := by
  have := x_sgtr (P := P) (m := m) (D := D) (t := t) (t' := t') (ty := ty) (w := w) hx hy
  rwa [gtr_bl] at this
/-- The lesser, the greater string. -/
def minB (s r : ByteArray) : ByteArray := if bl r.toList s.toList then r else s
def maxB (s r : ByteArray) : ByteArray := if bl s.toList r.toList then r else s
theorem x_smin {s r : ByteArray} {ts : Array TypeId} (hx : ev L x = some (.string s)) (hy : ev L y = some (.string r)) : Xv P m D L (.call ⟨.builtin .min, #[x, y], ts⟩) ty w (.string (minB s r)) w :=
  ⟨nofun, fun _ _ _ _ a h => by
    have e : (if (Op.bytesLess s.toList r.toList || s.toList == r.toList) = true then s else r) = minB s r := by
      unfold minB
      rw [← gtr_bl s.toList r.toList]
      cases (bl s.toList r.toList || s.toList == r.toList) <;> rfl
    rw [← e]
    simp [execOp, resolve, h.ev hx, h.ev hy, invoke, builtin, Builtin.min_, Builtin.min2, Op.stringOp, asBool]⟩
theorem x_smax {s r : ByteArray} {ts : Array TypeId} (hx : ev L x = some (.string s)) (hy : ev L y = some (.string r)) : Xv P m D L (.call ⟨.builtin .max, #[x, y], ts⟩) ty w (.string (maxB s r)) w :=
  ⟨nofun, fun _ _ _ _ a h => by
    have e : (if (!(Op.bytesLess s.toList r.toList)) = true then s else r) = maxB s r := by
      unfold maxB
      show (if (!(bl s.toList r.toList)) = true then s else r) = _
      cases (bl s.toList r.toList) <;> rfl
    rw [← e]
    simp [execOp, resolve, h.ev hx, h.ev hy, invoke, builtin, Builtin.max_, Builtin.max2, Op.stringOp, asBool]⟩
theorem x_min {q : IntKind} {i j : Int} {ts : Array TypeId} (hx : ev L x = some (.int q i)) (hy : ev L y = some (.int q j)) : Xv P m D L (.call ⟨.builtin .min, #[x, y], ts⟩) ty w (.int q (if j < i then j else i)) w :=
  ⟨nofun, fun _ _ _ _ a h => by
    by_cases hlt : j < i
    · simp [execOp, resolve, h.ev hx, h.ev hy, invoke, builtin, Builtin.min_, Builtin.min2, hlt]
    · simp [execOp, resolve, h.ev hx, h.ev hy, invoke, builtin, Builtin.min_, Builtin.min2, hlt]⟩
/-- clear of a slice within a block of the call's own. -/
theorem wl_clear {b o k c sz : Nat} {cs : List Value} {T : TypeId} {z : Value} (hW : Wd F) (hg : wants L ops g = some true) (hu : P.underlying t = some (.slice e)) (hz : ∀ w, (zeroValue e).run P w = .ok z w) (hzs : z.cells.size = sz) (hz1 : ∀ u ∈ z.cells.toList, u.oneCell' = true)
    (hx : ev L x = some (.slice (some ⟨b, o, none⟩) k c)) (hB : Blk w b cs T) (ho : o + k * sz ≤ cs.length)
    (kk : ∀ w' new, new.length = k * sz → Blk w' b (cs.take o ++ new ++ cs.drop (o + k * sz)) T → Keep (· ≠ b) w w' → WL F n P Q m D ops rest L w') : WL F n P Q m D ops (⟨none, .call ⟨.builtin .clear, #[x], #[t]⟩, ty, pos, af, g⟩ :: rest) L w := by
  have hnew : (Builtin.zeroCells z.cells k).toList.length = k * sz := by simp [Builtin.zeroCells, hzs]
  by_cases hk : k = 0
  · subst hk
    refine wl_valnone hW hg (v := .tuple #[]) (w' := w) ⟨nofun, fun _ _ _ _ a h => ?_⟩ (kk w [] (by simp) (by simpa using hB) (Keep.refl _ _))
    simp [execOp, resolve, h.ev hx, invoke, builtin, Builtin.clear_, run_underlying hu]
  · obtain ⟨j, rfl⟩ : ∃ j, k = j + 1 := ⟨k - 1, by omega⟩
    obtain ⟨w', hr, hB', hkp, hsz⟩ := run_storeCells (P := P) (Builtin.zeroCells z.cells (j + 1)).toList o 0 cs w hB (by rw [hnew]; omega) (fun u hu => by
      simp only [Builtin.zeroCells, Array.toList_map, List.mem_map] at hu
      obtain ⟨i, -, rfl⟩ := hu
      by_cases hi : i % z.cells.size < z.cells.size
      · rw [getElem!_pos z.cells _ hi]; exact hz1 _ (by simp)
      · have h0 : z.cells.size = 0 := by
          rcases Nat.eq_zero_or_pos z.cells.size with h | h
          · exact h
          · exact absurd (Nat.mod_lt _ h) hi
        rw [getElem!_neg z.cells _ hi]; rfl)
    refine wl_valnone hW hg (v := .tuple #[]) (w' := w') ⟨nofun, fun _ _ _ _ a h => ?_⟩ (kk w' _ hnew (by rw [Nat.add_zero, hnew] at hB'; exact hB') hkp)
    simp [execOp, resolve, h.ev hx, invoke, builtin, Builtin.clear_, run_underlying hu, hz, hr]
end
/-- The slice v holds the structs xs, of sz cells each, in a block of A. -/
def GRow {α : Type} (sz : Nat) (enc : α → List Value) (A : Nat → Prop) (w : World) (v : Value) (xs : List α) : Prop :=
  ∃ ad cap, v = .slice ad xs.length cap ∧ xs.length ≤ cap ∧ xs.length ≤ 1099511627776 ∧ (xs ≠ [] → ∃ b o, ad = some ⟨b, o, none⟩ ∧ A b ∧ b < w.heap.size ∧ ∀ i x, xs[i]? = some x → Cells w b (o + i * sz) (enc x))
section
variable {α : Type} {sz : Nat} {enc : α → List Value} {A A' : Nat → Prop} {w w' : World} {v : Value} {xs : List α}
theorem GRow.ck (h : GRow sz enc A w v xs) (hk : CK A w w') (hs : w.heap.size ≤ w'.heap.size) : GRow sz enc A w' v xs := by
  obtain ⟨ad, cap, rfl, h1, h2, h⟩ := h
  refine ⟨ad, cap, rfl, h1, h2, fun hne => ?_⟩
  obtain ⟨b, o, rfl, hA, hb, hr⟩ := h hne
  exact ⟨b, o, rfl, hA, by omega, fun i x hi => (hr i x hi).ck hA hk⟩
theorem GRow.ext (h : GRow sz enc A w v xs) (hx : Ext w w') : GRow sz enc A w' v xs := h.ck (CK.of_ext hx) hx.size
theorem GRow.keep {S : Nat → Prop} (h : GRow sz enc A w v xs) (hx : Keep S w w') (hs : ∀ k, k < w.heap.size → A k → S k) : GRow sz enc A w' v xs := h.ck (CK.of_keep hx fun k hk h => hs k hk h) hx.size
theorem GRow.mono (h : GRow sz enc A w v xs) (hA : ∀ k, k < w.heap.size → A k → A' k) : GRow sz enc A' w v xs := by
  obtain ⟨ad, cap, rfl, h1, h2, h⟩ := h
  refine ⟨ad, cap, rfl, h1, h2, fun hne => ?_⟩
  obtain ⟨b, o, rfl, hAb, hb, hr⟩ := h hne
  exact ⟨b, o, rfl, hA b hb hAb, hb, hr⟩
theorem GRow.form (h : GRow sz enc A w v xs) : ∃ ad cap, v = .slice ad xs.length cap ∧ xs.length ≤ cap ∧ xs.length ≤ 1099511627776 := by
  obtain ⟨ad, cap, rfl, h1, h2, -⟩ := h; exact ⟨ad, cap, rfl, h1, h2⟩
theorem GRow.at (h : GRow sz enc A w v xs) (i : Nat) (hi : i < xs.length) : ∃ b o cap, v = .slice (some ⟨b, o, none⟩) xs.length cap ∧ A b ∧ Cells w b (o + i * sz) (enc xs[i]) := by
  obtain ⟨ad, cap, rfl, h1, h2, h⟩ := h
  obtain ⟨b, o, rfl, hA, hb, hr⟩ := h (by rintro rfl; simp at hi)
  exact ⟨b, o, cap, rfl, hA, hr i _ (List.getElem?_eq_getElem hi)⟩
/-- What stands from one place on to another. -/
theorem GRow.slice {ad : Option Addr} {n c : Nat} {i j c' : Nat} (h : GRow sz enc A w (.slice ad n c) xs) (hj : j ≤ xs.length) (hij : i ≤ j) (hc' : j - i ≤ c') {ad' : Option Addr} (had : i < j → ad' = ad.map (·.add (i * sz))) : GRow sz enc A w (.slice ad' (j - i) c') ((xs.take j).drop i) := by
  obtain ⟨ad0, cap, e, h1, h2, h⟩ := h
  cases e
  have hlen : ((xs.take j).drop i).length = j - i := by simp; omega
  refine ⟨_, _, by rw [hlen], by omega, by omega, fun hne => ?_⟩
  have hlt : i < j := Decidable.byContradiction fun hh => hne (List.eq_nil_of_length_eq_zero (by omega))
  obtain ⟨b, o, rfl, hA, hb, hr⟩ := h (by rintro rfl; simp at hj; omega)
  refine ⟨b, o + i * sz, by rw [had hlt]; simp [add_mk], hA, hb, fun k x hk => ?_⟩
  rw [List.getElem?_drop, List.getElem?_take] at hk
  split at hk
  · have := hr (i + k) x hk
    rwa [show o + i * sz + k * sz = o + (i + k) * sz from by rw [Nat.add_mul]; omega]
  · cases hk
end
section
variable {α : Type} {sz : Nat} {enc : α → List Value} {w w' : World} {v : Value} {xs : List α} {base : Nat} {T : TypeId}
theorem gflat_len (henc : ∀ x, (enc x).length = sz) (xs : List α) : (xs.flatMap enc).length = xs.length * sz := by
  induction xs with
  | nil => simp
  | cons x xs ih => rw [List.flatMap_cons, List.length_append, ih, henc, List.length_cons, Nat.add_mul, Nat.one_mul]; omega
theorem gflat_at (henc : ∀ x, (enc x).length = sz) : ∀ (xs : List α) (i : Nat) (x : α), xs[i]? = some x → ∀ (j : Nat) (u : Value), (enc x)[j]? = some u → (xs.flatMap enc)[i * sz + j]? = some u
  | [], i, x, h => by simp at h
  | y :: ys, 0, x, h => fun j u hj => by
    simp at h; subst h
    have hlt : j < (enc y).length := (List.getElem?_eq_some_iff.1 hj).1
    rw [List.flatMap_cons, Nat.zero_mul, Nat.zero_add, List.getElem?_append_left hlt]; exact hj
  | y :: ys, i + 1, x, h => fun j u hj => by
    have := gflat_at henc ys i x (by simpa using h) j u hj
    rw [List.flatMap_cons, List.getElem?_append_right (by rw [henc, Nat.add_mul]; omega), henc, show (i + 1) * sz + j - sz = i * sz + j from by rw [Nat.add_mul]; omega]
    exact this
/-- A row of one's own, as it is read. -/
theorem gown_row (henc : ∀ x, (enc x).length = sz) (h : w.ownsRow base T sz v xs.length (xs.flatMap enc)) (hl : xs.length ≤ 1099511627776) : GRow sz enc (fun k => base ≤ k) w v xs := by
  obtain ⟨ad, c, rfl, h1, h2, h3⟩ := owns_src h
  refine ⟨ad, c, rfl, h1, hl, fun hne => ?_⟩
  by_cases hz : xs.flatMap enc = []
  · rcases h.2 with ⟨he, h0⟩ | ⟨g, cap, cur, he, hb, hg, -⟩
    · exact absurd (List.eq_nil_of_length_eq_zero h0) hne
    · cases he
      refine ⟨g, 0, rfl, hb, (Array.getElem?_eq_some_iff.1 hg).1, fun i x hi j u hj => ?_⟩
      have := gflat_at henc xs i x hi j u hj
      rw [hz] at this; simp at this
  · obtain ⟨b, o, rfl, hc⟩ := h2 hz
    refine ⟨b, o, rfl, h3 hz b rfl, ?_, fun i x hi j u hj => ?_⟩
    · obtain ⟨u, hu⟩ : ∃ u, (xs.flatMap enc)[0]? = some u := ⟨_, List.getElem?_eq_getElem (List.length_pos_iff.2 hz)⟩
      exact World.block_lt_of_cell? w _ (hc 0 u hu)
    · rw [Nat.add_assoc]; exact hc _ _ (gflat_at henc xs i x hi j u hj)
/-- What is appended. -/
theorem grow_src {A : Nat → Prop} {ad : Option Addr} {n c : Nat} (henc : ∀ x, (enc x).length = sz) (hsz : 0 < sz) (h : GRow sz enc A w (.slice ad n c) xs) : Src w ad (xs.flatMap enc) := fun hne => by
  obtain ⟨ad0, cap, e, h1, h2, h⟩ := h
  cases e
  obtain ⟨b, o, rfl, hA, hb, hr⟩ := h (by rintro rfl; exact hne rfl)
  refine ⟨b, o, rfl, fun j u hj => ?_⟩
  have hlt := (List.getElem?_eq_some_iff.1 hj).1
  rw [gflat_len henc] at hlt
  have hd := Nat.div_add_mod j sz
  have hm := Nat.mod_lt j hsz
  have hi : j / sz < xs.length := (Nat.div_lt_iff_lt_mul hsz).2 hlt
  have hu : (enc xs[j / sz])[j % sz]? = some u := by
    have h3 : j % sz < (enc xs[j / sz]).length := by rw [henc]; exact hm
    have h4 := gflat_at henc xs (j / sz) _ (List.getElem?_eq_getElem hi) (j % sz) _ (List.getElem?_eq_getElem h3)
    rw [Nat.mul_comm, hd, hj] at h4
    rw [List.getElem?_eq_getElem h3]; exact h4.symm
  have := hr (j / sz) _ (List.getElem?_eq_getElem hi) (j % sz) u hu
  rwa [Nat.add_assoc, Nat.mul_comm, hd] at this
/-- An element of a row of one's own is turned. -/
theorem gown_set {ad : Option Addr} {n c i : Nat} (henc : ∀ x, (enc x).length = sz) (h : w.ownsRow base T sz (.slice ad n c) xs.length (xs.flatMap enc)) (hi : i < xs.length) : ∃ g cs, ad = some ⟨g, 0, none⟩ ∧ n = xs.length ∧ Blk w g cs T ∧ i * sz + sz ≤ cs.length ∧ base ≤ g ∧
    ∀ w' x, Blk w' g (cs.take (i * sz) ++ enc x ++ cs.drop (i * sz + sz)) T → w'.ownsRow base T sz (.slice ad n c) xs.length ((xs.set i x).flatMap enc) := by
  have hfl := gflat_len henc xs
  rcases h.2 with ⟨he, h0⟩ | ⟨g, cap, cur, he, hb, hg, hc1, hc2, hc3, hc4⟩
  · omega
  · cases he
    have hcl : cur.toList.length = c * sz := by simpa using hc3
    have hle : (i + 1) * sz ≤ xs.length * sz := Nat.mul_le_mul_right _ hi
    have hle2 : xs.length * sz ≤ c * sz := Nat.mul_le_mul_right _ hc1
    rw [Nat.add_mul, Nat.one_mul] at hle
    refine ⟨g, cur.toList, rfl, rfl, by simpa [Blk] using hg, by omega, hb, fun w' x hB => ⟨?_, .inr ⟨g, c, (cur.toList.take (i * sz) ++ enc x ++ cur.toList.drop (i * sz + sz)).toArray, rfl, hb, hB, hc1, hc2, ?_, ?_⟩⟩⟩
    · rw [gflat_len henc, List.length_set]
    · simp only [List.size_toArray, List.length_append, List.length_take, List.length_drop, henc]
      omega
    · have e1 : (xs.set i x).flatMap enc = (xs.flatMap enc).take (i * sz) ++ enc x ++ (xs.flatMap enc).drop (i * sz + sz) := by
        have h1 : ∀ k, k ≤ xs.length → (xs.flatMap enc).take (k * sz) = (xs.take k).flatMap enc ∧ (xs.flatMap enc).drop (k * sz) = (xs.drop k).flatMap enc := fun k hk => by
          have e2 : xs.flatMap enc = (xs.take k).flatMap enc ++ (xs.drop k).flatMap enc := by rw [← List.flatMap_append, List.take_append_drop]
          have e3 : ((xs.take k).flatMap enc).length = k * sz := by rw [gflat_len henc, List.length_take, Nat.min_eq_left hk]
          rw [e2]
          exact ⟨by rw [← e3, List.take_left'  rfl], by rw [← e3, List.drop_left' rfl]⟩
        rw [(h1 i (by omega)).1, show i * sz + sz = (i + 1) * sz from by rw [Nat.add_mul, Nat.one_mul], (h1 (i + 1) (by omega)).2, List.set_eq_take_append_cons_drop, if_pos hi, List.flatMap_append, List.flatMap_cons, List.append_assoc]
      rw [e1, ← hc4, List.take_take, Nat.min_eq_left (by omega), List.drop_take]
      rw [List.take_append, List.take_append]
      simp only [List.length_append, List.length_take, henc, List.take_take]
      rw [Nat.min_eq_left (by omega : i * sz ≤ cur.toList.length), Nat.min_eq_right (by omega : i * sz ≤ xs.length * sz), List.take_of_length_le (l := enc x) (by rw [henc]; omega)]
end
/-- What a version tells of a table: its file, its level, its first and last key, its size. -/
structure Tb where
  f : Int
  l : Int
  a : ByteArray
  z : ByteArray
  s : Int
def cellsT (t : Tb) : List Value := [.int .i64 t.f, .int .i64 t.l, .string t.a, .string t.z, .int .i64 t.s]
theorem cellsT_len (t : Tb) : (cellsT t).length = 5 := rfl
theorem cellsT_one (t : Tb) : (cellsT t).all Value.oneCell' = true := rfl
theorem tflat_one {ts : List Tb} : ∀ u ∈ ts.flatMap cellsT, u.oneCell' = true := fun u hu => by
  obtain ⟨t, -, h⟩ := List.mem_flatMap.1 hu
  exact List.all_eq_true.1 (cellsT_one t) u h
abbrev TRow := GRow 5 cellsT
def TOwn (base : Nat) (w : World) (v : Value) (ts : List Tb) : Prop := w.ownsRow base 87 5 v ts.length (ts.flatMap cellsT)
theorem info87 : (Try.prog.info? 87).map (fun i => (i.zero, i.size, i.bytes)) = some (some (.agg #[.int .i64 0, .int .i64 0, .string ⟨#[]⟩, .string ⟨#[]⟩, .int .i64 0]), 5, 56) := by kernel_rfl
section
variable {base : Nat} {w w' : World} {v : Value} {ts : List Tb}
theorem TOwn.ext (h : TOwn base w v ts) (hx : Ext w w') : TOwn base w' v ts := ownsRow_keep h hx fun _ _ => trivial
theorem TOwn.keep {S : Nat → Prop} (h : TOwn base w v ts) (hk : Keep S w w') (hS : ∀ b, v.ownBlock = some b → S b) : TOwn base w' v ts := ownsRow_keep h hk hS
theorem TOwn.row (h : TOwn base w v ts) (hl : ts.length ≤ 1099511627776) : TRow (fun k => base ≤ k) w v ts := gown_row cellsT_len h hl
theorem TOwn.form (h : TOwn base w v ts) : ∃ ad c, v = .slice ad ts.length c ∧ ts.length ≤ c := by obtain ⟨ad, c, h, h1, -⟩ := owns_src h; exact ⟨ad, c, h, h1⟩
theorem TOwn.ge {b : Nat} (h : TOwn base w v ts) (hb : v.ownBlock = some b) : base ≤ b := (ownsRow_blk h hb).1
theorem TOwn.lt {b : Nat} (h : TOwn base w v ts) (hb : v.ownBlock = some b) : b < w.heap.size := by obtain ⟨-, cs, h2⟩ := ownsRow_blk h hb; exact h2.lt
theorem TOwn.ne {b b' : Nat} {cs : List Value} {T : TypeId} (h : TOwn base w v ts) (hb : v.ownBlock = some b) (hB : Blk w b' cs T) (hT : T ≠ 87) : b ≠ b' := by obtain ⟨-, cs', h2⟩ := ownsRow_blk h hb; exact h2.ne hB (fun e => hT e.symm)
theorem town_nil : TOwn base w (.slice none 0 0) [] := ⟨rfl, .inl ⟨rfl, rfl⟩⟩
end
/-- The tables of a level. -/
def levelL (ts : List Tb) (n : Int) : List Tb := ts.filter fun t => decide (t.l = n)
/-- The least first key, the greatest last one. -/
def stretchL (a z : ByteArray) (ts : List Tb) : ByteArray × ByteArray := (ts.foldl (fun m t => minB m t.a) a, ts.foldl (fun m t => maxB m t.z) z)
/-- A table that shares no key with a stretch. -/
def offB (first last : ByteArray) (t : Tb) : Bool := bl last.toList t.a.toList || bl t.z.toList first.toList
def overL (ts : List Tb) (n : Int) (first last : ByteArray) : List Tb := (levelL ts n).filter fun t => !offB first last t
theorem levelL_take {ts : List Tb} {n : Int} {s : Nat} (h : s < ts.length) : levelL (ts.take (s + 1)) n = levelL (ts.take s) n ++ if ts[s].l = n then [ts[s]] else [] := by
  unfold levelL
  rw [List.take_add_one, List.getElem?_eq_getElem h, List.filter_append]
  by_cases hl : ts[s].l = n <;> simp [hl]
theorem levelL_le (ts : List Tb) (n : Int) : (levelL ts n).length ≤ ts.length := List.length_filter_le _ _
theorem stretchL_take {a z : ByteArray} {ts : List Tb} {s : Nat} (h : s < ts.length) : stretchL a z (ts.take (s + 1)) = (minB (stretchL a z (ts.take s)).1 ts[s].a, maxB (stretchL a z (ts.take s)).2 ts[s].z) := by
  have e : ts.take (s + 1) = ts.take s ++ [ts[s]] := by rw [List.take_add_one, List.getElem?_eq_getElem h]; rfl
  unfold stretchL
  rw [e, List.foldl_append, List.foldl_append]
  rfl
/-- What deleting leaves, while it goes on: the first i are what is kept of the first j. -/
structure Kept (p : Tb → Bool) (ts es : List Tb) (i j : Nat) : Prop where
  len : es.length = ts.length
  le : i ≤ j ∧ j ≤ ts.length
  pre : es.take i = (ts.take j).filter fun t => !p t
  suf : es.drop j = ts.drop j
theorem Kept.at {p : Tb → Bool} {ts es : List Tb} {i j : Nat} (h : Kept p ts es i j) (hj : j < ts.length) : es[j]? = some ts[j] := by
  have h1 := congrArg (fun l => l[0]?) h.suf
  simp only [List.getElem?_drop, Nat.add_zero] at h1
  rw [h1, List.getElem?_eq_getElem hj]
theorem filter_take {p : Tb → Bool} {ts : List Tb} {j : Nat} (hj : j < ts.length) : (ts.take (j + 1)).filter (fun t => !p t) = (ts.take j).filter (fun t => !p t) ++ if p ts[j] then [] else [ts[j]] := by
  rw [List.take_add_one, List.getElem?_eq_getElem hj, List.filter_append]
  by_cases h : p ts[j] <;> simp [h]
theorem Kept.skip {p : Tb → Bool} {ts es : List Tb} {i j : Nat} (h : Kept p ts es i j) (hj : j < ts.length) (hp : p ts[j] = true) : Kept p ts es i (j + 1) := by
  refine ⟨h.len, ⟨by have := h.le; omega, hj⟩, ?_, ?_⟩
  · rw [filter_take hj, if_pos hp, List.append_nil]; exact h.pre
  · have := congrArg (List.drop 1) h.suf
    simpa [List.drop_drop] using this
theorem Kept.put {p : Tb → Bool} {ts es : List Tb} {i j : Nat} (h : Kept p ts es i j) (hj : j < ts.length) (hp : p ts[j] = false) : Kept p ts (es.set i ts[j]) (i + 1) (j + 1) := by
  obtain ⟨hij, hjl⟩ := h.le
  have hl := h.len
  refine ⟨by rw [List.length_set, hl], ⟨by omega, hj⟩, ?_, ?_⟩
  · rw [filter_take hj, if_neg (by rw [hp]; simp), ← h.pre, List.take_add_one, List.getElem?_set_self (by omega), List.take_set_of_le (Nat.le_refl _)]
    rfl
  · have := congrArg (List.drop 1) h.suf
    rw [List.drop_drop, List.drop_drop] at this
    rw [List.drop_set_of_lt (by omega)]
    exact this
theorem kept_start {p : Tb → Bool} {ts : List Tb} {i : Nat} (hi : i < ts.length) (hp : p ts[i] = true) (hno : ∀ (j : Nat) (h : j < ts.length), j < i → p ts[j] = false) : Kept p ts ts i (i + 1) := by
  refine ⟨rfl, ⟨by omega, hi⟩, ?_, rfl⟩
  rw [filter_take hi, if_pos hp, List.append_nil, List.filter_eq_self.2 fun t ht => ?_]
  obtain ⟨j, hj, rfl⟩ := List.getElem_of_mem ht
  have hj' : j < i := by simp at hj; omega
  rw [List.getElem_take, hno j (by omega) hj']; rfl
/-- What lies ahead of a place stands, whatever is written behind it. -/
theorem TOwn.front {base : Nat} {w : World} {ad : Option Addr} {n c i : Nat} {es : List Tb} (h : TOwn base w (.slice ad n c) es) (hi : i ≤ es.length) (hne : 0 < es.length) (hl : es.length ≤ 1099511627776) :
    ∃ g cs, ad = some ⟨g, 0, none⟩ ∧ n = es.length ∧ n ≤ c ∧ Blk w g cs 87 ∧ es.length * 5 ≤ cs.length ∧ base ≤ g ∧ ∀ w' cs', Blk w' g cs' 87 → cs'.take (i * 5) = cs.take (i * 5) → ∀ c', i ≤ c' → TRow (fun k => base ≤ k) w' (.slice (some ⟨g, 0, none⟩) i c') (es.take i) := by
  have hfl := gflat_len cellsT_len es
  rcases h.2 with ⟨he, h0⟩ | ⟨g, cap, cur, he, hb, hg, hc1, hc2, hc3, hc4⟩
  · omega
  · cases he
    have hcl : cur.toList.length = c * 5 := by simpa using hc3
    refine ⟨g, cur.toList, rfl, rfl, hc1, by simpa [Blk] using hg, by omega, hb, fun w' cs' hB ht c' hc' => ?_⟩
    have hlen : (es.take i).length = i := by simp; omega
    refine ⟨_, _, by rw [hlen], by omega, by omega, fun hne' => ⟨g, 0, rfl, hb, hB.lt, fun k x hk j u hj => ?_⟩⟩
    rw [List.getElem?_take] at hk
    split at hk
    · rename_i hki
      have h1 := gflat_at cellsT_len es k x hk j u hj
      have h5 : j < 5 := by have := (List.getElem?_eq_some_iff.1 hj).1; rw [cellsT_len] at this; exact this
      rw [← hc4, List.getElem?_take] at h1
      split at h1
      · have h2 : (cs'.take (i * 5))[k * 5 + j]? = some u := by
          rw [ht, List.getElem?_take, if_pos (by omega)]; exact h1
        rw [List.getElem?_take, if_pos (by omega)] at h2
        rw [Nat.zero_add]
        exact hB.cell h2
      · cases h1
    · cases hk
theorem offB_le {f l : ByteArray} {ts : List Tb} (h : ∀ t ∈ ts, offB f l t = false) : ts.filter (fun t => !offB f l t) = ts := List.filter_eq_self.2 fun t ht => by rw [h t ht]; rfl
end Go.Proofs.Ytblbddamebbgaaa.K

/- Walks: the tables of a level; their stretch; Clip. -/
namespace Go.Proofs.Ytblbddamebbgaaa.K
open Go Go.RowKit
set_option linter.unusedVariables false
set_option linter.unusedSimpArgs false

theorem C79 {A : Nat → Prop} {w : World} {tv : Value} {ts : List Tb} {sq nx wl n : Int} (hR : TRow A w tv ts) : Rt Try.prog 79 [.agg #[tv, .int .u64 sq, .int .i64 nx, .int .i64 wl], .int .i64 n] w fun r w' => TOwn w.heap.size w' r (levelL ts n) ∧ Ext w w' := by
  obtain ⟨ad, cap, rfl, hcap, hlen⟩ := hR.form
  replace hR := hR.mono (A' := fun k => k < w.heap.size) fun k hk _ => hk
  have hW := hWw
  have hFF := hFw
  have hE : Ext w w := Keep.refl _ _
  refine rt_body Try.func79 rfl Try.ntmps79 rfl ?_
  refine wc_seq ?_
  refine wc_region ?_
  refine wl_box hW rfl rfl rfl rfl ?_
  intro b2 w2 hl2 hB2 hx2
  have g2 : w.heap.size ≤ b2 := Nat.le_trans hE.size hl2
  replace hE := hE.trans hx2
  refine wl_val hW rfl rfl (x_assign rfl) ?_
  refine wl_nil ?_
  refine nx_then ?_
  refine wc_seq ?_
  refine wc_region ?_
  refine wl_val hW rfl rfl (x_assign rfl) ?_
  refine wl_nil ?_
  refine nx_then ?_
  refine wc_seq ?_
  refine wc_seq ?_
  refine wc_region ?_
  refine wl_val hW rfl rfl (x_fieldAddr Try.underlying82 rfl fl80.siz rfl) ?_
  refine wl_val hW rfl rfl (x_load fl80 rfl (hB2.cell (o := 0) rfl)) ?_
  refine wl_val hW rfl rfl (x_len Try.underlying80 rfl) ?_
  refine wl_val hW rfl rfl (x_move rfl) ?_
  refine wl_nil ?_
  refine nx_then ?_
  refine wc_block ?_
  refine wc_loop (σ := Nat × Value) (fun s => [(1, .int .i64 n), (5, s.2), (9, .slice ad ts.length cap), (10, .int .i64 (ts.length : Nat)), (11, .int .i64 (s.1 : Nat))]) (fun s w' => (s.1 ≤ ts.length ∧ TOwn w.heap.size w' s.2 (levelL (ts.take s.1) n)) ∧ Ext w w') (fun s => ts.length - s.1) (0, .slice none 0 0) ?_ ?_ ?_
  · exact ⟨⟨Nat.zero_le _, town_nil⟩, hE⟩
  · repeat (first | exact sub_nil | refine sub_cons rfl ?_)
  · rintro ⟨s, ov⟩ wr ⟨⟨hs, hO⟩, hE⟩
    replace hs : s ≤ ts.length := hs
    replace hO : TOwn w.heap.size wr ov (levelL (ts.take s) n) := hO
    refine wc_seq ?_
    refine wc_region ?_
    refine wl_val hW rfl rfl (x_lss rfl rfl) ?_
    refine wl_nil ?_
    refine nx_then ?_
    refine wc_seq ?_
    refine wc_dec rfl (fun hc => ?_) (fun hc => ?_)
    · refine wc_skip ?_
      refine nx_then ?_
      refine wc_seq ?_
      refine wc_block ?_
      refine wc_seq ?_
      replace hc : ((s : Nat) : Int) < ts.length := hc
      have hlt : s < ts.length := by omega
      obtain ⟨b, o, cap', e1, hA, hC13⟩ := (hR.ext hE).at s hlt
      cases e1
      refine wc_region ?_
      refine wl_val hW rfl rfl (x_indexAddr Try.underlying80 ag87.siz rfl rfl (by omega) (by omega)) ?_
      refine wl_val hW rfl rfl (x_loadA ag87 rfl hC13 rfl) ?_
      refine wl_alloc (cs := [.int .i64 0, .int .i64 0, .string ⟨#[]⟩, .string ⟨#[]⟩, .int .i64 0]) hW rfl rfl Try.zeroValue87 rfl ?_
      intro b7 w7 hl7 hB7 hx7
      have g7 : w.heap.size ≤ b7 := Nat.le_trans hE.size hl7
      replace hE := hE.trans hx7
      refine wl_storeA hW rfl ag87 rfl rfl (cellsT_one _) rfl hB7 rfl ?_
      intro wS hBS hkS
      replace hO := (hO.ext hx7).keep hkS (fun b hb => (by have := hO.lt hb; omega))
      replace hB7 := hBS
      clear hBS
      replace hE := hE.store hkS g7
      refine wl_nil ?_
      refine nx_then ?_
      refine wc_seq ?_
      refine wc_region ?_
      refine wl_val hW rfl rfl (x_fieldAddr Try.underlying87 rfl fl3.siz rfl) ?_
      refine wl_val hW rfl rfl (x_load fl3 rfl (hB7.cell (o := 1) rfl)) ?_
      refine wl_val hW rfl rfl (x_move rfl) ?_
      refine wl_val hW rfl rfl (x_eql rfl rfl) ?_
      refine wl_nil ?_
      refine nx_then ?_
      refine wc_dec rfl (fun hc => ?_) (fun hc => ?_)
      · have hlv := levelL_take (n := n) hlt
        rw [if_pos hc] at hlv
        refine wc_region ?_
        refine wl_val hW rfl rfl (x_move rfl) ?_
        refine wl_val hW rfl rfl (x_loadA ag87 rfl hB7.cells rfl) ?_
        refine wl_buildSlice (parts := [(0, .tmp 20)]) hW rfl rfl Try.underlying80 ag87.siz Try.zeroValue87 rfl rfl rfl (by omega) ?_
        intro b21 w21 hl21 hB21 hx21
        have g21 : w.heap.size ≤ b21 := Nat.le_trans hE.size hl21
        have n21_7 : b21 ≠ b7 := Nat.ne_of_gt (Nat.lt_of_lt_of_le hB7.lt hl21)
        replace hB7 := hB7.ext hx21
        replace hE := hE.trans hx21
        have hO21 := hO.ext hx21
        have hsz := hE.size
        have hll := levelL_le (ts.take s) n
        have htl : (ts.take s).length = s := by simp; omega
        refine wl_append Try.underlying80 info87 rfl (by decide) hW rfl rfl rfl rfl hO21 (show (cellsT ts[s]).length = 1 * 5 from rfl) (src_blk (show Blk _ _ (cellsT ts[s]) 87 from hB21)) (List.all_eq_true.1 (cellsT_one _)) (by omega) (by decide) hsz ?_
        intro v22 wA hO2 hkA hcA
        have hE2 := Keep.rowed hE hkA (fun b h => hO21.ge h)
        refine wl_val hW rfl rfl (x_assign rfl) ?_
        refine wl_nil ?_
        refine nx_block ?_
        refine nx_then ?_
        refine wc_region ?_
        refine wl_val hW rfl rfl (x_inc (s := s) rfl (by omega)) ?_
        refine wl_val hW rfl rfl (x_move rfl) ?_
        refine wl_nil ?_
        exact nx_next (s + 1, v22) (by dsimp only; omega) ⟨⟨hlt, by show TOwn _ _ v22 _; rw [hlv]; unfold TOwn; rw [List.length_append, List.flatMap_append, List.length_singleton, List.flatMap_singleton]; exact hO2⟩, hE2⟩ (by repeat (first | exact sub_nil | refine sub_cons rfl ?_))
      · refine wc_skip ?_
        refine nx_block ?_
        refine nx_then ?_
        have hlv := levelL_take (n := n) hlt
        rw [if_neg hc, List.append_nil] at hlv
        refine wc_region ?_
        refine wl_val hW rfl rfl (x_inc (s := s) rfl (by omega)) ?_
        refine wl_val hW rfl rfl (x_move rfl) ?_
        refine wl_nil ?_
        exact nx_next (s + 1, ov) (by dsimp only; omega) ⟨⟨hlt, by show TOwn _ _ ov _; rw [hlv]; exact hO⟩, hE⟩ (by repeat (first | exact sub_nil | refine sub_cons rfl ?_))
    · refine wc_exit ?_
      refine nx_then_exit ?_
      refine nx_then_exit ?_
      refine nx_block_exit ?_
      refine nx_then ?_
      refine wc_seq ?_
      replace hc : ¬ ((s : Nat) : Int) < ts.length := hc
      have hsl : s = ts.length := by omega
      rw [hsl, List.take_length] at hO
      refine wc_region ?_
      refine wl_val hW rfl rfl (x_move rfl) ?_
      refine wl_val hW rfl rfl (x_assign rfl) ?_
      refine wl_nil ?_
      refine nx_then ?_
      refine wc_ret ?_
      exact ends_ret (res_tmp Try.results79 rfl) ⟨hO, hE⟩
theorem C92 {A : Nat → Prop} {w : World} {v : Value} {ts : List Tb} (hR : TRow A w v ts) (h0 : 0 < ts.length) : Rt Try.prog 92 [v] w fun r w' => r = .tuple #[.string (stretchL ts[0].a ts[0].z ts).1, .string (stretchL ts[0].a ts[0].z ts).2] ∧ Ext w w' := by
  obtain ⟨ad, cap, rfl, hcap, hlen⟩ := hR.form
  replace hR := hR.mono (A' := fun k => k < w.heap.size) fun k hk _ => hk
  have hW := hWw
  have hFF := hFw
  have hE : Ext w w := Keep.refl _ _
  refine rt_body Try.func92 rfl Try.ntmps92 rfl ?_
  refine wc_seq ?_
  refine wc_region ?_
  refine wl_val hW rfl rfl (x_assign rfl) ?_
  refine wl_val hW rfl rfl (x_assign rfl) ?_
  refine wl_nil ?_
  refine nx_then ?_
  refine wc_seq ?_
  obtain ⟨b0, o0, cap0, e0, hA0, hC7⟩ := (hR.ext hE).at 0 h0
  cases e0
  refine wc_draw' 9 hW mixed (by kernel_rfl) (fun w0 hx0 => ?_)
  replace hE := hE.trans hx0
  replace hC7 := hC7.ext hx0
  refine q_val rfl rfl (fun _ hx => x_move rfl) ?_
  refine q_val rfl rfl (fun _ hx => x_indexAddr Try.underlying80 ag87.siz rfl rfl (by omega) (by omega)) ?_
  refine q_val rfl rfl (fun _ hx => x_fieldAddr Try.underlying87 rfl fl9.siz rfl) ?_
  refine q_val rfl rfl (fun _ hx => x_load fl9 rfl (hx.cell (hC7 2 _ rfl))) ?_
  refine q_val rfl rfl (fun _ hx => x_move rfl) ?_
  refine q_val rfl rfl (fun _ hx => x_indexAddr Try.underlying80 ag87.siz rfl rfl (by omega) (by omega)) ?_
  refine q_val rfl rfl (fun _ hx => x_fieldAddr Try.underlying87 rfl fl9.siz rfl) ?_
  refine q_val rfl rfl (fun _ hx => x_load fl9 rfl (hx.cell (hC7 3 _ rfl))) ?_
  refine q_val rfl rfl (fun _ hx => x_assign rfl) ?_
  refine q_nil (tail0 (fun wt hxt => ?_))
  replace hE := hE.trans hxt
  refine wl_val hW rfl rfl (x_assign rfl) ?_
  refine wl_nil ?_
  refine nx_then ?_
  refine wc_seq ?_
  refine wc_seq ?_
  refine wc_region ?_
  refine wl_val hW rfl rfl (x_move rfl) ?_
  refine wl_val hW rfl rfl (x_len Try.underlying80 rfl) ?_
  refine wl_val hW rfl rfl (x_move rfl) ?_
  refine wl_nil ?_
  refine nx_then ?_
  refine wc_block ?_
  refine wc_loop (σ := Nat) (fun s => [(2, .string (stretchL ts[0].a ts[0].z (ts.take s)).1), (3, .string (stretchL ts[0].a ts[0].z (ts.take s)).2), (14, .slice (some ⟨b0, o0, none⟩) ts.length cap), (15, .int .i64 (ts.length : Nat)), (16, .int .i64 (s : Nat))]) (fun s w' => s ≤ ts.length ∧ Ext w w') (fun s => ts.length - s) 0 ?_ ?_ ?_
  · exact ⟨Nat.zero_le _, hE⟩
  · repeat (first | exact sub_nil | refine sub_cons rfl ?_)
  · rintro s wr ⟨hs, hE⟩
    refine wc_seq ?_
    refine wc_region ?_
    refine wl_val hW rfl rfl (x_lss rfl rfl) ?_
    refine wl_nil ?_
    refine nx_then ?_
    refine wc_seq ?_
    refine wc_dec rfl (fun hc => ?_) (fun hc => ?_)
    · refine wc_skip ?_
      refine nx_then ?_
      refine wc_seq ?_
      refine wc_block ?_
      refine wc_seq ?_
      have hlt : s < ts.length := by omega
      obtain ⟨b, o, cap', e1, hA, hC18⟩ := (hR.ext hE).at s hlt
      cases e1
      refine wc_region ?_
      refine wl_val hW rfl rfl (x_indexAddr Try.underlying80 ag87.siz rfl rfl (by omega) (by omega)) ?_
      refine wl_val hW rfl rfl (x_loadA ag87 rfl hC18 rfl) ?_
      refine wl_alloc (cs := [.int .i64 0, .int .i64 0, .string ⟨#[]⟩, .string ⟨#[]⟩, .int .i64 0]) hW rfl rfl Try.zeroValue87 rfl ?_
      intro b5 w5 hl5 hB5 hx5
      have g5 : w.heap.size ≤ b5 := Nat.le_trans hE.size hl5
      replace hE := hE.trans hx5
      refine wl_storeA hW rfl ag87 rfl rfl (cellsT_one _) rfl hB5 rfl ?_
      intro wS hBS hkS
      replace hB5 := hBS
      clear hBS
      replace hE := hE.store hkS g5
      refine wl_nil ?_
      refine nx_then ?_
      refine wc_draw' 9 hW mixed (by kernel_rfl) (fun w0 hx0 => ?_)
      replace hB5 := hB5.ext hx0
      replace hE := hE.trans hx0
      refine q_val rfl rfl (fun _ hx => x_move rfl) ?_
      refine q_val rfl rfl (fun _ hx => x_fieldAddr Try.underlying87 rfl fl9.siz rfl) ?_
      refine q_val rfl rfl (fun _ hx => x_load fl9 rfl (hx.cell (hB5.cell (o := 2) rfl))) ?_
      refine q_val rfl rfl (fun _ hx => x_smin rfl rfl) ?_
      refine q_val rfl rfl (fun _ hx => x_move rfl) ?_
      refine q_val rfl rfl (fun _ hx => x_fieldAddr Try.underlying87 rfl fl9.siz rfl) ?_
      refine q_val rfl rfl (fun _ hx => x_load fl9 rfl (hx.cell (hB5.cell (o := 3) rfl))) ?_
      refine q_val rfl rfl (fun _ hx => x_smax rfl rfl) ?_
      refine q_val rfl rfl (fun _ hx => x_assign rfl) ?_
      refine q_nil (tail0 (fun wt hxt => ?_))
      replace hB5 := hB5.ext hxt
      replace hE := hE.trans hxt
      refine wl_val hW rfl rfl (x_assign rfl) ?_
      refine wl_nil ?_
      refine nx_block ?_
      refine nx_then ?_
      refine wc_region ?_
      refine wl_val hW rfl rfl (x_inc (s := s) rfl (by omega)) ?_
      refine wl_val hW rfl rfl (x_move rfl) ?_
      refine wl_nil ?_
      exact nx_next (s + 1) (by omega) ⟨hlt, hE⟩ (by dsimp only; rw [stretchL_take hlt]; repeat (first | exact sub_nil | refine sub_cons rfl ?_))
    · refine wc_exit ?_
      refine nx_then_exit ?_
      refine nx_then_exit ?_
      refine nx_block_exit ?_
      refine nx_then ?_
      refine wc_seq ?_
      have hsl : s = ts.length := by omega
      refine wc_region ?_
      refine wl_val hW rfl rfl (x_move rfl) ?_
      refine wl_val hW rfl rfl (x_move rfl) ?_
      refine wl_val hW rfl rfl (x_assign rfl) ?_
      refine wl_val hW rfl rfl (x_assign rfl) ?_
      refine wl_nil ?_
      refine nx_then ?_
      refine wc_ret ?_
      exact ends_ret (res_tmp2 Try.results92 rfl rfl) ⟨by rw [hsl, List.take_length], hE⟩
theorem C93 {A : Nat → Prop} {w : World} {ad : Option Addr} {n c : Nat} {ts : List Tb} (hR : TRow A w (.slice ad n c) ts) : Rt Try.prog 93 [.slice ad n c] w fun r w' => r = .slice (if n = 0 then ad else ad.map (·.add (0 * 5))) (n - 0) (n - 0) ∧ Ext w w' := by
  obtain ⟨ad', cap, e, hcap, hlen⟩ := hR.form
  cases e
  have hW := hWw
  have hFF := hFw
  have hE : Ext w w := Keep.refl _ _
  refine rt_body Try.func93 rfl Try.ntmps93 rfl ?_
  refine wc_seq ?_
  refine wc_region ?_
  refine wl_val hW rfl rfl (x_assign rfl) ?_
  refine wl_nil ?_
  refine nx_then ?_
  refine wc_seq ?_
  refine wc_region ?_
  refine wl_val hW rfl rfl (x_move rfl) ?_
  refine wl_val hW rfl rfl (x_move rfl) ?_
  refine wl_val hW rfl rfl (x_len Try.underlying80 rfl) ?_
  refine wl_val hW rfl rfl (x_move rfl) ?_
  refine wl_val hW rfl rfl (x_len Try.underlying80 rfl) ?_
  refine wl_val hW rfl rfl (x_slice (q1 := .i64) (q2 := .i64) (q3 := .i64) (l := 0) (h' := ts.length) (m' := ts.length) Try.underlying80 ag87.siz rfl (fun a h => rfl) (fun a h => by simp only [Option.map_some]; rw [h.ev rfl]) (fun a h => by simp only [Option.map_some]; rw [h.ev rfl]) (sbhm hcap)) ?_
  refine wl_val hW rfl rfl (x_assign rfl) ?_
  refine wl_nil ?_
  refine nx_then ?_
  refine wc_ret ?_
  exact ends_ret (res_tmp Try.results93 rfl) ⟨rfl, hE⟩
theorem C98 {w : World} {t : Tb} {b7 b6 : Nat} {first last : ByteArray} (h7 : Blk w b7 [.string last] 9) (h6 : Blk w b6 [.string first] 9) : Rt Try.prog 98 [.agg (cellsT t).toArray, .pointer (some ⟨b7, 0, none⟩), .pointer (some ⟨b6, 0, none⟩)] w fun r w' => r = .bool (offB first last t) ∧ Ext w w' := by
  have hW := hWw
  have hFF := hFw
  have hE : Ext w w := Keep.refl _ _
  refine rt_body Try.func98 rfl Try.ntmps98 rfl ?_
  refine wc_seq ?_
  refine wc_region ?_
  refine wl_box hW rfl rfl rfl rfl ?_
  intro b3 w3 hl3 hB3 hx3
  have g3 : w.heap.size ≤ b3 := Nat.le_trans hE.size hl3
  replace hE := hE.trans hx3
  refine wl_val hW rfl rfl (x_assign rfl) ?_
  refine wl_nil ?_
  refine nx_then ?_
  refine wc_seq ?_
  refine wc_cut [(4, .bool (offB first last t))] (fun w' => w' = w3) ?_ ?_
  · refine wc_region ?_
    refine wl_val hW rfl rfl (x_fieldAddr Try.underlying87 rfl fl9.siz rfl) ?_
    refine wl_val hW rfl rfl (x_load fl9 rfl (hB3.cell (o := 2) rfl)) ?_
    refine wl_val hW rfl rfl (x_load fl9 rfl ((h7.ext hE).cell rfl)) ?_
    refine wl_val hW rfl rfl (x_sgt rfl rfl) ?_
    refine wl_val hW rfl rfl (x_move rfl) ?_
    refine wl_bcases (d := 9) rfl (fun hg9 => ?_) (fun hg9 => ?_)
    · refine wl_off hW rfl rfl ?_
      refine wl_off hW rfl rfl ?_
      refine wl_off hW rfl rfl ?_
      refine wl_off hW rfl rfl ?_
      refine wl_val hW rfl rfl (x_pickT rfl rfl) ?_
      refine wl_val hW rfl rfl (x_assign rfl) ?_
      refine wl_nil ?_
      exact nx_cut (by unfold offB; rw [hg9, Bool.true_or]; repeat (first | exact sub_nil | refine sub_cons rfl ?_)) rfl
    · refine wl_val hW rfl rfl (x_fieldAddr Try.underlying87 rfl fl9.siz rfl) ?_
      refine wl_val hW rfl rfl (x_load fl9 rfl (hB3.cell (o := 3) rfl)) ?_
      refine wl_val hW rfl rfl (x_load fl9 rfl ((h6.ext hE).cell rfl)) ?_
      refine wl_val hW rfl rfl (x_slss rfl rfl) ?_
      refine wl_val hW rfl rfl (x_pickF rfl rfl) ?_
      refine wl_val hW rfl rfl (x_assign rfl) ?_
      refine wl_nil ?_
      exact nx_cut (by unfold offB; rw [hg9, Bool.false_or]; repeat (first | exact sub_nil | refine sub_cons rfl ?_)) rfl
  · rintro w' rfl
    refine nx_then ?_
    refine wc_ret ?_
    exact ends_ret (res_tmp Try.results98 rfl) ⟨rfl, hE⟩
theorem C99 {A : Nat → Prop} {w : World} {v : Value} {ts : List Tb} {b7 b6 : Nat} {first last : ByteArray} (hR : TRow A w v ts) (h7 : Blk w b7 [.string last] 9) (h6 : Blk w b6 [.string first] 9) :
    Rt Try.prog 99 [v, .func (.func 98) #[] #[.pointer (some ⟨b7, 0, none⟩), .pointer (some ⟨b6, 0, none⟩)]] w fun r w' => ((r = .int .i64 (-1) ∧ ∀ t ∈ ts, offB first last t = false) ∨ ∃ i : Nat, ∃ h : i < ts.length, r = .int .i64 i ∧ offB first last ts[i] = true ∧ ∀ (j : Nat) (h : j < ts.length), j < i → offB first last ts[j] = false) ∧ Ext w w' := by
  obtain ⟨ad, cap, rfl, hcap, hlen⟩ := hR.form
  replace hR := hR.mono (A' := fun k => k < w.heap.size) fun k hk _ => hk
  have hW := hWw
  have hFF := hFw
  have hE : Ext w w := Keep.refl _ _
  refine rt_body Try.func99 rfl Try.ntmps99 rfl ?_
  refine wc_seq ?_
  refine wc_region ?_
  refine wl_val hW rfl rfl (x_assign rfl) ?_
  refine wl_nil ?_
  refine nx_then ?_
  refine wc_seq ?_
  refine wc_seq ?_
  refine wc_region ?_
  refine wl_val hW rfl rfl (x_move rfl) ?_
  refine wl_val hW rfl rfl (x_len Try.underlying80 rfl) ?_
  refine wl_val hW rfl rfl (x_move rfl) ?_
  refine wl_nil ?_
  refine nx_then ?_
  refine wc_block ?_
  refine wc_loop (σ := Nat) (fun s => [(0, .slice ad ts.length cap), (1, .func (.func 98) #[] #[.pointer (some ⟨b7, 0, none⟩), .pointer (some ⟨b6, 0, none⟩)]), (7, .int .i64 (ts.length : Nat)), (8, .int .i64 (s : Nat))]) (fun s w' => (s ≤ ts.length ∧ ∀ (j : Nat) (h : j < ts.length), j < s → offB first last ts[j] = false) ∧ Ext w w') (fun s => ts.length - s) 0 ?_ ?_ ?_
  · exact ⟨⟨Nat.zero_le _, fun j _ h => absurd h (Nat.not_lt_zero _)⟩, hE⟩
  · repeat (first | exact sub_nil | refine sub_cons rfl ?_)
  · rintro s wr ⟨⟨hs, hno⟩, hE⟩
    refine wc_seq ?_
    refine wc_region ?_
    refine wl_val hW rfl rfl (x_lss rfl rfl) ?_
    refine wl_nil ?_
    refine nx_then ?_
    refine wc_seq ?_
    refine wc_dec rfl (fun hc => ?_) (fun hc => ?_)
    · refine wc_skip ?_
      refine nx_then ?_
      refine wc_seq ?_
      refine wc_block ?_
      refine wc_seq ?_
      refine wc_region ?_
      refine wl_val hW rfl rfl (x_move rfl) ?_
      refine wl_val hW rfl rfl (x_assign rfl) ?_
      refine wl_nil ?_
      refine nx_then ?_
      refine wc_seq ?_
      refine wc_region ?_
      have hlt : s < ts.length := by omega
      obtain ⟨b, o, cap', e1, hA, hC14⟩ := (hR.ext hE).at s hlt
      cases e1
      refine wl_val hW rfl rfl (x_move rfl) ?_
      refine wl_val hW rfl rfl (x_move rfl) ?_
      refine wl_val hW rfl rfl (x_move rfl) ?_
      refine wl_val hW rfl rfl (x_indexAddr Try.underlying80 ag87.siz rfl rfl (by omega) (by omega)) ?_
      refine wl_val hW rfl rfl (x_loadA ag87 rfl hC14 rfl) ?_
      refine wl_call hW rfl rfl (x_callv (cap := [.pointer (some ⟨b7, 0, none⟩), .pointer (some ⟨b6, 0, none⟩)]) en98 rfl rfl) ((C98 (h7.ext hE) (h6.ext hE)).inF hFF) ?_
      rintro _ wC ⟨rfl, hxC⟩
      replace hE := hE.trans hxC
      refine wl_nil ?_
      refine nx_then ?_
      refine wc_bool rfl (fun hc => ?_) (fun hc => ?_)
      · refine wc_seq ?_
        refine wc_region ?_
        refine wl_val hW rfl rfl (x_move rfl) ?_
        refine wl_val hW rfl rfl (x_assign rfl) ?_
        refine wl_nil ?_
        refine nx_then ?_
        refine wc_ret ?_
        refine nx_block_ret ?_
        refine nx_then_ret ?_
        refine nx_then_ret ?_
        refine nx_block_ret ?_
        refine nx_then_ret ?_
        exact ends_ret (res_tmp Try.results99 rfl) ⟨.inr ⟨s, hlt, rfl, hc, hno⟩, hE⟩
      · refine wc_skip ?_
        refine nx_block ?_
        refine nx_then ?_
        refine wc_region ?_
        refine wl_val hW rfl rfl (x_inc (s := s) rfl (by omega)) ?_
        refine wl_val hW rfl rfl (x_move rfl) ?_
        refine wl_nil ?_
        exact nx_next (s + 1) (by omega) ⟨⟨hlt, fun j h hj => by rcases Nat.lt_succ_iff_lt_or_eq.1 hj with hj | rfl; exact hno j h hj; exact hc⟩, hE⟩ (by repeat (first | exact sub_nil | refine sub_cons rfl ?_))
    · refine wc_exit ?_
      refine nx_then_exit ?_
      refine nx_then_exit ?_
      refine nx_block_exit ?_
      refine nx_then ?_
      refine wc_seq ?_
      refine wc_region ?_
      refine wl_val hW rfl rfl (x_assign rfl) ?_
      refine wl_nil ?_
      refine nx_then ?_
      refine wc_ret ?_
      exact ends_ret (res_tmp Try.results99 rfl) ⟨.inl ⟨rfl, fun t ht => by obtain ⟨j, hj, rfl⟩ := List.getElem_of_mem ht; exact hno j hj (by omega)⟩, hE⟩
end Go.Proofs.Ytblbddamebbgaaa.K


/- Walks: DeleteFunc, Over. -/
namespace Go.Proofs.Ytblbddamebbgaaa.K
open Go Go.RowKit
set_option linter.unusedVariables false
set_option linter.unusedSimpArgs false

theorem C97 {base : Nat} {w : World} {v : Value} {ts : List Tb} {p7 p6 : Nat} {first last : ByteArray} (hO : TOwn base w v ts) (hl : ts.length ≤ 1099511627776) (h7 : Blk w p7 [.string last] 9) (h6 : Blk w p6 [.string first] 9) :
    Rt Try.prog 97 [v, .func (.func 98) #[] #[.pointer (some ⟨p7, 0, none⟩), .pointer (some ⟨p6, 0, none⟩)]] w fun r w' => TRow (fun k => base ≤ k) w' r (ts.filter fun t => !offB first last t) ∧ Keep (fun k => some k ≠ v.ownBlock) w w' := by
  obtain ⟨ad, c, rfl, hcap⟩ := hO.form
  have n7 : ∀ b, (Value.slice ad ts.length c).ownBlock = some b → b ≠ p7 := fun b hb => hO.ne hb h7 (by decide)
  have n6 : ∀ b, (Value.slice ad ts.length c).ownBlock = some b → b ≠ p6 := fun b hb => hO.ne hb h6 (by decide)
  have hW := hWw
  have hFF := hFw
  have hE : Ext w w := Keep.refl _ _
  refine rt_body Try.func97 rfl Try.ntmps97 rfl ?_
  refine wc_seq ?_
  refine wc_region ?_
  refine wl_val hW rfl rfl (x_assign rfl) ?_
  refine wl_nil ?_
  refine nx_then ?_
  refine wc_seq ?_
  refine wc_region ?_
  refine wl_val hW rfl rfl (x_move rfl) ?_
  refine wl_val hW rfl rfl (x_move rfl) ?_
  refine wl_call hW rfl rfl (x_call en99 rfl) ((C99 (hO.row hl) h7 h6).inF hFF) ?_
  rintro r0 wC ⟨hr, hxC⟩
  replace hE := hE.trans hxC
  obtain ⟨iv, rfl, hcase⟩ : ∃ iv : Int, r0 = .int .i64 iv ∧ ((iv = -1 ∧ ∀ t ∈ ts, offB first last t = false) ∨ ∃ i : Nat, ∃ h : i < ts.length, iv = i ∧ offB first last ts[i] = true ∧ ∀ (j : Nat) (h : j < ts.length), j < i → offB first last ts[j] = false) := by
    rcases hr with ⟨rfl, h⟩ | ⟨i, hi, rfl, h1, h2⟩
    · exact ⟨_, rfl, .inl ⟨rfl, h⟩⟩
    · exact ⟨_, rfl, .inr ⟨i, hi, rfl, h1, h2⟩⟩
  replace hO := hO.ext hxC
  refine wl_val hW rfl rfl (x_assign rfl) ?_
  refine wl_nil ?_
  refine nx_then ?_
  refine wc_seq ?_
  refine wc_seq ?_
  refine wc_region ?_
  refine wl_val hW rfl rfl (x_move rfl) ?_
  refine wl_val hW rfl rfl (x_eql rfl rfl) ?_
  refine wl_nil ?_
  refine nx_then ?_
  refine wc_dec rfl (fun hc => ?_) (fun hc => ?_)
  · refine wc_seq ?_
    refine wc_region ?_
    refine wl_val hW rfl rfl (x_move rfl) ?_
    refine wl_val hW rfl rfl (x_assign rfl) ?_
    refine wl_nil ?_
    refine nx_then ?_
    refine wc_ret ?_
    refine nx_then_ret ?_
    have hall : ∀ t ∈ ts, offB first last t = false := by rcases hcase with ⟨-, h⟩ | ⟨i, hi, h, -⟩; exact h; omega
    exact ends_ret (res_tmp Try.results97 rfl) ⟨by rw [offB_le hall]; exact hO.row hl, Keep.of_ext hE⟩
  · obtain ⟨i, hi, rfl, hp, hno⟩ := hcase.resolve_left fun h => hc h.1
    have hKs := kept_start hi hp hno
    refine wc_skip ?_
    refine nx_then ?_
    refine wc_seq ?_
    refine wc_seq ?_
    refine wc_region ?_
    refine wl_val hW rfl rfl (x_move rfl) ?_
    refine wl_val hW rfl rfl (x_inc (s := i) rfl (by omega)) ?_
    refine wl_val hW rfl rfl (x_assign rfl) ?_
    refine wl_nil ?_
    refine nx_then ?_
    refine wc_block ?_
    refine wc_loop (σ := Nat × Nat) (fun s => [(0, .slice ad ts.length c), (1, .func (.func 98) #[] #[.pointer (some ⟨p7, 0, none⟩), .pointer (some ⟨p6, 0, none⟩)]), (5, .int .i64 (s.1 : Nat)), (6, .int .i64 (s.2 : Nat))]) (fun s w' => (∃ es, Kept (offB first last) ts es s.1 s.2 ∧ s.1 < s.2 ∧ TOwn base w' (.slice ad ts.length c) es) ∧ Keep (fun k => some k ≠ (Value.slice ad ts.length c).ownBlock) w w') (fun s => ts.length - s.2) (i, i + 1) ?_ ?_ ?_
    · exact ⟨⟨ts, hKs, Nat.lt_succ_self _, hO⟩, Keep.of_ext hE⟩
    · repeat (first | exact sub_nil | refine sub_cons rfl ?_)
    · rintro ⟨i, j⟩ wr ⟨⟨es, hK, hij, hO⟩, hE⟩
      replace hK : Kept (offB first last) ts es i j := hK
      replace hij : i < j := hij
      have hjl := hK.le.2
      have hel := hK.len
      refine wc_seq ?_
      refine wc_seq ?_
      refine wc_region ?_
      refine wl_val hW rfl rfl (x_move rfl) ?_
      refine wl_val hW rfl rfl (x_move rfl) ?_
      refine wl_val hW rfl rfl (x_len Try.underlying80 rfl) ?_
      refine wl_val hW rfl rfl (x_lss rfl rfl) ?_
      refine wl_nil ?_
      refine nx_then ?_
      refine wc_dec rfl (fun hc => ?_) (fun hc => ?_)
      · replace hc : ((j : Nat) : Int) < ts.length := hc
        have hlt : j < ts.length := by omega
        have hej := hK.at hlt
        have hje : j < es.length := by omega
        have hev : es[j] = ts[j] := by rw [List.getElem?_eq_getElem hje] at hej; exact Option.some.inj hej
        refine wc_skip ?_
        refine nx_then ?_
        refine wc_seq ?_
        refine wc_block ?_
        refine wc_seq ?_
        refine wc_region ?_
        obtain ⟨b, o, cap', e1, hA, hC24⟩ := (hO.row (by omega)).at j hje
        rw [hev] at hC24
        have e2 : Value.slice ad ts.length c = .slice (some ⟨b, o, none⟩) ts.length cap' := by rw [e1, hel]
        obtain ⟨g, cs0, hg0, -, -, -, -, -, -⟩ := TOwn.front (i := 0) hO (Nat.zero_le _) (by omega) (by omega)
        subst hg0
        have e3 : b = g ∧ o = 0 := by cases e2; exact ⟨rfl, rfl⟩
        obtain ⟨rfl, rfl⟩ := e3
        refine wl_val hW rfl rfl (x_move rfl) ?_
        refine wl_val hW rfl rfl (x_move rfl) ?_
        refine wl_val hW rfl rfl (x_indexAddr Try.underlying80 ag87.siz rfl rfl (by omega) (by omega)) ?_
        refine wl_val hW rfl rfl (x_loadA ag87 rfl hC24 rfl) ?_
        refine wl_alloc (cs := [.int .i64 0, .int .i64 0, .string ⟨#[]⟩, .string ⟨#[]⟩, .int .i64 0]) hW rfl rfl Try.zeroValue87 rfl ?_
        intro b7 w7 hl7 hB7 hx7
        have hx7' := hx7
        refine wl_storeA hW rfl ag87 rfl rfl (cellsT_one _) rfl hB7 rfl ?_
        intro wS hBS hkS
        have hO7 := (hO.ext hx7).keep hkS (fun b' hb' => by have := hO.lt hb'; omega)
        have hEt : Keep (fun k => some k ≠ (Value.slice (some ⟨b, 0, none⟩) ts.length c).ownBlock) w wS := (hE.trans (Keep.of_ext hx7)).then hkS fun k hk _ => by have := hE.size; omega
        replace hB7 := hBS
        clear hBS
        refine wl_nil ?_
        refine nx_then ?_
        refine wc_seq ?_
        refine wc_region ?_
        have h7S := h7.keep hEt (fun e => n7 _ e.symm rfl)
        have h6S := h6.keep hEt (fun e => n6 _ e.symm rfl)
        refine wl_val hW rfl rfl (x_move rfl) ?_
        refine wl_val hW rfl rfl (x_loadA ag87 rfl hB7.cells rfl) ?_
        refine wl_call hW rfl rfl (x_callv (cap := [.pointer (some ⟨p7, 0, none⟩), .pointer (some ⟨p6, 0, none⟩)]) en98 rfl rfl) ((C98 h7S h6S).inF hFF) ?_
        rintro _ wD ⟨rfl, hxD⟩
        replace hB7 := hB7.ext hxD
        replace hO7 := hO7.ext hxD
        replace hEt := hEt.trans (Keep.of_ext hxD)
        refine wl_val hW rfl rfl (x_not rfl) ?_
        refine wl_nil ?_
        refine nx_then ?_
        refine wc_bool rfl (fun hc => ?_) (fun hc => ?_)
        · have hp : offB first last ts[j] = false := by simpa using hc
          refine wc_seq ?_
          refine wc_region ?_
          refine wl_val hW rfl rfl (x_move rfl) ?_
          refine wl_val hW rfl rfl (x_move rfl) ?_
          refine wl_val hW rfl rfl (x_loadA ag87 rfl hB7.cells rfl) ?_
          obtain ⟨g, cs, hg, hnn, hBg, hle, hbg, hset⟩ := gown_set cellsT_len hO7 (i := i) (by omega)
          cases hg
          have e0 : 0 + ((i : Nat) : Int).toNat * 5 = i * 5 := by omega
          refine wl_val hW rfl rfl (x_indexAddr Try.underlying80 ag87.siz rfl rfl (by omega) (by omega)) ?_
          refine wl_storeA hW rfl ag87 rfl rfl (cellsT_one _) rfl hBg (by rw [e0]; exact Nat.ble_eq_true_of_le (by show i * 5 + 5 ≤ _; omega)) ?_
          intro wT hBS hkT
          rw [e0] at hBS
          have hOT := hset wT ts[j] hBS
          have hET := hEt.trans (hkT.mono fun k _ h e => h (by rw [e]; rfl))
          refine wl_nil ?_
          refine nx_then ?_
          refine wc_region ?_
          refine wl_val hW rfl rfl (x_move rfl) ?_
          refine wl_val hW rfl rfl (x_inc (s := i) rfl (by omega)) ?_
          refine wl_val hW rfl rfl (x_assign rfl) ?_
          refine wl_nil ?_
          refine nx_block ?_
          refine nx_then ?_
          refine wc_region ?_
          refine wl_val hW rfl rfl (x_move rfl) ?_
          refine wl_val hW rfl rfl (x_inc (s := j) rfl (by omega)) ?_
          refine wl_val hW rfl rfl (x_assign rfl) ?_
          refine wl_nil ?_
          exact nx_next (i + 1, j + 1) (by dsimp only; omega) ⟨⟨es.set i ts[j], hK.put hlt hp, by dsimp only; omega, by unfold TOwn; rw [List.length_set]; exact hOT⟩, hET⟩ (by repeat (first | exact sub_nil | refine sub_cons rfl ?_))
        · have hp : offB first last ts[j] = true := by simpa using hc
          refine wc_skip ?_
          refine nx_block ?_
          refine nx_then ?_
          refine wc_region ?_
          refine wl_val hW rfl rfl (x_move rfl) ?_
          refine wl_val hW rfl rfl (x_inc (s := j) rfl (by omega)) ?_
          refine wl_val hW rfl rfl (x_assign rfl) ?_
          refine wl_nil ?_
          exact nx_next (i, j + 1) (by dsimp only; omega) ⟨⟨es, hK.skip hlt hp, by dsimp only; omega, hO7⟩, hEt⟩ (by repeat (first | exact sub_nil | refine sub_cons rfl ?_))
      · refine wc_exit ?_
        refine nx_then_exit ?_
        refine nx_then_exit ?_
        refine nx_block_exit ?_
        refine nx_then ?_
        replace hc : ¬ ((j : Nat) : Int) < ts.length := hc
        have hjt : j = ts.length := by omega
        have hpre := hK.pre
        rw [hjt, List.take_length] at hpre
        obtain ⟨g, cs, rfl, hnn, hcc, hBg, hle, hbg, hfr⟩ := TOwn.front (i := i) hO (by omega) (by omega) (by omega)
        refine wc_seq ?_
        refine wc_region ?_
        refine wl_val hW rfl rfl (x_move rfl) ?_
        refine wl_val hW rfl rfl (x_move rfl) ?_
        refine wl_val hW rfl rfl (x_slicel (i := i) Try.underlying80 ag87.siz rfl rfl (by omega)) ?_
        have hadr : (if c = i then some (⟨g, 0, none⟩ : Addr) else (some (⟨g, 0, none⟩ : Addr)).map (·.add (i * 5))) = some ⟨g, if c = i then 0 else i * 5, none⟩ := by split <;> simp [add_mk]
        rw [hadr]
        refine wl_clear (sz := 5) hW rfl Try.underlying80 Try.zeroValue87 rfl (by decide) rfl hBg (by split <;> omega) ?_
        intro w5 new hnew hB5 hk5
        have hrow := hfr w5 _ hB5 (by split; rename_i hci; have : new = [] := List.eq_nil_of_length_eq_zero (by rw [hnew]; omega); subst this; simp; omega; rw [List.append_assoc, List.take_left' (by simp; omega)]) c (by omega)
        have hE5 := hE.trans (hk5.mono fun k _ h e => h (by rw [e]; rfl))
        refine wl_nil ?_
        refine nx_then ?_
        refine wc_seq ?_
        refine wc_region ?_
        refine wl_val hW rfl rfl (x_move rfl) ?_
        refine wl_val hW rfl rfl (x_move rfl) ?_
        refine wl_val hW rfl rfl (x_sliceh (j := i) Try.underlying80 ag87.siz rfl rfl (by omega)) ?_
        have hadr2 : (if c = 0 then some (⟨g, 0, none⟩ : Addr) else (some (⟨g, 0, none⟩ : Addr)).map (·.add (0 * 5))) = some ⟨g, 0, none⟩ := by split <;> simp [add_mk]
        rw [hadr2]
        refine wl_val hW rfl rfl (x_assign rfl) ?_
        refine wl_nil ?_
        refine nx_then ?_
        refine wc_ret ?_
        exact ends_ret (res_tmp Try.results97 rfl) ⟨by rw [← hpre]; exact hrow, hE5⟩
theorem C94 {A : Nat → Prop} {w : World} {tv : Value} {ts : List Tb} {sq nx wl n : Int} {first last : ByteArray} (hR : TRow A w tv ts) : Rt Try.prog 94 [.agg #[tv, .int .u64 sq, .int .i64 nx, .int .i64 wl], .int .i64 n, .string first, .string last] w fun r w' => TRow (fun k => w.heap.size ≤ k) w' r (overL ts n first last) ∧ Ext w w' := by
  obtain ⟨ad, cap, rfl, hcap, hlen⟩ := hR.form
  replace hR := hR.mono (A' := fun k => k < w.heap.size) fun k hk _ => hk
  have hW := hWw
  have hFF := hFw
  have hE : Ext w w := Keep.refl _ _
  refine rt_body Try.func94 rfl Try.ntmps94 rfl ?_
  refine wc_seq ?_
  refine wc_region ?_
  refine wl_box hW rfl rfl rfl rfl ?_
  intro b4 w4 hl4 hB4 hx4
  have g4 : w.heap.size ≤ b4 := Nat.le_trans hE.size hl4
  replace hE := hE.trans hx4
  refine wl_box hW rfl rfl rfl rfl ?_
  intro b6 w6 hl6 hB6 hx6
  have g6 : w.heap.size ≤ b6 := Nat.le_trans hE.size hl6
  have n6_4 : b6 ≠ b4 := Nat.ne_of_gt (Nat.lt_of_lt_of_le hB4.lt hl6)
  replace hB4 := hB4.ext hx6
  replace hE := hE.trans hx6
  refine wl_box hW rfl rfl rfl rfl ?_
  intro b7 w7 hl7 hB7 hx7
  have g7 : w.heap.size ≤ b7 := Nat.le_trans hE.size hl7
  have n7_4 : b7 ≠ b4 := Nat.ne_of_gt (Nat.lt_of_lt_of_le hB4.lt hl7)
  replace hB4 := hB4.ext hx7
  have n7_6 : b7 ≠ b6 := Nat.ne_of_gt (Nat.lt_of_lt_of_le hB6.lt hl7)
  replace hB6 := hB6.ext hx7
  replace hE := hE.trans hx7
  refine wl_val hW rfl rfl (x_assign rfl) ?_
  refine wl_nil ?_
  refine nx_then ?_
  refine wc_seq ?_
  refine wc_region ?_
  refine wl_val hW rfl rfl (x_loadA ag82 rfl hB4.cells rfl) ?_
  refine wl_val hW rfl rfl (x_move rfl) ?_
  refine wl_call hW rfl rfl (x_call en79 rfl) ((C79 (hR.ext hE)).inF hFF) ?_
  rintro rl wC ⟨hOl, hxC⟩
  replace hB4 := hB4.ext hxC
  replace hB6 := hB6.ext hxC
  replace hB7 := hB7.ext hxC
  replace hE := hE.trans hxC
  have hll := levelL_le ts n
  refine wl_val hW rfl rfl (x_makeFunc (xs := [.tmp 7, .tmp 6]) rfl) ?_
  have hsz := hE.size
  refine wl_call hW rfl rfl (x_call en97 rfl) ((C97 hOl (by omega) hB7 hB6).inF hFF) ?_
  rintro rr wD ⟨hRr, hkD⟩
  replace hE := Keep.rowed hE hkD (fun b hb => by have := hOl.ge hb; have := hx7.size; have := hx6.size; have := hx4.size; omega)
  refine wl_val hW rfl rfl (x_assign rfl) ?_
  refine wl_nil ?_
  refine nx_then ?_
  refine wc_ret ?_
  exact ends_ret (res_tmp Try.results94 rfl) ⟨hRr.mono fun k _ hk => by have := hx7.size; have := hx6.size; have := hx4.size; omega, hE⟩
end Go.Proofs.Ytblbddamebbgaaa.K

