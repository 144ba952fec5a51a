/- The plain law of merging: what is merged is sorted, and of the same the first list's. -/
import Derived.Test.YtblbddamebbgaaaKw
namespace Go.Proofs.Ytblbddamebbgaaa.K
open Go Go.RowKit
set_option linter.unusedVariables false
set_option linter.unusedSectionVars false
set_option linter.unusedSimpArgs false

theorem ltE_not_same {a b : Ent} (h : ltE a b) : ¬ sameE a b := by
  rintro ⟨h1, h2⟩
  rcases h with h | ⟨-, h⟩
  · rw [h1, bl_irrefl] at h; cases h
  · omega
theorem same_symm {a b : Ent} (h : sameE a b) : sameE b a := ⟨h.1.symm, h.2.symm⟩
theorem same_trans {a b c : Ent} (h : sameE a b) (h' : sameE b c) : sameE a c := ⟨h.1.trans h'.1, h.2.trans h'.2⟩
theorem ltE_same {a b c : Ent} (h : ltE a b) (h' : sameE b c) : ltE a c := by
  rcases h with h | ⟨h1, h2⟩
  · exact .inl (by rw [← h'.1]; exact h)
  · exact .inr ⟨h1.trans h'.1, by rw [← h'.2]; exact h2⟩
theorem same_ltE {a b c : Ent} (h : sameE a b) (h' : ltE b c) : ltE a c := by
  rcases h' with h' | ⟨h1, h2⟩
  · exact .inl (by rw [h.1]; exact h')
  · exact .inr ⟨h.1.trans h1, by rw [h.2]; exact h2⟩
theorem ltE_asymm {a b : Ent} (h : ltE a b) : ¬ ltE b a := fun h' => ltE_irrefl a (ltE_trans h h')
/-- A sorted list is known by its members. -/
theorem sorted_ext : ∀ (a b : List Ent), Sorted a → Sorted b → (∀ x, x ∈ a ↔ x ∈ b) → a = b
  | [], [], _, _, _ => rfl
  | [], y :: b, _, _, h => by have := (h y).2 (by simp); simp at this
  | x :: a, [], _, _, h => by have := (h x).1 (by simp); simp at this
  | x :: a, y :: b, ha, hb, h => by
    obtain ⟨ha1, ha2⟩ := List.pairwise_cons.1 ha
    obtain ⟨hb1, hb2⟩ := List.pairwise_cons.1 hb
    have hxy : x = y := by
      have h1 := (h x).1 (by simp)
      have h2 := (h y).2 (by simp)
      rcases List.mem_cons.1 h1 with h1 | h1
      · exact h1
      · rcases List.mem_cons.1 h2 with h2 | h2
        · exact h2.symm
        · exact absurd (hb1 x h1) (ltE_asymm (ha1 y h2))
    subst hxy
    congr 1
    refine sorted_ext a b ha2 hb2 fun z => ⟨fun hz => ?_, fun hz => ?_⟩
    · rcases List.mem_cons.1 ((h z).1 (List.mem_cons_of_mem _ hz)) with rfl | h'
      · exact absurd (ha1 z hz) (ltE_irrefl z)
      · exact h'
    · rcases List.mem_cons.1 ((h z).2 (List.mem_cons_of_mem _ hz)) with rfl | h'
      · exact absurd (hb1 z hz) (ltE_irrefl z)
      · exact h'
/-- x comes up in a list, and none before holds the same. -/
def Pri (ls : List (List Ent)) (x : Ent) : Prop := ∃ (i : Nat) (l : List Ent), ls[i]? = some l ∧ x ∈ l ∧ ∀ (j : Nat) (l' : List Ent), j < i → ls[j]? = some l' → ∀ y ∈ l', ¬ sameE y x
/-- The first list of those whose head is least: number bi, head e. -/
def FirstMin (ls : List (List Ent)) (bi : Nat) (e : Ent) : Prop := (∃ t, ls[bi]? = some (e :: t)) ∧ ∀ (j : Nat) (x : Ent) (t : List Ent), ls[j]? = some (x :: t) → ¬ ltE x e ∧ (j < bi → ¬ sameE x e)
def dropS (e : Ent) (l : List Ent) : List Ent := l.dropWhile fun x => decide (cmpE x e = 0)
inductive MRel : List (List Ent) → List Ent → Prop
  | done (ls : List (List Ent)) (h : ∀ l ∈ ls, l = []) : MRel ls []
  | step (ls : List (List Ent)) (bi : Nat) (e : Ent) (M : List Ent) (h : FirstMin ls bi e) (h' : MRel (ls.map (dropS e)) M) : MRel ls (e :: M)
theorem dropS_nil (e : Ent) : dropS e [] = [] := rfl
theorem dropS_same {e x : Ent} {t : List Ent} (h : sameE x e) : dropS e (x :: t) = dropS e t := by simp [dropS, cmpE_zero.2 h]
theorem dropS_diff {e x : Ent} {t : List Ent} (h : ¬ sameE x e) : dropS e (x :: t) = x :: t := by
  have : ¬ cmpE x e = 0 := fun h' => h (cmpE_zero.1 h')
  simp [dropS, this]
/-- In a sorted list whose head isn't less than e: what is left is what is more than e. -/
theorem dropS_sorted {e : Ent} {l : List Ent} (hs : Sorted l) (hm : ∀ x t, l = x :: t → ¬ ltE x e) : Sorted (dropS e l) ∧ (∀ x, x ∈ dropS e l ↔ x ∈ l ∧ ltE e x) ∧ (∀ x ∈ l, sameE x e → ∃ t, l = x :: t) := by
  cases l with
  | nil => exact ⟨by rw [dropS_nil]; exact List.Pairwise.nil, by simp [dropS_nil], by simp⟩
  | cons y t =>
    obtain ⟨h1, h2⟩ := List.pairwise_cons.1 hs
    have hy := hm y t rfl
    by_cases hsm : sameE y e
    · have hgt : ∀ x ∈ t, ltE e x := fun x hx => same_ltE (same_symm hsm) (h1 x hx)
      have hd : dropS e (y :: t) = t := by
        rw [dropS_same hsm]
        cases t with
        | nil => rfl
        | cons z t => exact dropS_diff fun h => ltE_not_same (hgt z (by simp)) (same_symm h)
      rw [hd]
      refine ⟨h2, fun x => ⟨fun hx => ⟨by simp [hx], hgt x hx⟩, fun ⟨hx, hlt⟩ => ?_⟩, fun x hx hxe => ?_⟩
      · rcases List.mem_cons.1 hx with rfl | hx
        · exact absurd (same_symm hsm) (ltE_not_same hlt)
        · exact hx
      · rcases List.mem_cons.1 hx with rfl | hx
        · exact ⟨t, rfl⟩
        · exact absurd (same_symm hxe) (ltE_not_same (hgt x hx))
    · have hgt : ltE e y := by
        rcases ltE_total y e with h | h | h
        · exact absurd h hy
        · exact absurd h hsm
        · exact h
      rw [dropS_diff hsm]
      have hall : ∀ x ∈ y :: t, ltE e x := fun x hx => by
        rcases List.mem_cons.1 hx with rfl | hx
        · exact hgt
        · exact ltE_trans hgt (h1 x hx)
      exact ⟨hs, fun x => ⟨fun hx => ⟨hx, hall x hx⟩, fun h => h.1⟩, fun x hx hxe => absurd (same_symm hxe) (ltE_not_same (hall x hx))⟩
theorem mrel_law {ls : List (List Ent)} {M : List Ent} (h : MRel ls M) : (∀ l ∈ ls, Sorted l) → Sorted M ∧ ∀ x, x ∈ M ↔ Pri ls x := by
  induction h with
  | done ls h =>
    intro _
    refine ⟨List.Pairwise.nil, fun x => ⟨fun hx => by simp at hx, fun ⟨i, l, hl, hx, _⟩ => ?_⟩⟩
    rw [h l (List.mem_of_getElem? hl)] at hx
    simp at hx
  | step ls bi e M hf hr ih =>
    intro hs
    obtain ⟨⟨tb, hb⟩, hmin⟩ := hf
    have hd : ∀ (i : Nat) (l : List Ent), ls[i]? = some l → Sorted (dropS e l) ∧ (∀ x, x ∈ dropS e l ↔ x ∈ l ∧ ltE e x) ∧ (∀ x ∈ l, sameE x e → ∃ t, l = x :: t) := fun i l hl =>
      dropS_sorted (hs l (List.mem_of_getElem? hl)) fun x t e' => (hmin i x t (by rw [hl, e'])).1
    obtain ⟨i1, i2⟩ := ih (fun l hl => by
      obtain ⟨l0, hl0, rfl⟩ := List.mem_map.1 hl
      obtain ⟨i, hi⟩ := List.getElem?_of_mem hl0
      exact (hd i l0 hi).1)
    have hgt : ∀ x, x ∈ M → ltE e x := fun x hx => by
      obtain ⟨i, l, hl, hxl, -⟩ := (i2 x).1 hx
      rw [List.getElem?_map] at hl
      cases hli : ls[i]? with
      | none => rw [hli] at hl; simp at hl
      | some l0 =>
        rw [hli] at hl
        simp at hl
        subst hl
        exact (((hd i l0 hli).2.1 x).1 hxl).2
    have hpe : Pri ls e := ⟨bi, _, hb, by simp, fun j l' hj hl' y hy hye => by
      obtain ⟨t, ht⟩ := (hd j l' hl').2.2 y hy hye
      exact (hmin j y t (by rw [hl', ht])).2 hj hye⟩
    refine ⟨List.pairwise_cons.2 ⟨hgt, i1⟩, fun x => ⟨fun hx => ?_, fun hx => ?_⟩⟩
    · rcases List.mem_cons.1 hx with rfl | hx
      · exact hpe
      · have hlt := hgt x hx
        obtain ⟨i, l, hl, hxl, hno⟩ := (i2 x).1 hx
        rw [List.getElem?_map] at hl
        cases hli : ls[i]? with
        | none => rw [hli] at hl; simp at hl
        | some l0 =>
          rw [hli] at hl
          simp at hl
          subst hl
          refine ⟨i, l0, hli, (((hd i l0 hli).2.1 x).1 hxl).1, fun j l' hj hl' y hy hyx => ?_⟩
          refine hno j (dropS e l') hj (by rw [List.getElem?_map, hl']; rfl) y (((hd j l' hl').2.1 y).2 ⟨hy, ltE_same hlt (same_symm hyx)⟩) hyx
    · obtain ⟨i, l, hl, hxl, hno⟩ := hx
      by_cases hxe : sameE x e
      · have hij : i = bi := by
          rcases Nat.lt_trichotomy i bi with h | h | h
          · obtain ⟨t, ht⟩ := (hd i l hl).2.2 x hxl hxe
            exact absurd hxe ((hmin i x t (by rw [hl, ht])).2 h)
          · exact h
          · exact absurd (same_symm hxe) (hno bi _ h hb e (by simp))
        subst hij
        rw [hb] at hl
        cases hl
        obtain ⟨t, ht⟩ := (hd i _ hb).2.2 x hxl hxe
        cases ht
        simp
      · refine List.mem_cons_of_mem _ ((i2 x).2 ⟨i, dropS e l, by rw [List.getElem?_map, hl]; rfl, ?_, fun j l' hj hl' y hy hyx => ?_⟩)
        · refine ((hd i l hl).2.1 x).2 ⟨hxl, ?_⟩
          cases hlc : l with
          | nil => rw [hlc] at hxl; simp at hxl
          | cons z t =>
            have hz := (hmin i z t (by rw [hl, hlc])).1
            have hxz : x = z ∨ ltE z x := by
              rw [hlc] at hxl
              rcases List.mem_cons.1 hxl with h | h
              · exact .inl h
              · have := hs l (List.mem_of_getElem? hl)
                rw [hlc] at this
                exact .inr ((List.pairwise_cons.1 this).1 x h)
            rcases ltE_total x e with h | h | h
            · rcases hxz with rfl | hzx
              · exact absurd h hz
              · exact absurd (ltE_trans hzx h) hz
            · exact absurd h hxe
            · exact h
        · rw [List.getElem?_map] at hl'
          cases hlj : ls[j]? with
          | none => rw [hlj] at hl'; simp at hl'
          | some l0 =>
            rw [hlj] at hl'
            simp at hl'
            subst hl'
            exact hno j l0 hj hlj y (((hd j l0 hlj).2.1 y).1 hy).1 hyx

/-! ### the document's: two lists as one, of the same the first one's -/
def twoF : Nat → List Ent → List Ent → List Ent
  | 0, _, _ => []
  | _ + 1, [], [] => []
  | n + 1, [], y :: b => y :: twoF n [] b
  | n + 1, x :: a, [] => x :: twoF n a []
  | n + 1, x :: a, y :: b => if cmpE x y ≤ 0 then x :: twoF n a (if cmpE x y = 0 then b else y :: b) else y :: twoF n (x :: a) b
theorem twoF_nil_left : ∀ (n : Nat) (b : List Ent), b.length ≤ n → twoF n [] b = b
  | 0, [], _ => rfl
  | 0, y :: b, h => by simp at h
  | n + 1, [], _ => rfl
  | n + 1, y :: b, h => by simp only [twoF]; rw [twoF_nil_left n b (by simpa using h)]
theorem twoF_nil_right : ∀ (n : Nat) (a : List Ent), a.length ≤ n → twoF n a [] = a
  | 0, [], _ => rfl
  | 0, y :: b, h => by simp at h
  | n + 1, [], _ => rfl
  | n + 1, y :: b, h => by simp only [twoF]; rw [twoF_nil_right n b (by simpa using h)]
theorem cmpE_le {x y : Ent} : cmpE x y ≤ 0 ↔ ltE x y ∨ sameE x y := by
  rw [← cmpE_neg, ← cmpE_zero]; omega
theorem two_law : ∀ (n : Nat) (a b : List Ent), a.length + b.length ≤ n → Sorted a → Sorted b → Sorted (twoF n a b) ∧ ∀ x, x ∈ twoF n a b ↔ x ∈ a ∨ (x ∈ b ∧ ∀ y ∈ a, ¬ sameE y x)
  | 0, [], [], _, _, _ => by simp [twoF, Sorted]
  | 0, x :: a, _, h, _, _ => by simp at h
  | 0, [], y :: b, h, _, _ => by simp at h
  | n + 1, [], b, h, _, hb => by rw [twoF_nil_left _ _ (by simpa using h)]; exact ⟨hb, by simp⟩
  | n + 1, x :: a, [], h, ha, _ => by rw [twoF_nil_right _ _ (by simpa using h)]; exact ⟨ha, by simp⟩
  | n + 1, x :: a, y :: b, h, ha, hb => by
    obtain ⟨ha1, ha2⟩ := List.pairwise_cons.1 ha
    obtain ⟨hb1, hb2⟩ := List.pairwise_cons.1 hb
    simp only [List.length_cons] at h
    simp only [twoF]
    by_cases hle : cmpE x y ≤ 0
    · rw [if_pos hle]
      by_cases heq : cmpE x y = 0
      · rw [if_pos heq]
        have hxy := cmpE_zero.1 heq
        obtain ⟨i1, i2⟩ := two_law n a b (by omega) ha2 hb2
        refine ⟨List.pairwise_cons.2 ⟨fun z hz => ?_, i1⟩, fun z => ?_⟩
        · rcases (i2 z).1 hz with h' | ⟨h', -⟩
          · exact ha1 z h'
          · exact same_ltE hxy (hb1 z h')
        · rw [List.mem_cons, i2, List.mem_cons]
          constructor
          · rintro (rfl | h' | ⟨h', hn⟩)
            · exact .inl (.inl rfl)
            · exact .inl (.inr h')
            · refine .inr ⟨List.mem_cons_of_mem _ h', fun w hw => ?_⟩
              rcases List.mem_cons.1 hw with rfl | hw
              · exact fun hwz => ltE_not_same (hb1 z h') (same_trans (same_symm hxy) hwz)
              · exact hn w hw
          · rintro ((rfl | h') | ⟨h', hn⟩)
            · exact .inl rfl
            · exact .inr (.inl h')
            · rcases List.mem_cons.1 h' with rfl | h'
              · exact absurd hxy (hn x (by simp))
              · exact .inr (.inr ⟨h', fun w hw => hn w (List.mem_cons_of_mem _ hw)⟩)
      · rw [if_neg heq]
        have hxy : ltE x y := by rcases cmpE_le.1 hle with h' | h'; exact h'; exact absurd (cmpE_zero.2 h') heq
        obtain ⟨i1, i2⟩ := two_law n a (y :: b) (by simp only [List.length_cons]; omega) ha2 hb
        have hgt : ∀ z ∈ y :: b, ltE x z := fun z hz => by
          rcases List.mem_cons.1 hz with rfl | hz
          · exact hxy
          · exact ltE_trans hxy (hb1 z hz)
        refine ⟨List.pairwise_cons.2 ⟨fun z hz => ?_, i1⟩, fun z => ?_⟩
        · rcases (i2 z).1 hz with h' | ⟨h', -⟩
          · exact ha1 z h'
          · exact hgt z h'
        · rw [List.mem_cons, i2, List.mem_cons (a := z) (b := x)]
          constructor
          · rintro (rfl | h' | ⟨h', hn⟩)
            · exact .inl (.inl rfl)
            · exact .inl (.inr h')
            · refine .inr ⟨h', fun w hw => ?_⟩
              rcases List.mem_cons.1 hw with rfl | hw
              · exact ltE_not_same (hgt z h')
              · exact hn w hw
          · rintro ((rfl | h') | ⟨h', hn⟩)
            · exact .inl rfl
            · exact .inr (.inl h')
            · exact .inr (.inr ⟨h', fun w hw => hn w (List.mem_cons_of_mem _ hw)⟩)
    · rw [if_neg hle]
      have hyx : ltE y x := by
        rcases ltE_total x y with h' | h' | h'
        · exact absurd (cmpE_le.2 (.inl h')) hle
        · exact absurd (cmpE_le.2 (.inr h')) hle
        · exact h'
      obtain ⟨i1, i2⟩ := two_law n (x :: a) b (by simp only [List.length_cons]; omega) ha hb2
      have hgt : ∀ z ∈ x :: a, ltE y z := fun z hz => by
        rcases List.mem_cons.1 hz with rfl | hz
        · exact hyx
        · exact ltE_trans hyx (ha1 z hz)
      refine ⟨List.pairwise_cons.2 ⟨fun z hz => ?_, i1⟩, fun z => ?_⟩
      · rcases (i2 z).1 hz with h' | ⟨h', -⟩
        · exact hgt z h'
        · exact hb1 z h'
      · rw [List.mem_cons, i2, List.mem_cons (a := z) (b := y)]
        constructor
        · rintro (rfl | h' | ⟨h', hn⟩)
          · exact .inr ⟨.inl rfl, fun w hw hwz => ltE_not_same (hgt w hw) (same_symm hwz)⟩
          · exact .inl h'
          · exact .inr ⟨.inr h', hn⟩
        · rintro (h' | ⟨rfl | h', hn⟩)
          · exact .inr (.inl h')
          · exact .inl rfl
          · exact .inr (.inr ⟨h', hn⟩)
theorem pri_cons {l : List Ent} {ls : List (List Ent)} {x : Ent} : Pri (l :: ls) x ↔ x ∈ l ∨ ((∀ y ∈ l, ¬ sameE y x) ∧ Pri ls x) := by
  constructor
  · rintro ⟨i, l', hl, hx, hno⟩
    cases i with
    | zero => simp at hl; subst hl; exact .inl hx
    | succ i => exact .inr ⟨hno 0 l (by omega) rfl, i, l', by simpa using hl, hx, fun j l'' hj hl'' => hno (j + 1) l'' (by omega) (by simpa using hl'')⟩
  · rintro (h | ⟨h, i, l', hl, hx, hno⟩)
    · exact ⟨0, l, rfl, h, fun j l' hj => absurd hj (Nat.not_lt_zero _)⟩
    · refine ⟨i + 1, l', by simpa using hl, hx, fun j l'' hj hl'' => ?_⟩
      cases j with
      | zero => simp at hl''; subst hl''; exact h
      | succ j => exact hno j l'' (by omega) (by simpa using hl'')
theorem pri_nil {x : Ent} : ¬ Pri [] x := by rintro ⟨i, l, h, -⟩; simp at h
def foldTwo : List Ent → List (List Ent) → List Ent
  | acc, [] => acc
  | acc, l :: ls => foldTwo (twoF (acc.length + l.length) acc l) ls
theorem fold_law : ∀ (ls : List (List Ent)) (acc : List Ent), Sorted acc → (∀ l ∈ ls, Sorted l) → Sorted (foldTwo acc ls) ∧ ∀ x, x ∈ foldTwo acc ls ↔ Pri (acc :: ls) x
  | [], acc, ha, _ => ⟨ha, fun x => by rw [pri_cons]; simp [foldTwo, pri_nil]⟩
  | l :: ls, acc, ha, h => by
    obtain ⟨t1, t2⟩ := two_law _ acc l (Nat.le_refl _) ha (h l (by simp))
    obtain ⟨i1, i2⟩ := fold_law ls _ t1 fun l' hl' => h l' (by simp [hl'])
    refine ⟨i1, fun x => ?_⟩
    show x ∈ foldTwo _ ls ↔ _
    rw [i2, pri_cons, pri_cons, pri_cons, t2]
    constructor
    · rintro ((h' | ⟨h', hn⟩) | ⟨hn, hp⟩)
      · exact .inl h'
      · exact .inr ⟨hn, .inl h'⟩
      · have h1 : ∀ y ∈ acc, ¬ sameE y x := fun y hy => hn y ((t2 y).2 (.inl hy))
        refine .inr ⟨h1, .inr ⟨fun y hy hyx => ?_, hp⟩⟩
        refine hn y ((t2 y).2 (.inr ⟨hy, fun z hz hzy => h1 z hz (same_trans hzy hyx)⟩)) hyx
    · rintro (h' | ⟨hn, h' | ⟨hn2, hp⟩⟩)
      · exact .inl (.inl h')
      · exact .inl (.inr ⟨h', hn⟩)
      · refine .inr ⟨fun y hy => ?_, hp⟩
        rcases (t2 y).1 hy with h' | ⟨h', -⟩
        · exact hn y h'
        · exact hn2 y h'
theorem merge_is {ls : List (List Ent)} {M : List Ent} (h : MRel ls M) (hs : ∀ l ∈ ls, Sorted l) : M = foldTwo [] ls := by
  obtain ⟨h1, h2⟩ := mrel_law h hs
  obtain ⟨h3, h4⟩ := fold_law ls [] List.Pairwise.nil hs
  refine sorted_ext _ _ h1 h3 fun x => ?_
  rw [h2, h4, pri_cons]
  simp

theorem twoF_len : ∀ (n : Nat) (a b : List Ent), (twoF n a b).length ≤ n
  | 0, _, _ => by simp [twoF]
  | n + 1, [], [] => by simp [twoF]
  | n + 1, [], y :: b => by simp only [twoF, List.length_cons]; have := twoF_len n [] b; omega
  | n + 1, x :: a, [] => by simp only [twoF, List.length_cons]; have := twoF_len n a []; omega
  | n + 1, x :: a, y :: b => by
    simp only [twoF]
    split
    · simp only [List.length_cons]; have := twoF_len n a (if cmpE x y = 0 then b else y :: b); omega
    · simp only [List.length_cons]; have := twoF_len n (x :: a) b; omega
/-- What two compares at places i and k. -/
def twoC (a b : List Ent) (i k : Nat) : Int := if i = a.length then 1 else if k = b.length then -1 else cmpE (a.getD i z0) (b.getD k z0)
theorem twoC_le {a b : List Ent} {i k : Nat} (hi : i ≤ a.length) (h : twoC a b i k ≤ 0) : i < a.length := by
  by_cases e : i = a.length
  · unfold twoC at h; rw [if_pos e] at h; omega
  · omega
theorem twoC_gt {a b : List Ent} {i k : Nat} (hk : k ≤ b.length) (hc : i < a.length ∨ k < b.length) (h : ¬ twoC a b i k ≤ 0) : k < b.length := by
  by_cases e : k = b.length
  · by_cases e2 : i = a.length
    · omega
    · unfold twoC at h; rw [if_neg e2, if_pos e] at h; omega
  · omega
theorem two_less {a b : List Ent} {i k n : Nat} (hi : i < a.length) (hk : k ≤ b.length) (h : twoC a b i k ≤ 0) (h0 : twoC a b i k ≠ 0) : twoF (n + 1) (a.drop i) (b.drop k) = a[i] :: twoF n (a.drop (i + 1)) (b.drop k) := by
  unfold twoC at h h0
  rw [if_neg (by omega)] at h h0
  rw [drop_at hi]
  by_cases e : k = b.length
  · rw [List.drop_eq_nil_of_le (show b.length ≤ k by omega)]; simp only [twoF]
  · have hk' : k < b.length := by omega
    rw [if_neg e, getD_eq hi, getD_eq hk'] at h h0
    rw [drop_at hk']
    simp only [twoF]
    rw [if_pos h, if_neg h0]
theorem two_both {a b : List Ent} {i k n : Nat} (hi : i < a.length) (hk : k ≤ b.length) (h0 : twoC a b i k = 0) : k < b.length ∧ twoF (n + 1) (a.drop i) (b.drop k) = a[i] :: twoF n (a.drop (i + 1)) (b.drop (k + 1)) := by
  unfold twoC at h0
  rw [if_neg (by omega)] at h0
  by_cases e : k = b.length
  · rw [if_pos e] at h0; omega
  · have hk' : k < b.length := by omega
    rw [if_neg e, getD_eq hi, getD_eq hk'] at h0
    rw [drop_at hi, drop_at hk']
    simp only [twoF]
    rw [if_pos (by omega), if_pos h0]
    exact ⟨hk', rfl⟩
theorem two_more {a b : List Ent} {i k n : Nat} (hi : i ≤ a.length) (hk : k < b.length) (h : ¬ twoC a b i k ≤ 0) : twoF (n + 1) (a.drop i) (b.drop k) = b[k] :: twoF n (a.drop i) (b.drop (k + 1)) := by
  unfold twoC at h
  rw [drop_at hk]
  by_cases e : i = a.length
  · rw [List.drop_eq_nil_of_le (show a.length ≤ i by omega)]; simp only [twoF]
  · have hi' : i < a.length := by omega
    rw [if_neg e, if_neg (by omega), getD_eq hi', getD_eq hk] at h
    rw [drop_at hi']
    simp only [twoF]
    rw [if_neg h]
theorem two_end (n : Nat) {a b : List Ent} {i k : Nat} (hi : ¬ i < a.length) (hk : ¬ k < b.length) : twoF n (a.drop i) (b.drop k) = [] := by
  rw [List.drop_eq_nil_of_le (by omega), List.drop_eq_nil_of_le (by omega)]
  cases n <;> rfl

/-! ### what the loops of together hold -/
def tot : List (List Ent) → Nat
  | [] => 0
  | l :: ls => l.length + tot ls
theorem tot_le {ls ms : List (List Ent)} : ∀ (f : List Ent → List Ent), (∀ l, (f l).length ≤ l.length) → tot (ls.map f) ≤ tot ls := fun f hf => by
  induction ls with
  | nil => simp [tot]
  | cons l ls ih => simp only [List.map_cons, tot]; have := hf l; omega
theorem dropS_len (e : Ent) (l : List Ent) : (dropS e l).length ≤ l.length := by
  have := congrArg List.length (List.takeWhile_append_dropWhile (p := fun x : Ent => decide (cmpE x e = 0)) (l := l))
  simp only [List.length_append] at this
  unfold dropS; omega
theorem tot_lt {e : Ent} {t : List Ent} : ∀ {ls : List (List Ent)} {i : Nat}, ls[i]? = some (e :: t) → tot (ls.map (dropS e)) < tot ls
  | [], i, h => by simp at h
  | l :: ls, 0, h => by
    simp at h; subst h
    simp only [List.map_cons, tot]
    rw [dropS_same ⟨rfl, rfl⟩]
    have h1 := dropS_len e t
    have h2 := tot_le (ls := ls) (ms := []) (dropS e) (dropS_len e)
    simp only [List.length_cons]; omega
  | l :: ls, i + 1, h => by
    simp only [List.map_cons, tot]
    have h1 := dropS_len e l
    have h2 := tot_lt (ls := ls) (i := i) (by simpa using h)
    omega
/-- The best of the first s lists: b = -1: none. -/
def BestI (cur : List (List Ent)) (s : Nat) (b : Int) : Prop :=
  (b = -1 ∧ ∀ (j : Nat) (l : List Ent), j < s → cur[j]? = some l → l = []) ∨ ∃ (bi : Nat) (e : Ent) (t : List Ent), b = bi ∧ bi < s ∧ cur[bi]? = some (e :: t) ∧ ∀ (j : Nat) (x : Ent) (t' : List Ent), j < s → cur[j]? = some (x :: t') → ¬ ltE x e ∧ (j < bi → ¬ sameE x e)
/-- Is list s better? -/
def takeB (cur : List (List Ent)) (s : Nat) (b : Int) : Bool := match cur.getD s [] with
  | [] => false
  | x :: _ => decide (b < 0) || (match cur.getD b.toNat [] with
    | [] => false
    | e :: _ => decide (cmpE x e < 0))
theorem getD_l {cur : List (List Ent)} {s : Nat} (h : s < cur.length) : cur.getD s [] = cur[s] := by rw [List.getD_eq_getElem?_getD, List.getElem?_eq_getElem h]; rfl
theorem takeB_nil {cur : List (List Ent)} {s : Nat} {b : Int} (h : s < cur.length) (hn : cur[s] = []) : takeB cur s b = false := by unfold takeB; rw [getD_l h, hn]
theorem takeB_first {cur : List (List Ent)} {s : Nat} {b : Int} (h : s < cur.length) (hn : 0 < cur[s].length) (hb : b < 0) : takeB cur s b = true := by
  unfold takeB; rw [getD_l h]
  cases hc : cur[s] with
  | nil => rw [hc] at hn; simp at hn
  | cons x t => simp [hb]
theorem takeB_cmp {cur : List (List Ent)} {s bi : Nat} {x e : Ent} {t t' : List Ent} (h : s < cur.length) (h2 : bi < cur.length) (hx : cur[s] = x :: t) (he : cur[bi] = e :: t') : takeB cur s (bi : Int) = decide (cmpE x e < 0) := by
  unfold takeB; rw [getD_l h, Int.toNat_natCast, getD_l h2, hx, he]
  have : ¬ ((bi : Int) < 0) := by omega
  simp [this]
theorem takeB_cmp' {cur : List (List Ent)} {s bi : Nat} (h : s < cur.length) (h2 : bi < cur.length) (hn : 0 < cur[s].length) (hn2 : 0 < cur[bi].length) : takeB cur s (bi : Int) = decide (cmpE (cur[s][0]) (cur[bi][0]) < 0) :=
  takeB_cmp (t := cur[s].drop 1) (t' := cur[bi].drop 1) h h2 (by have := List.drop_eq_getElem_cons (l := cur[s]) hn; simpa using this) (by have := List.drop_eq_getElem_cons (l := cur[bi]) hn2; simpa using this)
theorem best_start (cur : List (List Ent)) : BestI cur 0 (-1) := .inl ⟨rfl, fun j l h => absurd h (Nat.not_lt_zero _)⟩
theorem best_still {cur : List (List Ent)} {s : Nat} {b : Int} (hs : s < cur.length) (h : BestI cur s b) (ht : takeB cur s b = false) : BestI cur (s + 1) b := by
  rcases h with ⟨rfl, h⟩ | ⟨bi, e, t, rfl, hb, hc, h⟩
  · refine .inl ⟨rfl, fun j l hj hl => ?_⟩
    rcases Nat.lt_succ_iff_lt_or_eq.1 hj with hj | rfl
    · exact h j l hj hl
    · rw [List.getElem?_eq_getElem hs] at hl
      cases hl
      cases hc : cur[j] with
      | nil => rfl
      | cons x t => rw [takeB_first hs (by rw [hc]; simp) (by omega)] at ht; cases ht
  · refine .inr ⟨bi, e, t, rfl, by omega, hc, fun j x t' hj hl => ?_⟩
    rcases Nat.lt_succ_iff_lt_or_eq.1 hj with hj | rfl
    · exact h j x t' hj hl
    · refine ⟨fun hlt => ?_, fun h' => by omega⟩
      have hbl : bi < cur.length := (List.getElem?_eq_some_iff.1 hc).1
      rw [List.getElem?_eq_getElem hs] at hl
      rw [List.getElem?_eq_getElem hbl] at hc
      have h1 : cur[j] = x :: t' := by simpa using hl
      have h2 : cur[bi] = e :: t := by simpa using hc
      rw [takeB_cmp hs hbl h1 h2] at ht
      exact of_decide_eq_false ht (cmpE_neg.2 hlt)
theorem best_new {cur : List (List Ent)} {s : Nat} {b : Int} (hs : s < cur.length) (h : BestI cur s b) (ht : takeB cur s b = true) : BestI cur (s + 1) (s : Int) := by
  have hne : ∃ x t, cur[s] = x :: t := by
    cases hc : cur[s] with
    | nil => rw [takeB_nil hs hc] at ht; cases ht
    | cons x t => exact ⟨x, t, rfl⟩
  obtain ⟨x, t, hx⟩ := hne
  refine .inr ⟨s, x, t, rfl, by omega, by rw [List.getElem?_eq_getElem hs, hx], fun j y t' hj hl => ?_⟩
  rcases Nat.lt_succ_iff_lt_or_eq.1 hj with hj | rfl
  · rcases h with ⟨rfl, h⟩ | ⟨bi, e, t2, rfl, hb, hc, h⟩
    · have := h j _ hj hl; cases this
    · have hbl : bi < cur.length := (List.getElem?_eq_some_iff.1 hc).1
      rw [List.getElem?_eq_getElem hbl] at hc
      have h2 : cur[bi] = e :: t2 := by simpa using hc
      rw [takeB_cmp hs hbl hx h2] at ht
      have hlt := cmpE_neg.1 (of_decide_eq_true ht)
      obtain ⟨h3, h4⟩ := h j y t' hj hl
      have hxy : ltE x y := by
        rcases ltE_total y e with h' | h' | h'
        · exact absurd h' h3
        · exact ltE_same hlt (same_symm h')
        · exact ltE_trans hlt h'
      exact ⟨ltE_asymm hxy, fun _ h' => ltE_not_same hxy (same_symm h')⟩
  · rw [List.getElem?_eq_getElem hs, hx] at hl
    cases hl
    exact ⟨ltE_irrefl x, fun h => by omega⟩
/-- The lists of which the first s are cut. -/
def cutS (e : Ent) (cur : List (List Ent)) (s : Nat) : List (List Ent) := (cur.take s).map (dropS e) ++ cur.drop s
theorem cutS_len (e : Ent) (cur : List (List Ent)) (s : Nat) : (cutS e cur s).length = cur.length := by simp [cutS]; omega
theorem cutS_zero (e : Ent) (cur : List (List Ent)) : cutS e cur 0 = cur := by simp [cutS]
theorem cutS_all (e : Ent) (cur : List (List Ent)) {s : Nat} (h : cur.length ≤ s) : cutS e cur s = cur.map (dropS e) := by simp [cutS, List.take_of_length_le h, List.drop_eq_nil_of_le h]
theorem cutS_at {e : Ent} {cur : List (List Ent)} {s : Nat} (h : s < cur.length) : (cutS e cur s)[s]'(by rw [cutS_len]; exact h) = cur[s] := by
  unfold cutS
  rw [List.getElem_append_right (by simp; omega)]
  simp [Nat.min_eq_left (Nat.le_of_lt h)]
theorem cutS_succ {e : Ent} {cur : List (List Ent)} {s : Nat} (h : s < cur.length) : (cutS e cur s).set s (dropS e cur[s]) = cutS e cur (s + 1) := by
  unfold cutS
  rw [List.set_append_right _ _ (by simp; omega)]
  have h1 : ((cur.take s).map (dropS e)).length = s := by simp; omega
  rw [h1, Nat.sub_self, List.drop_eq_getElem_cons h, List.set_cons_zero, List.take_add_one, List.getElem?_eq_getElem h]
  simp only [Option.toList, List.map_append, List.map_cons, List.map_nil, List.append_assoc, List.cons_append, List.nil_append]
def sameHd (e : Ent) (l : List Ent) : Bool := match l with
  | [] => false
  | x :: _ => decide (cmpE x e = 0)
theorem sameHd_false {e : Ent} {l : List Ent} (h : sameHd e l = false) : dropS e l = l := by
  cases l with
  | nil => rfl
  | cons x t => exact dropS_diff fun h' => by simp [sameHd, cmpE_zero.2 h'] at h
theorem sameHd_true {e : Ent} {l : List Ent} (h : sameHd e l = true) : ∃ x t, l = x :: t ∧ dropS e l = dropS e t := by
  cases l with
  | nil => simp [sameHd] at h
  | cons x t => exact ⟨x, t, rfl, dropS_same (cmpE_zero.1 (by simpa [sameHd] using h))⟩

/-! ### a whole list of lists -/
theorem foldTwo_drop {ls : List (List Ent)} {s : Nat} (h : s < ls.length) (acc : List Ent) : foldTwo acc (ls.drop s) = foldTwo (twoF (acc.length + ls[s].length) acc ls[s]) (ls.drop (s + 1)) := by
  rw [List.drop_eq_getElem_cons h]; rfl
theorem tot_drop {ls : List (List Ent)} : ∀ {s : Nat} (h : s < ls.length), tot (ls.drop s) = ls[s].length + tot (ls.drop (s + 1)) := fun {s} h => by
  rw [List.drop_eq_getElem_cons h]; rfl
theorem tot_take_drop (ls : List (List Ent)) (s : Nat) : tot (ls.take s) + tot (ls.drop s) = tot ls := by
  induction ls generalizing s with
  | nil => simp [tot]
  | cons l ls ih =>
    cases s with
    | zero => simp [tot]
    | succ s => simp only [List.take_succ_cons, List.drop_succ_cons, tot]; have := ih s; omega
theorem tot_mem {ls : List (List Ent)} {l : List Ent} (h : l ∈ ls) : l.length ≤ tot ls := by
  induction ls with
  | nil => simp at h
  | cons x ls ih =>
    simp only [tot]
    rcases List.mem_cons.1 h with rfl | h
    · omega
    · have := ih h; omega
theorem all_sorted {ls : List (List Ent)} (h : ls.all rightB = true) : ∀ l ∈ ls, Sorted l := fun l hl => (rightB_iff.1 (List.all_eq_true.1 h l hl)).2
theorem all_at {ls : List (List Ent)} {s : Nat} (h : s < ls.length) (hf : rightB ls[s] = false) : ls.all rightB = false := by
  cases ha : ls.all rightB with
  | false => rfl
  | true => rw [List.all_eq_true.1 ha _ (List.getElem_mem h)] at hf; cases hf
theorem all_of {ls : List (List Ent)} (h : ∀ (j : Nat) (hj : j < ls.length), rightB ls[j] = true) : ls.all rightB = true := List.all_eq_true.2 fun l hl => by
  obtain ⟨j, hj, rfl⟩ := List.getElem_of_mem hl
  exact h j hj
theorem foldTwo_len : ∀ (ls : List (List Ent)) (acc : List Ent), (foldTwo acc ls).length ≤ acc.length + tot ls
  | [], acc => by simp [foldTwo, tot]
  | l :: ls, acc => by
    have h1 := foldTwo_len ls (twoF (acc.length + l.length) acc l)
    have h2 := twoF_len (acc.length + l.length) acc l
    simp only [foldTwo, tot]; omega
/-- All merged. -/
def mrg (ls : List (List Ent)) : List Ent := foldTwo [] ls
theorem mrg_mem {ls : List (List Ent)} (hs : ∀ l ∈ ls, Sorted l) {x : Ent} : x ∈ mrg ls ↔ Pri ls x := by
  unfold mrg; rw [(fold_law ls [] List.Pairwise.nil hs).2, pri_cons]; simp
theorem mrg_sorted {ls : List (List Ent)} (hs : ∀ l ∈ ls, Sorted l) : Sorted (mrg ls) := (fold_law ls [] List.Pairwise.nil hs).1
theorem mrg_right {ls : List (List Ent)} (h : ls.all rightB = true) : rightB (mrg ls) = true := by
  have hs := all_sorted h
  refine rightB_iff.2 ⟨fun e he => ?_, mrg_sorted hs⟩
  obtain ⟨i, l, hl, hx, -⟩ := (mrg_mem hs).1 he
  exact (rightB_iff.1 (List.all_eq_true.1 h l (List.mem_of_getElem? hl))).1 e hx
theorem pri_one {l : List Ent} {x : Ent} : Pri [l] x ↔ x ∈ l := by rw [pri_cons]; simp [pri_nil]
theorem pri_two {a b : List Ent} {x : Ent} : Pri [a, b] x ↔ x ∈ a ∨ ((∀ y ∈ a, ¬ sameE y x) ∧ x ∈ b) := by rw [pri_cons, pri_one]
theorem pri_three {a b c : List Ent} {x : Ent} : Pri [a, b, c] x ↔ x ∈ a ∨ ((∀ y ∈ a, ¬ sameE y x) ∧ (x ∈ b ∨ ((∀ y ∈ b, ¬ sameE y x) ∧ x ∈ c))) := by rw [pri_cons, pri_two]
theorem steps_left {a b c : List Ent} (ha : Sorted a) (hb : Sorted b) (hc : Sorted c) : mrg [mrg [a, b], c] = mrg [a, b, c] := by
  have h2 : ∀ l ∈ [a, b], Sorted l := by simp [ha, hb]
  have h3 : ∀ l ∈ [a, b, c], Sorted l := by simp [ha, hb, hc]
  have hm := mrg_sorted h2
  have h4 : ∀ l ∈ [mrg [a, b], c], Sorted l := by simp [hm, hc]
  refine sorted_ext _ _ (mrg_sorted h4) (mrg_sorted h3) fun x => ?_
  rw [mrg_mem h4, mrg_mem h3, pri_two, pri_three, mrg_mem h2, pri_two]
  have hno : (∀ y ∈ mrg [a, b], ¬ sameE y x) ↔ (∀ y ∈ a, ¬ sameE y x) ∧ ∀ y ∈ b, ¬ sameE y x := by
    constructor
    · intro h
      have h1 : ∀ y ∈ a, ¬ sameE y x := fun y hy => h y ((mrg_mem h2).2 (pri_two.2 (.inl hy)))
      refine ⟨h1, fun y hy hyx => h y ((mrg_mem h2).2 (pri_two.2 (.inr ⟨fun z hz hzy => h1 z hz (same_trans hzy hyx), hy⟩))) hyx⟩
    · rintro ⟨h1, h2'⟩ y hy
      rcases pri_two.1 ((mrg_mem h2).1 hy) with h | ⟨-, h⟩
      · exact h1 y h
      · exact h2' y h
  rw [hno]
  constructor
  · rintro ((h | ⟨h, h'⟩) | ⟨⟨h, h'⟩, h''⟩)
    · exact .inl h
    · exact .inr ⟨h, .inl h'⟩
    · exact .inr ⟨h, .inr ⟨h', h''⟩⟩
  · rintro (h | ⟨h, h' | ⟨h', h''⟩⟩)
    · exact .inl (.inl h)
    · exact .inl (.inr ⟨h, h'⟩)
    · exact .inr ⟨⟨h, h'⟩, h''⟩
theorem steps_right {a b c : List Ent} (ha : Sorted a) (hb : Sorted b) (hc : Sorted c) : mrg [a, mrg [b, c]] = mrg [a, b, c] := by
  have h2 : ∀ l ∈ [b, c], Sorted l := by simp [hb, hc]
  have h3 : ∀ l ∈ [a, b, c], Sorted l := by simp [ha, hb, hc]
  have hm := mrg_sorted h2
  have h4 : ∀ l ∈ [a, mrg [b, c]], Sorted l := by simp [hm, ha]
  refine sorted_ext _ _ (mrg_sorted h4) (mrg_sorted h3) fun x => ?_
  rw [mrg_mem h4, mrg_mem h3, pri_two, pri_three, mrg_mem h2, pri_two]
end Go.Proofs.Ytblbddamebbgaaa.K
