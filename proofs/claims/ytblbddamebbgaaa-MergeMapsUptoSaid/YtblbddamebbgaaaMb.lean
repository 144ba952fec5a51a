/- The plain law of MergeMaps: what is seen of merged lists is what a map tells. -/
import Derived.Test.YtblbddamebbgaaaKy
namespace Go.Proofs.Ytblbddamebbgaaa.K
open Go Go.RowKit
set_option linter.unusedVariables false
set_option linter.unusedSectionVars false
set_option linter.unusedSimpArgs false

/-- The newest of a key up to a number, in a sorted list. -/
def top (up : Int) (m : List Ent) (k : ByteArray) : Option Ent := m.find? fun e => decide (e.k = k) && decide (e.s ≤ up)
theorem top_some {up : Int} {m : List Ent} {k : ByteArray} {e : Ent} (hs : Sorted m) : top up m k = some e ↔ e ∈ m ∧ e.k = k ∧ e.s ≤ up ∧ ∀ x ∈ m, x.k = k → x.s ≤ up → x.s ≤ e.s := by
  induction m with
  | nil => simp [top]
  | cons y m ih =>
    obtain ⟨h1, h2⟩ := List.pairwise_cons.1 hs
    have ih := ih h2
    unfold top at ih ⊢
    rw [List.find?_cons]
    by_cases hy : y.k = k ∧ y.s ≤ up
    · rw [show (decide (y.k = k) && decide (y.s ≤ up)) = true from by simp [hy]]
      constructor
      · intro h
        cases h
        refine ⟨by simp, hy.1, hy.2, fun x hx hxk hxs => ?_⟩
        rcases List.mem_cons.1 hx with rfl | hx
        · exact Int.le_refl _
        · rcases h1 x hx with h | ⟨-, h⟩
          · rw [hy.1, hxk, bl_irrefl] at h; cases h
          · omega
      · rintro ⟨he, hek, hes, hmax⟩
        have h3 := hmax y (by simp) hy.1 hy.2
        rcases List.mem_cons.1 he with rfl | he
        · rfl
        · rcases h1 e he with h | ⟨-, h⟩
          · rw [hy.1, hek, bl_irrefl] at h; cases h
          · omega
    · rw [show (decide (y.k = k) && decide (y.s ≤ up)) = false from by
        rw [Bool.and_eq_false_iff, decide_eq_false_iff_not, decide_eq_false_iff_not]
        by_cases h : y.k = k
        · exact .inr fun h' => hy ⟨h, h'⟩
        · exact .inl h]
      simp only
      rw [ih]
      constructor
      · rintro ⟨he, hek, hes, hmax⟩
        refine ⟨by simp [he], hek, hes, fun x hx hxk hxs => ?_⟩
        rcases List.mem_cons.1 hx with rfl | hx
        · exact absurd ⟨hxk, hxs⟩ hy
        · exact hmax x hx hxk hxs
      · rintro ⟨he, hek, hes, hmax⟩
        rcases List.mem_cons.1 he with rfl | he
        · exact absurd ⟨hek, hes⟩ hy
        · exact ⟨he, hek, hes, fun x hx => hmax x (by simp [hx])⟩
theorem top_none {up : Int} {m : List Ent} {k : ByteArray} : top up m k = none ↔ ∀ x ∈ m, x.k = k → ¬ x.s ≤ up := by
  unfold top
  rw [List.find?_eq_none]
  constructor
  · intro h x hx hk hs
    exact h x hx (by simp [hk, hs])
  · intro h x hx hc
    simp only [Bool.and_eq_true, decide_eq_true_eq] at hc
    exact h x hx hc.1 hc.2
/-- Of two the newer; of the same the first. -/
def newer (a b : Option Ent) : Option Ent := match a, b with
  | none, b => b
  | a, none => a
  | some x, some y => if x.s < y.s then some y else some x
theorem top_two {up : Int} {a b : List Ent} {k : ByteArray} (n : Nat) (hn : a.length + b.length ≤ n) (ha : Sorted a) (hb : Sorted b) : top up (twoF n a b) k = newer (top up a k) (top up b k) := by
  obtain ⟨h1, h2⟩ := two_law n a b hn ha hb
  cases hta : top up a k with
  | none =>
    have hna := top_none.1 hta
    cases htb : top up b k with
    | none =>
      have hnb := top_none.1 htb
      exact top_none.2 fun x hx => by
        rcases (h2 x).1 hx with h | ⟨h, -⟩
        · exact hna x h
        · exact hnb x h
    | some y =>
      obtain ⟨y1, y2, y3, y4⟩ := (top_some hb).1 htb
      refine (top_some h1).2 ⟨(h2 y).2 (.inr ⟨y1, fun x hx hxy => hna x hx (hxy.1.trans y2) (by rw [hxy.2]; exact y3)⟩), y2, y3, fun x hx hxk hxs => ?_⟩
      rcases (h2 x).1 hx with h | ⟨h, -⟩
      · exact absurd hxs (hna x h hxk)
      · exact y4 x h hxk hxs
  | some x =>
    obtain ⟨x1, x2, x3, x4⟩ := (top_some ha).1 hta
    cases htb : top up b k with
    | none =>
      have hnb := top_none.1 htb
      refine (top_some h1).2 ⟨(h2 x).2 (.inl x1), x2, x3, fun z hz hzk hzs => ?_⟩
      rcases (h2 z).1 hz with h | ⟨h, -⟩
      · exact x4 z h hzk hzs
      · exact absurd hzs (hnb z h hzk)
    | some y =>
      obtain ⟨y1, y2, y3, y4⟩ := (top_some hb).1 htb
      show _ = if x.s < y.s then some y else some x
      split
      · rename_i hlt
        refine (top_some h1).2 ⟨(h2 y).2 (.inr ⟨y1, fun z hz hzy => ?_⟩), y2, y3, fun z hz hzk hzs => ?_⟩
        · have := x4 z hz (hzy.1.trans y2) (by rw [hzy.2]; exact y3)
          have := hzy.2
          omega
        · rcases (h2 z).1 hz with h | ⟨h, -⟩
          · have := x4 z h hzk hzs; omega
          · exact y4 z h hzk hzs
      · refine (top_some h1).2 ⟨(h2 x).2 (.inl x1), x2, x3, fun z hz hzk hzs => ?_⟩
        rcases (h2 z).1 hz with h | ⟨h, -⟩
        · exact x4 z h hzk hzs
        · have := y4 z h hzk hzs; omega
/-- Is x taken into the map? -/
def takeM (up : Int) (g : ByteArray → Option Ent) (x : Ent) : Bool := decide (x.s ≤ up) && (match g x.k with
  | none => true
  | some y => decide (y.s < x.s))
def putM (up : Int) (g : ByteArray → Option Ent) (x : Ent) : ByteArray → Option Ent := if takeM up g x then fun k => if k = x.k then some x else g k else g
def bestF (up : Int) : (ByteArray → Option Ent) → List Ent → ByteArray → Option Ent
  | g, [] => g
  | g, x :: l => bestF up (putM up g x) l
theorem putM_other {up : Int} {g : ByteArray → Option Ent} {x : Ent} {k : ByteArray} (h : k ≠ x.k) : putM up g x k = g k := by
  unfold putM; split
  · exact if_neg h
  · rfl
theorem newer_none (a : Option Ent) : newer a none = a := by cases a <;> rfl
theorem putM_same {up : Int} {g : ByteArray → Option Ent} {x : Ent} : putM up g x x.k = newer (g x.k) (if x.s ≤ up then some x else none) := by
  unfold putM takeM
  cases hg : g x.k with
  | none =>
    by_cases h : x.s ≤ up
    · simp [h, newer]
    · simp [h, newer, hg]
  | some y =>
    by_cases h : x.s ≤ up
    · by_cases h2 : y.s < x.s
      · simp [h, h2, newer]
      · simp [h, h2, newer, hg]
    · simp [h, newer, hg]
theorem bestF_top {up : Int} : ∀ (l : List Ent) (g : ByteArray → Option Ent) (k : ByteArray), Sorted l → bestF up g l k = newer (g k) (top up l k)
  | [], g, k, _ => by
    show g k = newer (g k) none
    cases g k <;> rfl
  | x :: l, g, k, hs => by
    obtain ⟨h1, h2⟩ := List.pairwise_cons.1 hs
    show bestF up (putM up g x) l k = _
    rw [bestF_top l _ k h2]
    have htop : top up (x :: l) k = if x.k = k ∧ x.s ≤ up then some x else top up l k := by
      unfold top
      rw [List.find?_cons]
      by_cases hy : x.k = k ∧ x.s ≤ up
      · rw [if_pos hy, show (decide (x.k = k) && decide (x.s ≤ up)) = true from by simp [hy]]
      · rw [if_neg hy, show (decide (x.k = k) && decide (x.s ≤ up)) = false from by
          rw [Bool.and_eq_false_iff, decide_eq_false_iff_not, decide_eq_false_iff_not]
          by_cases h : x.k = k
          · exact .inr fun h' => hy ⟨h, h'⟩
          · exact .inl h]
    rw [htop]
    by_cases hk : x.k = k
    · subst hk
      rw [putM_same]
      by_cases hs' : x.s ≤ up
      · rw [if_pos hs', if_pos ⟨rfl, hs'⟩]
        have hle : ∀ y, top up l x.k = some y → y.s < x.s := fun y hy => by
          obtain ⟨y1, y2, -⟩ := (top_some h2).1 hy
          rcases h1 y y1 with h | ⟨-, h⟩
          · rw [y2, bl_irrefl] at h; cases h
          · exact h
        cases ht : top up l x.k with
        | none => rw [newer_none]
        | some y =>
          have := hle y ht
          cases hg : g x.k with
          | none => simp [newer]; omega
          | some z =>
            simp only [newer]
            by_cases h3 : z.s < x.s
            · rw [if_pos h3]; simp only; rw [if_neg (by omega)]
            · rw [if_neg h3]; simp only; rw [if_neg (by omega)]
      · rw [if_neg hs', if_neg (fun h => hs' h.2)]
        cases g x.k <;> rfl
    · rw [putM_other (fun h => hk h.symm), if_neg (fun h => hk h.1)]
theorem bestF_append (up : Int) : ∀ (l m : List Ent) (g : ByteArray → Option Ent), bestF up g (l ++ m) = bestF up (bestF up g l) m
  | [], m, g => rfl
  | x :: l, m, g => by show bestF up (putM up g x) (l ++ m) = _; rw [bestF_append up l m]; rfl
theorem newer_assoc_top {up : Int} (ls : List (List Ent)) : ∀ (acc : List Ent) (g : ByteArray → Option Ent) (k : ByteArray), Sorted acc → (∀ l ∈ ls, Sorted l) → (∀ k, g k = top up acc k) → bestF up g ls.flatten k = top up (foldTwo acc ls) k := by
  induction ls with
  | nil => intro acc g k _ _ hg; exact hg k
  | cons l ls ih =>
    intro acc g k ha hs hg
    have hl := hs l (by simp)
    rw [List.flatten_cons, bestF_append]
    refine ih _ _ k (two_law _ acc l (Nat.le_refl _) ha hl).1 (fun l' hl' => hs l' (by simp [hl'])) fun k' => ?_
    rw [bestF_top l g k' hl, hg k', top_two _ (Nat.le_refl _) ha hl]
theorem best_merge {up : Int} {ls : List (List Ent)} (hs : ∀ l ∈ ls, Sorted l) (k : ByteArray) : bestF up (fun _ => none) ls.flatten k = top up (mrg ls) k :=
  newer_assoc_top ls [] _ k List.Pairwise.nil hs fun _ => rfl

/-! ### what is seen -/
theorem seenG_mem_iff {up : Int} : ∀ {g : List Ent}, Fall g → ∀ e, e ∈ seenG up g ↔ e ∈ g ∧ e.s ≤ up ∧ e.g = false ∧ ∀ x ∈ g, x.s ≤ up → x.s ≤ e.s
  | [], _, e => by simp [seenG]
  | y :: g, hf, e => by
    obtain ⟨h1, h2⟩ := List.pairwise_cons.1 hf
    by_cases hy : y.s ≤ up
    · rw [seenG_cons_hit hy]
      constructor
      · intro h
        have hyg : y.g = false := by
          cases hg : y.g with
          | false => rfl
          | true => rw [hg] at h; simp at h
        rw [hyg] at h
        simp at h
        subst h
        refine ⟨by simp, hy, hyg, fun x hx hxs => ?_⟩
        rcases List.mem_cons.1 hx with rfl | hx
        · exact Int.le_refl _
        · have := h1 x hx; omega
      · rintro ⟨he, hes, heg, hmax⟩
        have h3 := hmax y (by simp) hy
        rcases List.mem_cons.1 he with rfl | he
        · rw [heg]; simp
        · have := h1 e he; omega
    · rw [seenG_cons_miss hy, seenG_mem_iff h2 e]
      constructor
      · rintro ⟨he, hes, heg, hmax⟩
        refine ⟨by simp [he], hes, heg, fun x hx hxs => ?_⟩
        rcases List.mem_cons.1 hx with rfl | hx
        · exact absurd hxs hy
        · exact hmax x hx hxs
      · rintro ⟨he, hes, heg, hmax⟩
        rcases List.mem_cons.1 he with rfl | he
        · exact absurd hes hy
        · exact ⟨he, hes, heg, fun x hx => hmax x (by simp [hx])⟩
theorem rSeen_mem {up : Int} : ∀ (n : Nat) (m : List Ent), m.length ≤ n → Sorted m → ∀ e, e ∈ rSeen up none false m ↔ top up m e.k = some e ∧ e.g = false
  | _, [], _, _, e => by simp [rSeen, top]
  | 0, y :: m, h, _, _ => by simp at h
  | n + 1, y :: m, h, hs, e => by
    obtain ⟨g, r, he, hg, hgk, hrk, hf, hsr⟩ := sorted_split hs
    have hl : r.length ≤ n := by
      have h1 := congrArg List.length he
      have h2 : 0 < g.length := List.length_pos_iff.2 hg
      simp only [List.length_cons, List.length_append] at h1 h
      omega
    have ih := rSeen_mem (up := up) n r hl hsr e
    rw [he] at hs
    rw [he, rSeen_join up hgk (fun x hx => hrk x (head_mem hx)), List.mem_append, seenG_mem_iff hf, ih, top_some hs, top_some hsr]
    constructor
    · rintro (⟨h1, h2, h3, h4⟩ | ⟨⟨h1, h2, h3, h4⟩, h5⟩)
      · refine ⟨⟨List.mem_append_left _ h1, rfl, h2, fun x hx hxk hxs => ?_⟩, h3⟩
        rcases List.mem_append.1 hx with hx | hx
        · exact h4 x hx hxs
        · exact absurd (hxk.trans (hgk e h1)) (hrk x hx)
      · refine ⟨⟨List.mem_append_right _ h1, rfl, h3, fun x hx hxk hxs => ?_⟩, h5⟩
        rcases List.mem_append.1 hx with hx | hx
        · exact absurd (hxk.symm.trans (hgk x hx)) (hrk e h1)
        · exact h4 x hx hxk hxs
    · rintro ⟨⟨h1, -, h3, h4⟩, h5⟩
      rcases List.mem_append.1 h1 with h1 | h1
      · exact .inl ⟨h1, h3, h5, fun x hx hxs => h4 x (List.mem_append_left _ hx) ((hgk x hx).trans (hgk e h1).symm) hxs⟩
      · exact .inr ⟨⟨h1, rfl, h3, fun x hx => h4 x (List.mem_append_right _ hx)⟩, h5⟩
theorem rSeen_sub (up : Int) : ∀ (pk : Option ByteArray) (d : Bool) (es : List Ent), (rSeen up pk d es).Sublist es
  | _, _, [] => by simp [rSeen]
  | pk, d, e :: es => by
    simp only [rSeen]
    split
    · exact (rSeen_sub up _ _ es).cons e
    · split
      · exact (rSeen_sub up _ _ es).cons e
      · exact (rSeen_sub up _ _ es).cons_cons e
theorem seen_keys {up : Int} {m : List Ent} (hs : Sorted m) : (seenL up m).Pairwise fun a b => bl a.k.toList b.k.toList = true := by
  rw [← rSeen_is]
  refine List.Pairwise.imp_of_mem (fun {a b} ha hb h => ?_) (List.Pairwise.sublist (rSeen_sub up none false m) hs)
  rcases h with h | ⟨h, h'⟩
  · exact h
  · have h1 := (top_some hs).1 ((rSeen_mem _ m (Nat.le_refl _) hs a).1 ha).1
    have h2 := (top_some hs).1 ((rSeen_mem _ m (Nat.le_refl _) hs b).1 hb).1
    have := h2.2.2.2 a h1.1 h h1.2.2.1
    omega
theorem seen_mem {up : Int} {m : List Ent} (hs : Sorted m) (e : Ent) : e ∈ seenL up m ↔ top up m e.k = some e ∧ e.g = false := by
  rw [← rSeen_is]; exact rSeen_mem _ m (Nat.le_refl _) hs e
/-- How many of the seen are still to come, as a map goes. -/
theorem count_step {s : List Ent} (hk : s.Pairwise fun a b => bl a.k.toList b.k.toList = true) (left : ByteArray → Bool) (k : ByteArray) (hl : left k = true) (e : Ent) (he : e ∈ s) (hek : e.k = k) : (s.filter fun x => left x.k).length = (s.filter fun x => left x.k && !decide (x.k = k)).length + 1 := by
  induction s with
  | nil => simp at he
  | cons y s ih =>
    obtain ⟨h1, h2⟩ := List.pairwise_cons.1 hk
    rcases List.mem_cons.1 he with rfl | he
    · have hno : s.filter (fun x => left x.k && !decide (x.k = k)) = s.filter fun x => left x.k := by
        refine List.filter_congr fun x hx => ?_
        have : x.k ≠ k := fun h => by
          have := h1 x hx
          rw [hek, h, bl_irrefl] at this; cases this
        simp [this]
      rw [List.filter_cons, List.filter_cons, hno]
      simp [hek, hl]
    · have hyk : y.k ≠ k := fun h => by
        have := h1 e he
        rw [hek, h, bl_irrefl] at this; cases this
      have := ih h2 he
      rw [List.filter_cons, List.filter_cons]
      simp only [hyk, decide_false, Bool.not_false, Bool.and_true]
      split
      · simp only [List.length_cons]; omega
      · exact this
theorem count_still {s : List Ent} (left : ByteArray → Bool) (k : ByteArray) (hno : ∀ x ∈ s, x.k ≠ k) : (s.filter fun x => left x.k && !decide (x.k = k)) = s.filter fun x => left x.k :=
  List.filter_congr fun x hx => by simp [hno x hx]
end Go.Proofs.Ytblbddamebbgaaa.K
