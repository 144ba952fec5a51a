/- The plain law of pruning: pruned again it stays; nothing changes of what may be seen. -/
import Derived.Test.YtblbddamebbgaaaKs
namespace Go.Proofs.Ytblbddamebbgaaa.K
open Go Go.RowKit
set_option linter.unusedVariables false
set_option linter.unusedSectionVars false
set_option linter.unusedSimpArgs false

theorem seenG_cons_hit {up : Int} {e : Ent} {g : List Ent} (h : e.s ≤ up) : seenG up (e :: g) = if e.g then [] else [e] := by
  have : newestN up (e :: g) = 0 := by simp [newestN, h]
  simp [seenG, this]
theorem seenG_cons_miss {up : Int} {e : Ent} {g : List Ent} (h : ¬ e.s ≤ up) : seenG up (e :: g) = seenG up g := by
  have : newestN up (e :: g) = newestN up g + 1 := by simp [newestN, h]
  simp [seenG, this]
theorem leftN_cons_hit {keep : Int} {bottom : Bool} {e : Ent} {g : List Ent} (h : e.s ≤ keep) : leftN keep bottom (e :: g) = if e.g && bottom then 0 else 1 := by
  have : newestN keep (e :: g) = 0 := by simp [newestN, h]
  simp [leftN, this]
theorem leftN_cons_miss {keep : Int} {bottom : Bool} {e : Ent} {g : List Ent} (h : ¬ e.s ≤ keep) : leftN keep bottom (e :: g) = leftN keep bottom g + 1 := by
  have : newestN keep (e :: g) = newestN keep g + 1 := by simp [newestN, h]
  simp only [leftN, this, List.getElem?_cons_succ]
  split
  · split <;> rfl
  · rfl
theorem seenG_left {keep up : Int} {bottom : Bool} (hk : keep ≤ up) : ∀ g : List Ent, seenG up (g.take (leftN keep bottom g)) = seenG up g
  | [] => by simp
  | e :: g => by
    by_cases h : e.s ≤ keep
    · rw [leftN_cons_hit h, seenG_cons_hit (show e.s ≤ up by omega)]
      by_cases hg : (e.g && bottom) = true
      · rw [if_pos hg]
        have : e.g = true := by revert hg; cases e.g <;> simp
        simp [this, seenG]
      · rw [if_neg hg]
        simp only [List.take_succ_cons, List.take_zero]
        exact seenG_cons_hit (by omega)
    · rw [leftN_cons_miss h, List.take_succ_cons]
      by_cases h2 : e.s ≤ up
      · rw [seenG_cons_hit h2, seenG_cons_hit h2]
      · rw [seenG_cons_miss h2, seenG_cons_miss h2, seenG_left hk g]
theorem left_left {keep : Int} {bottom : Bool} : ∀ g : List Ent, (g.take (leftN keep bottom g)).take (leftN keep bottom (g.take (leftN keep bottom g))) = g.take (leftN keep bottom g)
  | [] => by simp
  | e :: g => by
    by_cases h : e.s ≤ keep
    · rw [leftN_cons_hit h]
      by_cases hg : (e.g && bottom) = true
      · rw [if_pos hg]; simp
      · rw [if_neg hg]
        simp only [List.take_succ_cons, List.take_zero]
        rw [leftN_cons_hit h, if_neg hg]
        simp
    · rw [leftN_cons_miss h, List.take_succ_cons, leftN_cons_miss h, List.take_succ_cons, left_left g]
theorem rLeft_sub (keep : Int) (bottom : Bool) : ∀ (pk : Option ByteArray) (d : Bool) (es : List Ent), (rLeft keep bottom pk d es).Sublist es
  | _, _, [] => by simp [rLeft]
  | pk, d, e :: es => by
    simp only [rLeft]
    split
    · exact (rLeft_sub keep bottom _ _ es).cons_cons e
    · split
      · exact (rLeft_sub keep bottom _ _ es).cons_cons e
      · exact (rLeft_sub keep bottom _ _ es).cons e
theorem rLeft_join (keep : Int) (bottom : Bool) {k : ByteArray} {h r : List Ent} (hk : ∀ e ∈ h, e.k = k) (hf : Fall h) (hr : ∀ e, r.head? = some e → e.k ≠ k) : rLeft keep bottom none false (h ++ r) = h.take (leftN keep bottom h) ++ rLeft keep bottom none false r := by
  cases h with
  | nil => simp
  | cons e h =>
    have he := hk e (by simp)
    rw [List.cons_append, rLeft_start, ← List.cons_append, he]
    obtain ⟨d, hd⟩ := rLeft_grp keep bottom k r (e :: h) hk hf
    rw [hd, rLeft_fresh keep bottom k d r hr]
theorem rSeen_join (up : Int) {k : ByteArray} {h r : List Ent} (hk : ∀ e ∈ h, e.k = k) (hr : ∀ e, r.head? = some e → e.k ≠ k) : rSeen up none false (h ++ r) = seenG up h ++ rSeen up none false r := by
  cases h with
  | nil => simp [seenG]
  | cons e h =>
    have he := hk e (by simp)
    rw [List.cons_append, rSeen_start, ← List.cons_append, he, rSeen_grp up k r (e :: h) hk, rSeen_fresh up k _ r hr]
/-- A sorted list: its first group, and the rest, which is of other keys. -/
theorem sorted_split {e : Ent} {es : List Ent} (hs : Sorted (e :: es)) : ∃ g r, e :: es = g ++ r ∧ g ≠ [] ∧ (∀ x ∈ g, x.k = e.k) ∧ (∀ x ∈ r, x.k ≠ e.k) ∧ Fall g ∧ Sorted r := by
  have happ := List.takeWhile_append_dropWhile (p := fun x : Ent => decide (x.k = e.k)) (l := es)
  have hall : ∀ x ∈ e :: es.takeWhile (fun x => decide (x.k = e.k)), x.k = e.k := fun x hx => by
    rcases List.mem_cons.1 hx with rfl | hx
    · rfl
    · exact grps_all x hx
  have hso2 : Sorted ((e :: es.takeWhile fun x => decide (x.k = e.k)) ++ es.dropWhile fun x => decide (x.k = e.k)) := by rw [List.cons_append, happ]; exact hs
  obtain ⟨hs1, hs2, hs3⟩ := List.pairwise_append.1 hso2
  refine ⟨_, _, by rw [List.cons_append, happ], by simp, hall, fun x hx hxk => ?_, fall_of hall hs1, hs2⟩
  cases hr : es.dropWhile (fun x => decide (x.k = e.k)) with
  | nil => rw [hr] at hx; simp at hx
  | cons y r =>
    have hy : y.k ≠ e.k := by simpa using head_drop (p := fun x => decide (x.k = e.k)) (e := y) es (by rw [hr]; rfl)
    rw [hr] at hx hs2
    have h1 := hs3 e (by simp) y (by rw [hr]; simp)
    have h2 : bl e.k.toList y.k.toList = true := by
      rcases h1 with h | ⟨h, -⟩
      · exact h
      · exact absurd h.symm hy
    rcases List.mem_cons.1 hx with rfl | hx
    · exact hy hxk
    · rcases (List.pairwise_cons.1 hs2).1 x hx with h | ⟨h, -⟩
      · have := bl_trans _ _ _ h2 h
        rw [hxk, bl_irrefl] at this; cases this
      · exact hy (by rw [h, hxk])
theorem head_mem {r : List Ent} {e : Ent} (h : r.head? = some e) : e ∈ r := List.mem_of_head? h
theorem prune_law {keep up : Int} {bottom : Bool} (hk : keep ≤ up) : ∀ (n : Nat) (es : List Ent), es.length ≤ n → Sorted es →
    rSeen up none false (rLeft keep bottom none false es) = rSeen up none false es ∧ rLeft keep bottom none false (rLeft keep bottom none false es) = rLeft keep bottom none false es
  | _, [], _, _ => ⟨rfl, rfl⟩
  | 0, e :: es, h, _ => by simp at h
  | n + 1, e :: es, h, hs => by
    obtain ⟨g, r, he, hg, hgk, hrk, hf, hsr⟩ := sorted_split hs
    have hl : r.length ≤ n := by
      have h1 := congrArg List.length he
      have h2 : 0 < g.length := List.length_pos_iff.2 hg
      simp only [List.length_cons, List.length_append] at h1 h
      omega
    obtain ⟨i1, i2⟩ := prune_law hk n r hl hsr
    have hrh : ∀ x, r.head? = some x → x.k ≠ e.k := fun x hx => hrk x (head_mem hx)
    have hrh' : ∀ x, (rLeft keep bottom none false r).head? = some x → x.k ≠ e.k := fun x hx => hrk x ((rLeft_sub keep bottom none false r).subset (head_mem hx))
    have hhk : ∀ x ∈ g.take (leftN keep bottom g), x.k = e.k := fun x hx => hgk x (List.mem_of_mem_take hx)
    have hhf : Fall (g.take (leftN keep bottom g)) := hf.sublist (List.take_sublist _ _)
    rw [he, rLeft_join keep bottom hgk hf hrh]
    constructor
    · rw [rSeen_join up hhk hrh', rSeen_join up hgk hrh, seenG_left hk, i1]
    · rw [rLeft_join keep bottom hhk hhf hrh', left_left, i2]
theorem left_right {keep : Int} {bottom : Bool} {es : List Ent} (h : rightB es = true) : rightB (leftL keep bottom es) = true := by
  obtain ⟨h1, h2⟩ := rightB_iff.1 h
  rw [← rLeft_is keep bottom es h2]
  have hs := rLeft_sub keep bottom none false es
  exact rightB_iff.2 ⟨fun e he => h1 e (hs.subset he), List.Pairwise.sublist hs h2⟩
theorem left_again {keep : Int} {bottom : Bool} {es : List Ent} (h : rightB es = true) : leftL keep bottom (leftL keep bottom es) = leftL keep bottom es := by
  have h2 := (rightB_iff.1 h).2
  have h3 := (rightB_iff.1 (left_right (keep := keep) (bottom := bottom) h)).2
  have := (prune_law (bottom := bottom) (Int.le_refl keep) es.length es (Nat.le_refl _) h2).2
  rw [rLeft_is keep bottom es h2, rLeft_is keep bottom _ h3] at this
  exact this
theorem seen_left {keep up : Int} {bottom : Bool} {es : List Ent} (hk : keep ≤ up) (h : rightB es = true) : seenL up es = seenL up (leftL keep bottom es) := by
  have h2 := (rightB_iff.1 h).2
  have := (prune_law (bottom := bottom) hk es.length es (Nat.le_refl _) h2).1
  rw [rLeft_is keep bottom es h2, rSeen_is, rSeen_is] at this
  exact this.symm
end Go.Proofs.Ytblbddamebbgaaa.K
