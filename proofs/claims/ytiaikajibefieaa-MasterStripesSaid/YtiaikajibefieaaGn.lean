/- append, of whatever type of elements, to a row of the call's own. No program is named here. -/
import Derived.Test.YtiaikajibefieaaKq
import Derived.Maps.AppendAt
namespace Go.Proofs.Ytiaikajibefieaa.K
open Go Go.RowKit
set_option linter.unusedVariables false
set_option linter.unusedSectionVars false
set_option linter.unusedSimpArgs false

section
variable {P : Program} {w : World} {base : Nat} {t ty e : TypeId} {z : Value} {size bytes : Nat}
/-- The slice whose address is ad holds news, if there are any. -/
def Src (w : World) (ad : Option Addr) (news : List Value) : Prop := news ≠ [] → ∃ b o, ad = some ⟨b, o, none⟩ ∧ ∀ j u, news[j]? = some u → w.cell? ⟨b, o + j, none⟩ = some u
theorem run_appG (ht : P.underlying t = some (.slice e)) (hin : (P.info? e).map (fun i => (i.zero, i.size, i.bytes)) = some (some z, size, bytes)) (hzs : z.cells.size = size) (hsz : 0 < size)
    {v : Value} {n : Nat} {xs : List Value} (hown : w.ownsRow base e size v n xs) {ad : Option Addr} {m c : Nat} {news : List Value} (hl : news.length = m * size) (hnews : Src w ad news) (h1 : ∀ u ∈ news, u.oneCell' = true)
    (h63 : n + m ≤ 1099511627776) (hbytes : bytes ≤ 128) (hbase : base ≤ w.heap.size) :
    ∃ v' w', (Builtin.append_ #[t, t] ty #[v, .slice ad m c]).run P w = .ok v' w' ∧ w'.ownsRow base e size v' (n + m) (xs ++ news) ∧ Keep (fun k => some k ≠ v.ownBlock) w w' ∧ (v'.ownBlock = v.ownBlock ∨ ∃ b, v'.ownBlock = some b ∧ w.heap.size ≤ b) := by
  obtain ⟨i0, hi, hz0, hz1, hz2⟩ := info_parts hin
  have hb128 : (n + m) * bytes ≤ 140737488355328 := Nat.le_trans (Nat.mul_le_mul h63 hbytes) (by decide)
  cases ad with
  | none =>
    have hn0 : news = [] := Decidable.byContradiction fun h => by obtain ⟨b, o, h, -⟩ := hnews h; cases h
    subst hn0
    have hm : m = 0 := by
      rcases Nat.eq_zero_or_pos m with h | h
      · exact h
      · have := Nat.mul_pos h hsz; simp at hl; omega
    subst hm
    rw [Nat.add_zero, List.append_nil]
    refine ⟨v, w, ?_, hown, Keep.refl _ _, .inl rfl⟩
    rcases hown.2 with ⟨rfl, h⟩ | ⟨g, cap, cur, rfl, hb, hg, hc1, hc2, hc3, hc4⟩
    · simp [Builtin.append_, run_underlying ht, sizeOf, typeInfo, hi, Builtin.lenOf, Builtin.firstCells, storeCells]
    · simp [Builtin.append_, run_underlying ht, sizeOf, typeInfo, hi, Builtin.lenOf, Builtin.firstCells, storeCells, hc1]
  | some a0 =>
    obtain ⟨v', w', hr, ho, hg, -, hat⟩ := run_append_own_at (P := P) w base t ty e i0 z size bytes ht hi hz0 hz1 hz2 hzs hsz v n xs hown a0 m c news hl (fun j u hj => by
      obtain ⟨b, o, h, hc⟩ := hnews (by intro e; rw [e] at hj; simp at hj)
      cases h; rw [add_mk]; exact hc j u hj) h1 (by unfold maxLen; omega) hb128 hbase
    refine ⟨v', w', hr, ho, Keep.grown hg, ?_⟩
    rcases hat with e | e
    · exact .inl e
    · exact .inr ⟨_, e, Nat.le_refl _⟩
/-- An empty slice literal is a row of one's own. -/
theorem owns_empty {b : Nat} (hB : Blk w b [] e) (hb : base ≤ b) : w.ownsRow base e size (.slice (some ⟨b, 0, none⟩) 0 0) 0 [] :=
  ⟨by simp, .inr ⟨b, 0, #[], rfl, hb, hB, Nat.le_refl _, by simp, by simp, by simp⟩⟩
end
section
variable {F : Fence} {n : Nat} {P : Program} {Q : Exit → Act → World → Prop} {m : Nat} {D : List Deferred} {L : Env} {w w' : World} {ops rest : List Oper} {d : Nat} {ty t e : TypeId} {pos : String} {af : Array Edge} {g : Option (Nat × Bool)} {x y : Operand} {z : Value} {size bytes base : Nat}
theorem xv_append (ht : P.underlying t = some (.slice e)) (hin : (P.info? e).map (fun i => (i.zero, i.size, i.bytes)) = some (some z, size, bytes)) (hzs : z.cells.size = size) (hsz : 0 < size)
    {v : Value} {k : Nat} {xs : List Value} {ad : Option Addr} {k2 c : Nat} {news : List Value} (hx : ev L x = some v) (hy : ev L y = some (.slice ad k2 c)) (hown : w.ownsRow base e size v k xs) (hl : news.length = k2 * size) (hnews : Src w ad news) (h1 : ∀ u ∈ news, u.oneCell' = true)
    (h63 : k + k2 ≤ 1099511627776) (hbytes : bytes ≤ 128) (hbase : base ≤ w.heap.size) :
    ∃ v' w', Xv P m D L (.call ⟨.builtin .append, #[x, y], #[t, t]⟩) ty w v' w' ∧ w'.ownsRow base e size v' (k + k2) (xs ++ news) ∧ Keep (fun k => some k ≠ v.ownBlock) w w' ∧ (v'.ownBlock = v.ownBlock ∨ ∃ b, v'.ownBlock = some b ∧ w.heap.size ≤ b) := by
  obtain ⟨v', w', hr, h2⟩ := run_appG (ty := ty) (c := c) ht hin hzs hsz hown hl hnews h1 h63 hbytes hbase
  refine ⟨v', w', ⟨nofun, fun _ _ _ _ a h => ?_⟩, h2⟩
  simp [execOp, resolve, h.ev hx, h.ev hy, invoke, builtin, hr]
theorem wl_append (ht : P.underlying t = some (.slice e)) (hin : (P.info? e).map (fun i => (i.zero, i.size, i.bytes)) = some (some z, size, bytes)) (hzs : z.cells.size = size) (hsz : 0 < size)
    {v : Value} {k : Nat} {xs : List Value} {ad : Option Addr} {k2 c : Nat} {news : List Value} (hW : Wd F) (hg : wants L ops g = some true) (hd : Nat.blt d m = true) (hx : ev L x = some v) (hy : ev L y = some (.slice ad k2 c)) (hown : w.ownsRow base e size v k xs) (hl : news.length = k2 * size) (hnews : Src w ad news) (h1 : ∀ u ∈ news, u.oneCell' = true)
    (h63 : k + k2 ≤ 1099511627776) (hbytes : bytes ≤ 128) (hbase : base ≤ w.heap.size)
    (kk : ∀ v' w', w'.ownsRow base e size v' (k + k2) (xs ++ news) → Keep (fun k => some k ≠ v.ownBlock) w w' → (v'.ownBlock = v.ownBlock ∨ ∃ b, v'.ownBlock = some b ∧ w.heap.size ≤ b) → WL F n P Q m D ops rest ((d, v') :: L) w') :
    WL F n P Q m D ops (⟨some d, .call ⟨.builtin .append, #[x, y], #[t, t]⟩, ty, pos, af, g⟩ :: rest) L w := by
  obtain ⟨v', w', h2, h3, h4, h5⟩ := xv_append (P := P) (m := m) (D := D) (ty := ty) ht hin hzs hsz hx hy hown hl hnews h1 h63 hbytes hbase
  exact wl_val hW hg hd h2 (kk v' w' h3 h4 h5)
/-- What a row of one's own holds, as it is read. -/
theorem owns_src {v : Value} {k : Nat} {xs : List Value} (h : w.ownsRow base e size v k xs) : ∃ ad c, v = .slice ad k c ∧ k ≤ c ∧ Src w ad xs ∧ (xs ≠ [] → ∀ b, ad.map (·.block) = some b → base ≤ b) := by
  have h5 := fun g => h.cells (g := g)
  rcases h.2 with ⟨rfl, h0⟩ | ⟨g, cap, cur, rfl, hb, hg, hc, -⟩
  · subst h0
    have : xs = [] := by have := h.1; simpa using this
    subst this
    exact ⟨none, 0, rfl, Nat.le_refl _, fun h => absurd rfl h, fun h => absurd rfl h⟩
  · refine ⟨some ⟨g, 0, none⟩, cap, rfl, hc, fun _ => ⟨g, 0, rfl, fun j u hj => ?_⟩, fun _ b hb' => by cases hb'; exact hb⟩
    have := h5 g rfl j u hj
    rw [add_mk] at this; exact this
theorem ownsRow_keep {S : Nat → Prop} {v : Value} {k : Nat} {xs : List Value} (h : w.ownsRow base e size v k xs) (hk : Keep S w w') (hv : ∀ b, v.ownBlock = some b → S b) : w'.ownsRow base e size v k xs := by
  refine ⟨h.1, ?_⟩
  rcases h.2 with ⟨h1, h2⟩ | ⟨g, cap, cur, rfl, hb, hg, h1⟩
  · exact .inl ⟨h1, h2⟩
  · exact .inr ⟨g, cap, cur, rfl, hb, (hk.block g (Array.getElem?_eq_some_iff.1 hg).1 (hv g rfl)).trans hg, h1⟩
theorem ownsRow_base {base' : Nat} {v : Value} {k : Nat} {xs : List Value} (h : w.ownsRow base e size v k xs) (hb : ∀ b, v.ownBlock = some b → base' ≤ b) : w.ownsRow base' e size v k xs := by
  refine ⟨h.1, ?_⟩
  rcases h.2 with ⟨h1, h2⟩ | ⟨g, cap, cur, rfl, hb', hg, h1⟩
  · exact .inl ⟨h1, h2⟩
  · exact .inr ⟨g, cap, cur, rfl, hb g rfl, hg, h1⟩
theorem ownsRow_blk {v : Value} {k b : Nat} {xs : List Value} (h : w.ownsRow base e size v k xs) (hb : v.ownBlock = some b) : base ≤ b ∧ ∃ cs, Blk w b cs e := by
  rcases h.2 with ⟨rfl, h2⟩ | ⟨g, cap, cur, rfl, hb', hg, h1⟩
  · cases hb
  · cases hb; exact ⟨hb', cur.toList, by simpa [Blk] using hg⟩
/-- An element of an array, taken as a value. -/
theorem x_indexA {q : IntKind} {i k : Nat} {cs : List Value} {v : Value} (hu : P.underlying t = some (.array k e)) (hs : Flat P e) (hx : ev L x = some (.agg cs.toArray)) (hy : ev L y = some (.int q i)) (hi : i < k) (hv : cs[i]? = some v) :
    Xv P m D L (.index t x y) ty w v w :=
  ⟨nofun, fun _ _ _ _ a h => by
    have h0 : (0 : Int) ≤ (i : Int) ∧ (i : Int) < (k : Int) := by omega
    have h2 : ¬ k ≤ i := by omega
    simp [execOp, h.ev hx, h.ev hy, Instr.index, asIntOf, run_underlying hu, hi, h2, (hs w).2, part, (hs w).1, hv]⟩
end
end Go.Proofs.Ytiaikajibefieaa.K
