/- Appending within room; slices with a bound; parts of flat rows. -/
import Derived.Test.YtiaikajibefieaaTf
namespace Go.Proofs.Ytiaikajibefieaa.K
open Go Go.RowKit
set_option linter.unusedVariables false
set_option linter.unusedSectionVars false
set_option linter.unusedSimpArgs false
section
variable {P : Program} {w : World} {t ty e : TypeId} {sz : Nat}
theorem run_appRoom {b o k c k2 c2 : Nat} {ad : Option Addr} {cs news : List Value} {T : TypeId} (hu : P.underlying t = some (.slice e)) (hs : Siz P e sz) (hB : Blk w b cs T) (hroom : k + k2 ≤ c) (hl : news.length = k2 * sz) (hnews : Src w ad news) (h1 : ∀ u ∈ news, u.oneCell' = true) (hfit : o + k * sz + news.length ≤ cs.length) :
    ∃ w', (Builtin.append_ #[t, t] ty #[.slice (some ⟨b, o, none⟩) k c, .slice ad k2 c2]).run P w = .ok (.slice (some ⟨b, o, none⟩) (k + k2) c) w' ∧ Blk w' b (cs.take (o + k * sz) ++ news ++ cs.drop (o + k * sz + news.length)) T ∧ Keep (· ≠ b) w w' := by
  obtain ⟨w', hr, hB', hk, -⟩ := run_storeCells (P := P) news (o + k * sz) 0 cs w hB (by omega) h1
  rw [Nat.add_zero] at hB'
  refine ⟨w', ?_, hB', hk⟩
  have hf : (Builtin.firstCells sz k2 (.slice ad k2 c2)).run P w = .ok news.toArray w := by
    cases ad with
    | none =>
      have hn0 : news = [] := Decidable.byContradiction fun h => by obtain ⟨b', o', h, -⟩ := hnews h; cases h
      subst hn0; rfl
    | some a =>
      have h2 := run_loadCells_list (P := P) w a news (fun j u hj => by
        obtain ⟨b', o', h, hc⟩ := hnews (by rintro rfl; simp at hj)
        cases h; rw [add_mk]; exact hc j u hj)
      rw [hl] at h2
      exact h2
  simp [Builtin.append_, run_underlying hu, Builtin.lenOf, hs w, hf, hroom, add_mk, hr]
end
section
variable {F : Fence} {n : Nat} {P : Program} {Q : Exit → Act → World → Prop} {m : Nat} {D : List Deferred} {L : Env} {w w' : World} {ops rest : List Oper} {d : Nat} {ty t t' e : TypeId} {pos : String} {af : Array Edge} {g : Option (Nat × Bool)} {x y lo hi mx : Operand} {sz : Nat}
theorem wl_appRoom {b o k c k2 c2 : Nat} {ad : Option Addr} {cs news : List Value} {T : TypeId} (hu : P.underlying t = some (.slice e)) (hs : Siz P e sz) (hW : Wd F) (hg : wants L ops g = some true) (hd : Nat.blt d m = true) (hx : ev L x = some (.slice (some ⟨b, o, none⟩) k c)) (hy : ev L y = some (.slice ad k2 c2))
    (hB : Blk w b cs T) (hroom : k + k2 ≤ c) (hl : news.length = k2 * sz) (hnews : Src w ad news) (h1 : ∀ u ∈ news, u.oneCell' = true) (hfit : o + k * sz + news.length ≤ cs.length)
    (kk : ∀ w', Blk w' b (cs.take (o + k * sz) ++ news ++ cs.drop (o + k * sz + news.length)) T → Keep (· ≠ b) w w' → WL F n P Q m D ops rest ((d, .slice (some ⟨b, o, none⟩) (k + k2) c) :: L) w') :
    WL F n P Q m D ops (⟨some d, .call ⟨.builtin .append, #[x, y], #[t, t]⟩, ty, pos, af, g⟩ :: rest) L w := by
  obtain ⟨w', hr, hB', hk⟩ := run_appRoom (ty := ty) (c2 := c2) hu hs hB hroom hl hnews h1 hfit
  refine wl_val hW hg hd (v := .slice (some ⟨b, o, none⟩) (k + k2) c) (w' := w') ⟨nofun, fun _ _ _ _ a h => ?_⟩ (kk w' hB' hk)
  simp [execOp, resolve, h.ev hx, h.ev hy, invoke, builtin, hr]
theorem sb3g {i j k n c : Nat} (h1 : i ≤ j) (h2 : j ≤ k) (h3 : k ≤ c) : (Instr.sliceBounds true n c (some (.int .i64 i)) (some (.int .i64 j)) (some (.int .i64 k))).run P w = .ok (i, j, k) w := by
  simp [Instr.sliceBounds, Instr.sliceBound, asIntOf, h1, h2, h3, Nat.le_trans h2 h3]
theorem x_slice3g {A : Option Addr} {n c i j k : Nat} (hu : P.underlying t = some (.slice e)) (hs : Siz P e sz) (hx : ev L x = some (.slice A n c)) (hl : ev L lo = some (.int .i64 i)) (hh : ev L hi = some (.int .i64 j)) (hm : ev L mx = some (.int .i64 k)) (h1 : i ≤ j) (h2 : j ≤ k) (h3 : k ≤ c) :
    Xv P m D L (.slice t x (some lo) (some hi) (some mx)) ty w (.slice (if k = i then A else A.map (·.add (i * sz))) (j - i) (k - i)) w :=
  x_slice (q1 := .i64) (q2 := .i64) (q3 := .i64) hu hs hx (fun a h => by simp [h.ev hl]) (fun a h => by simp [h.ev hh]) (fun a h => by simp [h.ev hm]) (sb3g h1 h2 h3)
/-- s[i:j], where room is left. -/
theorem x_slice2r {b o n c i j : Nat} (hu : P.underlying t = some (.slice e)) (hs : Siz P e sz) (hx : ev L x = some (.slice (some ⟨b, o, none⟩) n c)) (hl : ev L lo = some (.int .i64 i)) (hh : ev L hi = some (.int .i64 j)) (h1 : i ≤ j) (h2 : j ≤ c) (h3 : i < c) :
    Xv P m D L (.slice t x (some lo) (some hi) none) ty w (.slice (some ⟨b, o + i * sz, none⟩) (j - i) (c - i)) w := by
  have := x_slice2 (P := P) (m := m) (D := D) (ty := ty) (w := w) hu hs hx hl hh h1 h2
  rw [if_neg (by omega)] at this
  simpa [add_mk] using this
/-- s[i:], where room is left. -/
theorem x_slicelr {b o n c i : Nat} (hu : P.underlying t = some (.slice e)) (hs : Siz P e sz) (hx : ev L x = some (.slice (some ⟨b, o, none⟩) n c)) (hl : ev L lo = some (.int .i64 i)) (h1 : i ≤ n) (h3 : i < c) :
    Xv P m D L (.slice t x (some lo) none none) ty w (.slice (some ⟨b, o + i * sz, none⟩) (n - i) (c - i)) w := by
  have := x_slicel (P := P) (m := m) (D := D) (ty := ty) (w := w) hu hs hx hl h1
  rw [if_neg (by omega)] at this
  simpa [add_mk] using this
/-- s[:j]. -/
theorem x_slicehr {b n c j : Nat} (hu : P.underlying t = some (.slice e)) (hs : Siz P e sz) (hx : ev L x = some (.slice (some ⟨b, 0, none⟩) n c)) (hh : ev L hi = some (.int .i64 j)) (h2 : j ≤ c) :
    Xv P m D L (.slice t x none (some hi) none) ty w (.slice (some ⟨b, 0, none⟩) j c) w := by
  have := x_sliceh (P := P) (m := m) (D := D) (ty := ty) (w := w) hu hs hx hh h2
  have e1 : (if c = 0 then some (⟨b, 0, none⟩ : Addr) else (some (⟨b, 0, none⟩ : Addr)).map (·.add (0 * sz))) = some ⟨b, 0, none⟩ := by split <;> simp [add_mk]
  rw [e1] at this; exact this
end
section
variable {α : Type} {sz : Nat} {enc : α → List Value}
theorem gflat_take (henc : ∀ x, (enc x).length = sz) (xs : List α) (i : Nat) : (xs.flatMap enc).take (i * sz) = (xs.take i).flatMap enc := by
  by_cases hi : i ≤ xs.length
  · have h7 : xs.flatMap enc = (xs.take i).flatMap enc ++ (xs.drop i).flatMap enc := by rw [← List.flatMap_append, List.take_append_drop]
    have h8 : ((xs.take i).flatMap enc).length = i * sz := by rw [gflat_len henc, List.length_take, Nat.min_eq_left hi]
    rw [h7, ← h8, List.take_left' rfl]
  · rw [List.take_of_length_le (l := xs) (by omega), List.take_of_length_le]
    rw [gflat_len henc]; exact Nat.mul_le_mul_right _ (by omega)
theorem gflat_drop (henc : ∀ x, (enc x).length = sz) (xs : List α) (i : Nat) : (xs.flatMap enc).drop (i * sz) = (xs.drop i).flatMap enc := by
  by_cases hi : i ≤ xs.length
  · have h7 : xs.flatMap enc = (xs.take i).flatMap enc ++ (xs.drop i).flatMap enc := by rw [← List.flatMap_append, List.take_append_drop]
    have h8 : ((xs.take i).flatMap enc).length = i * sz := by rw [gflat_len henc, List.length_take, Nat.min_eq_left hi]
    rw [h7, ← h8, List.drop_left' rfl]
  · rw [List.drop_of_length_le (l := xs) (by omega), List.drop_of_length_le]
    · rfl
    · rw [gflat_len henc]; exact Nat.mul_le_mul_right _ (by omega)
theorem gflat_one (hone : ∀ x, ∀ u ∈ enc x, u.oneCell' = true) (xs : List α) : ∀ u ∈ xs.flatMap enc, u.oneCell' = true := fun u hu => by
  obtain ⟨x, -, hx⟩ := List.mem_flatMap.1 hu
  exact hone x u hx
/-- What a row's block holds when one element is cut out and the last place cleared. -/
theorem del_cells {cs new : List Value} {xs : List α} {i c o q : Nat} (henc : ∀ x, (enc x).length = sz) (hi : i < xs.length) (hct : cs.take (xs.length * sz) = xs.flatMap enc) (hcl : cs.length = c * sz) (hc : xs.length ≤ c) (ho : o = (xs.length - 1) * sz) (hq : q = o + new.length) (hnew : new.length = sz) :
    ((cs.take (i * sz) ++ (xs.drop (i + 1)).flatMap enc ++ cs.drop (i * sz + ((xs.drop (i + 1)).flatMap enc).length)).take o ++ new ++ (cs.take (i * sz) ++ (xs.drop (i + 1)).flatMap enc ++ cs.drop (i * sz + ((xs.drop (i + 1)).flatMap enc).length)).drop q).length = c * sz ∧
    ((cs.take (i * sz) ++ (xs.drop (i + 1)).flatMap enc ++ cs.drop (i * sz + ((xs.drop (i + 1)).flatMap enc).length)).take o ++ new ++ (cs.take (i * sz) ++ (xs.drop (i + 1)).flatMap enc ++ cs.drop (i * sz + ((xs.drop (i + 1)).flatMap enc).length)).drop q).take ((xs.take i ++ xs.drop (i + 1)).length * sz) = (xs.take i ++ xs.drop (i + 1)).flatMap enc := by
  have h0 : (xs.length - 1) * sz + sz = xs.length * sz := by rw [← Nat.succ_mul]; congr 1; omega
  have h1 : xs.length * sz ≤ c * sz := Nat.mul_le_mul_right _ hc
  have h2 : (i + 1) * sz ≤ xs.length * sz := Nat.mul_le_mul_right _ hi
  rw [Nat.add_mul, Nat.one_mul] at h2
  have hF : ((xs.drop (i + 1)).flatMap enc).length = (xs.length - (i + 1)) * sz := by rw [gflat_len henc, List.length_drop]
  have h3 : i * sz + (xs.length - (i + 1)) * sz = (xs.length - 1) * sz := by rw [← Nat.add_mul]; congr 1; omega
  have hT : (cs.take (i * sz)).length = i * sz := by rw [List.length_take]; omega
  have hTF : (cs.take (i * sz) ++ (xs.drop (i + 1)).flatMap enc).length = o := by rw [List.length_append, hT, hF, ho, h3]
  have hxl : (xs.take i ++ xs.drop (i + 1)).length = xs.length - 1 := by simp; omega
  have e1 : cs.take (i * sz) = (xs.take i).flatMap enc := by
    rw [← gflat_take henc, ← hct, List.take_take, Nat.min_eq_left (by omega)]
  have hD : (cs.take (i * sz) ++ (xs.drop (i + 1)).flatMap enc ++ cs.drop (i * sz + ((xs.drop (i + 1)).flatMap enc).length)).length = c * sz := by
    rw [List.length_append, hTF, List.length_drop, hF]; omega
  refine ⟨?_, ?_⟩
  · rw [List.length_append, List.length_append, List.length_take, List.length_drop, hD, hnew]; omega
  · rw [hxl, ← ho, List.append_assoc _ new, List.take_append_of_le_length (by rw [List.length_take, hD]; omega), List.take_take, Nat.min_self, List.take_left' hTF, e1, List.flatMap_append]
end
end Go.Proofs.Ytiaikajibefieaa.K
