/- Arguments read: what a list of entries is; the row of a law that holds. -/
import Derived.Test.YtblbddamebbgaaaRows
import Derived.Test.YtblbddamebbgaaaKt
import Derived.WalkKit
import Derived.ProofKit
import Derived.OpenShut
import Derived.JoinedCond
import Derived.Lib.SmallJoins
import Derived.Deep.Slices
namespace Go.Proofs.Ytblbddamebbgaaa.K
open Go Go.RowKit Go.ChangeShapes Go.WideShapes Go.ChangeAt
set_option linter.unusedVariables false
set_option linter.unusedSectionVars false
set_option linter.unusedSimpArgs false

section
variable {H : Type}
theorem bulk_pos (d : DataW H) : 1 ≤ Rows.uptoBulk d := by
  cases d with
  | lit l => cases l <;> simp [Rows.uptoBulk]
  | _ => simp [Rows.uptoBulk]
theorem bulkAll_len : ∀ l : List (DataW H), l.length ≤ Rows.uptoBulkAll l
  | [] => by simp
  | d :: l => by have := bulk_pos d; have := bulkAll_len l; simp only [Rows.uptoBulkAll, List.length_cons]; omega
theorem bulkAll_mem : ∀ (l : List (DataW H)) (d : DataW H), d ∈ l → Rows.uptoBulk d ≤ Rows.uptoBulkAll l
  | [], d, h => by simp at h
  | x :: l, d, h => by
    simp only [Rows.uptoBulkAll]
    rcases List.mem_cons.1 h with rfl | h
    · omega
    · have := bulkAll_mem l d h; omega
theorem bulkAll_append : ∀ (l m : List (DataW H)), Rows.uptoBulkAll (l ++ m) = Rows.uptoBulkAll l + Rows.uptoBulkAll m
  | [], m => by simp [Rows.uptoBulkAll]
  | x :: l, m => by simp only [List.cons_append, Rows.uptoBulkAll, bulkAll_append l m]; omega

variable {enc : TypeId × Value → H} {w : World} {spare : Nat → Bool} {held : Bool} {fuel : Nat} {cs : List Value} {x : DataW H × List MemPlace}
theorem cellsOf5 : Try.prog.cellsOf 5 = 1 := by kernel_rfl
theorem cellsOf25 : Try.prog.cellsOf 25 = 4 := by kernel_rfl
theorem cellsOf9 : Try.prog.cellsOf 9 = 1 := by kernel_rfl
theorem cellsOf22 : Try.prog.cellsOf 22 = 1 := by kernel_rfl
theorem cellsOf4 : Try.prog.cellsOf 4 = 1 := by kernel_rfl
theorem cellsOf23 : Try.prog.cellsOf 23 = 1 := by kernel_rfl
theorem cellsOf26 : Try.prog.cellsOf 26 = 1 := by kernel_rfl
theorem addr_add0 (a : Addr) : a.add 0 = a := by cases a; simp [Addr.add]
theorem cell_spot {w : World} {a : Addr} {v : Value} (h : w.cell? a = some v) : a.spot = none := by
  unfold World.cell? at h
  split at h
  · cases hs : a.spot with
    | none => rfl
    | some s => rw [hs] at h; simp at h
  · cases h
theorem cells_at {a : Addr} {n : Nat} {cs : List Value} (h : w.cells? 0 a n = some cs) (h0 : 0 < n) : a.spot = none ∧ a.block < w.heap.size ∧ cs.length = n ∧ Cells w a.block a.off cs := by
  obtain ⟨-, hl, hg⟩ := World.cells?_some h
  have h1 := hg 0 h0
  rw [addr_add0] at h1
  have hv : cs[0]? = some (cs[0]'(by omega)) := List.getElem?_eq_getElem _
  rw [hv] at h1
  refine ⟨cell_spot h1, World.block_lt_of_cell? w _ h1, hl, fun j v hj => ?_⟩
  have hlt := (List.getElem?_eq_some_iff.1 hj).1
  have := hg j (by omega)
  rw [hj] at this
  obtain ⟨b, o, sp⟩ := a
  have hsp : sp = none := cell_spot h1
  subst hsp
  rw [add_mk] at this
  exact this
theorem open_bytes (h : DataW.trod enc Try.prog w 0 spare held fuel 23 cs = some x) : ∃ v l, cs = [v] ∧ Byts (fun k => k < w.heap.size) w v l ∧ l.length + 1 ≤ Rows.uptoBulk x.1 := by
  rcases Go.Deep.open_slice Try.underlying23 h with ⟨rfl, rfl⟩ | ⟨a, len, cap, m, n, D, Pl, rfl, -, hl, -, hm, rfl, hel⟩
  · exact ⟨_, [], rfl, byts_nil _ _, by simp [Rows.uptoBulk]⟩
  · have hle : len ≤ m := by rw [hm]; split <;> omega
    have hcell : ∀ i, i < len → ∃ u : UInt8, w.cell? (a.add i) = some (.int .u8 u.toNat) := fun i hi => by
      obtain ⟨cs', h1, h2⟩ := hel i (by omega)
      obtain ⟨z, rfl, -, hw⟩ := DataW.trod_int Try.underlying5 h2
      rw [cellsOf5, Nat.mul_one] at h1
      have hb := bounds_u8 hw
      refine ⟨UInt8.ofNat z.toNat, ?_⟩
      rw [cell_of_cells?_one h1]
      congr 2
      simp
      omega
    refine ⟨_, (List.range len).map fun i => if hi : i < len then (hcell i hi).choose else 0, rfl, ⟨some a, cap, by simp, by simpa using hl, fun hne => ?_⟩, ?_⟩
    · have h0 : 0 < len := by
        rcases Nat.eq_zero_or_pos len with h | h
        · subst h; simp at hne
        · exact h
      obtain ⟨u0, h1⟩ := hcell 0 h0
      rw [addr_add0] at h1
      obtain ⟨b, o, sp⟩ := a
      have hsp : sp = none := cell_spot h1
      subst hsp
      refine ⟨b, o, rfl, World.block_lt_of_cell? w _ h1, fun i u hi => ?_⟩
      have hlt : i < len := by have := (List.getElem?_eq_some_iff.1 hi).1; simpa using this
      rw [List.getElem?_map, List.getElem?_range hlt] at hi
      simp only [Option.map_some, Option.some.injEq, dif_pos hlt] at hi
      have := (hcell i hlt).choose_spec
      rw [hi, add_mk] at this
      exact this
    · have := bulkAll_len ((List.range len).map D)
      simp only [List.length_map, List.length_range] at this
      simp only [List.length_map, List.length_range, Rows.uptoBulk]
      omega
theorem list4 {α : Type} : ∀ {l : List α}, l.length = 4 → ∃ a b c d, l = [a, b, c, d]
  | [a, b, c, d], _ => ⟨a, b, c, d, rfl⟩
theorem open_ent (h : DataW.trod enc Try.prog w 0 spare held fuel 25 cs = some x) (hb : Rows.uptoBulk x.1 ≤ 1048576) : ∃ e bv, cs = cellsOf e bv ∧ Byts (fun k => k < w.heap.size) w bv e.v ∧ EntOk e := by
  obtain ⟨y0, y1, y2, y3, n, rfl, hl, h0, h1, h2, h3⟩ := Go.Joins.trod_struct4 Try.underlying25 h
  rw [cellsOf25] at hl
  obtain ⟨c0, c1, c2, c3, rfl⟩ := list4 hl
  replace h0 : DataW.trod enc Try.prog w 0 spare held n 9 ((([c0, c1, c2, c3] : List Value).drop 0).take (Try.prog.cellsOf 9)) = some y0 := h0
  replace h1 : DataW.trod enc Try.prog w 0 spare held n 22 ((([c0, c1, c2, c3] : List Value).drop 1).take (Try.prog.cellsOf 22)) = some y1 := h1
  replace h2 : DataW.trod enc Try.prog w 0 spare held n 4 ((([c0, c1, c2, c3] : List Value).drop 2).take (Try.prog.cellsOf 4)) = some y2 := h2
  replace h3 : DataW.trod enc Try.prog w 0 spare held n 23 ((([c0, c1, c2, c3] : List Value).drop 3).take (Try.prog.cellsOf 23)) = some y3 := h3
  rw [cellsOf9] at h0; rw [cellsOf22] at h1; rw [cellsOf4] at h2; rw [cellsOf23] at h3
  obtain ⟨k, e0, rfl, -⟩ := DataW.trod_string Try.underlying9 h0
  obtain ⟨s, e1, rfl, hs⟩ := DataW.trod_int Try.underlying22 h1
  obtain ⟨g, e2, rfl⟩ := DataW.trod_bool Try.underlying4 h2
  obtain ⟨bv, l, e3, hby, hlen⟩ := open_bytes h3
  simp at e0 e1 e2 e3
  subst e0; subst e1; subst e2; subst e3
  have hsb := bounds_u64 hs
  have hk : k.data.toList.length = k.size := by simp
  simp only [Rows.uptoBulk, Rows.uptoBulkAll] at hb
  exact ⟨⟨k, s, g, l⟩, c3, rfl, hby, ⟨hsb.1, hsb.2, by simp only; omega, by simp only; omega⟩⟩
theorem open_row {v : Value} (h : DataW.trod enc Try.prog w 0 spare held fuel 26 cs = some x) (hcs : cs = [v]) (hb : Rows.uptoBulk x.1 ≤ 1048576) : ∃ es, Row (fun k => k < w.heap.size) w v es ∧ es.length ≤ 1048576 := by
  rcases Go.Deep.open_slice Try.underlying26 h with ⟨rfl, rfl⟩ | ⟨a, len, cap, m, n, D, Pl, rfl, -, hl, -, hm, rfl, hel⟩
  · cases hcs; exact ⟨[], row_nil _ _, by simp⟩
  · cases hcs
    have hle : len ≤ m := by rw [hm]; split <;> omega
    simp only [Rows.uptoBulk] at hb
    have hlen : len ≤ 1048576 := by have := bulkAll_len ((List.range len).map D); simp at this; omega
    have hent : ∀ i, i < len → ∃ e : Ent, ∃ bv, w.cells? 0 (a.add (i * 4)) 4 = some (cellsOf e bv) ∧ Byts (fun k => k < w.heap.size) w bv e.v ∧ EntOk e := fun i hi => by
      obtain ⟨cs', h1, h2⟩ := hel i (by omega)
      rw [cellsOf25] at h1
      have := bulkAll_mem ((List.range len).map D) (D i) (List.mem_map.2 ⟨i, List.mem_range.2 hi, rfl⟩)
      obtain ⟨e, bv, rfl, h3, h4⟩ := open_ent h2 (by simp only; omega)
      exact ⟨e, bv, h1, h3, h4⟩
    refine ⟨(List.range len).map fun i => if hi : i < len then (hent i hi).choose else z0, ⟨some a, cap, by simp, by simpa using hl, by simp; omega, fun e he => ?_, fun hne => ?_⟩, by simpa using hlen⟩
    · obtain ⟨i, hi, rfl⟩ := List.mem_map.1 he
      have hlt := List.mem_range.1 hi
      rw [dif_pos hlt]
      exact (hent i hlt).choose_spec.choose_spec.2.2
    · have h0 : 0 < len := by
        rcases Nat.eq_zero_or_pos len with h | h
        · subst h; simp at hne
        · exact h
      obtain ⟨e0, bv0, h1, -⟩ := hent 0 h0
      rw [Nat.zero_mul, addr_add0] at h1
      obtain ⟨hsp, hlt, -, -⟩ := cells_at h1 (by omega)
      obtain ⟨b, o, sp⟩ := a
      simp only at hsp hlt
      subst hsp
      refine ⟨b, o, rfl, hlt, fun i e hi => ?_⟩
      have hil : i < len := by have := (List.getElem?_eq_some_iff.1 hi).1; simpa using this
      rw [List.getElem?_map, List.getElem?_range hil] at hi
      simp only [Option.map_some, Option.some.injEq, dif_pos hil] at hi
      subst hi
      have h2 := (hent i hil).choose_spec
      generalize (hent i hil).choose = e1 at h2 ⊢
      obtain ⟨bv1, h3, h4, -⟩ := h2
      obtain ⟨-, -, -, hC⟩ := cells_at h3 (by omega)
      rw [add_mk] at hC
      exact ⟨_, hC, h4⟩
end

/-! ### the row of a law that holds -/
section
variable {H : Type} {enc : TypeId × Value → H} {P : Program} {W W' : World}
theorem trodAll_stays (hl : laidOutB P = true) (hb : Below W.heap.size W W') {sp : Nat → Bool} : ∀ (ts : List TypeId) (vs : List Value) (ds : List (DataW H)) (p : List MemPlace), (∀ t ∈ ts, P.readableRec t = true ∧ t < P.types.size) → (∀ x ∈ p, x.block < W.heap.size) → (∀ x ∈ p, sp x.block = true) →
    DataW.TrodAll enc P W 0 (fun _ => true) true ts vs ds p → DataW.TrodAll enc P W' 0 sp true ts vs ds p
  | [], vs, ds, p, _, _, _, h => by
    obtain ⟨rfl, rfl, rfl⟩ := trodAll_nil h
    exact trodAll_mk0
  | t :: ts, vs, ds, p, ht, hlt, hsp, h => by
    obtain ⟨v, vs', d, ds', p1, q, rfl, rfl, rfl, h1, h2⟩ := trodAll_cons h
    exact trodAll_cons_mk (WideElems.Trod_stays hl (ht t (by simp)).1 (ht t (by simp)).2 h1 (fun x hx => hb.same (hlt x (by simp [hx]))) (fun x hx => hsp x (by simp [hx])))
      (trodAll_stays hl hb ts vs' ds' q (fun t h => ht t (by simp [h])) (fun x hx => hlt x (by simp [hx])) (fun x hx => hsp x (by simp [hx])) h2)
end
end Go.Proofs.Ytblbddamebbgaaa.K
