/- The row of a law that holds: from what the walk gives to the row's own words. -/
import Derived.Test.YtblbddamebbgaaaKu
import Derived.Test.YtblbddamebbgaaaKz
import Derived.Test.YtblbddamebbgaaaPa
namespace Go.Proofs.Ytblbddamebbgaaa.K
open Go Go.RowKit Go.ChangeShapes Go.WideShapes Go.ChangeAt
set_option linter.unusedVariables false
set_option linter.unusedSectionVars false
set_option linter.unusedSimpArgs false
set_option maxRecDepth 100000

section
variable {H : Type} {enc : TypeId × Value → H} {W W' : World}
theorem laidOut : laidOutB Try.prog = true := by kernel_rfl
theorem own : ownKnob Try.prog.godebug = none := by kernel_rfl
theorem post_true {f : Func} {s : ChangeSpec} {fresh handsOn again : Bool} {args : Array Value} {ds gs : List (DataW H)} {before : List MemPlace}
    (hW : DataW.Whole enc Try.prog f.params.toList s.vars false W args.toList ds gs before) (hv : s.vars = []) (hs : s.fn H (ds ++ gs) = { results := [.lit (.bool true)], args := ds })
    (ht : ∀ t ∈ f.params.toList, Try.prog.readableRec t = true ∧ t < Try.prog.types.size) (hr : f.resultTypes = #[4]) (hx : Ext W W') :
    s.post enc Try.prog f false fresh handsOn again W args (.bool true) W' := by
  have hb := hx.below
  have hlt : ∀ p ∈ before, p.block < W.heap.size := fun p hp => hW.lt p hp
  have hargs : ∀ sp : Nat → Bool, (∀ p ∈ before, sp p.block = true) → DataW.TrodAll enc Try.prog W' 0 sp true f.params.toList args.toList (s.fn H (ds ++ gs)).args before := fun sp hsp => by
    obtain ⟨p, q, hA, hV, rfl, -, -⟩ := hW
    rw [hv] at hV
    obtain ⟨rfl, rfl⟩ := trodVars_none hV
    rw [hs]
    simp only [List.append_nil] at hlt hsp ⊢
    exact trodAll_stays laidOut hb _ _ _ _ ht hlt hsp hA
  have hres : ∀ (b : Nat) (sp : Nat → Bool) (hd : Bool), DataW.TrodAll enc Try.prog W' b sp hd f.resultTypes.toList ((Value.bool true).resultList f.resultTypes.size) (s.fn H (ds ++ gs)).results [] := fun b sp hd => by
    rw [hs, hr]
    exact trodAll_cons_mk (shut_bool Try.underlying4 _) trodAll_mk0
  have hvars : ∀ sp : Nat → Bool, DataW.TrodVars enc Try.prog W' sp s.vars (s.fn H (ds ++ gs)).vars [] := fun sp => by
    rw [hs, hv]; rfl
  have hold : ∀ p ∈ before, (fun b => decide (b < W.heap.size)) p.block = true := fun p hp => by simpa using hlt p hp
  refine ⟨ds, gs, before, [], before, [], hW, hres _ _ _, hargs _ hold, hvars _, hb.frame _, fun _ => ?_⟩
  obtain ⟨_, _, _, _, _, hz, hn⟩ := hW
  refine ⟨ok_one hr rfl (okWide_bool_mk Try.underlying4 _), _, _, ([] ++ before) ++ [], ⟨[] ++ before, [], trodAll_append (hargs _ (fun _ _ => rfl)) (hres _ _ _), hvars _, rfl, ?_, fun h => by cases h⟩, ?_⟩
  · intro b off hp
    simp only [List.nil_append, List.append_nil] at hp
    rw [hb.frozen (p := ⟨b, off, none⟩) (hlt _ hp)]
    exact hz b off hp
  · intro p hp _
    simpa using hp
/-- One argument: of type 26, a list. -/
theorem open_row_arg {r : Reach} {b0 : Nat} {v : Value} {d : DataW H} {p : List MemPlace} (h : DataW.Trod enc Try.prog W 0 (fun _ => true) true 26 v d p) (hval : Value.okWide Try.prog W r b0 26 v) (hb : Rows.uptoBulk d ≤ 1048576) : ∃ es, Row (fun k => k < W.heap.size) W v es ∧ es.length ≤ 1048576 := by
  obtain ⟨a, len, cap, rfl⟩ := okWide_slice Try.underlying26 hval
  obtain ⟨n, hn⟩ := h
  exact open_row hn rfl hb
theorem open_ent_arg {r : Reach} {b0 : Nat} {v : Value} {d : DataW H} {p : List MemPlace} (h : DataW.Trod enc Try.prog W 0 (fun _ => true) true 25 v d p) (hval : Value.okWide Try.prog W r b0 25 v) (hb : Rows.uptoBulk d ≤ 1048576) : ∃ e bv, v = .agg (cellsOf e bv).toArray ∧ Byts (fun k => k < W.heap.size) W bv e.v ∧ EntOk e := by
  obtain ⟨cs, rfl, -⟩ := okWide_struct Try.underlying25 hval
  obtain ⟨n, hn⟩ := h
  obtain ⟨e, bv, h1, h2, h3⟩ := open_ent hn hb
  refine ⟨e, bv, ?_, h2, h3⟩
  have h1 : cs.toList = cellsOf e bv := h1
  rw [← h1]
/-- .. of type 65: a list of lists. -/
theorem open_rows_arg {r : Reach} {b0 : Nat} {v : Value} {d : DataW H} {p : List MemPlace} (h : DataW.Trod enc Try.prog W 0 (fun _ => true) true 65 v d p) (hval : Value.okWide Try.prog W r b0 65 v) (hb : Rows.uptoBulk d ≤ 1048576) : ∃ ls, LRow (fun k => k < W.heap.size) W v ls ∧ ls.length ≤ 1048576 := by
  obtain ⟨a', len, cap, rfl⟩ := okWide_slice Try.underlying65 hval
  obtain ⟨fu, hn⟩ := h
  rcases Go.Deep.open_slice Try.underlying65 hn with ⟨he, hx⟩ | ⟨a, len2, cap2, m, n, D, Pl, he, -, hl, -, hm, hx, hel⟩
  · have he : [Value.slice a' len cap] = [.slice none 0 0] := he
    cases he
    exact ⟨[], ⟨none, 0, rfl, Nat.le_refl _, by simp, fun h => absurd rfl h⟩, by simp⟩
  · have he : [Value.slice a' len cap] = [.slice (some a) len2 cap2] := he
    cases he
    cases hx
    have hle : len ≤ m := by rw [hm]; split <;> omega
    simp only [Rows.uptoBulk] at hb
    have hlen : len ≤ 1048576 := by have := bulkAll_len ((List.range len).map D); simp at this; omega
    have hent : ∀ i, i < len → ∃ l : List Ent, ∃ rv, W.cell? (a.add i) = some rv ∧ Row (fun k => k < W.heap.size) W rv l := fun i hi => by
      obtain ⟨cs', h1, h2⟩ := hel i (by omega)
      rw [cellsOf26, Nat.mul_one] at h1
      have := bulkAll_mem ((List.range len).map D) (D i) (List.mem_map.2 ⟨i, List.mem_range.2 hi, rfl⟩)
      obtain ⟨-, hl1, hg⟩ := World.cells?_some h1
      obtain ⟨rv, rfl⟩ : ∃ rv, cs' = [rv] := by
        match cs', hl1 with
        | [rv], _ => exact ⟨rv, rfl⟩
      have h0 := hg 0 (by omega)
      rw [addr_add0] at h0
      obtain ⟨es, h3, -⟩ := open_row h2 rfl (by simp only; omega)
      exact ⟨es, rv, h0, h3⟩
    refine ⟨(List.range len).map fun i => if hi : i < len then (hent i hi).choose else [], ⟨some a, cap, by simp, by simpa using hl, by simp; omega, fun hne => ?_⟩, by simpa using hlen⟩
    have h0 : 0 < len := by
      rcases Nat.eq_zero_or_pos len with h | h
      · subst h; simp at hne
      · exact h
    obtain ⟨l0, rv0, h1, -⟩ := hent 0 h0
    rw [addr_add0] at h1
    obtain ⟨b, o, sp⟩ := a
    have hsp : sp = none := cell_spot h1
    subst hsp
    refine ⟨b, o, rfl, World.block_lt_of_cell? W _ h1, fun i l hi => ?_⟩
    have hil : i < len := by have := (List.getElem?_eq_some_iff.1 hi).1; simpa using this
    rw [List.getElem?_map, List.getElem?_range hil] at hi
    simp only [Option.map_some, Option.some.injEq, dif_pos hil] at hi
    subst hi
    have h2 := (hent i hil).choose_spec
    generalize (hent i hil).choose = l1 at h2 ⊢
    obtain ⟨rv1, h3, h4⟩ := h2
    rw [add_mk] at h3
    refine ⟨rv1, fun j u hj => ?_, h4⟩
    have : j = 0 := by have := (List.getElem?_eq_some_iff.1 hj).1; simp at this; omega
    subst this
    simp at hj
    subst hj
    rw [Nat.mul_one, Nat.add_zero]; exact h3
theorem cellsOf3 : Try.prog.cellsOf 3 = 1 := by kernel_rfl
/-- .. of type 42: numbers. -/
theorem open_ints_arg {r : Reach} {b0 : Nat} {v : Value} {d : DataW H} {p : List MemPlace} (h : DataW.Trod enc Try.prog W 0 (fun _ => true) true 42 v d p) (hval : Value.okWide Try.prog W r b0 42 v) (hb : Rows.uptoBulk d ≤ 1048576) : ∃ zs, IRow (fun k => k < W.heap.size) W v zs ∧ zs.length ≤ 1048576 := by
  obtain ⟨a', len, cap, rfl⟩ := okWide_slice Try.underlying42 hval
  obtain ⟨fu, hn⟩ := h
  rcases Go.Deep.open_slice Try.underlying42 hn with ⟨he, hx⟩ | ⟨a, len2, cap2, m, n, D, Pl, he, -, hl, -, hm, hx, hel⟩
  · have he : [Value.slice a' len cap] = [.slice none 0 0] := he
    cases he
    exact ⟨[], ⟨none, 0, rfl, by simp, fun h => absurd rfl h⟩, by simp⟩
  · have he : [Value.slice a' len cap] = [.slice (some a) len2 cap2] := he
    cases he
    cases hx
    have hle : len ≤ m := by rw [hm]; split <;> omega
    simp only [Rows.uptoBulk] at hb
    have hlen : len ≤ 1048576 := by have := bulkAll_len ((List.range len).map D); simp at this; omega
    have hent : ∀ i, i < len → ∃ z : Int, W.cell? (a.add i) = some (.int .i64 z) := fun i hi => by
      obtain ⟨cs', h1, h2⟩ := hel i (by omega)
      obtain ⟨z, rfl, -, hw⟩ := DataW.trod_int Try.underlying3 h2
      rw [cellsOf3, Nat.mul_one] at h1
      exact ⟨z, cell_of_cells?_one h1⟩
    refine ⟨(List.range len).map fun i => if hi : i < len then (hent i hi).choose else 0, ⟨some a, cap, by simp, by simp; omega, fun hne => ?_⟩, by simpa using hlen⟩
    have h0 : 0 < len := by
      rcases Nat.eq_zero_or_pos len with h | h
      · subst h; simp at hne
      · exact h
    obtain ⟨z0', h1⟩ := hent 0 h0
    rw [addr_add0] at h1
    obtain ⟨b, o, sp⟩ := a
    have hsp : sp = none := cell_spot h1
    subst hsp
    refine ⟨b, o, rfl, World.block_lt_of_cell? W _ h1, fun i z hi => ?_⟩
    have hil : i < len := by have := (List.getElem?_eq_some_iff.1 hi).1; simpa using this
    rw [List.getElem?_map, List.getElem?_range hil] at hi
    simp only [Option.map_some, Option.some.injEq, dif_pos hil] at hi
    have h2 := (hent i hil).choose_spec
    rw [hi, add_mk] at h2
    exact h2
end
end Go.Proofs.Ytblbddamebbgaaa.K
