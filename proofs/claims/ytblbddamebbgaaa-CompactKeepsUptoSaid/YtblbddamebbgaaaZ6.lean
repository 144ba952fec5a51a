import Derived.Test.YtblbddamebbgaaaZ5
/- Walks: the document's table: Size, Newest, From, tower. -/
namespace Go.Proofs.Ytblbddamebbgaaa.K
open Go Go.RowKit
set_option linter.unusedVariables false
set_option linter.unusedSimpArgs false

def sizeL (es : List Ent) : Nat := (es.map costE).sum
theorem sizeL_le : ∀ es : List Ent, (∀ e ∈ es, EntOk e) → sizeL es ≤ es.length * 4194304
  | [], _ => by simp [sizeL]
  | e :: es, h => by
    have h1 := cost_le (h e (by simp))
    have h2 := sizeL_le es fun x hx => h x (by simp [hx])
    simp only [sizeL, List.map_cons, List.sum_cons, List.length_cons] at h2 ⊢
    omega
theorem sizeL_take {es : List Ent} {s : Nat} (h : s < es.length) : sizeL (es.take (s + 1)) = sizeL (es.take s) + costE es[s] := by
  unfold sizeL
  rw [List.take_add_one, List.getElem?_eq_getElem h, List.map_append, List.sum_append]
  simp
theorem C41 {D A : Nat → Prop} {w : World} {r : Rd} (hR : RefT D A w r) (hl : r.L.length ≤ 1048576) : Rt Try.prog 41 [.pointer (some ⟨r.br, 0, none⟩)] w fun v w' => v = .int .i64 (sizeL r.L : Nat) ∧ Ext w w' := by
  have hrow := hR.ll.row (by omega)
  obtain ⟨ad, c, hlv, hcap, -⟩ := hrow.form
  have hok := hR.ll.ok
  have hW := hWw
  have hFF := hFw
  have hE : Ext w w := Keep.refl _ _
  refine rt_body Try.func41 rfl Try.ntmps41 rfl ?_
  refine wc_seq ?_
  refine wc_region ?_
  refine wl_val hW rfl rfl (x_assign rfl) ?_
  refine wl_nil ?_
  refine nx_then ?_
  refine wc_seq ?_
  refine wc_region ?_
  refine wl_val hW rfl rfl (x_assign rfl) ?_
  refine wl_nil ?_
  refine nx_then ?_
  refine wc_seq ?_
  refine wc_seq ?_
  refine wc_region ?_
  refine wl_val hW rfl rfl (x_assign rfl) ?_
  refine wl_nil ?_
  refine nx_then ?_
  refine wc_block ?_
  refine wc_loop (σ := Nat) (fun s => [(0, .pointer (some ⟨r.br, 0, none⟩)), (3, .int .i64 (sizeL (r.L.take s) : Nat)), (4, .int .i64 (s : Nat))]) (fun s w' => s ≤ r.L.length ∧ Ext w w') (fun s => r.L.length - s) 0 ?_ ?_ ?_
  · exact ⟨Nat.zero_le _, hE⟩
  · repeat (first | exact sub_nil | refine sub_cons rfl ?_)
  · rintro s wr ⟨hs, hE⟩
    have hHC : wr.cell? ⟨r.br, 0 + 1, none⟩ = some (.slice ad r.L.length c) := by rw [← hlv]; exact (hR.ext hE).tb.cell (o := 1) rfl
    refine wc_seq ?_
    refine wc_seq ?_
    refine wc_region ?_
    refine wl_val hW rfl rfl (x_move rfl) ?_
    refine wl_val hW rfl rfl (x_move rfl) ?_
    refine wl_val hW rfl rfl (x_nilCheck rfl) ?_
    refine wl_val hW rfl rfl (x_fieldAddr Try.underlying53 rfl fl26.siz rfl) ?_
    refine wl_val hW rfl rfl (x_load fl26 rfl hHC) ?_
    refine wl_val hW rfl rfl (x_len Try.underlying26 rfl) ?_
    refine wl_val hW rfl rfl (x_lss rfl rfl) ?_
    refine wl_nil ?_
    refine nx_then ?_
    refine wc_dec rfl (fun hc => ?_) (fun hc => ?_)
    · refine wc_skip ?_
      refine nx_then ?_
      refine wc_seq ?_
      refine wc_block ?_
      have hlt : s < r.L.length := by omega
      have hE1 := hE
      refine wc_draw' 22 hW mixed (by kernel_rfl) (fun w0 hx0 => ?_)
      replace hE := hE.trans hx0
      obtain ⟨b, o, cap', bv, e1, hA, hC20, hb1, hok1⟩ := (hrow.ext hE).at s hlt
      rw [hlv] at e1
      cases e1
      obtain ⟨av, cv, hbv, hcv⟩ := hb1.form
      subst hbv
      have hHC0 := hx0.cell hHC
      have hs1 := sizeL_le (r.L.take s) fun e he => hok e (List.mem_of_mem_take he)
      have hs2 : (r.L.take s).length ≤ 1048576 := by simp; omega
      have hs3 := cost_le hok1
      have hs4 : costE r.L[s] = r.L[s].k.size + r.L[s].v.length + 16 := rfl
      refine q_val rfl rfl (fun _ hx => x_move rfl) ?_
      refine q_val rfl rfl (fun _ hx => x_move rfl) ?_
      refine q_val rfl rfl (fun _ hx => x_nilCheck rfl) ?_
      refine q_val rfl rfl (fun _ hx => x_fieldAddr Try.underlying53 rfl fl26.siz rfl) ?_
      refine q_val rfl rfl (fun _ hx => x_load fl26 rfl (hx.cell hHC0)) ?_
      refine q_val rfl rfl (fun _ hx => x_move rfl) ?_
      refine q_val rfl rfl (fun _ hx => x_indexAddr Try.underlying26 ag25.siz rfl rfl (by omega) (by omega)) ?_
      refine q_val rfl rfl (fun _ hx => x_fieldAddr Try.underlying25 rfl fl9.siz rfl) ?_
      refine q_val rfl rfl (fun _ hx => x_load fl9 rfl (hx.cell (hC20 0 _ rfl))) ?_
      refine q_val rfl rfl (fun _ hx => x_lens Try.underlying9 rfl) ?_
      refine q_val rfl rfl (fun _ hx => x_addn (i := sizeL (r.L.take s)) (j := r.L[s].k.size) rfl rfl (by omega)) ?_
      refine q_val rfl rfl (fun _ hx => x_move rfl) ?_
      refine q_val rfl rfl (fun _ hx => x_nilCheck rfl) ?_
      refine q_val rfl rfl (fun _ hx => x_fieldAddr Try.underlying53 rfl fl26.siz rfl) ?_
      refine q_val rfl rfl (fun _ hx => x_load fl26 rfl (hx.cell hHC0)) ?_
      refine q_val rfl rfl (fun _ hx => x_move rfl) ?_
      refine q_val rfl rfl (fun _ hx => x_indexAddr Try.underlying26 ag25.siz rfl rfl (by omega) (by omega)) ?_
      refine q_val rfl rfl (fun _ hx => x_fieldAddr Try.underlying25 rfl fl23.siz rfl) ?_
      refine q_val rfl rfl (fun _ hx => x_load fl23 rfl (hx.cell (hC20 3 _ rfl))) ?_
      refine q_val rfl rfl (fun _ hx => x_len Try.underlying23 rfl) ?_
      refine q_val rfl rfl (fun _ hx => x_addn (i := sizeL (r.L.take s) + r.L[s].k.size) (j := r.L[s].v.length) rfl rfl (by omega)) ?_
      refine q_val rfl rfl (fun _ hx => x_addn (i := sizeL (r.L.take s) + r.L[s].k.size + r.L[s].v.length) (j := 16) rfl rfl (by omega)) ?_
      refine q_nil (tail0 (fun wt hxt => ?_))
      replace hE := hE.trans hxt
      refine wl_val hW rfl rfl (x_assign rfl) ?_
      refine wl_nil ?_
      refine nx_block ?_
      refine nx_then ?_
      refine wc_region ?_
      refine wl_val hW rfl rfl (x_move rfl) ?_
      refine wl_val hW rfl rfl (x_inc (s := s) rfl (by omega)) ?_
      refine wl_val hW rfl rfl (x_assign rfl) ?_
      refine wl_nil ?_
      exact nx_next (s + 1) (by omega) ⟨hlt, hE⟩ (by rw [sizeL_take hlt, show sizeL (r.L.take s) + costE r.L[s] = sizeL (r.L.take s) + r.L[s].k.size + r.L[s].v.length + 16 from by omega]; repeat (first | exact sub_nil | refine sub_cons rfl ?_))
    · refine wc_exit ?_
      refine nx_then_exit ?_
      refine nx_then_exit ?_
      refine nx_block_exit ?_
      refine nx_then ?_
      refine wc_seq ?_
      refine wc_region ?_
      refine wl_val hW rfl rfl (x_move rfl) ?_
      refine wl_val hW rfl rfl (x_assign rfl) ?_
      refine wl_nil ?_
      refine nx_then ?_
      refine wc_ret ?_
      exact ends_ret (res_tmp Try.results41 rfl) ⟨by rw [List.take_of_length_le (by omega)], hE⟩
/-- The newest version of a key up to a number. -/
def newF (es : List Ent) (key : ByteArray) (up : Int) : Option Ent := es.find? fun x => decide (x.k = key) && decide (x.s ≤ up)
theorem C42 {A : Nat → Prop} {w : World} {v : Value} {es : List Ent} {key : ByteArray} {up : Int} (hR : Row A w v es) : Rt Try.prog 42 [v, .string key, .int .u64 up] w fun r w' =>
    ((∃ e bv, newF es key up = some e ∧ e ∈ es ∧ r = .tuple #[.agg (cellsOf e bv).toArray, .bool true] ∧ Byts A w' bv e.v) ∨ (newF es key up = none ∧ r = .tuple #[.agg (cellsOf z0 (.slice none 0 0)).toArray, .bool false])) ∧ Ext w w' := by
  obtain ⟨ad, cap, rfl, hcap, hlen⟩ := hR.form
  replace hR := hR.mono (A' := fun k => A k ∧ k < w.heap.size) fun k hk h => ⟨h, hk⟩
  have hW := hWw
  have hFF := hFw
  have hE : Ext w w := Keep.refl _ _
  refine rt_body Try.func42 rfl Try.ntmps42 rfl ?_
  refine wc_seq ?_
  refine wc_region ?_
  refine wl_alloc (cs := [.string ⟨#[]⟩, .int .u64 0, .bool false, .slice none 0 0]) hW rfl rfl Try.zeroValue25 rfl ?_
  intro b6 w6 hl6 hB6 hx6
  have g6 : w.heap.size ≤ b6 := Nat.le_trans hE.size hl6
  replace hE := hE.trans hx6
  refine wl_val hW rfl rfl (x_assign rfl) ?_
  refine wl_nil ?_
  refine nx_then ?_
  refine wc_seq ?_
  refine wc_seq ?_
  refine wc_region ?_
  refine wl_val hW rfl rfl (x_assign rfl) ?_
  refine wl_nil ?_
  refine nx_then ?_
  refine wc_block ?_
  refine wc_loop (σ := Nat) (fun s => [(0, .slice ad es.length cap), (1, .string key), (2, .int .u64 up), (6, .pointer (some ⟨b6, 0, none⟩)), (8, .int .i64 (s : Nat))]) (fun s w' => (s ≤ es.length ∧ ∀ j (h : j < es.length), j < s → ¬ (es[j].k = key ∧ es[j].s ≤ up)) ∧ Ext w w' ∧ Blk w' b6 [.string ⟨#[]⟩, .int .u64 0, .bool false, .slice none 0 0] 25) (fun s => es.length - s) 0 ?_ ?_ ?_
  · exact ⟨⟨Nat.zero_le _, fun j _ h => absurd h (Nat.not_lt_zero _)⟩, hE, hB6⟩
  · repeat (first | exact sub_nil | refine sub_cons rfl ?_)
  · rintro s wr ⟨hs, hE, hB6⟩
    refine wc_seq ?_
    refine wc_seq ?_
    refine wc_region ?_
    refine wl_val hW rfl rfl (x_move rfl) ?_
    refine wl_val hW rfl rfl (x_move rfl) ?_
    refine wl_val hW rfl rfl (x_len Try.underlying26 rfl) ?_
    refine wl_val hW rfl rfl (x_lss rfl rfl) ?_
    refine wl_nil ?_
    refine nx_then ?_
    refine wc_dec rfl (fun hc => ?_) (fun hc => ?_)
    · refine wc_skip ?_
      refine nx_then ?_
      refine wc_seq ?_
      refine wc_block ?_
      refine wc_seq ?_
      have hlt : s < es.length := by omega
      obtain ⟨b, o, cap', bv, e1, hA, hC17, hb1, hok1⟩ := (hR.ext hE).at s hlt
      cases e1
      refine wc_cut [(0, .slice (some ⟨b, o, none⟩) es.length cap), (1, .string key), (2, .int .u64 up), (6, .pointer (some ⟨b6, 0, none⟩)), (8, .int .i64 (s : Nat)), (30, .bool (decide (es[s].k = key ∧ es[s].s ≤ up)))] (fun w' => w' = wr) ?_ ?_
      · refine wc_region ?_
        refine wl_val hW rfl rfl (x_move rfl) ?_
        refine wl_val hW rfl rfl (x_move rfl) ?_
        refine wl_val hW rfl rfl (x_indexAddr Try.underlying26 ag25.siz rfl rfl (by omega) (by omega)) ?_
        refine wl_val hW rfl rfl (x_fieldAddr Try.underlying25 rfl fl9.siz rfl) ?_
        refine wl_val hW rfl rfl (x_load fl9 rfl (hC17 0 _ rfl)) ?_
        refine wl_val hW rfl rfl (x_move rfl) ?_
        refine wl_val hW rfl rfl (x_seql rfl rfl) ?_
        refine wl_val hW rfl rfl (x_move rfl) ?_
        refine wl_bcases (d := 22) rfl (fun hg22 => ?_) (fun hg22 => ?_)
        · refine wl_val hW rfl rfl (x_move rfl) ?_
          refine wl_val hW rfl rfl (x_move rfl) ?_
          refine wl_val hW rfl rfl (x_indexAddr Try.underlying26 ag25.siz rfl rfl (by omega) (by omega)) ?_
          refine wl_val hW rfl rfl (x_fieldAddr Try.underlying25 rfl fl22.siz rfl) ?_
          refine wl_val hW rfl rfl (x_load fl22 rfl (hC17 1 _ rfl)) ?_
          refine wl_val hW rfl rfl (x_move rfl) ?_
          refine wl_val hW rfl rfl (x_leq rfl rfl) ?_
          refine wl_val hW rfl rfl (x_pickT rfl rfl) ?_
          refine wl_nil ?_
          have hke : es[s].k = key := ba_ext (by simpa using hg22)
          exact nx_cut (by rw [show decide (es[s].k = key ∧ es[s].s ≤ up) = decide (es[s].s ≤ up) from by simp [hke]]; repeat (first | exact sub_nil | refine sub_cons rfl ?_)) rfl
        · refine wl_off hW rfl rfl ?_
          refine wl_off hW rfl rfl ?_
          refine wl_off hW rfl rfl ?_
          refine wl_off hW rfl rfl ?_
          refine wl_off hW rfl rfl ?_
          refine wl_off hW rfl rfl ?_
          refine wl_off hW rfl rfl ?_
          refine wl_val hW rfl rfl (x_pickF rfl rfl) ?_
          refine wl_nil ?_
          have hke : es[s].k ≠ key := fun e => by rw [e] at hg22; simp at hg22
          exact nx_cut (by rw [show decide (es[s].k = key ∧ es[s].s ≤ up) = false from by simp [hke]]; repeat (first | exact sub_nil | refine sub_cons rfl ?_)) rfl
      · rintro _ rfl
        refine nx_then ?_
        refine wc_bool rfl (fun hc => ?_) (fun hc => ?_)
        · refine wc_seq ?_
          have hc' : es[s].k = key ∧ es[s].s ≤ up := of_decide_eq_true hc
          refine wc_region ?_
          refine wl_val hW rfl rfl (x_move rfl) ?_
          refine wl_val hW rfl rfl (x_move rfl) ?_
          refine wl_val hW rfl rfl (x_indexAddr Try.underlying26 ag25.siz rfl rfl (by omega) (by omega)) ?_
          refine wl_val hW rfl rfl (x_loadA ag25 rfl hC17 rfl) ?_
          have hone := cells_one (e := es[s]) hb1.one
          refine wl_storeA hW rfl ag25 rfl rfl hone rfl hB6 rfl ?_
          intro wS hBS hkS
          replace hB6 := hBS
          have hb2 := hb1.ck (CK.of_keep hkS fun k _ h => by have := h.2; omega)
          clear hBS
          replace hE := hE.store hkS g6
          refine wl_val hW rfl rfl (x_assign rfl) ?_
          refine wl_nil ?_
          refine nx_then ?_
          refine wc_ret ?_
          refine nx_block_ret ?_
          refine nx_then_ret ?_
          refine nx_then_ret ?_
          refine nx_block_ret ?_
          refine nx_then_ret ?_
          have hfi : newF es key up = some es[s] := by unfold newF; rw [List.find?_eq_some_iff_getElem]; exact ⟨by simpa using hc', s, hlt, rfl, fun j hj => by have := hs.2 j (by omega) hj; by_cases hk : es[j].k = key; (simp [hk] at this ⊢; exact this); (simp [hk])⟩
          exact ends_ret (res_cell_tmp Try.results42 rfl (run_loadVar_cells ag25 hB6.cells rfl) rfl) ⟨.inl ⟨_, bv, hfi, List.getElem_mem hlt, rfl, hb2.mono fun k _ h => h.1⟩, hE⟩
        · refine wc_skip ?_
          refine nx_block ?_
          refine nx_then ?_
          refine wc_region ?_
          refine wl_val hW rfl rfl (x_move rfl) ?_
          refine wl_val hW rfl rfl (x_inc (s := s) rfl (by omega)) ?_
          refine wl_val hW rfl rfl (x_assign rfl) ?_
          refine wl_nil ?_
          exact nx_next (s + 1) (by omega) ⟨⟨hlt, fun j h hj => by rcases Nat.lt_succ_iff_lt_or_eq.1 hj with hj | rfl; exact hs.2 j h hj; exact of_decide_eq_false hc⟩, hE, hB6⟩ (by repeat (first | exact sub_nil | refine sub_cons rfl ?_))
    · refine wc_exit ?_
      refine nx_then_exit ?_
      refine nx_then_exit ?_
      refine nx_block_exit ?_
      refine nx_then ?_
      refine wc_seq ?_
      refine wc_region ?_
      refine wl_val hW rfl rfl x_build0 ?_
      refine wl_storeA hW rfl ag25 rfl rfl rfl rfl hB6 rfl ?_
      intro wS hBS hkS
      replace hB6 := hBS
      clear hBS
      replace hE := hE.store hkS g6
      refine wl_val hW rfl rfl (x_assign rfl) ?_
      refine wl_nil ?_
      refine nx_then ?_
      refine wc_ret ?_
      have hnone : newF es key up = none := by unfold newF; rw [List.find?_eq_none]; intro x hx; obtain ⟨j, hj, rfl⟩ := List.getElem_of_mem hx; have := hs.2 j hj (by omega); simpa using this
      exact ends_ret (res_cell_tmp Try.results42 rfl (run_loadVar_cells ag25 hB6.cells rfl) rfl) ⟨.inr ⟨hnone, rfl⟩, hE⟩
/-- Where a key's versions begin. -/
def fromN (es : List Ent) (key : ByteArray) : Nat := (es.takeWhile fun x => bl x.k.toList key.toList).length
theorem fromN_eq {es : List Ent} {key : ByteArray} {s : Nat} (hs : s ≤ es.length) (h1 : ∀ j (h : j < es.length), j < s → bl es[j].k.toList key.toList = true) (h2 : ∀ h : s < es.length, bl es[s].k.toList key.toList = false) : fromN es key = s := by
  have := (take_drop_while (p := fun x => bl x.k.toList key.toList) es s hs h1 h2).1
  unfold fromN
  rw [this]; simp; omega
theorem C44 {A : Nat → Prop} {w : World} {v : Value} {es : List Ent} {key : ByteArray} (hR : Row A w v es) : Rt Try.prog 44 [v, .string key] w fun r w' => r = .int .i64 (fromN es key : Nat) ∧ Ext w w' := by
  obtain ⟨ad, cap, rfl, hcap, hlen⟩ := hR.form
  have hW := hWw
  have hFF := hFw
  have hE : Ext w w := Keep.refl _ _
  refine rt_body Try.func44 rfl Try.ntmps44 rfl ?_
  refine wc_seq ?_
  refine wc_region ?_
  refine wl_val hW rfl rfl (x_assign rfl) ?_
  refine wl_nil ?_
  refine nx_then ?_
  refine wc_seq ?_
  refine wc_region ?_
  refine wl_val hW rfl rfl (x_assign rfl) ?_
  refine wl_nil ?_
  refine nx_then ?_
  refine wc_seq ?_
  refine wc_block ?_
  refine wc_loop (σ := Nat) (fun s => [(0, .slice ad es.length cap), (1, .string key), (5, .int .i64 (s : Nat))]) (fun s w' => (s ≤ es.length ∧ ∀ j (h : j < es.length), j < s → bl es[j].k.toList key.toList = true) ∧ Ext w w') (fun s => es.length - s) 0 ?_ ?_ ?_
  · exact ⟨⟨Nat.zero_le _, fun j _ h => absurd h (Nat.not_lt_zero _)⟩, hE⟩
  · repeat (first | exact sub_nil | refine sub_cons rfl ?_)
  · rintro s wr ⟨hs, hE⟩
    refine wc_seq ?_
    refine wc_seq ?_
    refine wc_cut [(0, .slice ad es.length cap), (1, .string key), (5, .int .i64 (s : Nat)), (18, .bool (if h : s < es.length then bl es[s].k.toList key.toList else false))] (fun w' => w' = wr) ?_ ?_
    · refine wc_region ?_
      refine wl_val hW rfl rfl (x_move rfl) ?_
      refine wl_val hW rfl rfl (x_move rfl) ?_
      refine wl_val hW rfl rfl (x_len Try.underlying26 rfl) ?_
      refine wl_val hW rfl rfl (x_lss rfl rfl) ?_
      refine wl_val hW rfl rfl (x_move rfl) ?_
      refine wl_dcases (d := 10) rfl (fun hg10 => ?_) (fun hg10 => ?_)
      · have hlt : s < es.length := by omega
        obtain ⟨b, o, cap', bv, e1, hA, hC13, hb1, hok1⟩ := (hR.ext hE).at s hlt
        cases e1
        refine wl_val hW rfl rfl (x_move rfl) ?_
        refine wl_val hW rfl rfl (x_move rfl) ?_
        refine wl_val hW rfl rfl (x_indexAddr Try.underlying26 ag25.siz rfl rfl (by omega) (by omega)) ?_
        refine wl_val hW rfl rfl (x_fieldAddr Try.underlying25 rfl fl9.siz rfl) ?_
        refine wl_val hW rfl rfl (x_load fl9 rfl (hC13 0 _ rfl)) ?_
        refine wl_val hW rfl rfl (x_move rfl) ?_
        refine wl_val hW rfl rfl (x_slss rfl rfl) ?_
        refine wl_val hW rfl rfl (x_pickT rfl rfl) ?_
        refine wl_nil ?_
        exact nx_cut (by rw [dif_pos hlt]; repeat (first | exact sub_nil | refine sub_cons rfl ?_)) rfl
      · refine wl_off hW rfl rfl ?_
        refine wl_off hW rfl rfl ?_
        refine wl_off hW rfl rfl ?_
        refine wl_off hW rfl rfl ?_
        refine wl_off hW rfl rfl ?_
        refine wl_off hW rfl rfl ?_
        refine wl_off hW rfl rfl ?_
        refine wl_val hW rfl rfl (x_pickF rfl rfl) ?_
        refine wl_nil ?_
        have hlt : ¬ s < es.length := by omega
        exact nx_cut (by rw [dif_neg hlt]; repeat (first | exact sub_nil | refine sub_cons rfl ?_)) rfl
    · rintro _ rfl
      refine nx_then ?_
      refine wc_bool rfl (fun hc => ?_) (fun hc => ?_)
      · have hlt : s < es.length := Decidable.byContradiction fun h => by rw [dif_neg h] at hc; cases hc
        rw [dif_pos hlt] at hc
        refine wc_skip ?_
        refine nx_then ?_
        refine wc_block ?_
        refine wc_region ?_
        refine wl_val hW rfl rfl (x_move rfl) ?_
        refine wl_val hW rfl rfl (x_inc (s := s) rfl (by omega)) ?_
        refine wl_val hW rfl rfl (x_assign rfl) ?_
        refine wl_nil ?_
        refine nx_block ?_
        exact nx_next (s + 1) (by omega) ⟨⟨hlt, fun j h hj => by rcases Nat.lt_succ_iff_lt_or_eq.1 hj with hj | rfl; exact hs.2 j h hj; exact hc⟩, hE⟩ (by repeat (first | exact sub_nil | refine sub_cons rfl ?_))
      · refine wc_exit ?_
        refine nx_then_exit ?_
        refine nx_then_exit ?_
        refine nx_block_exit ?_
        refine nx_then ?_
        refine wc_seq ?_
        refine wc_region ?_
        refine wl_val hW rfl rfl (x_move rfl) ?_
        refine wl_val hW rfl rfl (x_assign rfl) ?_
        refine wl_nil ?_
        refine nx_then ?_
        refine wc_ret ?_
        have hfn : fromN es key = s := fromN_eq hs.1 hs.2 (fun h => by rw [dif_pos h] at hc; exact hc)
        exact ends_ret (res_tmp Try.results44 rfl) ⟨by rw [hfn], hE⟩
theorem C69 {D A : Nat → Prop} {w : World} {r : Rd} (hR : RefT D A w r) (hc : r.came < 4611686018427387904) : Rt Try.prog 69 [.pointer (some ⟨r.br, 0, none⟩)] w fun v w' => v = .int .i64 (towerN r.ds r.came : Nat) ∧ RefT D A w' { r with came := r.came + 1 } ∧ Keep (· ≠ r.br) w w' := by
  obtain ⟨ad, cap, hdv, hlen⟩ := hR.dr.form
  have hcame := hc
  have hW := hWw
  have hFF := hFw
  have hE : Ext w w := Keep.refl _ _
  refine rt_body Try.func69 rfl Try.ntmps69 rfl ?_
  refine wc_seq ?_
  refine wc_region ?_
  refine wl_val hW rfl rfl (x_assign rfl) ?_
  refine wl_nil ?_
  refine nx_then ?_
  refine wc_seq ?_
  refine wc_region ?_
  refine wl_val hW rfl rfl (x_assign rfl) ?_
  refine wl_nil ?_
  refine nx_then ?_
  refine wc_seq ?_
  refine wc_seq ?_
  refine wc_region ?_
  have hHC : w.cell? ⟨r.br, 0 + 0, none⟩ = some (.slice ad r.ds.length cap) := by rw [← hdv]; exact hR.tb.cell (o := 0) rfl
  refine wl_val hW rfl rfl (x_move rfl) ?_
  refine wl_val hW rfl rfl (x_nilCheck rfl) ?_
  refine wl_val hW rfl rfl (x_fieldAddr Try.underlying53 rfl fl42.siz rfl) ?_
  refine wl_val hW rfl rfl (x_load fl42 rfl hHC) ?_
  refine wl_val hW rfl rfl (x_len Try.underlying42 rfl) ?_
  refine wl_val hW rfl rfl (x_gtr rfl rfl) ?_
  refine wl_nil ?_
  refine nx_then ?_
  refine wc_cut [(0, .pointer (some ⟨r.br, 0, none⟩)), (3, .int .i64 (towerN r.ds r.came : Nat))] (fun w' => Ext w w') ?_ ?_
  · refine wc_dec rfl (fun hc => ?_) (fun hc => ?_)
    · have hpos : 0 < r.ds.length := by omega
      have hlt : r.came % r.ds.length < r.ds.length := Nat.mod_lt _ hpos
      have hti := towerN_int r.ds r.came hpos
      refine wc_seq ?_
      refine wc_draw' 14 hW mixed (by kernel_rfl) (fun w0 hx0 => ?_)
      replace hE := hE.trans hx0
      obtain ⟨b, o, cap', e1, hC25⟩ := (hR.dr.ext hE).at (r.came % r.ds.length) hlt
      rw [hdv] at e1
      cases e1
      have hHC0 := hx0.cell hHC
      refine q_val rfl rfl (fun _ hx => x_move rfl) ?_
      refine q_val rfl rfl (fun _ hx => x_nilCheck rfl) ?_
      refine q_val rfl rfl (fun _ hx => x_fieldAddr Try.underlying53 rfl fl42.siz rfl) ?_
      refine q_val rfl rfl (fun _ hx => x_load fl42 rfl (hx.cell hHC0)) ?_
      refine q_val rfl rfl (fun _ hx => x_move rfl) ?_
      refine q_val rfl rfl (fun _ hx => x_nilCheck rfl) ?_
      refine q_val rfl rfl (fun _ hx => x_fieldAddr Try.underlying53 rfl fl3.siz rfl) ?_
      refine q_val rfl rfl (fun _ hx => x_load fl3 rfl (hx.cell (hx0.cell (hR.tb.cell (o := 3) rfl)))) ?_
      refine q_val rfl rfl (fun _ hx => x_move rfl) ?_
      refine q_val rfl rfl (fun _ hx => x_nilCheck rfl) ?_
      refine q_val rfl rfl (fun _ hx => x_fieldAddr Try.underlying53 rfl fl42.siz rfl) ?_
      refine q_val rfl rfl (fun _ hx => x_load fl42 rfl (hx.cell hHC0)) ?_
      refine q_val rfl rfl (fun _ hx => x_len Try.underlying42 rfl) ?_
      refine q_val rfl rfl (fun _ hx => x_rem (i := (r.came : Int)) (j := (r.ds.length : Int)) rfl rfl (by omega)) ?_
      refine q_nil (tail0 (fun wt hxt => ?_))
      replace hE := hE.trans hxt
      refine wl_val hW rfl rfl (x_indexAddr Try.underlying42 fl3.siz rfl rfl (by rw [← Int.ofNat_tmod]; omega) (by rw [← Int.ofNat_tmod]; omega)) ?_
      refine wl_val hW rfl rfl (x_load fl3 rfl (by rw [← Int.ofNat_tmod, Int.toNat_natCast]; exact hxt.cell (hC25 0 _ rfl))) ?_
      refine wl_val hW rfl rfl (x_assign rfl) ?_
      refine wl_nil ?_
      refine nx_then ?_
      refine wc_seq ?_
      refine wc_region ?_
      refine wl_val hW rfl rfl (x_move rfl) ?_
      refine wl_val hW rfl rfl (x_geq rfl rfl) ?_
      refine wl_nil ?_
      refine nx_then ?_
      refine wc_dec rfl (fun hc => ?_) (fun hc => ?_)
      · refine wc_region ?_
        refine wl_val hW rfl rfl (x_move rfl) ?_
        refine wl_val hW rfl rfl (x_rem (j := 12) rfl rfl (by decide)) ?_
        refine wl_val hW rfl rfl (x_add (r := towerN r.ds r.came) rfl rfl (by rw [← hti, if_neg (by omega)])) ?_
        refine wl_val hW rfl rfl (x_assign rfl) ?_
        refine wl_nil ?_
        exact nx_cut (by repeat (first | exact sub_nil | refine sub_cons rfl ?_)) hE
      · refine wc_skip ?_
        have htz : towerN r.ds r.came = 1 := by
          rw [if_pos (by omega), Int.zero_tmod] at hti
          rw [IntWalk.i64_in _ (by omega)] at hti
          omega
        exact nx_cut (by rw [htz]; repeat (first | exact sub_nil | refine sub_cons rfl ?_)) hE
    · refine wc_skip ?_
      have hl0 : r.ds.length = 0 := by omega
      exact nx_cut (by rw [show towerN r.ds r.came = 1 from by simp [towerN, hl0]]; repeat (first | exact sub_nil | refine sub_cons rfl ?_)) hE
  · rintro w' hE
    refine nx_then ?_
    refine wc_seq ?_
    have hRw := hR.ext hE
    refine wc_region ?_
    refine wl_val hW rfl rfl (x_move rfl) ?_
    refine wl_val hW rfl rfl (x_nilCheck rfl) ?_
    refine wl_val hW rfl rfl (x_fieldAddr Try.underlying53 rfl fl3.siz rfl) ?_
    refine wl_val hW rfl rfl (x_load fl3 rfl (hRw.tb.cell (o := 3) rfl)) ?_
    refine wl_val hW rfl rfl (x_inc (s := r.came) rfl hcame) ?_
    refine wl_val hW rfl rfl (x_nilCheck rfl) ?_
    refine wl_val hW rfl rfl (x_fieldAddr Try.underlying53 rfl fl3.siz rfl) ?_
    refine wl_store hW rfl fl3 rfl rfl rfl hRw.tb rfl ?_
    intro wS hBS hkS
    refine wl_nil ?_
    refine nx_then ?_
    refine wc_seq ?_
    refine wc_region ?_
    refine wl_val hW rfl rfl (x_move rfl) ?_
    refine wl_val hW rfl rfl (x_assign rfl) ?_
    refine wl_nil ?_
    refine nx_then ?_
    refine wc_ret ?_
    exact ends_ret (res_tmp Try.results69 rfl) ⟨rfl, ⟨hBS, hRw.dr.ck (CK.of_keep hkS fun k _ h => h.2), hRw.ll.keep hkS (fun b hb => hRw.lv_ne hb hRw.tb (by decide)) (fun k _ h => hRw.nb k h), ownsRow_keep hRw.hh hkS (fun b hb => hRw.hv_ne hb hRw.tb (by decide)), hR.nb⟩, (Keep.of_ext hE).trans hkS⟩
end Go.Proofs.Ytblbddamebbgaaa.K


/- Walks: the document's Put. -/
namespace Go.Proofs.Ytblbddamebbgaaa.K
open Go Go.RowKit
set_option linter.unusedVariables false
set_option linter.unusedSimpArgs false

theorem C35 {D A B : Nat → Prop} {w : World} {r : Rd} {e : Ent} {bv : Value} (hR : RefT D A w r) (hby : Byts B w bv e.v) (hok : EntOk e) (hl : r.L.length ≤ 1048576) (hhl : r.hs.length = r.L.length) (hcm : r.came < 4611686018427387904) (hDl : ∀ b, r.lv.ownBlock = some b → ¬ D b) :
    Rt Try.prog 35 [.pointer (some ⟨r.br, 0, none⟩), .agg (cellsOf e bv).toArray] w fun v w' => ∃ r', RefT D (fun k => A k ∨ w.heap.size ≤ k) w' r' ∧ RPut r (clr e) r' ∧ (∀ b, r'.lv.ownBlock = some b → r.lv.ownBlock = some b ∨ w.heap.size ≤ b) ∧ (∀ b, r'.hv.ownBlock = some b → r.hv.ownBlock = some b ∨ w.heap.size ≤ b) ∧ Keep (fun k => k ≠ r.br ∧ some k ≠ r.lv.ownBlock) w w' := by
  have hcok := clr_ok hok
  obtain ⟨bvs, hbl, hOw, hbb⟩ := hR.ll.ex
  obtain ⟨ad, c, hlv, hlc, hsrc, -⟩ := owns_src hOw
  obtain ⟨ah, ch, hhv, hhc, hsrh, -⟩ := owns_src hR.hh
  have hbrlt := hR.tb.lt
  have hadb : ∀ b, ad.map (·.block) = some b → r.lv.ownBlock = some b := fun b h => by rw [hlv]; cases ad with | none => cases h | some a => exact h
  have hahb : ∀ b, ah.map (·.block) = some b → r.hv.ownBlock = some b := fun b h => by rw [hhv]; cases ah with | none => cases h | some a => exact h
  have hW := hWw
  have hFF := hFw
  have hE : Ext w w := Keep.refl _ _
  refine rt_body Try.func35 rfl Try.ntmps35 rfl ?_
  refine wc_seq ?_
  refine wc_region ?_
  refine wl_box hW rfl rfl rfl rfl ?_
  intro b3 w3 hl3 hB3 hx3
  have g3 : w.heap.size ≤ b3 := Nat.le_trans hE.size hl3
  replace hE := hE.trans hx3
  refine wl_nil ?_
  refine nx_then ?_
  refine wc_seq ?_
  refine wc_region ?_
  refine wl_val hW rfl rfl (x_loadA ag25 rfl hB3.cells rfl) ?_
  refine wl_call hW rfl rfl (x_call en33 rfl) ((C33t (hby.ext hE) hok).inF hFF) ?_
  rintro _ wC ⟨⟨bv2, rfl, hFB⟩, hxC⟩
  replace hB3 := hB3.ext hxC
  replace hE := hE.trans hxC
  replace hFB := hFB.mono (base' := w.heap.size) (by have := hx3.size; omega)
  obtain ⟨a2, c2, rfl⟩ := hFB.form
  have hone := cells_one (e := e) (bv := .slice a2 e.v.length c2) rfl
  refine wl_storeA hW rfl ag25 rfl rfl hone rfl hB3 rfl ?_
  intro wS hBS hkS
  replace hFB := hFB.keep hkS (fun b hb => hFB.ne hb hB3 (by decide))
  replace hB3 := hBS
  clear hBS
  replace hE := hE.store hkS g3
  refine wl_nil ?_
  refine nx_then ?_
  refine wc_seq ?_
  refine wc_seq ?_
  refine wc_region ?_
  refine wl_val hW rfl rfl (x_fieldAddr Try.underlying25 rfl fl4.siz rfl) ?_
  refine wl_val hW rfl rfl (x_load fl4 rfl (hB3.cell (o := 2) rfl)) ?_
  refine wl_nil ?_
  refine nx_then ?_
  refine wc_cut [(0, .pointer (some ⟨r.br, 0, none⟩)), (3, .pointer (some ⟨b3, 0, none⟩))] (fun w' => Ext w w' ∧ ∃ ad cap, Blk w' b3 (cellsOf (clr e) (.slice ad (clr e).v.length cap)) 25 ∧ FB w.heap.size w' (.slice ad (clr e).v.length cap) (clr e).v) ?_ ?_
  · refine wc_bool rfl (fun hc => ?_) (fun hc => ?_)
    · refine wc_region ?_
      refine wl_val hW rfl rfl (x_fieldAddr Try.underlying25 rfl fl23.siz rfl) ?_
      refine wl_store hW rfl fl23 rfl rfl rfl hB3 rfl ?_
      intro wS hBS hkS
      replace hB3 := hBS
      clear hBS
      replace hE := hE.store hkS g3
      refine wl_nil ?_
      have hv0 : (clr e).v = [] := by unfold clr; rw [hc]; rfl
      exact nx_cut (by repeat (first | exact sub_nil | refine sub_cons rfl ?_)) ⟨hE, none, 0, by rw [hv0]; exact hB3, by rw [hv0]; exact fb_nil _ _⟩
    · refine wc_skip ?_
      have hv0 : (clr e).v = e.v := by unfold clr; rw [hc]; rfl
      exact nx_cut (by repeat (first | exact sub_nil | refine sub_cons rfl ?_)) ⟨hE, a2, c2, by rw [hv0]; exact hB3, by rw [hv0]; exact hFB⟩
  · rintro w4 ⟨hE, a4, c4, hB3, hFB⟩
    have hE4 := hE
    have hB3c := hB3
    have hone4 := cells_one (e := clr e) (bv := .slice a4 (clr e).v.length c4) rfl
    have n3b : b3 ≠ r.br := by omega
    have hsz4 := hE4.size
    refine nx_then ?_
    refine wc_seq ?_
    refine wc_region ?_
    refine wl_val hW rfl rfl (x_assign rfl) ?_
    refine wl_nil ?_
    refine nx_then ?_
    refine wc_seq ?_
    refine wc_block ?_
    refine wc_loop (σ := Nat) (fun s => [(0, .pointer (some ⟨r.br, 0, none⟩)), (3, .pointer (some ⟨b3, 0, none⟩)), (4, .int .i64 (s : Nat))]) (fun s w' => (s ≤ r.L.length ∧ ∀ j (h : j < r.L.length), j < s → ltE r.L[j] (clr e)) ∧ Ext w4 w') (fun s => r.L.length - s) 0 ?_ ?_ ?_
    · exact ⟨⟨Nat.zero_le _, fun j _ h => absurd h (Nat.not_lt_zero _)⟩, Keep.refl _ _⟩
    · repeat (first | exact sub_nil | refine sub_cons rfl ?_)
    · rintro s wr ⟨⟨hs, hlo⟩, hE⟩
      replace hB3 := hB3.ext hE
      have hRr := hR.ext (hE4.trans hE)
      have hHC : wr.cell? ⟨r.br, 0 + 1, none⟩ = some (.slice ad r.L.length c) := by rw [← hlv]; exact hRr.tb.cell (o := 1) rfl
      refine wc_seq ?_
      refine wc_seq ?_
      refine wc_cut [(0, .pointer (some ⟨r.br, 0, none⟩)), (3, .pointer (some ⟨b3, 0, none⟩)), (4, .int .i64 (s : Nat)), (31, .bool (if h : s < r.L.length then decide (ltE r.L[s] (clr e)) else false))] (fun w' => Ext w4 w') ?_ ?_
      · refine wc_draw' 19 hW mixed (by kernel_rfl) (fun w0 hx0 => ?_)
        replace hB3 := hB3.ext hx0
        replace hE := hE.trans hx0
        refine q_val rfl rfl (fun _ hx => x_move rfl) ?_
        refine q_val rfl rfl (fun _ hx => x_move rfl) ?_
        refine q_val rfl rfl (fun _ hx => x_nilCheck rfl) ?_
        refine q_val rfl rfl (fun _ hx => x_fieldAddr Try.underlying53 rfl fl26.siz rfl) ?_
        refine q_val rfl rfl (fun _ hx => x_load fl26 rfl (hx.cell (hx0.cell hHC))) ?_
        refine q_val rfl rfl (fun _ hx => x_len Try.underlying26 rfl) ?_
        refine q_val rfl rfl (fun _ hx => x_lss rfl rfl) ?_
        refine q_val rfl rfl (fun _ hx => x_move rfl) ?_
        refine q_dcases (d := 20) rfl (fun hg20 => ?_) (fun hg20 => ?_)
        · have hlt : s < r.L.length := by omega
          obtain ⟨b, o, cap', bv', e1, hA, hC26, hb1, hok1⟩ := ((hRr.ll.ext hx0).row (by omega)).at s hlt
          rw [hlv] at e1
          cases e1
          refine q_val rfl rfl (fun _ hx => x_move rfl) ?_
          refine q_val rfl rfl (fun _ hx => x_nilCheck rfl) ?_
          refine q_val rfl rfl (fun _ hx => x_fieldAddr Try.underlying53 rfl fl26.siz rfl) ?_
          refine q_val rfl rfl (fun _ hx => x_load fl26 rfl (hx.cell (hx0.cell hHC))) ?_
          refine q_val rfl rfl (fun _ hx => x_move rfl) ?_
          refine q_val rfl rfl (fun _ hx => x_indexAddr Try.underlying26 ag25.siz rfl rfl (by omega) (by omega)) ?_
          refine q_val rfl rfl (fun _ hx => x_loadA ag25 rfl (hC26.ext hx) rfl) ?_
          refine q_val rfl rfl (fun _ hx => x_loadA ag25 rfl (hB3.ext hx).cells rfl) ?_
          refine q_call rfl rfl (fun _ => x_call en19 rfl) (fun w' hx => (C19).inF hFF) ?_
          refine q_val rfl rfl (fun _ hx => x_lss rfl rfl) ?_
          refine q_val rfl rfl (fun _ hx => x_pickT rfl rfl) ?_
          refine q_nil (tail0 (fun wt hxt => ?_))
          replace hB3 := hB3.ext hxt
          replace hE := hE.trans hxt
          refine wl_nil ?_
          have hdec : decide (cmpE r.L[s] (clr e) < 0) = (if h : s < r.L.length then decide (ltE r.L[s] (clr e)) else false) := by rw [dif_pos hlt, decide_eq_decide.2 cmpE_neg]
          rw [← hdec]
          exact nx_cut (by repeat (first | exact sub_nil | refine sub_cons rfl ?_)) hE
        · refine q_off rfl rfl ?_
          refine q_off rfl rfl ?_
          refine q_off rfl rfl ?_
          refine q_off rfl rfl ?_
          refine q_off rfl rfl ?_
          refine q_off rfl rfl ?_
          refine q_off rfl rfl ?_
          refine q_off rfl rfl ?_
          refine q_off rfl rfl ?_
          refine q_off rfl rfl ?_
          refine q_val rfl rfl (fun _ hx => x_pickF rfl rfl) ?_
          refine q_nil (tail0 (fun wt hxt => ?_))
          replace hB3 := hB3.ext hxt
          replace hE := hE.trans hxt
          refine wl_nil ?_
          have hlt : ¬ s < r.L.length := by omega
          exact nx_cut (by rw [dif_neg hlt]; repeat (first | exact sub_nil | refine sub_cons rfl ?_)) hE
      · rintro w5 hE
        refine nx_then ?_
        refine wc_bool rfl (fun hc => ?_) (fun hc => ?_)
        · have hlt : s < r.L.length := Decidable.byContradiction fun h => by rw [dif_neg h] at hc; cases hc
          rw [dif_pos hlt] at hc
          refine wc_skip ?_
          refine nx_then ?_
          refine wc_block ?_
          refine wc_region ?_
          refine wl_val hW rfl rfl (x_move rfl) ?_
          refine wl_val hW rfl rfl (x_inc (s := s) rfl (by omega)) ?_
          refine wl_val hW rfl rfl (x_assign rfl) ?_
          refine wl_nil ?_
          refine nx_block ?_
          exact nx_next (s + 1) (by omega) ⟨⟨hlt, fun j h hj => by rcases Nat.lt_succ_iff_lt_or_eq.1 hj with hj | rfl; exact hlo j h hj; exact of_decide_eq_true hc⟩, hE⟩ (by repeat (first | exact sub_nil | refine sub_cons rfl ?_))
        · have hbel : BelowL r.L (clr e) s := ⟨hs, hlo, fun h => by rw [dif_pos h] at hc; exact of_decide_eq_false hc⟩
          clear hRr hHC hB3
          have hRr := hR.ext (hE4.trans hE)
          have hHC : w5.cell? ⟨r.br, 0 + 1, none⟩ = some (.slice ad r.L.length c) := by rw [← hlv]; exact hRr.tb.cell (o := 1) rfl
          have hB3 := hB3c.ext hE
          refine wc_exit ?_
          refine nx_then_exit ?_
          refine nx_then_exit ?_
          refine nx_block_exit ?_
          refine nx_then ?_
          refine wc_seq ?_
          refine wc_seq ?_
          refine wc_cut [(0, .pointer (some ⟨r.br, 0, none⟩)), (3, .pointer (some ⟨b3, 0, none⟩)), (4, .int .i64 (s : Nat)), (52, .bool (hitL r.L (clr e) s))] (fun w' => Ext w4 w') ?_ ?_
          · refine wc_draw' 19 hW mixed (by kernel_rfl) (fun w0 hx0 => ?_)
            replace hB3 := hB3.ext hx0
            replace hE := hE.trans hx0
            refine q_val rfl rfl (fun _ hx => x_move rfl) ?_
            refine q_val rfl rfl (fun _ hx => x_move rfl) ?_
            refine q_val rfl rfl (fun _ hx => x_nilCheck rfl) ?_
            refine q_val rfl rfl (fun _ hx => x_fieldAddr Try.underlying53 rfl fl26.siz rfl) ?_
            refine q_val rfl rfl (fun _ hx => x_load fl26 rfl (hx.cell (hx0.cell hHC))) ?_
            refine q_val rfl rfl (fun _ hx => x_len Try.underlying26 rfl) ?_
            refine q_val rfl rfl (fun _ hx => x_lss rfl rfl) ?_
            refine q_val rfl rfl (fun _ hx => x_move rfl) ?_
            refine q_dcases (d := 41) rfl (fun hg41 => ?_) (fun hg41 => ?_)
            · have hlt : s < r.L.length := by omega
              obtain ⟨b, o, cap', bv', e1, hA, hC47, hb1, hok1⟩ := ((hRr.ll.ext hx0).row (by omega)).at s hlt
              rw [hlv] at e1
              cases e1
              refine q_val rfl rfl (fun _ hx => x_move rfl) ?_
              refine q_val rfl rfl (fun _ hx => x_nilCheck rfl) ?_
              refine q_val rfl rfl (fun _ hx => x_fieldAddr Try.underlying53 rfl fl26.siz rfl) ?_
              refine q_val rfl rfl (fun _ hx => x_load fl26 rfl (hx.cell (hx0.cell hHC))) ?_
              refine q_val rfl rfl (fun _ hx => x_move rfl) ?_
              refine q_val rfl rfl (fun _ hx => x_indexAddr Try.underlying26 ag25.siz rfl rfl (by omega) (by omega)) ?_
              refine q_val rfl rfl (fun _ hx => x_loadA ag25 rfl (hC47.ext hx) rfl) ?_
              refine q_val rfl rfl (fun _ hx => x_loadA ag25 rfl (hB3.ext hx).cells rfl) ?_
              refine q_call rfl rfl (fun _ => x_call en19 rfl) (fun w' hx => (C19).inF hFF) ?_
              refine q_val rfl rfl (fun _ hx => x_eql rfl rfl) ?_
              refine q_val rfl rfl (fun _ hx => x_pickT rfl rfl) ?_
              refine q_nil (tail0 (fun wt hxt => ?_))
              replace hB3 := hB3.ext hxt
              replace hE := hE.trans hxt
              refine wl_nil ?_
              rw [hitL_some hlt]
              exact nx_cut (by repeat (first | exact sub_nil | refine sub_cons rfl ?_)) hE
            · refine q_off rfl rfl ?_
              refine q_off rfl rfl ?_
              refine q_off rfl rfl ?_
              refine q_off rfl rfl ?_
              refine q_off rfl rfl ?_
              refine q_off rfl rfl ?_
              refine q_off rfl rfl ?_
              refine q_off rfl rfl ?_
              refine q_off rfl rfl ?_
              refine q_off rfl rfl ?_
              refine q_val rfl rfl (fun _ hx => x_pickF rfl rfl) ?_
              refine q_nil (tail0 (fun wt hxt => ?_))
              replace hB3 := hB3.ext hxt
              replace hE := hE.trans hxt
              refine wl_nil ?_
              have hlt : ¬ s < r.L.length := by omega
              rw [hitL_none hlt]
              exact nx_cut (by repeat (first | exact sub_nil | refine sub_cons rfl ?_)) hE
          · rintro w6 hE
            clear hRr hHC hB3
            have hRr := hR.ext (hE4.trans hE)
            have hHC : w6.cell? ⟨r.br, 0 + 1, none⟩ = some (.slice ad r.L.length c) := by rw [← hlv]; exact hRr.tb.cell (o := 1) rfl
            have hB3 := hB3c.ext hE
            have hFB6 := hFB.ext hE
            have hE46 := hE4.trans hE
            refine nx_then ?_
            refine wc_bool rfl (fun hc => ?_) (fun hc => ?_)
            · have hlt : s < r.L.length := Decidable.byContradiction fun h => by rw [hitL_none h] at hc; cases hc
              have hll : OwnE (fun k => A k ∨ w.heap.size ≤ k) 0 w6 (.slice ad r.L.length c) r.L := by rw [← hlv]; exact hRr.ll.monoA fun k _ h => .inl h
              obtain ⟨g, csg, hadg, hBg, hlg, -, hset⟩ := hll.setAt hlt
              subst hadg
              have hgv : r.lv.ownBlock = some g := by rw [hlv]; rfl
              have e0 : 0 + ((s : Nat) : Int).toNat * 4 = s * 4 := by omega
              refine wc_seq ?_
              refine wc_draw' 6 hW mixed (by kernel_rfl) (fun w0 hx0 => ?_)
              replace hB3 := hB3.ext hx0
              replace hE := hE.trans hx0
              refine q_val rfl rfl (fun _ hx => x_move rfl) ?_
              refine q_val rfl rfl (fun _ hx => x_nilCheck rfl) ?_
              refine q_val rfl rfl (fun _ hx => x_fieldAddr Try.underlying53 rfl fl26.siz rfl) ?_
              refine q_val rfl rfl (fun _ hx => x_load fl26 rfl (hx.cell (hx0.cell hHC))) ?_
              refine q_val rfl rfl (fun _ hx => x_move rfl) ?_
              refine q_val rfl rfl (fun _ hx => x_loadA ag25 rfl (hB3.ext hx).cells rfl) ?_
              refine q_nil (tail0 (fun wt hxt => ?_))
              replace hB3 := hB3.ext hxt
              refine wl_val hW rfl rfl (x_indexAddr Try.underlying26 ag25.siz rfl rfl (by omega) (by omega)) ?_
              refine wl_storeA hW rfl ag25 rfl rfl hone4 rfl ((hBg.ext hx0).ext hxt) (by rw [e0]; exact Nat.ble_eq_true_of_le (by show s * 4 + 4 ≤ _; omega)) ?_
              intro wS hBS hkS
              rw [e0] at hBS
              have hRt := (hRr.ext hx0).ext hxt
              have hFt := (hFB6.ext hx0).ext hxt
              have hkg : Keep (· ≠ g) w6 wS := ((Keep.of_ext hx0).trans (Keep.of_ext hxt)).trans hkS
              have hFS := hFt.keep hkS (fun b hb => hFt.ne hb ((hBg.ext hx0).ext hxt) (by decide))
              have hll2 := hset wS (clr e) _ hBS hkg (hFS.byts.mono fun k _ h => ⟨.inr h.1, fun e => hFS.ne (e ▸ h.2) hBS (by decide) rfl⟩) hcok
              refine wl_nil ?_
              refine nx_then ?_
              refine wc_ret ?_
              refine nx_then_ret ?_
              exact ends_ret (res_none rfl) ⟨{ r with L := r.L.set s (clr e) }, ⟨hRt.tb.keep hkS (fun e => hRt.lv_ne hgv hRt.tb (by decide) e.symm), hRt.dr.ck (CK.of_keep hkS fun k _ h e => hDl g hgv (e ▸ h.1)), (by show OwnE _ 0 wS r.lv _; rw [hlv]; exact hll2), ownsRow_keep hRt.hh hkS (fun b hb => hRt.hv_ne hb ((hBg.ext hx0).ext hxt) (by decide)), fun k h => h.elim (hR.nb k) (fun h => by show k ≠ r.br; omega)⟩, ⟨rfl, rfl, rfl, s, hbel, .inl ⟨hc, rfl, rfl, rfl⟩⟩, fun b hb => .inl hb, fun b hb => .inl hb, (Keep.of_ext hE46).then hkg fun k _ h e => h.2 (by rw [e, hgv])⟩
            · refine wc_skip ?_
              refine nx_then ?_
              refine wc_seq ?_
              refine wc_region ?_
              have hcF := hc
              refine wl_val hW rfl rfl (x_move rfl) ?_
              refine wl_call hW rfl rfl (x_call en69 rfl) ((C69 hRr hcm).inF hFF) ?_
              rintro _ wC ⟨rfl, hR7, hKC⟩
              replace hB3 := hB3.keep hKC n3b
              have hF7 := hFB6.keep hKC (fun b hb => hFB6.ne hb hRr.tb (by decide))
              have hs7 : Src wC ad (flat r.L bvs) := (hsrc.ext hE46).keep hKC (fun b h => hRr.lv_ne (hadb b h) hRr.tb (by decide))
              have hs8 : Src wC ah (natCells r.hs) := (hsrh.ext hE46).keep hKC (fun b h => hRr.hv_ne (hahb b h) hRr.tb (by decide))
              have hHC7 : wC.cell? ⟨r.br, 0 + 1, none⟩ = some (.slice ad r.L.length c) := by rw [← hlv]; exact hR7.tb.cell (o := 1) rfl
              have hbr7 : Blk wC r.br [r.dv, r.lv, r.hv, .int .i64 ((r.came + 1 : Nat) : Int)] 53 := hR7.tb
              have hones : ∀ u ∈ flat r.L bvs, u.oneCell' = true := flat_one (A := A) (w := w) _ _ (fun i x b h1 h2 => (hbb i x b h1 h2).one)
              have hfl := flat_len r.L bvs hbl
              have hadlt : ∀ b, ad.map (·.block) = some b → b < wC.heap.size ∧ b ≠ r.br := fun b h => by obtain ⟨-, cs', hB'⟩ := ownsRow_blk hOw (hadb b h); exact ⟨by have := hB'.lt; have := hE46.size; have := hKC.size; omega, hB'.ne hR.tb (by decide)⟩
              have hahlt : ∀ b, ah.map (·.block) = some b → b < wC.heap.size ∧ b ≠ r.br := fun b h => by obtain ⟨-, cs', hB'⟩ := ownsRow_blk hR.hh (hahb b h); exact ⟨by have := hB'.lt; have := hE46.size; have := hKC.size; omega, hB'.ne hR.tb (by decide)⟩
              have hbr7lt := hbr7.lt
              refine wl_val hW rfl rfl (x_assign rfl) ?_
              refine wl_nil ?_
              refine nx_then ?_
              refine wc_seq ?_
              refine wc_draw' 10 hW mixed (by kernel_rfl) (fun w0 hx0 => ?_)
              replace hB3 := hB3.ext hx0
              refine q_buildEmp rfl rfl rfl Try.underlying26 ag25.siz Try.zeroValue25 ?_
              refine q_val rfl rfl (fun _ hx => x_move rfl) ?_
              refine q_val rfl rfl (fun _ hx => x_nilCheck rfl) ?_
              refine q_val rfl rfl (fun _ hx => x_fieldAddr Try.underlying53 rfl fl26.siz rfl) ?_
              refine q_val rfl rfl (fun _ hx => x_load fl26 rfl (hx.cell (hx0.cell hHC7))) ?_
              refine q_val rfl rfl (fun _ hx => x_move rfl) ?_
              refine q_val rfl rfl (fun _ hx => x_sliceh (j := s) Try.underlying26 ag25.siz rfl rfl (by omega)) ?_
              refine q_appendE (s := 62) (k2 := s - 0) (news := (flat r.L bvs).take (s * 4)) Try.underlying26 info25 rfl (by decide) rfl rfl rfl (List.mem_cons_self ..) (List.mem_append_left _ (List.mem_filterMap.2 ⟨.tmp 62, by simp [Op.operands, Call.operands], rfl⟩)) (fun _ => rfl) (by rw [List.length_take, hfl]; omega) (fun w' hw => ((hs7.ext hx0).ext hw).take 4 c) (fun u hu => hones u (List.mem_of_mem_take hu)) (by omega) (by decide) ?_
              refine q_val rfl rfl (fun _ hx => x_loadA ag25 rfl (hB3.ext hx).cells rfl) ?_
              refine q_buildC rfl rfl rfl rfl ?_
              refine q_nil (tailm2 (d := 71) (d2 := 69) (List.mem_cons_self ..) (List.mem_cons_of_mem _ (List.mem_cons_self ..)) (fun wt v71 v69 hxt h71 h69 => ?_))
              replace hB3 := hB3.ext hxt
              obtain ⟨b71, rfl, g71, hB71⟩ := h71
              refine wl_append (news := cellsOf (clr e) (.slice a4 (clr e).v.length c4)) Try.underlying26 info25 rfl (by decide) hW rfl rfl rfl rfl h69 rfl (src_blk hB71) (fun u hu => List.all_eq_true.1 hone4 u hu) (by omega) (by decide) hxt.size ?_
              intro v72 wA hO72 hkA hcA
              have hge69 : ∀ b, v69.ownBlock = some b → wC.heap.size ≤ b := fun b hb => Nat.le_trans hx0.size (ownsRow_blk h69 hb).1
              have hK0 : Keep (fun k => k < wC.heap.size) wC wA := (Keep.of_ext (hx0.trans hxt)).then hkA (fun k hk _ e => by have := hge69 k e.symm; omega)
              have hge72 : ∀ b, v72.ownBlock = some b → wC.heap.size ≤ b := fun b hb => Nat.le_trans hx0.size (ownsRow_blk hO72 hb).1
              refine wl_val hW rfl rfl (x_assign rfl) ?_
              refine wl_nil ?_
              refine nx_then ?_
              refine wc_seq ?_
              refine wc_region ?_
              refine wl_val hW rfl rfl (x_move rfl) ?_
              refine wl_val hW rfl rfl (x_move rfl) ?_
              refine wl_val hW rfl rfl (x_move rfl) ?_
              refine wl_val hW rfl rfl (x_nilCheck rfl) ?_
              refine wl_val hW rfl rfl (x_fieldAddr Try.underlying53 rfl fl26.siz rfl) ?_
              refine wl_val hW rfl rfl (x_load fl26 rfl (hK0.cell hHC7 hbr7lt)) ?_
              refine wl_val hW rfl rfl (x_move rfl) ?_
              refine wl_val hW rfl rfl (x_slicel (i := s) Try.underlying26 ag25.siz rfl rfl (by omega)) ?_
              refine wl_append (k2 := r.L.length - s) (news := (flat r.L bvs).drop (s * 4)) Try.underlying26 info25 rfl (by decide) hW rfl rfl rfl rfl hO72 (by rw [List.length_drop, hfl]; omega) ((hs7.keep hK0 (fun b h => (hadlt b h).1)).drop (fun h => List.drop_eq_nil_of_le (by rw [hfl]; omega))) (fun u hu => hones u (List.mem_of_mem_drop hu)) (by omega) (by decide) (Nat.le_trans hxt.size hkA.size) ?_
              intro v81 wB hO81 hkB hcB
              have hK1 := hK0.then hkB (fun k hk h e => by have := hge72 k e.symm; omega)
              have hge81 : ∀ b, v81.ownBlock = some b → wC.heap.size ≤ b := fun b hb => Nat.le_trans hx0.size (ownsRow_blk hO81 hb).1
              have hbrB := hbr7.keep hK1 hbr7lt
              obtain ⟨a81, c81, e81, -⟩ := owns_src hO81
              have hv81 : v81.oneCell' = true := by rw [e81]; rfl
              refine wl_val hW rfl rfl (x_nilCheck rfl) ?_
              refine wl_val hW rfl rfl (x_fieldAddr Try.underlying53 rfl fl26.siz rfl) ?_
              refine wl_store hW rfl fl26 rfl rfl hv81 hbrB rfl ?_
              intro wD hBD hkD
              have hO81D := ownsRow_keep hO81 hkD (fun b hb => by have := hge81 b hb; omega)
              have hK2 : Keep (fun k => k < wC.heap.size ∧ k ≠ r.br) wC wD := (hK1.mono fun k _ h => h.1).then hkD (fun k _ h => h.2)
              have hszD : wC.heap.size ≤ wD.heap.size := hK2.size
              refine wl_nil ?_
              refine nx_then ?_
              refine wc_seq ?_
              refine wc_region ?_
              refine wl_buildSlice (parts := []) hW rfl rfl Try.underlying42 fl3.siz Try.zeroValue3 rfl rfl rfl (by omega) ?_
              intro b84 w84 hl84 hB84 hx84
              have hg84 : wD.heap.size ≤ b84 := hl84
              have hHh : w84.cell? ⟨r.br, 0 + 2, none⟩ = some (.slice ah r.hs.length ch) := by rw [← hhv]; exact (hBD.ext hx84).cell (o := 2) rfl
              have hs9 := (hs8.keep hK2 hahlt).ext hx84
              refine wl_val hW rfl rfl (x_move rfl) ?_
              refine wl_val hW rfl rfl (x_nilCheck rfl) ?_
              refine wl_val hW rfl rfl (x_fieldAddr Try.underlying53 rfl fl42.siz rfl) ?_
              refine wl_val hW rfl rfl (x_load fl42 rfl hHh) ?_
              refine wl_val hW rfl rfl (x_move rfl) ?_
              refine wl_val hW rfl rfl (x_sliceh (j := s) Try.underlying42 fl3.siz rfl rfl (by omega)) ?_
              refine wl_append (k2 := s - 0) (news := (natCells r.hs).take s) Try.underlying42 info3 rfl (by decide) hW rfl rfl rfl rfl (owns_empty hB84 hg84) (by rw [List.length_take, natCells_len]; omega) (hs9.take 1 ch) (fun u hu => natCells_one u (List.mem_of_mem_take hu)) (by omega) (by decide) hx84.size ?_
              intro v91 wE hO91 hkE hcE
              have hge84 : ∀ b, (Value.slice (some ⟨b84, 0, none⟩) 0 0).ownBlock = some b → wD.heap.size ≤ b := fun b hb => by cases hb; exact hg84
              have hK3 : Keep (fun k => k < wD.heap.size) wD wE := (Keep.of_ext hx84).then hkE (fun k hk _ e => by have := hge84 k e.symm; omega)
              have hge91 : ∀ b, v91.ownBlock = some b → wD.heap.size ≤ b := fun b hb => (ownsRow_blk hO91 hb).1
              refine wl_val hW rfl rfl (x_move rfl) ?_
              refine wl_buildSlice (parts := [(0, .tmp 92)]) hW rfl rfl Try.underlying42 fl3.siz Try.zeroValue3 rfl rfl rfl (by omega) ?_
              intro b93 w93 hl93 hB93 hx93
              refine wl_append (news := [.int .i64 ((towerN r.ds r.came : Nat) : Int)]) Try.underlying42 info3 rfl (by decide) hW rfl rfl rfl rfl (ownsRow_keep hO91 hx93 (fun _ _ => trivial)) rfl (src_blk hB93) (fun u hu => by rw [List.mem_singleton.1 hu]; rfl) (by omega) (by decide) (Nat.le_trans hK3.size hx93.size) ?_
              intro v94 wG hO94 hkG hcG
              have hK4 := (hK3.trans (Keep.of_ext hx93)).then hkG (fun k hk h e => by have := hge91 k e.symm; omega)
              have hge94 : ∀ b, v94.ownBlock = some b → wD.heap.size ≤ b := fun b hb => (ownsRow_blk hO94 hb).1
              have hbrltD : r.br < wD.heap.size := by omega
              have hBG := hBD.keep hK4 hbrltD
              have hHg : wG.cell? ⟨r.br, 0 + 2, none⟩ = some (.slice ah r.hs.length ch) := by rw [← hhv]; exact hBG.cell (o := 2) rfl
              refine wl_val hW rfl rfl (x_assign rfl) ?_
              refine wl_nil ?_
              refine nx_then ?_
              refine wc_region ?_
              refine wl_val hW rfl rfl (x_move rfl) ?_
              refine wl_val hW rfl rfl (x_move rfl) ?_
              refine wl_val hW rfl rfl (x_move rfl) ?_
              refine wl_val hW rfl rfl (x_nilCheck rfl) ?_
              refine wl_val hW rfl rfl (x_fieldAddr Try.underlying53 rfl fl42.siz rfl) ?_
              refine wl_val hW rfl rfl (x_load fl42 rfl hHg) ?_
              refine wl_val hW rfl rfl (x_move rfl) ?_
              refine wl_val hW rfl rfl (x_slicel (i := s) Try.underlying42 fl3.siz rfl rfl (by omega)) ?_
              refine wl_append (k2 := r.hs.length - s) (news := (natCells r.hs).drop (s * 1)) Try.underlying42 info3 rfl (by decide) hW rfl rfl rfl rfl hO94 (by rw [List.length_drop, natCells_len]; omega) (((hs8.keep hK2 hahlt).keep hK4 (fun b h => by have := (hahlt b h).1; omega)).drop (fun h => List.drop_eq_nil_of_le (by rw [natCells_len]; omega))) (fun u hu => natCells_one u (List.mem_of_mem_drop hu)) (by omega) (by decide) hK4.size ?_
              intro v103 wH hO103 hkH hcH
              have hK5 := hK4.then hkH (fun k hk h e => by have := hge94 k e.symm; omega)
              have hge103 : ∀ b, v103.ownBlock = some b → wD.heap.size ≤ b := fun b hb => (ownsRow_blk hO103 hb).1
              obtain ⟨a103, c103, e103, -⟩ := owns_src hO103
              have hv103 : v103.oneCell' = true := by rw [e103]; rfl
              refine wl_val hW rfl rfl (x_nilCheck rfl) ?_
              refine wl_val hW rfl rfl (x_fieldAddr Try.underlying53 rfl fl42.siz rfl) ?_
              refine wl_store hW rfl fl42 rfl rfl hv103 (hBD.keep hK5 hbrltD) rfl ?_
              intro wF hBF hkF
              have hK6 : Keep (fun k => k < wC.heap.size ∧ k ≠ r.br) wC wF := (hK2.then hK5 (fun k hk h => by omega)).then hkF (fun k _ h => h.2)
              have hO81F : wF.ownsRow w0.heap.size 25 4 v81 (s - 0 + 1 + (r.L.length - s)) ((flat r.L bvs).take (s * 4) ++ cellsOf (clr e) (.slice a4 (clr e).v.length c4) ++ (flat r.L bvs).drop (s * 4)) := ownsRow_keep (ownsRow_keep hO81D hK5 (fun b hb => by obtain ⟨-, cs', h⟩ := ownsRow_blk hO81D hb; exact h.lt)) hkF (fun b hb => by have := hge81 b hb; omega)
              have hO103F := ownsRow_keep hO103 hkF (fun b hb => by have := hge103 b hb; omega)
              have hszC : w.heap.size ≤ wC.heap.size := Nat.le_trans hE46.size hKC.size
              have hln : (r.L.take s ++ clr e :: r.L.drop s).length = s - 0 + 1 + (r.L.length - s) := by rw [ins_len hs]; omega
              have hlh : (r.hs.take s ++ towerN r.ds r.came :: r.hs.drop s).length = s - 0 + 1 + (r.hs.length - s) := by rw [ins_len (by omega)]; omega
              have hll : OwnE (fun k => (A k ∨ w.heap.size ≤ k) ∧ k < wC.heap.size ∧ k ≠ r.br) 0 wF v81 (r.L.take s ++ clr e :: r.L.drop s) := by
                refine own_of_flat (bvs := bvs.take s ++ .slice a4 (clr e).v.length c4 :: bvs.drop s) ?_ (by rw [ins_len hs, ins_len (by omega)]; omega) ?_ (fun k _ h e => by have := hge81 k e.symm; have := h.2.1; omega) (fun x hx => ?_)
                · rw [hln, flat_ins hbl hs]; exact ownsRow_base hO81F (fun _ _ => Nat.zero_le _)
                · refine ins_all hbl hs (fun i x b h1 h2 => ?_) ?_
                  · have h3 := (hbb i x b h1 h2).mono (A' := fun k => k < w.heap.size ∧ A k) fun k hk h => ⟨hk, h.1⟩
                    have h4 := ((h3.ext hE46).ck (CK.of_keep hKC fun k _ h => hR.nb k h.2))
                    exact (h4.ck (CK.of_keep hK6 fun k hk h => ⟨by have := h.1; omega, hR.nb k h.2⟩)).mono fun k _ h => ⟨.inl h.2, by have := h.1; omega, hR.nb k h.2⟩
                  · have h3 := hF7.byts.mono (A' := fun k => k < wC.heap.size ∧ w.heap.size ≤ k) fun k hk h => ⟨hk, h.1⟩
                    exact (h3.ck (CK.of_keep hK6 fun k hk h => ⟨h.1, by have := h.2; omega⟩)).mono fun k _ h => ⟨.inr h.2, h.1, by have := h.2; omega⟩
                · rcases List.mem_append.1 hx with hx | hx
                  · exact hR.ll.ok x (List.mem_of_mem_take hx)
                  · rcases List.mem_cons.1 hx with rfl | hx
                    · exact hcok
                    · exact hR.ll.ok x (List.mem_of_mem_drop hx)
              have hhh : wF.ownsRow 0 3 1 v103 (r.hs.take s ++ towerN r.ds r.came :: r.hs.drop s).length (natCells (r.hs.take s ++ towerN r.ds r.came :: r.hs.drop s)) := by
                rw [hlh, natCells_ins]
                have h := ownsRow_base (base' := 0) hO103F (fun _ _ => Nat.zero_le _)
                rw [Nat.mul_one, Nat.zero_add, List.nil_append] at h
                exact h
              refine wl_nil ?_
              exact ends_normal (res_none Try.results35) ⟨{ r with lv := v81, hv := v103, L := r.L.take s ++ clr e :: r.L.drop s, hs := r.hs.take s ++ towerN r.ds r.came :: r.hs.drop s, came := r.came + 1 }, ⟨hBF, ((hRr.dr.mono (A' := fun k => k < w6.heap.size ∧ D k ∧ k ≠ r.br) fun k hk h => ⟨hk, h⟩).ck (CK.of_keep hKC fun k _ h => h.2.2)).ck (CK.of_keep hK6 fun k _ h => ⟨by have := h.1; have := hKC.size; omega, h.2.2⟩) |>.mono (fun k _ h => h.2), hll.monoA (fun k _ h => h.1), hhh, fun k h => h.elim (hR.nb k) (fun h => by show k ≠ r.br; omega)⟩, ⟨rfl, rfl, rfl, s, hbel, .inr ⟨hcF, rfl, rfl, rfl⟩⟩, fun b hb => .inr (by have := hge81 b hb; have := hE46.size; have := hKC.size; omega), fun b hb => .inr (by have := hge103 b hb; have := hE46.size; have := hKC.size; omega), ((Keep.of_ext hE46).then hKC fun k _ h => h.1).then hK6 fun k hk h => ⟨by have := hE46.size; have := hKC.size; omega, h.1⟩⟩
end Go.Proofs.Ytblbddamebbgaaa.K


/- Walks: what a table's sequences go over. -/
namespace Go.Proofs.Ytblbddamebbgaaa.K
open Go Go.RowKit
set_option linter.unusedVariables false
set_option linter.unusedSimpArgs false

theorem C30 {O : Nat → Prop} {w : World} {t : Td} (hT : Tab O w t) {p : Nat} (hb : Below t.ns (kE ⟨#[]⟩) p) (hlen : t.ns.length ≤ 1048576) :
    Rt Try.prog 30 [.pointer (some ⟨t.bt, 0, none⟩)] w fun r w' => Row (fun k => w.heap.size ≤ k) w' r ((t.ns.drop p).map (·.e)) ∧ Ext w w' := by
  have hW := hWw
  have hFF := hFw
  have hE : Ext w w := Keep.refl _ _
  refine rt_body Try.func30 rfl Try.ntmps30 rfl ?_
  refine wc_seq ?_
  refine wc_region ?_
  refine wl_val hW rfl rfl (x_assign rfl) ?_
  refine wl_nil ?_
  refine nx_then ?_
  refine wc_seq ?_
  refine wc_region ?_
  refine wl_alloc (cs := [.slice none 0 0]) hW rfl rfl Try.zeroValue26 rfl ?_
  intro b3 w3 hl3 hB3 hx3
  have g3 : w.heap.size ≤ b3 := Nat.le_trans hE.size hl3
  replace hE := hE.trans hx3
  refine wl_nil ?_
  refine nx_then ?_
  refine wc_seq ?_
  refine wc_seq ?_
  have hT3 := hT.bound.ext hE
  have hb3lt0 := hB3.lt
  refine wc_region ?_
  refine wl_val hW rfl rfl (x_move rfl) ?_
  refine wl_call hW rfl rfl (x_call en37 rfl) ((C37 hT3 hb hlen).inF hFF) ?_
  rintro _ wC ⟨⟨b5, rv, rfl, g5, hB5, hR87⟩, hxC⟩
  replace hB3 := hB3.ext hxC
  replace hE := hE.trans hxC
  have hG := hR87
  have hb3lt := hB3.lt
  have hEG := hE
  have hszG := hxC.size
  refine wl_nil ?_
  refine nx_then ?_
  refine wc_block ?_
  refine wc_rangeY (α := Ent × Value) (σ := Nat) (fun x => .agg (cellsOf x.1 x.2).toArray) (fun k => k < wC.heap.size ∧ k ≠ b3) (fun x W => FB wC.heap.size W x.2 x.1.v ∧ EntOk x.1) (fun xs => xs.map (·.1) = (t.ns.drop p).map (·.e)) (fun pre => pre.map (·.1) <+: (t.ns.drop p).map (·.e)) (((t.ns.drop p).map (·.e)).length + 1) rfl en87 rfl (C87 hG hB5 (fun k h ho => ⟨h, by rcases ho.1 with h1 | h1; have := h1.1.2; omega; omega⟩) ⟨hB5.lt, by omega⟩) (fun k h => h.1) (fun x A B h hn => ⟨h.1.nc hn, h.2⟩) (fun pre W => Coll wC b3 (fun k => wC.heap.size ≤ k) (pre.map fun x : Ent × Value => x.1) W) (fun _ _ _ => False) (fun s A B h hn => h.nc hn) (fun c s A B h _ => h) (Coll.start hB3) (fun x b4 A => wC.heap.size ≤ b4 ∧ Blk A b4 (cellsOf x.1 x.2) 25) (fun x s A B h hn => ⟨h.1, h.2.nc hn⟩) (fun x b4 => [(3, .pointer (some ⟨b3, 0, none⟩)), (4, .pointer (some ⟨b4, 0, none⟩))]) ?_ ?_ ?_ ?_
  · intro l pre x A K hI hyp hK
    -- assign
    have hW := hWw.round l
    have hsA := hI.keep.size
    have hE : Ext A A := Keep.refl _ _
    obtain ⟨ax, cx, hxv⟩ := hyp.1.form
    have hone := cells_one (e := x.1) (bv := x.2) (by rw [hxv]; rfl)
    refine wc_region ?_
    refine wl_alloc (cs := [.string ⟨#[]⟩, .int .u64 0, .bool false, .slice none 0 0]) hW rfl rfl Try.zeroValue25 rfl ?_
    intro b4 w4 hl4 hB4 hx4
    have g4 : A.heap.size ≤ b4 := hl4
    replace hE := hE.trans hx4
    refine wl_storeA hW rfl ag25 rfl rfl hone rfl hB4 rfl ?_
    intro wS hBS hkS
    replace hB4 := hBS
    clear hBS
    replace hE := hE.store hkS g4
    refine wl_nil ?_
    exact fun a ha => hK b4 wS hE ⟨by omega, hB4⟩ a (ha.sub (by repeat (first | exact sub_nil | refine sub_cons rfl ?_)))
  · intro l pre x b4 A hI hyp hAs hlt
    -- body
    obtain ⟨⟨ov, hBo, hO⟩, hKc⟩ := hI
    obtain ⟨hb4, hB4⟩ := hAs
    replace hB3 := hBo
    replace hE : Ext A A := Keep.refl _ _
    have n4_3 : b4 ≠ b3 := by omega
    have hsA := hKc.size
    have hpl : (pre.map fun x : Ent × Value => x.1).length = pre.length := by simp
    have hesl : ((t.ns.drop p).map (·.e)).length ≤ t.ns.length := by simp
    have hW := hWw.round l
    have hFF := hFr l
    refine wc_block ?_
    refine wc_region ?_
    refine wl_val hW rfl rfl (x_load fl26 rfl (hB3.cell (o := 0) rfl)) ?_
    refine wl_val hW rfl rfl (x_loadA ag25 rfl hB4.cells rfl) ?_
    refine wl_buildSlice (parts := [(0, .tmp 9)]) hW rfl rfl Try.underlying26 ag25.siz Try.zeroValue25 rfl rfl rfl (by omega) ?_
    intro b10 w10 hl10 hB10 hx10
    have g10 : A.heap.size ≤ b10 := hl10
    have n10_3 : b10 ≠ b3 := Nat.ne_of_gt (Nat.lt_of_lt_of_le hB3.lt hl10)
    replace hB3 := hB3.ext hx10
    have n10_4 : b10 ≠ b4 := Nat.ne_of_gt (Nat.lt_of_lt_of_le hB4.lt hl10)
    replace hB4 := hB4.ext hx10
    replace hE := hE.trans hx10
    have hszA := hE.size
    refine wl_append1 hW rfl rfl rfl rfl (hO.ext hE) (by rw [hpl]; omega) hB10 ((hyp.1.ext hE).byts.mono (fun k _ h => ⟨h.1, fun e => by obtain ⟨⟨bvs, h5, h6, h7⟩, h8⟩ := hO.ext hE; obtain ⟨-, cs', h9⟩ := ownsRow_blk h6 e.symm; exact (hyp.1.ext hE).ne h.2 h9 (by decide) rfl⟩)) hyp.2 (by omega) ?_
    have hO0 := hO
    intro v11 wA hO hkA hcA
    have hB3A := hB3.keep hkA (fun e => hO0.ne hBo (by decide) _ e.symm rfl)
    refine wl_store hW rfl fl26 rfl rfl hO.one hB3A rfl ?_
    intro wS hBS hkS
    refine wl_nil ?_
    refine nx_block ?_
    exact round_coll (fun W h => by rw [List.map_append]; exact h) hBo ⟨_, hO0⟩ hKc (((KeepR.of_ext hE).trans (hkA.mono fun k _ h => h.2)).trans (hkS.mono fun k _ h => h.1)) ⟨_, hBS, hO.keep hkS (hO.ne hB3A (by decide)) (fun k _ h => by omega)⟩
  · intro B xs W hBB hs hi hk
    -- done
    obtain ⟨⟨ov, hBo, hO⟩, hKc⟩ := hi
    replace hB3 := hBo
    rw [hs] at hO
    refine nx_block ?_
    refine nx_then ?_
    refine wc_seq ?_
    refine wc_region ?_
    refine wl_val hW rfl rfl (x_load fl26 rfl (hB3.cell (o := 0) rfl)) ?_
    refine wl_val hW rfl rfl (x_assign rfl) ?_
    refine wl_nil ?_
    refine nx_then ?_
    refine wc_ret ?_
    obtain ⟨hdr, hde⟩ := coll_done2 hEG g3 hKc hO hBB hk (by simp; omega)
    exact ends_ret_mark hk (res_tmp Try.results30 rfl) ⟨hdr.mono (fun k _ h => by have := hEG.size; rcases h with h | h <;> omega), hde⟩
  · exact fun B c pre W _ _ h _ => h.elim
theorem C43 {O : Nat → Prop} {w : World} {t : Td} {key : ByteArray} (hT : Tab O w t) {p : Nat} (hb : Below t.ns (kE key) p) (hlen : t.ns.length ≤ 1048576) :
    Rt Try.prog 43 [.pointer (some ⟨t.bt, 0, none⟩), .string key] w fun r w' => Row (fun k => w.heap.size ≤ k) w' r ((t.ns.drop p).map (·.e)) ∧ Ext w w' := by
  have hW := hWw
  have hFF := hFw
  have hE : Ext w w := Keep.refl _ _
  refine rt_body Try.func43 rfl Try.ntmps43 rfl ?_
  refine wc_seq ?_
  refine wc_region ?_
  refine wl_val hW rfl rfl (x_assign rfl) ?_
  refine wl_nil ?_
  refine nx_then ?_
  refine wc_seq ?_
  refine wc_region ?_
  refine wl_alloc (cs := [.slice none 0 0]) hW rfl rfl Try.zeroValue26 rfl ?_
  intro b5 w5 hl5 hB5 hx5
  have g5 : w.heap.size ≤ b5 := Nat.le_trans hE.size hl5
  replace hE := hE.trans hx5
  refine wl_nil ?_
  refine nx_then ?_
  refine wc_seq ?_
  refine wc_seq ?_
  have hT5 := hT.bound.ext hE
  have hb5lt0 := hB5.lt
  refine wc_region ?_
  refine wl_val hW rfl rfl (x_move rfl) ?_
  refine wl_val hW rfl rfl (x_move rfl) ?_
  refine wl_call hW rfl rfl (x_call en72 rfl) ((C72 hT5 hb hlen).inF hFF) ?_
  rintro _ wC ⟨⟨bq, rv, rfl, gq, hBq, hR87⟩, hxC⟩
  replace hB5 := hB5.ext hxC
  replace hE := hE.trans hxC
  have hG := hR87
  have hb5lt := hB5.lt
  have hEG := hE
  have hszG := hxC.size
  refine wl_nil ?_
  refine nx_then ?_
  refine wc_block ?_
  refine wc_rangeY (α := Ent × Value) (σ := Nat) (fun x => .agg (cellsOf x.1 x.2).toArray) (fun k => k < wC.heap.size ∧ k ≠ b5) (fun x W => FB wC.heap.size W x.2 x.1.v ∧ EntOk x.1) (fun xs => xs.map (·.1) = (t.ns.drop p).map (·.e)) (fun pre => pre.map (·.1) <+: (t.ns.drop p).map (·.e)) (((t.ns.drop p).map (·.e)).length + 1) rfl en87 rfl (C87 hG hBq (fun k h ho => ⟨h, by rcases ho.1 with h1 | h1; have := h1.1.2; omega; omega⟩) ⟨hBq.lt, by omega⟩) (fun k h => h.1) (fun x A B h hn => ⟨h.1.nc hn, h.2⟩) (fun pre W => Coll wC b5 (fun k => wC.heap.size ≤ k) (pre.map fun x : Ent × Value => x.1) W) (fun _ _ _ => False) (fun s A B h hn => h.nc hn) (fun c s A B h _ => h) (Coll.start hB5) (fun x b6 A => wC.heap.size ≤ b6 ∧ Blk A b6 (cellsOf x.1 x.2) 25) (fun x s A B h hn => ⟨h.1, h.2.nc hn⟩) (fun x b6 => [(5, .pointer (some ⟨b5, 0, none⟩)), (6, .pointer (some ⟨b6, 0, none⟩))]) ?_ ?_ ?_ ?_
  · intro l pre x A K hI hyp hK
    -- assign
    have hW := hWw.round l
    have hsA := hI.keep.size
    have hE : Ext A A := Keep.refl _ _
    obtain ⟨ax, cx, hxv⟩ := hyp.1.form
    have hone := cells_one (e := x.1) (bv := x.2) (by rw [hxv]; rfl)
    refine wc_region ?_
    refine wl_alloc (cs := [.string ⟨#[]⟩, .int .u64 0, .bool false, .slice none 0 0]) hW rfl rfl Try.zeroValue25 rfl ?_
    intro b6 w6 hl6 hB6 hx6
    have g6 : A.heap.size ≤ b6 := hl6
    replace hE := hE.trans hx6
    refine wl_storeA hW rfl ag25 rfl rfl hone rfl hB6 rfl ?_
    intro wS hBS hkS
    replace hB6 := hBS
    clear hBS
    replace hE := hE.store hkS g6
    refine wl_nil ?_
    exact fun a ha => hK b6 wS hE ⟨by omega, hB6⟩ a (ha.sub (by repeat (first | exact sub_nil | refine sub_cons rfl ?_)))
  · intro l pre x b6 A hI hyp hAs hlt
    -- body
    obtain ⟨⟨ov, hBo, hO⟩, hKc⟩ := hI
    obtain ⟨hb6, hB6⟩ := hAs
    replace hB5 := hBo
    replace hE : Ext A A := Keep.refl _ _
    have n6_5 : b6 ≠ b5 := by omega
    have hsA := hKc.size
    have hpl : (pre.map fun x : Ent × Value => x.1).length = pre.length := by simp
    have hesl : ((t.ns.drop p).map (·.e)).length ≤ t.ns.length := by simp
    have hW := hWw.round l
    have hFF := hFr l
    refine wc_block ?_
    refine wc_region ?_
    refine wl_val hW rfl rfl (x_load fl26 rfl (hB5.cell (o := 0) rfl)) ?_
    refine wl_val hW rfl rfl (x_loadA ag25 rfl hB6.cells rfl) ?_
    refine wl_buildSlice (parts := [(0, .tmp 12)]) hW rfl rfl Try.underlying26 ag25.siz Try.zeroValue25 rfl rfl rfl (by omega) ?_
    intro b13 w13 hl13 hB13 hx13
    have g13 : A.heap.size ≤ b13 := hl13
    have n13_5 : b13 ≠ b5 := Nat.ne_of_gt (Nat.lt_of_lt_of_le hB5.lt hl13)
    replace hB5 := hB5.ext hx13
    have n13_6 : b13 ≠ b6 := Nat.ne_of_gt (Nat.lt_of_lt_of_le hB6.lt hl13)
    replace hB6 := hB6.ext hx13
    replace hE := hE.trans hx13
    have hszA := hE.size
    refine wl_append1 hW rfl rfl rfl rfl (hO.ext hE) (by rw [hpl]; omega) hB13 ((hyp.1.ext hE).byts.mono (fun k _ h => ⟨h.1, fun e => by obtain ⟨⟨bvs, h5, h6, h7⟩, h8⟩ := hO.ext hE; obtain ⟨-, cs', h9⟩ := ownsRow_blk h6 e.symm; exact (hyp.1.ext hE).ne h.2 h9 (by decide) rfl⟩)) hyp.2 (by omega) ?_
    have hO0 := hO
    intro v14 wA hO hkA hcA
    have hB5A := hB5.keep hkA (fun e => hO0.ne hBo (by decide) _ e.symm rfl)
    refine wl_store hW rfl fl26 rfl rfl hO.one hB5A rfl ?_
    intro wS hBS hkS
    refine wl_nil ?_
    refine nx_block ?_
    exact round_coll (fun W h => by rw [List.map_append]; exact h) hBo ⟨_, hO0⟩ hKc (((KeepR.of_ext hE).trans (hkA.mono fun k _ h => h.2)).trans (hkS.mono fun k _ h => h.1)) ⟨_, hBS, hO.keep hkS (hO.ne hB5A (by decide)) (fun k _ h => by omega)⟩
  · intro B xs W hBB hs hi hk
    -- done
    obtain ⟨⟨ov, hBo, hO⟩, hKc⟩ := hi
    replace hB5 := hBo
    rw [hs] at hO
    refine nx_block ?_
    refine nx_then ?_
    refine wc_seq ?_
    refine wc_region ?_
    refine wl_val hW rfl rfl (x_load fl26 rfl (hB5.cell (o := 0) rfl)) ?_
    refine wl_val hW rfl rfl (x_assign rfl) ?_
    refine wl_nil ?_
    refine nx_then ?_
    refine wc_ret ?_
    obtain ⟨hdr, hde⟩ := coll_done2 hEG g5 hKc hO hBB hk (by simp; omega)
    exact ends_ret_mark hk (res_tmp Try.results43 rfl) ⟨hdr.mono (fun k _ h => by have := hEG.size; rcases h with h | h <;> omega), hde⟩
  · exact fun B c pre W _ _ h _ => h.elim
end Go.Proofs.Ytblbddamebbgaaa.K


/- Walks: spoil. -/
namespace Go.Proofs.Ytblbddamebbgaaa.K
open Go Go.RowKit
set_option linter.unusedVariables false
set_option linter.unusedSimpArgs false

theorem FB.cells {base g n cap : Nat} {w : World} {l : List UInt8} (h : FB base w (.slice (some ⟨g, 0, none⟩) n cap) l) : n = l.length ∧ base ≤ g ∧ ∃ cs, Blk w g cs 5 ∧ ∀ j, j < n → ∃ z, cs[j]? = some (.int .u8 z) := by
  obtain ⟨ad, c, e, h0, hs, -⟩ := owns_src h
  cases e
  rcases h.2 with ⟨he, -⟩ | ⟨g', cap', cur, he, hb, hg, hc1, hc2, hc3, hc4⟩
  · cases he
  · cases he
    refine ⟨rfl, hb, cur.toList, by simpa [Blk] using hg, fun j hj => ⟨(l[j].toNat : Int), ?_⟩⟩
    have h1 : (cur.toList.take (l.length * 1))[j]? = some (.int .u8 (l[j].toNat : Int)) := by rw [hc4]; simp [byteCells, hj]
    rw [List.getElem?_take_of_lt (by omega)] at h1
    exact h1
theorem C34 {base : Nat} {w : World} {v : Value} {l : List UInt8} (h : FB base w v l) (hl : l.length ≤ 1099511627776) : Rt Try.prog 34 [v] w fun r w' => Keep (fun k => some k ≠ v.ownBlock) w w' := by
  obtain ⟨ad, c, rfl⟩ := h.form
  have hblk : ∀ g, ad = some ⟨g, 0, none⟩ → ∃ cs, Blk w g cs 5 ∧ ∀ j, j < l.length → ∃ z, cs[j]? = some (.int .u8 z) := fun g e => by subst e; exact h.cells.2.2
  have had : ad = none ∨ ∃ g, ad = some ⟨g, 0, none⟩ := by
    rcases h.2 with ⟨he, -⟩ | ⟨g', cap', cur, he, -⟩
    · exact .inl (by injection he)
    · exact .inr ⟨g', by injection he⟩
  have hnone : ad = none → l.length = 0 := fun e => by
    subst e
    rcases h.2 with ⟨-, h0⟩ | ⟨g', cap', cur, he, -⟩
    · exact h0
    · exact Value.noConfusion he (fun h1 _ _ => by cases h1)
  have hW := hWw
  have hFF := hFw
  have hE : Ext w w := Keep.refl _ _
  refine rt_body Try.func34 rfl Try.ntmps34 rfl ?_
  refine wc_seq ?_
  refine wc_region ?_
  refine wl_val hW rfl rfl (x_assign rfl) ?_
  refine wl_nil ?_
  refine nx_then ?_
  refine wc_block ?_
  refine wc_loop (σ := Nat) (fun s => [(0, .slice ad l.length c), (2, .int .i64 (s : Nat))]) (fun s w' => s ≤ l.length ∧ Keep (fun k => some k ≠ (Value.slice ad l.length c).ownBlock) w w' ∧ ∀ g, ad = some ⟨g, 0, none⟩ → ∃ cs, Blk w' g cs 5 ∧ ∀ j, j < l.length → ∃ z, cs[j]? = some (.int .u8 z)) (fun s => l.length - s) 0 ?_ ?_ ?_
  · exact ⟨Nat.zero_le _, Keep.refl _ _, hblk⟩
  · repeat (first | exact sub_nil | refine sub_cons rfl ?_)
  · rintro s wr ⟨hs, hK, hB⟩
    refine wc_seq ?_
    refine wc_seq ?_
    refine wc_region ?_
    refine wl_val hW rfl rfl (x_move rfl) ?_
    refine wl_val hW rfl rfl (x_move rfl) ?_
    refine wl_val hW rfl rfl (x_len Try.underlying23 rfl) ?_
    refine wl_val hW rfl rfl (x_lss rfl rfl) ?_
    refine wl_nil ?_
    refine nx_then ?_
    refine wc_dec rfl (fun hc => ?_) (fun hc => ?_)
    · refine wc_skip ?_
      refine nx_then ?_
      refine wc_seq ?_
      refine wc_block ?_
      refine wc_region ?_
      have hlt : s < l.length := by omega
      obtain ⟨g, rfl⟩ : ∃ g, ad = some ⟨g, 0, none⟩ := had.resolve_left fun e => by have := hnone e; omega
      obtain ⟨cs, hBg, hz⟩ := hB g rfl
      obtain ⟨z, hzs⟩ := hz s hlt
      have hlc := (List.getElem?_eq_some_iff.1 hzs).1
      have e0 : 0 + ((s : Nat) : Int).toNat * 1 = s := by omega
      refine wl_val hW rfl rfl (x_move rfl) ?_
      refine wl_val hW rfl rfl (x_move rfl) ?_
      refine wl_val hW rfl rfl (x_move rfl) ?_
      refine wl_val hW rfl rfl (x_move rfl) ?_
      refine wl_val hW rfl rfl (x_indexAddr Try.underlying23 fl5.siz rfl rfl (by omega) (by omega)) ?_
      refine wl_val hW rfl rfl (x_load fl5 rfl (by rw [e0]; exact hBg.cell hzs)) ?_
      refine wl_val hW rfl rfl (x_add (r := IntKind.u8.wrap (z + 1)) rfl rfl rfl) ?_
      refine wl_val hW rfl rfl (x_indexAddr Try.underlying23 fl5.siz rfl rfl (by omega) (by omega)) ?_
      refine wl_store hW rfl fl5 rfl rfl rfl hBg (by rw [e0]; simpa using hlc) ?_
      intro wS hBS hkS
      rw [e0] at hBS
      refine wl_nil ?_
      refine nx_block ?_
      refine nx_then ?_
      refine wc_region ?_
      refine wl_val hW rfl rfl (x_move rfl) ?_
      refine wl_val hW rfl rfl (x_inc (s := s) rfl (by omega)) ?_
      refine wl_val hW rfl rfl (x_assign rfl) ?_
      refine wl_nil ?_
      exact nx_next (s + 1) (by omega) ⟨hlt, hK.trans (hkS.mono fun k _ h e => h (by rw [e]; rfl)), fun g' e => by cases e; exact ⟨_, hBS, fun j hj => by rw [List.getElem?_set]; split; exact ⟨_, rfl⟩; exact hz j hj⟩⟩ (by repeat (first | exact sub_nil | refine sub_cons rfl ?_))
    · refine wc_exit ?_
      refine nx_then_exit ?_
      refine nx_then_exit ?_
      refine nx_block_exit ?_
      exact ends_normal (res_none Try.results34) hK
end Go.Proofs.Ytblbddamebbgaaa.K


/- Tables and the document's: plain. -/
namespace Go.Proofs.Ytblbddamebbgaaa.K
open Go Go.RowKit
set_option linter.unusedVariables false
set_option linter.unusedSectionVars false
set_option linter.unusedSimpArgs false

/-- A version laid into a list in order. -/
def insL (e : Ent) : List Ent → List Ent
  | [] => [e]
  | x :: xs => if ltE x e then x :: insL e xs else if cmpE x e = 0 then e :: xs else e :: x :: xs
theorem insL_hit (e : Ent) : ∀ (L : List Ent) (p : Nat), BelowL L e p → hitL L e p = true → insL e L = L.set p e
  | [], p, hb, hh => by unfold hitL at hh; simp at hh
  | x :: xs, 0, hb, hh => by
    have h1 := hb.hi (by simp)
    simp only [List.getElem_cons_zero] at h1
    rw [hitL_some (by simp)] at hh
    simp only [List.getElem_cons_zero] at hh
    simp only [insL, if_neg h1, if_pos (of_decide_eq_true hh), List.set_cons_zero]
  | x :: xs, p + 1, hb, hh => by
    have h1 := hb.lo 0 (by simp) (by omega)
    simp only [List.getElem_cons_zero] at h1
    have hb' : BelowL xs e p := ⟨by have := hb.le; simp at this; omega, fun j h hj => by have := hb.lo (j + 1) (by simpa using h) (by omega); simpa using this, fun h => by have := hb.hi (by simpa using h); simpa using this⟩
    simp only [insL, if_pos h1, List.set_cons_succ, insL_hit e xs p hb' (by unfold hitL at hh ⊢; simpa using hh)]
theorem insL_miss (e : Ent) : ∀ (L : List Ent) (p : Nat), BelowL L e p → hitL L e p = false → insL e L = L.take p ++ e :: L.drop p
  | [], p, hb, hh => by have := hb.le; simp at this; subst this; rfl
  | x :: xs, 0, hb, hh => by
    have h1 := hb.hi (by simp)
    simp only [List.getElem_cons_zero] at h1
    rw [hitL_some (by simp)] at hh
    simp only [List.getElem_cons_zero] at hh
    simp only [insL, if_neg h1, if_neg (of_decide_eq_false hh), List.take_zero, List.nil_append, List.drop_zero]
  | x :: xs, p + 1, hb, hh => by
    have h1 := hb.lo 0 (by simp) (by omega)
    simp only [List.getElem_cons_zero] at h1
    have hb' : BelowL xs e p := ⟨by have := hb.le; simp at this; omega, fun j h hj => by have := hb.lo (j + 1) (by simpa using h) (by omega); simpa using this, fun h => by have := hb.hi (by simpa using h); simpa using this⟩
    simp only [insL, if_pos h1, List.take_succ_cons, List.drop_succ_cons, List.cons_append, insL_miss e xs p hb' (by unfold hitL at hh ⊢; simpa using hh)]
theorem belowL_uniq {L : List Ent} {e : Ent} {p q : Nat} (h1 : BelowL L e p) (h2 : BelowL L e q) : p = q := by
  rcases Nat.lt_trichotomy p q with h | h | h
  · exact absurd (h2.lo p (by have := h2.le; omega) h) (h1.hi (by have := h2.le; omega))
  · exact h
  · exact absurd (h1.lo q (by have := h1.le; omega) h) (h2.hi (by have := h1.le; omega))
def Td.E (t : Td) : List Ent := t.ns.map (·.e)
def Td.H (t : Td) : List Nat := t.ns.map (·.h)
theorem Below.toL {t : Td} {e : Ent} {p : Nat} (h : Below t.ns e p) : BelowL t.E e p :=
  ⟨by have := h.le; simpa [Td.E] using this, fun j hj hlt => by have := h.lo j (by simpa [Td.E] using hj) hlt; simpa [Td.E] using this, fun hp => by have := h.hi p (by simpa [Td.E] using hp) (Nat.le_refl _); simpa [Td.E] using this⟩
theorem hitB_hitL (t : Td) (e : Ent) (p : Nat) : hitB t.ns e p = hitL t.E e p := by
  unfold hitB hitL Td.E
  rw [List.getElem?_map]
  cases t.ns[p]? <;> rfl
theorem PutT.E {t t' : Td} {e : Ent} (h : PutT t e t') : t'.E = insL e t.E := by
  obtain ⟨-, -, -, p, hb, h⟩ := h
  rcases h with ⟨h1, n, bv, h2, h3, -⟩ | ⟨h1, b, a, bv, h3, -⟩
  · rw [insL_hit e _ p hb.toL (by rw [← hitB_hitL]; exact h1)]
    unfold Td.E; rw [h3, List.map_set]
  · rw [insL_miss e _ p hb.toL (by rw [← hitB_hitL]; exact h1)]
    unfold Td.E; rw [h3]
    unfold stage
    simp [List.map_take, List.map_drop]
theorem RPut.L {r r' : Rd} {e : Ent} (h : RPut r e r') : r'.L = insL e r.L := by
  obtain ⟨-, -, -, p, hb, h⟩ := h
  rcases h with ⟨h1, h2, -⟩ | ⟨h1, h2, -⟩
  · rw [h2, insL_hit e _ p hb h1]
  · rw [h2, insL_miss e _ p hb h1]
theorem foldl_max (l : List Nat) : ∀ a : Nat, l.foldl max a = max a (l.foldl max 0) := by
  induction l with
  | nil => intro a; simp
  | cons x l ih =>
    intro a
    simp only [List.foldl_cons]
    rw [ih (max a x), ih (max 0 x)]
    omega
theorem foldl_ins (l1 l2 : List Nat) (h : Nat) : (l1 ++ h :: l2).foldl max 0 = max ((l1 ++ l2).foldl max 0) h := by
  simp only [List.foldl_append, List.foldl_cons]
  rw [foldl_max l2 (max _ h), foldl_max l2 (l1.foldl max 0)]
  omega
/-- What a table tells of itself is what its nodes tell. -/
structure TI (t : Td) : Prop where
  cnt : t.cnt = t.E.length
  hgt : t.hgt = t.H.foldl max 0
  sz : t.sz = sizeL t.E
/-- The table and the document's hold the same. -/
structure TR (t : Td) (r : Rd) : Prop where
  E : t.E = r.L
  H : t.H = r.hs
  came : t.cnt = r.came
  ds : t.ds = r.ds
theorem sizeL_append (a b : List Ent) : sizeL (a ++ b) = sizeL a + sizeL b := by simp [sizeL]
theorem sizeL_cons (e : Ent) (b : List Ent) : sizeL (e :: b) = costE e + sizeL b := by simp [sizeL]
theorem TI.put {t t' : Td} {e : Ent} (hi : TI t) (h : PutT t e t') : TI t' := by
  have hE := h.E
  obtain ⟨-, -, -, p, hb, h⟩ := h
  have hpl : p ≤ t.E.length := hb.toL.le
  rcases h with ⟨h1, n, bv, h2, h3, h4, h5, h6⟩ | ⟨h1, b, a, bv, h3, h4, h5, h6⟩
  · have hhl : hitL t.E e p = true := by rw [← hitB_hitL]; exact h1
    have hset := insL_hit e _ p hb.toL hhl
    rw [hset] at hE
    have hplt : p < t.E.length := by
      have := (List.getElem?_eq_some_iff.1 h2).1
      simpa [Td.E] using this
    have hEp : t.E[p] = n.e := by
      have : t.E[p]? = some n.e := by unfold Td.E; rw [List.getElem?_map, h2]; rfl
      rw [List.getElem?_eq_getElem hplt] at this
      exact Option.some.inj this
    refine ⟨by rw [h5, hE, List.length_set, hi.cnt], ?_, ?_⟩
    · have : t'.H = t.H := by
        unfold Td.H; rw [h3]
        apply List.ext_getElem?
        intro j
        rw [List.getElem?_map, List.getElem?_map, List.getElem?_set]
        by_cases e : p = j
        · subst e; rw [if_pos rfl, if_pos (by simpa [Td.E] using hplt), h2]; rfl
        · rw [if_neg e]
      rw [h4, this, hi.hgt]
    · rw [h6, hE, hi.sz]
      have h7 : t.E = t.E.take p ++ t.E[p] :: t.E.drop (p + 1) := by rw [← List.drop_eq_getElem_cons hplt, List.take_append_drop]
      have h8 : t.E.set p e = t.E.take p ++ e :: t.E.drop (p + 1) := by rw [List.set_eq_take_append_cons_drop, if_pos hplt]
      have h9 : sizeL t.E = sizeL (t.E.take p) + (costE n.e + sizeL (t.E.drop (p + 1))) := by rw [← hEp, ← sizeL_cons, ← sizeL_append, ← h7]
      rw [h8, sizeL_append, sizeL_cons]
      omega
  · have hhl : hitL t.E e p = false := by rw [← hitB_hitL]; exact h1
    rw [insL_miss e _ p hb.toL hhl] at hE
    refine ⟨by rw [h5, hE, hi.cnt]; simp; omega, ?_, ?_⟩
    · have : t'.H = t.H.take p ++ t.tow :: t.H.drop p := by
        unfold Td.H; rw [h3]; unfold stage; simp [List.map_take, List.map_drop]
      rw [h4, this, foldl_ins, List.take_append_drop, hi.hgt]
    · rw [h6, hE, hi.sz, sizeL_append, sizeL_cons]
      have : sizeL t.E = sizeL (t.E.take p) + sizeL (t.E.drop p) := by rw [← sizeL_append, List.take_append_drop]
      omega
theorem TR.put {t t' : Td} {r r' : Rd} {e : Ent} (hr : TR t r) (h : PutT t e t') (g : RPut r e r') : TR t' r' := by
  have hE := h.E
  have gL := g.L
  obtain ⟨-, -, hds, p, hb, h⟩ := h
  obtain ⟨-, -, gds, q, gb, g⟩ := g
  have hpq : p = q := belowL_uniq hb.toL (by rw [hr.E]; exact gb)
  subst hpq
  refine ⟨by rw [hE, gL, hr.E], ?_, ?_, by rw [hds, gds, hr.ds]⟩
  · rcases h with ⟨h1, n, bv, h2, h3, h4, h5, h6⟩ | ⟨h1, b, a, bv, h3, h4, h5, h6⟩
    · rcases g with ⟨g1, g2, g3, g4⟩ | ⟨g1, g2, g3, g4⟩
      · rw [g3, ← hr.H]
        unfold Td.H; rw [h3]
        apply List.ext_getElem?
        intro j
        rw [List.getElem?_map, List.getElem?_map, List.getElem?_set]
        by_cases e : p = j
        · subst e; rw [if_pos rfl, if_pos (List.getElem?_eq_some_iff.1 h2).1, h2]; rfl
        · rw [if_neg e]
      · rw [hitB_hitL, hr.E, g1] at h1; cases h1
    · rcases g with ⟨g1, g2, g3, g4⟩ | ⟨g1, g2, g3, g4⟩
      · rw [hitB_hitL, hr.E, g1] at h1; cases h1
      · rw [g3, ← hr.H, ← hr.ds, ← hr.came]
        unfold Td.H; rw [h3]; unfold stage; simp [List.map_take, List.map_drop]
  · rcases h with ⟨h1, n, bv, h2, h3, h4, h5, h6⟩ | ⟨h1, b, a, bv, h3, h4, h5, h6⟩
    · rcases g with ⟨g1, g2, g3, g4⟩ | ⟨g1, g2, g3, g4⟩
      · rw [h5, g4, hr.came]
      · rw [hitB_hitL, hr.E, g1] at h1; cases h1
    · rcases g with ⟨g1, g2, g3, g4⟩ | ⟨g1, g2, g3, g4⟩
      · rw [hitB_hitL, hr.E, g1] at h1; cases h1
      · rw [h5, g4, hr.came]
theorem insL_len (e : Ent) (L : List Ent) : L.length ≤ (insL e L).length ∧ (insL e L).length ≤ L.length + 1 := by
  induction L with
  | nil => simp [insL]
  | cons x xs ih =>
    simp only [insL]
    split
    · simp only [List.length_cons]; omega
    · split <;> simp
theorem insL_mem {e x : Ent} {L : List Ent} (h : x ∈ insL e L) : x = e ∨ x ∈ L := by
  induction L with
  | nil => simp [insL] at h; exact .inl h
  | cons y ys ih =>
    simp only [insL] at h
    split at h
    · rcases List.mem_cons.1 h with h | h
      · exact .inr (by simp [h])
      · rcases ih h with h | h
        · exact .inl h
        · exact .inr (by simp [h])
    · split at h
      · rcases List.mem_cons.1 h with h | h
        · exact .inl h
        · exact .inr (by simp [h])
      · rcases List.mem_cons.1 h with h | h
        · exact .inl h
        · exact .inr h
theorem tab_E_sorted {O : Nat → Prop} {w : World} {t : Td} (h : Tab O w t) : Sorted t.E := by
  unfold Sorted Td.E
  rw [List.pairwise_map]; exact h.sorted
theorem tab_E_ok {O : Nat → Prop} {w : World} {t : Td} (h : Tab O w t) : ∀ e ∈ t.E, EntOk e := fun e he => by
  obtain ⟨n, hn, rfl⟩ := List.mem_map.1 he; exact h.ok n hn
/-- What Get finds is the newest of the key up to the number. -/
theorem got_new {ns : List Nd} {key : ByteArray} {up : Int} {p : Nat} (hs : ns.Pairwise fun x y => ltE x.e y.e) (hb : Below ns (gE key up) p) : (gotN ns p key).map (·.e) = newF (ns.map (·.e)) key up := by
  have hlow : ∀ (j : Nat) (h : j < ns.length), j < p → ¬ (ns[j].e.k = key ∧ ns[j].e.s ≤ up) := fun j h hj ⟨h1, h2⟩ => by
    rcases hb.lo j h hj with h3 | ⟨h3, h4⟩
    · rw [show (gE key up).k = key from rfl, ← h1, bl_irrefl] at h3; cases h3
    · have : up < ns[j].e.s := h4
      omega
  unfold newF gotN
  by_cases hp : p < ns.length
  · rw [List.drop_eq_getElem_cons hp]
    simp only [List.head?_cons]
    by_cases hk : ns[p].e.k = key
    · rw [if_pos hk]
      have hsu : ns[p].e.s ≤ up := Decidable.byContradiction fun h => hb.hi p hp (Nat.le_refl _) (.inr ⟨hk, by show up < _; omega⟩)
      symm
      show _ = some ns[p].e
      rw [List.find?_eq_some_iff_getElem]
      refine ⟨by simp [hk, hsu], p, by simpa using hp, by simp, fun j hj => ?_⟩
      have := hlow j (by omega) hj
      simp only [List.getElem_map]
      by_cases h1 : ns[j].e.k = key
      · simp [h1] at this ⊢; exact this
      · simp [h1]
    · rw [if_neg hk]
      symm
      show _ = none
      rw [List.find?_eq_none]
      intro x hx
      obtain ⟨n, hn, rfl⟩ := List.mem_map.1 hx
      obtain ⟨j, hj, rfl⟩ := List.getElem_of_mem hn
      by_cases hjp : j < p
      · have := hlow j hj hjp
        by_cases h1 : ns[j].e.k = key
        · simp [h1] at this ⊢; exact this
        · simp [h1]
      · have hgt : bl key.toList ns[p].e.k.toList = true := by
          have h1 := hb.hi p hp (Nat.le_refl _)
          cases h2 : bl key.toList ns[p].e.k.toList with
          | true => rfl
          | false =>
            cases h3 : bl ns[p].e.k.toList key.toList with
            | true => exact absurd (.inl h3) h1
            | false => exact absurd (ba_ext (bl_total _ _ h3 h2)) hk
        have hne : ns[j].e.k ≠ key := by
          by_cases hjp' : j = p
          · subst hjp'; exact hk
          · intro e
            rcases List.pairwise_iff_getElem.1 hs p j hp hj (by omega) with h4 | ⟨h4, -⟩
            · rw [e] at h4
              exact absurd (bl_trans _ _ _ hgt h4) (by rw [bl_irrefl]; simp)
            · exact hk (h4.trans e)
        simp [hne]
  · rw [List.drop_eq_nil_of_le (by omega)]
    simp only [List.head?_nil, Option.map_none]
    symm
    rw [List.find?_eq_none]
    intro x hx
    obtain ⟨n, hn, rfl⟩ := List.mem_map.1 hx
    obtain ⟨j, hj, rfl⟩ := List.getElem_of_mem hn
    have := hlow j hj (by omega)
    by_cases h1 : ns[j].e.k = key
    · simp [h1] at this ⊢; exact this
    · simp [h1]
/-- Where a key's versions begin. -/
theorem below_key {t : Td} {key : ByteArray} {p : Nat} (hok : ∀ e ∈ t.E, EntOk e) (hb : Below t.ns (kE key) p) : fromN t.E key = p := by
  have hbl := hb.toL
  have key2 : ∀ e ∈ t.E, (ltE e (kE key) ↔ bl e.k.toList key.toList = true) := fun e he => by
    constructor
    · rintro (h | ⟨-, h⟩)
      · exact h
      · have := (hok e he).s1; have : (18446744073709551615 : Int) < e.s := h; omega
    · exact .inl
  exact fromN_eq hbl.le (fun j h hj => (key2 _ (List.getElem_mem h)).1 (hbl.lo j h hj)) (fun h => by
    have := hbl.hi h
    rw [key2 _ (List.getElem_mem h)] at this
    simpa using this)
theorem below_empty {t : Td} {p : Nat} (hok : ∀ e ∈ t.E, EntOk e) (hb : Below t.ns (kE ⟨#[]⟩) p) : p = 0 := by
  have := below_key hok hb
  rw [← this]
  unfold fromN
  cases h : t.E with
  | nil => rfl
  | cons x xs =>
    have : bl x.k.toList (ByteArray.mk #[]).toList = false := by
      rw [show (ByteArray.mk #[]).toList = [] from by rw [ByteArray.toList_eq]]
      cases x.k.toList <;> rfl
    rw [List.takeWhile_cons, this]; rfl
end Go.Proofs.Ytblbddamebbgaaa.K

/- The chapter's example of tables, plain. -/
namespace Go.Proofs.Ytblbddamebbgaaa.K
open Go Go.RowKit
set_option linter.unusedVariables false
set_option linter.unusedSectionVars false
set_option linter.unusedSimpArgs false

def k1 : Ent := ⟨⟨#[97]⟩, 1, false, [120]⟩
def k2 : Ent := ⟨⟨#[97]⟩, 3, true, []⟩
def k3 : Ent := ⟨⟨#[98]⟩, 2, false, [121]⟩
theorem kx1 : insL k1 [] = [k1] := rfl
theorem kx2 : insL k2 [k1] = [k2, k1] := by
  have h1 : ¬ ltE k1 k2 := by
    rintro (h | ⟨-, h⟩)
    · rw [show k1.k = k2.k from rfl, bl_irrefl] at h; cases h
    · exact absurd h (by decide)
  have h2 : ¬ cmpE k1 k2 = 0 := fun h => absurd (cmpE_zero.1 h).2 (by decide)
  simp only [insL, if_neg h1, if_neg h2]
theorem kx3 : insL k3 [k2, k1] = [k2, k1, k3] := by
  have hb : bl k2.k.toList k3.k.toList = true := by
    show bl (ByteArray.mk #[97]).toList (ByteArray.mk #[98]).toList = true
    rw [k97, k98]; exact bl_97_98
  have h1 : ltE k2 k3 := .inl hb
  have h2 : ltE k1 k3 := .inl hb
  simp only [insL, if_pos h1, if_pos h2]
theorem kn1 : newF [k2, k1, k3] ⟨#[97]⟩ 2 = some k1 := rfl
theorem kn2 : newF [k2, k1, k3] ⟨#[97]⟩ 9 = some k2 := rfl
theorem kn3 : newF [k2, k1, k3] ⟨#[99]⟩ 9 = none := rfl
theorem ksz : sizeL [k2, k1, k3] = 53 := rfl
theorem k1_ok : EntOk k1 := ⟨by decide, by decide, by decide, by decide⟩
theorem k2_ok : EntOk k2 := ⟨by decide, by decide, by decide, by decide⟩
theorem k3_ok : EntOk k3 := ⟨by decide, by decide, by decide, by decide⟩
theorem Ext.tab {w w1 w2 : World} {O : Nat → Prop} {t : Td} (h : Ext w w1) (hT : Tab O w1 t) (hO : ∀ k, O k → w.heap.size ≤ k) (hk : Keep (fun k => k ∉ t.nb) w1 w2) : Ext w w2 :=
  h.after hk fun k hlt hm => by have := hO k (hT.own k hm); omega
theorem got_some {O : Nat → Prop} {w : World} {t : Td} {key : ByteArray} {up : Int} {p : Nat} {n : Nd} (hT : Tab O w t) (hb : Below t.ns (gE key up) p) (h : gotN t.ns p key = some n) : newF t.E key up = some n.e := by
  have := got_new hT.sorted hb
  rw [h] at this; exact this.symm
theorem got_none {O : Nat → Prop} {w : World} {t : Td} {key : ByteArray} {up : Int} {p : Nat} (hT : Tab O w t) (hb : Below t.ns (gE key up) p) (h : gotN t.ns p key = none) : newF t.E key up = none := by
  have := got_new hT.sorted hb
  rw [h] at this; exact this.symm
/-- Get, told of the newest version. -/
theorem C36n {O : Nat → Prop} {w : World} {t : Td} {key : ByteArray} {up : Int} (hT : Tab O w t) (hlen : t.ns.length ≤ 1048576) :
    Rt Try.prog 36 [.pointer (some ⟨t.bt, 0, none⟩), .string key, .int .u64 up] w fun r w' => ((∃ e bv, newF t.E key up = some e ∧ EntOk e ∧ r = .tuple #[.agg (cellsOf e bv).toArray, .bool true] ∧ FB w.heap.size w' bv e.v) ∨ (newF t.E key up = none ∧ r = .tuple #[.agg (cellsOf z0 (.slice none 0 0)).toArray, .bool false])) ∧ Ext w w' := by
  obtain ⟨p, hb⟩ := below_ex (gE key up) t.ns hT.sorted
  refine (C36 hT hb hlen).mono fun r w' ⟨h, hx⟩ => ⟨?_, hx⟩
  rcases h with ⟨n, bv', h1, h2, h3⟩ | ⟨h1, h2⟩
  · refine .inl ⟨n.e, bv', got_some hT hb h1, ?_, h2, h3⟩
    have := got_some hT hb h1
    unfold newF at this
    exact tab_E_ok hT _ (List.mem_of_find?_eq_some this)
  · exact .inr ⟨got_none hT hb h1, h2⟩
/-- Put, told of the plain table; its blocks lie from base on. -/
theorem C29n {A : Nat → Prop} {base : Nat} {w : World} {t : Td} {e : Ent} {bv : Value} (hT : Tab (fun k => base ≤ k) w t) (hi : TI t) (hby : Byts A w bv e.v) (hok : EntOk e) (hl : t.ns.length ≤ 100000) (hbase : base ≤ w.heap.size) :
    Rt Try.prog 29 [.pointer (some ⟨t.bt, 0, none⟩), .agg (cellsOf e bv).toArray] w fun r w' => ∃ t', t'.bt = t.bt ∧ Tab (fun k => base ≤ k) w' t' ∧ TI t' ∧ t'.E = insL (clr e) t.E ∧ PutT t (clr e) t' ∧ t'.ns.length ≤ t.ns.length + 1 ∧ Keep (fun k => k < base) w w' ∧ Keep (fun k => k ∉ t.nb) w w' := by
  have hle : t.E.length = t.ns.length := by simp [Td.E]
  have h1 := sizeL_le t.E (tab_E_ok hT)
  refine (C29 hT hby hok (by rw [hi.cnt]; omega) (by rw [hi.sz]; omega)).mono fun r w' ⟨t', h2, h3, h4⟩ => ⟨t', h3.1, h2.mono fun k _ h => h.elim id fun h => Nat.le_trans hbase h, hi.put h3, h3.E, h3, ?_, h4.mono fun k _ hk hm => by have : base ≤ k := hT.own k hm; omega, h4⟩
  have := (insL_len (clr e) t.E).2
  rw [← h3.E, hle] at this
  simpa [Td.E] using this
theorem x_peq {P : Program} {m : Nat} {D : List Deferred} {L : Env} {w : World} {ty t te : TypeId} {x y : Operand} {A : Option Addr} {t' : TypeId} (hp : P.underlying t = some (.pointer te)) (hte' : (P.info? te).isSome = true) (hx : ev L x = some (.pointer A)) (hy : ev L y = some (.pointer none)) : Xv P m D L (.binOp .eql t x y t') ty w (.bool (!A.isSome)) w :=
  ⟨nofun, fun _ _ _ _ a h => by
    obtain ⟨j, hte⟩ := Option.isSome_iff_exists.1 hte'
    have h0 : ∀ d : Nat, (Op.equalIn (d + 1) t (.pointer A) (.pointer none)).run P w = .ok (!A.isSome) w := fun d => by
      cases A <;> simp [Op.equalIn, run_underlying hp, sizeOf, typeInfo, hte]
    have h1 : (binOp .eql t (.pointer A) (.pointer none)).run P w = .ok (.bool (!A.isSome)) w := by
      simp only [binOp]
      simp [Op.equal, Op.maxDepth, h0 9999]
    simp [execOp, h.ev hx, h.ev hy, eqGuard, h1]⟩
theorem some114 : (Try.prog.info? 114).isSome = true := by kernel_rfl
theorem iRow_blk {w : World} {b n : Nat} {zs : List Int} (hB : Blk w b (intCells zs) 3) (hn : zs.length = n) (hl : zs.length ≤ 1099511627776) : IRow (· = b) w (.slice (some ⟨b, 0, none⟩) n n) zs :=
  ⟨_, _, by rw [hn], hl, fun _ => ⟨b, 0, rfl, rfl, fun i z hi => by rw [Nat.zero_add]; exact hB.cell (by simp [intCells, hi])⟩⟩
theorem Tab.keepN {O : Nat → Prop} {w w' : World} {t : Td} {b base : Nat} (h : Tab (fun k => base ≤ k ∧ k < b) w t) (hk : Keep (· ≠ b) w w') : Tab (fun k => base ≤ k ∧ k < b) w' t := h.keep hk fun k _ ho => by omega
theorem x_seqlT {P : Program} {m : Nat} {D : List Deferred} {L : Env} {w : World} {ty t : TypeId} {x y : Operand} {s r : ByteArray} {t' : TypeId} (hx : ev L x = some (.string s)) (hy : ev L y = some (.string r)) (h : s = r) : Xv P m D L (.binOp .eql t x y t') ty w (.bool true) w := by
  have := x_seql (P := P) (m := m) (D := D) (t := t) (t' := t') (ty := ty) (w := w) hx hy
  rwa [h, beq_self_eq_true] at this
end Go.Proofs.Ytblbddamebbgaaa.K

/- Walks: the chapter's example of tables. -/
namespace Go.Proofs.Ytblbddamebbgaaa.K
open Go Go.RowKit
set_option linter.unusedVariables false
set_option linter.unusedSimpArgs false

theorem C27 {w : World} : Rt Try.prog 27 [] w fun r w' => r = .bool true ∧ Ext w w' := by
  have hW := hWw
  have hFF := hFw
  have hE : Ext w w := Keep.refl _ _
  refine rt_body Try.func27 rfl Try.ntmps27 rfl ?_
  refine wc_seq ?_
  refine wc_region ?_
  refine wl_val hW rfl rfl (x_assign rfl) ?_
  refine wl_nil ?_
  refine nx_then ?_
  refine wc_seq ?_
  refine wc_region ?_
  refine wl_buildSlice (parts := [(0, .const (.int .i64 3)), (1, .const (.int .i64 1))]) hW rfl rfl Try.underlying42 fl3.siz Try.zeroValue3 rfl rfl rfl (by omega) ?_
  intro b8 w8 hl8 hB8 hx8
  have g8 : w.heap.size ≤ b8 := Nat.le_trans hE.size hl8
  replace hE := hE.trans hx8
  refine wl_call hW rfl rfl (x_call en28 rfl) ((C28 (iRow_blk (zs := [3, 1]) hB8 rfl (by decide))).inF hFF) ?_
  rintro _ wC ⟨⟨bt, ha, dv, rfl, hT0⟩, hxC⟩
  replace hE := hE.trans hxC
  have hsz0 := hE.size
  obtain ⟨t, hbt, hT, hI, hEt, hl⟩ : ∃ t : Td, t.bt = bt ∧ Tab (fun k => w.heap.size ≤ k ∧ k < wC.heap.size) wC t ∧ TI t ∧ t.E = [] ∧ t.ns.length ≤ 0 := ⟨⟨bt, ha, [], 0, 0, dv, [3, 1], 0⟩, rfl, (hT0.mono fun k _ h => by have := hx8.size; omega).bound, ⟨rfl, rfl, rfl⟩, rfl, Nat.le_refl _⟩
  subst hbt
  refine wl_val hW rfl rfl (x_assign rfl) ?_
  refine wl_nil ?_
  refine nx_then ?_
  refine wc_seq ?_
  refine wc_seq ?_
  refine wc_region ?_
  refine wl_val hW rfl rfl (x_move rfl) ?_
  refine wl_val hW rfl rfl (x_peq Try.underlying43 some114 rfl rfl) ?_
  refine wl_nil ?_
  refine nx_then ?_
  refine wc_false rfl ?_
  refine wc_skip ?_
  refine nx_then ?_
  refine wc_seq ?_
  refine wc_region ?_
  refine wl_val hW rfl rfl (x_move rfl) ?_
  refine wl_buildSlice (parts := [(0, .const (.int .u8 120))]) hW rfl rfl Try.underlying23 fl5.siz Try.zeroValue5 rfl rfl rfl (by omega) ?_
  intro b13 w13 hl13 hB13 hx13
  have g13 : w.heap.size ≤ b13 := Nat.le_trans hE.size hl13
  replace hE := hE.trans hx13
  refine wl_convSame hW rfl rfl rfl hB13 ?_
  intro v13 hC13 hk13
  replace hE := hE.store hk13 g13
  have hy13 : Byts (· = b13) v13 (.slice (some ⟨b13, 0, none⟩) 1 1) [120] := byts_one (u := 120) hC13 rfl
  have hTa : Tab (fun k => w.heap.size ≤ k) v13 t := ((hT.ext hx13).keep hk13 fun k _ ho => by omega).mono fun k _ h => h.1
  refine wl_val hW rfl rfl (x_buildE rfl) ?_
  refine wl_call hW rfl rfl (x_call en29 rfl) ((C29n (e := k1) hTa hI hy13 k1_ok (by omega) hE.size).inF hFF) ?_
  rintro _ wC2 ⟨t2, hbt2, hT2, hI2, hE2, -, hl2, hk2, -⟩
  replace hE := Keep.after hE hk2 (fun k h => h)
  rw [hEt, show clr k1 = k1 from rfl, kx1] at hE2
  rw [← hbt2]
  refine wl_nil ?_
  refine nx_then ?_
  refine wc_seq ?_
  refine wc_region ?_
  refine wl_val hW rfl rfl (x_move rfl) ?_
  refine wl_val hW rfl rfl x_buildG ?_
  refine wl_call hW rfl rfl (x_call en29 rfl) ((C29n (e := k2) hT2 hI2 (byts_nil (fun _ => True) _) k2_ok (by omega) hE.size).inF hFF) ?_
  rintro _ wC3 ⟨t3, hbt3, hT3, hI3, hE3, -, hl3, hk3, -⟩
  replace hE := Keep.after hE hk3 (fun k h => h)
  rw [hE2, show clr k2 = k2 from rfl, kx2] at hE3
  rw [← hbt3]
  refine wl_nil ?_
  refine nx_then ?_
  refine wc_seq ?_
  refine wc_region ?_
  refine wl_val hW rfl rfl (x_move rfl) ?_
  refine wl_buildSlice (parts := [(0, .const (.int .u8 121))]) hW rfl rfl Try.underlying23 fl5.siz Try.zeroValue5 rfl rfl rfl (by omega) ?_
  intro b21 w21 hl21 hB21 hx21
  have g21 : w.heap.size ≤ b21 := Nat.le_trans hE.size hl21
  replace hE := hE.trans hx21
  refine wl_convSame hW rfl rfl rfl hB21 ?_
  intro v21 hC21 hk21
  have hTb : Tab (fun k => w.heap.size ≤ k) v21 t3 := ((hT3.bound.ext hx21).keep hk21 fun k _ ho => by omega).mono fun k _ h => h.1
  replace hE := hE.store hk21 g21
  have hy21 : Byts (· = b21) v21 (.slice (some ⟨b21, 0, none⟩) 1 1) [121] := byts_one (u := 121) hC21 rfl
  refine wl_val hW rfl rfl (x_buildE rfl) ?_
  refine wl_call hW rfl rfl (x_call en29 rfl) ((C29n (e := k3) hTb hI3 hy21 k3_ok (by omega) hE.size).inF hFF) ?_
  rintro _ wC4 ⟨t4, hbt4, hT4, hI4, hE4, -, hl4', hk4, -⟩
  replace hE := Keep.after hE hk4 (fun k h => h)
  rw [hE3, show clr k3 = k3 from rfl, kx3] at hE4
  rw [← hbt4]
  replace hT4 := hT4.bound
  have hl4n : t4.ns.length ≤ 1048576 := by omega
  refine wl_nil ?_
  refine nx_then ?_
  refine wc_seq ?_
  refine wc_region ?_
  refine wl_val hW rfl rfl (x_move rfl) ?_
  refine wl_call hW rfl rfl (x_call en36 rfl) ((C36n hT4 hl4n).inF hFF) ?_
  rintro r1 wG ⟨hr1, hxC⟩
  replace hE := hE.trans hxC
  obtain ⟨bv1, rfl, hF1⟩ : ∃ bv', r1 = .tuple #[.agg (cellsOf k1 bv').toArray, .bool true] ∧ FB wC4.heap.size wG bv' k1.v := by
    rcases hr1 with ⟨e', bv', h1, -, h2, h3⟩ | ⟨h1, -⟩
    · rw [hE4, kn1] at h1; cases h1; exact ⟨bv', h2, h3⟩
    · rw [hE4, kn1] at h1; cases h1
  obtain ⟨a1, c1, rfl⟩ := hF1.form
  replace hT4 := hT4.ext hxC
  refine wl_val hW rfl rfl (x_move rfl) ?_
  refine wl_val hW rfl rfl (x_extract rfl rfl) ?_
  refine wl_val hW rfl rfl (x_extract rfl rfl) ?_
  refine wl_alloc (cs := [.string ⟨#[]⟩, .int .u64 0, .bool false, .slice none 0 0]) hW rfl rfl Try.zeroValue25 rfl ?_
  intro b2 w2 hl2 hB2 hx2
  have g2 : w.heap.size ≤ b2 := Nat.le_trans hE.size hl2
  replace hE := hE.trans hx2
  refine wl_storeA hW rfl ag25 rfl rfl rfl rfl hB2 rfl ?_
  intro wS hBS hkS
  replace hT4 := (hT4.ext hx2).keep hkS fun k _ ho => by have := ho.2; have := hxC.size; omega
  replace hF1 := (hF1.ext hx2).keep hkS (fun b hb => (hF1.ext hx2).ne hb hB2 (by decide))
  replace hB2 := hBS
  clear hBS
  replace hE := hE.store hkS g2
  refine wl_val hW rfl rfl (x_assign rfl) ?_
  refine wl_nil ?_
  refine nx_then ?_
  refine wc_seq ?_
  refine wc_region ?_
  refine wl_val hW rfl rfl (x_move rfl) ?_
  refine wl_call hW rfl rfl (x_call en36 rfl) ((C36n hT4 hl4n).inF hFF) ?_
  rintro r2 wH ⟨hr2, hxC2⟩
  replace hB2 := hB2.ext hxC2
  replace hE := hE.trans hxC2
  obtain ⟨bv2, rfl, hF2⟩ : ∃ bv', r2 = .tuple #[.agg (cellsOf k2 bv').toArray, .bool true] ∧ FB wS.heap.size wH bv' k2.v := by
    rcases hr2 with ⟨e', bv', h1, -, h2, h3⟩ | ⟨h1, -⟩
    · rw [hE4, kn2] at h1; cases h1; exact ⟨bv', h2, h3⟩
    · rw [hE4, kn2] at h1; cases h1
  obtain ⟨a2, c2, rfl⟩ := hF2.form
  replace hT4 := hT4.ext hxC2
  replace hF1 := hF1.ext hxC2
  refine wl_val hW rfl rfl (x_move rfl) ?_
  refine wl_val hW rfl rfl (x_extract rfl rfl) ?_
  refine wl_val hW rfl rfl (x_extract rfl rfl) ?_
  refine wl_alloc (cs := [.string ⟨#[]⟩, .int .u64 0, .bool false, .slice none 0 0]) hW rfl rfl Try.zeroValue25 rfl ?_
  intro b4 w4 hl4 hB4 hx4
  have g4 : w.heap.size ≤ b4 := Nat.le_trans hE.size hl4
  have n4_2 : b4 ≠ b2 := Nat.ne_of_gt (Nat.lt_of_lt_of_le hB2.lt hl4)
  replace hB2 := hB2.ext hx4
  replace hE := hE.trans hx4
  refine wl_storeA hW rfl ag25 rfl rfl rfl rfl hB4 rfl ?_
  intro wS2 hBS hkS2
  replace hB2 := hB2.keep hkS2 n4_2.symm
  replace hT4 := (hT4.ext hx4).keep hkS2 fun k _ ho => by have := ho.2; have := hxC.size; have := hx2.size; have := hkS.size; have := hxC2.size; omega
  replace hF1 := (hF1.ext hx4).keep hkS2 (fun b hb => (hF1.ext hx4).ne hb hB4 (by decide))
  replace hB4 := hBS
  clear hBS
  replace hE := hE.store hkS2 g4
  refine wl_val hW rfl rfl (x_assign rfl) ?_
  refine wl_nil ?_
  refine nx_then ?_
  refine wc_seq ?_
  refine wc_region ?_
  refine wl_val hW rfl rfl (x_move rfl) ?_
  refine wl_call hW rfl rfl (x_call en36 rfl) ((C36n hT4 hl4n).inF hFF) ?_
  rintro r3 wI ⟨hr3, hxC3⟩
  replace hB2 := hB2.ext hxC3
  replace hB4 := hB4.ext hxC3
  replace hE := hE.trans hxC3
  obtain rfl : r3 = .tuple #[.agg (cellsOf z0 (.slice none 0 0)).toArray, .bool false] := by
    rcases hr3 with ⟨e', bv', h1, -⟩ | ⟨-, h2⟩
    · rw [hE4, kn3] at h1; cases h1
    · exact h2
  replace hT4 := hT4.ext hxC3
  replace hF1 := hF1.ext hxC3
  refine wl_val hW rfl rfl (x_move rfl) ?_
  refine wl_val hW rfl rfl (x_extract rfl rfl) ?_
  refine wl_val hW rfl rfl (x_extract rfl rfl) ?_
  refine wl_alloc (cs := [.string ⟨#[]⟩, .int .u64 0, .bool false, .slice none 0 0]) hW rfl rfl Try.zeroValue25 rfl ?_
  intro b6 w6 hl6 hB6 hx6
  have g6 : w.heap.size ≤ b6 := Nat.le_trans hE.size hl6
  have n6_2 : b6 ≠ b2 := Nat.ne_of_gt (Nat.lt_of_lt_of_le hB2.lt hl6)
  replace hB2 := hB2.ext hx6
  have n6_4 : b6 ≠ b4 := Nat.ne_of_gt (Nat.lt_of_lt_of_le hB4.lt hl6)
  replace hB4 := hB4.ext hx6
  replace hE := hE.trans hx6
  refine wl_storeA hW rfl ag25 rfl rfl rfl rfl hB6 rfl ?_
  intro wS3 hBS hkS3
  replace hB2 := hB2.keep hkS3 n6_2.symm
  replace hB4 := hB4.keep hkS3 n6_4.symm
  replace hT4 := (hT4.ext hx6).keep hkS3 fun k _ ho => by have := ho.2; have := hxC.size; have := hx2.size; have := hkS.size; have := hxC2.size; have := hx4.size; have := hkS2.size; have := hxC3.size; omega
  replace hF1 := (hF1.ext hx6).keep hkS3 (fun b hb => (hF1.ext hx6).ne hb hB6 (by decide))
  replace hB6 := hBS
  clear hBS
  replace hE := hE.store hkS3 g6
  refine wl_val hW rfl rfl (x_assign rfl) ?_
  refine wl_nil ?_
  refine nx_then ?_
  refine wc_seq ?_
  refine wc_cut [(0, .bool true)] (fun w' => Ext w w') ?_ ?_
  · refine wc_region ?_
    refine wl_val hW rfl rfl (x_move rfl) ?_
    refine wl_val hW rfl rfl (x_move rfl) ?_
    refine wl_val hW rfl rfl (x_fieldAddr Try.underlying25 rfl fl22.siz rfl) ?_
    refine wl_val hW rfl rfl (x_load fl22 rfl (hB2.cell (o := 1) rfl)) ?_
    refine wl_val hW rfl rfl (x_eqlT rfl rfl rfl) ?_
    refine wl_val hW rfl rfl (x_pickT rfl rfl) ?_
    refine wl_val hW rfl rfl (x_move rfl) ?_
    refine wl_val hW rfl rfl (x_fieldAddr Try.underlying25 rfl fl23.siz rfl) ?_
    refine wl_val hW rfl rfl (x_load fl23 rfl (hB2.cell (o := 3) rfl)) ?_
    refine wl_val hW rfl rfl (x_convB rfl hF1.byts) ?_
    refine wl_val hW rfl rfl (x_seqlT rfl rfl rfl) ?_
    refine wl_val hW rfl rfl (x_pickT rfl rfl) ?_
    refine wl_val hW rfl rfl (x_move rfl) ?_
    refine wl_val hW rfl rfl (x_move rfl) ?_
    refine wl_val hW rfl rfl (x_pickT rfl rfl) ?_
    refine wl_val hW rfl rfl (x_move rfl) ?_
    refine wl_val hW rfl rfl (x_fieldAddr Try.underlying25 rfl fl4.siz rfl) ?_
    refine wl_val hW rfl rfl (x_load fl4 rfl (hB4.cell (o := 2) rfl)) ?_
    refine wl_val hW rfl rfl (x_pickT rfl rfl) ?_
    refine wl_val hW rfl rfl (x_move rfl) ?_
    refine wl_val hW rfl rfl (x_move rfl) ?_
    refine wl_val hW rfl rfl (x_not rfl) ?_
    refine wl_val hW rfl rfl (x_pickT rfl rfl) ?_
    refine wl_val hW rfl rfl (x_move rfl) ?_
    refine wl_val hW rfl rfl (x_move rfl) ?_
    refine wl_call hW rfl rfl (x_call en31 rfl) ((C31 hT4).inF hFF) ?_
    rintro _ wC ⟨rfl, hxC⟩
    replace hB2 := hB2.ext hxC
    replace hB4 := hB4.ext hxC
    replace hB6 := hB6.ext hxC
    replace hE := hE.trans hxC
    refine wl_val hW rfl rfl (x_eqlT rfl rfl (by rw [hI4.cnt, hE4]; rfl)) ?_
    refine wl_val hW rfl rfl (x_pickT rfl rfl) ?_
    refine wl_val hW rfl rfl (x_move rfl) ?_
    refine wl_val hW rfl rfl (x_move rfl) ?_
    refine wl_call hW rfl rfl (x_call en32 rfl) ((C32 (hT4.ext hxC)).inF hFF) ?_
    rintro _ wC ⟨rfl, hxC⟩
    replace hB2 := hB2.ext hxC
    replace hB4 := hB4.ext hxC
    replace hB6 := hB6.ext hxC
    replace hE := hE.trans hxC
    refine wl_val hW rfl rfl (x_eqlT rfl rfl (by rw [hI4.sz, hE4, ksz]; rfl)) ?_
    refine wl_val hW rfl rfl (x_pickT rfl rfl) ?_
    refine wl_val hW rfl rfl (x_assign rfl) ?_
    refine wl_nil ?_
    exact nx_cut (by repeat (first | exact sub_nil | refine sub_cons rfl ?_)) hE
  · rintro w' hE
    refine nx_then ?_
    refine wc_ret ?_
    exact ends_ret (res_tmp Try.results27 rfl) ⟨rfl, hE⟩
end Go.Proofs.Ytblbddamebbgaaa.K


/- 'x, ok := f(..)' where x is a struct in a block of its own. -/
namespace Go.Proofs.Ytblbddamebbgaaa.K
open Go Go.RowKit
set_option linter.unusedVariables false
set_option linter.unusedSectionVars false
set_option linter.unusedSimpArgs false

/-- A block of entries that was not there in w5 is written. -/
def StoreNew (w5 w w' : World) : Prop := ∃ b cs, Blk w b cs 25 ∧ w5.heap.size ≤ b ∧ Keep (· ≠ b) w w'
/-- The region of such an assignment: the call is operation c. -/
def GX (c : Nat) (w5 : World) : Spx := ⟨[c + 5], fun _ w' => Ext w5 w', fun _ w w' => StoreNew w5 w w'⟩
theorem gx_ext {c : Nat} {w5 : World} : ∀ ph w w', (GX c w5).J ph w → Ext w w' → (GX c w5).J ph w' := fun _ _ _ h hx => Keep.trans h hx
section
variable {F : Fence} {n m c : Nat} {Q : Exit → Act → World → Prop} {D : List Deferred} {L : Env} {w5 : World} {ops tail : List Oper} {i d1 d2 d3 d4 d5 : Nat} {op : Op} {ty1 ty2 ty3 ty4 ty5 ty6 : TypeId} {pos1 pos2 pos3 pos4 pos5 pos6 : String} {af1 af2 af3 af4 af5 af6 : Array Edge} {eR : Ent} {isR : Bool} {Qb : Value → World → Prop}
theorem qx_get {f : FuncId} {args : Array Value} (hi : i = c) (hQ1 : ∀ v w w', Qb v w → Ext w w' → Qb v w') (hQ2 : ∀ v w w', Qb v w → StoreNew w5 w w' → Qb v w') (hQ3 : ∀ v w, Qb v w → v.oneCell' = true)
    (hm1 : Nat.blt d1 m = true) (hm2 : Nat.blt d2 m = true) (hm3 : Nat.blt d3 m = true) (hm4 : Nat.blt d4 m = true) (hm5 : Nat.blt d5 m = true) (hn1 : at' L d1 = none) (hn2 : at' L d2 = none) (hn3 : at' L d3 = none) (hn5 : at' ((d4, .bool isR) :: L) d5 = none)
    (hne : d1 ≠ d5 ∧ d1 ≠ d3 ∧ d2 ≠ d5 ∧ d2 ≠ d3 ∧ d3 ≠ d5) (hst : ∀ o, ops[c + 5]? = some o → c + 4 ∈ needsL o) (hst2 : ops[c + 5]? = some ⟨none, .store 25 (.tmp d5) (.tmp d3), ty6, pos6, af6, none⟩)
    (hx : ∀ w', Xc Try.prog m D L op ty1 w' f args w') (hc : ∀ w', Ext w5 w' → CallsIn F (n - 1) Try.prog f args w' (ok1 fun u w'' => (∃ bv, u = .tuple #[.agg (cellsOf eR bv).toArray, .bool isR] ∧ Qb bv w'') ∧ Ext w' w''))
    (k : ∀ w' b bv, Ext w5 w' → w5.heap.size ≤ b → Blk w' b (cellsOf eR bv) 25 → Qb bv w' → WL F n Try.prog Q m D ops tail ((d5, .pointer (some ⟨b, 0, none⟩)) :: (d4, .bool isR) :: L) w') :
    QWX (GX c w5) F n Try.prog m D ops (TailX (GX c w5) F n Try.prog Q m D ops tail) i
      [⟨some d1, op, ty1, pos1, af1, none⟩, ⟨some d2, .move (.tmp d1), ty2, pos2, af2, none⟩, ⟨some d3, .extract (.tmp d2) 0, ty3, pos3, af3, none⟩, ⟨some d4, .extract (.tmp d2) 1, ty4, pos4, af4, none⟩, ⟨some d5, .alloc 25, ty5, pos5, af5, none⟩, ⟨none, .store 25 (.tmp d5) (.tmp d3), ty6, pos6, af6, none⟩] L [] := by
  subst hi
  let p1 : PVP := fun _ v w => ∃ bv, v = .tuple #[.agg (cellsOf eR bv).toArray, .bool isR] ∧ Qb bv w
  let p2 : PVP := fun _ v w => ∃ bv, v = .agg (cellsOf eR bv).toArray ∧ Qb bv w
  let p3 : PVP := fun ph v w => ∃ b cs, v = .pointer (some ⟨b, 0, none⟩) ∧ w5.heap.size ≤ b ∧ cs.length = 4 ∧ Blk w b cs 25 ∧ (ph = 1 → ∃ bv, cs = cellsOf eR bv ∧ Qb bv w)
  have hns : ∀ j, j < 5 → noSpB (GX i w5) (i + j) = true := fun j hj => by simp [noSpB, GX]; omega
  have s1 : ∀ j d, StabX (GX i w5) ops j d p1 := fun j d => ⟨fun ph v w w' ⟨bv, h1, h2⟩ hx => ⟨bv, h1, hQ1 _ _ _ h2 hx⟩, fun k hk _ _ v w w' ⟨bv, h1, h2⟩ hg => ⟨bv, h1, hQ2 _ _ _ h2 hg⟩⟩
  have s2 : ∀ j d, StabX (GX i w5) ops j d p2 := fun j d => ⟨fun ph v w w' ⟨bv, h1, h2⟩ hx => ⟨bv, h1, hQ1 _ _ _ h2 hx⟩, fun k hk _ _ v w w' ⟨bv, h1, h2⟩ hg => ⟨bv, h1, hQ2 _ _ _ h2 hg⟩⟩
  have at0 : (GX i w5).at 0 = i + 5 := rfl
  have hlo : ∀ s, s ∈ looks ops ⟨none, .store 25 (.tmp d5) (.tmp d3), ty6, pos6, af6, none⟩ ↔ s = d5 ∨ s = d3 := fun s => by simp [looks, Op.operands, isTmp]
  have s3 : StabX (GX i w5) ops (i + 4) d5 p3 := ⟨fun ph v w w' ⟨b, cs, h1, h2, h3, h4, h5⟩ hx => ⟨b, cs, h1, h2, h3, h4.ext hx, fun e => by obtain ⟨bv, h6, h7⟩ := h5 e; exact ⟨bv, h6, hQ1 _ _ _ h7 hx⟩⟩, fun k hk _ hno => by
    have hk1 : k < 1 := hk
    obtain rfl : k = 0 := by omega
    rw [at0] at hno
    exact absurd ((hlo d5).2 (.inl rfl)) (hno _ hst2)⟩
  refine qx_callp (p := p1) (hns 0 (by omega)) (s1 _ _) rfl hm1 hn1 hx (fun ph w' hJ => hc w' hJ) ?_
  refine qx_valv (p := p1) (q := p1) (s := d1) (hns 1 (by omega)) (s1 _ _) rfl hm2 hn2 (List.mem_cons_self ..) (List.mem_append_left _ (List.mem_filterMap.2 ⟨.tmp d1, by simp [Op.operands], rfl⟩)) (fun ph w' u hJ hu => ⟨u, w', x_move (by show at' _ _ = _; rw [at_cons, if_pos rfl]), hu, Keep.refl _ _⟩) ?_
  refine qx_valv (p := p2) (q := p1) (s := d2) (hns 2 (by omega)) (s2 _ _) rfl hm3 hn3 (List.mem_cons_self ..) (List.mem_append_left _ (List.mem_filterMap.2 ⟨.tmp d2, by simp [Op.operands], rfl⟩)) (fun ph w' u hJ hu => by obtain ⟨bv, rfl, h2⟩ := hu; exact ⟨_, w', x_extract (vs := #[.agg (cellsOf eR bv).toArray, .bool isR]) (by show at' _ _ = _; rw [at_cons, if_pos rfl]) rfl, ⟨bv, rfl, h2⟩, Keep.refl _ _⟩) ?_
  refine qx_valvc (v := .bool isR) (q := p1) (s := d2) (hns 3 (by omega)) rfl hm4 (List.mem_cons_of_mem _ (List.mem_cons_self ..)) (List.mem_append_left _ (List.mem_filterMap.2 ⟨.tmp d2, by simp [Op.operands], rfl⟩)) (fun ph w' u hJ hu => by obtain ⟨bv, rfl, h2⟩ := hu; exact x_extract (vs := #[.agg (cellsOf eR bv).toArray, .bool isR]) (by show at' _ _ = _; rw [at_cons, if_pos rfl]) rfl) ?_
  refine qx_alloc (p := p3) (hns 4 (by omega)) s3 rfl hm5 hn5 Try.zeroValue25 (cs := [.string ⟨#[]⟩, .int .u64 0, .bool false, .slice none 0 0]) rfl (fun ph w' w'' b hbf hJ hb hB hx => ⟨b, _, rfl, Nat.le_trans (Keep.size hJ) hb, rfl, hB, fun e => by have := hbf 0 Nat.zero_lt_one (fun o ho => hst o ho); omega⟩) ?_
  refine qx_store2 (k := 0) (q := p3) (q2 := p2) (s := d5) (s2 := d3) Nat.zero_lt_one rfl rfl (List.mem_cons_self ..) (List.mem_cons_of_mem _ (List.mem_cons_self ..)) ((hlo _).2 (.inl rfl)) ((hlo _).2 (.inr rfl)) (fun q' hq' hl => ?_) (fun w' u u2 hJ hu hu2 => ?_) ?_
  · rw [hlo] at hl
    simp only [List.mem_cons, List.not_mem_nil, or_false] at hq'
    rcases hq' with rfl | rfl | rfl | rfl
    · exact .inl rfl
    · exact .inr rfl
    · rcases hl with h | h
      · exact absurd h hne.2.2.1
      · exact absurd h hne.2.2.2.1
    · rcases hl with h | h
      · exact absurd h hne.1
      · exact absurd h hne.2.1
  · obtain ⟨b, cs, rfl, h2, h3, h4, h5⟩ := hu
    obtain ⟨bv, rfl, h7⟩ := hu2
    have hone := cells_one (e := eR) (hQ3 _ _ h7)
    obtain ⟨w'', h8, h9, h10⟩ := xs_storeA (P := Try.prog) (m := m) (D := D) (L := (d5, .pointer (some ⟨b, 0, none⟩)) :: (d3, .agg (cellsOf eR bv).toArray) :: (d4, .bool isR) :: L) (ty := ty6) (x := .tmp d5) (y := .tmp d3) (o := 0) ag25 (by show at' _ _ = _; rw [at_cons, if_pos rfl]) (by show at' _ _ = _; rw [at_cons, if_neg (fun e => hne.2.2.2.2 e.symm), at_cons, if_pos rfl]) hone rfl h4 (by rw [h3]; rfl)
    have e : cs.take 0 ++ cellsOf eR bv ++ cs.drop (0 + (cellsOf eR bv).length) = cellsOf eR bv := by rw [List.take_zero, List.nil_append, List.drop_eq_nil_of_le (by rw [h3]; exact Nat.le_refl _), List.append_nil]
    rw [e] at h9
    have hsn : StoreNew w5 w' w'' := ⟨b, cs, h4, h2, h10⟩
    exact ⟨w'', h8, Keep.store hJ h10 h2, hsn, ⟨b, _, rfl, h2, rfl, h9, fun _ => ⟨bv, rfl, hQ2 _ _ _ h7 hsn⟩⟩, ⟨bv, rfl, hQ2 _ _ _ h7 hsn⟩⟩
  · refine qx_nil (tailxm (d := d5) (p := p3) (List.mem_cons_self ..) (fun w' v hJ ⟨b, cs, h1, h2, h3, h4, h5⟩ => ?_))
    obtain ⟨bv, rfl, h6⟩ := h5 rfl
    subst h1
    exact k w' b bv hJ h2 h4 h6
end
theorem FB.storeNew {base : Nat} {w5 w w' : World} {v : Value} {l : List UInt8} (h : FB base w v l) (hs : StoreNew w5 w w') : FB base w' v l := by
  obtain ⟨b, cs, h1, h2, h3⟩ := hs
  exact h.keep h3 fun b' hb' => h.ne hb' h1 (by decide)
theorem Byts.storeNew {w5 w w' : World} {v : Value} {l : List UInt8} (h : Byts (fun k => k < w5.heap.size) w v l) (hs : StoreNew w5 w w') : Byts (fun k => k < w5.heap.size) w' v l := by
  obtain ⟨b, cs, h1, h2, h3⟩ := hs
  exact h.ck (CK.of_keep h3 fun k _ hk => by omega)
end Go.Proofs.Ytblbddamebbgaaa.K

/- A table and the document's side by side. -/
namespace Go.Proofs.Ytblbddamebbgaaa.K
open Go Go.RowKit
set_option linter.unusedVariables false
set_option linter.unusedSectionVars false
set_option linter.unusedSimpArgs false

theorem OwnE.rebase {A : Nat → Prop} {base base' : Nat} {w : World} {v : Value} {es : List Ent} (h : OwnE A base w v es) (hb : ∀ b, v.ownBlock = some b → base' ≤ b) : OwnE A base' w v es := by
  obtain ⟨⟨bvs, h1, h2, h3⟩, h4⟩ := h
  exact ⟨⟨bvs, h1, ownsRow_base h2 hb, h3⟩, h4⟩
/-- Where the document's table lies: none of a table's blocks. -/
def NoR (r : Rd) (A : Nat → Prop) (k : Nat) : Prop := k ≠ r.br ∧ some k ≠ r.lv.ownBlock ∧ some k ≠ r.hv.ownBlock ∧ ¬ A k
/-- Both tables, in blocks of their own from base on. -/
structure Both (base : Nat) (w : World) (bt br : Nat) (t : Td) (r : Rd) : Prop where
  ebt : t.bt = bt
  ebr : r.br = br
  ex : ∃ O A : Nat → Prop, Tab O w t ∧ RefT (· < base) A w r ∧ (∀ k, O k → base ≤ k ∧ k < w.heap.size ∧ NoR r A k) ∧ (∀ k, A k → base ≤ k ∧ k < w.heap.size)
  b1 : base ≤ r.br
  b2 : ∀ b, r.lv.ownBlock = some b → base ≤ b
  b3 : ∀ b, r.hv.ownBlock = some b → base ≤ b
section
variable {base bt br : Nat} {w w' : World} {t t' : Td} {r r' : Rd}
theorem Both.tab (h : Both base w bt br t r) : Tab (fun k => base ≤ k ∧ k < w.heap.size) w t := by
  obtain ⟨O, A, h1, -, h3, -⟩ := h.ex
  exact h1.mono fun k _ hk => ⟨(h3 k hk).1, (h3 k hk).2.1⟩
theorem Both.ext (h : Both base w bt br t r) (hx : Ext w w') : Both base w' bt br t r := by
  obtain ⟨O, A, h1, h2, h3, h4⟩ := h.ex
  have := hx.size
  exact ⟨h.ebt, h.ebr, ⟨O, A, h1.ext hx, h2.ext hx, fun k hk => ⟨(h3 k hk).1, by have := (h3 k hk).2.1; omega, (h3 k hk).2.2⟩, fun k hk => ⟨(h4 k hk).1, by have := (h4 k hk).2; omega⟩⟩, h.b1, h.b2, h.b3⟩
theorem Both.rowL (h : Both base w bt br t r) (hl : r.L.length ≤ 1048576) : ∃ v, r.lv = v ∧ Row (fun k => base ≤ k ∧ k < w.heap.size) w v r.L := by
  obtain ⟨O, A, h1, h2, h3, h4⟩ := h.ex
  have h5 := h2.ll
  refine ⟨_, rfl, ?_⟩
  have h6 : OwnE A base w r.lv r.L := h5.rebase h.b2
  exact (h6.row (by omega)).mono fun k hk hh => ⟨hh.elim (fun h => (h4 k h).1) id, hk⟩
theorem Both.tb (h : Both base w bt br t r) : Blk w br [r.dv, r.lv, r.hv, .int .i64 ((r.came : Nat) : Int)] 53 := by
  obtain ⟨O, A, h1, h2, h3, h4⟩ := h.ex; rw [← h.ebr]; exact h2.tb
theorem Both.pure (h : Both base w bt br t r) : t.E.Pairwise ltE := by
  obtain ⟨O, A, h1, h2, h3, h4⟩ := h.ex; exact tab_E_sorted h1
/-- Put into the table. -/
theorem Both.putT {B : Nat → Prop} {e : Ent} {bv : Value} (h : Both base w bt br t r) (hi : TI t) (hby : Byts B w bv e.v) (hok : EntOk e) (hl : t.ns.length ≤ 100000) :
    Rt Try.prog 29 [.pointer (some ⟨bt, 0, none⟩), .agg (cellsOf e bv).toArray] w fun _ w' => ∃ t', Both base w' bt br t' r ∧ TI t' ∧ PutT t (clr e) t' ∧ t'.ns.length ≤ t.ns.length + 1 ∧ Keep (fun k => k < base) w w' := by
  obtain rfl := h.ebt
  obtain ⟨O, A, h1, h2, h3, h4⟩ := h.ex
  have hle : t.E.length = t.ns.length := by simp [Td.E]
  have h5 := sizeL_le t.E (tab_E_ok h1)
  refine (C29 h1 hby hok (by rw [hi.cnt]; omega) (by rw [hi.sz]; omega)).mono fun u w' ⟨t', h6, h7, h8⟩ => ⟨t', ?_, hi.put h7, h7, ?_, h8.mono fun k _ hk hm => by have : base ≤ k := (h3 k (h1.own k hm)).1; omega⟩
  · have hsz := h8.size
    have hno : ∀ k, k ∈ t.nb → NoR r A k := fun k hm => (h3 k (h1.own k hm)).2.2
    have hR' : RefT (· < base) A w' r := h2.keep h8 (fun hm => (hno _ hm).1 rfl) (fun b hb hm => (hno _ hm).2.1 hb.symm) (fun b hb hm => (hno _ hm).2.2.1 hb.symm) (fun k _ hk hm => by have : base ≤ k := (h3 k (h1.own k hm)).1; omega) (fun k _ hk hm => (hno _ hm).2.2.2 hk)
    refine ⟨h7.1, h.ebr, ⟨fun k => (O k ∨ w.heap.size ≤ k) ∧ k < w'.heap.size, A, h6.bound, hR', fun k ⟨hk, hlt⟩ => ?_, fun k hk => ⟨(h4 k hk).1, by have := (h4 k hk).2; omega⟩⟩, h.b1, h.b2, h.b3⟩
    rcases hk with hk | hk
    · exact ⟨(h3 k hk).1, hlt, (h3 k hk).2.2⟩
    · have q1 := h2.tb.lt
      refine ⟨by have := h.b1; omega, hlt, by omega, fun e => ?_, fun e => ?_, fun hA => ?_⟩
      · have := (h2.ll.lt k e.symm).2; omega
      · obtain ⟨-, cs, h9⟩ := ownsRow_blk h2.hh e.symm; have := h9.lt; omega
      · have := (h4 k hA).2; omega
  · have := (insL_len (clr e) t.E).2
    rw [← h7.E, hle] at this
    simpa [Td.E] using this
/-- Put into the document's table. -/
theorem Both.putR {B : Nat → Prop} {e : Ent} {bv : Value} (h : Both base w bt br t r) (hby : Byts B w bv e.v) (hok : EntOk e) (hl : r.L.length ≤ 100000) (hhl : r.hs.length = r.L.length) (hcm : r.came ≤ 100000) :
    Rt Try.prog 35 [.pointer (some ⟨br, 0, none⟩), .agg (cellsOf e bv).toArray] w fun _ w' => ∃ r', Both base w' bt br t r' ∧ RPut r (clr e) r' ∧ Keep (fun k => k < base) w w' := by
  obtain rfl := h.ebr
  obtain ⟨O, A, h1, h2, h3, h4⟩ := h.ex
  have hm : ∀ k, k < base → k ≠ r.br ∧ some k ≠ r.lv.ownBlock := fun k hk => ⟨by have := h.b1; omega, fun e => by have := h.b2 k e.symm; omega⟩
  refine (C35 h2 hby hok (by omega) hhl (by omega) (fun b hb hlt => by have := h.b2 b hb; omega)).mono fun u w' ⟨r', h5, h6, h7, h8, h9⟩ => ⟨r', ?_, h6, h9.mono fun k _ hk => hm k hk⟩
  have hsz := h9.size
  have hbs : base ≤ w.heap.size := by have := h.b1; have := h2.tb.lt; omega
  have hT' : Tab O w' t := h1.keep h9 fun k _ hk => ⟨(h3 k hk).2.2.1, (h3 k hk).2.2.2.1⟩
  refine ⟨h.ebt, h6.1, ⟨O, fun k => (A k ∨ w.heap.size ≤ k) ∧ k < w'.heap.size, hT', h5.bound, fun k hk => ?_, fun k ⟨hk, hlt⟩ => ⟨hk.elim (fun h => (h4 k h).1) (fun h => by omega), hlt⟩⟩, by rw [h6.1]; exact h.b1, fun b hb => (h7 b hb).elim (h.b2 b) (fun h => by omega), fun b hb => (h8 b hb).elim (h.b3 b) (fun h => by omega)⟩
  obtain ⟨g1, g2, g3, g4, g5, g6⟩ := h3 k hk
  refine ⟨g1, by omega, by rw [h6.1]; exact g3, fun e => ?_, fun e => ?_, fun ⟨hA, _⟩ => ?_⟩
  · rcases h7 k e.symm with h | h
    · exact g4 h.symm
    · omega
  · rcases h8 k e.symm with h | h
    · exact g5 h.symm
    · omega
  · rcases hA with h | h
    · exact g6 h
    · omega
end
/-! ### small things -/
section
variable {F : Fence} {n : Nat} {Q : Exit → Act → World → Prop} {m : Nat} {D : List Deferred} {L : Env} {w0 w : World} {ops tail rest : List Oper} {d : Nat} {ty t t' : TypeId} {pos : String} {af : Array Edge} {g : Option (Nat × Bool)} {v : Value} {x y : Operand} {K : Env → List (Nat × VP) → Prop} {V : List (Nat × VP)} {P : Program}
/-- A call that reads one slot of whose value only q is known, and whose answer is known. -/
theorem q_callvc {op : Op} {f : FuncId} {args : Value → Array Value} {q : VP} {s : Nat} (hg : wants L ops g = some true) (hd : Nat.blt d m = true) (hs : (s, q) ∈ V) (hlo : s ∈ looks ops ⟨some d, op, ty, pos, af, g⟩)
    (hx : ∀ w' u, Xc P m D ((s, u) :: L) op ty w' f (args u) w')
    (hc : ∀ w' u, Ext w0 w' → q u w' → CallsIn F (n - 1) P f (args u) w' (ok1 fun u w'' => u = v ∧ Ext w' w'')) (k : QW F n P m D ops w0 K rest ((d, v) :: L) V) :
    QW F n P m D ops w0 K (⟨some d, op, ty, pos, af, g⟩ :: rest) L V :=
  ⟨d, rfl, hd, .inl ⟨v, fun w' hw a h hvs => by
    obtain ⟨u, hu, hq⟩ := hvs _ hs hlo
    refine .inl ⟨h.wanted (o := ⟨some d, op, ty, pos, af, g⟩) hg, .call f (args u) w' ((hx w' u).2 _ _ _ _ a ⟨h.size, h.defers, fun i v hi => ?_⟩) (hc w' u hw hq)⟩
    rw [at_cons] at hi
    split at hi
    · rename_i e; subst e; cases hi; exact hu
    · exact h.get i v hi, k⟩⟩
theorem tailm {p : VP} (hV : (d, p) ∈ V) (k : ∀ w' v, Ext w0 w' → p v w' → WL F n P Q m D ops tail ((d, v) :: L) w') : Tail F n P Q m D ops tail w0 L V := fun w' hw L' hv hs => by
  obtain ⟨v, h1, h2⟩ := hv (d, p) hV
  exact wl_sub (sub_cons h1 hs) (k w' v hw h2)
theorem x_bneqR {b c : Bool} (hx : ev L x = some (.bool b)) (hy : ev L y = some (.bool c)) (hu : P.underlying t = some .bool) (h : b = c) : Xv P m D L (.binOp .neq t x y t') ty w (.bool false) w := by
  have := x_bneq (P := P) (m := m) (D := D) (t' := t') (ty := ty) (w := w) hx hy hu
  rwa [h, beq_self_eq_true] at this
theorem x_beqlR {b c : Bool} (hx : ev L x = some (.bool b)) (hy : ev L y = some (.bool c)) (hu : P.underlying t = some .bool) (h : b = c) : Xv P m D L (.binOp .eql t x y t') ty w (.bool true) w := by
  have := x_beql (P := P) (m := m) (D := D) (t' := t') (ty := ty) (w := w) hx hy hu
  rwa [h, beq_self_eq_true] at this
theorem C38r {A : Nat → Prop} {w : World} {av bv : Value} {a b : Ent} (ha : Byts A w av a.v) (hb : Byts A w bv b.v) (h : a = b) : Rt Try.prog 38 [.agg (cellsOf a av).toArray, .agg (cellsOf b bv).toArray] w fun r w' => r = .bool true ∧ Ext w w' :=
  (C38 ha hb).mono fun r w' ⟨h1, h2⟩ => ⟨by rw [h1, sameB_iff.2 h], h2⟩
theorem C24r {A : Nat → Prop} {w : World} {v u : Value} {as_ bs : List Ent} (hR : Row A w v as_) (hS : Row A w u bs) (h : as_ = bs) : Rt Try.prog 24 [v, u] w fun r w' => r = .bool true ∧ Ext w w' :=
  (C24 hR hS).mono fun r w' ⟨⟨b, h1, h2⟩, h3⟩ => ⟨by rw [h1, h2.2 h], h3⟩
theorem Row.slicel {A : Nat → Prop} {w : World} {a : Option Addr} {n c i : Nat} {g : List Ent} (h : Row A w (.slice a n c) g) (hi : i ≤ g.length) : Row A w (.slice (if c = i then a else a.map (·.add (i * 4))) (n - i) (c - i)) (g.drop i) := by
  obtain ⟨ad', cap', e, h1, h2, h3, h⟩ := h
  cases e
  have hlen : (g.drop i).length = g.length - i := by simp
  refine ⟨_, _, by rw [hlen], by omega, by omega, fun y hy => h3 y (List.mem_of_mem_drop hy), fun hne => ?_⟩
  have hlt : i < g.length := Decidable.byContradiction fun h => hne (List.drop_eq_nil_of_le (by omega))
  obtain ⟨b, o, rfl, hA, hr⟩ := h (by rintro rfl; simp at hlt)
  refine ⟨b, o + i * 4, by rw [if_neg (by omega)]; simp [add_mk], hA, fun j y hj => ?_⟩
  rw [List.getElem?_drop] at hj
  obtain ⟨bv, h4, h5⟩ := hr (i + j) y hj
  exact ⟨bv, by rw [show o + i * 4 + j * 4 = o + (i + j) * 4 from by omega]; exact h4, h5⟩
theorem build53 {ad : Option Addr} {n c : Nat} (w : World) : (Instr.build 53 [(0, Value.slice ad n c)].toArray).run Try.prog w = .ok (.agg [Value.slice ad n c, .slice none 0 0, .slice none 0 0, .int .i64 0].toArray) w := by
  simp [Instr.build, run_underlying Try.underlying53, Try.zeroValue53, fl42.siz w]
  rfl
theorem x_build53 {ad : Option Addr} {n c : Nat} (hx : ev L x = some (.slice ad n c)) : Xv Try.prog m D L (.build 53 #[(0, x)]) ty w (.agg [Value.slice ad n c, .slice none 0 0, .slice none 0 0, .int .i64 0].toArray) w :=
  x_build (parts := [(0, x)]) Try.underlying53 Try.zeroValue53 (pv := [(0, .slice ad n c)]) (fun a h => by show [(0, a.eval x)] = _; rw [h.ev hx]) build53
end
/-- The tables anew. -/
theorem both_new {O : Nat → Prop} {base b : Nat} {w1 w2 : World} {t : Td} {dv : Value} {zs : List Int} (hT : Tab (fun k => O k ∧ k < w1.heap.size) w1 t) (hO : ∀ k, O k → base ≤ k) (hx : Ext w1 w2) (hb : w1.heap.size ≤ b) (hbase : base ≤ w1.heap.size) (hB : Blk w2 b [dv, .slice none 0 0, .slice none 0 0, .int .i64 0] 53)
    (hd : IRow (fun k => k < base) w2 dv zs) : Both base w2 t.bt b t ⟨b, dv, .slice none 0 0, .slice none 0 0, zs, [], [], 0⟩ :=
  ⟨rfl, rfl, ⟨_, fun _ => False, hT.ext hx, ⟨hB, hd.mono fun k _ hk => ⟨hk, fun e => by have e' : k = b := e; have hk' : k < base := hk; omega⟩, own_nil _ _ _, ⟨rfl, .inl ⟨rfl, rfl⟩⟩, fun k h => h.elim⟩, fun k hk => ⟨hO k hk.1, by have := hx.size; omega, by have := hk.2; exact fun e => by have e' : k = b := e; omega, nofun, nofun, fun h => h⟩, fun k h => h.elim⟩, by show base ≤ b; omega, nofun, nofun⟩
/-- What Get and the document's Newest tell. -/
def gotE (es : List Ent) (key : ByteArray) (up : Int) : Ent := (newF es key up).getD z0
theorem C36g {O : Nat → Prop} {w : World} {t : Td} {key : ByteArray} {up : Int} (hT : Tab O w t) (hlen : t.ns.length ≤ 1048576) :
    Rt Try.prog 36 [.pointer (some ⟨t.bt, 0, none⟩), .string key, .int .u64 up] w fun r w' => (∃ bv, r = .tuple #[.agg (cellsOf (gotE t.E key up) bv).toArray, .bool (newF t.E key up).isSome] ∧ FB w.heap.size w' bv (gotE t.E key up).v) ∧ Ext w w' :=
  (C36n hT hlen).mono fun r w' ⟨h, hx⟩ => ⟨by
    unfold gotE
    rcases h with ⟨e, bv, h1, -, h2, h3⟩ | ⟨h1, h2⟩
    · rw [h1]; exact ⟨bv, h2, h3⟩
    · rw [h1]; exact ⟨_, h2, fb_nil _ _⟩, hx⟩
theorem C42g {A : Nat → Prop} {w : World} {v : Value} {es : List Ent} {key : ByteArray} {up : Int} (hR : Row A w v es) :
    Rt Try.prog 42 [v, .string key, .int .u64 up] w fun r w' => (∃ bv, r = .tuple #[.agg (cellsOf (gotE es key up) bv).toArray, .bool (newF es key up).isSome] ∧ Byts A w' bv (gotE es key up).v) ∧ Ext w w' :=
  (C42 hR).mono fun r w' ⟨h, hx⟩ => ⟨by
    unfold gotE
    rcases h with ⟨e, bv, h1, -, h2, h3⟩ | ⟨h1, h2⟩
    · rw [h1]; exact ⟨bv, h2, h3⟩
    · rw [h1]; exact ⟨_, h2, byts_nil _ _⟩, hx⟩
section
variable {base bt br : Nat} {w w' : World} {t t' : Td} {r r' : Rd}
theorem Both.len (h : Both base w bt br t r) : Rt Try.prog 31 [.pointer (some ⟨bt, 0, none⟩)] w fun v w' => v = .int .i64 t.cnt ∧ Ext w w' := by obtain rfl := h.ebt; exact C31 h.tab
theorem Both.size (h : Both base w bt br t r) : Rt Try.prog 32 [.pointer (some ⟨bt, 0, none⟩)] w fun v w' => v = .int .i64 t.sz ∧ Ext w w' := by obtain rfl := h.ebt; exact C32 h.tab
theorem Both.hgt (h : Both base w bt br t r) : Rt Try.prog 39 [.pointer (some ⟨bt, 0, none⟩)] w fun v w' => v = .int .i64 t.hgt ∧ Ext w w' := by obtain rfl := h.ebt; exact C39 h.tab
theorem Both.rhgt (h : Both base w bt br t r) (hl : r.hs.length ≤ 1099511627776) : Rt Try.prog 40 [.pointer (some ⟨br, 0, none⟩)] w fun v w' => v = .int .i64 (r.hs.foldl max 0 : Nat) ∧ Ext w w' := by
  obtain rfl := h.ebr
  obtain ⟨O, A, h1, h2, h3, h4⟩ := h.ex
  exact C40 h2 hl
theorem Both.rsize (h : Both base w bt br t r) (hl : r.L.length ≤ 1048576) : Rt Try.prog 41 [.pointer (some ⟨br, 0, none⟩)] w fun v w' => v = .int .i64 (sizeL r.L : Nat) ∧ Ext w w' := by
  obtain rfl := h.ebr
  obtain ⟨O, A, h1, h2, h3, h4⟩ := h.ex
  exact C41 h2 hl
theorem Both.get {key : ByteArray} {up : Int} (h : Both base w bt br t r) (hlen : t.ns.length ≤ 1048576) :
    Rt Try.prog 36 [.pointer (some ⟨bt, 0, none⟩), .string key, .int .u64 up] w fun r w' => (∃ bv, r = .tuple #[.agg (cellsOf (gotE t.E key up) bv).toArray, .bool (newF t.E key up).isSome] ∧ FB w.heap.size w' bv (gotE t.E key up).v) ∧ Ext w w' := by
  obtain rfl := h.ebt; exact C36g h.tab hlen
end
/-- All versions, in order. -/
theorem C30g {O : Nat → Prop} {w : World} {t : Td} (hT : Tab O w t) (hlen : t.ns.length ≤ 1048576) :
    Rt Try.prog 30 [.pointer (some ⟨t.bt, 0, none⟩)] w fun r w' => Row (fun k => w.heap.size ≤ k) w' r t.E ∧ Ext w w' := by
  obtain ⟨p, hb⟩ := below_ex (kE ⟨#[]⟩) t.ns hT.sorted
  have hp := below_empty (tab_E_ok hT) hb
  subst hp
  exact C30 hT hb hlen
theorem C43g {O : Nat → Prop} {w : World} {t : Td} {key : ByteArray} (hT : Tab O w t) (hlen : t.ns.length ≤ 1048576) :
    Rt Try.prog 43 [.pointer (some ⟨t.bt, 0, none⟩), .string key] w fun r w' => Row (fun k => w.heap.size ≤ k) w' r (t.E.drop (fromN t.E key)) ∧ Ext w w' := by
  obtain ⟨p, hb⟩ := below_ex (kE key) t.ns hT.sorted
  have hp := below_key (tab_E_ok hT) hb
  rw [hp]
  have := C43 hT hb hlen
  rwa [List.map_drop] at this
section
variable {base bt br : Nat} {w w' : World} {t t' : Td} {r r' : Rd}
theorem Both.all (h : Both base w bt br t r) (hlen : t.ns.length ≤ 1048576) : Rt Try.prog 30 [.pointer (some ⟨bt, 0, none⟩)] w fun r w' => Row (fun k => w.heap.size ≤ k) w' r t.E ∧ Ext w w' := by
  obtain rfl := h.ebt; exact C30g h.tab hlen
theorem Both.from {key : ByteArray} (h : Both base w bt br t r) (hlen : t.ns.length ≤ 1048576) : Rt Try.prog 43 [.pointer (some ⟨bt, 0, none⟩), .string key] w fun r w' => Row (fun k => w.heap.size ≤ k) w' r (t.E.drop (fromN t.E key)) ∧ Ext w w' := by
  obtain rfl := h.ebt; exact C43g h.tab hlen
end
end Go.Proofs.Ytblbddamebbgaaa.K
