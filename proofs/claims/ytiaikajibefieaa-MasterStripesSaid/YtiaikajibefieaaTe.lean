/- Walks: configurations apart, compared; members told. -/
import Derived.Test.YtiaikajibefieaaTd
namespace Go.Proofs.Ytiaikajibefieaa.K
open Go Go.RowKit
set_option linter.unusedVariables false
set_option linter.unusedSimpArgs false
theorem MOwn.stable {base : Nat} {ms : List Mb} : Stable (fun v w => MOwn base w v ms) := fun v w w' h hx => h.ext hx
theorem IOwn.stable {base : Nat} {zs : List Int} : Stable (fun v w => IOwn base w v zs) := fun v w w' h hx => h.ext hx
theorem C22 {A A2 : Nat → Prop} {w : World} {cv sv : Value} {e : Int} {ms : List Mb} {zs : List Int} (hR : MRow A w cv ms) (hI : IRow A2 w sv zs) :
    Rt Try.prog 22 [.agg #[.int .i64 e, cv, sv]] w fun r w' => (∃ cv' sv', r = .agg #[.int .i64 e, cv', sv'] ∧ MOwn w.heap.size w' cv' ms ∧ IOwn w.heap.size w' sv' zs) ∧ Ext w w' := by
  have hW := hWw
  have hFF := hFw
  have hE : Ext w w := Keep.refl _ _
  refine rt_body Try.func22 rfl Try.ntmps22 rfl ?_
  refine wc_seq ?_
  refine wc_region ?_
  refine wl_box hW rfl rfl rfl rfl ?_
  intro b1 w1 hl1 hB1 hx1
  have g1 : w.heap.size ≤ b1 := Nat.le_trans hE.size hl1
  replace hE := hE.trans hx1
  refine wl_alloc (cs := [.int .i64 0, .slice none 0 0, .slice none 0 0]) hW rfl rfl Try.zeroValue27 rfl ?_
  intro b2 w2 hl2 hB2 hx2
  have g2 : w.heap.size ≤ b2 := Nat.le_trans hE.size hl2
  have n2_1 : b2 ≠ b1 := Nat.ne_of_gt (Nat.lt_of_lt_of_le hB1.lt hl2)
  replace hB1 := hB1.ext hx2
  replace hE := hE.trans hx2
  refine wl_nil ?_
  refine nx_then ?_
  refine wc_seq ?_
  refine wc_draw' 7 hW mixed (by kernel_rfl) (fun w0 hx0 => ?_)
  replace hB1 := hB1.ext hx0
  replace hB2 := hB2.ext hx0
  replace hE := hE.trans hx0
  have hR0 := hR.ext hE
  have hI0 := hI.ext hE
  have hsz0 := hE.size
  refine q_val rfl rfl (fun _ hx => x_fieldAddr Try.underlying27 rfl fl24.siz rfl) ?_
  refine q_val rfl rfl (fun _ hx => x_load fl24 rfl (hx.cell (hB1.cell (o := 1) rfl))) ?_
  refine q_callp (p := fun u w2 => MOwn w0.heap.size w2 u ms) MOwn.stable rfl rfl rfl (fun _ => x_call en34 rfl) (fun w' hx => ((C34 (hR0.ext hx)).mono fun r w2 ⟨h1, h2⟩ => ⟨h1.rebase fun b hb => Nat.le_trans hx.size (h1.ge hb), h2⟩).inF hFF) ?_
  refine q_val rfl rfl (fun _ hx => x_fieldAddr Try.underlying27 rfl fl25.siz rfl) ?_
  refine q_val rfl rfl (fun _ hx => x_load fl25 rfl (hx.cell (hB1.cell (o := 2) rfl))) ?_
  refine q_callp (p := fun u w2 => IOwn w0.heap.size w2 u zs) IOwn.stable rfl rfl rfl (fun _ => x_call en35 rfl) (fun w' hx => ((C35 (hI0.ext hx)).mono fun r w2 ⟨h1, h2⟩ => ⟨h1.rebase fun b hb => Nat.le_trans hx.size (h1.ge hb), h2⟩).inF hFF) ?_
  refine q_val rfl rfl (fun _ hx => x_fieldAddr Try.underlying27 rfl fl24.siz rfl) ?_
  refine q_nil (tailm2 (d := 5) (d2 := 8) (List.mem_cons_of_mem _ (List.mem_cons_self ..)) (List.mem_cons_self ..) (fun wt v5 v8 hxt h5 h8 => ?_))
  replace h5 : MOwn w0.heap.size wt v5 ms := h5
  replace h8 : IOwn w0.heap.size wt v8 zs := h8
  obtain ⟨a5, c5, rfl, -⟩ := h5.form
  obtain ⟨a8, c8, rfl, -⟩ := h8.form
  replace hB1 := hB1.ext hxt
  replace hB2 := hB2.ext hxt
  replace hE := hE.trans hxt
  refine wl_store hW rfl fl24 rfl rfl rfl hB1 rfl ?_
  intro wS hBS hkS
  replace h5 := h5.keep hkS (fun b hb => h5.ne hb hB1 (by decide))
  replace h8 := h8.keep hkS (fun b hb => h8.ne hb hB1 (by decide))
  replace hB2 := hB2.keep hkS n2_1
  replace hB1 := hBS
  clear hBS
  replace hE := hE.store hkS g1
  refine wl_val hW rfl rfl (x_fieldAddr Try.underlying27 rfl fl25.siz rfl) ?_
  refine wl_store hW rfl fl25 rfl rfl rfl hB1 rfl ?_
  intro wS hBS hkS
  replace h5 := h5.keep hkS (fun b hb => h5.ne hb hB1 (by decide))
  replace h8 := h8.keep hkS (fun b hb => h8.ne hb hB1 (by decide))
  replace hB2 := hB2.keep hkS n2_1
  replace hB1 := hBS
  clear hBS
  replace hE := hE.store hkS g1
  refine wl_nil ?_
  refine nx_then ?_
  refine wc_seq ?_
  refine wc_region ?_
  refine wl_val hW rfl rfl (x_loadA ag27 rfl hB1.cells rfl) ?_
  refine wl_storeA hW rfl ag27 rfl rfl rfl rfl hB2 rfl ?_
  intro wS hBS hkS
  replace h5 := h5.keep hkS (fun b hb => h5.ne hb hB2 (by decide))
  replace h8 := h8.keep hkS (fun b hb => h8.ne hb hB2 (by decide))
  replace hB1 := hB1.keep hkS n2_1.symm
  replace hB2 := hBS
  clear hBS
  replace hE := hE.store hkS g2
  refine wl_nil ?_
  refine nx_then ?_
  refine wc_ret ?_
  exact ends_ret (res_cell Try.results22 rfl (run_loadVar_cells ag27 hB2.cells rfl)) ⟨⟨_, _, rfl, h5.rebase fun b hb => Nat.le_trans hsz0 (h5.ge hb), h8.rebase fun b hb => Nat.le_trans hsz0 (h8.ge hb)⟩, hE⟩
theorem C12 {A A2 : Nat → Prop} {w : World} {cv sv : Value} {e : Int} {ms : List Mb} {zs : List Int} (hR : MRow A w cv ms) (hI : IRow A2 w sv zs) :
    Rt Try.prog 12 [.agg #[.int .i64 e, cv, sv]] w fun r w' => (∃ cv' sv', r = .agg #[.int .i64 e, cv', sv'] ∧ MOwn w.heap.size w' cv' ms ∧ IOwn w.heap.size w' sv' zs) ∧ Ext w w' := by
  obtain ⟨ca, cc, rfl, -, hlm⟩ := hR.form
  obtain ⟨sa, sc, rfl, -, hlz⟩ := hI.form
  have hW := hWw
  have hFF := hFw
  have hE : Ext w w := Keep.refl _ _
  refine rt_body Try.func12 rfl Try.ntmps12 rfl ?_
  refine wc_seq ?_
  refine wc_region ?_
  refine wl_box hW rfl rfl rfl rfl ?_
  intro b1 w1 hl1 hB1 hx1
  have g1 : w.heap.size ≤ b1 := Nat.le_trans hE.size hl1
  replace hE := hE.trans hx1
  refine wl_alloc (cs := [.int .i64 0, .slice none 0 0, .slice none 0 0]) hW rfl rfl Try.zeroValue27 rfl ?_
  intro b2 w2 hl2 hB2 hx2
  have g2 : w.heap.size ≤ b2 := Nat.le_trans hE.size hl2
  have n2_1 : b2 ≠ b1 := Nat.ne_of_gt (Nat.lt_of_lt_of_le hB1.lt hl2)
  replace hB1 := hB1.ext hx2
  replace hE := hE.trans hx2
  refine wl_nil ?_
  refine nx_then ?_
  refine wc_seq ?_
  refine wc_region ?_
  refine wl_buildSlice (parts := []) hW rfl rfl Try.underlying24 ag35.siz Try.zeroValue35 rfl rfl rfl (by omega) ?_
  intro b3 w3 hl3 hB3 hx3
  have g3 : w.heap.size ≤ b3 := Nat.le_trans hE.size hl3
  have n3_1 : b3 ≠ b1 := Nat.ne_of_gt (Nat.lt_of_lt_of_le hB1.lt hl3)
  replace hB1 := hB1.ext hx3
  have n3_2 : b3 ≠ b2 := Nat.ne_of_gt (Nat.lt_of_lt_of_le hB2.lt hl3)
  replace hB2 := hB2.ext hx3
  replace hE := hE.trans hx3
  refine wl_val hW rfl rfl (x_fieldAddr Try.underlying27 rfl fl24.siz rfl) ?_
  refine wl_val hW rfl rfl (x_load fl24 rfl (hB1.cell (o := 1) rfl)) ?_
  refine wl_appendE (base := w.heap.size) Try.underlying24 info35 rfl (by decide) hW rfl rfl rfl rfl hB3 g3 (gflat_len cellsM_len ms) (grow_src cellsM_len (by decide) (hR.ext hE)) mflat_one hlm (by decide) ?_
  intro v5 wA h5 hxA
  replace h5 : MOwn w.heap.size wA v5 ms := h5
  replace hE := hE.trans hxA
  replace hB1 := hB1.ext hxA
  replace hB2 := hB2.ext hxA
  replace hB3 := hB3.ext hxA
  obtain ⟨a5, c5, rfl, -⟩ := h5.form
  refine wl_val hW rfl rfl (x_fieldAddr Try.underlying27 rfl fl24.siz rfl) ?_
  refine wl_store hW rfl fl24 rfl rfl rfl hB1 rfl ?_
  intro wS hBS hkS
  replace h5 := h5.keep hkS (fun b hb => h5.ne hb hB1 (by decide))
  replace hB2 := hB2.keep hkS n2_1
  replace hB3 := hB3.keep hkS n3_1
  replace hB1 := hBS
  clear hBS
  replace hE := hE.store hkS g1
  refine wl_nil ?_
  refine nx_then ?_
  refine wc_seq ?_
  refine wc_region ?_
  refine wl_buildSlice (parts := []) hW rfl rfl Try.underlying25 fl3.siz Try.zeroValue3 rfl rfl rfl (by omega) ?_
  intro b8 w8 hl8 hB8 hx8
  replace h5 := h5.ext hx8
  have g8 : w.heap.size ≤ b8 := Nat.le_trans hE.size hl8
  have n8_1 : b8 ≠ b1 := Nat.ne_of_gt (Nat.lt_of_lt_of_le hB1.lt hl8)
  replace hB1 := hB1.ext hx8
  have n8_2 : b8 ≠ b2 := Nat.ne_of_gt (Nat.lt_of_lt_of_le hB2.lt hl8)
  replace hB2 := hB2.ext hx8
  have n8_3 : b8 ≠ b3 := Nat.ne_of_gt (Nat.lt_of_lt_of_le hB3.lt hl8)
  replace hB3 := hB3.ext hx8
  replace hE := hE.trans hx8
  refine wl_val hW rfl rfl (x_fieldAddr Try.underlying27 rfl fl25.siz rfl) ?_
  refine wl_val hW rfl rfl (x_load fl25 rfl (hB1.cell (o := 2) rfl)) ?_
  refine wl_appendE (base := w.heap.size) Try.underlying25 info3 rfl (by decide) hW rfl rfl rfl rfl hB8 g8 (gflat_len cellsI_len zs) (grow_src cellsI_len (by decide) (hI.ext hE)) iflat_one hlz (by decide) ?_
  intro v8 wB h8 hxB
  replace h8 : IOwn w.heap.size wB v8 zs := h8
  replace hE := hE.trans hxB
  replace hB1 := hB1.ext hxB
  replace hB2 := hB2.ext hxB
  replace hB3 := hB3.ext hxB
  replace hB8 := hB8.ext hxB
  replace h5 := h5.ext hxB
  obtain ⟨a8, c8, rfl, -⟩ := h8.form
  refine wl_val hW rfl rfl (x_fieldAddr Try.underlying27 rfl fl25.siz rfl) ?_
  refine wl_store hW rfl fl25 rfl rfl rfl hB1 rfl ?_
  intro wS hBS hkS
  replace h5 := h5.keep hkS (fun b hb => h5.ne hb hB1 (by decide))
  replace h8 := h8.keep hkS (fun b hb => h8.ne hb hB1 (by decide))
  replace hB2 := hB2.keep hkS n2_1
  replace hB3 := hB3.keep hkS n3_1
  replace hB8 := hB8.keep hkS n8_1
  replace hB1 := hBS
  clear hBS
  replace hE := hE.store hkS g1
  refine wl_nil ?_
  refine nx_then ?_
  refine wc_seq ?_
  refine wc_region ?_
  refine wl_val hW rfl rfl (x_loadA ag27 rfl hB1.cells rfl) ?_
  refine wl_storeA hW rfl ag27 rfl rfl rfl rfl hB2 rfl ?_
  intro wS hBS hkS
  replace h5 := h5.keep hkS (fun b hb => h5.ne hb hB2 (by decide))
  replace h8 := h8.keep hkS (fun b hb => h8.ne hb hB2 (by decide))
  replace hB1 := hB1.keep hkS n2_1.symm
  replace hB3 := hB3.keep hkS n3_2
  replace hB8 := hB8.keep hkS n8_2
  replace hB2 := hBS
  clear hBS
  replace hE := hE.store hkS g2
  refine wl_nil ?_
  refine nx_then ?_
  refine wc_ret ?_
  exact ends_ret (res_cell Try.results12 rfl (run_loadVar_cells ag27 hB2.cells rfl)) ⟨⟨_, _, rfl, h5, h8⟩, hE⟩
theorem C14 {A A2 A' A2' : Nat → Prop} {w : World} {cv sv cv' sv' : Value} {e : Int} {ms : List Mb} {zs : List Int} (hR : MRow A w cv ms) (hI : IRow A2 w sv zs) (hR' : MRow A' w cv' ms) (hI' : IRow A2' w sv' zs) :
    Rt Try.prog 14 [.agg #[.int .i64 e, cv, sv], .agg #[.int .i64 e, cv', sv']] w fun r w' => r = .bool true ∧ Ext w w' := by
  obtain ⟨ca, cc, rfl, -, hl1⟩ := hR.form
  obtain ⟨sa, sc, rfl, -, hl2⟩ := hI.form
  obtain ⟨ca', cc', rfl, -, hl1'⟩ := hR'.form
  obtain ⟨sa', sc', rfl, -, hl2'⟩ := hI'.form
  have hW := hWw
  have hFF := hFw
  have hE : Ext w w := Keep.refl _ _
  refine rt_body Try.func14 rfl Try.ntmps14 rfl ?_
  refine wc_seq ?_
  refine wc_region ?_
  refine wl_box hW rfl rfl rfl rfl ?_
  intro b2 w2 hl2 hB2 hx2
  have g2 : w.heap.size ≤ b2 := Nat.le_trans hE.size hl2
  replace hE := hE.trans hx2
  refine wl_box hW rfl rfl rfl rfl ?_
  intro b3 w3 hl3 hB3 hx3
  have g3 : w.heap.size ≤ b3 := Nat.le_trans hE.size hl3
  have n3_2 : b3 ≠ b2 := Nat.ne_of_gt (Nat.lt_of_lt_of_le hB2.lt hl3)
  replace hB2 := hB2.ext hx3
  replace hE := hE.trans hx3
  refine wl_val hW rfl rfl (x_assign rfl) ?_
  refine wl_nil ?_
  refine nx_then ?_
  refine wc_seq ?_
  refine wc_seq ?_
  refine wc_cut [(2, .pointer (some ⟨b2, 0, none⟩)), (3, .pointer (some ⟨b3, 0, none⟩)), (29, .bool false)] (fun w' => w' = w3) ?_ ?_
  · refine wc_region ?_
    refine wl_val hW rfl rfl (x_fieldAddr Try.underlying27 rfl fl3.siz rfl) ?_
    refine wl_val hW rfl rfl (x_load fl3 rfl (hB2.cell (o := 0) rfl)) ?_
    refine wl_val hW rfl rfl (x_fieldAddr Try.underlying27 rfl fl3.siz rfl) ?_
    refine wl_val hW rfl rfl (x_load fl3 rfl (hB3.cell (o := 0) rfl)) ?_
    refine wl_val hW rfl rfl (x_neqF rfl rfl rfl) ?_
    refine wl_val hW rfl rfl (x_move rfl) ?_
    refine wl_val hW rfl rfl (x_fieldAddr Try.underlying27 rfl fl24.siz rfl) ?_
    refine wl_val hW rfl rfl (x_load fl24 rfl (hB2.cell (o := 1) rfl)) ?_
    refine wl_val hW rfl rfl (x_len Try.underlying24 rfl) ?_
    refine wl_val hW rfl rfl (x_fieldAddr Try.underlying27 rfl fl24.siz rfl) ?_
    refine wl_val hW rfl rfl (x_load fl24 rfl (hB3.cell (o := 1) rfl)) ?_
    refine wl_val hW rfl rfl (x_len Try.underlying24 rfl) ?_
    refine wl_val hW rfl rfl (x_neqF rfl rfl rfl) ?_
    refine wl_val hW rfl rfl (x_pickF rfl rfl) ?_
    refine wl_val hW rfl rfl (x_move rfl) ?_
    refine wl_val hW rfl rfl (x_fieldAddr Try.underlying27 rfl fl25.siz rfl) ?_
    refine wl_val hW rfl rfl (x_load fl25 rfl (hB2.cell (o := 2) rfl)) ?_
    refine wl_val hW rfl rfl (x_len Try.underlying25 rfl) ?_
    refine wl_val hW rfl rfl (x_fieldAddr Try.underlying27 rfl fl25.siz rfl) ?_
    refine wl_val hW rfl rfl (x_load fl25 rfl (hB3.cell (o := 2) rfl)) ?_
    refine wl_val hW rfl rfl (x_len Try.underlying25 rfl) ?_
    refine wl_val hW rfl rfl (x_neqF rfl rfl rfl) ?_
    refine wl_val hW rfl rfl (x_pickF rfl rfl) ?_
    refine wl_nil ?_
    exact nx_cut (by repeat (first | exact sub_nil | refine sub_cons rfl ?_)) rfl
  · rintro w' rfl
    refine nx_then ?_
    refine wc_false rfl ?_
    refine wc_skip ?_
    refine nx_then ?_
    refine wc_seq ?_
    refine wc_seq ?_
    refine wc_region ?_
    refine wl_val hW rfl rfl (x_assign rfl) ?_
    refine wl_nil ?_
    refine nx_then ?_
    refine wc_block ?_
    refine wc_loop (σ := Nat) (fun s => [(2, .pointer (some ⟨b2, 0, none⟩)), (3, .pointer (some ⟨b3, 0, none⟩)), (5, .int .i64 (s : Nat))]) (fun s w' => s ≤ ms.length ∧ Ext w w' ∧ Blk w' b2 [.int .i64 e, .slice ca ms.length cc, .slice sa zs.length sc] 27 ∧ Blk w' b3 [.int .i64 e, .slice ca' ms.length cc', .slice sa' zs.length sc'] 27) (fun s => ms.length - s) 0 ?_ ?_ ?_
    · exact ⟨Nat.zero_le _, hE, hB2, hB3⟩
    · repeat (first | exact sub_nil | refine sub_cons rfl ?_)
    · rintro s wr ⟨hs, hE, hB2, hB3⟩
      refine wc_seq ?_
      refine wc_seq ?_
      refine wc_region ?_
      refine wl_val hW rfl rfl (x_move rfl) ?_
      refine wl_val hW rfl rfl (x_fieldAddr Try.underlying27 rfl fl24.siz rfl) ?_
      refine wl_val hW rfl rfl (x_load fl24 rfl (hB2.cell (o := 1) rfl)) ?_
      refine wl_val hW rfl rfl (x_len Try.underlying24 rfl) ?_
      refine wl_val hW rfl rfl (x_lss rfl rfl) ?_
      refine wl_nil ?_
      refine nx_then ?_
      refine wc_dec rfl (fun hc => ?_) (fun hc => ?_)
      · replace hc : ((s : Nat) : Int) < ms.length := hc
        have hlt : s < ms.length := by omega
        obtain ⟨b, o, cap1, e1, -, hC40'⟩ := (hR.ext hE).at s hlt
        cases e1
        obtain ⟨b', o', cap2, e2, -, hC45'⟩ := (hR'.ext hE).at s hlt
        cases e2
        refine wc_skip ?_
        refine nx_then ?_
        refine wc_seq ?_
        refine wc_block ?_
        refine wc_seq ?_
        refine wc_draw' 11 hW mixed (by kernel_rfl) (fun w0 hx0 => ?_)
        replace hB2 := hB2.ext hx0
        replace hB3 := hB3.ext hx0
        replace hE := hE.trans hx0
        have hC40 := hC40'.ext hx0
        have hC45 := hC45'.ext hx0
        refine q_val rfl rfl (fun _ hx => x_fieldAddr Try.underlying27 rfl fl24.siz rfl) ?_
        refine q_val rfl rfl (fun _ hx => x_load fl24 rfl (hx.cell (hB2.cell (o := 1) rfl))) ?_
        refine q_val rfl rfl (fun _ hx => x_move rfl) ?_
        refine q_val rfl rfl (fun _ hx => x_indexAddr Try.underlying24 ag35.siz rfl rfl (by omega) (by omega)) ?_
        refine q_val rfl rfl (fun _ hx => x_loadA ag35 rfl (hC40.ext hx) rfl) ?_
        refine q_val rfl rfl (fun _ hx => x_fieldAddr Try.underlying27 rfl fl24.siz rfl) ?_
        refine q_val rfl rfl (fun _ hx => x_load fl24 rfl (hx.cell (hB3.cell (o := 1) rfl))) ?_
        refine q_val rfl rfl (fun _ hx => x_move rfl) ?_
        refine q_val rfl rfl (fun _ hx => x_indexAddr Try.underlying24 ag35.siz rfl rfl (by omega) (by omega)) ?_
        refine q_val rfl rfl (fun _ hx => x_loadA ag35 rfl (hC45.ext hx) rfl) ?_
        refine q_val rfl rfl (fun _ hx => x_neq35F rfl rfl rfl) ?_
        refine q_nil (tail0 (fun wt hxt => ?_))
        replace hB2 := hB2.ext hxt
        replace hB3 := hB3.ext hxt
        replace hE := hE.trans hxt
        refine wl_nil ?_
        refine nx_then ?_
        refine wc_false rfl ?_
        refine wc_skip ?_
        refine nx_block ?_
        refine nx_then ?_
        refine wc_region ?_
        refine wl_val hW rfl rfl (x_move rfl) ?_
        refine wl_val hW rfl rfl (x_inc (s := s) rfl (by omega)) ?_
        refine wl_val hW rfl rfl (x_assign rfl) ?_
        refine wl_nil ?_
        exact nx_next (s + 1) (by omega) ⟨hlt, hE, hB2, hB3⟩ (by repeat (first | exact sub_nil | refine sub_cons rfl ?_))
      · refine wc_exit ?_
        refine nx_then_exit ?_
        refine nx_then_exit ?_
        refine nx_block_exit ?_
        refine nx_then ?_
        refine wc_seq ?_
        refine wc_seq ?_
        refine wc_region ?_
        refine wl_val hW rfl rfl (x_assign rfl) ?_
        refine wl_nil ?_
        refine nx_then ?_
        refine wc_block ?_
        refine wc_loop (σ := Nat) (fun s => [(2, .pointer (some ⟨b2, 0, none⟩)), (3, .pointer (some ⟨b3, 0, none⟩)), (6, .int .i64 (s : Nat))]) (fun s w' => s ≤ zs.length ∧ Ext w w' ∧ Blk w' b2 [.int .i64 e, .slice ca ms.length cc, .slice sa zs.length sc] 27 ∧ Blk w' b3 [.int .i64 e, .slice ca' ms.length cc', .slice sa' zs.length sc'] 27) (fun s => zs.length - s) 0 ?_ ?_ ?_
        · exact ⟨Nat.zero_le _, hE, hB2, hB3⟩
        · repeat (first | exact sub_nil | refine sub_cons rfl ?_)
        · rintro s wr ⟨hs, hE, hB2, hB3⟩
          refine wc_seq ?_
          refine wc_seq ?_
          refine wc_region ?_
          refine wl_val hW rfl rfl (x_move rfl) ?_
          refine wl_val hW rfl rfl (x_fieldAddr Try.underlying27 rfl fl25.siz rfl) ?_
          refine wl_val hW rfl rfl (x_load fl25 rfl (hB2.cell (o := 2) rfl)) ?_
          refine wl_val hW rfl rfl (x_len Try.underlying25 rfl) ?_
          refine wl_val hW rfl rfl (x_lss rfl rfl) ?_
          refine wl_nil ?_
          refine nx_then ?_
          refine wc_dec rfl (fun hc => ?_) (fun hc => ?_)
          · replace hc : ((s : Nat) : Int) < zs.length := hc
            have hlt : s < zs.length := by omega
            obtain ⟨b, o, cap1, e1, -, hC58'⟩ := (hI.ext hE).at s hlt
            cases e1
            obtain ⟨b', o', cap2, e2, -, hC63'⟩ := (hI'.ext hE).at s hlt
            cases e2
            refine wc_skip ?_
            refine nx_then ?_
            refine wc_seq ?_
            refine wc_block ?_
            refine wc_seq ?_
            refine wc_draw' 11 hW mixed (by kernel_rfl) (fun w0 hx0 => ?_)
            replace hB2 := hB2.ext hx0
            replace hB3 := hB3.ext hx0
            replace hE := hE.trans hx0
            have hC58 := hC58'.ext hx0
            have hC63 := hC63'.ext hx0
            refine q_val rfl rfl (fun _ hx => x_fieldAddr Try.underlying27 rfl fl25.siz rfl) ?_
            refine q_val rfl rfl (fun _ hx => x_load fl25 rfl (hx.cell (hB2.cell (o := 2) rfl))) ?_
            refine q_val rfl rfl (fun _ hx => x_move rfl) ?_
            refine q_val rfl rfl (fun _ hx => x_indexAddr Try.underlying25 fl3.siz rfl rfl (by omega) (by omega)) ?_
            refine q_val rfl rfl (fun _ hx => x_load fl3 rfl (hx.cell (hC58 0 _ rfl))) ?_
            refine q_val rfl rfl (fun _ hx => x_fieldAddr Try.underlying27 rfl fl25.siz rfl) ?_
            refine q_val rfl rfl (fun _ hx => x_load fl25 rfl (hx.cell (hB3.cell (o := 2) rfl))) ?_
            refine q_val rfl rfl (fun _ hx => x_move rfl) ?_
            refine q_val rfl rfl (fun _ hx => x_indexAddr Try.underlying25 fl3.siz rfl rfl (by omega) (by omega)) ?_
            refine q_val rfl rfl (fun _ hx => x_load fl3 rfl (hx.cell (hC63 0 _ rfl))) ?_
            refine q_val rfl rfl (fun _ hx => x_neqF rfl rfl rfl) ?_
            refine q_nil (tail0 (fun wt hxt => ?_))
            replace hB2 := hB2.ext hxt
            replace hB3 := hB3.ext hxt
            replace hE := hE.trans hxt
            refine wl_nil ?_
            refine nx_then ?_
            refine wc_false rfl ?_
            refine wc_skip ?_
            refine nx_block ?_
            refine nx_then ?_
            refine wc_region ?_
            refine wl_val hW rfl rfl (x_move rfl) ?_
            refine wl_val hW rfl rfl (x_inc (s := s) rfl (by omega)) ?_
            refine wl_val hW rfl rfl (x_assign rfl) ?_
            refine wl_nil ?_
            exact nx_next (s + 1) (by omega) ⟨hlt, hE, hB2, hB3⟩ (by repeat (first | exact sub_nil | refine sub_cons rfl ?_))
          · refine wc_exit ?_
            refine nx_then_exit ?_
            refine nx_then_exit ?_
            refine nx_block_exit ?_
            refine nx_then ?_
            refine wc_seq ?_
            refine wc_region ?_
            refine wl_val hW rfl rfl (x_assign rfl) ?_
            refine wl_nil ?_
            refine nx_then ?_
            refine wc_ret ?_
            exact ends_ret (res_tmp Try.results14 rfl) ⟨rfl, hE⟩
/-- The member in a place. -/
def memAt (ms : List Mb) (i : Int) : Mb := if 0 ≤ i then (ms[i.toNat]?).getD ⟨0, 0, false⟩ else ⟨0, 0, false⟩
def memB (ms : List Mb) (i : Int) : Bool := decide (0 ≤ i ∧ i < ms.length)
theorem memAt_out {ms : List Mb} {i : Int} (h : memB ms i = false) : memAt ms i = ⟨0, 0, false⟩ := by
  unfold memB at h
  have h := of_decide_eq_false h
  unfold memAt
  by_cases h0 : 0 ≤ i
  · rw [if_pos h0, List.getElem?_eq_none (by omega)]; rfl
  · rw [if_neg h0]
theorem memAt_in {ms : List Mb} {i : Nat} (h : i < ms.length) : memAt ms i = ms[i] := by
  unfold memAt; rw [if_pos (by omega), Int.toNat_natCast, List.getElem?_eq_getElem h]; rfl
theorem C32 {A : Nat → Prop} {w : World} {cv sv : Value} {e i : Int} {ms : List Mb} (hR : MRow A w cv ms) : Rt Try.prog 32 [.agg #[.int .i64 e, cv, sv], .int .i64 i] w fun r w' => r = .tuple #[.agg (cellsM (memAt ms i)).toArray, .bool (memB ms i)] ∧ Ext w w' := by
  obtain ⟨ca, cc, rfl, -, hl1⟩ := hR.form
  have hW := hWw
  have hFF := hFw
  have hE : Ext w w := Keep.refl _ _
  refine rt_body Try.func32 rfl Try.ntmps32 rfl ?_
  refine wc_seq ?_
  refine wc_region ?_
  refine wl_box hW rfl rfl rfl rfl ?_
  intro b2 w2 hl2 hB2 hx2
  have g2 : w.heap.size ≤ b2 := Nat.le_trans hE.size hl2
  replace hE := hE.trans hx2
  refine wl_alloc (cs := [.int .i64 0, .int .i64 0, .bool false]) hW rfl rfl Try.zeroValue35 rfl ?_
  intro b4 w4 hl4 hB4 hx4
  have g4 : w.heap.size ≤ b4 := Nat.le_trans hE.size hl4
  have n4_2 : b4 ≠ b2 := Nat.ne_of_gt (Nat.lt_of_lt_of_le hB2.lt hl4)
  replace hB2 := hB2.ext hx4
  replace hE := hE.trans hx4
  refine wl_val hW rfl rfl (x_assign rfl) ?_
  refine wl_nil ?_
  refine nx_then ?_
  refine wc_seq ?_
  refine wc_seq ?_
  refine wc_cut [(1, .int .i64 i), (2, .pointer (some ⟨b2, 0, none⟩)), (4, .pointer (some ⟨b4, 0, none⟩)), (14, .bool (!memB ms i))] (fun w' => w' = w4) ?_ ?_
  · refine wc_region ?_
    refine wl_val hW rfl rfl (x_move rfl) ?_
    refine wl_val hW rfl rfl (x_lss rfl rfl) ?_
    refine wl_val hW rfl rfl (x_move rfl) ?_
    refine wl_dcases (d := 8) rfl (fun hg8 => ?_) (fun hg8 => ?_)
    · refine wl_off hW rfl rfl ?_
      refine wl_off hW rfl rfl ?_
      refine wl_off hW rfl rfl ?_
      refine wl_off hW rfl rfl ?_
      refine wl_off hW rfl rfl ?_
      refine wl_val hW rfl rfl (x_pickT rfl rfl) ?_
      refine wl_nil ?_
      exact nx_cut (by rw [show (!memB ms i) = true from by unfold memB; simp; omega]; repeat (first | exact sub_nil | refine sub_cons rfl ?_)) rfl
    · refine wl_val hW rfl rfl (x_move rfl) ?_
      refine wl_val hW rfl rfl (x_fieldAddr Try.underlying27 rfl fl24.siz rfl) ?_
      refine wl_val hW rfl rfl (x_load fl24 rfl (hB2.cell (o := 1) rfl)) ?_
      refine wl_val hW rfl rfl (x_len Try.underlying24 rfl) ?_
      refine wl_val hW rfl rfl (x_geq rfl rfl) ?_
      refine wl_val hW rfl rfl (x_pickF rfl rfl) ?_
      refine wl_nil ?_
      exact nx_cut (by rw [show (!memB ms i) = decide ((ms.length : Int) ≤ i) from by unfold memB; by_cases h : (ms.length : Int) ≤ i <;> simp [h] <;> omega]; repeat (first | exact sub_nil | refine sub_cons rfl ?_)) rfl
  · rintro w' rfl
    refine nx_then ?_
    refine wc_bool rfl (fun hc => ?_) (fun hc => ?_)
    · have hm : memB ms i = false := by simpa using hc
      refine wc_seq ?_
      refine wc_region ?_
      refine wl_val hW rfl rfl (x_build35z) ?_
      refine wl_storeA hW rfl ag35 rfl rfl rfl rfl hB4 rfl ?_
      intro wS hBS hkS
      replace hB2 := hB2.keep hkS n4_2.symm
      replace hB4 := hBS
      clear hBS
      replace hE := hE.store hkS g4
      refine wl_val hW rfl rfl (x_assign rfl) ?_
      refine wl_nil ?_
      refine nx_then ?_
      refine wc_ret ?_
      refine nx_then_ret ?_
      exact ends_ret (res_cell_tmp Try.results32 rfl (run_loadVar_cells ag35 hB4.cells rfl) rfl) ⟨by rw [memAt_out hm, hm]; rfl, hE⟩
    · have hm : memB ms i = true := by simpa using hc
      obtain ⟨hi0, hi1⟩ := of_decide_eq_true hm
      obtain ⟨k, rfl⟩ : ∃ k : Nat, i = k := ⟨i.toNat, by omega⟩
      have hlt : k < ms.length := by omega
      obtain ⟨b, o, cap1, e1, -, hC19⟩ := (hR.ext hE).at k hlt
      cases e1
      refine wc_skip ?_
      refine nx_then ?_
      refine wc_seq ?_
      refine wc_region ?_
      refine wl_val hW rfl rfl (x_fieldAddr Try.underlying27 rfl fl24.siz rfl) ?_
      refine wl_val hW rfl rfl (x_load fl24 rfl (hB2.cell (o := 1) rfl)) ?_
      refine wl_val hW rfl rfl (x_move rfl) ?_
      refine wl_val hW rfl rfl (x_indexAddr Try.underlying24 ag35.siz rfl rfl (by omega) (by omega)) ?_
      refine wl_val hW rfl rfl (x_loadA ag35 rfl hC19 rfl) ?_
      refine wl_storeA hW rfl ag35 rfl rfl rfl rfl hB4 rfl ?_
      intro wS hBS hkS
      replace hB2 := hB2.keep hkS n4_2.symm
      replace hB4 := hBS
      clear hBS
      replace hE := hE.store hkS g4
      refine wl_val hW rfl rfl (x_assign rfl) ?_
      refine wl_nil ?_
      refine nx_then ?_
      refine wc_ret ?_
      exact ends_ret (res_cell_tmp Try.results32 rfl (run_loadVar_cells ag35 hB4.cells rfl) rfl) ⟨by rw [memAt_in hlt, hm]; rfl, hE⟩
theorem C15 {A : Nat → Prop} {w : World} {cv sv : Value} {e : Int} {ms : List Mb} (hR : MRow A w cv ms) : Rt Try.prog 15 [.agg #[.int .i64 e, cv, sv]] w fun r w' => r = .tuple #[.agg (cellsM (memAt ms 0)).toArray, .bool (memB ms 0)] ∧ Ext w w' := by
  have hW := hWw
  have hFF := hFw
  have hE : Ext w w := Keep.refl _ _
  refine rt_body Try.func15 rfl Try.ntmps15 rfl ?_
  refine wc_seq ?_
  refine wc_region ?_
  refine wl_box hW rfl rfl rfl rfl ?_
  intro b1 w1 hl1 hB1 hx1
  have g1 : w.heap.size ≤ b1 := Nat.le_trans hE.size hl1
  replace hE := hE.trans hx1
  refine wl_alloc (cs := [.int .i64 0, .int .i64 0, .bool false]) hW rfl rfl Try.zeroValue35 rfl ?_
  intro b2 w2 hl2 hB2 hx2
  have g2 : w.heap.size ≤ b2 := Nat.le_trans hE.size hl2
  have n2_1 : b2 ≠ b1 := Nat.ne_of_gt (Nat.lt_of_lt_of_le hB1.lt hl2)
  replace hB1 := hB1.ext hx2
  replace hE := hE.trans hx2
  refine wl_val hW rfl rfl (x_assign rfl) ?_
  refine wl_nil ?_
  refine nx_then ?_
  refine wc_seq ?_
  refine wc_region ?_
  refine wl_val hW rfl rfl (x_loadA ag27 rfl hB1.cells rfl) ?_
  refine wl_call hW rfl rfl (x_call en32 rfl) ((C32 (i := 0) (hR.ext hE)).inF hFF) ?_
  rintro _ wC ⟨rfl, hxC⟩
  replace hB1 := hB1.ext hxC
  replace hB2 := hB2.ext hxC
  replace hE := hE.trans hxC
  refine wl_val hW rfl rfl (x_extract rfl rfl) ?_
  refine wl_val hW rfl rfl (x_extract rfl rfl) ?_
  refine wl_storeA hW rfl ag35 rfl rfl rfl rfl hB2 rfl ?_
  intro wS hBS hkS
  replace hB1 := hB1.keep hkS n2_1.symm
  replace hB2 := hBS
  clear hBS
  replace hE := hE.store hkS g2
  refine wl_val hW rfl rfl (x_assign rfl) ?_
  refine wl_nil ?_
  refine nx_then ?_
  refine wc_ret ?_
  exact ends_ret (res_cell_tmp Try.results15 rfl (run_loadVar_cells ag35 hB2.cells rfl) rfl) ⟨rfl, hE⟩
theorem C16 {A : Nat → Prop} {w : World} {cv sv : Value} {e : Int} {ms : List Mb} (hR : MRow A w cv ms) : Rt Try.prog 16 [.agg #[.int .i64 e, cv, sv]] w fun r w' => r = .tuple #[.agg (cellsM (memAt ms ((ms.length : Int) - 1))).toArray, .bool (memB ms ((ms.length : Int) - 1))] ∧ Ext w w' := by
  obtain ⟨ca, cc, rfl, -, hl1⟩ := hR.form
  have hW := hWw
  have hFF := hFw
  have hE : Ext w w := Keep.refl _ _
  refine rt_body Try.func16 rfl Try.ntmps16 rfl ?_
  refine wc_seq ?_
  refine wc_region ?_
  refine wl_box hW rfl rfl rfl rfl ?_
  intro b1 w1 hl1 hB1 hx1
  have g1 : w.heap.size ≤ b1 := Nat.le_trans hE.size hl1
  replace hE := hE.trans hx1
  refine wl_alloc (cs := [.int .i64 0, .int .i64 0, .bool false]) hW rfl rfl Try.zeroValue35 rfl ?_
  intro b2 w2 hl2 hB2 hx2
  have g2 : w.heap.size ≤ b2 := Nat.le_trans hE.size hl2
  have n2_1 : b2 ≠ b1 := Nat.ne_of_gt (Nat.lt_of_lt_of_le hB1.lt hl2)
  replace hB1 := hB1.ext hx2
  replace hE := hE.trans hx2
  refine wl_val hW rfl rfl (x_assign rfl) ?_
  refine wl_nil ?_
  refine nx_then ?_
  refine wc_seq ?_
  refine wc_region ?_
  refine wl_val hW rfl rfl (x_loadA ag27 rfl hB1.cells rfl) ?_
  refine wl_val hW rfl rfl (x_fieldAddr Try.underlying27 rfl fl24.siz rfl) ?_
  refine wl_val hW rfl rfl (x_load fl24 rfl (hB1.cell (o := 1) rfl)) ?_
  refine wl_val hW rfl rfl (x_len Try.underlying24 rfl) ?_
  refine wl_val hW rfl rfl (x_subs (r := (ms.length : Int) - 1) rfl rfl (by omega) (by omega) rfl) ?_
  refine wl_call hW rfl rfl (x_call en32 rfl) ((C32 (i := (ms.length : Int) - 1) (hR.ext hE)).inF hFF) ?_
  rintro _ wC ⟨rfl, hxC⟩
  replace hB1 := hB1.ext hxC
  replace hB2 := hB2.ext hxC
  replace hE := hE.trans hxC
  refine wl_val hW rfl rfl (x_extract rfl rfl) ?_
  refine wl_val hW rfl rfl (x_extract rfl rfl) ?_
  refine wl_storeA hW rfl ag35 rfl rfl rfl rfl hB2 rfl ?_
  intro wS hBS hkS
  replace hB1 := hB1.keep hkS n2_1.symm
  replace hB2 := hBS
  clear hBS
  replace hE := hE.store hkS g2
  refine wl_val hW rfl rfl (x_assign rfl) ?_
  refine wl_nil ?_
  refine nx_then ?_
  refine wc_ret ?_
  exact ends_ret (res_cell_tmp Try.results16 rfl (run_loadVar_cells ag35 hB2.cells rfl) rfl) ⟨rfl, hE⟩
theorem idxP_bound (pr : Mb → Bool) (ms : List Mb) : -1 ≤ idxP pr ms ∧ idxP pr ms < ms.length := by
  rcases idxP_cases pr ms with ⟨h, -⟩ | ⟨s, hs, h, -⟩ <;> omega
theorem C17 {A : Nat → Prop} {w : World} {cv sv : Value} {e n : Int} {ms : List Mb} (hR : MRow A w cv ms) : Rt Try.prog 17 [.agg #[.int .i64 e, cv, sv], .int .i64 n] w fun r w' => r = .tuple #[.agg (cellsM (if idxP (fun m => decide (m.n = n)) ms < 0 then ⟨0, 0, false⟩ else memAt ms (idxP (fun m => decide (m.n = n)) ms + 1))).toArray, .bool (decide (0 ≤ idxP (fun m => decide (m.n = n)) ms) && memB ms (idxP (fun m => decide (m.n = n)) ms + 1))] ∧ Ext w w' := by
  obtain ⟨ca, cc, rfl, -, hl1⟩ := hR.form
  have hW := hWw
  have hFF := hFw
  have hE : Ext w w := Keep.refl _ _
  refine rt_body Try.func17 rfl Try.ntmps17 rfl ?_
  refine wc_seq ?_
  refine wc_region ?_
  refine wl_box hW rfl rfl rfl rfl ?_
  intro b2 w2 hl2 hB2 hx2
  have g2 : w.heap.size ≤ b2 := Nat.le_trans hE.size hl2
  replace hE := hE.trans hx2
  refine wl_alloc (cs := [.int .i64 0, .int .i64 0, .bool false]) hW rfl rfl Try.zeroValue35 rfl ?_
  intro b4 w4 hl4 hB4 hx4
  have g4 : w.heap.size ≤ b4 := Nat.le_trans hE.size hl4
  have n4_2 : b4 ≠ b2 := Nat.ne_of_gt (Nat.lt_of_lt_of_le hB2.lt hl4)
  replace hB2 := hB2.ext hx4
  replace hE := hE.trans hx4
  refine wl_val hW rfl rfl (x_assign rfl) ?_
  refine wl_nil ?_
  refine nx_then ?_
  refine wc_seq ?_
  refine wc_region ?_
  refine wl_val hW rfl rfl (x_loadA ag27 rfl hB2.cells rfl) ?_
  refine wl_val hW rfl rfl (x_move rfl) ?_
  refine wl_call hW rfl rfl (x_call en10 rfl) ((C10 (hR.ext hE)).inF hFF) ?_
  rintro _ wC ⟨rfl, hxC⟩
  replace hB2 := hB2.ext hxC
  replace hB4 := hB4.ext hxC
  replace hE := hE.trans hxC
  refine wl_val hW rfl rfl (x_assign rfl) ?_
  refine wl_nil ?_
  refine nx_then ?_
  refine wc_seq ?_
  refine wc_seq ?_
  refine wc_region ?_
  refine wl_val hW rfl rfl (x_move rfl) ?_
  refine wl_val hW rfl rfl (x_lss rfl rfl) ?_
  refine wl_nil ?_
  refine nx_then ?_
  refine wc_dec rfl (fun hc => ?_) (fun hc => ?_)
  · replace hc : idxP (fun m => decide (m.n = n)) ms < 0 := hc
    refine wc_seq ?_
    refine wc_region ?_
    refine wl_val hW rfl rfl (x_build35z) ?_
    refine wl_storeA hW rfl ag35 rfl rfl rfl rfl hB4 rfl ?_
    intro wS hBS hkS
    replace hB2 := hB2.keep hkS n4_2.symm
    replace hB4 := hBS
    clear hBS
    replace hE := hE.store hkS g4
    refine wl_val hW rfl rfl (x_assign rfl) ?_
    refine wl_nil ?_
    refine nx_then ?_
    refine wc_ret ?_
    refine nx_then_ret ?_
    exact ends_ret (res_cell_tmp Try.results17 rfl (run_loadVar_cells ag35 hB4.cells rfl) rfl) ⟨by rw [if_pos hc, show decide (0 ≤ idxP (fun m => decide (m.n = n)) ms) = false from decide_eq_false (by omega)]; rfl, hE⟩
  · replace hc : ¬ idxP (fun m => decide (m.n = n)) ms < 0 := hc
    obtain ⟨k, hk, hkl⟩ : ∃ k : Nat, idxP (fun m => decide (m.n = n)) ms = k ∧ k < ms.length := by rcases idxP_cases (fun m => decide (m.n = n)) ms with ⟨h, -⟩ | ⟨s, hs, h, -⟩; omega; exact ⟨s, h, hs⟩
    refine wc_skip ?_
    refine nx_then ?_
    refine wc_seq ?_
    refine wc_region ?_
    refine wl_val hW rfl rfl (x_loadA ag27 rfl hB2.cells rfl) ?_
    refine wl_val hW rfl rfl (x_move rfl) ?_
    refine wl_val hW rfl rfl (x_inc (s := k) (by rw [← hk]; rfl) (by omega)) ?_
    refine wl_call hW rfl rfl (x_call en32 rfl) ((C32 (i := ((k + 1 : Nat) : Int)) (hR.ext hE)).inF hFF) ?_
    rintro _ wC ⟨rfl, hxC⟩
    replace hB2 := hB2.ext hxC
    replace hB4 := hB4.ext hxC
    replace hE := hE.trans hxC
    refine wl_val hW rfl rfl (x_extract rfl rfl) ?_
    refine wl_val hW rfl rfl (x_extract rfl rfl) ?_
    refine wl_storeA hW rfl ag35 rfl rfl rfl rfl hB4 rfl ?_
    intro wS hBS hkS
    replace hB2 := hB2.keep hkS n4_2.symm
    replace hB4 := hBS
    clear hBS
    replace hE := hE.store hkS g4
    refine wl_val hW rfl rfl (x_assign rfl) ?_
    refine wl_nil ?_
    refine nx_then ?_
    refine wc_ret ?_
    exact ends_ret (res_cell_tmp Try.results17 rfl (run_loadVar_cells ag35 hB4.cells rfl) rfl) ⟨by rw [if_neg hc, hk, show decide ((0 : Int) ≤ (k : Int)) = true from decide_eq_true (by omega)]; rfl, hE⟩
theorem C18 {A : Nat → Prop} {w : World} {cv sv : Value} {e n : Int} {ms : List Mb} (hR : MRow A w cv ms) : Rt Try.prog 18 [.agg #[.int .i64 e, cv, sv], .int .i64 n] w fun r w' => r = .tuple #[.agg (cellsM (memAt ms (idxP (fun m => decide (m.n = n)) ms - 1))).toArray, .bool (memB ms (idxP (fun m => decide (m.n = n)) ms - 1))] ∧ Ext w w' := by
  obtain ⟨ca, cc, rfl, -, hl1⟩ := hR.form
  obtain ⟨hi1, hi2⟩ := idxP_bound (fun m => decide (m.n = n)) ms
  have hW := hWw
  have hFF := hFw
  have hE : Ext w w := Keep.refl _ _
  refine rt_body Try.func18 rfl Try.ntmps18 rfl ?_
  refine wc_seq ?_
  refine wc_region ?_
  refine wl_box hW rfl rfl rfl rfl ?_
  intro b2 w2 hl2 hB2 hx2
  have g2 : w.heap.size ≤ b2 := Nat.le_trans hE.size hl2
  replace hE := hE.trans hx2
  refine wl_alloc (cs := [.int .i64 0, .int .i64 0, .bool false]) hW rfl rfl Try.zeroValue35 rfl ?_
  intro b4 w4 hl4 hB4 hx4
  have g4 : w.heap.size ≤ b4 := Nat.le_trans hE.size hl4
  have n4_2 : b4 ≠ b2 := Nat.ne_of_gt (Nat.lt_of_lt_of_le hB2.lt hl4)
  replace hB2 := hB2.ext hx4
  replace hE := hE.trans hx4
  refine wl_val hW rfl rfl (x_assign rfl) ?_
  refine wl_nil ?_
  refine nx_then ?_
  refine wc_seq ?_
  refine wc_draw' 8 hW mixed (by kernel_rfl) (fun w0 hx0 => ?_)
  replace hB2 := hB2.ext hx0
  replace hB4 := hB4.ext hx0
  replace hE := hE.trans hx0
  have hR0 := hR.ext hE
  refine q_val rfl rfl (fun _ hx => x_loadA ag27 rfl (hB2.ext hx).cells rfl) ?_
  refine q_val rfl rfl (fun _ hx => x_loadA ag27 rfl (hB2.ext hx).cells rfl) ?_
  refine q_val rfl rfl (fun _ hx => x_move rfl) ?_
  refine q_call rfl rfl (fun _ => x_call en10 rfl) (fun w' hx => (C10 (hR0.ext hx)).inF hFF) ?_
  refine q_val rfl rfl (fun _ hx => x_subs (r := idxP (fun m => decide (m.n = n)) ms - 1) rfl rfl (by omega) (by omega) rfl) ?_
  refine q_call rfl rfl (fun _ => x_call en32 rfl) (fun w' hx => (C32 (i := idxP (fun m => decide (m.n = n)) ms - 1) (hR0.ext hx)).inF hFF) ?_
  refine q_val rfl rfl (fun _ hx => x_extract rfl rfl) ?_
  refine q_val rfl rfl (fun _ hx => x_extract rfl rfl) ?_
  refine q_nil (tail0 (fun wt hxt => ?_))
  replace hB2 := hB2.ext hxt
  replace hB4 := hB4.ext hxt
  replace hE := hE.trans hxt
  refine wl_storeA hW rfl ag35 rfl rfl rfl rfl hB4 rfl ?_
  intro wS hBS hkS
  replace hB2 := hB2.keep hkS n4_2.symm
  replace hB4 := hBS
  clear hBS
  replace hE := hE.store hkS g4
  refine wl_val hW rfl rfl (x_assign rfl) ?_
  refine wl_nil ?_
  refine nx_then ?_
  refine wc_ret ?_
  exact ends_ret (res_cell_tmp Try.results18 rfl (run_loadVar_cells ag35 hB4.cells rfl) rfl) ⟨rfl, hE⟩
end Go.Proofs.Ytiaikajibefieaa.K

