/- Walks: the chapter's example; Size; Clone. -/
import Derived.Test.YtblbddamebbgaaaOm
namespace Go.Proofs.Ytblbddamebbgaaa.K
open Go Go.RowKit
set_option linter.unusedVariables false
set_option linter.unusedSimpArgs false

theorem C48 {w : World} : Rt Try.prog 48 [] w fun r w' => r = .bool true ∧ Ext w w' := by
  have hW := hWw
  have hFF := hFw
  have hE : Ext w w := Keep.refl _ _
  refine rt_body Try.func48 rfl Try.ntmps48 rfl ?_
  refine wc_seq ?_
  refine wc_region ?_
  refine wl_val hW rfl rfl (x_assign rfl) ?_
  refine wl_nil ?_
  refine nx_then ?_
  refine wc_seq ?_
  refine wc_region ?_
  refine wl_val hW rfl rfl x_build87 ?_
  refine wl_val hW rfl rfl x_build87 ?_
  refine wl_buildSlice (parts := [(0, .tmp 6), (1, .tmp 7)]) hW rfl rfl Try.underlying80 ag87.siz Try.zeroValue87 rfl rfl rfl (by omega) ?_
  intro b8 w8 hl8 hB8 hx8
  have g8 : w.heap.size ≤ b8 := Nat.le_trans hE.size hl8
  replace hE := hE.trans hx8
  have hT8 : TRow (fun k => k < w8.heap.size) w8 (.slice (some ⟨b8, 0, none⟩) 2 2) kts := ((town_blk (show Blk _ _ (kts.flatMap cellsT) 87 from hB8) rfl (by decide) g8).row (by decide)).mono fun k hk _ => hk
  refine wl_val hW rfl rfl (x_build82 rfl) ?_
  refine wl_alloc (cs := [.slice none 0 0, .int .u64 0, .int .i64 0, .int .i64 0]) hW rfl rfl Try.zeroValue82 rfl ?_
  intro b1 w1 hl1 hB1 hx1
  have g1 : w.heap.size ≤ b1 := Nat.le_trans hE.size hl1
  have n1_8 : b1 ≠ b8 := Nat.ne_of_gt (Nat.lt_of_lt_of_le hB8.lt hl1)
  replace hB8 := hB8.ext hx1
  replace hE := hE.trans hx1
  refine wl_storeA hW rfl ag82 rfl rfl rfl rfl hB1 rfl ?_
  intro wS hBS hkS
  replace hB8 := hB8.keep hkS n1_8.symm
  replace hB1 := hBS
  clear hBS
  replace hE := hE.store hkS g1
  have hszS1 := hkS.size
  have hT1 := (hT8.ext hx1).keep hkS fun k hk h => by omega
  refine wl_nil ?_
  refine nx_then ?_
  refine wc_seq ?_
  refine wc_region ?_
  refine wl_val hW rfl rfl (x_loadA ag82 rfl hB1.cells rfl) ?_
  refine wl_val hW rfl rfl x_build78 ?_
  refine wl_call hW rfl rfl (x_call en54 rfl) ((C54 hT1 (by decide) kts_sz).inF hFF) ?_
  rintro _ wC ⟨⟨is, n, l, jl, iv, bot, rfl, hp, hf, ht⟩, hxC⟩
  replace hB8 := hB8.ext hxC
  replace hB1 := hB1.ext hxC
  replace hE := hE.trans hxC
  obtain ⟨rfl, rfl, rfl⟩ := kts_pick hp
  obtain ⟨rfl, hbot, hI⟩ := ht rfl
  have e0 : (((0 : Nat)) : Int) = 0 := rfl
  rw [e0, kts_job] at hbot hI
  subst hbot
  obtain ⟨bi, oi, ci, rfl, hC0⟩ := hI.at 0 (by decide)
  have hT2 := hT1.ext hxC
  refine wl_val hW rfl rfl (x_move rfl) ?_
  refine wl_val hW rfl rfl (x_extract rfl rfl) ?_
  refine wl_val hW rfl rfl (x_extract rfl rfl) ?_
  refine wl_alloc (cs := [.int .i64 0, .slice none 0 0, .bool false]) hW rfl rfl Try.zeroValue95 rfl ?_
  intro b2 w2 hl2 hB2 hx2
  have g2 : w.heap.size ≤ b2 := Nat.le_trans hE.size hl2
  have n2_8 : b2 ≠ b8 := Nat.ne_of_gt (Nat.lt_of_lt_of_le hB8.lt hl2)
  replace hB8 := hB8.ext hx2
  have n2_1 : b2 ≠ b1 := Nat.ne_of_gt (Nat.lt_of_lt_of_le hB1.lt hl2)
  replace hB1 := hB1.ext hx2
  replace hE := hE.trans hx2
  have hbi : bi < wC.heap.size := World.block_lt_of_cell? _ _ (hC0 0 _ rfl)
  refine wl_storeA hW rfl ag95 rfl rfl rfl rfl hB2 rfl ?_
  intro wS hBS hkS
  replace hB8 := hB8.keep hkS n2_8.symm
  replace hB1 := hB1.keep hkS n2_1.symm
  replace hB2 := hBS
  clear hBS
  replace hE := hE.store hkS g2
  refine wl_val hW rfl rfl (x_assign rfl) ?_
  refine wl_nil ?_
  refine nx_then ?_
  refine wc_seq ?_
  have hszS2 := hkS.size
  have hT3 := (hT2.ext hx2).keep hkS fun k hk h => by have := hx1.size; have := hxC.size; omega
  have hC37 := (hC0.ext hx2).ck (A := (· ≠ b2)) (by intro e; omega) (CK.of_keep hkS fun k _ h => h)
  refine wc_region ?_
  refine wl_val hW rfl rfl (x_loadA ag82 rfl hB1.cells rfl) ?_
  refine wl_val hW rfl rfl x_build78 ?_
  refine wl_call hW rfl rfl (x_call en54 rfl) ((C54 hT3 (by decide) kts_sz).inF hFF) ?_
  rintro _ wD ⟨⟨is2, n2, l2, jl2, iv2, bot2, rfl, hp2, hf2, -⟩, hxC2⟩
  replace hB8 := hB8.ext hxC2
  replace hB1 := hB1.ext hxC2
  replace hB2 := hB2.ext hxC2
  replace hE := hE.trans hxC2
  obtain rfl := kts_not hp2
  obtain ⟨rfl, rfl, rfl⟩ := hf2 rfl
  have hsz2 := hkS.size
  refine wl_val hW rfl rfl (x_move rfl) ?_
  refine wl_val hW rfl rfl (x_extract rfl rfl) ?_
  refine wl_val hW rfl rfl (x_extract rfl rfl) ?_
  refine wl_alloc (cs := [.int .i64 0, .slice none 0 0, .bool false]) hW rfl rfl Try.zeroValue95 rfl ?_
  intro b4 w4 hl4 hB4 hx4
  have g4 : w.heap.size ≤ b4 := Nat.le_trans hE.size hl4
  have n4_8 : b4 ≠ b8 := Nat.ne_of_gt (Nat.lt_of_lt_of_le hB8.lt hl4)
  replace hB8 := hB8.ext hx4
  have n4_1 : b4 ≠ b1 := Nat.ne_of_gt (Nat.lt_of_lt_of_le hB1.lt hl4)
  replace hB1 := hB1.ext hx4
  have n4_2 : b4 ≠ b2 := Nat.ne_of_gt (Nat.lt_of_lt_of_le hB2.lt hl4)
  replace hB2 := hB2.ext hx4
  replace hE := hE.trans hx4
  refine wl_storeA hW rfl ag95 rfl rfl rfl rfl hB4 rfl ?_
  intro wS hBS hkS
  replace hB8 := hB8.keep hkS n4_8.symm
  replace hB1 := hB1.keep hkS n4_1.symm
  replace hB2 := hB2.keep hkS n4_2.symm
  replace hB4 := hBS
  clear hBS
  replace hE := hE.store hkS g4
  refine wl_val hW rfl rfl (x_assign rfl) ?_
  refine wl_nil ?_
  refine nx_then ?_
  have hC37b := ((hC37.ext hxC2).ext hx4).ck (A := (· ≠ b4)) (by intro e; have := hx2.size; have := hxC2.size; omega) (CK.of_keep hkS fun k _ h => h)
  refine wc_seq ?_
  refine wc_cut [(0, .bool true)] (fun w' => Ext w w') ?_ ?_
  · refine wc_region ?_
    refine wl_val hW rfl rfl (x_move rfl) ?_
    refine wl_val hW rfl rfl (x_move rfl) ?_
    refine wl_val hW rfl rfl (x_fieldAddr Try.underlying95 rfl fl3.siz rfl) ?_
    refine wl_val hW rfl rfl (x_load fl3 rfl (hB2.cell (o := 0) rfl)) ?_
    refine wl_val hW rfl rfl (x_eqlT rfl rfl rfl) ?_
    refine wl_val hW rfl rfl (x_pickT rfl rfl) ?_
    refine wl_val hW rfl rfl (x_move rfl) ?_
    refine wl_val hW rfl rfl (x_fieldAddr Try.underlying95 rfl fl42.siz rfl) ?_
    refine wl_val hW rfl rfl (x_load fl42 rfl (hB2.cell (o := 1) rfl)) ?_
    refine wl_val hW rfl rfl (x_len Try.underlying42 rfl) ?_
    refine wl_val hW rfl rfl (x_eqlT rfl rfl rfl) ?_
    refine wl_val hW rfl rfl (x_pickT rfl rfl) ?_
    refine wl_val hW rfl rfl (x_move rfl) ?_
    refine wl_val hW rfl rfl (x_fieldAddr Try.underlying95 rfl fl42.siz rfl) ?_
    refine wl_val hW rfl rfl (x_load fl42 rfl (hB2.cell (o := 1) rfl)) ?_
    refine wl_val hW rfl rfl (x_indexAddr Try.underlying42 fl3.siz rfl rfl (by decide) (by decide)) ?_
    refine wl_val hW rfl rfl (x_load fl3 rfl (hC37b 0 _ rfl)) ?_
    refine wl_val hW rfl rfl (x_eqlT rfl rfl rfl) ?_
    refine wl_val hW rfl rfl (x_pickT rfl rfl) ?_
    refine wl_val hW rfl rfl (x_move rfl) ?_
    refine wl_val hW rfl rfl (x_fieldAddr Try.underlying95 rfl fl4.siz rfl) ?_
    refine wl_val hW rfl rfl (x_load fl4 rfl (hB2.cell (o := 2) rfl)) ?_
    refine wl_val hW rfl rfl (x_pickT rfl rfl) ?_
    refine wl_val hW rfl rfl (x_move rfl) ?_
    refine wl_val hW rfl rfl (x_move rfl) ?_
    refine wl_val hW rfl rfl (x_not rfl) ?_
    refine wl_val hW rfl rfl (x_pickT rfl rfl) ?_
    refine wl_val hW rfl rfl (x_assign rfl) ?_
    refine wl_nil ?_
    exact nx_cut (by repeat (first | exact sub_nil | refine sub_cons rfl ?_)) hE
  · rintro w' hE
    refine nx_then ?_
    refine wc_ret ?_
    exact ends_ret (res_tmp Try.results48 rfl) ⟨rfl, hE⟩
theorem C76 {A : Nat → Prop} {w : World} {e : Ent} {bv : Value} (hb : Byts A w bv e.v) (hok : EntOk e) : Rt Try.prog 76 [.agg (cellsOf e bv).toArray] w fun r w' => r = .int .i64 (costE e : Nat) ∧ Ext w w' := by
  obtain ⟨ad, cap, rfl, hcap⟩ := hb.form
  have hW := hWw
  have hFF := hFw
  have hE : Ext w w := Keep.refl _ _
  refine rt_body Try.func76 rfl Try.ntmps76 rfl ?_
  refine wc_seq ?_
  refine wc_region ?_
  refine wl_box hW rfl rfl rfl rfl ?_
  intro b1 w1 hl1 hB1 hx1
  have g1 : w.heap.size ≤ b1 := Nat.le_trans hE.size hl1
  replace hE := hE.trans hx1
  refine wl_val hW rfl rfl (x_assign rfl) ?_
  refine wl_nil ?_
  refine nx_then ?_
  refine wc_seq ?_
  refine wc_region ?_
  refine wl_val hW rfl rfl (x_fieldAddr Try.underlying25 rfl fl9.siz rfl) ?_
  refine wl_val hW rfl rfl (x_load fl9 rfl (hB1.cell (o := 0) rfl)) ?_
  refine wl_val hW rfl rfl (x_lens Try.underlying9 rfl) ?_
  refine wl_val hW rfl rfl (x_fieldAddr Try.underlying25 rfl fl23.siz rfl) ?_
  refine wl_val hW rfl rfl (x_load fl23 rfl (hB1.cell (o := 3) rfl)) ?_
  refine wl_val hW rfl rfl (x_len Try.underlying23 rfl) ?_
  refine wl_val hW rfl rfl (x_addn (i := e.k.size) (j := e.v.length) rfl rfl (by have := hok.k; have := hok.v; omega)) ?_
  refine wl_val hW rfl rfl (x_addn (i := e.k.size + e.v.length) (j := 16) rfl rfl (by have := hok.k; have := hok.v; omega)) ?_
  refine wl_val hW rfl rfl (x_assign rfl) ?_
  refine wl_nil ?_
  refine nx_then ?_
  refine wc_ret ?_
  exact ends_ret (res_tmp Try.results76 rfl) ⟨rfl, hE⟩
end Go.Proofs.Ytblbddamebbgaaa.K

