/- Walk: MemOwn. -/
import Derived.Test.YtblbddamebbgaaaOf
namespace Go.Proofs.Ytblbddamebbgaaa.K
open Go Go.RowKit
set_option linter.unusedVariables false
set_option linter.unusedSimpArgs false

theorem C7 {w : World} {vl : Value} {es : List Ent} {st : Int} (hl : Row (fun k => k < w.heap.size) w vl es) :
    Rt Try.prog 7 [vl, .int .i64 st] w fun r w' => r = .bool true ∧ Ext w w' := by
  obtain ⟨ad, cap, rfl, hcap, hlen⟩ := hl.form
  have hW := hWw
  have hFF := hFw
  have hE : Ext w w := Keep.refl _ _
  refine rt_body Try.func7 rfl Try.ntmps7 rfl ?_
  refine wc_seq ?_
  refine wc_region ?_
  refine wl_box hW rfl rfl rfl rfl ?_
  intro b3 w3 hl3 hB3 hx3
  have g3 : w.heap.size ≤ b3 := Nat.le_trans hE.size hl3
  replace hE := hE.trans hx3
  refine wl_alloc (cs := [.bool false]) hW rfl rfl Try.zeroValue4 rfl ?_
  intro b4 w4 hl4 hB4 hx4
  have g4 : w.heap.size ≤ b4 := Nat.le_trans hE.size hl4
  have n4_3 : b4 ≠ b3 := Nat.ne_of_gt (Nat.lt_of_lt_of_le hB3.lt hl4)
  replace hB3 := hB3.ext hx4
  replace hE := hE.trans hx4
  refine wl_nil ?_
  refine nx_then ?_
  refine wc_seq ?_
  refine wc_seq ?_
  refine wc_region ?_
  refine wl_call hW rfl rfl (x_call en27 rfl) (C27.inF hFF) ?_
  rintro _ wC ⟨rfl, hxC⟩
  replace hB3 := hB3.ext hxC
  replace hB4 := hB4.ext hxC
  replace hE := hE.trans hxC
  refine wl_val hW rfl rfl (x_not rfl) ?_
  refine wl_nil ?_
  refine nx_then ?_
  refine wc_false rfl ?_
  refine wc_skip ?_
  refine nx_then ?_
  refine wc_seq ?_
  refine wc_seq ?_
  refine wc_region ?_
  refine wl_val hW rfl rfl (x_move rfl) ?_
  refine wl_call hW rfl rfl (x_call en17 rfl) ((C17 (hl.ext hE)).inF hFF) ?_
  rintro _ wC ⟨⟨bb, rfl, hfew⟩, hxC⟩
  replace hB3 := hB3.ext hxC
  replace hB4 := hB4.ext hxC
  replace hE := hE.trans hxC
  refine wl_val hW rfl rfl (x_not rfl) ?_
  refine wl_nil ?_
  refine nx_then ?_
  refine wc_bool rfl (fun hc => ?_) (fun hc => ?_)
  · refine wc_seq ?_
    refine wc_region ?_
    refine wl_store hW rfl fl4 rfl rfl rfl hB4 rfl ?_
    intro wS hBS hkS
    replace hB3 := hB3.keep hkS n4_3.symm
    replace hB4 := hBS
    clear hBS
    replace hE := hE.store hkS g4
    refine wl_nil ?_
    refine nx_then ?_
    refine wc_ret ?_
    refine nx_then_ret ?_
    exact ends_ret (res_cell Try.results7 rfl (run_loadVar_cell fl4 (hB4.cell (o := 0) rfl))) ⟨rfl, hE⟩
  · refine wc_skip ?_
    have hn : es.length ≤ 300 := by have := hfew (by simpa using hc); omega
    refine nx_then ?_
    refine wc_seq ?_
    refine wc_region ?_
    refine wl_buildSlice (parts := [(0, .const (.int .i64 2)), (1, .const (.int .i64 5)), (2, .const (.int .i64 1))]) hW rfl rfl Try.underlying42 fl3.siz Try.zeroValue3 rfl rfl rfl (by omega) ?_
    intro b21 w21 hl21 hB21 hx21
    have g21 : w.heap.size ≤ b21 := Nat.le_trans hE.size hl21
    have n21_3 : b21 ≠ b3 := Nat.ne_of_gt (Nat.lt_of_lt_of_le hB3.lt hl21)
    replace hB3 := hB3.ext hx21
    have n21_4 : b21 ≠ b4 := Nat.ne_of_gt (Nat.lt_of_lt_of_le hB4.lt hl21)
    replace hB4 := hB4.ext hx21
    replace hE := hE.trans hx21
    have hB3a := hB3
    have hB4a := hB4
    have hB21a := hB21
    have hsz21 := hE.size
    have h3a := hB3a.lt
    have h4a := hB4a.lt
    have h21a := hB21a.lt
    refine wl_call hW rfl rfl (x_call en28 rfl) ((C28 (iRow_blk (zs := [2, 5, 1]) hB21 rfl (by decide))).inF hFF) ?_
    rintro _ wC ⟨⟨bt, ha, dv, rfl, hT0⟩, hxC⟩
    replace hB3 := hB3.ext hxC
    replace hB4 := hB4.ext hxC
    replace hB21 := hB21.ext hxC
    replace hE := hE.trans hxC
    have hTb0 := tbl_new hT0
    refine wl_val hW rfl rfl (x_assign rfl) ?_
    refine wl_nil ?_
    refine nx_then ?_
    refine wc_seq ?_
    refine wc_seq ?_
    refine wc_region ?_
    refine wl_val hW rfl rfl (x_move rfl) ?_
    refine wl_val hW rfl rfl (x_peq Try.underlying43 some114 rfl rfl) ?_
    refine wl_nil ?_
    refine nx_then ?_
    refine wc_false rfl ?_
    refine wc_skip ?_
    refine nx_then ?_
    refine wc_seq ?_
    refine wc_seq ?_
    refine wc_region ?_
    refine wl_val hW rfl rfl (x_assign rfl) ?_
    refine wl_nil ?_
    refine nx_then ?_
    refine wc_block ?_
    refine wc_loop (σ := Nat) (fun s => [(0, .slice ad es.length cap), (3, .pointer (some ⟨b3, 0, none⟩)), (4, .pointer (some ⟨b4, 0, none⟩)), (5, .pointer (some ⟨bt, 0, none⟩)), (6, .int .i64 (s : Nat))]) (fun s w' => (s ≤ es.length ∧ ∃ t, Tbl w21.heap.size w' bt t ∧ t.E = insAll (es.take s) ∧ t.ns.length ≤ s) ∧ Ext w w' ∧ Keep (fun k => k < w21.heap.size) w21 w') (fun s => es.length - s) 0 ?_ ?_ ?_
    · exact ⟨⟨Nat.zero_le _, _, hTb0, rfl, Nat.le_refl _⟩, hE, Keep.of_ext hxC⟩
    · repeat (first | exact sub_nil | refine sub_cons rfl ?_)
    · rintro s wr ⟨⟨hs, t, hTb, hEt, hns⟩, hE, hK⟩
      have hB3 := hB3a.keep hK h3a
      have hB4 := hB4a.keep hK h4a
      have hB21 := hB21a.keep hK h21a
      have hszr := hK.size
      refine wc_seq ?_
      refine wc_seq ?_
      refine wc_region ?_
      refine wl_val hW rfl rfl (x_move rfl) ?_
      refine wl_val hW rfl rfl (x_move rfl) ?_
      refine wl_val hW rfl rfl (x_len Try.underlying26 rfl) ?_
      refine wl_val hW rfl rfl (x_lss rfl rfl) ?_
      refine wl_nil ?_
      refine nx_then ?_
      refine wc_dec rfl (fun hc => ?_) (fun hc => ?_)
      · refine wc_skip ?_
        refine nx_then ?_
        refine wc_seq ?_
        refine wc_block ?_
        refine wc_seq ?_
        refine wc_region ?_
        have hlt : s < es.length := by omega
        obtain ⟨b, o, cap', bv, e1, hA, hC33, hb1, hok1⟩ := (hl.ext hE).at s hlt
        cases e1
        refine wl_val hW rfl rfl (x_move rfl) ?_
        refine wl_val hW rfl rfl (x_move rfl) ?_
        refine wl_val hW rfl rfl (x_indexAddr Try.underlying26 ag25.siz rfl rfl (by omega) (by omega)) ?_
        refine wl_val hW rfl rfl (x_loadA ag25 rfl hC33 rfl) ?_
        refine wl_call hW rfl rfl (x_call en33 rfl) ((C33t hb1 hok1).inF hFF) ?_
        rintro _ wC1 ⟨⟨bvT, rfl, hFT⟩, hxC⟩
        replace hB3 := hB3.ext hxC
        replace hB4 := hB4.ext hxC
        replace hB21 := hB21.ext hxC
        replace hE := hE.trans hxC
        have honeT := cells_one (e := es[s]) (bv := bvT) (by obtain ⟨a, c, rfl⟩ := hFT.form; rfl)
        have hszC := hxC.size
        refine wl_alloc (cs := [.string ⟨#[]⟩, .int .u64 0, .bool false, .slice none 0 0]) hW rfl rfl Try.zeroValue25 rfl ?_
        intro b7 w7 hl7 hB7 hx7
        have g7 : w.heap.size ≤ b7 := Nat.le_trans hE.size hl7
        have n7_3 : b7 ≠ b3 := Nat.ne_of_gt (Nat.lt_of_lt_of_le hB3.lt hl7)
        replace hB3 := hB3.ext hx7
        have n7_4 : b7 ≠ b4 := Nat.ne_of_gt (Nat.lt_of_lt_of_le hB4.lt hl7)
        replace hB4 := hB4.ext hx7
        have n7_21 : b7 ≠ b21 := Nat.ne_of_gt (Nat.lt_of_lt_of_le hB21.lt hl7)
        replace hB21 := hB21.ext hx7
        replace hE := hE.trans hx7
        refine wl_storeA hW rfl ag25 rfl rfl honeT rfl hB7 rfl ?_
        intro wS hBS hkS
        replace hFT := (hFT.ext hx7).keep hkS (fun b hb => (hFT.ext hx7).ne hb hB7 (by decide))
        replace hB3 := hB3.keep hkS n7_3.symm
        replace hB4 := hB4.keep hkS n7_4.symm
        replace hB21 := hB21.keep hkS n7_21.symm
        replace hB7 := hBS
        clear hBS
        replace hE := hE.store hkS g7
        refine wl_nil ?_
        refine nx_then ?_
        refine wc_seq ?_
        have hTO2 : Tab (fun k => w21.heap.size ≤ k ∧ k < wr.heap.size) wS t := ((hTb.tab.ext hxC).ext hx7).keep hkS fun k _ ho => by have := ho.2; omega
        have hszS : wr.heap.size ≤ wS.heap.size := by have := hx7.size; have := hkS.size; omega
        have hTb2 : Tbl w21.heap.size wS bt t := ⟨hTb.ebt, hTO2.mono (fun k hk ho => ⟨ho.1, hk⟩), hTb.ti, hTb.okE⟩
        refine wc_region ?_
        refine wl_val hW rfl rfl (x_move rfl) ?_
        refine wl_val hW rfl rfl (x_loadA ag25 rfl hB7.cells rfl) ?_
        refine wl_call hW rfl rfl (x_call en29 rfl) ((hTb2.putO hTO2 hFT.byts hok1 (by omega)).inF hFF) ?_
        rintro _ wP ⟨t2, hbt2, hT2, hI2, hok2, hEt2, hl2, hkP⟩
        have hFTs := hFT
        replace hFT := hFT.keep hkP (fun b hb h => by have := hFT.ge hb; omega)
        replace hB3 := hB3.keep hkP (fun h => by omega)
        replace hB4 := hB4.keep hkP (fun h => by omega)
        replace hB21 := hB21.keep hkP (fun h => by omega)
        replace hB7 := hB7.keep hkP (fun h => by omega)
        replace hE := Keep.after hE hkP (fun k hk h => by omega)
        refine wl_nil ?_
        refine nx_then ?_
        refine wc_region ?_
        refine wl_val hW rfl rfl (x_fieldAddr Try.underlying25 rfl fl23.siz rfl) ?_
        refine wl_val hW rfl rfl (x_load fl23 rfl (hB7.cell (o := 3) rfl)) ?_
        refine wl_call hW rfl rfl (x_call en34 rfl) ((C34 hFT (by have := hok1.v; omega)).inF hFF) ?_
        rintro _ wQ hkQ
        replace hB3 := hB3.keep hkQ (fun e => by have := hFT.ge e.symm; omega)
        replace hB4 := hB4.keep hkQ (fun e => by have := hFT.ge e.symm; omega)
        replace hB21 := hB21.keep hkQ (fun e => by have := hFT.ge e.symm; omega)
        replace hE := Keep.rowed hE hkQ (fun b hb => by have := hFT.ge hb; omega)
        refine wl_nil ?_
        refine nx_block ?_
        refine nx_then ?_
        refine wc_region ?_
        have hTQ := hT2.keep hkQ fun k _ ho e => by have h1 := hFT.ge e.symm; have h2 := hFTs.lt e.symm; omega
        have hTbF : Tbl w21.heap.size wQ bt t2 := ⟨hbt2, hTQ.mono (fun k hk ho => ⟨by omega, hk⟩), hI2, hok2⟩
        have hKr : Keep (fun k => k < w21.heap.size) wr wQ := ((((Keep.of_ext hxC).trans (Keep.of_ext hx7)).trans (hkS.mono fun k _ h => by omega)).trans (hkP.mono fun k _ h h' => by omega)).trans (hkQ.mono fun k _ h e => by have := hFT.ge e.symm; omega)
        refine wl_val hW rfl rfl (x_move rfl) ?_
        refine wl_val hW rfl rfl (x_inc (s := s) rfl (by omega)) ?_
        refine wl_val hW rfl rfl (x_assign rfl) ?_
        refine wl_nil ?_
        exact nx_next (s + 1) (by omega) ⟨⟨hlt, t2, hTbF, by rw [hEt2, hEt, insAll_take hlt], by omega⟩, hE, hK.trans hKr⟩ (by repeat (first | exact sub_nil | refine sub_cons rfl ?_))
      · refine wc_exit ?_
        refine nx_then_exit ?_
        refine nx_then_exit ?_
        refine nx_block_exit ?_
        refine nx_then ?_
        have hsl : s = es.length := by omega
        rw [hsl, List.take_length] at hEt
        have hEl := t.El
        refine wc_seq ?_
        refine wc_region ?_
        refine wl_val hW rfl rfl x_build53n ?_
        refine wl_box hW rfl rfl rfl rfl ?_
        intro b43 w43 hl43 hB43 hx43
        have g43 : w.heap.size ≤ b43 := Nat.le_trans hE.size hl43
        have n43_3 : b43 ≠ b3 := Nat.ne_of_gt (Nat.lt_of_lt_of_le hB3.lt hl43)
        replace hB3 := hB3.ext hx43
        have n43_4 : b43 ≠ b4 := Nat.ne_of_gt (Nat.lt_of_lt_of_le hB4.lt hl43)
        replace hB4 := hB4.ext hx43
        have n43_21 : b43 ≠ b21 := Nat.ne_of_gt (Nat.lt_of_lt_of_le hB21.lt hl43)
        replace hB21 := hB21.ext hx43
        replace hE := hE.trans hx43
        refine wl_alloc (cs := [.pointer none]) hW rfl rfl Try.zeroValue51 rfl ?_
        intro b8 w8 hl8 hB8 hx8
        have g8 : w.heap.size ≤ b8 := Nat.le_trans hE.size hl8
        have n8_3 : b8 ≠ b3 := Nat.ne_of_gt (Nat.lt_of_lt_of_le hB3.lt hl8)
        replace hB3 := hB3.ext hx8
        have n8_4 : b8 ≠ b4 := Nat.ne_of_gt (Nat.lt_of_lt_of_le hB4.lt hl8)
        replace hB4 := hB4.ext hx8
        have n8_21 : b8 ≠ b21 := Nat.ne_of_gt (Nat.lt_of_lt_of_le hB21.lt hl8)
        replace hB21 := hB21.ext hx8
        have n8_43 : b8 ≠ b43 := Nat.ne_of_gt (Nat.lt_of_lt_of_le hB43.lt hl8)
        replace hB43 := hB43.ext hx8
        replace hE := hE.trans hx8
        refine wl_store hW rfl fl51 rfl rfl rfl hB8 rfl ?_
        intro w5 hBS hkS
        replace hB3 := hB3.keep hkS n8_3.symm
        replace hB4 := hB4.keep hkS n8_4.symm
        replace hB21 := hB21.keep hkS n8_21.symm
        replace hB43 := hB43.keep hkS n8_43.symm
        replace hB8 := hBS
        clear hBS
        replace hE := hE.store hkS g8
        refine wl_nil ?_
        refine nx_then ?_
        refine wc_seq ?_
        refine wc_seq ?_
        have hl43 : wr.heap.size ≤ b43 := hl43
        have hl8' : wr.heap.size ≤ b8 := by have := hx43.size; omega
        have hRM0 : RefM w5.heap.size b43 w5 _ := refM_new hB43
        have h43s := hB43.lt
        have h8s := hB8.lt
        have hKr : Keep (fun k => k < wr.heap.size) wr w5 := ((Keep.of_ext hx43).trans (Keep.of_ext hx8)).trans (hkS.mono fun k _ h => by omega)
        have hB3s := hB3
        have hB4s := hB4
        have hB21s := hB21
        have hB8s := hB8
        have hsz5 := hE.size
        have hsz5r := hKr.size
        refine wc_region ?_
        refine wl_val hW rfl rfl (x_assign rfl) ?_
        refine wl_nil ?_
        refine nx_then ?_
        refine wc_block ?_
        refine wc_loop (σ := Nat) (fun s => [(0, .slice ad es.length cap), (3, .pointer (some ⟨b3, 0, none⟩)), (4, .pointer (some ⟨b4, 0, none⟩)), (5, .pointer (some ⟨bt, 0, none⟩)), (8, .pointer (some ⟨b8, 0, none⟩)), (9, .int .i64 (s : Nat))]) (fun s w' => (s ≤ es.length ∧ ∃ r, RefM w5.heap.size b43 w' r ∧ r.L = insAll (es.take s) ∧ r.L.length ≤ s) ∧ Ext w w' ∧ Keep (fun k => k ≠ b43 ∧ k < w5.heap.size) w5 w') (fun s => es.length - s) 0 ?_ ?_ ?_
        · exact ⟨⟨Nat.zero_le _, _, hRM0, rfl, Nat.le_refl _⟩, hE, Keep.refl _ _⟩
        · repeat (first | exact sub_nil | refine sub_cons rfl ?_)
        · rintro s2 w2 ⟨⟨hs2, r, hRM, hrL, hrl⟩, hE, hK2⟩
          have hB3 := hB3s.keep hK2 ⟨n43_3.symm, hB3s.lt⟩
          have hB4 := hB4s.keep hK2 ⟨n43_4.symm, hB4s.lt⟩
          have hB21 := hB21s.keep hK2 ⟨n43_21.symm, hB21s.lt⟩
          have hB8 := hB8s.keep hK2 ⟨n8_43, h8s⟩
          have hB43 := hRM.tb
          have hsz2 := hK2.size
          refine wc_seq ?_
          refine wc_seq ?_
          refine wc_region ?_
          refine wl_val hW rfl rfl (x_move rfl) ?_
          refine wl_val hW rfl rfl (x_move rfl) ?_
          refine wl_val hW rfl rfl (x_len Try.underlying26 rfl) ?_
          refine wl_val hW rfl rfl (x_lss rfl rfl) ?_
          refine wl_nil ?_
          refine nx_then ?_
          refine wc_dec rfl (fun hc => ?_) (fun hc => ?_)
          · refine wc_skip ?_
            refine nx_then ?_
            refine wc_seq ?_
            have hlt2 : s2 < es.length := by omega
            obtain ⟨b, o, cap', bv, e1, hA, hC53, hb1, hok1⟩ := (hl.ext hE).at s2 hlt2
            cases e1
            refine wc_block ?_
            refine wc_seq ?_
            refine wc_draw' 5 hW mixed (by kernel_rfl) (fun w0 hx0 => ?_)
            replace hB3 := hB3.ext hx0
            replace hB4 := hB4.ext hx0
            replace hB21 := hB21.ext hx0
            replace hB43 := hB43.ext hx0
            replace hB8 := hB8.ext hx0
            replace hE := hE.trans hx0
            replace hC53 := hC53.ext hx0
            refine q_val rfl rfl (fun _ hx => x_load fl51 rfl (hx.cell (hB8.cell (o := 0) rfl))) ?_
            refine q_val rfl rfl (fun _ hx => x_move rfl) ?_
            refine q_val rfl rfl (fun _ hx => x_move rfl) ?_
            refine q_val rfl rfl (fun _ hx => x_indexAddr Try.underlying26 ag25.siz rfl rfl (by omega) (by omega)) ?_
            refine q_val rfl rfl (fun _ hx => x_loadA ag25 rfl (hC53.ext hx) rfl) ?_
            refine q_nil (tail0 (fun wt hxt => ?_))
            replace hB3 := hB3.ext hxt
            replace hB4 := hB4.ext hxt
            replace hB21 := hB21.ext hxt
            replace hB43 := hB43.ext hxt
            replace hB8 := hB8.ext hxt
            replace hE := hE.trans hxt
            have hsz20 := hx0.size
            have hsz2t := hxt.size
            refine wl_call hW rfl rfl (x_call en35 rfl) ((((hRM.ext hx0).ext hxt).put ((hb1.ext hx0).ext hxt) hok1 (by omega) (by omega)).inF hFF) ?_
            rintro _ wP ⟨r2, hRM2, hrL2, hrl2, hkP⟩
            replace hB3 := hB3.keep hkP ⟨n43_3.symm, hB3s.lt⟩
            replace hB4 := hB4.keep hkP ⟨n43_4.symm, hB4s.lt⟩
            replace hB21 := hB21.keep hkP ⟨n43_21.symm, hB21s.lt⟩
            replace hB43 := hRM2.tb
            replace hB8 := hB8.keep hkP ⟨n8_43, h8s⟩
            replace hE := Keep.after hE hkP (fun k hk => ⟨by omega, by omega⟩)
            refine wl_nil ?_
            refine nx_then ?_
            refine wc_seq ?_
            have hK2P := hK2.trans ((Keep.of_ext (hx0.trans hxt)).trans hkP)
            have hszP := hK2P.size
            have hTbP : Tbl w21.heap.size wP bt t := hTb.keep0 (hKr.trans (hK2P.mono fun k hk h => ⟨by omega, by omega⟩)) (fun k h => h)
            obtain ⟨b', o', cap'', bv', e2, -, hCl, -, -⟩ := (hl.ext hE).at s2 hlt2
            cases e2
            refine wc_drawX (GX 11 wP) 17 hW mixed (by kernel_rfl) (by kernel_rfl) gx_ext (fun w0 hx0 => hx0) ?_
            refine qx_val rfl rfl rfl (fun _ _ hJ => x_move rfl) ?_
            refine qx_val rfl rfl rfl (fun _ _ hJ => x_move rfl) ?_
            refine qx_val rfl rfl rfl (fun _ _ hJ => x_move rfl) ?_
            refine qx_val rfl rfl rfl (fun _ _ hJ => x_indexAddr Try.underlying26 ag25.siz rfl rfl (by omega) (by omega)) ?_
            refine qx_val rfl rfl rfl (fun _ _ hJ => x_fieldAddr Try.underlying25 rfl fl9.siz rfl) ?_
            refine qx_val rfl rfl rfl (fun _ _ hJ => x_load fl9 rfl (Ext.cell hJ (hCl 0 _ rfl))) ?_
            refine qx_val rfl rfl rfl (fun _ _ hJ => x_move rfl) ?_
            refine qx_val rfl rfl rfl (fun _ _ hJ => x_move rfl) ?_
            refine qx_val rfl rfl rfl (fun _ _ hJ => x_indexAddr Try.underlying26 ag25.siz rfl rfl (by omega) (by omega)) ?_
            refine qx_val rfl rfl rfl (fun _ _ hJ => x_fieldAddr Try.underlying25 rfl fl22.siz rfl) ?_
            refine qx_val rfl rfl rfl (fun _ _ hJ => x_load fl22 rfl (Ext.cell hJ (hCl 1 _ rfl))) ?_
            refine qx_get (c := 11) (Qb := fun bv w2 => FB wP.heap.size w2 bv (gotE t.E es[s2].k es[s2].s).v) rfl (fun _ _ _ h hx => h.ext hx) (fun _ _ _ h hs => h.storeNew hs) (fun _ _ h => by obtain ⟨a, c, rfl⟩ := h.form; rfl) rfl rfl rfl rfl rfl rfl rfl rfl rfl (by decide) (fun o ho => by cases ho; decide) rfl (fun _ => x_call en36 rfl) (fun w3 hJ => (((hTbP.ext hJ).get (by omega)).mono fun r w4 ⟨⟨bv, h1, h2⟩, h3⟩ => ⟨⟨bv, h1, h2.mono hJ.size⟩, h3⟩).inF hFF) (fun wA b10 bvA hxA hl10 hB10 hFA => ?_)
            have his := newF_has (l := es) (e := es[s2]) (List.getElem_mem hlt2)
            rw [← hEt] at his
            rw [his]
            refine wl_val hW rfl rfl (x_assign rfl) ?_
            refine wl_nil ?_
            refine nx_then ?_
            refine wc_seq ?_
            refine wc_seq ?_
            refine wc_region ?_
            refine wl_val hW rfl rfl (x_move rfl) ?_
            refine wl_val hW rfl rfl (x_not rfl) ?_
            refine wl_nil ?_
            refine nx_then ?_
            refine wc_false rfl ?_
            refine wc_skip ?_
            refine nx_then ?_
            refine wc_region ?_
            refine wl_val hW rfl rfl (x_fieldAddr Try.underlying25 rfl fl23.siz rfl) ?_
            refine wl_val hW rfl rfl (x_load fl23 rfl (hB10.cell (o := 3) rfl)) ?_
            refine wl_call hW rfl rfl (x_call en34 rfl) ((C34 hFA (gotE_len (tab_E_ok hTbP.tab))).inF hFF) ?_
            rintro _ wQ hkQ
            have hXQ : Ext wP wQ := Keep.rowed hxA hkQ (fun b hb => hFA.ge hb)
            replace hB3 := hB3.ext hXQ
            replace hB4 := hB4.ext hXQ
            replace hB21 := hB21.ext hXQ
            replace hB43 := hB43.ext hXQ
            replace hB8 := hB8.ext hXQ
            replace hE := hE.trans hXQ
            refine wl_nil ?_
            refine nx_block ?_
            refine nx_then ?_
            refine wc_region ?_
            refine wl_val hW rfl rfl (x_move rfl) ?_
            refine wl_val hW rfl rfl (x_inc (s := s2) rfl (by omega)) ?_
            refine wl_val hW rfl rfl (x_assign rfl) ?_
            refine wl_nil ?_
            exact nx_next (s2 + 1) (by omega) ⟨⟨hlt2, r2, hRM2.ext hXQ, by rw [hrL2, hrL, insAll_take hlt2], by omega⟩, hE, hK2P.trans (Keep.of_ext hXQ)⟩ (by repeat (first | exact sub_nil | refine sub_cons rfl ?_))
          · refine wc_exit ?_
            refine nx_then_exit ?_
            refine nx_then_exit ?_
            refine nx_block_exit ?_
            refine nx_then ?_
            have hsl2 : s2 = es.length := by omega
            rw [hsl2, List.take_length] at hrL
            have hrt : r.L = t.E := by rw [hrL, hEt]
            have hrtl : r.L.length = t.E.length := by rw [hrt]
            have hTb2 : Tbl w21.heap.size w2 bt t := hTb.keep0 (hKr.trans (hK2.mono fun k hk h => ⟨by omega, by omega⟩)) (fun k h => h)
            obtain ⟨lv, hlv, hRow⟩ := hRM.row (by omega)
            obtain ⟨al, cl, rfl, -, -⟩ := hRow.form
            rw [hlv] at hB43
            have hnb : ∀ k, k ∈ t.nb → w21.heap.size ≤ k ∧ k < wr.heap.size := fun k hk => hTb.tab.own k hk
            refine wc_seq ?_
            refine wc_region ?_
            refine wl_val hW rfl rfl (x_move rfl) ?_
            refine wl_call hW rfl rfl (x_call en37 rfl) ((hTb2.seq (by omega)).inF hFF) ?_
            rintro _ wC3 ⟨⟨bq, rv, rfl, gq, hBq, hRq⟩, hxC⟩
            replace hB3 := hB3.ext hxC
            replace hB4 := hB4.ext hxC
            replace hB21 := hB21.ext hxC
            replace hB43 := hB43.ext hxC
            replace hB8 := hB8.ext hxC
            replace hE := hE.trans hxC
            refine wl_val hW rfl rfl (x_assign rfl) ?_
            refine wl_nil ?_
            refine nx_then ?_
            refine wc_seq ?_
            have hszC3 := hxC.size
            refine wc_region ?_
            refine wl_val hW rfl rfl (x_move rfl) ?_
            refine wl_buildSlice (parts := [(0, .const (.int .u8 108)), (1, .const (.int .u8 97)), (2, .const (.int .u8 116)), (3, .const (.int .u8 101)), (4, .const (.int .u8 114))]) hW rfl rfl Try.underlying23 fl5.siz Try.zeroValue5 rfl rfl rfl (by omega) ?_
            intro b79 w79 hl79 hB79 hx79
            have g79 : w.heap.size ≤ b79 := Nat.le_trans hE.size hl79
            have n79_3 : b79 ≠ b3 := Nat.ne_of_gt (Nat.lt_of_lt_of_le hB3.lt hl79)
            replace hB3 := hB3.ext hx79
            have n79_4 : b79 ≠ b4 := Nat.ne_of_gt (Nat.lt_of_lt_of_le hB4.lt hl79)
            replace hB4 := hB4.ext hx79
            have n79_21 : b79 ≠ b21 := Nat.ne_of_gt (Nat.lt_of_lt_of_le hB21.lt hl79)
            replace hB21 := hB21.ext hx79
            have n79_43 : b79 ≠ b43 := Nat.ne_of_gt (Nat.lt_of_lt_of_le hB43.lt hl79)
            replace hB43 := hB43.ext hx79
            have n79_8 : b79 ≠ b8 := Nat.ne_of_gt (Nat.lt_of_lt_of_le hB8.lt hl79)
            replace hB8 := hB8.ext hx79
            replace hE := hE.trans hx79
            refine wl_convSame hW rfl rfl rfl hB79 ?_
            intro v79 hC79 hk79
            replace hB3 := hB3.keep hk79 n79_3.symm
            replace hB4 := hB4.keep hk79 n79_4.symm
            replace hB21 := hB21.keep hk79 n79_21.symm
            replace hB43 := hB43.keep hk79 n79_43.symm
            replace hB8 := hB8.keep hk79 n79_8.symm
            replace hE := hE.store hk79 g79
            have hy79 : Byts (· = b79) v79 (.slice (some ⟨b79, 0, none⟩) 5 5) [108, 97, 116, 101, 114] := byts_cells hC79 rfl
            have hKc : Keep (fun k => k < wC3.heap.size) wC3 v79 := (Keep.of_ext hx79).trans (hk79.mono fun k _ h => by omega)
            have hszv := hKc.size
            have hTb3 : Tbl w21.heap.size v79 bt t := (hTb2.ext hxC).keep0 hKc (fun k h => h)
            refine wl_val hW rfl rfl (x_buildE rfl) ?_
            refine wl_call hW rfl rfl (x_call en29 rfl) ((hTb3.put (e := zz) hy79 zz_ok (by omega) (by omega)).inF hFF) ?_
            rintro _ wP ⟨t2, -, -, -, -, hkP⟩
            replace hB3 := hB3.keep hkP (fun h => by have := (hnb _ h).1; omega)
            replace hB4 := hB4.keep hkP (fun h => by have := (hnb _ h).1; omega)
            replace hB21 := hB21.keep hkP (fun h => by have := (hnb _ h).1; omega)
            replace hB43 := hB43.keep hkP (fun h => by have := (hnb _ h).2; omega)
            replace hB8 := hB8.keep hkP (fun h => by have := (hnb _ h).2; omega)
            replace hE := Keep.after hE hkP (fun k hk h => by have := (hnb k h).1; omega)
            refine wl_nil ?_
            refine nx_then ?_
            have hBqP := (hBq.keep hKc hBq.lt).keep hkP (fun h => by have := (hnb _ h).2; omega)
            have hRqP := ((hRq.mono (A' := fun k => k < wC3.heap.size ∧ k ∉ t.nb) fun k hk h => ⟨hk, h.1⟩).ck (CK.of_keep hKc fun k _ h => h.1)).ck (CK.of_keep hkP fun k _ h => h.2)
            have hRowP := (((hRow.ext hxC).mono (A' := fun k => k < wC3.heap.size ∧ w5.heap.size ≤ k) fun k hk h => ⟨hk, h⟩).ck (CK.of_keep hKc fun k _ h => h.1)).ck (CK.of_keep hkP fun k _ h hm => by have := (hnb _ hm).2; have := h.2; omega)
            have hszPv := hkP.size
            refine wc_seq ?_
            refine wc_seq ?_
            refine wc_region ?_
            refine wl_alloc (cs := [.int .i64 0]) hW rfl rfl Try.zeroValue3 rfl ?_
            intro b13 w13 hl13 hB13 hx13
            have g13 : w.heap.size ≤ b13 := Nat.le_trans hE.size hl13
            have n13_3 : b13 ≠ b3 := Nat.ne_of_gt (Nat.lt_of_lt_of_le hB3.lt hl13)
            replace hB3 := hB3.ext hx13
            have n13_4 : b13 ≠ b4 := Nat.ne_of_gt (Nat.lt_of_lt_of_le hB4.lt hl13)
            replace hB4 := hB4.ext hx13
            have n13_21 : b13 ≠ b21 := Nat.ne_of_gt (Nat.lt_of_lt_of_le hB21.lt hl13)
            replace hB21 := hB21.ext hx13
            have n13_43 : b13 ≠ b43 := Nat.ne_of_gt (Nat.lt_of_lt_of_le hB43.lt hl13)
            replace hB43 := hB43.ext hx13
            have n13_8 : b13 ≠ b8 := Nat.ne_of_gt (Nat.lt_of_lt_of_le hB8.lt hl13)
            replace hB8 := hB8.ext hx13
            replace hE := hE.trans hx13
            refine wl_store hW rfl fl3 rfl rfl rfl hB13 rfl ?_
            intro wT hBS hkS
            replace hB3 := hB3.keep hkS n13_3.symm
            replace hB4 := hB4.keep hkS n13_4.symm
            replace hB21 := hB21.keep hkS n13_21.symm
            replace hB43 := hB43.keep hkS n13_43.symm
            replace hB8 := hB8.keep hkS n13_8.symm
            replace hB13 := hBS
            clear hBS
            replace hE := hE.store hkS g13
            refine wl_nil ?_
            have hXPT : Ext wP wT := Keep.store hx13 hkS hl13
            have hBqT := hBqP.ext hXPT
            have hRqT := (hRqP.mono (A' := fun k => k < wT.heap.size) fun k hk h => by have := hXPT.size; omega).ext hXPT
            have hRowT := (hRowP.mono (A' := fun k => k < wT.heap.size) fun k hk h => by have := hXPT.size; omega).ext hXPT
            have hE0 := hE
            have hB3T := hB3
            have hB4T := hB4
            have hB21T := hB21
            have hB43T := hB43
            have hB8T := hB8
            refine nx_then ?_
            refine wc_block ?_
            refine wc_loopD (σ := Nat × Nat × List Nat) (fun q => q.2.2.map mark) (fun q => [(3, .pointer (some ⟨b3, 0, none⟩)), (4, .pointer (some ⟨b4, 0, none⟩)), (8, .pointer (some ⟨b8, 0, none⟩)), (12, .func (.func 87) #[] #[.pointer (some ⟨bq, 0, none⟩)]), (13, .pointer (some ⟨q.2.1, 0, none⟩))]) (fun q w' => q.1 ≤ 2 ∧ Blk w' q.2.1 [.int .i64 (q.1 : Nat)] 3 ∧ Ext wT w' ∧ Marks q.2.2 w' ∧ ∀ B ∈ q.2.2, wT.heap.size ≤ B) (fun q => 2 - q.1) (0, b13, []) rfl ?_ ?_ ?_
            · exact ⟨Nat.zero_le _, hB13, Keep.refl _ _, ⟨List.nodup_nil, nofun⟩, nofun⟩
            · repeat (first | exact sub_nil | refine sub_cons rfl ?_)
            · rintro ⟨tn, b13, Bs⟩ w3 ⟨htn, hB13, hXT, hMk, hMb⟩
              replace htn : tn ≤ 2 := htn
              replace hB13 : Blk w3 b13 [.int .i64 (tn : Nat)] 3 := hB13
              replace hMk : Marks Bs w3 := hMk
              replace hMb : ∀ B ∈ Bs, wT.heap.size ≤ B := hMb
              have hE : Ext w w3 := hE0.trans hXT
              have hB3 := hB3T.ext hXT
              have hB4 := hB4T.ext hXT
              have hB21 := hB21T.ext hXT
              have hB43 := hB43T.ext hXT
              have hB8 := hB8T.ext hXT
              have hszT := hXT.size
              refine wc_seq ?_
              refine wc_seq ?_
              refine wc_region ?_
              refine wl_val hW rfl rfl (x_load fl3 rfl (hB13.cell rfl)) ?_
              refine wl_val hW rfl rfl (x_lss rfl rfl) ?_
              refine wl_nil ?_
              refine nx_then ?_
              refine wc_dec rfl (fun hc => ?_) (fun hc => ?_)
              · refine wc_skip ?_
                refine nx_then ?_
                refine wc_seq ?_
                refine wc_block ?_
                refine wc_seq ?_
                refine wc_region ?_
                refine wl_alloc (cs := [.int .i64 0]) hW rfl rfl Try.zeroValue3 rfl ?_
                intro b14 w14 hl14 hB14 hx14
                have g14 : w.heap.size ≤ b14 := Nat.le_trans hE.size hl14
                have n14_3 : b14 ≠ b3 := Nat.ne_of_gt (Nat.lt_of_lt_of_le hB3.lt hl14)
                replace hB3 := hB3.ext hx14
                have n14_4 : b14 ≠ b4 := Nat.ne_of_gt (Nat.lt_of_lt_of_le hB4.lt hl14)
                replace hB4 := hB4.ext hx14
                have n14_21 : b14 ≠ b21 := Nat.ne_of_gt (Nat.lt_of_lt_of_le hB21.lt hl14)
                replace hB21 := hB21.ext hx14
                have n14_43 : b14 ≠ b43 := Nat.ne_of_gt (Nat.lt_of_lt_of_le hB43.lt hl14)
                replace hB43 := hB43.ext hx14
                have n14_8 : b14 ≠ b8 := Nat.ne_of_gt (Nat.lt_of_lt_of_le hB8.lt hl14)
                replace hB8 := hB8.ext hx14
                have n14_13 : b14 ≠ b13 := Nat.ne_of_gt (Nat.lt_of_lt_of_le hB13.lt hl14)
                replace hB13 := hB13.ext hx14
                replace hE := hE.trans hx14
                refine wl_store hW rfl fl3 rfl rfl rfl hB14 rfl ?_
                intro wN hBS hkS
                replace hB3 := hB3.keep hkS n14_3.symm
                replace hB4 := hB4.keep hkS n14_4.symm
                replace hB21 := hB21.keep hkS n14_21.symm
                replace hB43 := hB43.keep hkS n14_43.symm
                replace hB8 := hB8.keep hkS n14_8.symm
                replace hB13 := hB13.keep hkS n14_13.symm
                replace hB14 := hBS
                clear hBS
                replace hE := hE.store hkS g14
                have hXN : Ext wT wN := Keep.store (hXT.trans hx14) hkS (by omega)
                have hMN := hMk.ext (Keep.store hx14 hkS hl14)
                have hl4N := hB4.lt
                have hl14N := hB14.lt
                have hl13N := hB13.lt
                have hszN := hXN.size
                have hBqN := hBqT.ext hXN
                have hRqN := hRqT.ext hXN
                have hRowN := hRowT.ext hXN
                refine wl_nil ?_
                refine nx_then ?_
                refine wc_seq ?_
                refine wc_seq ?_
                refine wc_region ?_
                refine wl_val hW rfl rfl (x_move rfl) ?_
                refine wl_nil ?_
                refine nx_then ?_
                refine wc_block ?_
                refine wc_rangeB (id := 6) (α := Ent × Value) (σ := Nat) (fun x => .agg (cellsOf x.1 x.2).toArray) (fun k => k < wN.heap.size ∧ k ≠ b14) (fun x W => FB wN.heap.size W x.2 x.1.v ∧ EntOk x.1) (fun xs => xs.map (·.1) = t.E) (fun pre => pre.map (·.1) <+: t.E) (t.E.length + 1) rfl en87 rfl (C87 hRqN hBqN (fun k h ho => ⟨h, by omega⟩) ⟨hBqN.lt, by have := hBqT.lt; omega⟩) (fun k h => h.1) (fun x A B h hn => ⟨h.1.nc hn, h.2⟩) (fun pre W => Keep (· ≠ b14) wN W ∧ Blk W b14 [.int .i64 (pre.length : Nat)] 3) (fun c pre W => (c = .exit 6 ∧ tn = 0 ∧ Keep (· ≠ b14) wN W ∧ ∃ nn : Nat, Blk W b14 [.int .i64 (nn : Nat)] 3) ∨ ¬ pre.map (·.1) <+: t.E) (fun s A B h hn => ⟨Keep.nc h.1 hn (Nat.le_refl _), h.2.nc hn⟩) (fun c s A B h hn => h.elim (fun ⟨h1, h2, h3, nn, h4⟩ => .inl ⟨h1, h2, Keep.nc h3 hn (Nat.le_refl _), nn, h4.nc hn⟩) .inr) ⟨Keep.refl _ _, hB14⟩ (fun x b15 A => wN.heap.size ≤ b15 ∧ Blk A b15 (cellsOf x.1 x.2) 25) (fun x s A B h hn => ⟨h.1, h.2.nc hn⟩) (fun x b15 => [(3, .pointer (some ⟨b3, 0, none⟩)), (4, .pointer (some ⟨b4, 0, none⟩)), (8, .pointer (some ⟨b8, 0, none⟩)), (13, .pointer (some ⟨b13, 0, none⟩)), (14, .pointer (some ⟨b14, 0, none⟩)), (15, .pointer (some ⟨b15, 0, none⟩))]) ?_ ?_ ?_ ?_
                ·
                  intro l pre x A K hI hyp hK
                  have hW := hWw.round l
                  have hsA := hI.1.size
                  have hE : Ext A A := Keep.refl _ _
                  obtain ⟨ax, cx, hxv⟩ := hyp.1.form
                  have hone := cells_one (e := x.1) (bv := x.2) (by rw [hxv]; rfl)
                  refine wc_region ?_
                  refine wl_alloc (cs := [.string ⟨#[]⟩, .int .u64 0, .bool false, .slice none 0 0]) hW rfl rfl Try.zeroValue25 rfl ?_
                  intro b15 w15 hl15 hB15 hx15
                  have g15 : A.heap.size ≤ b15 := hl15
                  replace hE := hE.trans hx15
                  refine wl_storeA hW rfl ag25 rfl rfl hone rfl hB15 rfl ?_
                  intro wS hBS hkS
                  replace hB15 := hBS
                  clear hBS
                  replace hE := hE.store hkS g15
                  refine wl_nil ?_
                  exact fun a ha => hK b15 wS hE ⟨by omega, hB15⟩ a (ha.sub (by repeat (first | exact sub_nil | refine sub_cons rfl ?_)))
                ·
                  intro l pre x b15 A hI hyp hAs hlt
                  obtain ⟨hKA, hB14⟩ := hI
                  obtain ⟨hb15, hB15⟩ := hAs
                  replace hB3 := hB3.keep hKA n14_3.symm
                  replace hB4 := hB4.keep hKA n14_4.symm
                  replace hB21 := hB21.keep hKA n14_21.symm
                  replace hB43 := hB43.keep hKA n14_43.symm
                  replace hB8 := hB8.keep hKA n14_8.symm
                  replace hB13 := hB13.keep hKA n14_13.symm
                  have hRowA := hRowN.ck (CK.of_keep hKA fun k _ h => by omega)
                  have hE : Ext A A := Keep.refl _ _
                  have hsA := hKA.size
                  have hW := hWw.round l
                  have hFF := hFr l
                  refine wc_block ?_
                  refine wc_seq ?_
                  refine wc_seq ?_
                  refine wc_cutE (σ := Bool) (fun u => [(3, .pointer (some ⟨b3, 0, none⟩)), (4, .pointer (some ⟨b4, 0, none⟩)), (13, .pointer (some ⟨b13, 0, none⟩)), (14, .pointer (some ⟨b14, 0, none⟩)), (107, .bool u)]) (fun u w' => Ext A w' ∧ (u = true → ¬ (pre ++ [x]).map (·.1) <+: t.E)) ?_ ?_
                  · refine wc_draw' 16 hW mixed (by kernel_rfl) (fun w0 hx0 => ?_)
                    replace hB3 := hB3.ext hx0
                    replace hB4 := hB4.ext hx0
                    replace hB21 := hB21.ext hx0
                    replace hB43 := hB43.ext hx0
                    replace hB8 := hB8.ext hx0
                    replace hB13 := hB13.ext hx0
                    replace hB14 := hB14.ext hx0
                    replace hB15 := hB15.ext hx0
                    replace hE := hE.trans hx0
                    refine q_val rfl rfl (fun _ hx => x_load fl3 rfl (hx.cell (hB14.cell (o := 0) rfl))) ?_
                    refine q_val rfl rfl (fun _ hx => x_load fl51 rfl (hx.cell (hB8.cell (o := 0) rfl))) ?_
                    refine q_val rfl rfl (fun _ hx => x_nilCheck rfl) ?_
                    refine q_val rfl rfl (fun _ hx => x_fieldAddr Try.underlying53 rfl fl26.siz rfl) ?_
                    refine q_val rfl rfl (fun _ hx => x_load fl26 rfl ((hB43.ext hx).cell rfl)) ?_
                    refine q_val rfl rfl (fun _ hx => x_len Try.underlying26 rfl) ?_
                    refine q_val rfl rfl (fun _ hx => x_geq rfl rfl) ?_
                    refine q_val rfl rfl (fun _ hx => x_move rfl) ?_
                    refine q_dcases (d := 96) rfl (fun hg96 => ?_) (fun hg96 => ?_)
                    · refine q_off rfl rfl ?_
                      refine q_off rfl rfl ?_
                      refine q_off rfl rfl ?_
                      refine q_off rfl rfl ?_
                      refine q_off rfl rfl ?_
                      refine q_off rfl rfl ?_
                      refine q_off rfl rfl ?_
                      refine q_off rfl rfl ?_
                      refine q_nil (tail0 (fun wt hxt => ?_))
                      replace hB3 := hB3.ext hxt
                      replace hB4 := hB4.ext hxt
                      replace hB21 := hB21.ext hxt
                      replace hB43 := hB43.ext hxt
                      replace hB8 := hB8.ext hxt
                      replace hB13 := hB13.ext hxt
                      replace hB14 := hB14.ext hxt
                      replace hB15 := hB15.ext hxt
                      replace hE := hE.trans hxt
                      refine wl_off hW rfl rfl ?_
                      refine wl_off hW rfl rfl ?_
                      refine wl_val hW rfl rfl (x_pickT rfl rfl) ?_
                      refine wl_nil ?_
                      exact nx_cutE true (by repeat (first | exact sub_nil | refine sub_cons rfl ?_)) ⟨hE, fun _ hp => by have h1 := hp.length_le; simp at h1; omega⟩
                    · have hpl : pre.length < r.L.length := by omega
                      obtain ⟨bb9, oo9, cc9, bvr, e9, -, hC103, hbr, -⟩ := (hRowA.ext hx0).at pre.length hpl
                      cases e9
                      refine q_val rfl rfl (fun _ hx => x_loadA ag25 rfl (hB15.ext hx).cells rfl) ?_
                      refine q_val rfl rfl (fun _ hx => x_load fl51 rfl (hx.cell (hB8.cell (o := 0) rfl))) ?_
                      refine q_val rfl rfl (fun _ hx => x_nilCheck rfl) ?_
                      refine q_val rfl rfl (fun _ hx => x_fieldAddr Try.underlying53 rfl fl26.siz rfl) ?_
                      refine q_val rfl rfl (fun _ hx => x_load fl26 rfl ((hB43.ext hx).cell rfl)) ?_
                      refine q_val rfl rfl (fun _ hx => x_load fl3 rfl (hx.cell (hB14.cell (o := 0) rfl))) ?_
                      refine q_val rfl rfl (fun _ hx => x_indexAddr Try.underlying26 ag25.siz rfl rfl (by omega) (by omega)) ?_
                      refine q_val rfl rfl (fun _ hx => x_loadA ag25 rfl (hC103.ext hx) rfl) ?_
                      refine q_nil (tail0 (fun wt hxt => ?_))
                      replace hB3 := hB3.ext hxt
                      replace hB4 := hB4.ext hxt
                      replace hB21 := hB21.ext hxt
                      replace hB43 := hB43.ext hxt
                      replace hB8 := hB8.ext hxt
                      replace hB13 := hB13.ext hxt
                      replace hB14 := hB14.ext hxt
                      replace hB15 := hB15.ext hxt
                      replace hE := hE.trans hxt
                      refine wl_call hW rfl rfl (x_call en38 rfl) ((C38 (A := fun _ => True) (((hyp.1.ext hx0).ext hxt).byts.mono fun _ _ _ => trivial) ((hbr.ext hxt).mono fun _ _ _ => trivial)).inF hFF) ?_
                      rintro _ wC ⟨rfl, hxC⟩
                      replace hB3 := hB3.ext hxC
                      replace hB4 := hB4.ext hxC
                      replace hB21 := hB21.ext hxC
                      replace hB43 := hB43.ext hxC
                      replace hB8 := hB8.ext hxC
                      replace hB13 := hB13.ext hxC
                      replace hB14 := hB14.ext hxC
                      replace hB15 := hB15.ext hxC
                      replace hE := hE.trans hxC
                      refine wl_val hW rfl rfl (x_not rfl) ?_
                      refine wl_val hW rfl rfl (x_pickF rfl rfl) ?_
                      refine wl_nil ?_
                      exact nx_cutE (!(sameB x.1 r.L[pre.length])) (by repeat (first | exact sub_nil | refine sub_cons rfl ?_)) ⟨hE, fun hu hp => by rw [← hrt] at hp; rw [pre_at hp hpl, sameB_iff.2 rfl] at hu; cases hu⟩
                  · rintro u w' ⟨hE, hu⟩
                    replace hB3 := hB3.ext hE
                    replace hB4 := hB4.ext hE
                    replace hB21 := hB21.ext hE
                    replace hB43 := hB43.ext hE
                    replace hB8 := hB8.ext hE
                    replace hB13 := hB13.ext hE
                    replace hB14 := hB14.ext hE
                    refine nx_then ?_
                    refine wc_bool rfl (fun hc => ?_) (fun hc => ?_)
                    · refine wc_seq ?_
                      refine wc_region ?_
                      refine wl_store hW rfl fl4 rfl rfl rfl hB4 rfl ?_
                      intro wS hBS hkS
                      replace hB4 := hBS
                      clear hBS
                      refine wl_nil ?_
                      refine nx_then ?_
                      refine wc_ret ?_
                      refine nx_then_ret ?_
                      refine nx_block_ret ?_
                      exact round_ret (S' := fun k => k ≠ b4) ((Keep.of_ext hE).trans hkS) (fun k o hk _ _ => by omega) (.inr (hu hc))
                    · refine wc_skip ?_
                      refine nx_then ?_
                      refine wc_seq ?_
                      refine wc_region ?_
                      refine wl_val hW rfl rfl (x_load fl3 rfl (hB14.cell (o := 0) rfl)) ?_
                      refine wl_val hW rfl rfl (x_inc (s := pre.length) rfl (by omega)) ?_
                      refine wl_store hW rfl fl3 rfl rfl rfl hB14 rfl ?_
                      intro wS hBS hkS
                      replace hB3 := hB3.keep hkS n14_3.symm
                      replace hB4 := hB4.keep hkS n14_4.symm
                      replace hB21 := hB21.keep hkS n14_21.symm
                      replace hB43 := hB43.keep hkS n14_43.symm
                      replace hB8 := hB8.keep hkS n14_8.symm
                      replace hB13 := hB13.keep hkS n14_13.symm
                      replace hB14 := hBS
                      clear hBS
                      have hKS : Keep (· ≠ b14) A wS := (Keep.of_ext hE).trans hkS
                      refine wl_nil ?_
                      refine nx_then ?_
                      refine wc_seq ?_
                      refine wc_cutE (σ := Bool) (fun u2 => [(4, .pointer (some ⟨b4, 0, none⟩)), (116, .bool u2)]) (fun u2 w' => w' = wS ∧ (u2 = true → tn = 0)) ?_ ?_
                      · refine wc_region ?_
                        refine wl_val hW rfl rfl (x_load fl3 rfl (hB13.cell rfl)) ?_
                        refine wl_val hW rfl rfl (x_eql rfl rfl) ?_
                        refine wl_val hW rfl rfl (x_move rfl) ?_
                        refine wl_dcases (d := 112) rfl (fun hg112 => ?_) (fun hg112 => ?_)
                        · refine wl_val hW rfl rfl (x_load fl3 rfl (hB14.cell (o := 0) rfl)) ?_
                          refine wl_val hW rfl rfl (x_load fl3 rfl (hB3.cell (o := 0) rfl)) ?_
                          refine wl_val hW rfl rfl (x_gtr rfl rfl) ?_
                          refine wl_val hW rfl rfl (x_pickT rfl rfl) ?_
                          refine wl_nil ?_
                          exact nx_cutE (decide (st < ((pre.length + 1 : Nat) : Int))) (by repeat (first | exact sub_nil | refine sub_cons rfl ?_)) ⟨rfl, fun _ => by omega⟩
                        · refine wl_off hW rfl rfl ?_
                          refine wl_off hW rfl rfl ?_
                          refine wl_off hW rfl rfl ?_
                          refine wl_val hW rfl rfl (x_pickF rfl rfl) ?_
                          refine wl_nil ?_
                          exact nx_cutE false (by repeat (first | exact sub_nil | refine sub_cons rfl ?_)) ⟨rfl, fun h => by cases h⟩
                      · rintro u2 w' ⟨rfl, hu2⟩
                        refine nx_then ?_
                        refine wc_bool rfl (fun hc => ?_) (fun hc => ?_)
                        · refine wc_exit ?_
                          refine nx_block_other rfl ?_
                          exact round_exit (S' := fun k => k ≠ b14) hKS (fun k o hk _ _ => by omega) (.inl ⟨rfl, hu2 hc, hKA.trans hKS, pre.length + 1, hB14⟩)
                        · refine wc_skip ?_
                          refine nx_block ?_
                          exact round_normal (S' := fun k => k ≠ b14) hKS (fun k h => h.2) (fun k o hk _ _ => by omega) ⟨hKA.trans hKS, by rw [List.length_append]; exact hB14⟩
                ·
                  rintro B W hBB hcase hk
                  have hfin : ∃ nn : Nat, Blk W b14 [.int .i64 (nn : Nat)] 3 ∧ Keep (· ≠ b14) wN W ∧ (tn = 1 → nn = t.E.length) := by
                    rcases hcase with ⟨xs, h1, h2, h3⟩ | ⟨pre, h1, h2⟩
                    · exact ⟨xs.length, h3, h2, fun _ => by have := congrArg List.length h1; simpa using this⟩
                    · rcases h2 with ⟨-, h3, h4, nn, h5⟩ | h2
                      · exact ⟨nn, h5, h4, fun h => by omega⟩
                      · exact absurd h1 h2
                  have hB14N := hB14
                  obtain ⟨nn, hB14, hKW, hnn⟩ := hfin
                  replace hB3 := hB3.keep hKW n14_3.symm
                  replace hB4 := hB4.keep hKW n14_4.symm
                  replace hB21 := hB21.keep hKW n14_21.symm
                  replace hB43 := hB43.keep hKW n14_43.symm
                  replace hB8 := hB8.keep hKW n14_8.symm
                  replace hB13 := hB13.keep hKW n14_13.symm
                  replace hE : Ext w W := Keep.store hE hKW g14
                  have hEW := hE
                  refine nx_then ?_
                  refine wc_seq ?_
                  refine wc_cut [(3, .pointer (some ⟨b3, 0, none⟩)), (4, .pointer (some ⟨b4, 0, none⟩)), (8, .pointer (some ⟨b8, 0, none⟩)), (12, .func (.func 87) #[] #[.pointer (some ⟨bq, 0, none⟩)]), (13, .pointer (some ⟨b13, 0, none⟩)), (127, .bool false)] (fun w' => Ext W w') ?_ ?_
                  · refine wc_draw' 9 hW mixed (by kernel_rfl) (fun w0 hx0 => ?_)
                    replace hB3 := hB3.ext hx0
                    replace hB4 := hB4.ext hx0
                    replace hB21 := hB21.ext hx0
                    replace hB43 := hB43.ext hx0
                    replace hB8 := hB8.ext hx0
                    replace hB13 := hB13.ext hx0
                    replace hB14 := hB14.ext hx0
                    replace hE := hE.trans hx0
                    refine q_val rfl rfl (fun _ hx => x_load fl3 rfl (hx.cell (hB13.cell (o := 0) rfl))) ?_
                    refine q_val rfl rfl (fun _ hx => x_eql rfl rfl) ?_
                    refine q_val rfl rfl (fun _ hx => x_move rfl) ?_
                    refine q_dcases (d := 119) rfl (fun hg119 => ?_) (fun hg119 => ?_)
                    · refine q_val rfl rfl (fun _ hx => x_load fl3 rfl (hx.cell (hB14.cell (o := 0) rfl))) ?_
                      refine q_val rfl rfl (fun _ hx => x_load fl51 rfl (hx.cell (hB8.cell (o := 0) rfl))) ?_
                      refine q_val rfl rfl (fun _ hx => x_nilCheck rfl) ?_
                      refine q_val rfl rfl (fun _ hx => x_fieldAddr Try.underlying53 rfl fl26.siz rfl) ?_
                      refine q_val rfl rfl (fun _ hx => x_load fl26 rfl ((hB43.ext hx).cell rfl)) ?_
                      refine q_val rfl rfl (fun _ hx => x_len Try.underlying26 rfl) ?_
                      refine q_nil (tail0 (fun wt hxt => ?_))
                      replace hB3 := hB3.ext hxt
                      replace hB4 := hB4.ext hxt
                      replace hB21 := hB21.ext hxt
                      replace hB43 := hB43.ext hxt
                      replace hB8 := hB8.ext hxt
                      replace hB13 := hB13.ext hxt
                      replace hB14 := hB14.ext hxt
                      replace hE := hE.trans hxt
                      refine wl_val hW rfl rfl (x_neqF rfl rfl (by rw [hnn (by omega), hrt])) ?_
                      refine wl_val hW rfl rfl (x_pickT rfl rfl) ?_
                      refine wl_nil ?_
                      exact nx_cut (by repeat (first | exact sub_nil | refine sub_cons rfl ?_)) (hx0.trans hxt)
                    · refine q_off rfl rfl ?_
                      refine q_off rfl rfl ?_
                      refine q_off rfl rfl ?_
                      refine q_off rfl rfl ?_
                      refine q_off rfl rfl ?_
                      refine q_off rfl rfl ?_
                      refine q_nil (tail0 (fun wt hxt => ?_))
                      replace hB3 := hB3.ext hxt
                      replace hB4 := hB4.ext hxt
                      replace hB21 := hB21.ext hxt
                      replace hB43 := hB43.ext hxt
                      replace hB8 := hB8.ext hxt
                      replace hB13 := hB13.ext hxt
                      replace hB14 := hB14.ext hxt
                      replace hE := hE.trans hxt
                      refine wl_off hW rfl rfl ?_
                      refine wl_val hW rfl rfl (x_pickF rfl rfl) ?_
                      refine wl_nil ?_
                      exact nx_cut (by repeat (first | exact sub_nil | refine sub_cons rfl ?_)) (hx0.trans hxt)
                  · rintro w' hxW
                    replace hB13 := hB13.ext hxW
                    replace hE := hE.trans hxW
                    refine nx_then ?_
                    refine wc_false rfl ?_
                    refine wc_skip ?_
                    refine nx_block ?_
                    refine nx_then ?_
                    refine wc_seq ?_
                    refine wc_seq ?_
                    refine wc_region ?_
                    refine wl_val hW rfl rfl (x_load fl3 rfl (hB13.cell rfl)) ?_
                    refine wl_nil ?_
                    refine nx_then ?_
                    refine wc_region ?_
                    refine wl_alloc (cs := [.int .i64 0]) hW rfl rfl Try.zeroValue3 rfl ?_
                    intro c13 w13 hl13 hC13 hx13
                    have g13 : w.heap.size ≤ c13 := Nat.le_trans hE.size hl13
                    replace hE := hE.trans hx13
                    refine wl_store hW rfl fl3 rfl rfl rfl hC13 rfl ?_
                    intro wS hBS hkS
                    replace hC13 := hBS
                    clear hBS
                    replace hE := hE.store hkS g13
                    refine wl_nil ?_
                    refine nx_then ?_
                    refine wc_region ?_
                    refine wl_val hW rfl rfl (x_load fl3 rfl (hC13.cell (o := 0) rfl)) ?_
                    refine wl_val hW rfl rfl (x_inc (s := tn) rfl (by omega)) ?_
                    refine wl_store hW rfl fl3 rfl rfl rfl hC13 rfl ?_
                    intro wS2 hBS hkS2
                    replace hC13 := hBS
                    clear hBS
                    replace hE := hE.store hkS2 g13
                    refine wl_nil ?_
                    have hXW2 : Ext W wS2 := Keep.store (Keep.store (hxW.trans hx13) hkS (by have := hxW.size; omega)) hkS2 (by have := hxW.size; omega)
                    have hMW := ((hMN.keep hKW hB14N).cons hk (fun h => by have := hMN.lt h; omega)).ext hXW2
                    exact nx_nextD (tn + 1, c13, B :: Bs) (by dsimp only; omega) rfl ⟨by dsimp only; omega, hC13, (Keep.store hXN hKW (by omega)).trans hXW2, hMW, fun C hC => by rcases List.mem_cons.1 hC with rfl | hC; omega; exact hMb C hC⟩ (by repeat (first | exact sub_nil | refine sub_cons rfl ?_))
                · exact fun c pre W h1 h2 => h2.elim (fun h => h.1) (fun h => absurd h1 h)
              · refine wc_exit ?_
                refine nx_then_exit ?_
                refine nx_then_exit ?_
                refine nx_block_exit ?_
                refine nx_then ?_
                refine wc_seq ?_
                refine wc_region ?_
                refine wl_store hW rfl fl4 rfl rfl rfl hB4 rfl ?_
                intro wS hBS hkS
                have hMS := hMk.keep hkS hB4
                replace hB4 := hBS
                clear hBS
                replace hE := hE.store hkS g4
                refine wl_nil ?_
                refine nx_then ?_
                refine wc_ret ?_
                exact ends_ret_marks (Bs := Bs) hMS (res_cell Try.results7 rfl (run_loadVar_cell fl4 ((takeAll_blk Bs _ hMS hB4).cell (o := 0) rfl))) ⟨rfl, takeAll_keep Bs _ hMS (fun C hC => by have := hMb C hC; have := hE0.size; omega) hE⟩
end Go.Proofs.Ytblbddamebbgaaa.K

