/- Walk: what a command makes of a configuration. -/
import Derived.Test.YtiaikajibefieaaTl
namespace Go.Proofs.Ytiaikajibefieaa.K
open Go Go.RowKit
set_option linter.unusedVariables false
set_option linter.unusedSimpArgs false
theorem C8 {A A2 : Nat → Prop} {w : World} {cv sv : Value} {e : Int} {ms : List Mb} {zs : List Int} {x : Cm} (hR : MRow A w cv ms) (hI : IRow A2 w sv zs) :
    Rt Try.prog 8 [.agg #[.int .i64 e, cv, sv], .agg (cellsC x).toArray] w fun r w' => (∃ cv' sv', r = .tuple #[.agg #[.int .i64 (doF e ms zs x).2.1, cv', sv'], .int .i64 (doF e ms zs x).1] ∧ MOwn w.heap.size w' cv' (doF e ms zs x).2.2.1 ∧ IOwn w.heap.size w' sv' (doF e ms zs x).2.2.2) ∧ Ext w w' := by
  have hW := hWw
  have hFF := hFw
  have hE : Ext w w := Keep.refl _ _
  refine rt_body Try.func8 rfl Try.ntmps8 rfl ?_
  refine wc_seq ?_
  refine wc_region ?_
  refine wl_box hW rfl rfl rfl rfl ?_
  intro b2 w2 hl2 hB2 hx2
  have g2 : w.heap.size ≤ b2 := Nat.le_trans hE.size hl2
  replace hE := hE.trans hx2
  refine wl_box hW rfl rfl rfl rfl ?_
  intro b3 w3 hl3 hB3 hx3
  have g3 : w.heap.size ≤ b3 := Nat.le_trans hE.size hl3
  have n3_2 : b3 ≠ b2 := Nat.ne_of_gt (Nat.lt_of_lt_of_le hB2.lt hl3)
  replace hB2 := hB2.ext hx3
  replace hE := hE.trans hx3
  refine wl_alloc (cs := [.int .i64 0, .slice none 0 0, .slice none 0 0]) hW rfl rfl Try.zeroValue27 rfl ?_
  intro b4 w4 hl4 hB4 hx4
  have g4 : w.heap.size ≤ b4 := Nat.le_trans hE.size hl4
  have n4_2 : b4 ≠ b2 := Nat.ne_of_gt (Nat.lt_of_lt_of_le hB2.lt hl4)
  replace hB2 := hB2.ext hx4
  have n4_3 : b4 ≠ b3 := Nat.ne_of_gt (Nat.lt_of_lt_of_le hB3.lt hl4)
  replace hB3 := hB3.ext hx4
  replace hE := hE.trans hx4
  refine wl_val hW rfl rfl (x_assign rfl) ?_
  refine wl_nil ?_
  refine nx_then ?_
  refine wc_seq ?_
  refine wc_seq ?_
  refine wc_region ?_
  refine wl_val hW rfl rfl (x_loadA ag27 rfl hB2.cells rfl) ?_
  refine wl_call hW rfl rfl (x_call en9 rfl) ((C9 (hR.ext hE) (hI.ext hE)).inF hFF) ?_
  rintro _ wC ⟨rfl, hxC⟩
  replace hB2 := hB2.ext hxC
  replace hB3 := hB3.ext hxC
  replace hB4 := hB4.ext hxC
  replace hE := hE.trans hxC
  refine wl_val hW rfl rfl (x_assign rfl) ?_
  refine wl_nil ?_
  refine nx_then ?_
  refine wc_seq ?_
  refine wc_region ?_
  refine wl_val hW rfl rfl (x_move rfl) ?_
  refine wl_val hW rfl rfl (x_neq rfl rfl) ?_
  refine wl_nil ?_
  refine nx_then ?_
  refine wc_dec rfl (fun hc => ?_) (fun hc => ?_)
  · have hck : checkB e ms zs = false := by cases h : checkB e ms zs; rfl; (rw [h] at hc; exact absurd rfl hc)
    have hdo : doF e ms zs x = R0 1 := by unfold doF; rw [hck]; rfl
    refine wc_seq ?_
    refine wc_region ?_
    refine wl_val hW rfl rfl (x_build27z) ?_
    refine wl_val hW rfl rfl (x_move rfl) ?_
    refine wl_storeA hW rfl ag27 rfl rfl rfl rfl hB4 rfl ?_
    intro wS hBS hkS
    replace hB2 := hB2.keep hkS n4_2.symm
    replace hB3 := hB3.keep hkS n4_3.symm
    replace hB4 := hBS
    clear hBS
    replace hE := hE.store hkS g4
    refine wl_val hW rfl rfl (x_assign rfl) ?_
    refine wl_nil ?_
    refine nx_then ?_
    refine wc_ret ?_
    refine nx_then_ret ?_
    exact ends_ret (res_cell_tmp Try.results8 rfl (run_loadVar_cells ag27 hB4.cells rfl) rfl) ⟨⟨_, _, by rw [hdo, hck]; rfl, by rw [hdo]; exact gown_nil, by rw [hdo]; exact gown_nil⟩, hE⟩
  · have hck : checkB e ms zs = true := by cases h : checkB e ms zs; (rw [h] at hc; exact absurd (by decide) hc); rfl
    have hV := check_iff.1 hck
    refine wc_skip ?_
    refine nx_then ?_
    refine wc_seq ?_
    refine wc_seq ?_
    refine wc_cut [(2, .pointer (some ⟨b2, 0, none⟩)), (3, .pointer (some ⟨b3, 0, none⟩)), (4, .pointer (some ⟨b4, 0, none⟩)), (46, .bool (badX e x))] (fun w' => Ext w w' ∧ Blk w' b2 [.int .i64 e, cv, sv] 27 ∧ Blk w' b3 (cellsC x) 32 ∧ Blk w' b4 [.int .i64 0, .slice none 0 0, .slice none 0 0] 27) ?_ ?_
    · refine wc_region ?_
      refine wl_val hW rfl rfl (x_fieldAddr Try.underlying32 rfl fl3.siz rfl) ?_
      refine wl_val hW rfl rfl (x_load fl3 rfl (hB3.cell (o := 0) rfl)) ?_
      refine wl_val hW rfl rfl (x_lss rfl rfl) ?_
      refine wl_val hW rfl rfl (x_move rfl) ?_
      refine wl_dcases (d := 20) rfl (fun hg20 => ?_) (fun hg20 => ?_)
      · refine wl_off hW rfl rfl ?_
        refine wl_off hW rfl rfl ?_
        refine wl_off hW rfl rfl ?_
        refine wl_val hW rfl rfl (x_pickT rfl rfl) ?_
        refine wl_val hW rfl rfl (x_move rfl) ?_
        refine wl_off hW rfl rfl ?_
        refine wl_off hW rfl rfl ?_
        refine wl_off hW rfl rfl ?_
        refine wl_off hW rfl rfl ?_
        refine wl_val hW rfl rfl (x_pickT rfl rfl) ?_
        refine wl_val hW rfl rfl (x_move rfl) ?_
        refine wl_off hW rfl rfl ?_
        refine wl_off hW rfl rfl ?_
        refine wl_off hW rfl rfl ?_
        refine wl_off hW rfl rfl ?_
        refine wl_val hW rfl rfl (x_pickT rfl rfl) ?_
        refine wl_val hW rfl rfl (x_move rfl) ?_
        refine wl_off hW rfl rfl ?_
        refine wl_off hW rfl rfl ?_
        refine wl_off hW rfl rfl ?_
        refine wl_off hW rfl rfl ?_
        refine wl_off hW rfl rfl ?_
        refine wl_off hW rfl rfl ?_
        refine wl_off hW rfl rfl ?_
        refine wl_off hW rfl rfl ?_
        refine wl_val hW rfl rfl (x_pickT rfl rfl) ?_
        refine wl_nil ?_
        exact nx_cut (by rw [show badX e x = true from by unfold badX; rw [decide_eq_true hg20]; rfl]; repeat (first | exact sub_nil | refine sub_cons rfl ?_)) ⟨hE, hB2, hB3, hB4⟩
      · refine wl_val hW rfl rfl (x_fieldAddr Try.underlying32 rfl fl3.siz rfl) ?_
        refine wl_val hW rfl rfl (x_load fl3 rfl (hB3.cell (o := 0) rfl)) ?_
        refine wl_val hW rfl rfl (x_gtr rfl rfl) ?_
        refine wl_val hW rfl rfl (x_pickF rfl rfl) ?_
        refine wl_val hW rfl rfl (x_move rfl) ?_
        refine wl_dcases (d := 25) rfl (fun hg25 => ?_) (fun hg25 => ?_)
        · refine wl_off hW rfl rfl ?_
          refine wl_off hW rfl rfl ?_
          refine wl_off hW rfl rfl ?_
          refine wl_off hW rfl rfl ?_
          refine wl_val hW rfl rfl (x_pickT rfl rfl) ?_
          refine wl_val hW rfl rfl (x_move rfl) ?_
          refine wl_off hW rfl rfl ?_
          refine wl_off hW rfl rfl ?_
          refine wl_off hW rfl rfl ?_
          refine wl_off hW rfl rfl ?_
          refine wl_val hW rfl rfl (x_pickT rfl rfl) ?_
          refine wl_val hW rfl rfl (x_move rfl) ?_
          refine wl_off hW rfl rfl ?_
          refine wl_off hW rfl rfl ?_
          refine wl_off hW rfl rfl ?_
          refine wl_off hW rfl rfl ?_
          refine wl_off hW rfl rfl ?_
          refine wl_off hW rfl rfl ?_
          refine wl_off hW rfl rfl ?_
          refine wl_off hW rfl rfl ?_
          refine wl_val hW rfl rfl (x_pickT rfl rfl) ?_
          refine wl_nil ?_
          exact nx_cut (by rw [show badX e x = true from by unfold badX; rw [decide_eq_true hg25]; simp]; repeat (first | exact sub_nil | refine sub_cons rfl ?_)) ⟨hE, hB2, hB3, hB4⟩
        · refine wl_val hW rfl rfl (x_fieldAddr Try.underlying32 rfl fl3.siz rfl) ?_
          refine wl_val hW rfl rfl (x_load fl3 rfl (hB3.cell (o := 1) rfl)) ?_
          refine wl_call hW rfl rfl (x_call en20 rfl) ((C20).inF hFF) ?_
          rintro _ wC ⟨rfl, hxC⟩
          replace hB2 := hB2.ext hxC
          replace hB3 := hB3.ext hxC
          replace hB4 := hB4.ext hxC
          replace hE := hE.trans hxC
          refine wl_val hW rfl rfl (x_not rfl) ?_
          refine wl_val hW rfl rfl (x_pickF rfl rfl) ?_
          refine wl_val hW rfl rfl (x_move rfl) ?_
          refine wl_bcases (d := 31) rfl (fun hg31 => ?_) (fun hg31 => ?_)
          · refine wl_off hW rfl rfl ?_
            refine wl_off hW rfl rfl ?_
            refine wl_off hW rfl rfl ?_
            refine wl_off hW rfl rfl ?_
            refine wl_val hW rfl rfl (x_pickT rfl rfl) ?_
            refine wl_val hW rfl rfl (x_move rfl) ?_
            refine wl_off hW rfl rfl ?_
            refine wl_off hW rfl rfl ?_
            refine wl_off hW rfl rfl ?_
            refine wl_off hW rfl rfl ?_
            refine wl_off hW rfl rfl ?_
            refine wl_off hW rfl rfl ?_
            refine wl_off hW rfl rfl ?_
            refine wl_off hW rfl rfl ?_
            refine wl_val hW rfl rfl (x_pickT rfl rfl) ?_
            refine wl_nil ?_
            exact nx_cut (by rw [show badX e x = true from by unfold badX; rw [hg31]; simp]; repeat (first | exact sub_nil | refine sub_cons rfl ?_)) ⟨hE, hB2, hB3, hB4⟩
          · refine wl_val hW rfl rfl (x_fieldAddr Try.underlying32 rfl fl3.siz rfl) ?_
            refine wl_val hW rfl rfl (x_load fl3 rfl (hB3.cell (o := 2) rfl)) ?_
            refine wl_call hW rfl rfl (x_call en21 rfl) ((C21).inF hFF) ?_
            rintro _ wC ⟨rfl, hxC⟩
            replace hB2 := hB2.ext hxC
            replace hB3 := hB3.ext hxC
            replace hB4 := hB4.ext hxC
            replace hE := hE.trans hxC
            refine wl_val hW rfl rfl (x_not rfl) ?_
            refine wl_val hW rfl rfl (x_pickF rfl rfl) ?_
            refine wl_val hW rfl rfl (x_move rfl) ?_
            refine wl_bcases (d := 37) rfl (fun hg37 => ?_) (fun hg37 => ?_)
            · refine wl_off hW rfl rfl ?_
              refine wl_off hW rfl rfl ?_
              refine wl_off hW rfl rfl ?_
              refine wl_off hW rfl rfl ?_
              refine wl_off hW rfl rfl ?_
              refine wl_off hW rfl rfl ?_
              refine wl_off hW rfl rfl ?_
              refine wl_off hW rfl rfl ?_
              refine wl_val hW rfl rfl (x_pickT rfl rfl) ?_
              refine wl_nil ?_
              exact nx_cut (by rw [show badX e x = true from by unfold badX; rw [hg37]; simp]; repeat (first | exact sub_nil | refine sub_cons rfl ?_)) ⟨hE, hB2, hB3, hB4⟩
            · refine wl_val hW rfl rfl (x_fieldAddr Try.underlying27 rfl fl3.siz rfl) ?_
              refine wl_val hW rfl rfl (x_load fl3 rfl (hB2.cell (o := 0) rfl)) ?_
              refine wl_val hW rfl rfl (x_eql rfl rfl) ?_
              refine wl_val hW rfl rfl (x_move rfl) ?_
              refine wl_dcases (d := 41) rfl (fun hg41 => ?_) (fun hg41 => ?_)
              · refine wl_val hW rfl rfl (x_fieldAddr Try.underlying32 rfl fl3.siz rfl) ?_
                refine wl_val hW rfl rfl (x_load fl3 rfl (hB3.cell (o := 0) rfl)) ?_
                refine wl_val hW rfl rfl (x_neq rfl rfl) ?_
                refine wl_val hW rfl rfl (x_pickT rfl rfl) ?_
                refine wl_val hW rfl rfl (x_pickF rfl rfl) ?_
                refine wl_nil ?_
                exact nx_cut (by rw [show badX e x = decide (x.k ≠ 3) from by unfold badX; rw [decide_eq_false hg20, decide_eq_false hg25, hg31, hg37, decide_eq_true hg41]; simp]; repeat (first | exact sub_nil | refine sub_cons rfl ?_)) ⟨hE, hB2, hB3, hB4⟩
              · refine wl_off hW rfl rfl ?_
                refine wl_off hW rfl rfl ?_
                refine wl_off hW rfl rfl ?_
                refine wl_val hW rfl rfl (x_pickF rfl rfl) ?_
                refine wl_val hW rfl rfl (x_pickF rfl rfl) ?_
                refine wl_nil ?_
                exact nx_cut (by rw [show badX e x = false from by unfold badX; rw [decide_eq_false hg20, decide_eq_false hg25, hg31, hg37, decide_eq_false hg41]; simp]; repeat (first | exact sub_nil | refine sub_cons rfl ?_)) ⟨hE, hB2, hB3, hB4⟩
    · rintro w' ⟨hE, hB2, hB3, hB4⟩
      refine nx_then ?_
      refine wc_bool rfl (fun hc => ?_) (fun hc => ?_)
      · have hdo : doF e ms zs x = R0 1 := by unfold doF; rw [if_pos hck, if_pos hc]
        refine wc_seq ?_
        refine wc_region ?_
        refine wl_val hW rfl rfl (x_build27z) ?_
        refine wl_storeA hW rfl ag27 rfl rfl rfl rfl hB4 rfl ?_
        intro wS hBS hkS
        replace hB2 := hB2.keep hkS n4_2.symm
        replace hB3 := hB3.keep hkS n4_3.symm
        replace hB4 := hBS
        clear hBS
        replace hE := hE.store hkS g4
        refine wl_val hW rfl rfl (x_assign rfl) ?_
        refine wl_nil ?_
        refine nx_then ?_
        refine wc_ret ?_
        refine nx_then_ret ?_
        exact ends_ret (res_cell_tmp Try.results8 rfl (run_loadVar_cells ag27 hB4.cells rfl) rfl) ⟨⟨_, _, by rw [hdo]; rfl, by rw [hdo]; exact gown_nil, by rw [hdo]; exact gown_nil⟩, hE⟩
      · have hdoF : doF e ms zs x = doG e ms zs x := by unfold doF; rw [if_pos hck, hc]; rfl
        have hb1 := hc
        unfold badX at hb1
        simp only [Bool.or_eq_false_iff, decide_eq_false_iff_not, Bool.and_eq_false_iff] at hb1
        obtain ⟨hk1, hk5, -, -, he40⟩ := hb1
        have helt : x.k ≠ 3 → e < 1099511627776 := fun h => by have := hV.e1; rcases he40 with h1 | h1; omega; exact absurd h h1
        have hsz1 := hE.size
        have hlm := hV.len
        have hlz := hV.zlen
        refine wc_skip ?_
        refine nx_then ?_
        refine wc_seq ?_
        refine wc_region ?_
        refine wl_val hW rfl rfl (x_loadA ag27 rfl hB2.cells rfl) ?_
        refine wl_call hW rfl rfl (x_call en22 rfl) ((C22 (hR.ext hE) (hI.ext hE)).inF hFF) ?_
        rintro _ wC ⟨⟨cv1, sv1, rfl, hM, hZ⟩, hxC⟩
        replace hB2 := hB2.ext hxC
        replace hB3 := hB3.ext hxC
        replace hB4 := hB4.ext hxC
        replace hE := hE.trans hxC
        replace hM : MOwn w.heap.size wC cv1 ms := hM.rebase fun b hb => Nat.le_trans hsz1 (hM.ge hb)
        replace hZ : IOwn w.heap.size wC sv1 zs := hZ.rebase fun b hb => Nat.le_trans hsz1 (hZ.ge hb)
        obtain ⟨ma, mc, rfl, hmc⟩ := hM.form
        obtain ⟨za, zc, rfl, hzc⟩ := hZ.form
        refine wl_storeA hW rfl ag27 rfl rfl rfl rfl hB2 rfl ?_
        intro wS hBS hkS
        replace hM := hM.keep hkS (fun b hb => hM.ne hb hB2 (by decide))
        replace hZ := hZ.keep hkS (fun b hb => hZ.ne hb hB2 (by decide))
        replace hB3 := hB3.keep hkS n3_2
        replace hB4 := hB4.keep hkS n4_2
        replace hB2 := hBS
        clear hBS
        replace hE := hE.store hkS g2
        refine wl_nil ?_
        refine nx_then ?_
        refine wc_seq ?_
        refine wc_region ?_
        refine wl_val hW rfl rfl (x_loadA ag27 rfl hB2.cells rfl) ?_
        refine wl_val hW rfl rfl (x_fieldAddr Try.underlying32 rfl fl3.siz rfl) ?_
        refine wl_val hW rfl rfl (x_load fl3 rfl (hB3.cell (o := 1) rfl)) ?_
        refine wl_call hW rfl rfl (x_call en10 rfl) ((C10 (n := x.n) (hM.row cellsM_len (by omega))).inF hFF) ?_
        rintro _ wC ⟨rfl, hxC⟩
        replace hM := hM.ext hxC
        replace hZ := hZ.ext hxC
        replace hB2 := hB2.ext hxC
        replace hB3 := hB3.ext hxC
        replace hB4 := hB4.ext hxC
        replace hE := hE.trans hxC
        refine wl_val hW rfl rfl (x_assign rfl) ?_
        refine wl_nil ?_
        refine nx_then ?_
        refine wc_seq ?_
        refine wc_region ?_
        refine wl_val hW rfl rfl (x_fieldAddr Try.underlying27 rfl fl25.siz rfl) ?_
        refine wl_val hW rfl rfl (x_load fl25 rfl (hB2.cell (o := 2) rfl)) ?_
        refine wl_val hW rfl rfl (x_fieldAddr Try.underlying32 rfl fl3.siz rfl) ?_
        refine wl_val hW rfl rfl (x_load fl3 rfl (hB3.cell (o := 1) rfl)) ?_
        refine wl_call hW rfl rfl (x_call en23 rfl) ((C23 (x := x.n) (hZ.row cellsI_len (by omega)) hV.srt).inF hFF) ?_
        rintro _ w9 ⟨⟨p, hp, rfl, hlo, hhi⟩, hxC⟩
        obtain rfl := posI_eq hp hlo hhi
        replace hM := hM.ext hxC
        replace hZ := hZ.ext hxC
        replace hB2 := hB2.ext hxC
        replace hB3 := hB3.ext hxC
        replace hB4 := hB4.ext hxC
        replace hE := hE.trans hxC
        refine wl_val hW rfl rfl (x_move rfl) ?_
        refine wl_val hW rfl rfl (x_extract rfl rfl) ?_
        refine wl_val hW rfl rfl (x_extract rfl rfl) ?_
        refine wl_val hW rfl rfl (x_assign rfl) ?_
        refine wl_val hW rfl rfl (x_assign rfl) ?_
        refine wl_nil ?_
        refine nx_then ?_
        refine wc_seq ?_
        refine wc_region ?_
        refine wl_val hW rfl rfl (x_assign rfl) ?_
        refine wl_nil ?_
        refine nx_then ?_
        refine wc_seq ?_
        refine wc_seq ?_
        refine wc_region ?_
        refine wl_val hW rfl rfl (x_fieldAddr Try.underlying32 rfl fl3.siz rfl) ?_
        refine wl_val hW rfl rfl (x_load fl3 rfl (hB3.cell (o := 0) rfl)) ?_
        refine wl_nil ?_
        refine nx_then ?_
        refine wc_blockK (σ := Int × Value × Value × List Mb × List Int) (fun s => [(2, .pointer (some ⟨b2, 0, none⟩)), (4, .pointer (some ⟨b4, 0, none⟩)), (10, .int .i64 s.1)]) (fun s w' => (Ext w w' ∧ MOwn w.heap.size w' s.2.1 s.2.2.2.1 ∧ IOwn w.heap.size w' s.2.2.1 s.2.2.2.2 ∧ (doF e ms zs x = if s.1 = 0 then (0, e + 1, s.2.2.2.1, s.2.2.2.2) else R0 s.1) ∧ (s.1 = 0 → e < 1099511627776)) ∧ Blk w' b2 [.int .i64 e, s.2.1, s.2.2.1] 27 ∧ Blk w' b4 [.int .i64 0, .slice none 0 0, .slice none 0 0] 27) ?_ ?_
        · rintro ⟨rc, cv2, sv2, ms2, zs2⟩ w' ⟨⟨hE, hM, hZ, hdo, hlt⟩, hB2, hB4⟩
          replace hM : MOwn w.heap.size w' cv2 ms2 := hM
          replace hZ : IOwn w.heap.size w' sv2 zs2 := hZ
          replace hB2 : Blk w' b2 [.int .i64 e, cv2, sv2] 27 := hB2
          replace hdo : doF e ms zs x = if rc = 0 then (0, e + 1, ms2, zs2) else R0 rc := hdo
          replace hlt : rc = 0 → e < 1099511627776 := hlt
          obtain ⟨ma2, mc2, rfl, -⟩ := hM.form
          obtain ⟨za2, zc2, rfl, -⟩ := hZ.form
          refine nx_then ?_
          refine wc_seq ?_
          refine wc_seq ?_
          refine wc_region ?_
          refine wl_val hW rfl rfl (x_move rfl) ?_
          refine wl_val hW rfl rfl (x_neq rfl rfl) ?_
          refine wl_nil ?_
          refine nx_then ?_
          refine wc_dec rfl (fun hc => ?_) (fun hc => ?_)
          · replace hc : rc ≠ 0 := hc
            rw [if_neg hc] at hdo
            refine wc_seq ?_
            refine wc_region ?_
            refine wl_val hW rfl rfl (x_build27z) ?_
            refine wl_val hW rfl rfl (x_move rfl) ?_
            refine wl_storeA hW rfl ag27 rfl rfl rfl rfl hB4 rfl ?_
            intro wS hBS hkS
            replace hB2 := hB2.keep hkS n4_2.symm
            replace hB4 := hBS
            clear hBS
            replace hE := hE.store hkS g4
            refine wl_val hW rfl rfl (x_assign rfl) ?_
            refine wl_nil ?_
            refine nx_then ?_
            refine wc_ret ?_
            refine nx_then_ret ?_
            exact ends_ret (res_cell_tmp Try.results8 rfl (run_loadVar_cells ag27 hB4.cells rfl) rfl) ⟨⟨_, _, by rw [hdo]; rfl, by rw [hdo]; exact gown_nil, by rw [hdo]; exact gown_nil⟩, hE⟩
          · obtain rfl : rc = 0 := by have h' : ¬ rc ≠ 0 := hc; omega
            rw [if_pos rfl] at hdo
            have helt2 := hlt rfl
            have he0 := hV.e0
            refine wc_skip ?_
            refine nx_then ?_
            refine wc_seq ?_
            refine wc_region ?_
            refine wl_val hW rfl rfl (x_fieldAddr Try.underlying27 rfl fl3.siz rfl) ?_
            refine wl_val hW rfl rfl (x_load fl3 rfl (hB2.cell (o := 0) rfl)) ?_
            refine wl_val hW rfl rfl (x_adds (r := e + 1) rfl rfl (by omega) (by omega) rfl) ?_
            refine wl_val hW rfl rfl (x_fieldAddr Try.underlying27 rfl fl3.siz rfl) ?_
            refine wl_store hW rfl fl3 rfl rfl rfl hB2 rfl ?_
            intro wS hBS hkS
            replace hM := hM.keep hkS (fun b hb => hM.ne hb hB2 (by decide))
            replace hZ := hZ.keep hkS (fun b hb => hZ.ne hb hB2 (by decide))
            replace hB4 := hB4.keep hkS n4_2
            replace hB2 := hBS
            clear hBS
            replace hE := hE.store hkS g2
            refine wl_nil ?_
            refine nx_then ?_
            refine wc_seq ?_
            refine wc_region ?_
            refine wl_val hW rfl rfl (x_loadA ag27 rfl hB2.cells rfl) ?_
            refine wl_storeA hW rfl ag27 rfl rfl rfl rfl hB4 rfl ?_
            intro wS hBS hkS
            replace hM := hM.keep hkS (fun b hb => hM.ne hb hB4 (by decide))
            replace hZ := hZ.keep hkS (fun b hb => hZ.ne hb hB4 (by decide))
            replace hB2 := hB2.keep hkS n4_2.symm
            replace hB4 := hBS
            clear hBS
            replace hE := hE.store hkS g4
            refine wl_val hW rfl rfl (x_assign rfl) ?_
            refine wl_nil ?_
            refine nx_then ?_
            refine wc_ret ?_
            exact ends_ret (res_cell_tmp Try.results8 rfl (run_loadVar_cells ag27 hB4.cells rfl) rfl) ⟨⟨_, _, by rw [hdo]; rfl, by rw [hdo]; exact hM, by rw [hdo]; exact hZ⟩, hE⟩
        · refine wc_seq ?_
          refine wc_region ?_
          refine wl_val hW rfl rfl (x_eql rfl rfl) ?_
          refine wl_val hW rfl rfl (x_assign rfl) ?_
          refine wl_nil ?_
          refine nx_then ?_
          refine wc_dec rfl (fun hc => ?_) (fun hc => ?_)
          · have hk : x.k = 1 := hc
            have hE9 := hE
            refine wc_seq ?_
            refine wc_seq ?_
            refine wc_cut [(2, .pointer (some ⟨b2, 0, none⟩)), (3, .pointer (some ⟨b3, 0, none⟩)), (4, .pointer (some ⟨b4, 0, none⟩)), (10, .int .i64 0), (73, .bool (decide (0 ≤ idxN ms x.n) || decide ((ms.length : Int) = 5)))] (fun w' => w' = w9) ?_ ?_
            · refine wc_region ?_
              refine wl_val hW rfl rfl (x_move rfl) ?_
              refine wl_val hW rfl rfl (x_geq rfl rfl) ?_
              refine wl_val hW rfl rfl (x_move rfl) ?_
              refine wl_dcases (d := 68) rfl (fun hg68 => ?_) (fun hg68 => ?_)
              · refine wl_off hW rfl rfl ?_
                refine wl_off hW rfl rfl ?_
                refine wl_off hW rfl rfl ?_
                refine wl_off hW rfl rfl ?_
                refine wl_val hW rfl rfl (x_pickT rfl rfl) ?_
                refine wl_nil ?_
                exact nx_cut (by rw [decide_eq_true hg68, Bool.true_or]; repeat (first | exact sub_nil | refine sub_cons rfl ?_)) rfl
              · refine wl_val hW rfl rfl (x_fieldAddr Try.underlying27 rfl fl24.siz rfl) ?_
                refine wl_val hW rfl rfl (x_load fl24 rfl (hB2.cell (o := 1) rfl)) ?_
                refine wl_val hW rfl rfl (x_len Try.underlying24 rfl) ?_
                refine wl_val hW rfl rfl (x_eql rfl rfl) ?_
                refine wl_val hW rfl rfl (x_pickF rfl rfl) ?_
                refine wl_nil ?_
                exact nx_cut (by rw [decide_eq_false hg68, Bool.false_or]; repeat (first | exact sub_nil | refine sub_cons rfl ?_)) rfl
            · intro wx hwx; rw [hwx]; clear hwx wx
              refine nx_then ?_
              refine wc_bool rfl (fun hc => ?_) (fun hc => ?_)
              · refine wc_seq ?_
                refine wc_region ?_
                refine wl_val hW rfl rfl (x_assign rfl) ?_
                refine wl_nil ?_
                refine nx_then ?_
                refine wc_exit ?_
                refine nx_then_exit ?_
                exact nx_kx (23, .slice ma ms.length mc, .slice za zs.length zc, ms, zs) (by repeat (first | exact sub_nil | refine sub_cons rfl ?_)) ⟨⟨hE, hM, hZ, by rw [hdoF]; unfold doG; rw [if_pos hk, if_pos hc]; rfl, fun h => by cases h⟩, hB2, hB4⟩
              · refine wc_skip ?_
                refine nx_then ?_
                refine wc_region ?_
                refine wl_val hW rfl rfl (x_fieldAddr Try.underlying27 rfl fl24.siz rfl) ?_
                refine wl_val hW rfl rfl (x_load fl24 rfl (hB2.cell (o := 1) rfl)) ?_
                refine wl_val hW rfl rfl (x_fieldAddr Try.underlying32 rfl fl3.siz rfl) ?_
                refine wl_val hW rfl rfl (x_load fl3 rfl (hB3.cell (o := 1) rfl)) ?_
                refine wl_val hW rfl rfl (x_fieldAddr Try.underlying32 rfl fl3.siz rfl) ?_
                refine wl_val hW rfl rfl (x_load fl3 rfl (hB3.cell (o := 2) rfl)) ?_
                refine wl_val hW rfl rfl (x_fieldAddr Try.underlying27 rfl fl24.siz rfl) ?_
                refine wl_val hW rfl rfl (x_load fl24 rfl (hB2.cell (o := 1) rfl)) ?_
                refine wl_val hW rfl rfl (x_len Try.underlying24 rfl) ?_
                refine wl_val hW rfl rfl (x_eql rfl rfl) ?_
                refine wl_val hW rfl rfl (x_build35 rfl rfl rfl) ?_
                refine wl_buildSlice (parts := [(0, .tmp 84)]) hW rfl rfl Try.underlying24 ag35.siz Try.zeroValue35 rfl rfl rfl (by omega) ?_
                intro b85 w85 hl85 hB85 hx85
                have g85 : w.heap.size ≤ b85 := Nat.le_trans hE.size hl85
                have n85_2 : b85 ≠ b2 := Nat.ne_of_gt (Nat.lt_of_lt_of_le hB2.lt hl85)
                replace hB2 := hB2.ext hx85
                have n85_3 : b85 ≠ b3 := Nat.ne_of_gt (Nat.lt_of_lt_of_le hB3.lt hl85)
                replace hB3 := hB3.ext hx85
                have n85_4 : b85 ≠ b4 := Nat.ne_of_gt (Nat.lt_of_lt_of_le hB4.lt hl85)
                replace hB4 := hB4.ext hx85
                replace hE := hE.trans hx85
                have hBs : Blk w85 b85 (([⟨x.n, x.b, decide ((ms.length : Int) = 0)⟩] : List Mb).flatMap cellsM) 35 := hB85
                refine wl_appG (ys := [⟨x.n, x.b, decide ((ms.length : Int) = 0)⟩]) Try.underlying24 info35 rfl (by decide) cellsM_len one_M hW rfl rfl rfl rfl (hM.ext hx85) rfl (src_blk hBs) (by simp; omega) (by decide) hE.size ?_
                intro v86 wA hM2 hkA hcA
                have hM85 := hM.ext hx85
                have hZ85 := hZ.ext hx85
                replace hB2 := hB2.keep hkA (hM85.off hB2 (by decide))
                replace hB3 := hB3.keep hkA (hM85.off hB3 (by decide))
                replace hB4 := hB4.keep hkA (hM85.off hB4 (by decide))
                replace hE := hE.rowed hkA (fun b hb => hM85.ge hb)
                replace hZ := hZ85.keep hkA (fun b hb => own_apart hM85 hZ85 b hb)
                obtain ⟨a86, c86, rfl, -⟩ := hM2.form
                refine wl_val hW rfl rfl (x_fieldAddr Try.underlying27 rfl fl24.siz rfl) ?_
                refine wl_store hW rfl fl24 rfl rfl rfl hB2 rfl ?_
                intro wS hBS hkS
                replace hM2 := hM2.keep hkS (fun b hb => hM2.ne hb hB2 (by decide))
                replace hZ := hZ.keep hkS (fun b hb => hZ.ne hb hB2 (by decide))
                replace hB3 := hB3.keep hkS n3_2
                replace hB4 := hB4.keep hkS n4_2
                replace hB2 := hBS
                clear hBS
                replace hE := hE.store hkS g2
                refine wl_nil ?_
                exact nx_k (0, .slice a86 _ c86, .slice za zs.length zc, ms ++ [⟨x.n, x.b, decide ((ms.length : Int) = 0)⟩], zs) (by repeat (first | exact sub_nil | refine sub_cons rfl ?_)) ⟨⟨hE, hM2, hZ, by rw [hdoF]; unfold doG; rw [if_pos hk, hc]; rfl, fun _ => helt (by omega)⟩, hB2, hB4⟩
          · have hn1 : ¬ x.k = 1 := hc
            refine wc_seq ?_
            refine wc_region ?_
            refine wl_val hW rfl rfl (x_eql rfl rfl) ?_
            refine wl_val hW rfl rfl (x_assign rfl) ?_
            refine wl_nil ?_
            refine nx_then ?_
            refine wc_dec rfl (fun hc => ?_) (fun hc => ?_)
            · have hk : x.k = 2 := hc
              refine wc_seq ?_
              refine wc_seq ?_
              refine wc_region ?_
              refine wl_val hW rfl rfl (x_move rfl) ?_
              refine wl_val hW rfl rfl (x_lss rfl rfl) ?_
              refine wl_nil ?_
              refine nx_then ?_
              refine wc_dec rfl (fun hc => ?_) (fun hc => ?_)
              · refine wc_seq ?_
                refine wc_region ?_
                refine wl_val hW rfl rfl (x_assign rfl) ?_
                refine wl_nil ?_
                refine nx_then ?_
                refine wc_exit ?_
                refine nx_then_exit ?_
                exact nx_kx (23, .slice ma ms.length mc, .slice za zs.length zc, ms, zs) (by repeat (first | exact sub_nil | refine sub_cons rfl ?_)) ⟨⟨hE, hM, hZ, by rw [hdoF]; unfold doG; rw [if_neg hn1, if_pos hk, if_pos hc]; rfl, fun h => by cases h⟩, hB2, hB4⟩
              · have hidx : ¬ idxP (fun m => decide (m.n = x.n)) ms < 0 := hc
                obtain ⟨k, hkl, hkk, hkn⟩ := idx_nat hidx
                have hcut : cutM ms (idxN ms x.n) = ms.take k ++ ms.drop (k + 1) := by unfold cutM; rw [show idxN ms x.n = k from hkk, Int.toNat_natCast]
                rw [hkk]
                obtain ⟨g, cs, rfl, -, -, -, hBg, -, hbg, -⟩ := hM.blk cellsM_len (by omega)
                refine wc_skip ?_
                refine nx_then ?_
                refine wc_seq ?_
                refine wc_region ?_
                refine wl_val hW rfl rfl (x_fieldAddr Try.underlying27 rfl fl24.siz rfl) ?_
                refine wl_val hW rfl rfl (x_load fl24 rfl (hB2.cell (o := 1) rfl)) ?_
                refine wl_val hW rfl rfl (x_move rfl) ?_
                refine wl_val hW rfl rfl (x_move rfl) ?_
                refine wl_val hW rfl rfl (x_inc (s := k) rfl (by omega)) ?_
                refine wl_call hW rfl rfl (x_call en24 rfl) ((C24 (i := k) hM hkl (by omega)).inF hFF) ?_
                rintro _ wD ⟨⟨rfl, hM2⟩, hkD⟩
                replace hB2 := hB2.keep hkD (hM.ne rfl hB2 (by decide)).symm
                replace hB3 := hB3.keep hkD (hM.ne rfl hB3 (by decide)).symm
                replace hB4 := hB4.keep hkD (hM.ne rfl hB4 (by decide)).symm
                replace hE := hE.store hkD hbg
                replace hZ := hZ.keep hkD (fun b hb e => own_apart hM hZ b hb (by rw [e]; rfl))
                refine wl_val hW rfl rfl (x_fieldAddr Try.underlying27 rfl fl24.siz rfl) ?_
                refine wl_store hW rfl fl24 rfl rfl rfl hB2 rfl ?_
                intro wS hBS hkS
                replace hM2 := hM2.keep hkS (fun b hb => hM2.ne hb hB2 (by decide))
                replace hZ := hZ.keep hkS (fun b hb => hZ.ne hb hB2 (by decide))
                replace hB3 := hB3.keep hkS n3_2
                replace hB4 := hB4.keep hkS n4_2
                replace hB2 := hBS
                clear hBS
                replace hE := hE.store hkS g2
                refine wl_nil ?_
                refine nx_then ?_
                have hcl : (ms.take k ++ ms.drop (k + 1)).length = ms.length - 1 := by simp; omega
                rw [← hcl] at hM2 hB2
                rw [← hcl]
                refine wc_seq ?_
                refine wc_region ?_
                refine wl_val hW rfl rfl (x_fieldAddr Try.underlying27 rfl fl24.siz rfl) ?_
                refine wl_val hW rfl rfl (x_load fl24 rfl (hB2.cell (o := 1) rfl)) ?_
                refine wl_call hW rfl rfl (x_call en25 rfl) ((C25 (hM2.row cellsM_len (by omega))).inF hFF) ?_
                rintro _ wC ⟨rfl, hxC⟩
                replace hM2 := hM2.ext hxC
                replace hZ := hZ.ext hxC
                replace hB2 := hB2.ext hxC
                replace hB3 := hB3.ext hxC
                replace hB4 := hB4.ext hxC
                replace hE := hE.trans hxC
                refine wl_val hW rfl rfl (x_not rfl) ?_
                refine wl_nil ?_
                refine nx_then ?_
                refine wc_bool rfl (fun hc => ?_) (fun hc => ?_)
                · refine wc_region ?_
                  refine wl_val hW rfl rfl (x_assign rfl) ?_
                  refine wl_nil ?_
                  exact nx_k (23, .slice (some ⟨g, 0, none⟩) _ mc, .slice za zs.length zc, _, zs) (by repeat (first | exact sub_nil | refine sub_cons rfl ?_)) ⟨⟨hE, hM2, hZ, by rw [hdoF]; unfold doG; rw [if_neg hn1, if_pos hk, if_neg hidx, hcut, if_neg (by simpa using hc)]; rfl, fun h => by cases h⟩, hB2, hB4⟩
                · refine wc_skip ?_
                  exact nx_k (0, .slice (some ⟨g, 0, none⟩) _ mc, .slice za zs.length zc, ms.take k ++ ms.drop (k + 1), zs) (by repeat (first | exact sub_nil | refine sub_cons rfl ?_)) ⟨⟨hE, hM2, hZ, by rw [hdoF]; unfold doG; rw [if_neg hn1, if_pos hk, if_neg hidx, hcut, if_pos (show (ms.take k ++ ms.drop (k + 1)).any (·.w) = true from by cases h : (ms.take k ++ ms.drop (k + 1)).any (·.w); (rw [h] at hc; cases hc); rfl)]; rfl, fun _ => helt (by omega)⟩, hB2, hB4⟩
            · have hn2 : ¬ x.k = 2 := hc
              refine wc_seq ?_
              refine wc_region ?_
              refine wl_val hW rfl rfl (x_eql rfl rfl) ?_
              refine wl_val hW rfl rfl (x_assign rfl) ?_
              refine wl_nil ?_
              refine nx_then ?_
              refine wc_dec rfl (fun hc => ?_) (fun hc => ?_)
              · have hk : x.k = 3 := hc
                refine wc_block ?_
                refine wc_seq ?_
                refine wc_region ?_
                refine wl_val hW rfl rfl (x_fieldAddr Try.underlying32 rfl fl3.siz rfl) ?_
                refine wl_val hW rfl rfl (x_load fl3 rfl (hB3.cell (o := 3) rfl)) ?_
                refine wl_val hW rfl rfl (x_fieldAddr Try.underlying27 rfl fl3.siz rfl) ?_
                refine wl_val hW rfl rfl (x_load fl3 rfl (hB2.cell (o := 0) rfl)) ?_
                refine wl_val hW rfl rfl (x_neq rfl rfl) ?_
                refine wl_val hW rfl rfl (x_assign rfl) ?_
                refine wl_nil ?_
                refine nx_then ?_
                refine wc_dec rfl (fun hc => ?_) (fun hc => ?_)
                · refine wc_region ?_
                  refine wl_val hW rfl rfl (x_assign rfl) ?_
                  refine wl_nil ?_
                  refine nx_block ?_
                  exact nx_k (21, .slice ma ms.length mc, .slice za zs.length zc, ms, zs) (by repeat (first | exact sub_nil | refine sub_cons rfl ?_)) ⟨⟨hE, hM, hZ, by rw [hdoF]; unfold doG; rw [if_neg hn1, if_neg hn2, if_pos hk, if_pos hc]; rfl, fun h => by cases h⟩, hB2, hB4⟩
                · have hce : ¬ x.e ≠ e := hc
                  obtain ⟨bw, hbw⟩ : ∃ b, b = (decide (idxP (fun m => decide (m.n = x.n)) ms < 0) || decide (memAt ms (idxP (fun m => decide (m.n = x.n)) ms) ≠ ⟨x.n, x.b, false⟩)) := ⟨_, rfl⟩
                  refine wc_seq ?_
                  refine wc_cut [(2, .pointer (some ⟨b2, 0, none⟩)), (4, .pointer (some ⟨b4, 0, none⟩)), (7, .int .i64 (idxP (fun m => decide (m.n = x.n)) ms)), (117, .bool bw)] (fun w' => Ext w9 w') ?_ ?_
                  · refine wc_draw' 15 hW mixed (by kernel_rfl) (fun w0 hx0 => ?_)
                    replace hB2 := hB2.ext hx0
                    replace hB3 := hB3.ext hx0
                    replace hB4 := hB4.ext hx0
                    replace hE := hE.trans hx0
                    have hE0 := hx0
                    refine q_val rfl rfl (fun _ hx => x_move rfl) ?_
                    refine q_val rfl rfl (fun _ hx => x_lss rfl rfl) ?_
                    refine q_val rfl rfl (fun _ hx => x_move rfl) ?_
                    refine q_dcases (d := 120) rfl (fun hg120 => ?_) (fun hg120 => ?_)
                    · refine q_off rfl rfl ?_
                      refine q_off rfl rfl ?_
                      refine q_off rfl rfl ?_
                      refine q_off rfl rfl ?_
                      refine q_off rfl rfl ?_
                      refine q_off rfl rfl ?_
                      refine q_off rfl rfl ?_
                      refine q_off rfl rfl ?_
                      refine q_off rfl rfl ?_
                      refine q_off rfl rfl ?_
                      refine q_off rfl rfl ?_
                      refine q_val rfl rfl (fun _ hx => x_pickT rfl rfl) ?_
                      refine q_nil (tail0 (fun wt hxt => ?_))
                      replace hB2 := hB2.ext hxt
                      replace hB3 := hB3.ext hxt
                      replace hB4 := hB4.ext hxt
                      replace hE := hE.trans hxt
                      refine wl_val hW rfl rfl (x_assign rfl) ?_
                      refine wl_nil ?_
                      exact nx_cut (by rw [hbw, decide_eq_true hg120, Bool.true_or]; repeat (first | exact sub_nil | refine sub_cons rfl ?_)) (hx0.trans hxt)
                    · have hidx : ¬ idxP (fun m => decide (m.n = x.n)) ms < 0 := hg120
                      obtain ⟨k, hkl, hkk, hkn⟩ := idx_nat hidx
                      rw [decide_eq_false hidx, Bool.false_or, hkk, memAt_in hkl] at hbw
                      rw [hkk]
                      obtain ⟨gb, go, gc, e1, -, hC124⟩ := ((hM.ext hx0).row cellsM_len (by omega)).at k hkl
                      cases e1
                      refine q_val rfl rfl (fun _ hx => x_fieldAddr Try.underlying27 rfl fl24.siz rfl) ?_
                      refine q_val rfl rfl (fun _ hx => x_load fl24 rfl (hx.cell (hB2.cell (o := 1) rfl))) ?_
                      refine q_val rfl rfl (fun _ hx => x_move rfl) ?_
                      refine q_val rfl rfl (fun _ hx => x_indexAddr Try.underlying24 ag35.siz rfl rfl (by omega) (by omega)) ?_
                      refine q_val rfl rfl (fun _ hx => x_loadA ag35 rfl (hC124.ext hx) rfl) ?_
                      refine q_val rfl rfl (fun _ hx => x_fieldAddr Try.underlying32 rfl fl3.siz rfl) ?_
                      refine q_val rfl rfl (fun _ hx => x_load fl3 rfl (hx.cell (hB3.cell (o := 1) rfl))) ?_
                      refine q_val rfl rfl (fun _ hx => x_fieldAddr Try.underlying32 rfl fl3.siz rfl) ?_
                      refine q_val rfl rfl (fun _ hx => x_load fl3 rfl (hx.cell (hB3.cell (o := 2) rfl))) ?_
                      refine q_val rfl rfl (fun _ hx => x_build35b rfl rfl) ?_
                      refine q_val rfl rfl (fun _ hx => x_neq35 rfl rfl) ?_
                      refine q_val rfl rfl (fun _ hx => x_pickF rfl rfl) ?_
                      refine q_nil (tail0 (fun wt hxt => ?_))
                      replace hB2 := hB2.ext hxt
                      replace hB3 := hB3.ext hxt
                      replace hB4 := hB4.ext hxt
                      replace hE := hE.trans hxt
                      refine wl_val hW rfl rfl (x_assign rfl) ?_
                      refine wl_nil ?_
                      exact nx_cut (by rw [hbw]; repeat (first | exact sub_nil | refine sub_cons rfl ?_)) (hx0.trans hxt)
                  · rintro w' hx9
                    replace hB2 := hB2.ext hx9
                    replace hB3 := hB3.ext hx9
                    replace hB4 := hB4.ext hx9
                    replace hE := hE.trans hx9
                    replace hM := hM.ext hx9
                    replace hZ := hZ.ext hx9
                    refine nx_then ?_
                    refine wc_bool rfl (fun hc => ?_) (fun hc => ?_)
                    · refine wc_region ?_
                      refine wl_val hW rfl rfl (x_assign rfl) ?_
                      refine wl_nil ?_
                      refine nx_block ?_
                      exact nx_k (23, .slice ma ms.length mc, .slice za zs.length zc, ms, zs) (by repeat (first | exact sub_nil | refine sub_cons rfl ?_)) ⟨⟨hE, hM, hZ, by rw [hdoF]; unfold doG; rw [if_neg hn1, if_neg hn2, if_pos hk, if_neg hce]; rw [hc] at hbw; (rcases Bool.or_eq_true_iff.1 hbw.symm with h | h); (rw [if_pos (of_decide_eq_true h)]; rfl); (by_cases h0 : idxN ms x.n < 0; (rw [if_pos h0]; rfl); (rw [if_neg h0, if_pos (of_decide_eq_true h)]; rfl)), fun h => by cases h⟩, hB2, hB4⟩
                    · rw [hc] at hbw
                      obtain ⟨hw1, hw2⟩ := Bool.or_eq_false_iff.1 hbw.symm
                      have hidx : ¬ idxP (fun m => decide (m.n = x.n)) ms < 0 := of_decide_eq_false hw1
                      have hme : memAt ms (idxP (fun m => decide (m.n = x.n)) ms) = ⟨x.n, x.b, false⟩ := Decidable.not_not.1 (of_decide_eq_false hw2)
                      obtain ⟨k, hkl, hkk, hkn⟩ := idx_nat hidx
                      have hdw : doF e ms zs x = (0, e, ms.set k ⟨x.n, x.b, true⟩, zs) := by rw [hdoF]; unfold doG; rw [if_neg hn1, if_neg hn2, if_pos hk, if_neg hce, if_neg hidx, if_neg (fun h => h hme), show (idxN ms x.n).toNat = k from by rw [show idxN ms x.n = k from hkk, Int.toNat_natCast]]
                      rw [hkk, memAt_in hkl] at hme
                      rw [hkk]
                      obtain ⟨g, cs, rfl, -, hBg, hblt, hbg, hset⟩ := MOwn.field hM (m' := ⟨x.n, x.b, true⟩) (j := 2) (v := .bool true) hkl (by decide) (by rw [hme]; rfl)
                      refine wc_seq ?_
                      refine wc_region ?_
                      refine wl_val hW rfl rfl (x_fieldAddr Try.underlying27 rfl fl24.siz rfl) ?_
                      refine wl_val hW rfl rfl (x_load fl24 rfl (hB2.cell (o := 1) rfl)) ?_
                      refine wl_val hW rfl rfl (x_move rfl) ?_
                      refine wl_val hW rfl rfl (x_indexAddr Try.underlying24 ag35.siz rfl rfl (by omega) (by omega)) ?_
                      refine wl_val hW rfl rfl (x_fieldAddr Try.underlying35 rfl fl4.siz rfl) ?_
                      refine wl_store (o := k * 3 + 2) hW rfl fl4 (by show some (Value.pointer (some ⟨g, _, none⟩)) = _; rw [Int.toNat_natCast, Nat.zero_add]; rfl) rfl rfl hBg hblt ?_
                      intro wS hBS hkS
                      have hM2 := hset _ hBS
                      have hZ2 := hZ.keep hkS (fun b hb e => own_apart hM hZ b hb (by rw [e]; rfl))
                      replace hB2 := hB2.keep hkS (hM.ne rfl hB2 (by decide)).symm
                      replace hB3 := hB3.keep hkS (hM.ne rfl hB3 (by decide)).symm
                      replace hB4 := hB4.keep hkS (hM.ne rfl hB4 (by decide)).symm
                      replace hE := hE.store hkS hbg
                      refine wl_nil ?_
                      refine nx_then ?_
                      refine wc_seq ?_
                      refine wc_region ?_
                      refine wl_val hW rfl rfl (x_loadA ag27 rfl hB2.cells rfl) ?_
                      refine wl_storeA hW rfl ag27 rfl rfl rfl rfl hB4 rfl ?_
                      intro wS hBS hkS
                      replace hM2 := hM2.keep hkS (fun b hb => hM2.ne hb hB4 (by decide))
                      replace hZ2 := hZ2.keep hkS (fun b hb => hZ2.ne hb hB4 (by decide))
                      replace hB2 := hB2.keep hkS n4_2.symm
                      replace hB3 := hB3.keep hkS n4_3.symm
                      replace hB4 := hBS
                      clear hBS
                      replace hE := hE.store hkS g4
                      refine wl_val hW rfl rfl (x_assign rfl) ?_
                      refine wl_nil ?_
                      refine nx_then ?_
                      refine wc_ret ?_
                      refine nx_block_ret ?_
                      refine nx_k_ret ?_
                      refine nx_then_ret ?_
                      exact ends_ret (res_cell_tmp Try.results8 rfl (run_loadVar_cells ag27 hB4.cells rfl) rfl) ⟨⟨_, _, by rw [hdw]; rfl, by rw [hdw]; exact hM2, by rw [hdw]; exact hZ2⟩, hE⟩
              · have hn3 : ¬ x.k = 3 := hc
                refine wc_seq ?_
                refine wc_region ?_
                refine wl_val hW rfl rfl (x_eql rfl rfl) ?_
                refine wl_val hW rfl rfl (x_assign rfl) ?_
                refine wl_nil ?_
                refine nx_then ?_
                refine wc_dec rfl (fun hc => ?_) (fun hc => ?_)
                · have hk : x.k = 4 := hc
                  refine wc_seq ?_
                  refine wc_seq ?_
                  refine wc_region ?_
                  refine wl_val hW rfl rfl (x_move rfl) ?_
                  refine wl_nil ?_
                  refine nx_then ?_
                  refine wc_bool rfl (fun hc => ?_) (fun hc => ?_)
                  · refine wc_seq ?_
                    refine wc_region ?_
                    refine wl_val hW rfl rfl (x_assign rfl) ?_
                    refine wl_nil ?_
                    refine nx_then ?_
                    refine wc_exit ?_
                    refine nx_then_exit ?_
                    exact nx_kx (23, .slice ma ms.length mc, .slice za zs.length zc, ms, zs) (by repeat (first | exact sub_nil | refine sub_cons rfl ?_)) ⟨⟨hE, hM, hZ, by rw [hdoF]; unfold doG; rw [if_neg hn1, if_neg hn2, if_neg hn3, if_pos hk, if_pos (of_decide_eq_true hc)]; rfl, fun h => by cases h⟩, hB2, hB4⟩
                  · refine wc_skip ?_
                    refine nx_then ?_
                    refine wc_region ?_
                    refine wl_val hW rfl rfl (x_fieldAddr Try.underlying27 rfl fl25.siz rfl) ?_
                    refine wl_val hW rfl rfl (x_load fl25 rfl (hB2.cell (o := 2) rfl)) ?_
                    refine wl_val hW rfl rfl (x_move rfl) ?_
                    refine wl_val hW rfl rfl (x_fieldAddr Try.underlying32 rfl fl3.siz rfl) ?_
                    refine wl_val hW rfl rfl (x_load fl3 rfl (hB3.cell (o := 1) rfl)) ?_
                    refine wl_buildSlice (parts := [(0, .tmp 140)]) hW rfl rfl Try.underlying25 fl3.siz Try.zeroValue3 rfl rfl rfl (by omega) ?_
                    intro b141 w141 hl141 hB141 hx141
                    have g141 : w.heap.size ≤ b141 := Nat.le_trans hE.size hl141
                    have n141_2 : b141 ≠ b2 := Nat.ne_of_gt (Nat.lt_of_lt_of_le hB2.lt hl141)
                    replace hB2 := hB2.ext hx141
                    have n141_3 : b141 ≠ b3 := Nat.ne_of_gt (Nat.lt_of_lt_of_le hB3.lt hl141)
                    replace hB3 := hB3.ext hx141
                    have n141_4 : b141 ≠ b4 := Nat.ne_of_gt (Nat.lt_of_lt_of_le hB4.lt hl141)
                    replace hB4 := hB4.ext hx141
                    replace hE := hE.trans hx141
                    have hM41 := hM.ext hx141
                    have hZ41 := hZ.ext hx141
                    have hlt9 : ∀ b, (Value.slice za zs.length zc).ownBlock = some b → b141 ≠ b := fun b hb => by have := hZ.lt hb; omega
                    refine wl_call hW rfl rfl (x_call en26 rfl) ((C26 (i := posI zs x.n) (x := x.n) hZ41 hB141 hlt9 hp (by omega) hE.size).inF hFF) ?_
                    rintro v142 wD ⟨hZ2, hkD⟩
                    replace hB2 := hB2.keep hkD (hZ41.off hB2 (by decide))
                    replace hB3 := hB3.keep hkD (hZ41.off hB3 (by decide))
                    replace hB4 := hB4.keep hkD (hZ41.off hB4 (by decide))
                    replace hE := hE.rowed hkD (fun b hb => hZ41.ge hb)
                    have hM2 := hM41.keep hkD (fun b hb => own_apart' hM41 hZ41 b hb)
                    obtain ⟨z142, c142, rfl, -⟩ := hZ2.form
                    refine wl_val hW rfl rfl (x_fieldAddr Try.underlying27 rfl fl25.siz rfl) ?_
                    refine wl_store hW rfl fl25 rfl rfl rfl hB2 rfl ?_
                    intro wS hBS hkS
                    replace hM2 := hM2.keep hkS (fun b hb => hM2.ne hb hB2 (by decide))
                    replace hZ2 := hZ2.keep hkS (fun b hb => hZ2.ne hb hB2 (by decide))
                    replace hB3 := hB3.keep hkS n3_2
                    replace hB4 := hB4.keep hkS n4_2
                    replace hB2 := hBS
                    clear hBS
                    replace hE := hE.store hkS g2
                    refine wl_nil ?_
                    exact nx_k (0, .slice ma ms.length mc, .slice z142 _ c142, ms, insP zs x.n) (by repeat (first | exact sub_nil | refine sub_cons rfl ?_)) ⟨⟨hE, hM2, hZ2, by rw [hdoF]; unfold doG; rw [if_neg hn1, if_neg hn2, if_neg hn3, if_pos hk, if_neg (of_decide_eq_false hc)]; rfl, fun _ => helt (by omega)⟩, hB2, hB4⟩
                · have hn4 : ¬ x.k = 4 := hc
                  refine wc_seq ?_
                  refine wc_region ?_
                  refine wl_val hW rfl rfl (x_eql rfl rfl) ?_
                  refine wl_val hW rfl rfl (x_assign rfl) ?_
                  refine wl_nil ?_
                  refine nx_then ?_
                  refine wc_dec rfl (fun hc => ?_) (fun hc => ?_)
                  · have hk : x.k = 5 := hc
                    refine wc_seq ?_
                    refine wc_seq ?_
                    refine wc_region ?_
                    refine wl_val hW rfl rfl (x_move rfl) ?_
                    refine wl_val hW rfl rfl (x_not rfl) ?_
                    refine wl_nil ?_
                    refine nx_then ?_
                    refine wc_bool rfl (fun hc => ?_) (fun hc => ?_)
                    · refine wc_seq ?_
                      refine wc_region ?_
                      refine wl_val hW rfl rfl (x_assign rfl) ?_
                      refine wl_nil ?_
                      refine nx_then ?_
                      refine wc_exit ?_
                      refine nx_then_exit ?_
                      exact nx_kx (23, .slice ma ms.length mc, .slice za zs.length zc, ms, zs) (by repeat (first | exact sub_nil | refine sub_cons rfl ?_)) ⟨⟨hE, hM, hZ, by rw [hdoF]; unfold doG; rw [if_neg hn1, if_neg hn2, if_neg hn3, if_neg hn4, if_neg (by simpa using hc)]; rfl, fun h => by cases h⟩, hB2, hB4⟩
                    · have hmem : x.n ∈ zs := by simpa using hc
                      have hpl := posI_mem hmem
                      obtain ⟨g, cs, rfl, -, -, -, hBg, -, hbg, -⟩ := hZ.blk cellsI_len (by omega)
                      refine wc_skip ?_
                      refine nx_then ?_
                      refine wc_region ?_
                      refine wl_val hW rfl rfl (x_fieldAddr Try.underlying27 rfl fl25.siz rfl) ?_
                      refine wl_val hW rfl rfl (x_load fl25 rfl (hB2.cell (o := 2) rfl)) ?_
                      refine wl_val hW rfl rfl (x_move rfl) ?_
                      refine wl_val hW rfl rfl (x_move rfl) ?_
                      refine wl_val hW rfl rfl (x_inc (s := posI zs x.n) rfl (by omega)) ?_
                      refine wl_call hW rfl rfl (x_call en27 rfl) ((C27 (i := posI zs x.n) hZ hpl (by omega)).inF hFF) ?_
                      rintro _ wD ⟨⟨rfl, hZ2⟩, hkD⟩
                      replace hB2 := hB2.keep hkD (hZ.ne rfl hB2 (by decide)).symm
                      replace hB3 := hB3.keep hkD (hZ.ne rfl hB3 (by decide)).symm
                      replace hB4 := hB4.keep hkD (hZ.ne rfl hB4 (by decide)).symm
                      replace hE := hE.store hkD hbg
                      have hM2 := hM.keep hkD (fun b hb e => own_apart' hM hZ b hb (by rw [e]; rfl))
                      refine wl_val hW rfl rfl (x_fieldAddr Try.underlying27 rfl fl25.siz rfl) ?_
                      refine wl_store hW rfl fl25 rfl rfl rfl hB2 rfl ?_
                      intro wS hBS hkS
                      replace hM2 := hM2.keep hkS (fun b hb => hM2.ne hb hB2 (by decide))
                      replace hZ2 := hZ2.keep hkS (fun b hb => hZ2.ne hb hB2 (by decide))
                      replace hB3 := hB3.keep hkS n3_2
                      replace hB4 := hB4.keep hkS n4_2
                      replace hB2 := hBS
                      clear hBS
                      replace hE := hE.store hkS g2
                      refine wl_nil ?_
                      exact nx_k (0, .slice ma ms.length mc, .slice (some ⟨g, 0, none⟩) (zs.length - 1) zc, ms, delP zs x.n) (by repeat (first | exact sub_nil | refine sub_cons rfl ?_)) ⟨⟨hE, hM2, hZ2, by rw [hdoF]; unfold doG; rw [if_neg hn1, if_neg hn2, if_neg hn3, if_neg hn4, if_pos hmem]; rfl, fun _ => helt (by omega)⟩, hB2, hB4⟩
                  · refine wc_skip ?_
                    exact absurd hc (by show ¬ ¬ x.k = 5; omega)
end Go.Proofs.Ytiaikajibefieaa.K

