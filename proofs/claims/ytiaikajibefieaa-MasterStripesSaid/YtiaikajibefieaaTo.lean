/- Walk: commands run. -/
import Derived.Test.YtiaikajibefieaaTn
namespace Go.Proofs.Ytiaikajibefieaa.K
open Go Go.RowKit
set_option linter.unusedVariables false
set_option linter.unusedSimpArgs false
theorem C13 {A A2 A3 : Nat → Prop} {w : World} {cv sv lv : Value} {e : Int} {ms : List Mb} {zs : List Int} {l : List Cm} (hR : MRow A w cv ms) (hI : IRow A2 w sv zs) (hL : CRow A3 w lv l) :
    Rt Try.prog 13 [.agg #[.int .i64 e, cv, sv], lv] w fun r w' => (∃ cv' sv', r = .agg #[.int .i64 (runF (e, ms, zs) l).1, cv', sv'] ∧ MOwn w.heap.size w' cv' (runF (e, ms, zs) l).2.1 ∧ IOwn w.heap.size w' sv' (runF (e, ms, zs) l).2.2) ∧ Ext w w' := by
  obtain ⟨la, lc, rfl, -, hll⟩ := hL.form
  obtain ⟨ca0, cc0, ec0, -, hlm⟩ := hR.form
  obtain ⟨za0, zc0, ez0, -, hlz⟩ := hI.form
  have hW := hWw
  have hFF := hFw
  have hE : Ext w w := Keep.refl _ _
  refine rt_body Try.func13 rfl Try.ntmps13 rfl ?_
  refine wc_seq ?_
  refine wc_region ?_
  refine wl_box hW rfl rfl rfl rfl ?_
  intro b2 w2 hl2 hB2 hx2
  have g2 : w.heap.size ≤ b2 := Nat.le_trans hE.size hl2
  replace hE := hE.trans hx2
  refine wl_alloc (cs := [.int .i64 0, .slice none 0 0, .slice none 0 0]) hW rfl rfl Try.zeroValue27 rfl ?_
  intro b4 w4 hl4 hB4 hx4
  have g4 : w.heap.size ≤ b4 := Nat.le_trans hE.size hl4
  have n4_2 : b4 ≠ b2 := Nat.ne_of_gt (Nat.lt_of_lt_of_le hB2.lt hl4)
  replace hB2 := hB2.ext hx4
  replace hE := hE.trans hx4
  refine wl_nil ?_
  refine nx_then ?_
  refine wc_seq ?_
  refine wc_region ?_
  refine wl_val hW rfl rfl (x_loadA ag27 rfl hB2.cells rfl) ?_
  have hsz0 := hE.size
  refine wl_call hW rfl rfl (x_call en22 rfl) ((C22 (hR.ext hE) (hI.ext hE)).inF hFF) ?_
  rintro _ wC ⟨⟨cv1, sv1, rfl, hM, hZ⟩, hxC⟩
  replace hB2 := hB2.ext hxC
  replace hB4 := hB4.ext hxC
  replace hE := hE.trans hxC
  replace hM : MOwn w.heap.size wC cv1 ms := hM.rebase fun b hb => Nat.le_trans hsz0 (hM.ge hb)
  replace hZ : IOwn w.heap.size wC sv1 zs := hZ.rebase fun b hb => Nat.le_trans hsz0 (hZ.ge hb)
  obtain ⟨ma, mc, rfl, -⟩ := hM.form
  obtain ⟨za, zc, rfl, -⟩ := hZ.form
  refine wl_storeA hW rfl ag27 rfl rfl rfl rfl hB2 rfl ?_
  intro wS hBS hkS
  replace hM := hM.keep hkS (fun b hb => hM.ne hb hB2 (by decide))
  replace hZ := hZ.keep hkS (fun b hb => hZ.ne hb hB2 (by decide))
  replace hB4 := hB4.keep hkS n4_2
  replace hB2 := hBS
  clear hBS
  replace hE := hE.store hkS g2
  refine wl_nil ?_
  refine nx_then ?_
  refine wc_seq ?_
  refine wc_seq ?_
  refine wc_region ?_
  refine wl_val hW rfl rfl (x_move rfl) ?_
  refine wl_val hW rfl rfl (x_len Try.underlying22 rfl) ?_
  refine wl_val hW rfl rfl (x_move rfl) ?_
  refine wl_nil ?_
  refine nx_then ?_
  refine wc_block ?_
  refine wc_loop (σ := Nat × Value × Value) (fun s => [(2, .pointer (some ⟨b2, 0, none⟩)), (4, .pointer (some ⟨b4, 0, none⟩)), (11, .slice la l.length lc), (12, .int .i64 (l.length : Nat)), (13, .int .i64 (s.1 : Nat))]) (fun s w' => (s.1 ≤ l.length ∧ MOwn w.heap.size w' s.2.1 (runF (e, ms, zs) (l.take s.1)).2.1 ∧ IOwn w.heap.size w' s.2.2 (runF (e, ms, zs) (l.take s.1)).2.2 ∧ (runF (e, ms, zs) (l.take s.1)).2.1.length ≤ 1099511627776 ∧ (runF (e, ms, zs) (l.take s.1)).2.2.length ≤ 1099511627776) ∧ Ext w w' ∧ Blk w' b2 [.int .i64 (runF (e, ms, zs) (l.take s.1)).1, s.2.1, s.2.2] 27 ∧ Blk w' b4 [.int .i64 0, .slice none 0 0, .slice none 0 0] 27) (fun s => l.length - s.1) (0, .slice ma ms.length mc, .slice za zs.length zc) ?_ ?_ ?_
  · exact ⟨⟨Nat.zero_le _, hM, hZ, hlm, hlz⟩, hE, hB2, hB4⟩
  · repeat (first | exact sub_nil | refine sub_cons rfl ?_)
  · rintro ⟨s, cv2, sv2⟩ wr ⟨⟨hs, hM, hZ, hl1, hl2⟩, hE, hB2, hB4⟩
    replace hs : s ≤ l.length := hs
    replace hM : MOwn w.heap.size wr cv2 (runF (e, ms, zs) (l.take s)).2.1 := hM
    replace hZ : IOwn w.heap.size wr sv2 (runF (e, ms, zs) (l.take s)).2.2 := hZ
    replace hl1 : (runF (e, ms, zs) (l.take s)).2.1.length ≤ 1099511627776 := hl1
    replace hl2 : (runF (e, ms, zs) (l.take s)).2.2.length ≤ 1099511627776 := hl2
    replace hB2 : Blk wr b2 [.int .i64 (runF (e, ms, zs) (l.take s)).1, cv2, sv2] 27 := hB2
    obtain ⟨ma2, mc2, rfl, -⟩ := hM.form
    obtain ⟨za2, zc2, rfl, -⟩ := hZ.form
    refine wc_seq ?_
    refine wc_region ?_
    refine wl_val hW rfl rfl (x_lss rfl rfl) ?_
    refine wl_nil ?_
    refine nx_then ?_
    refine wc_seq ?_
    refine wc_dec rfl (fun hc => ?_) (fun hc => ?_)
    · refine wc_skip ?_
      refine nx_then ?_
      refine wc_seq ?_
      refine wc_block ?_
      refine wc_seq ?_
      refine wc_region ?_
      replace hc : ((s : Nat) : Int) < l.length := hc
      have hlt : s < l.length := by omega
      obtain ⟨b, o, cap', e1, -, hC15⟩ := (hL.ext hE).at s hlt
      cases e1
      have hsn := runF_snoc (c := (e, ms, zs)) hlt
      obtain ⟨hl3, hl4⟩ := step_len (x := l[s]) hl1 hl2
      rw [← hsn] at hl3 hl4
      obtain ⟨c, hcd⟩ : ∃ c, c = runF (e, ms, zs) (l.take s) := ⟨_, rfl⟩
      rw [← hcd] at hM hZ hB2 hl1 hl2 hsn
      rw [← hcd]
      refine wl_val hW rfl rfl (x_indexAddr Try.underlying22 ag32.siz rfl rfl (by omega) (by omega)) ?_
      refine wl_val hW rfl rfl (x_loadA ag32 rfl hC15 rfl) ?_
      refine wl_alloc (cs := [.int .i64 0, .int .i64 0, .int .i64 0, .int .i64 0]) hW rfl rfl Try.zeroValue32 rfl ?_
      intro b6 w6 hl6 hB6 hx6
      have g6 : w.heap.size ≤ b6 := Nat.le_trans hE.size hl6
      have n6_2 : b6 ≠ b2 := Nat.ne_of_gt (Nat.lt_of_lt_of_le hB2.lt hl6)
      replace hB2 := hB2.ext hx6
      have n6_4 : b6 ≠ b4 := Nat.ne_of_gt (Nat.lt_of_lt_of_le hB4.lt hl6)
      replace hB4 := hB4.ext hx6
      replace hE := hE.trans hx6
      refine wl_storeA hW rfl ag32 rfl rfl rfl rfl hB6 rfl ?_
      intro wS hBS hkS
      replace hM := (hM.ext hx6).keep hkS (fun b hb => (hM.ext hx6).ne hb hB6 (by decide))
      replace hZ := (hZ.ext hx6).keep hkS (fun b hb => (hZ.ext hx6).ne hb hB6 (by decide))
      replace hB2 := hB2.keep hkS n6_2.symm
      replace hB4 := hB4.keep hkS n6_4.symm
      replace hB6 := hBS
      clear hBS
      replace hE := hE.store hkS g6
      refine wl_nil ?_
      refine nx_then ?_
      refine wc_seq ?_
      refine wc_region ?_
      refine wl_val hW rfl rfl (x_loadA ag27 rfl hB2.cells rfl) ?_
      refine wl_val hW rfl rfl (x_loadA ag32 rfl hB6.cells rfl) ?_
      have hsz8 := hE.size
      refine wl_call hW rfl rfl (x_call en8 rfl) ((C8 (x := l[s]) (hM.row cellsM_len hl1) (hZ.row cellsI_len hl2)).inF hFF) ?_
      rintro _ wD ⟨⟨cv3, sv3, rfl, hM3, hZ3⟩, hxC⟩
      replace hB2 := hB2.ext hxC
      replace hB4 := hB4.ext hxC
      replace hB6 := hB6.ext hxC
      replace hE := hE.trans hxC
      replace hM := hM.ext hxC
      replace hZ := hZ.ext hxC
      replace hM3 : MOwn w.heap.size wD cv3 (doF c.1 c.2.1 c.2.2 l[s]).2.2.1 := hM3.rebase fun b hb => Nat.le_trans hsz8 (hM3.ge hb)
      replace hZ3 : IOwn w.heap.size wD sv3 (doF c.1 c.2.1 c.2.2 l[s]).2.2.2 := hZ3.rebase fun b hb => Nat.le_trans hsz8 (hZ3.ge hb)
      obtain ⟨ma3, mc3, rfl, -⟩ := hM3.form
      obtain ⟨za3, zc3, rfl, -⟩ := hZ3.form
      refine wl_val hW rfl rfl (x_move rfl) ?_
      refine wl_val hW rfl rfl (x_extract rfl rfl) ?_
      refine wl_val hW rfl rfl (x_extract rfl rfl) ?_
      refine wl_alloc (cs := [.int .i64 0, .slice none 0 0, .slice none 0 0]) hW rfl rfl Try.zeroValue27 rfl ?_
      intro b7 w7 hl7 hB7 hx7
      have g7 : w.heap.size ≤ b7 := Nat.le_trans hE.size hl7
      have n7_2 : b7 ≠ b2 := Nat.ne_of_gt (Nat.lt_of_lt_of_le hB2.lt hl7)
      replace hB2 := hB2.ext hx7
      have n7_4 : b7 ≠ b4 := Nat.ne_of_gt (Nat.lt_of_lt_of_le hB4.lt hl7)
      replace hB4 := hB4.ext hx7
      have n7_6 : b7 ≠ b6 := Nat.ne_of_gt (Nat.lt_of_lt_of_le hB6.lt hl7)
      replace hB6 := hB6.ext hx7
      replace hE := hE.trans hx7
      refine wl_storeA hW rfl ag27 rfl rfl rfl rfl hB7 rfl ?_
      intro wS hBS hkS
      replace hM := (hM.ext hx7).keep hkS (fun b hb => (hM.ext hx7).ne hb hB7 (by decide))
      replace hZ := (hZ.ext hx7).keep hkS (fun b hb => (hZ.ext hx7).ne hb hB7 (by decide))
      replace hM3 := (hM3.ext hx7).keep hkS (fun b hb => (hM3.ext hx7).ne hb hB7 (by decide))
      replace hZ3 := (hZ3.ext hx7).keep hkS (fun b hb => (hZ3.ext hx7).ne hb hB7 (by decide))
      replace hB2 := hB2.keep hkS n7_2.symm
      replace hB4 := hB4.keep hkS n7_4.symm
      replace hB6 := hB6.keep hkS n7_6.symm
      replace hB7 := hBS
      clear hBS
      replace hE := hE.store hkS g7
      refine wl_val hW rfl rfl (x_assign rfl) ?_
      refine wl_nil ?_
      refine nx_then ?_
      refine wc_seq ?_
      refine wc_region ?_
      refine wl_val hW rfl rfl (x_move rfl) ?_
      refine wl_val hW rfl rfl (x_eql rfl rfl) ?_
      refine wl_nil ?_
      refine nx_then ?_
      refine wc_dec rfl (fun hc => ?_) (fun hc => ?_)
      · replace hc : (doF c.1 c.2.1 c.2.2 l[s]).1 = 0 := hc
        have hst : runF (e, ms, zs) (l.take (s + 1)) = (doF c.1 c.2.1 c.2.2 l[s]).2 := by rw [hsn]; unfold stepF; rw [if_pos hc]
        refine wc_region ?_
        refine wl_val hW rfl rfl (x_loadA ag27 rfl hB7.cells rfl) ?_
        refine wl_storeA hW rfl ag27 rfl rfl rfl rfl hB2 rfl ?_
        intro wS hBS hkS
        replace hM3 := hM3.keep hkS (fun b hb => hM3.ne hb hB2 (by decide))
        replace hZ3 := hZ3.keep hkS (fun b hb => hZ3.ne hb hB2 (by decide))
        replace hB4 := hB4.keep hkS n4_2
        replace hB6 := hB6.keep hkS n6_2
        replace hB7 := hB7.keep hkS n7_2
        replace hB2 := hBS
        clear hBS
        replace hE := hE.store hkS g2
        refine wl_nil ?_
        refine nx_block ?_
        refine nx_then ?_
        refine wc_region ?_
        refine wl_val hW rfl rfl (x_inc (s := s) rfl (by omega)) ?_
        refine wl_val hW rfl rfl (x_move rfl) ?_
        refine wl_nil ?_
        exact nx_next (s + 1, .slice ma3 _ mc3, .slice za3 _ zc3) (by dsimp only; omega) ⟨⟨hlt, by dsimp only; rw [hst]; exact hM3, by dsimp only; rw [hst]; exact hZ3, hl3, hl4⟩, hE, by dsimp only; rw [hst]; exact hB2, hB4⟩ (by repeat (first | exact sub_nil | refine sub_cons rfl ?_))
      · replace hc : ¬ (doF c.1 c.2.1 c.2.2 l[s]).1 = 0 := hc
        have hst : runF (e, ms, zs) (l.take (s + 1)) = c := by rw [hsn]; unfold stepF; rw [if_neg hc]
        refine wc_skip ?_
        refine nx_block ?_
        refine nx_then ?_
        refine wc_region ?_
        refine wl_val hW rfl rfl (x_inc (s := s) rfl (by omega)) ?_
        refine wl_val hW rfl rfl (x_move rfl) ?_
        refine wl_nil ?_
        exact nx_next (s + 1, .slice ma2 _ mc2, .slice za2 _ zc2) (by dsimp only; omega) ⟨⟨hlt, by dsimp only; rw [hst]; exact hM, by dsimp only; rw [hst]; exact hZ, hl3, hl4⟩, hE, by dsimp only; rw [hst]; exact hB2, hB4⟩ (by repeat (first | exact sub_nil | refine sub_cons rfl ?_))
    · refine wc_exit ?_
      have hse : s = l.length := by have h' : ¬ ((s : Nat) : Int) < l.length := hc; omega
      rw [hse, List.take_length] at hM hZ hB2
      refine nx_then_exit ?_
      refine nx_then_exit ?_
      refine nx_block_exit ?_
      refine nx_then ?_
      refine wc_seq ?_
      refine wc_region ?_
      refine wl_val hW rfl rfl (x_loadA ag27 rfl hB2.cells rfl) ?_
      refine wl_storeA hW rfl ag27 rfl rfl rfl rfl hB4 rfl ?_
      intro wS hBS hkS
      replace hM := hM.keep hkS (fun b hb => hM.ne hb hB4 (by decide))
      replace hZ := hZ.keep hkS (fun b hb => hZ.ne hb hB4 (by decide))
      replace hB2 := hB2.keep hkS n4_2.symm
      replace hB4 := hBS
      clear hBS
      replace hE := hE.store hkS g4
      refine wl_nil ?_
      refine nx_then ?_
      refine wc_ret ?_
      exact ends_ret (res_cell Try.results13 rfl (run_loadVar_cells ag27 hB4.cells rfl)) ⟨⟨_, _, rfl, hM, hZ⟩, hE⟩
end Go.Proofs.Ytiaikajibefieaa.K

