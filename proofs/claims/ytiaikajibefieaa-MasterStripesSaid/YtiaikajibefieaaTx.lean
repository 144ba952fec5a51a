/- Walk: what MasterNext asks. -/
import Derived.Test.YtiaikajibefieaaTw
namespace Go.Proofs.Ytiaikajibefieaa.K
open Go Go.RowKit
set_option linter.unusedVariables false
set_option linter.unusedSimpArgs false
theorem C5 {A : Nat → Prop} {w : World} {la : Option Addr} {n lc : Nat} (hL : n ≤ 1000 → ∃ l, n = l.length ∧ CRow A w (.slice la n lc) l) : Rt Try.prog 5 [.slice la n lc] w fun r w' => r = .bool true ∧ Ext w w' := by
  have hW := hWw
  have hFF := hFw
  have hE : Ext w w := Keep.refl _ _
  refine rt_body Try.func5 rfl Try.ntmps5 rfl ?_
  refine wc_seq ?_
  refine wc_region ?_
  refine wl_val hW rfl rfl (x_assign rfl) ?_
  refine wl_nil ?_
  refine nx_then ?_
  refine wc_seq ?_
  refine wc_seq ?_
  refine wc_region ?_
  refine wl_call hW rfl rfl (x_call en7 rfl) (C7.inF hFF) ?_
  rintro _ wC ⟨rfl, hxC⟩
  replace hE := hE.trans hxC
  refine wl_val hW rfl rfl (x_not rfl) ?_
  refine wl_nil ?_
  refine nx_then ?_
  refine wc_false rfl ?_
  refine wc_skip ?_
  refine nx_then ?_
  refine wc_seq ?_
  refine wc_seq ?_
  refine wc_region ?_
  refine wl_val hW rfl rfl (x_move rfl) ?_
  refine wl_val hW rfl rfl (x_len Try.underlying22 rfl) ?_
  refine wl_val hW rfl rfl (x_gtr rfl rfl) ?_
  refine wl_nil ?_
  refine nx_then ?_
  refine wc_dec rfl (fun hc => ?_) (fun hc => ?_)
  · refine wc_seq ?_
    refine wc_region ?_
    refine wl_val hW rfl rfl (x_assign rfl) ?_
    refine wl_nil ?_
    refine nx_then ?_
    refine wc_ret ?_
    refine nx_then_ret ?_
    exact ends_ret (res_tmp Try.results5 rfl) ⟨rfl, hE⟩
  · have hc' : n ≤ 1000 := by have h' : ¬ ((1000 : Nat) : Int) < (n : Int) := hc; omega
    obtain ⟨l, rfl, hL⟩ := hL hc'
    refine wc_skip ?_
    refine nx_then ?_
    refine wc_seq ?_
    refine wc_region ?_
    refine wl_val hW rfl rfl (x_build27z) ?_
    refine wl_val hW rfl rfl (x_move rfl) ?_
    refine wl_call hW rfl rfl (x_call en13 rfl) ((C13 (A := fun _ => True) (A2 := fun _ => True) (l := l) grow_nil grow_nil (hL.ext hE)).inF hFF) ?_
    rintro _ wC ⟨⟨cv, sv, rfl, hM, hZ⟩, hxC⟩
    have hV := run_vld l (c := (0, [], [])) vld0
    obtain ⟨c, hcd⟩ : ∃ c, c = runF (0, [], []) l := ⟨_, rfl⟩
    rw [← hcd] at hM hZ hV
    rw [← hcd]
    obtain ⟨ma, mc, rfl, -⟩ := hM.form
    obtain ⟨za, zc, rfl, -⟩ := hZ.form
    have hl1 : c.2.1.length ≤ 1099511627776 := Nat.le_trans hV.len (by decide)
    replace hE := hE.trans hxC
    refine wl_alloc (cs := [.int .i64 0, .slice none 0 0, .slice none 0 0]) hW rfl rfl Try.zeroValue27 rfl ?_
    intro b3 w3 hl3 hB3 hx3
    have hR : MRow (fun k => k < b3) w3 (.slice ma c.2.1.length mc) c.2.1 := ((hM.row cellsM_len hl1).mono (fun k hk _ => Nat.lt_of_lt_of_le hk hl3)).ext hx3
    have g3 : w.heap.size ≤ b3 := Nat.le_trans hE.size hl3
    replace hE := hE.trans hx3
    refine wl_storeA hW rfl ag27 rfl rfl rfl rfl hB3 rfl ?_
    intro wS hBS hkS
    replace hR := hR.keep hkS (fun k _ hk => Nat.ne_of_lt hk)
    replace hB3 := hBS
    clear hBS
    replace hE := hE.store hkS g3
    refine wl_nil ?_
    refine nx_then ?_
    refine wc_seq ?_
    refine wc_region ?_
    refine wl_val hW rfl rfl (x_loadA ag27 rfl hB3.cells rfl) ?_
    refine wl_call hW rfl rfl (x_call en15 rfl) ((C15h hR).inF hFF) ?_
    rintro _ wC ⟨rfl, hxC⟩
    replace hR := hR.ext hxC
    replace hB3 := hB3.ext hxC
    replace hE := hE.trans hxC
    refine wl_val hW rfl rfl (x_move rfl) ?_
    refine wl_val hW rfl rfl (x_extract rfl rfl) ?_
    refine wl_val hW rfl rfl (x_extract rfl rfl) ?_
    refine wl_alloc (cs := [.int .i64 0, .int .i64 0, .bool false]) hW rfl rfl Try.zeroValue35 rfl ?_
    intro b4 w4 hl4 hB4 hx4
    have h34 : b3 < b4 := Nat.lt_of_lt_of_le hB3.lt hl4
    replace hR := hR.ext hx4
    have g4 : w.heap.size ≤ b4 := Nat.le_trans hE.size hl4
    have n4_3 : b4 ≠ b3 := Nat.ne_of_gt (Nat.lt_of_lt_of_le hB3.lt hl4)
    replace hB3 := hB3.ext hx4
    replace hE := hE.trans hx4
    refine wl_storeA hW rfl ag35 rfl rfl rfl rfl hB4 rfl ?_
    intro wS4 hBS hkS
    replace hR := hR.keep hkS (fun k _ hk => Nat.ne_of_lt (Nat.lt_trans hk h34))
    replace hB3 := hB3.keep hkS n4_3.symm
    replace hB4 : Blk wS4 b4 (cellsM (memAt c.2.1 ((0 : Nat) : Int))) 35 := hBS
    clear hBS
    replace hE := hE.store hkS g4
    refine wl_val hW rfl rfl (x_assign rfl) ?_
    refine wl_nil ?_
    refine nx_then ?_
    refine wc_seq ?_
    refine wc_region ?_
    refine wl_val hW rfl rfl (x_loadA ag27 rfl hB3.cells rfl) ?_
    refine wl_call hW rfl rfl (x_call en16 rfl) ((C16h hR).inF hFF) ?_
    rintro _ wC ⟨rfl, hxC⟩
    replace hR := hR.ext hxC
    replace hB3 := hB3.ext hxC
    replace hB4 := hB4.ext hxC
    replace hE := hE.trans hxC
    refine wl_val hW rfl rfl (x_move rfl) ?_
    refine wl_val hW rfl rfl (x_extract rfl rfl) ?_
    refine wl_val hW rfl rfl (x_extract rfl rfl) ?_
    refine wl_alloc (cs := [.int .i64 0, .int .i64 0, .bool false]) hW rfl rfl Try.zeroValue35 rfl ?_
    intro b6 w6 hl6 hB6 hx6
    have h36 : b3 < b6 := Nat.lt_of_lt_of_le hB3.lt hl6
    replace hR := hR.ext hx6
    have g6 : w.heap.size ≤ b6 := Nat.le_trans hE.size hl6
    have n6_3 : b6 ≠ b3 := Nat.ne_of_gt (Nat.lt_of_lt_of_le hB3.lt hl6)
    replace hB3 := hB3.ext hx6
    have n6_4 : b6 ≠ b4 := Nat.ne_of_gt (Nat.lt_of_lt_of_le hB4.lt hl6)
    replace hB4 := hB4.ext hx6
    replace hE := hE.trans hx6
    refine wl_storeA hW rfl ag35 rfl rfl rfl rfl hB6 rfl ?_
    intro wS6 hBS hkS
    replace hR := hR.keep hkS (fun k _ hk => Nat.ne_of_lt (Nat.lt_trans hk h36))
    replace hB3 := hB3.keep hkS n6_3.symm
    replace hB4 := hB4.keep hkS n6_4.symm
    replace hB6 : Blk wS6 b6 (cellsM (memAt c.2.1 ((c.2.1.length : Int) - 1))) 35 := hBS
    clear hBS
    replace hE := hE.store hkS g6
    refine wl_val hW rfl rfl (x_assign rfl) ?_
    refine wl_nil ?_
    refine nx_then ?_
    refine wc_seq ?_
    refine wc_seq ?_
    refine wc_cut [(3, .pointer (some ⟨b3, 0, none⟩)), (4, .pointer (some ⟨b4, 0, none⟩)), (5, .bool (decide (0 < c.2.1.length))), (6, .pointer (some ⟨b6, 0, none⟩)), (41, .bool false)] (fun w' => w' = wS6) ?_ ?_
    · refine wc_region ?_
      refine wl_val hW rfl rfl (x_move rfl) ?_
      refine wl_val hW rfl rfl (x_move rfl) ?_
      refine wl_val hW rfl rfl (x_bneqF rfl rfl Try.underlying4 rfl) ?_
      refine wl_val hW rfl rfl (x_move rfl) ?_
      refine wl_val hW rfl rfl (x_move rfl) ?_
      refine wl_val hW rfl rfl (x_fieldAddr Try.underlying27 rfl fl24.siz rfl) ?_
      refine wl_val hW rfl rfl (x_load fl24 rfl (hB3.cell (o := 1) rfl)) ?_
      refine wl_val hW rfl rfl (x_len Try.underlying24 rfl) ?_
      refine wl_val hW rfl rfl (x_gtr rfl rfl) ?_
      refine wl_val hW rfl rfl (x_bneqF rfl rfl Try.underlying4 (decide_eq_decide.2 (by omega))) ?_
      refine wl_val hW rfl rfl (x_pickF rfl rfl) ?_
      refine wl_nil ?_
      exact nx_cut (by repeat (first | exact sub_nil | refine sub_cons rfl ?_)) rfl
    · intro wX hwX
      obtain rfl : wS6 = wX := hwX.symm
      refine nx_then ?_
      refine wc_false rfl ?_
      refine wc_skip ?_
      refine nx_then ?_
      refine wc_seq ?_
      refine wc_region ?_
      refine wl_val hW rfl rfl (x_assign rfl) ?_
      refine wl_nil ?_
      refine nx_then ?_
      refine wc_seq ?_
      refine wc_block ?_
      refine wc_loop (σ := Nat) (fun s => [(3, .pointer (some ⟨b3, 0, none⟩)), (4, .pointer (some ⟨b4, 0, none⟩)), (5, .bool (decide (s < c.2.1.length))), (6, .pointer (some ⟨b6, 0, none⟩)), (8, .int .i64 (s : Nat))]) (fun s w' => (s ≤ c.2.1.length ∧ Keep (· ≠ b4) wS6 w') ∧ Blk w' b4 (cellsM (memAt c.2.1 ((s : Nat) : Int))) 35) (fun s => c.2.1.length - s) 0 ?_ ?_ ?_
      · exact ⟨⟨Nat.zero_le _, Keep.refl _ _⟩, hB4⟩
      · repeat (first | exact sub_nil | refine sub_cons rfl ?_)
      · rintro s wr ⟨⟨hs, hK⟩, hB4⟩
        replace hs : s ≤ c.2.1.length := hs
        replace hB4 : Blk wr b4 (cellsM (memAt c.2.1 ((s : Nat) : Int))) 35 := hB4
        replace hB3 := hB3.keep hK n4_3.symm
        replace hB6 := hB6.keep hK n6_4
        replace hR := hR.keep hK (fun k _ hk => Nat.ne_of_lt (Nat.lt_trans hk h34))
        replace hE : Ext w wr := Keep.after hE hK (fun k hk => Nat.ne_of_lt (Nat.lt_of_lt_of_le hk g4))
        refine wc_seq ?_
        refine wc_seq ?_
        refine wc_region ?_
        refine wl_val hW rfl rfl (x_move rfl) ?_
        refine wl_nil ?_
        refine nx_then ?_
        refine wc_bool rfl (fun hc => ?_) (fun hc => ?_)
        · have hlt : s < c.2.1.length := of_decide_eq_true hc
          have hat : memAt c.2.1 ((s : Nat) : Int) = c.2.1[s] := memAt_in hlt
          have hpl : idxN c.2.1 c.2.1[s].n = s := idx_self hV.npw hlt
          obtain ⟨g, o, cap', e1, -, hC53⟩ := hR.at s hlt
          cases e1
          refine wc_skip ?_
          refine nx_then ?_
          refine wc_block ?_
          refine wc_seq ?_
          refine wc_seq ?_
          refine wc_cut [(3, .pointer (some ⟨b3, 0, none⟩)), (4, .pointer (some ⟨b4, 0, none⟩)), (6, .pointer (some ⟨b6, 0, none⟩)), (8, .int .i64 (s : Nat)), (64, .bool false)] (fun w' => Ext wr w') ?_ ?_
          · refine wc_draw' 20 hW mixed (by kernel_rfl) (fun w0 hx0 => ?_)
            have hR0 := hR.ext hx0
            replace hC53 := hC53.ext hx0
            replace hB3 := hB3.ext hx0
            replace hB4 := hB4.ext hx0
            replace hB6 := hB6.ext hx0
            replace hE := hE.trans hx0
            refine q_val rfl rfl (fun _ hx => x_move rfl) ?_
            refine q_val rfl rfl (fun _ hx => x_fieldAddr Try.underlying27 rfl fl24.siz rfl) ?_
            refine q_val rfl rfl (fun _ hx => x_load fl24 rfl (hx.cell (hB3.cell (o := 1) rfl))) ?_
            refine q_val rfl rfl (fun _ hx => x_len Try.underlying24 rfl) ?_
            refine q_val rfl rfl (fun _ hx => x_geqF rfl rfl (by omega)) ?_
            refine q_val rfl rfl (fun _ hx => x_move rfl) ?_
            refine q_val rfl rfl (fun _ hx => x_loadA ag35 rfl (hB4.ext hx).cells rfl) ?_
            refine q_val rfl rfl (fun _ hx => x_fieldAddr Try.underlying27 rfl fl24.siz rfl) ?_
            refine q_val rfl rfl (fun _ hx => x_load fl24 rfl (hx.cell (hB3.cell (o := 1) rfl))) ?_
            refine q_val rfl rfl (fun _ hx => x_move rfl) ?_
            refine q_val rfl rfl (fun _ hx => x_indexAddr Try.underlying24 ag35.siz rfl rfl (by omega) (by omega)) ?_
            refine q_val rfl rfl (fun _ hx => x_loadA ag35 rfl (hC53.ext hx) rfl) ?_
            refine q_val rfl rfl (fun _ hx => x_neq35F (p := memAt c.2.1 ((s : Nat) : Int)) (q := c.2.1[s]) rfl rfl hat) ?_
            refine q_val rfl rfl (fun _ hx => x_pickF rfl rfl) ?_
            refine q_val rfl rfl (fun _ hx => x_move rfl) ?_
            refine q_val rfl rfl (fun _ hx => x_loadA ag27 rfl (hB3.ext hx).cells rfl) ?_
            refine q_val rfl rfl (fun _ hx => x_fieldAddr Try.underlying35 rfl fl3.siz rfl) ?_
            refine q_val rfl rfl (fun _ hx => x_load fl3 rfl (hx.cell (hB4.cell (o := 0) rfl))) ?_
            refine q_call rfl rfl (fun _ => x_call en10 rfl) (fun w' hx => (C10 (n := (memAt c.2.1 ((s : Nat) : Int)).n) (hR0.ext hx)).inF hFF) ?_
            refine q_val rfl rfl (fun _ hx => x_move rfl) ?_
            refine q_nil (tail0 (fun wt hxt => ?_))
            replace hB3 := hB3.ext hxt
            replace hB4 := hB4.ext hxt
            replace hB6 := hB6.ext hxt
            replace hE := hE.trans hxt
            refine wl_val hW rfl rfl (x_neqF rfl rfl (by rw [hat]; exact hpl)) ?_
            refine wl_val hW rfl rfl (x_pickF rfl rfl) ?_
            refine wl_nil ?_
            exact nx_cut (by repeat (first | exact sub_nil | refine sub_cons rfl ?_)) (hx0.trans hxt)
          · rintro wB hxB
            replace hE := hE.trans hxB
            replace hB3 := hB3.ext hxB
            replace hB4 := hB4.ext hxB
            replace hB6 := hB6.ext hxB
            replace hR := hR.ext hxB
            have hKr : Keep (· ≠ b4) wS6 wB := hK.trans (Keep.of_ext hxB)
            refine nx_then ?_
            refine wc_false rfl ?_
            refine wc_skip ?_
            refine nx_then ?_
            refine wc_seq ?_
            refine wc_region ?_
            refine wl_val hW rfl rfl (x_loadA ag27 rfl hB3.cells rfl) ?_
            refine wl_val hW rfl rfl (x_fieldAddr Try.underlying35 rfl fl3.siz rfl) ?_
            refine wl_val hW rfl rfl (x_load fl3 rfl (hB4.cell (o := 0) rfl)) ?_
            refine wl_call hW rfl rfl (x_call en17 rfl) ((C17h (s := s) hR hV.npw hlt (by rw [hat])).inF hFF) ?_
            rintro _ wC ⟨rfl, hxC⟩
            replace hR := hR.ext hxC
            replace hKr := hKr.trans (Keep.of_ext hxC)
            replace hB3 := hB3.ext hxC
            replace hB4 := hB4.ext hxC
            replace hB6 := hB6.ext hxC
            replace hE := hE.trans hxC
            refine wl_val hW rfl rfl (x_move rfl) ?_
            refine wl_val hW rfl rfl (x_extract rfl rfl) ?_
            refine wl_val hW rfl rfl (x_extract rfl rfl) ?_
            refine wl_alloc (cs := [.int .i64 0, .int .i64 0, .bool false]) hW rfl rfl Try.zeroValue35 rfl ?_
            intro b9 w9 hl9 hB9 hx9
            have h39 : b3 < b9 := Nat.lt_of_lt_of_le hB3.lt hl9
            replace hR := hR.ext hx9
            have hb9 : wS6.heap.size ≤ b9 := Nat.le_trans hKr.size hl9
            replace hKr := hKr.trans (Keep.of_ext hx9)
            have g9 : w.heap.size ≤ b9 := Nat.le_trans hE.size hl9
            have n9_3 : b9 ≠ b3 := Nat.ne_of_gt (Nat.lt_of_lt_of_le hB3.lt hl9)
            replace hB3 := hB3.ext hx9
            have n9_4 : b9 ≠ b4 := Nat.ne_of_gt (Nat.lt_of_lt_of_le hB4.lt hl9)
            replace hB4 := hB4.ext hx9
            have n9_6 : b9 ≠ b6 := Nat.ne_of_gt (Nat.lt_of_lt_of_le hB6.lt hl9)
            replace hB6 := hB6.ext hx9
            replace hE := hE.trans hx9
            refine wl_storeA hW rfl ag35 rfl rfl rfl rfl hB9 rfl ?_
            intro wS9 hBS hkS
            replace hR := hR.keep hkS (fun k _ hk => Nat.ne_of_lt (Nat.lt_trans hk h39))
            replace hKr := hKr.then hkS (fun k hk _ => Nat.ne_of_lt (Nat.lt_of_lt_of_le hk hb9))
            replace hB3 := hB3.keep hkS n9_3.symm
            replace hB4 := hB4.keep hkS n9_4.symm
            replace hB6 := hB6.keep hkS n9_6.symm
            replace hB9 : Blk wS9 b9 (cellsM (memAt c.2.1 ((s + 1 : Nat) : Int))) 35 := hBS
            clear hBS
            replace hE := hE.store hkS g9
            refine wl_val hW rfl rfl (x_assign rfl) ?_
            refine wl_nil ?_
            refine nx_then ?_
            refine wc_seq ?_
            refine wc_seq ?_
            refine wc_region ?_
            refine wl_val hW rfl rfl (x_move rfl) ?_
            refine wl_nil ?_
            refine nx_then ?_
            refine wc_bool rfl (fun hc => ?_) (fun hc => ?_)
            · have hlt2 : s + 1 < c.2.1.length := of_decide_eq_true hc
              have hat2 : memAt c.2.1 ((s + 1 : Nat) : Int) = c.2.1[s + 1] := memAt_in hlt2
              refine wc_seq ?_
              refine wc_region ?_
              refine wl_val hW rfl rfl (x_loadA ag27 rfl hB3.cells rfl) ?_
              refine wl_val hW rfl rfl (x_fieldAddr Try.underlying35 rfl fl3.siz rfl) ?_
              refine wl_val hW rfl rfl (x_load fl3 rfl (hB9.cell (o := 0) rfl)) ?_
              refine wl_call hW rfl rfl (x_call en18 rfl) ((C18h (s := s) hR hV.npw hlt2 (by rw [hat2])).inF hFF) ?_
              rintro _ wC ⟨rfl, hxC⟩
              replace hR := hR.ext hxC
              replace hKr := hKr.trans (Keep.of_ext hxC)
              replace hB3 := hB3.ext hxC
              replace hB4 := hB4.ext hxC
              replace hB6 := hB6.ext hxC
              replace hB9 := hB9.ext hxC
              replace hE := hE.trans hxC
              refine wl_val hW rfl rfl (x_move rfl) ?_
              refine wl_val hW rfl rfl (x_extract rfl rfl) ?_
              refine wl_val hW rfl rfl (x_extract rfl rfl) ?_
              refine wl_alloc (cs := [.int .i64 0, .int .i64 0, .bool false]) hW rfl rfl Try.zeroValue35 rfl ?_
              intro b11 w11 hl11 hB11 hx11
              have h311 : b3 < b11 := Nat.lt_of_lt_of_le hB3.lt hl11
              replace hR := hR.ext hx11
              have hb11 : wS6.heap.size ≤ b11 := Nat.le_trans hKr.size hl11
              replace hKr := hKr.trans (Keep.of_ext hx11)
              have g11 : w.heap.size ≤ b11 := Nat.le_trans hE.size hl11
              have n11_3 : b11 ≠ b3 := Nat.ne_of_gt (Nat.lt_of_lt_of_le hB3.lt hl11)
              replace hB3 := hB3.ext hx11
              have n11_4 : b11 ≠ b4 := Nat.ne_of_gt (Nat.lt_of_lt_of_le hB4.lt hl11)
              replace hB4 := hB4.ext hx11
              have n11_6 : b11 ≠ b6 := Nat.ne_of_gt (Nat.lt_of_lt_of_le hB6.lt hl11)
              replace hB6 := hB6.ext hx11
              have n11_9 : b11 ≠ b9 := Nat.ne_of_gt (Nat.lt_of_lt_of_le hB9.lt hl11)
              replace hB9 := hB9.ext hx11
              replace hE := hE.trans hx11
              refine wl_storeA hW rfl ag35 rfl rfl rfl rfl hB11 rfl ?_
              intro wS11 hBS hkS
              replace hR := hR.keep hkS (fun k _ hk => Nat.ne_of_lt (Nat.lt_trans hk h311))
              replace hKr := hKr.then hkS (fun k hk _ => Nat.ne_of_lt (Nat.lt_of_lt_of_le hk hb11))
              replace hB3 := hB3.keep hkS n11_3.symm
              replace hB4 := hB4.keep hkS n11_4.symm
              replace hB6 := hB6.keep hkS n11_6.symm
              replace hB9 := hB9.keep hkS n11_9.symm
              replace hB11 : Blk wS11 b11 (cellsM c.2.1[s]) 35 := hBS
              clear hBS
              replace hE := hE.store hkS g11
              refine wl_val hW rfl rfl (x_assign rfl) ?_
              refine wl_nil ?_
              refine nx_then ?_
              refine wc_seq ?_
              refine wc_cut [(3, .pointer (some ⟨b3, 0, none⟩)), (4, .pointer (some ⟨b4, 0, none⟩)), (6, .pointer (some ⟨b6, 0, none⟩)), (8, .int .i64 (s : Nat)), (9, .pointer (some ⟨b9, 0, none⟩)), (10, .bool (decide (s + 1 < c.2.1.length))), (86, .bool false)] (fun w' => w' = wS11) ?_ ?_
              · refine wc_region ?_
                refine wl_val hW rfl rfl (x_move rfl) ?_
                refine wl_val hW rfl rfl (x_not (b := true) rfl) ?_
                refine wl_val hW rfl rfl (x_move rfl) ?_
                refine wl_val hW rfl rfl (x_loadA ag35 rfl hB11.cells rfl) ?_
                refine wl_val hW rfl rfl (x_loadA ag35 rfl hB4.cells rfl) ?_
                refine wl_val hW rfl rfl (x_neq35F (p := c.2.1[s]) (q := memAt c.2.1 ((s : Nat) : Int)) rfl rfl hat.symm) ?_
                refine wl_val hW rfl rfl (x_pickF rfl rfl) ?_
                refine wl_nil ?_
                exact nx_cut (by repeat (first | exact sub_nil | refine sub_cons rfl ?_)) rfl
              · intro wX hwX
                obtain rfl : wS11 = wX := hwX.symm
                refine nx_then ?_
                refine wc_false rfl ?_
                refine wc_skip ?_
                refine nx_then ?_
                refine wc_seq ?_
                refine wc_region ?_
                refine wl_val hW rfl rfl (x_loadA ag35 rfl hB9.cells rfl) ?_
                refine wl_storeA hW rfl ag35 rfl rfl rfl rfl hB4 rfl ?_
                intro wSn hBS hkS
                replace hB3 := hB3.keep hkS n4_3.symm
                replace hB6 := hB6.keep hkS n6_4
                replace hB9 := hB9.keep hkS n9_4
                replace hB11 := hB11.keep hkS n11_4
                replace hB4 : Blk wSn b4 (cellsM (memAt c.2.1 ((s + 1 : Nat) : Int))) 35 := hBS
                replace hKr := hKr.trans hkS
                clear hBS
                replace hE := hE.store hkS g4
                refine wl_nil ?_
                refine nx_then ?_
                refine wc_seq ?_
                refine wc_region ?_
                refine wl_val hW rfl rfl (x_move rfl) ?_
                refine wl_val hW rfl rfl (x_assign rfl) ?_
                refine wl_nil ?_
                refine nx_then ?_
                refine wc_region ?_
                refine wl_val hW rfl rfl (x_move rfl) ?_
                refine wl_val hW rfl rfl (x_inc (s := s) rfl (by omega)) ?_
                refine wl_val hW rfl rfl (x_assign rfl) ?_
                refine wl_nil ?_
                refine nx_block ?_
                exact nx_next (s + 1) (by omega) ⟨⟨hlt, hKr⟩, hB4⟩ (by repeat (first | exact sub_nil | refine sub_cons rfl ?_))
            · have hlt2 : ¬ s + 1 < c.2.1.length := of_decide_eq_false hc
              have hse : (c.2.1.length : Int) - 1 = ((s : Nat) : Int) := by omega
              refine wc_seq ?_
              refine wc_region ?_
              refine wl_val hW rfl rfl (x_loadA ag35 rfl hB4.cells rfl) ?_
              refine wl_val hW rfl rfl (x_loadA ag35 rfl hB6.cells rfl) ?_
              refine wl_val hW rfl rfl (x_neq35F (p := memAt c.2.1 ((s : Nat) : Int)) (q := memAt c.2.1 ((c.2.1.length : Int) - 1)) rfl rfl (by rw [hse])) ?_
              refine wl_nil ?_
              refine nx_then ?_
              refine wc_false rfl ?_
              refine wc_skip ?_
              refine nx_then ?_
              refine wc_seq ?_
              refine wc_region ?_
              refine wl_val hW rfl rfl (x_loadA ag35 rfl hB9.cells rfl) ?_
              refine wl_storeA hW rfl ag35 rfl rfl rfl rfl hB4 rfl ?_
              intro wSn hBS hkS
              replace hB3 := hB3.keep hkS n4_3.symm
              replace hB6 := hB6.keep hkS n6_4
              replace hB9 := hB9.keep hkS n9_4
              replace hB4 : Blk wSn b4 (cellsM (memAt c.2.1 ((s + 1 : Nat) : Int))) 35 := hBS
              replace hKr := hKr.trans hkS
              clear hBS
              replace hE := hE.store hkS g4
              refine wl_nil ?_
              refine nx_then ?_
              refine wc_seq ?_
              refine wc_region ?_
              refine wl_val hW rfl rfl (x_move rfl) ?_
              refine wl_val hW rfl rfl (x_assign rfl) ?_
              refine wl_nil ?_
              refine nx_then ?_
              refine wc_region ?_
              refine wl_val hW rfl rfl (x_move rfl) ?_
              refine wl_val hW rfl rfl (x_inc (s := s) rfl (by omega)) ?_
              refine wl_val hW rfl rfl (x_assign rfl) ?_
              refine wl_nil ?_
              refine nx_block ?_
              exact nx_next (s + 1) (by omega) ⟨⟨hlt, hKr⟩, hB4⟩ (by repeat (first | exact sub_nil | refine sub_cons rfl ?_))
        · have hse : s = c.2.1.length := by have := of_decide_eq_false hc; omega
          refine wc_exit ?_
          refine nx_then_exit ?_
          refine nx_then_exit ?_
          refine nx_block_exit ?_
          refine nx_then ?_
          refine wc_seq ?_
          refine wc_region ?_
          refine wl_val hW rfl rfl (x_move rfl) ?_
          refine wl_val hW rfl rfl (x_fieldAddr Try.underlying27 rfl fl24.siz rfl) ?_
          refine wl_val hW rfl rfl (x_load fl24 rfl (hB3.cell (o := 1) rfl)) ?_
          refine wl_val hW rfl rfl (x_len Try.underlying24 rfl) ?_
          refine wl_val hW rfl rfl (x_eqlT rfl rfl (by omega)) ?_
          refine wl_val hW rfl rfl (x_assign rfl) ?_
          refine wl_nil ?_
          refine nx_then ?_
          refine wc_ret ?_
          exact ends_ret (res_tmp Try.results5 rfl) ⟨rfl, hE⟩
end Go.Proofs.Ytiaikajibefieaa.K

