/- Walk: what MasterHolds asks. -/
import Derived.Test.YtiaikajibefieaaTr
namespace Go.Proofs.Ytiaikajibefieaa.K
open Go Go.RowKit
set_option linter.unusedVariables false
set_option linter.unusedSimpArgs false
theorem x_bneqF {m : Nat} {D : List Deferred} {L : Env} {w : World} {t ty t' : TypeId} {x y : Operand} {b c : Bool} (hx : ev L x = some (.bool b)) (hy : ev L y = some (.bool c)) (hu : Try.prog.underlying t = some .bool) (hr : b = c) : Xv Try.prog m D L (.binOp .neq t x y t') ty w (.bool false) w := by
  have := x_bneq (P := Try.prog) (m := m) (D := D) (ty := ty) (t' := t') (w := w) hx hy hu
  subst hr
  simpa using this
theorem C3 {A : Nat → Prop} {w : World} {la : Option Addr} {n lc : Nat} (hL : n ≤ 1000 → ∃ l, n = l.length ∧ CRow A w (.slice la n lc) l) : Rt Try.prog 3 [.slice la n lc] w fun r w' => r = .bool true ∧ Ext w w' := by
  have hW := hWw
  have hFF := hFw
  have hE : Ext w w := Keep.refl _ _
  refine rt_body Try.func3 rfl Try.ntmps3 rfl ?_
  refine wc_seq ?_
  refine wc_region ?_
  refine wl_val hW rfl rfl (x_assign rfl) ?_
  refine wl_nil ?_
  refine nx_then ?_
  refine wc_seq ?_
  refine wc_seq ?_
  refine wc_region ?_
  refine wl_call hW rfl rfl (x_call en7 rfl) (C7.inF hFF) ?_
  rintro _ wC ⟨rfl, hxC⟩
  replace hE := hE.trans hxC
  refine wl_val hW rfl rfl (x_not rfl) ?_
  refine wl_nil ?_
  refine nx_then ?_
  refine wc_false rfl ?_
  refine wc_skip ?_
  refine nx_then ?_
  refine wc_seq ?_
  refine wc_seq ?_
  refine wc_region ?_
  refine wl_val hW rfl rfl (x_move rfl) ?_
  refine wl_val hW rfl rfl (x_len Try.underlying22 rfl) ?_
  refine wl_val hW rfl rfl (x_gtr rfl rfl) ?_
  refine wl_nil ?_
  refine nx_then ?_
  refine wc_dec rfl (fun hc => ?_) (fun hc => ?_)
  · refine wc_seq ?_
    refine wc_region ?_
    refine wl_val hW rfl rfl (x_assign rfl) ?_
    refine wl_nil ?_
    refine nx_then ?_
    refine wc_ret ?_
    refine nx_then_ret ?_
    exact ends_ret (res_tmp Try.results3 rfl) ⟨rfl, hE⟩
  · have hc' : n ≤ 1000 := by have h' : ¬ ((1000 : Nat) : Int) < (n : Int) := hc; omega
    obtain ⟨l, rfl, hL⟩ := hL hc'
    have hM0 : MOwn w.heap.size w (.slice none 0 0) [] := gown_nil
    refine wc_skip ?_
    refine nx_then ?_
    refine wc_seq ?_
    refine wc_region ?_
    refine wl_val hW rfl rfl (x_build27z) ?_
    refine wl_alloc (cs := [.int .i64 0, .slice none 0 0, .slice none 0 0]) hW rfl rfl Try.zeroValue27 rfl ?_
    intro b3 w3 hl3 hB3 hx3
    have g3 : w.heap.size ≤ b3 := Nat.le_trans hE.size hl3
    replace hE := hE.trans hx3
    refine wl_storeA hW rfl ag27 rfl rfl rfl rfl hB3 rfl ?_
    intro wS hBS hkS
    replace hB3 := hBS
    clear hBS
    replace hE := hE.store hkS g3
    refine wl_nil ?_
    refine nx_then ?_
    refine wc_seq ?_
    refine wc_seq ?_
    refine wc_region ?_
    refine wl_val hW rfl rfl (x_assign rfl) ?_
    refine wl_nil ?_
    refine nx_then ?_
    refine wc_block ?_
    refine wc_loop (σ := Nat × Value × Value) (fun s => [(0, .slice la l.length lc), (3, .pointer (some ⟨b3, 0, none⟩)), (4, .int .i64 (s.1 : Nat))]) (fun s w' => (s.1 ≤ l.length ∧ MOwn w.heap.size w' s.2.1 (runF (0, [], []) (l.take s.1)).2.1 ∧ IOwn w.heap.size w' s.2.2 (runF (0, [], []) (l.take s.1)).2.2) ∧ Ext w w' ∧ Blk w' b3 [.int .i64 (runF (0, [], []) (l.take s.1)).1, s.2.1, s.2.2] 27) (fun s => l.length - s.1) (0, .slice none 0 0, .slice none 0 0) ?_ ?_ ?_
    · exact ⟨⟨Nat.zero_le _, gown_nil, gown_nil⟩, hE, hB3⟩
    · repeat (first | exact sub_nil | refine sub_cons rfl ?_)
    · rintro ⟨s, cv2, sv2⟩ wr ⟨⟨hs, hM, hZ⟩, hE, hB3⟩
      replace hs : s ≤ l.length := hs
      replace hM : MOwn w.heap.size wr cv2 (runF (0, [], []) (l.take s)).2.1 := hM
      replace hZ : IOwn w.heap.size wr sv2 (runF (0, [], []) (l.take s)).2.2 := hZ
      replace hB3 : Blk wr b3 [.int .i64 (runF (0, [], []) (l.take s)).1, cv2, sv2] 27 := hB3
      obtain ⟨ma2, mc2, rfl, -⟩ := hM.form
      obtain ⟨za2, zc2, rfl, -⟩ := hZ.form
      refine wc_seq ?_
      refine wc_seq ?_
      refine wc_region ?_
      refine wl_val hW rfl rfl (x_move rfl) ?_
      refine wl_val hW rfl rfl (x_move rfl) ?_
      refine wl_val hW rfl rfl (x_len Try.underlying22 rfl) ?_
      refine wl_val hW rfl rfl (x_lss rfl rfl) ?_
      refine wl_nil ?_
      refine nx_then ?_
      refine wc_dec rfl (fun hc => ?_) (fun hc => ?_)
      · replace hc : ((s : Nat) : Int) < l.length := hc
        have hlt : s < l.length := by omega
        obtain ⟨b, o, cap', e1, -, hC27⟩ := (hL.ext hE).at s hlt
        cases e1
        have hsn := runF_snoc (c := (0, [], [])) hlt
        have hV := run_vld (l.take s) (c := (0, [], [])) vld0
        obtain ⟨c, hcd⟩ : ∃ c, c = runF (0, [], []) (l.take s) := ⟨_, rfl⟩
        rw [← hcd] at hM hZ hB3 hsn hV
        have hl1 : c.2.1.length ≤ 1099511627776 := Nat.le_trans hV.len (by decide)
        have hl2 : c.2.2.length ≤ 1099511627776 := Nat.le_trans hV.zlen (by decide)
        rw [← hcd]
        obtain ⟨d, hdd⟩ : ∃ d, d = doF c.1 c.2.1 c.2.2 l[s] := ⟨_, rfl⟩
        have hsz0 := hE.size
        have h8 : ∀ w', Ext wr w' → Rt Try.prog 8 [.agg #[.int .i64 c.1, .slice ma2 c.2.1.length mc2, .slice za2 c.2.2.length zc2], .agg (cellsC l[s]).toArray] w' fun u w'' => (∃ cs, u = .tuple #[.agg cs.toArray, .int .i64 d.1] ∧ ∃ cv sv, cs = [.int .i64 d.2.1, cv, sv] ∧ MOwn w.heap.size w'' cv d.2.2.1 ∧ IOwn w.heap.size w'' sv d.2.2.2) ∧ Ext w' w'' := fun w' hJ => by
          have h := C8 (e := c.1) (x := l[s]) ((hM.ext hJ).row cellsM_len hl1) ((hZ.ext hJ).row cellsI_len hl2)
          rw [← hdd] at h
          refine Rt.mono h ?_
          rintro r w2 ⟨⟨cv', sv', rfl, h1, h2⟩, h3⟩
          exact ⟨⟨_, rfl, cv', sv', rfl, h1.rebase fun b hb => Nat.le_trans (Nat.le_trans hsz0 hJ.size) (h1.ge hb), h2.rebase fun b hb => Nat.le_trans (Nat.le_trans hsz0 hJ.size) (h2.ge hb)⟩, h3⟩
        refine wc_skip ?_
        refine nx_then ?_
        refine wc_seq ?_
        refine wc_block ?_
        refine wc_seq ?_
        refine wc_drawX (SX 27 5 wr) 11 hW mixed (by kernel_rfl) (by kernel_rfl) sx_ext (fun w0 hx0 => hx0) ?_
        refine qx_val rfl rfl rfl (fun _ _ hJ => x_loadA ag27 rfl (hB3.ext hJ).cells rfl) ?_
        refine qx_val rfl rfl rfl (fun _ _ _ => x_move rfl) ?_
        refine qx_val rfl rfl rfl (fun _ _ _ => x_move rfl) ?_
        refine qx_val rfl rfl rfl (fun _ _ _ => x_indexAddr Try.underlying22 ag32.siz rfl rfl (by omega) (by omega)) ?_
        refine qx_val rfl rfl rfl (fun _ _ hJ => x_loadA ag32 rfl (hC27.ext hJ) rfl) ?_
        refine qx_getS (c := 5) (Qc := fun cs w2 => ∃ cv sv, cs = [.int .i64 d.2.1, cv, sv] ∧ MOwn w.heap.size w2 cv d.2.2.1 ∧ IOwn w.heap.size w2 sv d.2.2.2) (v4 := .int .i64 d.1) ag27 Try.zeroValue27 (zs := [.int .i64 0, .slice none 0 0, .slice none 0 0]) rfl rfl rfl (fun _ _ _ ⟨cv, sv, h1, h2, h3⟩ hx => ⟨cv, sv, h1, h2.ext hx, h3.ext hx⟩) (fun _ _ _ ⟨cv, sv, h1, h2, h3⟩ hs => ⟨cv, sv, h1, h2.storeN (by decide) hs, h3.storeN (by decide) hs⟩) (fun _ _ ⟨cv, sv, h1, h2, h3⟩ => by obtain ⟨_, _, rfl, -⟩ := h2.form; obtain ⟨_, _, rfl, -⟩ := h3.form; subst h1; exact ⟨rfl, rfl⟩) rfl rfl rfl rfl rfl rfl rfl rfl rfl (by decide) (fun o ho => by cases ho; decide) rfl (fun _ => x_call en8 rfl) (fun w' hJ => (h8 w' hJ).inF hFF) (fun wA b5 cs5 hxA hl5 hB5 hQ5 => ?_)
        obtain ⟨cv3, sv3, rfl, hM3, hZ3⟩ := hQ5
        obtain ⟨ma3, mc3, rfl, -⟩ := hM3.form
        obtain ⟨za3, zc3, rfl, -⟩ := hZ3.form
        have n5_3 : b5 ≠ b3 := Nat.ne_of_gt (Nat.lt_of_lt_of_le hB3.lt hl5)
        replace hE := hE.trans hxA
        replace hB3 := hB3.ext hxA
        replace hM := hM.ext hxA
        replace hZ := hZ.ext hxA
        replace hC27 := hC27.ext hxA
        refine wl_val hW rfl rfl (x_assign rfl) ?_
        refine wl_nil ?_
        refine nx_then ?_
        refine wc_seq ?_
        refine wc_seq ?_
        refine wc_region ?_
        refine wl_val hW rfl rfl (x_move rfl) ?_
        refine wl_val hW rfl rfl (x_neq rfl rfl) ?_
        refine wl_nil ?_
        refine nx_then ?_
        refine wc_dec rfl (fun hc => ?_) (fun hc => ?_)
        · have hst : runF (0, [], []) (l.take (s + 1)) = c := by rw [hsn]; unfold stepF; rw [if_neg (by rw [← hdd]; exact hc)]
          refine wc_exit ?_
          refine nx_then_exit ?_
          refine nx_block_exit ?_
          refine nx_then ?_
          refine wc_region ?_
          refine wl_val hW rfl rfl (x_move rfl) ?_
          refine wl_val hW rfl rfl (x_inc (s := s) rfl (by omega)) ?_
          refine wl_val hW rfl rfl (x_assign rfl) ?_
          refine wl_nil ?_
          exact nx_next (s + 1, .slice ma2 _ mc2, .slice za2 _ zc2) (by dsimp only; omega) ⟨⟨hlt, by dsimp only; rw [hst]; exact hM, by dsimp only; rw [hst]; exact hZ⟩, hE, by dsimp only; rw [hst]; exact hB3⟩ (by repeat (first | exact sub_nil | refine sub_cons rfl ?_))
        · have h0 : d.1 = 0 := Decidable.not_not.1 hc
          obtain ⟨hV1, hV2, hep, htn, hne⟩ := doF_ok (show (doF c.1 c.2.1 c.2.2 l[s]).1 = 0 by rw [← hdd]; exact h0)
          rw [← hdd] at hV2 hep htn hne
          have hst : runF (0, [], []) (l.take (s + 1)) = d.2 := by rw [hsn]; unfold stepF; rw [← hdd, if_pos h0]
          have hl3 : d.2.2.1.length ≤ 1099511627776 := Nat.le_trans hV2.len (by decide)
          have hl4 : d.2.2.2.length ≤ 1099511627776 := Nat.le_trans hV2.zlen (by decide)
          have hck : (if checkB d.2.1 d.2.2.1 d.2.2.2 then (0 : Int) else 1) = 0 := by rw [check_iff.2 hV2]; rfl
          have he0 := hV.e0
          have he1 := hV.e1
          have hep1 : c.1 ≤ d.2.1 ∧ d.2.1 ≤ c.1 + 1 := by rw [hep]; split <;> omega
          have hbn : decide (d.2.1 = c.1) = decide (l[s].k = 3) := by rw [hep]; by_cases h : l[s].k = 3 <;> simp [h]; omega
          refine wc_skip ?_
          refine nx_then ?_
          refine wc_seq ?_
          refine wc_seq ?_
          refine wc_cut [(0, .slice (some ⟨b, o, none⟩) l.length lc), (3, .pointer (some ⟨b3, 0, none⟩)), (4, .int .i64 (s : Nat)), (5, .pointer (some ⟨b5, 0, none⟩)), (65, .bool false)] (fun w' => Ext wA w') ?_ ?_
          · refine wc_draw' 30 hW mixed (by kernel_rfl) (fun w0 hx0 => ?_)
            have hM3' := hM3.ext hx0
            have hZ3' := hZ3.ext hx0
            have hC60 := hC27.ext hx0
            replace hB3 := hB3.ext hx0
            replace hB5 := hB5.ext hx0
            replace hE := hE.trans hx0
            refine q_val rfl rfl (fun _ hx => x_loadA ag27 rfl (hB5.ext hx).cells rfl) ?_
            refine q_call rfl rfl (fun _ => x_call en9 rfl) (fun w' hx => (C9 ((hM3'.ext hx).row cellsM_len hl3) ((hZ3'.ext hx).row cellsI_len hl4)).inF hFF) ?_
            refine q_val rfl rfl (fun _ hx => x_neqF rfl rfl hck) ?_
            refine q_val rfl rfl (fun _ hx => x_move rfl) ?_
            refine q_val rfl rfl (fun _ hx => x_fieldAddr Try.underlying27 rfl fl3.siz rfl) ?_
            refine q_val rfl rfl (fun _ hx => x_load fl3 rfl (hx.cell (hB5.cell (o := 0) rfl))) ?_
            refine q_val rfl rfl (fun _ hx => x_fieldAddr Try.underlying27 rfl fl3.siz rfl) ?_
            refine q_val rfl rfl (fun _ hx => x_load fl3 rfl (hx.cell (hB3.cell (o := 0) rfl))) ?_
            refine q_val rfl rfl (fun _ hx => x_lssF rfl rfl (by omega)) ?_
            refine q_val rfl rfl (fun _ hx => x_pickF rfl rfl) ?_
            refine q_val rfl rfl (fun _ hx => x_move rfl) ?_
            refine q_val rfl rfl (fun _ hx => x_fieldAddr Try.underlying27 rfl fl3.siz rfl) ?_
            refine q_val rfl rfl (fun _ hx => x_load fl3 rfl (hx.cell (hB5.cell (o := 0) rfl))) ?_
            refine q_val rfl rfl (fun _ hx => x_fieldAddr Try.underlying27 rfl fl3.siz rfl) ?_
            refine q_val rfl rfl (fun _ hx => x_load fl3 rfl (hx.cell (hB3.cell (o := 0) rfl))) ?_
            refine q_val rfl rfl (fun _ hx => x_add (r := c.1 + 1) rfl rfl (by rw [IntWalk.i64_in _ (by omega)])) ?_
            refine q_val rfl rfl (fun _ hx => x_gtrF rfl rfl (by omega)) ?_
            refine q_val rfl rfl (fun _ hx => x_pickF rfl rfl) ?_
            refine q_val rfl rfl (fun _ hx => x_move rfl) ?_
            refine q_val rfl rfl (fun _ hx => x_fieldAddr Try.underlying27 rfl fl3.siz rfl) ?_
            refine q_val rfl rfl (fun _ hx => x_load fl3 rfl (hx.cell (hB5.cell (o := 0) rfl))) ?_
            refine q_val rfl rfl (fun _ hx => x_fieldAddr Try.underlying27 rfl fl3.siz rfl) ?_
            refine q_val rfl rfl (fun _ hx => x_load fl3 rfl (hx.cell (hB3.cell (o := 0) rfl))) ?_
            refine q_val rfl rfl (fun _ hx => x_eql rfl rfl) ?_
            refine q_val rfl rfl (fun _ hx => x_move rfl) ?_
            refine q_val rfl rfl (fun _ hx => x_move rfl) ?_
            refine q_val rfl rfl (fun _ hx => x_indexAddr Try.underlying22 ag32.siz rfl rfl (by omega) (by omega)) ?_
            refine q_val rfl rfl (fun _ hx => x_fieldAddr Try.underlying32 rfl fl3.siz rfl) ?_
            refine q_val rfl rfl (fun _ hx => x_load fl3 rfl (hx.cell (hC60 0 _ rfl))) ?_
            refine q_val rfl rfl (fun _ hx => x_eql rfl rfl) ?_
            refine q_nil (tail0 (fun wt hxt => ?_))
            replace hB3 := hB3.ext hxt
            replace hB5 := hB5.ext hxt
            replace hE := hE.trans hxt
            refine wl_val hW rfl rfl (x_bneqF rfl rfl Try.underlying4 hbn) ?_
            refine wl_val hW rfl rfl (x_pickF rfl rfl) ?_
            refine wl_nil ?_
            exact nx_cut (by repeat (first | exact sub_nil | refine sub_cons rfl ?_)) (hx0.trans hxt)
          · rintro wB hxc
            replace hE := hE.trans hxc
            replace hB3 := hB3.ext hxc
            replace hB5 := hB5.ext hxc
            replace hM := hM.ext hxc
            replace hZ := hZ.ext hxc
            replace hM3 := hM3.ext hxc
            replace hZ3 := hZ3.ext hxc
            refine nx_then ?_
            refine wc_false rfl ?_
            refine wc_skip ?_
            refine nx_then ?_
            refine wc_seq ?_
            refine wc_region ?_
            refine wl_val hW rfl rfl (x_assign rfl) ?_
            refine wl_nil ?_
            refine nx_then ?_
            refine wc_seq ?_
            refine wc_region ?_
            refine wl_val hW rfl rfl (x_fieldAddr Try.underlying27 rfl fl24.siz rfl) ?_
            refine wl_val hW rfl rfl (x_load fl24 rfl (hB5.cell (o := 1) rfl)) ?_
            refine wl_val hW rfl rfl (x_len Try.underlying24 rfl) ?_
            refine wl_val hW rfl rfl (x_eql rfl rfl) ?_
            refine wl_val hW rfl rfl (x_assign rfl) ?_
            refine wl_nil ?_
            refine nx_then ?_
            refine wc_seq ?_
            refine wc_seq ?_
            refine wc_region ?_
            refine wl_val hW rfl rfl (x_assign rfl) ?_
            refine wl_nil ?_
            refine nx_then ?_
            refine wc_block ?_
            have hw0 : wholeF d.2.2.1 0 = decide ((d.2.2.1.length : Int) = 0) := by unfold wholeF; simp
            refine wc_loop (σ := Nat) (fun j => [(0, .slice (some ⟨b, o, none⟩) l.length lc), (3, .pointer (some ⟨b3, 0, none⟩)), (4, .int .i64 (s : Nat)), (5, .pointer (some ⟨b5, 0, none⟩)), (7, .int .i64 (lastF c.2.1 d.2.2.1 j)), (8, .bool (wholeF d.2.2.1 j)), (9, .int .i64 (j : Nat))]) (fun j w' => j ≤ d.2.2.1.length ∧ Ext wB w') (fun j => d.2.2.1.length - j) 0 ?_ ?_ ?_
            · exact ⟨Nat.zero_le _, Keep.refl _ _⟩
            · rw [hw0]
              repeat (first | exact sub_nil | refine sub_cons rfl ?_)
            · rintro j wr2 ⟨hj, hx2⟩
              replace hE := hE.trans hx2
              replace hB3 := hB3.ext hx2
              replace hB5 := hB5.ext hx2
              replace hM := hM.ext hx2
              replace hZ := hZ.ext hx2
              replace hM3 := hM3.ext hx2
              replace hZ3 := hZ3.ext hx2
              refine wc_seq ?_
              refine wc_seq ?_
              refine wc_region ?_
              refine wl_val hW rfl rfl (x_move rfl) ?_
              refine wl_val hW rfl rfl (x_fieldAddr Try.underlying27 rfl fl24.siz rfl) ?_
              refine wl_val hW rfl rfl (x_load fl24 rfl (hB5.cell (o := 1) rfl)) ?_
              refine wl_val hW rfl rfl (x_len Try.underlying24 rfl) ?_
              refine wl_val hW rfl rfl (x_lss rfl rfl) ?_
              refine wl_nil ?_
              refine nx_then ?_
              refine wc_dec rfl (fun hc => ?_) (fun hc => ?_)
              · replace hc : ((j : Nat) : Int) < d.2.2.1.length := hc
                have hjlt : j < d.2.2.1.length := by omega
                have hri := rise hV.npw htn hjlt
                have hlj := lastF_succ (ms := c.2.1) hjlt
                obtain ⟨g, o', cap2, e2, -, hC82⟩ := (hM3.row cellsM_len hl3).at j hjlt
                cases e2
                refine wc_skip ?_
                refine nx_then ?_
                refine wc_seq ?_
                refine wc_block ?_
                refine wc_seq ?_
                refine wc_cut [(0, .slice (some ⟨b, o, none⟩) l.length lc), (3, .pointer (some ⟨b3, 0, none⟩)), (4, .int .i64 (s : Nat)), (5, .pointer (some ⟨b5, 0, none⟩)), (7, .int .i64 (lastF c.2.1 d.2.2.1 j)), (8, .bool (wholeF d.2.2.1 (j + 1))), (9, .int .i64 (j : Nat))] (fun w' => w' = wr2) ?_ ?_
                · refine wc_region ?_
                  refine wl_val hW rfl rfl (x_move rfl) ?_
                  refine wl_val hW rfl rfl (x_move rfl) ?_
                  refine wl_bcases (d := 78) rfl (fun hg78 => ?_) (fun hg78 => ?_)
                  · refine wl_off hW rfl rfl ?_
                    refine wl_off hW rfl rfl ?_
                    refine wl_off hW rfl rfl ?_
                    refine wl_off hW rfl rfl ?_
                    refine wl_off hW rfl rfl ?_
                    refine wl_off hW rfl rfl ?_
                    refine wl_val hW rfl rfl (x_pickT rfl rfl) ?_
                    refine wl_val hW rfl rfl (x_assign rfl) ?_
                    refine wl_nil ?_
                    exact nx_cut (by rw [show wholeF d.2.2.1 (j + 1) = true from by rw [wholeF_succ hjlt, hg78]; rfl]; repeat (first | exact sub_nil | refine sub_cons rfl ?_)) rfl
                  · refine wl_val hW rfl rfl (x_fieldAddr Try.underlying27 rfl fl24.siz rfl) ?_
                    refine wl_val hW rfl rfl (x_load fl24 rfl (hB5.cell (o := 1) rfl)) ?_
                    refine wl_val hW rfl rfl (x_move rfl) ?_
                    refine wl_val hW rfl rfl (x_indexAddr Try.underlying24 ag35.siz rfl rfl (by omega) (by omega)) ?_
                    refine wl_val hW rfl rfl (x_fieldAddr Try.underlying35 rfl fl4.siz rfl) ?_
                    refine wl_val hW rfl rfl (x_load fl4 rfl (hC82 2 _ rfl)) ?_
                    refine wl_val hW rfl rfl (x_pickF rfl rfl) ?_
                    refine wl_val hW rfl rfl (x_assign rfl) ?_
                    refine wl_nil ?_
                    exact nx_cut (by rw [show wholeF d.2.2.1 (j + 1) = d.2.2.1[j].w from by rw [wholeF_succ hjlt, hg78]; rfl]; repeat (first | exact sub_nil | refine sub_cons rfl ?_)) rfl
                · rintro w' rfl
                  refine nx_then ?_
                  refine wc_seq ?_
                  refine wc_draw' 7 hW mixed (by kernel_rfl) (fun w0 hx0 => ?_)
                  replace hM := hM.ext hx0
                  replace hM3 := hM3.ext hx0
                  have hC90 := hC82.ext hx0
                  replace hx2 := hx2.trans hx0
                  replace hB3 := hB3.ext hx0
                  replace hB5 := hB5.ext hx0
                  replace hE := hE.trans hx0
                  refine q_val rfl rfl (fun _ hx => x_loadA ag27 rfl (hB3.ext hx).cells rfl) ?_
                  refine q_val rfl rfl (fun _ hx => x_fieldAddr Try.underlying27 rfl fl24.siz rfl) ?_
                  refine q_val rfl rfl (fun _ hx => x_load fl24 rfl (hx.cell (hB5.cell (o := 1) rfl))) ?_
                  refine q_val rfl rfl (fun _ hx => x_move rfl) ?_
                  refine q_val rfl rfl (fun _ hx => x_indexAddr Try.underlying24 ag35.siz rfl rfl (by omega) (by omega)) ?_
                  refine q_val rfl rfl (fun _ hx => x_fieldAddr Try.underlying35 rfl fl3.siz rfl) ?_
                  refine q_val rfl rfl (fun _ hx => x_load fl3 rfl (hx.cell (hC90 0 _ rfl))) ?_
                  refine q_nil (tail0 (fun wt hxt => ?_))
                  replace hM := hM.ext hxt
                  replace hx2 := hx2.trans hxt
                  replace hB3 := hB3.ext hxt
                  replace hB5 := hB5.ext hxt
                  replace hE := hE.trans hxt
                  refine wl_call hW rfl rfl (x_call en10 rfl) ((C10 (n := d.2.2.1[j].n) (hM.row cellsM_len hl1)).inF hFF) ?_
                  rintro _ wC ⟨rfl, hxC⟩
                  replace hx2 := hx2.trans hxC
                  replace hB3 := hB3.ext hxC
                  replace hB5 := hB5.ext hxC
                  replace hE := hE.trans hxC
                  refine wl_val hW rfl rfl (x_assign rfl) ?_
                  refine wl_nil ?_
                  refine nx_then ?_
                  refine wc_seq ?_
                  refine wc_seq ?_
                  refine wc_region ?_
                  refine wl_val hW rfl rfl (x_move rfl) ?_
                  refine wl_val hW rfl rfl (x_lss rfl rfl) ?_
                  refine wl_nil ?_
                  refine nx_then ?_
                  refine wc_dec rfl (fun hc => ?_) (fun hc => ?_)
                  · replace hc : idxN c.2.1 d.2.2.1[j].n < 0 := hc
                    unfold posn at hri hlj
                    rw [if_pos hc] at hri hlj
                    refine wc_region ?_
                    refine wl_val hW rfl rfl (x_fieldAddr Try.underlying27 rfl fl24.siz rfl) ?_
                    refine wl_val hW rfl rfl (x_load fl24 rfl (hB3.cell (o := 1) rfl)) ?_
                    refine wl_val hW rfl rfl (x_len Try.underlying24 rfl) ?_
                    refine wl_val hW rfl rfl (x_assign rfl) ?_
                    refine wl_nil ?_
                    refine nx_then ?_
                    refine wc_seq ?_
                    refine wc_seq ?_
                    refine wc_region ?_
                    refine wl_val hW rfl rfl (x_move rfl) ?_
                    refine wl_val hW rfl rfl (x_move rfl) ?_
                    refine wl_val hW rfl rfl (x_leqF rfl rfl (by omega)) ?_
                    refine wl_nil ?_
                    refine nx_then ?_
                    refine wc_false rfl ?_
                    refine wc_skip ?_
                    refine nx_then ?_
                    refine wc_region ?_
                    refine wl_val hW rfl rfl (x_move rfl) ?_
                    refine wl_val hW rfl rfl (x_assign rfl) ?_
                    refine wl_nil ?_
                    refine nx_block ?_
                    refine nx_then ?_
                    refine wc_region ?_
                    refine wl_val hW rfl rfl (x_move rfl) ?_
                    refine wl_val hW rfl rfl (x_inc (s := j) rfl (by omega)) ?_
                    refine wl_val hW rfl rfl (x_assign rfl) ?_
                    refine wl_nil ?_
                    exact nx_next (j + 1) (by omega) ⟨hjlt, hx2⟩ (by rw [hlj]; repeat (first | exact sub_nil | refine sub_cons rfl ?_))
                  · replace hc : ¬ idxN c.2.1 d.2.2.1[j].n < 0 := hc
                    unfold posn at hri hlj
                    rw [if_neg hc] at hri hlj
                    refine wc_skip ?_
                    refine nx_then ?_
                    refine wc_seq ?_
                    refine wc_seq ?_
                    refine wc_region ?_
                    refine wl_val hW rfl rfl (x_move rfl) ?_
                    refine wl_val hW rfl rfl (x_move rfl) ?_
                    refine wl_val hW rfl rfl (x_leqF rfl rfl (by show ¬ idxN c.2.1 d.2.2.1[j].n ≤ _; omega)) ?_
                    refine wl_nil ?_
                    refine nx_then ?_
                    refine wc_false rfl ?_
                    refine wc_skip ?_
                    refine nx_then ?_
                    refine wc_region ?_
                    refine wl_val hW rfl rfl (x_move rfl) ?_
                    refine wl_val hW rfl rfl (x_assign rfl) ?_
                    refine wl_nil ?_
                    refine nx_block ?_
                    refine nx_then ?_
                    refine wc_region ?_
                    refine wl_val hW rfl rfl (x_move rfl) ?_
                    refine wl_val hW rfl rfl (x_inc (s := j) rfl (by omega)) ?_
                    refine wl_val hW rfl rfl (x_assign rfl) ?_
                    refine wl_nil ?_
                    exact nx_next (j + 1) (by omega) ⟨hjlt, hx2⟩ (by rw [hlj]; repeat (first | exact sub_nil | refine sub_cons rfl ?_))
              · have hje : j = d.2.2.1.length := by have h' : ¬ ((j : Nat) : Int) < d.2.2.1.length := hc; omega
                have hwt : wholeF d.2.2.1 j = true := by rw [hje]; exact wholeF_all hV2
                have hlen5 := hV2.len
                rw [hwt]
                refine wc_exit ?_
                refine nx_then_exit ?_
                refine nx_then_exit ?_
                refine nx_block_exit ?_
                refine nx_then ?_
                refine wc_seq ?_
                refine wc_seq ?_
                refine wc_cut [(0, .slice (some ⟨b, o, none⟩) l.length lc), (3, .pointer (some ⟨b3, 0, none⟩)), (4, .int .i64 (s : Nat)), (5, .pointer (some ⟨b5, 0, none⟩)), (122, .bool false)] (fun w' => w' = wr2) ?_ ?_
                · refine wc_region ?_
                  refine wl_val hW rfl rfl (x_move rfl) ?_
                  refine wl_val hW rfl rfl (x_not (b := true) rfl) ?_
                  refine wl_val hW rfl rfl (x_move rfl) ?_
                  refine wl_val hW rfl rfl (x_fieldAddr Try.underlying27 rfl fl24.siz rfl) ?_
                  refine wl_val hW rfl rfl (x_load fl24 rfl (hB5.cell (o := 1) rfl)) ?_
                  refine wl_val hW rfl rfl (x_len Try.underlying24 rfl) ?_
                  refine wl_val hW rfl rfl (x_gtrF rfl rfl (by omega)) ?_
                  refine wl_val hW rfl rfl (x_pickF rfl rfl) ?_
                  refine wl_val hW rfl rfl (x_move rfl) ?_
                  refine wl_val hW rfl rfl (x_fieldAddr Try.underlying27 rfl fl24.siz rfl) ?_
                  refine wl_val hW rfl rfl (x_load fl24 rfl (hB3.cell (o := 1) rfl)) ?_
                  refine wl_val hW rfl rfl (x_len Try.underlying24 rfl) ?_
                  refine wl_val hW rfl rfl (x_gtr rfl rfl) ?_
                  refine wl_val hW rfl rfl (x_move rfl) ?_
                  refine wl_dcases (d := 116) rfl (fun hg116 => ?_) (fun hg116 => ?_)
                  · refine wl_val hW rfl rfl (x_fieldAddr Try.underlying27 rfl fl24.siz rfl) ?_
                    refine wl_val hW rfl rfl (x_load fl24 rfl (hB5.cell (o := 1) rfl)) ?_
                    refine wl_val hW rfl rfl (x_len Try.underlying24 rfl) ?_
                    refine wl_val hW rfl rfl (x_eqlF rfl rfl (by have := hne (by omega); omega)) ?_
                    refine wl_val hW rfl rfl (x_pickT rfl rfl) ?_
                    refine wl_val hW rfl rfl (x_pickF rfl rfl) ?_
                    refine wl_nil ?_
                    exact nx_cut (by repeat (first | exact sub_nil | refine sub_cons rfl ?_)) rfl
                  · refine wl_off hW rfl rfl ?_
                    refine wl_off hW rfl rfl ?_
                    refine wl_off hW rfl rfl ?_
                    refine wl_off hW rfl rfl ?_
                    refine wl_val hW rfl rfl (x_pickF rfl rfl) ?_
                    refine wl_val hW rfl rfl (x_pickF rfl rfl) ?_
                    refine wl_nil ?_
                    exact nx_cut (by repeat (first | exact sub_nil | refine sub_cons rfl ?_)) rfl
                · rintro w' rfl
                  refine nx_then ?_
                  refine wc_false rfl ?_
                  refine wc_skip ?_
                  refine nx_then ?_
                  refine wc_region ?_
                  refine wl_val hW rfl rfl (x_loadA ag27 rfl hB5.cells rfl) ?_
                  refine wl_storeA hW rfl ag27 rfl rfl rfl rfl hB3 rfl ?_
                  intro wS hBS hkS
                  replace hM3 := hM3.keep hkS (fun b hb => hM3.ne hb hB3 (by decide))
                  replace hZ3 := hZ3.keep hkS (fun b hb => hZ3.ne hb hB3 (by decide))
                  replace hB5 := hB5.keep hkS n5_3
                  replace hB3 := hBS
                  clear hBS
                  replace hE := hE.store hkS g3
                  refine wl_nil ?_
                  refine nx_block ?_
                  refine nx_then ?_
                  refine wc_region ?_
                  refine wl_val hW rfl rfl (x_move rfl) ?_
                  refine wl_val hW rfl rfl (x_inc (s := s) rfl (by omega)) ?_
                  refine wl_val hW rfl rfl (x_assign rfl) ?_
                  refine wl_nil ?_
                  exact nx_next (s + 1, .slice ma3 _ mc3, .slice za3 _ zc3) (by dsimp only; omega) ⟨⟨hlt, by dsimp only; rw [hst]; exact hM3, by dsimp only; rw [hst]; exact hZ3⟩, hE, by dsimp only; rw [hst]; exact hB3⟩ (by repeat (first | exact sub_nil | refine sub_cons rfl ?_))
      · refine wc_exit ?_
        refine nx_then_exit ?_
        refine nx_then_exit ?_
        refine nx_block_exit ?_
        refine nx_then ?_
        refine wc_seq ?_
        refine wc_region ?_
        refine wl_val hW rfl rfl (x_assign rfl) ?_
        refine wl_nil ?_
        refine nx_then ?_
        refine wc_ret ?_
        exact ends_ret (res_tmp Try.results3 rfl) ⟨rfl, hE⟩
end Go.Proofs.Ytiaikajibefieaa.K

