/- Walks: the laws MergeCompares, MergeSees. -/
import Derived.Test.YtblbddamebbgaaaKn
namespace Go.Proofs.Ytblbddamebbgaaa.K
open Go Go.RowKit
set_option linter.unusedVariables false
set_option linter.unusedSimpArgs false

theorem C3 {A : Nat → Prop} {w : World} {av bv v : Value} {a b : Ent} {es : List Ent} (ha : Byts A w av a.v) (hb : Byts A w bv b.v) (hoa : EntOk a) (hob : EntOk b) (hR : Row A w v es) :
    Rt Try.prog 3 [.agg (cellsOf a av).toArray, .agg (cellsOf b bv).toArray, v] w fun r w' => r = .bool true ∧ Ext w w' := by
  obtain ⟨ad, cap, rfl, hcap, hlen⟩ := hR.form
  have hW := hWw
  have hFF := hFw
  have hE : Ext w w := Keep.refl _ _
  refine rt_body Try.func3 rfl Try.ntmps3 rfl ?_
  refine wc_seq ?_
  refine wc_region ?_
  refine wl_box hW rfl rfl rfl rfl ?_
  intro b3 w3 hl3 hB3 hx3
  have g3 : w.heap.size ≤ b3 := Nat.le_trans hE.size hl3
  replace hE := hE.trans hx3
  refine wl_box hW rfl rfl rfl rfl ?_
  intro b4 w4 hl4 hB4 hx4
  have g4 : w.heap.size ≤ b4 := Nat.le_trans hE.size hl4
  have n4_3 : b4 ≠ b3 := Nat.ne_of_gt (Nat.lt_of_lt_of_le hB3.lt hl4)
  replace hB3 := hB3.ext hx4
  replace hE := hE.trans hx4
  refine wl_val hW rfl rfl (x_assign rfl) ?_
  refine wl_nil ?_
  refine nx_then ?_
  refine wc_seq ?_
  refine wc_seq ?_
  refine wc_region ?_
  refine wl_call hW rfl rfl (x_call en16 rfl) (C16.inF hFF) ?_
  rintro _ wC ⟨rfl, hxC⟩
  replace hB3 := hB3.ext hxC
  replace hB4 := hB4.ext hxC
  replace hE := hE.trans hxC
  refine wl_val hW rfl rfl (x_not rfl) ?_
  refine wl_nil ?_
  refine nx_then ?_
  refine wc_false rfl ?_
  refine wc_skip ?_
  refine nx_then ?_
  refine wc_seq ?_
  refine wc_seq ?_
  refine wc_cutE (σ := Bool) (fun s => [(2, .slice ad es.length cap), (3, .pointer (some ⟨b3, 0, none⟩)), (4, .pointer (some ⟨b4, 0, none⟩)), (18, .bool s)]) (fun s w' => Ext w w' ∧ Blk w' b3 (cellsOf a av) 25 ∧ Blk w' b4 (cellsOf b bv) 25) ?_ ?_
  · refine wc_region ?_
    refine wl_val hW rfl rfl (x_move rfl) ?_
    refine wl_call hW rfl rfl (x_call en17 rfl) ((C17 (hR.ext hE)).inF hFF) ?_
    rintro _ wC ⟨⟨bb, rfl, hfew⟩, hxC⟩
    replace hB3 := hB3.ext hxC
    replace hB4 := hB4.ext hxC
    replace hE := hE.trans hxC
    refine wl_val hW rfl rfl (x_not rfl) ?_
    refine wl_val hW rfl rfl (x_move rfl) ?_
    refine wl_bcases (d := 12) rfl (fun hg12 => ?_) (fun hg12 => ?_)
    · refine wl_off hW rfl rfl ?_
      refine wl_off hW rfl rfl ?_
      refine wl_off hW rfl rfl ?_
      refine wl_off hW rfl rfl ?_
      refine wl_off hW rfl rfl ?_
      refine wl_val hW rfl rfl (x_pickT rfl rfl) ?_
      refine wl_nil ?_
      exact nx_cutE true (by repeat (first | exact sub_nil | refine sub_cons rfl ?_)) ⟨hE, hB3, hB4⟩
    · refine wl_val hW rfl rfl (x_loadA ag25 rfl hB3.cells rfl) ?_
      refine wl_val hW rfl rfl (x_loadA ag25 rfl hB4.cells rfl) ?_
      refine wl_buildSlice (parts := [(0, .tmp 13), (1, .tmp 14)]) hW rfl rfl Try.underlying26 ag25.siz Try.zeroValue25 rfl rfl rfl (by omega) ?_
      intro b15 w15 hl15 hB15 hx15
      have g15 : w.heap.size ≤ b15 := Nat.le_trans hE.size hl15
      have n15_3 : b15 ≠ b3 := Nat.ne_of_gt (Nat.lt_of_lt_of_le hB3.lt hl15)
      replace hB3 := hB3.ext hx15
      have n15_4 : b15 ≠ b4 := Nat.ne_of_gt (Nat.lt_of_lt_of_le hB4.lt hl15)
      replace hB4 := hB4.ext hx15
      replace hE := hE.trans hx15
      have hF : Row (fun _ => True) w15 (.slice (some ⟨b15, 0, none⟩) 2 2) [a, b] := row_of_blk (es := [a, b]) (bvs := [av, bv]) rfl hB15 trivial (fun i e bv' hi hj => by
        match i, hi, hj with
        | 0, hi, hj => cases hi; cases hj; exact (ha.ext hE).mono (fun _ _ _ => trivial)
        | 1, hi, hj => cases hi; cases hj; exact (hb.ext hE).mono (fun _ _ _ => trivial)) (fun e he => by simp only [List.mem_cons, List.not_mem_nil, or_false] at he; rcases he with rfl | rfl; exact hoa; exact hob) (by simp)
      refine wl_call hW rfl rfl (x_call en17 rfl) ((C17 hF).inF hFF) ?_
      rintro _ wC2 ⟨⟨bb2, rfl, -⟩, hxC⟩
      replace hB3 := hB3.ext hxC
      replace hB4 := hB4.ext hxC
      replace hB15 := hB15.ext hxC
      replace hE := hE.trans hxC
      refine wl_val hW rfl rfl (x_not rfl) ?_
      refine wl_val hW rfl rfl (x_pickF rfl rfl) ?_
      refine wl_nil ?_
      exact nx_cutE (!bb2) (by repeat (first | exact sub_nil | refine sub_cons rfl ?_)) ⟨hE, hB3, hB4⟩
  · rintro s w' ⟨hE, hB3, hB4⟩
    refine nx_then ?_
    refine wc_bool rfl (fun hc => ?_) (fun hc => ?_)
    · refine wc_seq ?_
      refine wc_region ?_
      refine wl_val hW rfl rfl (x_assign rfl) ?_
      refine wl_nil ?_
      refine nx_then ?_
      refine wc_ret ?_
      refine nx_then_ret ?_
      exact ends_ret (res_tmp Try.results3 rfl) ⟨rfl, hE⟩
    · refine wc_skip ?_
      refine nx_then ?_
      refine wc_seq ?_
      refine wc_cut [(6, .bool true)] (fun w' => Ext w w') ?_ ?_
      · refine wc_draw' 15 hW mixed (by kernel_rfl) (fun w0 hx0 => ?_)
        replace hB3 := hB3.ext hx0
        replace hB4 := hB4.ext hx0
        replace hE := hE.trans hx0
        refine q_val rfl rfl (fun _ hx => x_loadA ag25 rfl (hB3.ext hx).cells rfl) ?_
        refine q_val rfl rfl (fun _ hx => x_loadA ag25 rfl (hB4.ext hx).cells rfl) ?_
        refine q_call rfl rfl (fun _ => x_call en18 rfl) (fun w' hx => (C18 a b av bv _).inF hFF) ?_
        refine q_val rfl rfl (fun _ hx => x_loadA ag25 rfl (hB3.ext hx).cells rfl) ?_
        refine q_val rfl rfl (fun _ hx => x_loadA ag25 rfl (hB4.ext hx).cells rfl) ?_
        refine q_call rfl rfl (fun _ => x_call en19 rfl) (fun w' hx => C19.inF hFF) ?_
        refine q_val rfl rfl (fun _ hx => x_eqlT rfl rfl rfl) ?_
        refine q_val rfl rfl (fun _ hx => x_move rfl) ?_
        refine q_val rfl rfl (fun _ hx => x_move rfl) ?_
        refine q_call rfl rfl (fun _ => x_call en20 rfl) (fun w' hx => (C20 ((hR.ext hE).ext hx)).inF hFF) ?_
        refine q_val rfl rfl (fun _ hx => x_move rfl) ?_
        refine q_call rfl rfl (fun _ => x_call en21 rfl) (fun w' hx => (C21 ((hR.ext hE).ext hx)).inF hFF) ?_
        refine q_val rfl rfl (fun _ hx => x_beql rfl rfl Try.underlying4) ?_
        refine q_val rfl rfl (fun _ hx => x_pickT rfl rfl) ?_
        refine q_val rfl rfl (fun _ hx => x_assign rfl) ?_
        refine q_nil (tail0 (fun wt hxt => ?_))
        replace hB3 := hB3.ext hxt
        replace hB4 := hB4.ext hxt
        replace hE := hE.trans hxt
        refine wl_nil ?_
        exact nx_cut (by rw [show (rightB es == rightB es) = true from by simp]; repeat (first | exact sub_nil | refine sub_cons rfl ?_)) hE
      · rintro w' hE
        refine nx_then ?_
        refine wc_ret ?_
        exact ends_ret (res_tmp Try.results3 rfl) ⟨rfl, hE⟩
theorem C4 {w : World} {v : Value} {es : List Ent} {up : Int} {bottom : Bool} (hR : Row (fun k => k < w.heap.size) w v es) :
    Rt Try.prog 4 [v, .int .u64 up, .bool bottom] w fun r w' => r = .bool true ∧ Ext w w' := by
  obtain ⟨ad, cap, rfl, hcap, hlen⟩ := hR.form
  have hW := hWw
  have hFF := hFw
  have hE : Ext w w := Keep.refl _ _
  refine rt_body Try.func4 rfl Try.ntmps4 rfl ?_
  refine wc_seq ?_
  refine wc_region ?_
  refine wl_val hW rfl rfl (x_assign rfl) ?_
  refine wl_nil ?_
  refine nx_then ?_
  refine wc_seq ?_
  refine wc_seq ?_
  refine wc_region ?_
  refine wl_call hW rfl rfl (x_call en16 rfl) (C16.inF hFF) ?_
  rintro _ wC ⟨rfl, hxC⟩
  replace hE := hE.trans hxC
  refine wl_val hW rfl rfl (x_not rfl) ?_
  refine wl_nil ?_
  refine nx_then ?_
  refine wc_false rfl ?_
  refine wc_skip ?_
  refine nx_then ?_
  refine wc_seq ?_
  refine wc_seq ?_
  refine wc_region ?_
  refine wl_val hW rfl rfl (x_move rfl) ?_
  refine wl_call hW rfl rfl (x_call en17 rfl) ((C17 (hR.ext hE)).inF hFF) ?_
  rintro _ wC ⟨⟨bb, rfl, hfew⟩, hxC⟩
  replace hE := hE.trans hxC
  refine wl_val hW rfl rfl (x_not rfl) ?_
  refine wl_nil ?_
  refine nx_then ?_
  refine wc_bool rfl (fun hc => ?_) (fun hc => ?_)
  · refine wc_seq ?_
    refine wc_region ?_
    refine wl_val hW rfl rfl (x_assign rfl) ?_
    refine wl_nil ?_
    refine nx_then ?_
    refine wc_ret ?_
    refine nx_then_ret ?_
    exact ends_ret (res_tmp Try.results4 rfl) ⟨rfl, hE⟩
  · have hl : (es.length : Int) ≤ 1000 := hfew (by simpa using hc)
    clear hfew
    refine wc_skip ?_
    refine nx_then ?_
    refine wc_seq ?_
    refine wc_region ?_
    refine wl_val hW rfl rfl (x_move rfl) ?_
    refine wl_val hW rfl rfl (x_move rfl) ?_
    refine wl_call hW rfl rfl (x_call en22 rfl) ((C22 ((hR.ext hE).mono (fun k h _ => h)) (by omega)).inF hFF) ?_
    rintro _ wS ⟨⟨rv1, rfl, hR1⟩, hxC⟩
    replace hE := hE.trans hxC
    refine wl_val hW rfl rfl (x_move rfl) ?_
    refine wl_val hW rfl rfl (x_extract rfl rfl) ?_
    refine wl_val hW rfl rfl (x_extract rfl rfl) ?_
    refine wl_val hW rfl rfl (x_assign rfl) ?_
    refine wl_val hW rfl rfl (x_assign rfl) ?_
    refine wl_nil ?_
    refine nx_then ?_
    refine wc_seq ?_
    refine wc_region ?_
    refine wl_val hW rfl rfl (x_move rfl) ?_
    refine wl_val hW rfl rfl (x_move rfl) ?_
    refine wl_call hW rfl rfl (x_call en23 rfl) ((C23 ((hR.ext hE).mono (fun k h _ => h))).inF hFF) ?_
    rintro _ wT ⟨⟨rv2, rfl, hR2⟩, hxC⟩
    replace hR1 := (hR1.ext hxC).mono (A' := fun _ => True) (fun _ _ _ => trivial)
    replace hE := hE.trans hxC
    refine wl_val hW rfl rfl (x_move rfl) ?_
    refine wl_val hW rfl rfl (x_extract rfl rfl) ?_
    refine wl_val hW rfl rfl (x_extract rfl rfl) ?_
    refine wl_val hW rfl rfl (x_assign rfl) ?_
    refine wl_val hW rfl rfl (x_assign rfl) ?_
    refine wl_nil ?_
    refine nx_then ?_
    refine wc_seq ?_
    refine wc_seq ?_
    refine wc_cut [(0, .slice ad es.length cap), (1, .int .u64 up), (2, .bool bottom), (36, .bool false)] (fun w' => Ext w w') ?_ ?_
    · refine wc_region ?_
      refine wl_val hW rfl rfl (x_move rfl) ?_
      refine wl_val hW rfl rfl (x_move rfl) ?_
      refine wl_call hW rfl rfl (x_call en24 rfl) ((C24 hR1 hR2).inF hFF) ?_
      rintro _ wC2 ⟨⟨b2, rfl, hb2⟩, hxC⟩
      obtain rfl : b2 = true := hb2.2 (by split; exact (rSeen_is _ _).symm; rfl)
      replace hE := hE.trans hxC
      refine wl_val hW rfl rfl (x_not rfl) ?_
      refine wl_val hW rfl rfl (x_move rfl) ?_
      refine wl_val hW rfl rfl (x_move rfl) ?_
      refine wl_val hW rfl rfl (x_move rfl) ?_
      refine wl_val hW rfl rfl (x_neqF rfl rfl rfl) ?_
      refine wl_val hW rfl rfl (x_pickF rfl rfl) ?_
      refine wl_nil ?_
      exact nx_cut (by repeat (first | exact sub_nil | refine sub_cons rfl ?_)) hE
    · rintro w' hE
      refine nx_then ?_
      refine wc_false rfl ?_
      refine wc_skip ?_
      refine nx_then ?_
      refine wc_seq ?_
      refine wc_region ?_
      refine wl_val hW rfl rfl (x_move rfl) ?_
      refine wl_val hW rfl rfl (x_move rfl) ?_
      refine wl_val hW rfl rfl (x_move rfl) ?_
      refine wl_call hW rfl rfl (x_call en25 rfl) ((C25 ((hR.ext hE).mono (fun k h _ => h)) (by omega)).inF hFF) ?_
      rintro _ wS ⟨⟨rv1, rfl, hR1⟩, hxC⟩
      replace hE := hE.trans hxC
      refine wl_val hW rfl rfl (x_move rfl) ?_
      refine wl_val hW rfl rfl (x_extract rfl rfl) ?_
      refine wl_val hW rfl rfl (x_extract rfl rfl) ?_
      refine wl_val hW rfl rfl (x_assign rfl) ?_
      refine wl_val hW rfl rfl (x_assign rfl) ?_
      refine wl_nil ?_
      refine nx_then ?_
      refine wc_seq ?_
      refine wc_region ?_
      refine wl_val hW rfl rfl (x_move rfl) ?_
      refine wl_val hW rfl rfl (x_move rfl) ?_
      refine wl_val hW rfl rfl (x_move rfl) ?_
      refine wl_call hW rfl rfl (x_call en26 rfl) ((C26 ((hR.ext hE).mono (fun k h _ => h))).inF hFF) ?_
      rintro _ wT ⟨⟨rv2, rfl, hR2⟩, hxC⟩
      replace hR1 := (hR1.ext hxC).mono (A' := fun _ => True) (fun _ _ _ => trivial)
      replace hE := hE.trans hxC
      refine wl_val hW rfl rfl (x_move rfl) ?_
      refine wl_val hW rfl rfl (x_extract rfl rfl) ?_
      refine wl_val hW rfl rfl (x_extract rfl rfl) ?_
      refine wl_val hW rfl rfl (x_assign rfl) ?_
      refine wl_val hW rfl rfl (x_assign rfl) ?_
      refine wl_nil ?_
      refine nx_then ?_
      refine wc_seq ?_
      refine wc_cut [(6, .bool true)] (fun w' => Ext w w') ?_ ?_
      · refine wc_region ?_
        refine wl_val hW rfl rfl (x_move rfl) ?_
        refine wl_val hW rfl rfl (x_move rfl) ?_
        refine wl_call hW rfl rfl (x_call en24 rfl) ((C24 hR1 hR2).inF hFF) ?_
        rintro _ wC2 ⟨⟨b2, rfl, hb2⟩, hxC⟩
        obtain rfl : b2 = true := hb2.2 (by split; exact (rLeft_is _ _ _ (rightB_iff.1 ‹_›).2).symm; rfl)
        replace hE := hE.trans hxC
        refine wl_val hW rfl rfl (x_move rfl) ?_
        refine wl_val hW rfl rfl (x_move rfl) ?_
        refine wl_val hW rfl rfl (x_move rfl) ?_
        refine wl_val hW rfl rfl (x_eqlT rfl rfl rfl) ?_
        refine wl_val hW rfl rfl (x_pickT rfl rfl) ?_
        refine wl_val hW rfl rfl (x_assign rfl) ?_
        refine wl_nil ?_
        exact nx_cut (by repeat (first | exact sub_nil | refine sub_cons rfl ?_)) hE
      · rintro w' hE
        refine nx_then ?_
        refine wc_ret ?_
        exact ends_ret (res_tmp Try.results4 rfl) ⟨rfl, hE⟩
end Go.Proofs.Ytblbddamebbgaaa.K

