/- Walks: comparing, Right. -/
import Derived.Test.YtblbddamebbgaaaKp
namespace Go.Proofs.Ytblbddamebbgaaa.K
open Go Go.RowKit
set_option linter.unusedVariables false
set_option linter.unusedSimpArgs false

theorem C81 (s : ByteArray) (w : World) : Rt Try.prog 81 [.string s] w fun r w' => r = .bool false ∧ Ext w w' := by
  have hW := hWw
  have hFF := hFw
  have hE : Ext w w := Keep.refl _ _
  refine rt_body Try.func81 rfl Try.ntmps81 rfl ?_
  refine wc_seq ?_
  refine wc_region ?_
  refine wl_val hW rfl rfl (x_assign rfl) ?_
  refine wl_nil ?_
  refine nx_then ?_
  refine wc_seq ?_
  refine wc_region ?_
  refine wl_val hW rfl rfl (x_move rfl) ?_
  refine wl_val hW rfl rfl (x_move rfl) ?_
  refine wl_val hW rfl rfl (x_sneq rfl rfl) ?_
  refine wl_val hW rfl rfl (x_assign rfl) ?_
  refine wl_nil ?_
  refine nx_then ?_
  refine wc_ret ?_
  exact ends_ret (res_tmp Try.results81 rfl) ⟨by simp, hE⟩
theorem C82 (s : Int) (w : World) : Rt Try.prog 82 [.int .u64 s] w fun r w' => r = .bool false ∧ Ext w w' := by
  have hW := hWw
  have hFF := hFw
  have hE : Ext w w := Keep.refl _ _
  refine rt_body Try.func82 rfl Try.ntmps82 rfl ?_
  refine wc_seq ?_
  refine wc_region ?_
  refine wl_val hW rfl rfl (x_assign rfl) ?_
  refine wl_nil ?_
  refine nx_then ?_
  refine wc_seq ?_
  refine wc_region ?_
  refine wl_val hW rfl rfl (x_move rfl) ?_
  refine wl_val hW rfl rfl (x_move rfl) ?_
  refine wl_val hW rfl rfl (x_neq rfl rfl) ?_
  refine wl_val hW rfl rfl (x_assign rfl) ?_
  refine wl_nil ?_
  refine nx_then ?_
  refine wc_ret ?_
  exact ends_ret (res_tmp Try.results82 rfl) ⟨by simp, hE⟩
theorem C56 (s r : ByteArray) (w : World) : Rt Try.prog 56 [.string s, .string r] w fun v w' => v = .int .i64 (cmpS s r) ∧ Ext w w' := by
  have hW := hWw
  have hFF := hFw
  have hE : Ext w w := Keep.refl _ _
  refine rt_body Try.func56 rfl Try.ntmps56 rfl ?_
  refine wc_seq ?_
  refine wc_region ?_
  refine wl_val hW rfl rfl (x_assign rfl) ?_
  refine wl_nil ?_
  refine nx_then ?_
  refine wc_seq ?_
  refine wc_region ?_
  refine wl_val hW rfl rfl (x_move rfl) ?_
  refine wl_call hW rfl rfl (x_call en81 rfl) ((C81 _ _).inF hFF) ?_
  rintro _ wC ⟨rfl, hxC⟩
  replace hE := hE.trans hxC
  refine wl_val hW rfl rfl (x_assign rfl) ?_
  refine wl_nil ?_
  refine nx_then ?_
  refine wc_seq ?_
  refine wc_region ?_
  refine wl_val hW rfl rfl (x_move rfl) ?_
  refine wl_call hW rfl rfl (x_call en81 rfl) ((C81 _ _).inF hFF) ?_
  rintro _ wC ⟨rfl, hxC⟩
  replace hE := hE.trans hxC
  refine wl_val hW rfl rfl (x_assign rfl) ?_
  refine wl_nil ?_
  refine nx_then ?_
  refine wc_seq ?_
  refine wc_seq ?_
  refine wc_region ?_
  refine wl_val hW rfl rfl (x_move rfl) ?_
  refine wl_nil ?_
  refine nx_then ?_
  refine wc_false rfl ?_
  refine wc_skip ?_
  refine nx_then ?_
  refine wc_seq ?_
  refine wc_seq ?_
  refine wc_region ?_
  refine wl_val hW rfl rfl (x_move rfl) ?_
  refine wl_nil ?_
  refine nx_then ?_
  refine wc_false rfl ?_
  refine wc_skip ?_
  refine nx_then ?_
  refine wc_seq ?_
  refine wc_seq ?_
  refine wc_region ?_
  refine wl_val hW rfl rfl (x_move rfl) ?_
  refine wl_val hW rfl rfl (x_move rfl) ?_
  refine wl_val hW rfl rfl (x_slss rfl rfl) ?_
  refine wl_nil ?_
  refine nx_then ?_
  refine wc_bool rfl (fun hc => ?_) (fun hc => ?_)
  · refine wc_seq ?_
    refine wc_region ?_
    refine wl_val hW rfl rfl (x_assign rfl) ?_
    refine wl_nil ?_
    refine nx_then ?_
    refine wc_ret ?_
    refine nx_then_ret ?_
    exact ends_ret (res_tmp Try.results56 rfl) ⟨by rw [cmpS_1 hc], hE⟩
  · refine wc_skip ?_
    refine nx_then ?_
    refine wc_seq ?_
    refine wc_seq ?_
    refine wc_region ?_
    refine wl_val hW rfl rfl (x_move rfl) ?_
    refine wl_val hW rfl rfl (x_move rfl) ?_
    refine wl_val hW rfl rfl (x_sgtr rfl rfl) ?_
    refine wl_nil ?_
    refine nx_then ?_
    refine wc_bool rfl (fun hc => ?_) (fun hc => ?_)
    · refine wc_seq ?_
      refine wc_region ?_
      refine wl_val hW rfl rfl (x_assign rfl) ?_
      refine wl_nil ?_
      refine nx_then ?_
      refine wc_ret ?_
      refine nx_then_ret ?_
      exact ends_ret (res_tmp Try.results56 rfl) ⟨by rw [cmpS_2 ‹_› hc], hE⟩
    · refine wc_skip ?_
      refine nx_then ?_
      refine wc_seq ?_
      refine wc_region ?_
      refine wl_val hW rfl rfl (x_assign rfl) ?_
      refine wl_nil ?_
      refine nx_then ?_
      refine wc_ret ?_
      exact ends_ret (res_tmp Try.results56 rfl) ⟨by rw [cmpS_3 ‹_› hc], hE⟩
theorem C57 (s r : Int) (w : World) : Rt Try.prog 57 [.int .u64 s, .int .u64 r] w fun v w' => v = .int .i64 (cmpI s r) ∧ Ext w w' := by
  have hW := hWw
  have hFF := hFw
  have hE : Ext w w := Keep.refl _ _
  refine rt_body Try.func57 rfl Try.ntmps57 rfl ?_
  refine wc_seq ?_
  refine wc_region ?_
  refine wl_val hW rfl rfl (x_assign rfl) ?_
  refine wl_nil ?_
  refine nx_then ?_
  refine wc_seq ?_
  refine wc_region ?_
  refine wl_val hW rfl rfl (x_move rfl) ?_
  refine wl_call hW rfl rfl (x_call en82 rfl) ((C82 _ _).inF hFF) ?_
  rintro _ wC ⟨rfl, hxC⟩
  replace hE := hE.trans hxC
  refine wl_val hW rfl rfl (x_assign rfl) ?_
  refine wl_nil ?_
  refine nx_then ?_
  refine wc_seq ?_
  refine wc_region ?_
  refine wl_val hW rfl rfl (x_move rfl) ?_
  refine wl_call hW rfl rfl (x_call en82 rfl) ((C82 _ _).inF hFF) ?_
  rintro _ wC ⟨rfl, hxC⟩
  replace hE := hE.trans hxC
  refine wl_val hW rfl rfl (x_assign rfl) ?_
  refine wl_nil ?_
  refine nx_then ?_
  refine wc_seq ?_
  refine wc_seq ?_
  refine wc_region ?_
  refine wl_val hW rfl rfl (x_move rfl) ?_
  refine wl_nil ?_
  refine nx_then ?_
  refine wc_false rfl ?_
  refine wc_skip ?_
  refine nx_then ?_
  refine wc_seq ?_
  refine wc_seq ?_
  refine wc_region ?_
  refine wl_val hW rfl rfl (x_move rfl) ?_
  refine wl_nil ?_
  refine nx_then ?_
  refine wc_false rfl ?_
  refine wc_skip ?_
  refine nx_then ?_
  refine wc_seq ?_
  refine wc_seq ?_
  refine wc_region ?_
  refine wl_val hW rfl rfl (x_move rfl) ?_
  refine wl_val hW rfl rfl (x_move rfl) ?_
  refine wl_val hW rfl rfl (x_lss rfl rfl) ?_
  refine wl_nil ?_
  refine nx_then ?_
  refine wc_dec rfl (fun hc => ?_) (fun hc => ?_)
  · refine wc_seq ?_
    refine wc_region ?_
    refine wl_val hW rfl rfl (x_assign rfl) ?_
    refine wl_nil ?_
    refine nx_then ?_
    refine wc_ret ?_
    refine nx_then_ret ?_
    exact ends_ret (res_tmp Try.results57 rfl) ⟨by unfold cmpI; rw [if_pos hc], hE⟩
  · refine wc_skip ?_
    refine nx_then ?_
    refine wc_seq ?_
    refine wc_seq ?_
    refine wc_region ?_
    refine wl_val hW rfl rfl (x_move rfl) ?_
    refine wl_val hW rfl rfl (x_move rfl) ?_
    refine wl_val hW rfl rfl (x_gtr rfl rfl) ?_
    refine wl_nil ?_
    refine nx_then ?_
    refine wc_dec rfl (fun hc => ?_) (fun hc => ?_)
    · refine wc_seq ?_
      refine wc_region ?_
      refine wl_val hW rfl rfl (x_assign rfl) ?_
      refine wl_nil ?_
      refine nx_then ?_
      refine wc_ret ?_
      refine nx_then_ret ?_
      exact ends_ret (res_tmp Try.results57 rfl) ⟨by unfold cmpI; rw [if_neg ‹_›, if_pos hc], hE⟩
    · refine wc_skip ?_
      refine nx_then ?_
      refine wc_seq ?_
      refine wc_region ?_
      refine wl_val hW rfl rfl (x_assign rfl) ?_
      refine wl_nil ?_
      refine nx_then ?_
      refine wc_ret ?_
      exact ends_ret (res_tmp Try.results57 rfl) ⟨by unfold cmpI; rw [if_neg ‹_›, if_neg ‹_›], hE⟩
theorem C55 (b : Nat) (c1 c2 : Int) (w : World) (hB : Blk w b [.int .i64 c1, .int .i64 c2] 3) : Rt Try.prog 55 [.slice (some ⟨b, 0, none⟩) 2 2] w fun v w' => v = .int .i64 (if c1 ≠ 0 then c1 else c2) ∧ Ext w w' := by
  have hW := hWw
  have hFF := hFw
  have hE : Ext w w := Keep.refl _ _
  refine rt_body Try.func55 rfl Try.ntmps55 rfl ?_
  refine wc_seq ?_
  refine wc_region ?_
  refine wl_val hW rfl rfl (x_assign rfl) ?_
  refine wl_nil ?_
  refine nx_then ?_
  refine wc_seq ?_
  refine wc_region ?_
  refine wl_val hW rfl rfl (x_assign rfl) ?_
  refine wl_nil ?_
  refine nx_then ?_
  refine wc_seq ?_
  refine wc_seq ?_
  refine wc_region ?_
  refine wl_val hW rfl rfl (x_move rfl) ?_
  refine wl_val hW rfl rfl (x_len Try.underlying42 rfl) ?_
  refine wl_val hW rfl rfl (x_move rfl) ?_
  refine wl_nil ?_
  refine nx_then ?_
  refine wc_block ?_
  refine wc_loop (σ := Nat) (fun s => [(3, .int .i64 0), (6, .slice (some ⟨b, 0, none⟩) 2 2), (7, .int .i64 (2 : Nat)), (8, .int .i64 s)]) (fun s w' => (s ≤ 2 ∧ (1 ≤ s → c1 = 0) ∧ (2 ≤ s → c2 = 0)) ∧ Ext w w') (fun s => 2 - s) 0 ?_ ?_ ?_
  · exact ⟨⟨by omega, fun h => by omega, fun h => by omega⟩, hE⟩
  · repeat (first | exact sub_nil | refine sub_cons rfl ?_)
  · rintro s wr ⟨hs, hE⟩
    refine wc_seq ?_
    refine wc_region ?_
    refine wl_val hW rfl rfl (x_lss rfl rfl) ?_
    refine wl_nil ?_
    refine nx_then ?_
    refine wc_seq ?_
    refine wc_dec rfl (fun hc => ?_) (fun hc => ?_)
    · have hs2 : s < 2 := by omega
      have hC : wr.cell? ⟨b, 0 + s * 1, none⟩ = some (.int .i64 (if s = 0 then c1 else c2)) := by
        have := hB.ext hE
        rcases (show s = 0 ∨ s = 1 by omega) with rfl | rfl
        · exact this.cell (o := 0) rfl
        · exact this.cell (o := 1) rfl
      refine wc_skip ?_
      refine nx_then ?_
      refine wc_seq ?_
      refine wc_block ?_
      refine wc_seq ?_
      refine wc_region ?_
      refine wl_val hW rfl rfl (x_indexAddr Try.underlying42 fl3.siz rfl rfl (by omega) (by omega)) ?_
      refine wl_val hW rfl rfl (x_load fl3 rfl hC) ?_
      refine wl_val hW rfl rfl (x_assign rfl) ?_
      refine wl_nil ?_
      refine nx_then ?_
      refine wc_seq ?_
      refine wc_region ?_
      refine wl_val hW rfl rfl (x_move rfl) ?_
      refine wl_val hW rfl rfl (x_move rfl) ?_
      refine wl_val hW rfl rfl (x_neq rfl rfl) ?_
      refine wl_nil ?_
      refine nx_then ?_
      refine wc_dec rfl (fun hc => ?_) (fun hc => ?_)
      · refine wc_seq ?_
        refine wc_region ?_
        refine wl_val hW rfl rfl (x_move rfl) ?_
        refine wl_val hW rfl rfl (x_assign rfl) ?_
        refine wl_nil ?_
        refine nx_then ?_
        refine wc_ret ?_
        refine nx_block_ret ?_
        refine nx_then_ret ?_
        refine nx_then_ret ?_
        refine nx_block_ret ?_
        refine nx_then_ret ?_
        exact ends_ret (res_tmp Try.results55 rfl) ⟨by rcases (show s = 0 ∨ s = 1 by omega) with rfl | rfl; (simp at hc ⊢; simp [hc]); (have h1 := hs.2.1 (by omega); simp [h1]), hE⟩
      · refine wc_skip ?_
        refine nx_block ?_
        refine nx_then ?_
        refine wc_region ?_
        refine wl_val hW rfl rfl (x_inc rfl (by omega)) ?_
        refine wl_val hW rfl rfl (x_move rfl) ?_
        refine wl_nil ?_
        have hz : (if s = 0 then c1 else c2) = 0 := Decidable.not_not.1 hc
        have h74 : (1 ≤ s + 1 → c1 = 0) ∧ (2 ≤ s + 1 → c2 = 0) := by
          rcases (show s = 0 ∨ s = 1 by omega) with rfl | rfl
          · exact ⟨fun _ => by simpa using hz, fun h => by omega⟩
          · exact ⟨fun _ => hs.2.1 (by omega), fun _ => by simpa using hz⟩
        exact nx_next (s + 1) (by omega) ⟨⟨by omega, h74⟩, hE⟩ (by repeat (first | exact sub_nil | refine sub_cons rfl ?_))
    · refine wc_exit ?_
      refine nx_then_exit ?_
      refine nx_then_exit ?_
      refine nx_block_exit ?_
      refine nx_then ?_
      refine wc_seq ?_
      refine wc_region ?_
      refine wl_val hW rfl rfl (x_move rfl) ?_
      refine wl_val hW rfl rfl (x_assign rfl) ?_
      refine wl_nil ?_
      refine nx_then ?_
      refine wc_ret ?_
      exact ends_ret (res_tmp Try.results55 rfl) ⟨by have h1 := hs.2.1 (by omega); have h2 := hs.2.2 (by omega); simp [h1, h2], hE⟩
theorem C18 (e1 e2 : Ent) (v1 v2 : Value) (w : World) : Rt Try.prog 18 [.agg (cellsOf e1 v1).toArray, .agg (cellsOf e2 v2).toArray] w fun v w' => v = .int .i64 (cmpE e1 e2) ∧ Ext w w' := by
  have hW := hWw
  have hFF := hFw
  have hE : Ext w w := Keep.refl _ _
  refine rt_body Try.func18 rfl Try.ntmps18 rfl ?_
  refine wc_seq ?_
  refine wc_region ?_
  refine wl_box hW rfl rfl rfl rfl ?_
  intro b2 w2 hl2 hB2 hx2
  have g2 : w.heap.size ≤ b2 := Nat.le_trans hE.size hl2
  replace hE := hE.trans hx2
  refine wl_box hW rfl rfl rfl rfl ?_
  intro b3 w3 hl3 hB3 hx3
  have g3 : w.heap.size ≤ b3 := Nat.le_trans hE.size hl3
  have n3_2 : b3 ≠ b2 := Nat.ne_of_gt (Nat.lt_of_lt_of_le hB2.lt hl3)
  replace hB2 := hB2.ext hx3
  replace hE := hE.trans hx3
  refine wl_val hW rfl rfl (x_assign rfl) ?_
  refine wl_nil ?_
  refine nx_then ?_
  refine wc_seq ?_
  refine wc_draw' 10 hW mixed (by kernel_rfl) (fun w0 hx0 => ?_)
  replace hB2 := hB2.ext hx0
  replace hB3 := hB3.ext hx0
  replace hE := hE.trans hx0
  refine q_val rfl rfl (fun _ hx => x_fieldAddr Try.underlying25 rfl fl9.siz rfl) ?_
  refine q_val rfl rfl (fun _ hx => x_load fl9 rfl (hx.cell (hB2.cell (o := 0) rfl))) ?_
  refine q_val rfl rfl (fun _ hx => x_fieldAddr Try.underlying25 rfl fl9.siz rfl) ?_
  refine q_val rfl rfl (fun _ hx => x_load fl9 rfl (hx.cell (hB3.cell (o := 0) rfl))) ?_
  refine q_call rfl rfl (fun _ => x_call en56 rfl) (fun w' hx => (C56 _ _ _).inF hFF) ?_
  refine q_val rfl rfl (fun _ hx => x_fieldAddr Try.underlying25 rfl fl22.siz rfl) ?_
  refine q_val rfl rfl (fun _ hx => x_load fl22 rfl (hx.cell (hB3.cell (o := 1) rfl))) ?_
  refine q_val rfl rfl (fun _ hx => x_fieldAddr Try.underlying25 rfl fl22.siz rfl) ?_
  refine q_val rfl rfl (fun _ hx => x_load fl22 rfl (hx.cell (hB2.cell (o := 1) rfl))) ?_
  refine q_call rfl rfl (fun _ => x_call en57 rfl) (fun w' hx => (C57 _ _ _).inF hFF) ?_
  refine q_nil (tail0 (fun wt hxt => ?_))
  replace hB2 := hB2.ext hxt
  replace hB3 := hB3.ext hxt
  replace hE := hE.trans hxt
  refine wl_buildSlice (parts := [(0, .tmp 9), (1, .tmp 14)]) hW rfl rfl Try.underlying42 fl3.siz Try.zeroValue3 rfl rfl rfl (by omega) ?_
  intro b15 w15 hl15 hB15 hx15
  have g15 : w.heap.size ≤ b15 := Nat.le_trans hE.size hl15
  have n15_2 : b15 ≠ b2 := Nat.ne_of_gt (Nat.lt_of_lt_of_le hB2.lt hl15)
  replace hB2 := hB2.ext hx15
  have n15_3 : b15 ≠ b3 := Nat.ne_of_gt (Nat.lt_of_lt_of_le hB3.lt hl15)
  replace hB3 := hB3.ext hx15
  replace hE := hE.trans hx15
  refine wl_call hW rfl rfl (x_call en55 rfl) ((C55 _ _ _ _ hB15).inF hFF) ?_
  rintro _ wC ⟨rfl, hxC⟩
  replace hB2 := hB2.ext hxC
  replace hB3 := hB3.ext hxC
  replace hB15 := hB15.ext hxC
  replace hE := hE.trans hxC
  refine wl_val hW rfl rfl (x_assign rfl) ?_
  refine wl_nil ?_
  refine nx_then ?_
  refine wc_ret ?_
  exact ends_ret (res_tmp Try.results18 rfl) ⟨rfl, hE⟩
theorem C59 (e1 e2 : Ent) (v1 v2 : Value) (w : World) : Rt Try.prog 59 [.agg (cellsOf e1 v1).toArray, .agg (cellsOf e2 v2).toArray] w fun v w' => v = .bool (decide (ltE e1 e2)) ∧ Ext w w' := by
  have hW := hWw
  have hFF := hFw
  have hE : Ext w w := Keep.refl _ _
  refine rt_body Try.func59 rfl Try.ntmps59 rfl ?_
  refine wc_seq ?_
  refine wc_region ?_
  refine wl_box hW rfl rfl rfl rfl ?_
  intro b2 w2 hl2 hB2 hx2
  have g2 : w.heap.size ≤ b2 := Nat.le_trans hE.size hl2
  replace hE := hE.trans hx2
  refine wl_box hW rfl rfl rfl rfl ?_
  intro b3 w3 hl3 hB3 hx3
  have g3 : w.heap.size ≤ b3 := Nat.le_trans hE.size hl3
  have n3_2 : b3 ≠ b2 := Nat.ne_of_gt (Nat.lt_of_lt_of_le hB2.lt hl3)
  replace hB2 := hB2.ext hx3
  replace hE := hE.trans hx3
  refine wl_val hW rfl rfl (x_assign rfl) ?_
  refine wl_nil ?_
  refine nx_then ?_
  refine wc_seq ?_
  refine wc_region ?_
  refine wl_val hW rfl rfl (x_loadA ag25 rfl hB2.cells rfl) ?_
  refine wl_val hW rfl rfl (x_loadA ag25 rfl hB3.cells rfl) ?_
  refine wl_call hW rfl rfl (x_call en18 rfl) ((C18 _ _ _ _ _).inF hFF) ?_
  rintro _ wC ⟨rfl, hxC⟩
  replace hB2 := hB2.ext hxC
  replace hB3 := hB3.ext hxC
  replace hE := hE.trans hxC
  refine wl_val hW rfl rfl (x_lss rfl rfl) ?_
  refine wl_val hW rfl rfl (x_assign rfl) ?_
  refine wl_nil ?_
  refine nx_then ?_
  refine wc_ret ?_
  exact ends_ret (res_tmp Try.results59 rfl) ⟨by rw [decide_eq_decide.2 cmpE_neg], hE⟩
theorem C58 {A : Nat → Prop} {w : World} {v : Value} {es : List Ent} (hR : Row A w v es) : Rt Try.prog 58 [v, .func (.func 59) #[] #[]] w fun r w' => r = .bool (adjB es) ∧ Ext w w' := by
  obtain ⟨ad, cap, rfl, hcap, hlen⟩ := hR.form
  have hW := hWw
  have hFF := hFw
  have hE : Ext w w := Keep.refl _ _
  refine rt_body Try.func58 rfl Try.ntmps58 rfl ?_
  refine wc_seq ?_
  refine wc_region ?_
  refine wl_val hW rfl rfl (x_assign rfl) ?_
  refine wl_nil ?_
  refine nx_then ?_
  refine wc_seq ?_
  refine wc_seq ?_
  refine wc_region ?_
  refine wl_val hW rfl rfl (x_assign rfl) ?_
  refine wl_nil ?_
  refine nx_then ?_
  refine wc_block ?_
  refine wc_loop (σ := Nat) (fun s => [(0, .slice ad es.length cap), (1, .func (.func 59) #[] #[]), (5, .int .i64 ((s + 1 : Nat) : Int))]) (fun s w' => ((∀ i, i < s → ∀ h : i + 1 < es.length, ltE es[i] es[i + 1]) ∧ (s = 0 ∨ s + 1 ≤ es.length)) ∧ Ext w w') (fun s => es.length - s) 0 ?_ ?_ ?_
  · exact ⟨⟨fun i h => absurd h (Nat.not_lt_zero _), .inl rfl⟩, hE⟩
  · repeat (first | exact sub_nil | refine sub_cons rfl ?_)
  · rintro s wr ⟨hs, hE⟩
    refine wc_seq ?_
    refine wc_seq ?_
    refine wc_region ?_
    refine wl_val hW rfl rfl (x_move rfl) ?_
    refine wl_val hW rfl rfl (x_move rfl) ?_
    refine wl_val hW rfl rfl (x_len Try.underlying26 rfl) ?_
    refine wl_val hW rfl rfl (x_lss rfl rfl) ?_
    refine wl_nil ?_
    refine nx_then ?_
    refine wc_dec rfl (fun hc => ?_) (fun hc => ?_)
    · have hlt : s + 1 < es.length := by omega
      obtain ⟨b, o, cap', v1, e1, hA, hC16, hb1, hok1⟩ := (hR.ext hE).at s (by omega)
      cases e1
      obtain ⟨b', o', cap', v2, e2, hA', hC20, hb2, hok2⟩ := (hR.ext hE).at (s + 1) hlt
      cases e2
      refine wc_skip ?_
      refine nx_then ?_
      refine wc_seq ?_
      refine wc_block ?_
      refine wc_seq ?_
      refine wc_draw' 12 hW mixed (by kernel_rfl) (fun w0 hx0 => ?_)
      replace hE := hE.trans hx0
      replace hC16 := hC16.ext hx0
      replace hC20 := hC20.ext hx0
      refine q_val rfl rfl (fun _ hx => x_move rfl) ?_
      refine q_val rfl rfl (fun _ hx => x_move rfl) ?_
      refine q_val rfl rfl (fun _ hx => x_move rfl) ?_
      refine q_val rfl rfl (fun _ hx => x_decr rfl (by omega)) ?_
      refine q_val rfl rfl (fun _ hx => x_indexAddr Try.underlying26 ag25.siz rfl rfl (by omega) (by omega)) ?_
      refine q_val rfl rfl (fun _ hx => x_loadA ag25 rfl (hC16.ext hx) rfl) ?_
      refine q_val rfl rfl (fun _ hx => x_move rfl) ?_
      refine q_val rfl rfl (fun _ hx => x_move rfl) ?_
      refine q_val rfl rfl (fun _ hx => x_indexAddr Try.underlying26 ag25.siz rfl rfl (by omega) (by omega)) ?_
      refine q_val rfl rfl (fun _ hx => x_loadA ag25 rfl (hC20.ext hx) rfl) ?_
      refine q_call rfl rfl (fun _ => x_callv (cap := []) en59 rfl rfl) (fun w' hx => (C59 _ _ _ _ _).inF hFF) ?_
      refine q_val rfl rfl (fun _ hx => x_not rfl) ?_
      refine q_nil (tail0 (fun wt hxt => ?_))
      replace hE := hE.trans hxt
      refine wl_nil ?_
      refine nx_then ?_
      refine wc_bool rfl (fun hc => ?_) (fun hc => ?_)
      · refine wc_seq ?_
        refine wc_region ?_
        refine wl_val hW rfl rfl (x_assign rfl) ?_
        refine wl_nil ?_
        refine nx_then ?_
        refine wc_ret ?_
        refine nx_block_ret ?_
        refine nx_then_ret ?_
        refine nx_then_ret ?_
        refine nx_block_ret ?_
        refine nx_then_ret ?_
        have hfin : adjB es = false := by rw [Bool.eq_false_iff]; intro h; have h1 := (adjB_iff es).1 h s hlt; simp [h1] at hc
        exact ends_ret (res_tmp Try.results58 rfl) ⟨by rw [hfin], hE⟩
      · refine wc_skip ?_
        refine nx_block ?_
        refine nx_then ?_
        refine wc_region ?_
        refine wl_val hW rfl rfl (x_move rfl) ?_
        refine wl_val hW rfl rfl (x_inc rfl (by omega)) ?_
        refine wl_val hW rfl rfl (x_assign rfl) ?_
        refine wl_nil ?_
        exact nx_next (s + 1) (by omega) ⟨⟨fun i hi h => by rcases Nat.lt_succ_iff_lt_or_eq.1 hi with h1 | rfl; exact hs.1 i h1 h; simpa using hc, .inr (by omega)⟩, hE⟩ (by repeat (first | exact sub_nil | refine sub_cons rfl ?_))
    · refine wc_exit ?_
      refine nx_then_exit ?_
      refine nx_then_exit ?_
      refine nx_block_exit ?_
      refine nx_then ?_
      refine wc_seq ?_
      refine wc_region ?_
      refine wl_val hW rfl rfl (x_assign rfl) ?_
      refine wl_nil ?_
      refine nx_then ?_
      refine wc_ret ?_
      have hfin : adjB es = true := (adjB_iff es).2 (fun i hi => hs.1 i (by omega) hi)
      exact ends_ret (res_tmp Try.results58 rfl) ⟨by rw [hfin], hE⟩
theorem C20 {A : Nat → Prop} {w : World} {v : Value} {es : List Ent} (hR : Row A w v es) : Rt Try.prog 20 [v] w fun r w' => r = .bool (rightB es) ∧ Ext w w' := by
  obtain ⟨ad, cap, rfl, hcap, hlen⟩ := hR.form
  have hW := hWw
  have hFF := hFw
  have hE : Ext w w := Keep.refl _ _
  refine rt_body Try.func20 rfl Try.ntmps20 rfl ?_
  refine wc_seq ?_
  refine wc_region ?_
  refine wl_val hW rfl rfl (x_assign rfl) ?_
  refine wl_nil ?_
  refine nx_then ?_
  refine wc_seq ?_
  refine wc_seq ?_
  refine wc_region ?_
  refine wl_val hW rfl rfl (x_move rfl) ?_
  refine wl_val hW rfl rfl (x_len Try.underlying26 rfl) ?_
  refine wl_val hW rfl rfl (x_move rfl) ?_
  refine wl_nil ?_
  refine nx_then ?_
  refine wc_block ?_
  refine wc_loop (σ := Nat) (fun s => [(0, .slice ad es.length cap), (5, .slice ad es.length cap), (6, .int .i64 es.length), (7, .int .i64 s)]) (fun s w' => (s ≤ es.length ∧ ∀ i (h : i < es.length), i < s → okB es[i] = true) ∧ Ext w w') (fun s => es.length - s) 0 ?_ ?_ ?_
  · exact ⟨⟨Nat.zero_le _, fun i _ h => absurd h (Nat.not_lt_zero _)⟩, hE⟩
  · repeat (first | exact sub_nil | refine sub_cons rfl ?_)
  · rintro s wr ⟨hs, hE⟩
    refine wc_seq ?_
    refine wc_region ?_
    refine wl_val hW rfl rfl (x_lss rfl rfl) ?_
    refine wl_nil ?_
    refine nx_then ?_
    refine wc_seq ?_
    refine wc_dec rfl (fun hc => ?_) (fun hc => ?_)
    · have hlt : s < es.length := by omega
      obtain ⟨b, o, cap', bv, e1, hA, hC9, hb1, hok1⟩ := (hR.ext hE).at s hlt
      cases e1
      obtain ⟨av, cv, hbv, hcv⟩ := hb1.form
      subst hbv
      refine wc_skip ?_
      refine nx_then ?_
      refine wc_seq ?_
      refine wc_block ?_
      refine wc_seq ?_
      refine wc_region ?_
      refine wl_val hW rfl rfl (x_indexAddr Try.underlying26 ag25.siz rfl rfl (by omega) (by omega)) ?_
      refine wl_val hW rfl rfl (x_loadA ag25 rfl hC9 rfl) ?_
      refine wl_alloc (cs := [.string ⟨#[]⟩, .int .u64 0, .bool false, .slice none 0 0]) hW rfl rfl Try.zeroValue25 rfl ?_
      intro b4 w4 hl4 hB4 hx4
      have g4 : w.heap.size ≤ b4 := Nat.le_trans hE.size hl4
      replace hE := hE.trans hx4
      refine wl_storeA hW rfl ag25 rfl rfl rfl rfl hB4 rfl ?_
      intro wS hBS hkS
      replace hB4 := hBS
      clear hBS
      replace hE := hE.store hkS g4
      refine wl_nil ?_
      refine nx_then ?_
      refine wc_seq ?_
      refine wc_cut [(0, .slice (some ⟨b, o, none⟩) es.length cap), (5, .slice (some ⟨b, o, none⟩) es.length cap), (6, .int .i64 es.length), (7, .int .i64 s), (18, .bool (!okB es[s]))] (fun w' => w' = wS) ?_ ?_
      · refine wc_region ?_
        refine wl_val hW rfl rfl (x_fieldAddr Try.underlying25 rfl fl4.siz rfl) ?_
        refine wl_val hW rfl rfl (x_load fl4 rfl (hB4.cell (o := 2) rfl)) ?_
        refine wl_val hW rfl rfl (x_move rfl) ?_
        refine wl_bcases (d := 13) rfl (fun hg13 => ?_) (fun hg13 => ?_)
        · refine wl_val hW rfl rfl (x_fieldAddr Try.underlying25 rfl fl23.siz rfl) ?_
          refine wl_val hW rfl rfl (x_load fl23 rfl (hB4.cell (o := 3) rfl)) ?_
          refine wl_val hW rfl rfl (x_len Try.underlying23 rfl) ?_
          refine wl_val hW rfl rfl (x_gtr rfl rfl) ?_
          refine wl_val hW rfl rfl (x_pickT rfl rfl) ?_
          refine wl_nil ?_
          have e18 : (!okB es[s]) = decide ((0 : Int) < ((es[s].v.length : Nat) : Int)) := by unfold okB; rw [hg13]; simp
          rw [e18]
          exact nx_cut (by repeat (first | exact sub_nil | refine sub_cons rfl ?_)) rfl
        · refine wl_off hW rfl rfl ?_
          refine wl_off hW rfl rfl ?_
          refine wl_off hW rfl rfl ?_
          refine wl_off hW rfl rfl ?_
          refine wl_val hW rfl rfl (x_pickF rfl rfl) ?_
          refine wl_nil ?_
          have e18 : (!okB es[s]) = false := by unfold okB; rw [hg13]; simp
          rw [e18]
          exact nx_cut (by repeat (first | exact sub_nil | refine sub_cons rfl ?_)) rfl
      · rintro w' rfl
        refine nx_then ?_
        refine wc_bool rfl (fun hc => ?_) (fun hc => ?_)
        · refine wc_seq ?_
          refine wc_region ?_
          refine wl_val hW rfl rfl (x_assign rfl) ?_
          refine wl_nil ?_
          refine nx_then ?_
          refine wc_ret ?_
          refine nx_block_ret ?_
          refine nx_then_ret ?_
          refine nx_then_ret ?_
          refine nx_block_ret ?_
          refine nx_then_ret ?_
          have hfal : rightB es = false := by
            have h1 : okB es[s] = false := by simpa using hc
            unfold rightB
            rw [Bool.and_eq_false_iff]
            exact .inl (List.all_eq_false.2 ⟨es[s], List.getElem_mem hlt, by simp [h1]⟩)
          exact ends_ret (res_tmp Try.results20 rfl) ⟨by rw [hfal], hE⟩
        · refine wc_skip ?_
          refine nx_block ?_
          refine nx_then ?_
          refine wc_region ?_
          refine wl_val hW rfl rfl (x_inc rfl (by omega)) ?_
          refine wl_val hW rfl rfl (x_move rfl) ?_
          refine wl_nil ?_
          exact nx_next (s + 1) (by omega) ⟨⟨hlt, fun i hi h => by rcases Nat.lt_succ_iff_lt_or_eq.1 h with h | rfl; exact hs.2 i hi h; simpa using hc⟩, hE⟩ (by repeat (first | exact sub_nil | refine sub_cons rfl ?_))
    · refine wc_exit ?_
      refine nx_then_exit ?_
      refine nx_then_exit ?_
      refine nx_block_exit ?_
      refine nx_then ?_
      refine wc_seq ?_
      refine wc_region ?_
      refine wl_val hW rfl rfl (x_move rfl) ?_
      refine wl_call hW rfl rfl (x_call en58 rfl) ((C58 (hR.ext hE)).inF hFF) ?_
      rintro _ wC ⟨rfl, hxC⟩
      replace hE := hE.trans hxC
      refine wl_val hW rfl rfl (x_assign rfl) ?_
      refine wl_nil ?_
      refine nx_then ?_
      refine wc_ret ?_
      exact ends_ret (res_tmp Try.results20 rfl) ⟨by unfold rightB; rw [List.all_eq_true.2 (fun e he => by obtain ⟨i, hi, rfl⟩ := List.getElem_of_mem he; exact hs.2 i hi (by omega))]; simp, hE⟩
end Go.Proofs.Ytblbddamebbgaaa.K

