import Derived.Test.YtblbddamebbgaaaY1
import Derived.Laws.IdiomStrings
import Derived.Laws.BytesArg
import Derived.Test.YtblbddamebbgaaaRows
import Derived.WalkKit
import Derived.ProofKit
import Derived.OpenShut
import Derived.JoinedCond
import Derived.Lib.SmallJoins
import Derived.Deep.Slices
/- Walks: comparing, Right. -/
namespace Go.Proofs.Ytblbddamebbgaaa.K
open Go Go.RowKit
set_option linter.unusedVariables false
set_option linter.unusedSimpArgs false

theorem C81 (s : ByteArray) (w : World) : Rt Try.prog 81 [.string s] w fun r w' => r = .bool false ∧ Ext w w' := by
  have hW := hWw
  have hFF := hFw
  have hE : Ext w w := Keep.refl _ _
  refine rt_body Try.func81 rfl Try.ntmps81 rfl ?_
  refine wc_seq ?_
  refine wc_region ?_
  refine wl_val hW rfl rfl (x_assign rfl) ?_
  refine wl_nil ?_
  refine nx_then ?_
  refine wc_seq ?_
  refine wc_region ?_
  refine wl_val hW rfl rfl (x_move rfl) ?_
  refine wl_val hW rfl rfl (x_move rfl) ?_
  refine wl_val hW rfl rfl (x_sneq rfl rfl) ?_
  refine wl_val hW rfl rfl (x_assign rfl) ?_
  refine wl_nil ?_
  refine nx_then ?_
  refine wc_ret ?_
  exact ends_ret (res_tmp Try.results81 rfl) ⟨by simp, hE⟩
theorem C82 (s : Int) (w : World) : Rt Try.prog 82 [.int .u64 s] w fun r w' => r = .bool false ∧ Ext w w' := by
  have hW := hWw
  have hFF := hFw
  have hE : Ext w w := Keep.refl _ _
  refine rt_body Try.func82 rfl Try.ntmps82 rfl ?_
  refine wc_seq ?_
  refine wc_region ?_
  refine wl_val hW rfl rfl (x_assign rfl) ?_
  refine wl_nil ?_
  refine nx_then ?_
  refine wc_seq ?_
  refine wc_region ?_
  refine wl_val hW rfl rfl (x_move rfl) ?_
  refine wl_val hW rfl rfl (x_move rfl) ?_
  refine wl_val hW rfl rfl (x_neq rfl rfl) ?_
  refine wl_val hW rfl rfl (x_assign rfl) ?_
  refine wl_nil ?_
  refine nx_then ?_
  refine wc_ret ?_
  exact ends_ret (res_tmp Try.results82 rfl) ⟨by simp, hE⟩
theorem C56 (s r : ByteArray) (w : World) : Rt Try.prog 56 [.string s, .string r] w fun v w' => v = .int .i64 (cmpS s r) ∧ Ext w w' := by
  have hW := hWw
  have hFF := hFw
  have hE : Ext w w := Keep.refl _ _
  refine rt_body Try.func56 rfl Try.ntmps56 rfl ?_
  refine wc_seq ?_
  refine wc_region ?_
  refine wl_val hW rfl rfl (x_assign rfl) ?_
  refine wl_nil ?_
  refine nx_then ?_
  refine wc_seq ?_
  refine wc_region ?_
  refine wl_val hW rfl rfl (x_move rfl) ?_
  refine wl_call hW rfl rfl (x_call en81 rfl) ((C81 _ _).inF hFF) ?_
  rintro _ wC ⟨rfl, hxC⟩
  replace hE := hE.trans hxC
  refine wl_val hW rfl rfl (x_assign rfl) ?_
  refine wl_nil ?_
  refine nx_then ?_
  refine wc_seq ?_
  refine wc_region ?_
  refine wl_val hW rfl rfl (x_move rfl) ?_
  refine wl_call hW rfl rfl (x_call en81 rfl) ((C81 _ _).inF hFF) ?_
  rintro _ wC ⟨rfl, hxC⟩
  replace hE := hE.trans hxC
  refine wl_val hW rfl rfl (x_assign rfl) ?_
  refine wl_nil ?_
  refine nx_then ?_
  refine wc_seq ?_
  refine wc_seq ?_
  refine wc_region ?_
  refine wl_val hW rfl rfl (x_move rfl) ?_
  refine wl_nil ?_
  refine nx_then ?_
  refine wc_false rfl ?_
  refine wc_skip ?_
  refine nx_then ?_
  refine wc_seq ?_
  refine wc_seq ?_
  refine wc_region ?_
  refine wl_val hW rfl rfl (x_move rfl) ?_
  refine wl_nil ?_
  refine nx_then ?_
  refine wc_false rfl ?_
  refine wc_skip ?_
  refine nx_then ?_
  refine wc_seq ?_
  refine wc_seq ?_
  refine wc_region ?_
  refine wl_val hW rfl rfl (x_move rfl) ?_
  refine wl_val hW rfl rfl (x_move rfl) ?_
  refine wl_val hW rfl rfl (x_slss rfl rfl) ?_
  refine wl_nil ?_
  refine nx_then ?_
  refine wc_bool rfl (fun hc => ?_) (fun hc => ?_)
  · refine wc_seq ?_
    refine wc_region ?_
    refine wl_val hW rfl rfl (x_assign rfl) ?_
    refine wl_nil ?_
    refine nx_then ?_
    refine wc_ret ?_
    refine nx_then_ret ?_
    exact ends_ret (res_tmp Try.results56 rfl) ⟨by rw [cmpS_1 hc], hE⟩
  · refine wc_skip ?_
    refine nx_then ?_
    refine wc_seq ?_
    refine wc_seq ?_
    refine wc_region ?_
    refine wl_val hW rfl rfl (x_move rfl) ?_
    refine wl_val hW rfl rfl (x_move rfl) ?_
    refine wl_val hW rfl rfl (x_sgtr rfl rfl) ?_
    refine wl_nil ?_
    refine nx_then ?_
    refine wc_bool rfl (fun hc => ?_) (fun hc => ?_)
    · refine wc_seq ?_
      refine wc_region ?_
      refine wl_val hW rfl rfl (x_assign rfl) ?_
      refine wl_nil ?_
      refine nx_then ?_
      refine wc_ret ?_
      refine nx_then_ret ?_
      exact ends_ret (res_tmp Try.results56 rfl) ⟨by rw [cmpS_2 ‹_› hc], hE⟩
    · refine wc_skip ?_
      refine nx_then ?_
      refine wc_seq ?_
      refine wc_region ?_
      refine wl_val hW rfl rfl (x_assign rfl) ?_
      refine wl_nil ?_
      refine nx_then ?_
      refine wc_ret ?_
      exact ends_ret (res_tmp Try.results56 rfl) ⟨by rw [cmpS_3 ‹_› hc], hE⟩
theorem C57 (s r : Int) (w : World) : Rt Try.prog 57 [.int .u64 s, .int .u64 r] w fun v w' => v = .int .i64 (cmpI s r) ∧ Ext w w' := by
  have hW := hWw
  have hFF := hFw
  have hE : Ext w w := Keep.refl _ _
  refine rt_body Try.func57 rfl Try.ntmps57 rfl ?_
  refine wc_seq ?_
  refine wc_region ?_
  refine wl_val hW rfl rfl (x_assign rfl) ?_
  refine wl_nil ?_
  refine nx_then ?_
  refine wc_seq ?_
  refine wc_region ?_
  refine wl_val hW rfl rfl (x_move rfl) ?_
  refine wl_call hW rfl rfl (x_call en82 rfl) ((C82 _ _).inF hFF) ?_
  rintro _ wC ⟨rfl, hxC⟩
  replace hE := hE.trans hxC
  refine wl_val hW rfl rfl (x_assign rfl) ?_
  refine wl_nil ?_
  refine nx_then ?_
  refine wc_seq ?_
  refine wc_region ?_
  refine wl_val hW rfl rfl (x_move rfl) ?_
  refine wl_call hW rfl rfl (x_call en82 rfl) ((C82 _ _).inF hFF) ?_
  rintro _ wC ⟨rfl, hxC⟩
  replace hE := hE.trans hxC
  refine wl_val hW rfl rfl (x_assign rfl) ?_
  refine wl_nil ?_
  refine nx_then ?_
  refine wc_seq ?_
  refine wc_seq ?_
  refine wc_region ?_
  refine wl_val hW rfl rfl (x_move rfl) ?_
  refine wl_nil ?_
  refine nx_then ?_
  refine wc_false rfl ?_
  refine wc_skip ?_
  refine nx_then ?_
  refine wc_seq ?_
  refine wc_seq ?_
  refine wc_region ?_
  refine wl_val hW rfl rfl (x_move rfl) ?_
  refine wl_nil ?_
  refine nx_then ?_
  refine wc_false rfl ?_
  refine wc_skip ?_
  refine nx_then ?_
  refine wc_seq ?_
  refine wc_seq ?_
  refine wc_region ?_
  refine wl_val hW rfl rfl (x_move rfl) ?_
  refine wl_val hW rfl rfl (x_move rfl) ?_
  refine wl_val hW rfl rfl (x_lss rfl rfl) ?_
  refine wl_nil ?_
  refine nx_then ?_
  refine wc_dec rfl (fun hc => ?_) (fun hc => ?_)
  · refine wc_seq ?_
    refine wc_region ?_
    refine wl_val hW rfl rfl (x_assign rfl) ?_
    refine wl_nil ?_
    refine nx_then ?_
    refine wc_ret ?_
    refine nx_then_ret ?_
    exact ends_ret (res_tmp Try.results57 rfl) ⟨by unfold cmpI; rw [if_pos hc], hE⟩
  · refine wc_skip ?_
    refine nx_then ?_
    refine wc_seq ?_
    refine wc_seq ?_
    refine wc_region ?_
    refine wl_val hW rfl rfl (x_move rfl) ?_
    refine wl_val hW rfl rfl (x_move rfl) ?_
    refine wl_val hW rfl rfl (x_gtr rfl rfl) ?_
    refine wl_nil ?_
    refine nx_then ?_
    refine wc_dec rfl (fun hc => ?_) (fun hc => ?_)
    · refine wc_seq ?_
      refine wc_region ?_
      refine wl_val hW rfl rfl (x_assign rfl) ?_
      refine wl_nil ?_
      refine nx_then ?_
      refine wc_ret ?_
      refine nx_then_ret ?_
      exact ends_ret (res_tmp Try.results57 rfl) ⟨by unfold cmpI; rw [if_neg ‹_›, if_pos hc], hE⟩
    · refine wc_skip ?_
      refine nx_then ?_
      refine wc_seq ?_
      refine wc_region ?_
      refine wl_val hW rfl rfl (x_assign rfl) ?_
      refine wl_nil ?_
      refine nx_then ?_
      refine wc_ret ?_
      exact ends_ret (res_tmp Try.results57 rfl) ⟨by unfold cmpI; rw [if_neg ‹_›, if_neg ‹_›], hE⟩
theorem C55 (b : Nat) (c1 c2 : Int) (w : World) (hB : Blk w b [.int .i64 c1, .int .i64 c2] 3) : Rt Try.prog 55 [.slice (some ⟨b, 0, none⟩) 2 2] w fun v w' => v = .int .i64 (if c1 ≠ 0 then c1 else c2) ∧ Ext w w' := by
  have hW := hWw
  have hFF := hFw
  have hE : Ext w w := Keep.refl _ _
  refine rt_body Try.func55 rfl Try.ntmps55 rfl ?_
  refine wc_seq ?_
  refine wc_region ?_
  refine wl_val hW rfl rfl (x_assign rfl) ?_
  refine wl_nil ?_
  refine nx_then ?_
  refine wc_seq ?_
  refine wc_region ?_
  refine wl_val hW rfl rfl (x_assign rfl) ?_
  refine wl_nil ?_
  refine nx_then ?_
  refine wc_seq ?_
  refine wc_seq ?_
  refine wc_region ?_
  refine wl_val hW rfl rfl (x_move rfl) ?_
  refine wl_val hW rfl rfl (x_len Try.underlying42 rfl) ?_
  refine wl_val hW rfl rfl (x_move rfl) ?_
  refine wl_nil ?_
  refine nx_then ?_
  refine wc_block ?_
  refine wc_loop (σ := Nat) (fun s => [(3, .int .i64 0), (6, .slice (some ⟨b, 0, none⟩) 2 2), (7, .int .i64 (2 : Nat)), (8, .int .i64 s)]) (fun s w' => (s ≤ 2 ∧ (1 ≤ s → c1 = 0) ∧ (2 ≤ s → c2 = 0)) ∧ Ext w w') (fun s => 2 - s) 0 ?_ ?_ ?_
  · exact ⟨⟨by omega, fun h => by omega, fun h => by omega⟩, hE⟩
  · repeat (first | exact sub_nil | refine sub_cons rfl ?_)
  · rintro s wr ⟨hs, hE⟩
    refine wc_seq ?_
    refine wc_region ?_
    refine wl_val hW rfl rfl (x_lss rfl rfl) ?_
    refine wl_nil ?_
    refine nx_then ?_
    refine wc_seq ?_
    refine wc_dec rfl (fun hc => ?_) (fun hc => ?_)
    · have hs2 : s < 2 := by omega
      have hC : wr.cell? ⟨b, 0 + s * 1, none⟩ = some (.int .i64 (if s = 0 then c1 else c2)) := by
        have := hB.ext hE
        rcases (show s = 0 ∨ s = 1 by omega) with rfl | rfl
        · exact this.cell (o := 0) rfl
        · exact this.cell (o := 1) rfl
      refine wc_skip ?_
      refine nx_then ?_
      refine wc_seq ?_
      refine wc_block ?_
      refine wc_seq ?_
      refine wc_region ?_
      refine wl_val hW rfl rfl (x_indexAddr Try.underlying42 fl3.siz rfl rfl (by omega) (by omega)) ?_
      refine wl_val hW rfl rfl (x_load fl3 rfl hC) ?_
      refine wl_val hW rfl rfl (x_assign rfl) ?_
      refine wl_nil ?_
      refine nx_then ?_
      refine wc_seq ?_
      refine wc_region ?_
      refine wl_val hW rfl rfl (x_move rfl) ?_
      refine wl_val hW rfl rfl (x_move rfl) ?_
      refine wl_val hW rfl rfl (x_neq rfl rfl) ?_
      refine wl_nil ?_
      refine nx_then ?_
      refine wc_dec rfl (fun hc => ?_) (fun hc => ?_)
      · refine wc_seq ?_
        refine wc_region ?_
        refine wl_val hW rfl rfl (x_move rfl) ?_
        refine wl_val hW rfl rfl (x_assign rfl) ?_
        refine wl_nil ?_
        refine nx_then ?_
        refine wc_ret ?_
        refine nx_block_ret ?_
        refine nx_then_ret ?_
        refine nx_then_ret ?_
        refine nx_block_ret ?_
        refine nx_then_ret ?_
        exact ends_ret (res_tmp Try.results55 rfl) ⟨by rcases (show s = 0 ∨ s = 1 by omega) with rfl | rfl; (simp at hc ⊢; simp [hc]); (have h1 := hs.2.1 (by omega); simp [h1]), hE⟩
      · refine wc_skip ?_
        refine nx_block ?_
        refine nx_then ?_
        refine wc_region ?_
        refine wl_val hW rfl rfl (x_inc rfl (by omega)) ?_
        refine wl_val hW rfl rfl (x_move rfl) ?_
        refine wl_nil ?_
        have hz : (if s = 0 then c1 else c2) = 0 := Decidable.not_not.1 hc
        have h74 : (1 ≤ s + 1 → c1 = 0) ∧ (2 ≤ s + 1 → c2 = 0) := by
          rcases (show s = 0 ∨ s = 1 by omega) with rfl | rfl
          · exact ⟨fun _ => by simpa using hz, fun h => by omega⟩
          · exact ⟨fun _ => hs.2.1 (by omega), fun _ => by simpa using hz⟩
        exact nx_next (s + 1) (by omega) ⟨⟨by omega, h74⟩, hE⟩ (by repeat (first | exact sub_nil | refine sub_cons rfl ?_))
    · refine wc_exit ?_
      refine nx_then_exit ?_
      refine nx_then_exit ?_
      refine nx_block_exit ?_
      refine nx_then ?_
      refine wc_seq ?_
      refine wc_region ?_
      refine wl_val hW rfl rfl (x_move rfl) ?_
      refine wl_val hW rfl rfl (x_assign rfl) ?_
      refine wl_nil ?_
      refine nx_then ?_
      refine wc_ret ?_
      exact ends_ret (res_tmp Try.results55 rfl) ⟨by have h1 := hs.2.1 (by omega); have h2 := hs.2.2 (by omega); simp [h1, h2], hE⟩
theorem C18 (e1 e2 : Ent) (v1 v2 : Value) (w : World) : Rt Try.prog 18 [.agg (cellsOf e1 v1).toArray, .agg (cellsOf e2 v2).toArray] w fun v w' => v = .int .i64 (cmpE e1 e2) ∧ Ext w w' := by
  have hW := hWw
  have hFF := hFw
  have hE : Ext w w := Keep.refl _ _
  refine rt_body Try.func18 rfl Try.ntmps18 rfl ?_
  refine wc_seq ?_
  refine wc_region ?_
  refine wl_box hW rfl rfl rfl rfl ?_
  intro b2 w2 hl2 hB2 hx2
  have g2 : w.heap.size ≤ b2 := Nat.le_trans hE.size hl2
  replace hE := hE.trans hx2
  refine wl_box hW rfl rfl rfl rfl ?_
  intro b3 w3 hl3 hB3 hx3
  have g3 : w.heap.size ≤ b3 := Nat.le_trans hE.size hl3
  have n3_2 : b3 ≠ b2 := Nat.ne_of_gt (Nat.lt_of_lt_of_le hB2.lt hl3)
  replace hB2 := hB2.ext hx3
  replace hE := hE.trans hx3
  refine wl_val hW rfl rfl (x_assign rfl) ?_
  refine wl_nil ?_
  refine nx_then ?_
  refine wc_seq ?_
  refine wc_draw' 10 hW mixed (by kernel_rfl) (fun w0 hx0 => ?_)
  replace hB2 := hB2.ext hx0
  replace hB3 := hB3.ext hx0
  replace hE := hE.trans hx0
  refine q_val rfl rfl (fun _ hx => x_fieldAddr Try.underlying25 rfl fl9.siz rfl) ?_
  refine q_val rfl rfl (fun _ hx => x_load fl9 rfl (hx.cell (hB2.cell (o := 0) rfl))) ?_
  refine q_val rfl rfl (fun _ hx => x_fieldAddr Try.underlying25 rfl fl9.siz rfl) ?_
  refine q_val rfl rfl (fun _ hx => x_load fl9 rfl (hx.cell (hB3.cell (o := 0) rfl))) ?_
  refine q_call rfl rfl (fun _ => x_call en56 rfl) (fun w' hx => (C56 _ _ _).inF hFF) ?_
  refine q_val rfl rfl (fun _ hx => x_fieldAddr Try.underlying25 rfl fl22.siz rfl) ?_
  refine q_val rfl rfl (fun _ hx => x_load fl22 rfl (hx.cell (hB3.cell (o := 1) rfl))) ?_
  refine q_val rfl rfl (fun _ hx => x_fieldAddr Try.underlying25 rfl fl22.siz rfl) ?_
  refine q_val rfl rfl (fun _ hx => x_load fl22 rfl (hx.cell (hB2.cell (o := 1) rfl))) ?_
  refine q_call rfl rfl (fun _ => x_call en57 rfl) (fun w' hx => (C57 _ _ _).inF hFF) ?_
  refine q_nil (tail0 (fun wt hxt => ?_))
  replace hB2 := hB2.ext hxt
  replace hB3 := hB3.ext hxt
  replace hE := hE.trans hxt
  refine wl_buildSlice (parts := [(0, .tmp 9), (1, .tmp 14)]) hW rfl rfl Try.underlying42 fl3.siz Try.zeroValue3 rfl rfl rfl (by omega) ?_
  intro b15 w15 hl15 hB15 hx15
  have g15 : w.heap.size ≤ b15 := Nat.le_trans hE.size hl15
  have n15_2 : b15 ≠ b2 := Nat.ne_of_gt (Nat.lt_of_lt_of_le hB2.lt hl15)
  replace hB2 := hB2.ext hx15
  have n15_3 : b15 ≠ b3 := Nat.ne_of_gt (Nat.lt_of_lt_of_le hB3.lt hl15)
  replace hB3 := hB3.ext hx15
  replace hE := hE.trans hx15
  refine wl_call hW rfl rfl (x_call en55 rfl) ((C55 _ _ _ _ hB15).inF hFF) ?_
  rintro _ wC ⟨rfl, hxC⟩
  replace hB2 := hB2.ext hxC
  replace hB3 := hB3.ext hxC
  replace hB15 := hB15.ext hxC
  replace hE := hE.trans hxC
  refine wl_val hW rfl rfl (x_assign rfl) ?_
  refine wl_nil ?_
  refine nx_then ?_
  refine wc_ret ?_
  exact ends_ret (res_tmp Try.results18 rfl) ⟨rfl, hE⟩
theorem C59 (e1 e2 : Ent) (v1 v2 : Value) (w : World) : Rt Try.prog 59 [.agg (cellsOf e1 v1).toArray, .agg (cellsOf e2 v2).toArray] w fun v w' => v = .bool (decide (ltE e1 e2)) ∧ Ext w w' := by
  have hW := hWw
  have hFF := hFw
  have hE : Ext w w := Keep.refl _ _
  refine rt_body Try.func59 rfl Try.ntmps59 rfl ?_
  refine wc_seq ?_
  refine wc_region ?_
  refine wl_box hW rfl rfl rfl rfl ?_
  intro b2 w2 hl2 hB2 hx2
  have g2 : w.heap.size ≤ b2 := Nat.le_trans hE.size hl2
  replace hE := hE.trans hx2
  refine wl_box hW rfl rfl rfl rfl ?_
  intro b3 w3 hl3 hB3 hx3
  have g3 : w.heap.size ≤ b3 := Nat.le_trans hE.size hl3
  have n3_2 : b3 ≠ b2 := Nat.ne_of_gt (Nat.lt_of_lt_of_le hB2.lt hl3)
  replace hB2 := hB2.ext hx3
  replace hE := hE.trans hx3
  refine wl_val hW rfl rfl (x_assign rfl) ?_
  refine wl_nil ?_
  refine nx_then ?_
  refine wc_seq ?_
  refine wc_region ?_
  refine wl_val hW rfl rfl (x_loadA ag25 rfl hB2.cells rfl) ?_
  refine wl_val hW rfl rfl (x_loadA ag25 rfl hB3.cells rfl) ?_
  refine wl_call hW rfl rfl (x_call en18 rfl) ((C18 _ _ _ _ _).inF hFF) ?_
  rintro _ wC ⟨rfl, hxC⟩
  replace hB2 := hB2.ext hxC
  replace hB3 := hB3.ext hxC
  replace hE := hE.trans hxC
  refine wl_val hW rfl rfl (x_lss rfl rfl) ?_
  refine wl_val hW rfl rfl (x_assign rfl) ?_
  refine wl_nil ?_
  refine nx_then ?_
  refine wc_ret ?_
  exact ends_ret (res_tmp Try.results59 rfl) ⟨by rw [decide_eq_decide.2 cmpE_neg], hE⟩
theorem C58 {A : Nat → Prop} {w : World} {v : Value} {es : List Ent} (hR : Row A w v es) : Rt Try.prog 58 [v, .func (.func 59) #[] #[]] w fun r w' => r = .bool (adjB es) ∧ Ext w w' := by
  obtain ⟨ad, cap, rfl, hcap, hlen⟩ := hR.form
  have hW := hWw
  have hFF := hFw
  have hE : Ext w w := Keep.refl _ _
  refine rt_body Try.func58 rfl Try.ntmps58 rfl ?_
  refine wc_seq ?_
  refine wc_region ?_
  refine wl_val hW rfl rfl (x_assign rfl) ?_
  refine wl_nil ?_
  refine nx_then ?_
  refine wc_seq ?_
  refine wc_seq ?_
  refine wc_region ?_
  refine wl_val hW rfl rfl (x_assign rfl) ?_
  refine wl_nil ?_
  refine nx_then ?_
  refine wc_block ?_
  refine wc_loop (σ := Nat) (fun s => [(0, .slice ad es.length cap), (1, .func (.func 59) #[] #[]), (5, .int .i64 ((s + 1 : Nat) : Int))]) (fun s w' => ((∀ i, i < s → ∀ h : i + 1 < es.length, ltE es[i] es[i + 1]) ∧ (s = 0 ∨ s + 1 ≤ es.length)) ∧ Ext w w') (fun s => es.length - s) 0 ?_ ?_ ?_
  · exact ⟨⟨fun i h => absurd h (Nat.not_lt_zero _), .inl rfl⟩, hE⟩
  · repeat (first | exact sub_nil | refine sub_cons rfl ?_)
  · rintro s wr ⟨hs, hE⟩
    refine wc_seq ?_
    refine wc_seq ?_
    refine wc_region ?_
    refine wl_val hW rfl rfl (x_move rfl) ?_
    refine wl_val hW rfl rfl (x_move rfl) ?_
    refine wl_val hW rfl rfl (x_len Try.underlying26 rfl) ?_
    refine wl_val hW rfl rfl (x_lss rfl rfl) ?_
    refine wl_nil ?_
    refine nx_then ?_
    refine wc_dec rfl (fun hc => ?_) (fun hc => ?_)
    · have hlt : s + 1 < es.length := by omega
      obtain ⟨b, o, cap', v1, e1, hA, hC16, hb1, hok1⟩ := (hR.ext hE).at s (by omega)
      cases e1
      obtain ⟨b', o', cap', v2, e2, hA', hC20, hb2, hok2⟩ := (hR.ext hE).at (s + 1) hlt
      cases e2
      refine wc_skip ?_
      refine nx_then ?_
      refine wc_seq ?_
      refine wc_block ?_
      refine wc_seq ?_
      refine wc_draw' 12 hW mixed (by kernel_rfl) (fun w0 hx0 => ?_)
      replace hE := hE.trans hx0
      replace hC16 := hC16.ext hx0
      replace hC20 := hC20.ext hx0
      refine q_val rfl rfl (fun _ hx => x_move rfl) ?_
      refine q_val rfl rfl (fun _ hx => x_move rfl) ?_
      refine q_val rfl rfl (fun _ hx => x_move rfl) ?_
      refine q_val rfl rfl (fun _ hx => x_decr rfl (by omega)) ?_
      refine q_val rfl rfl (fun _ hx => x_indexAddr Try.underlying26 ag25.siz rfl rfl (by omega) (by omega)) ?_
      refine q_val rfl rfl (fun _ hx => x_loadA ag25 rfl (hC16.ext hx) rfl) ?_
      refine q_val rfl rfl (fun _ hx => x_move rfl) ?_
      refine q_val rfl rfl (fun _ hx => x_move rfl) ?_
      refine q_val rfl rfl (fun _ hx => x_indexAddr Try.underlying26 ag25.siz rfl rfl (by omega) (by omega)) ?_
      refine q_val rfl rfl (fun _ hx => x_loadA ag25 rfl (hC20.ext hx) rfl) ?_
      refine q_call rfl rfl (fun _ => x_callv (cap := []) en59 rfl rfl) (fun w' hx => (C59 _ _ _ _ _).inF hFF) ?_
      refine q_val rfl rfl (fun _ hx => x_not rfl) ?_
      refine q_nil (tail0 (fun wt hxt => ?_))
      replace hE := hE.trans hxt
      refine wl_nil ?_
      refine nx_then ?_
      refine wc_bool rfl (fun hc => ?_) (fun hc => ?_)
      · refine wc_seq ?_
        refine wc_region ?_
        refine wl_val hW rfl rfl (x_assign rfl) ?_
        refine wl_nil ?_
        refine nx_then ?_
        refine wc_ret ?_
        refine nx_block_ret ?_
        refine nx_then_ret ?_
        refine nx_then_ret ?_
        refine nx_block_ret ?_
        refine nx_then_ret ?_
        have hfin : adjB es = false := by rw [Bool.eq_false_iff]; intro h; have h1 := (adjB_iff es).1 h s hlt; simp [h1] at hc
        exact ends_ret (res_tmp Try.results58 rfl) ⟨by rw [hfin], hE⟩
      · refine wc_skip ?_
        refine nx_block ?_
        refine nx_then ?_
        refine wc_region ?_
        refine wl_val hW rfl rfl (x_move rfl) ?_
        refine wl_val hW rfl rfl (x_inc rfl (by omega)) ?_
        refine wl_val hW rfl rfl (x_assign rfl) ?_
        refine wl_nil ?_
        exact nx_next (s + 1) (by omega) ⟨⟨fun i hi h => by rcases Nat.lt_succ_iff_lt_or_eq.1 hi with h1 | rfl; exact hs.1 i h1 h; simpa using hc, .inr (by omega)⟩, hE⟩ (by repeat (first | exact sub_nil | refine sub_cons rfl ?_))
    · refine wc_exit ?_
      refine nx_then_exit ?_
      refine nx_then_exit ?_
      refine nx_block_exit ?_
      refine nx_then ?_
      refine wc_seq ?_
      refine wc_region ?_
      refine wl_val hW rfl rfl (x_assign rfl) ?_
      refine wl_nil ?_
      refine nx_then ?_
      refine wc_ret ?_
      have hfin : adjB es = true := (adjB_iff es).2 (fun i hi => hs.1 i (by omega) hi)
      exact ends_ret (res_tmp Try.results58 rfl) ⟨by rw [hfin], hE⟩
theorem C20 {A : Nat → Prop} {w : World} {v : Value} {es : List Ent} (hR : Row A w v es) : Rt Try.prog 20 [v] w fun r w' => r = .bool (rightB es) ∧ Ext w w' := by
  obtain ⟨ad, cap, rfl, hcap, hlen⟩ := hR.form
  have hW := hWw
  have hFF := hFw
  have hE : Ext w w := Keep.refl _ _
  refine rt_body Try.func20 rfl Try.ntmps20 rfl ?_
  refine wc_seq ?_
  refine wc_region ?_
  refine wl_val hW rfl rfl (x_assign rfl) ?_
  refine wl_nil ?_
  refine nx_then ?_
  refine wc_seq ?_
  refine wc_seq ?_
  refine wc_region ?_
  refine wl_val hW rfl rfl (x_move rfl) ?_
  refine wl_val hW rfl rfl (x_len Try.underlying26 rfl) ?_
  refine wl_val hW rfl rfl (x_move rfl) ?_
  refine wl_nil ?_
  refine nx_then ?_
  refine wc_block ?_
  refine wc_loop (σ := Nat) (fun s => [(0, .slice ad es.length cap), (5, .slice ad es.length cap), (6, .int .i64 es.length), (7, .int .i64 s)]) (fun s w' => (s ≤ es.length ∧ ∀ i (h : i < es.length), i < s → okB es[i] = true) ∧ Ext w w') (fun s => es.length - s) 0 ?_ ?_ ?_
  · exact ⟨⟨Nat.zero_le _, fun i _ h => absurd h (Nat.not_lt_zero _)⟩, hE⟩
  · repeat (first | exact sub_nil | refine sub_cons rfl ?_)
  · rintro s wr ⟨hs, hE⟩
    refine wc_seq ?_
    refine wc_region ?_
    refine wl_val hW rfl rfl (x_lss rfl rfl) ?_
    refine wl_nil ?_
    refine nx_then ?_
    refine wc_seq ?_
    refine wc_dec rfl (fun hc => ?_) (fun hc => ?_)
    · have hlt : s < es.length := by omega
      obtain ⟨b, o, cap', bv, e1, hA, hC9, hb1, hok1⟩ := (hR.ext hE).at s hlt
      cases e1
      obtain ⟨av, cv, hbv, hcv⟩ := hb1.form
      subst hbv
      refine wc_skip ?_
      refine nx_then ?_
      refine wc_seq ?_
      refine wc_block ?_
      refine wc_seq ?_
      refine wc_region ?_
      refine wl_val hW rfl rfl (x_indexAddr Try.underlying26 ag25.siz rfl rfl (by omega) (by omega)) ?_
      refine wl_val hW rfl rfl (x_loadA ag25 rfl hC9 rfl) ?_
      refine wl_alloc (cs := [.string ⟨#[]⟩, .int .u64 0, .bool false, .slice none 0 0]) hW rfl rfl Try.zeroValue25 rfl ?_
      intro b4 w4 hl4 hB4 hx4
      have g4 : w.heap.size ≤ b4 := Nat.le_trans hE.size hl4
      replace hE := hE.trans hx4
      refine wl_storeA hW rfl ag25 rfl rfl rfl rfl hB4 rfl ?_
      intro wS hBS hkS
      replace hB4 := hBS
      clear hBS
      replace hE := hE.store hkS g4
      refine wl_nil ?_
      refine nx_then ?_
      refine wc_seq ?_
      refine wc_cut [(0, .slice (some ⟨b, o, none⟩) es.length cap), (5, .slice (some ⟨b, o, none⟩) es.length cap), (6, .int .i64 es.length), (7, .int .i64 s), (18, .bool (!okB es[s]))] (fun w' => w' = wS) ?_ ?_
      · refine wc_region ?_
        refine wl_val hW rfl rfl (x_fieldAddr Try.underlying25 rfl fl4.siz rfl) ?_
        refine wl_val hW rfl rfl (x_load fl4 rfl (hB4.cell (o := 2) rfl)) ?_
        refine wl_val hW rfl rfl (x_move rfl) ?_
        refine wl_bcases (d := 13) rfl (fun hg13 => ?_) (fun hg13 => ?_)
        · refine wl_val hW rfl rfl (x_fieldAddr Try.underlying25 rfl fl23.siz rfl) ?_
          refine wl_val hW rfl rfl (x_load fl23 rfl (hB4.cell (o := 3) rfl)) ?_
          refine wl_val hW rfl rfl (x_len Try.underlying23 rfl) ?_
          refine wl_val hW rfl rfl (x_gtr rfl rfl) ?_
          refine wl_val hW rfl rfl (x_pickT rfl rfl) ?_
          refine wl_nil ?_
          have e18 : (!okB es[s]) = decide ((0 : Int) < ((es[s].v.length : Nat) : Int)) := by unfold okB; rw [hg13]; simp
          rw [e18]
          exact nx_cut (by repeat (first | exact sub_nil | refine sub_cons rfl ?_)) rfl
        · refine wl_off hW rfl rfl ?_
          refine wl_off hW rfl rfl ?_
          refine wl_off hW rfl rfl ?_
          refine wl_off hW rfl rfl ?_
          refine wl_val hW rfl rfl (x_pickF rfl rfl) ?_
          refine wl_nil ?_
          have e18 : (!okB es[s]) = false := by unfold okB; rw [hg13]; simp
          rw [e18]
          exact nx_cut (by repeat (first | exact sub_nil | refine sub_cons rfl ?_)) rfl
      · rintro w' rfl
        refine nx_then ?_
        refine wc_bool rfl (fun hc => ?_) (fun hc => ?_)
        · refine wc_seq ?_
          refine wc_region ?_
          refine wl_val hW rfl rfl (x_assign rfl) ?_
          refine wl_nil ?_
          refine nx_then ?_
          refine wc_ret ?_
          refine nx_block_ret ?_
          refine nx_then_ret ?_
          refine nx_then_ret ?_
          refine nx_block_ret ?_
          refine nx_then_ret ?_
          have hfal : rightB es = false := by
            have h1 : okB es[s] = false := by simpa using hc
            unfold rightB
            rw [Bool.and_eq_false_iff]
            exact .inl (List.all_eq_false.2 ⟨es[s], List.getElem_mem hlt, by simp [h1]⟩)
          exact ends_ret (res_tmp Try.results20 rfl) ⟨by rw [hfal], hE⟩
        · refine wc_skip ?_
          refine nx_block ?_
          refine nx_then ?_
          refine wc_region ?_
          refine wl_val hW rfl rfl (x_inc rfl (by omega)) ?_
          refine wl_val hW rfl rfl (x_move rfl) ?_
          refine wl_nil ?_
          exact nx_next (s + 1) (by omega) ⟨⟨hlt, fun i hi h => by rcases Nat.lt_succ_iff_lt_or_eq.1 h with h | rfl; exact hs.2 i hi h; simpa using hc⟩, hE⟩ (by repeat (first | exact sub_nil | refine sub_cons rfl ?_))
    · refine wc_exit ?_
      refine nx_then_exit ?_
      refine nx_then_exit ?_
      refine nx_block_exit ?_
      refine nx_then ?_
      refine wc_seq ?_
      refine wc_region ?_
      refine wl_val hW rfl rfl (x_move rfl) ?_
      refine wl_call hW rfl rfl (x_call en58 rfl) ((C58 (hR.ext hE)).inF hFF) ?_
      rintro _ wC ⟨rfl, hxC⟩
      replace hE := hE.trans hxC
      refine wl_val hW rfl rfl (x_assign rfl) ?_
      refine wl_nil ?_
      refine nx_then ?_
      refine wc_ret ?_
      exact ends_ret (res_tmp Try.results20 rfl) ⟨by unfold rightB; rw [List.all_eq_true.2 (fun e he => by obtain ⟨i, hi, rfl⟩ := List.getElem_of_mem he; exact hs.2 i hi (by omega))]; simp, hE⟩
end Go.Proofs.Ytblbddamebbgaaa.K


/- More steps: slice expressions, bytes copied; groups of equal keys. -/
namespace Go.Proofs.Ytblbddamebbgaaa.K
open Go Go.RowKit
set_option linter.unusedVariables false
set_option linter.unusedSectionVars false
set_option linter.unusedSimpArgs false

theorem rt_bodyn {P : Program} {m n : Nat} {w : World} {f : FuncId} {fn : Func} {c : Code} {args : List Value} {R : Value → World → Prop} (hf : P.funcs[f]? = some fn) (hb : fn.body = some c) (hm : fn.ntmps = m) (hl : Nat.ble args.length m = true)
    (k : WC Fence.wide n P (bodyPostM Fence.wide n P fn (ok1 R)) m [] c (env0 0 args) w) : CallsIn Fence.wide n P f args.toArray w (ok1 R) :=
  callsIn_of_wp_marks hf hb trivial (k _ (fr_enter hm hl)) rfl
theorem Ext.grown {w w' : World} (h : Ext w w') : w.grownBy w' none := ⟨h.os, h.tape, h.output, h.size, fun k hk _ => h.block k hk trivial⟩

section
variable {P : Program} {m : Nat} {D : List Deferred} {L : Env} {w w' : World} {ty t e : TypeId} {x lo hi mx : Operand} {k : Nat} {A : Option Addr} {n c i j : Nat}
theorem sb3 (h1 : i ≤ j) (h2 : j ≤ c) : (Instr.sliceBounds true n c (some (.int .i64 i)) (some (.int .i64 j)) (some (.int .i64 j))).run P w = .ok (i, j, j) w := by
  simp [Instr.sliceBounds, Instr.sliceBound, asIntOf, h1, h2]
theorem sb2 (h1 : i ≤ j) (h2 : j ≤ c) : (Instr.sliceBounds true n c (some (.int .i64 i)) (some (.int .i64 j)) none).run P w = .ok (i, j, c) w := by
  simp [Instr.sliceBounds, Instr.sliceBound, asIntOf, h1, h2]
theorem sbh (h2 : j ≤ c) : (Instr.sliceBounds true n c none (some (.int .i64 j)) none).run P w = .ok (0, j, c) w := by
  simp [Instr.sliceBounds, Instr.sliceBound, asIntOf, h2]
theorem sbl (h1 : i ≤ n) : (Instr.sliceBounds true n c (some (.int .i64 i)) none none).run P w = .ok (i, n, c) w := by
  simp [Instr.sliceBounds, Instr.sliceBound, asIntOf, h1]
theorem x_slice3 (hu : P.underlying t = some (.slice e)) (hs : Siz P e k) (hx : ev L x = some (.slice A n c)) (hl : ev L lo = some (.int .i64 i)) (hh : ev L hi = some (.int .i64 j)) (hm : ev L mx = some (.int .i64 j)) (h1 : i ≤ j) (h2 : j ≤ c) :
    Xv P m D L (.slice t x (some lo) (some hi) (some mx)) ty w (.slice (if j = i then A else A.map (·.add (i * k))) (j - i) (j - i)) w :=
  x_slice (q1 := .i64) (q2 := .i64) (q3 := .i64) hu hs hx (fun a h => by simp [h.ev hl]) (fun a h => by simp [h.ev hh]) (fun a h => by simp [h.ev hm]) (sb3 h1 h2)
theorem x_slice2 (hu : P.underlying t = some (.slice e)) (hs : Siz P e k) (hx : ev L x = some (.slice A n c)) (hl : ev L lo = some (.int .i64 i)) (hh : ev L hi = some (.int .i64 j)) (h1 : i ≤ j) (h2 : j ≤ c) :
    Xv P m D L (.slice t x (some lo) (some hi) none) ty w (.slice (if c = i then A else A.map (·.add (i * k))) (j - i) (c - i)) w :=
  x_slice (q1 := .i64) (q2 := .i64) (q3 := .i64) hu hs hx (fun a h => by simp [h.ev hl]) (fun a h => by simp [h.ev hh]) (fun a h => rfl) (sb2 h1 h2)
theorem x_sliceh (hu : P.underlying t = some (.slice e)) (hs : Siz P e k) (hx : ev L x = some (.slice A n c)) (hh : ev L hi = some (.int .i64 j)) (h2 : j ≤ c) :
    Xv P m D L (.slice t x none (some hi) none) ty w (.slice (if c = 0 then A else A.map (·.add (0 * k))) (j - 0) (c - 0)) w :=
  x_slice (q1 := .i64) (q2 := .i64) (q3 := .i64) hu hs hx (fun a h => rfl) (fun a h => by simp [h.ev hh]) (fun a h => rfl) (sbh h2)
theorem x_slicel (hu : P.underlying t = some (.slice e)) (hs : Siz P e k) (hx : ev L x = some (.slice A n c)) (hl : ev L lo = some (.int .i64 i)) (h1 : i ≤ n) :
    Xv P m D L (.slice t x (some lo) none none) ty w (.slice (if c = i then A else A.map (·.add (i * k))) (n - i) (c - i)) w :=
  x_slice (q1 := .i64) (q2 := .i64) (q3 := .i64) hu hs hx (fun a h => by simp [h.ev hl]) (fun a h => rfl) (fun a h => rfl) (sbl h1)
end

def byteCells (l : List UInt8) : List Value := l.map fun u => .int .u8 u.toNat
theorem run_cloneB {w : World} {b5 : Nat} {y : Value} {l : List UInt8} {A : Nat → Prop} {ty : TypeId} (hB : Blk w b5 [] 5) (hy : Byts A w y l) (hl : l.length ≤ 70368744177664) :
    ∃ v' w', (Builtin.append_ #[23, 23] ty #[.slice (some ⟨b5, 0, none⟩) 0 0, y]).run Try.prog w = .ok v' w' ∧ Byts (fun k => k = b5 ∨ w.heap.size ≤ k) w' v' l ∧ Keep (· ≠ b5) w w' := by
  obtain ⟨i0, hi, hz0, hz1, hz2⟩ := info_parts info5
  obtain ⟨ad, cap, rfl, hcap, hcell⟩ := hy
  have hown : w.ownsRow b5 5 1 (.slice (some ⟨b5, 0, none⟩) 0 0) 0 [] := ⟨rfl, .inr ⟨b5, 0, #[], rfl, Nat.le_refl _, hB, Nat.le_refl _, Nat.zero_le _, rfl, rfl⟩⟩
  cases ad with
  | none =>
    have hl0 : l = [] := by
      cases l with
      | nil => rfl
      | cons u l => obtain ⟨b, o, h, -⟩ := hcell (by simp); cases h
    subst hl0
    refine ⟨.slice (some ⟨b5, 0, none⟩) 0 0, w, ?_, ⟨_, 0, rfl, Nat.le_refl _, fun h => absurd rfl h⟩, Keep.refl _ _⟩
    simp [Builtin.append_, run_underlying Try.underlying23, sizeOf, typeInfo, hi, Builtin.lenOf, Builtin.firstCells, storeCells]
  | some a0 =>
    have hnews : ∀ j u, (byteCells l)[j]? = some u → w.cell? (a0.add j) = some u := fun j u hj => by
      simp only [byteCells, List.getElem?_map] at hj
      cases hlj : l[j]? with
      | none => rw [hlj] at hj; cases hj
      | some x =>
        rw [hlj] at hj
        simp only [Option.map_some, Option.some.injEq] at hj
        obtain ⟨b, o, h, -, hc⟩ := hcell (by intro e; rw [e] at hlj; simp at hlj)
        cases h
        rw [add_mk, hc j x hlj, hj]
    obtain ⟨v', w', hr, ho, hg, -, hat⟩ := run_append_own_at (P := Try.prog) w b5 23 ty 5 i0 _ 1 1 Try.underlying23 hi hz0 hz1 hz2 rfl (by decide) _ 0 [] hown a0 l.length cap (byteCells l) (by simp [byteCells]) hnews
      (fun u hu => by simp only [byteCells, List.mem_map] at hu; obtain ⟨x, -, rfl⟩ := hu; rfl) (by unfold maxLen; omega) (by omega) (Nat.le_of_lt hB.lt)
    rw [Nat.zero_add, List.nil_append] at ho
    have hk : Keep (· ≠ b5) w w' := (Keep.grown hg).mono fun k _ h => by intro e; cases e; exact h rfl
    refine ⟨v', w', hr, ?_, hk⟩
    have h5 := fun g => ho.cells (g := g)
    rcases ho.2 with ⟨rfl, h⟩ | ⟨g, cp, cur, rfl, hb, hgc, hc, -⟩
    · have : l = [] := List.eq_nil_of_length_eq_zero h
      subst this
      exact byts_nil _ _
    · refine ⟨_, cp, rfl, hc, fun _ => ⟨g, 0, rfl, ?_, fun i u hi => ?_⟩⟩
      · rcases hat with h | h
        · cases h; exact .inl rfl
        · cases h; exact .inr (Nat.le_refl _)
      · have := h5 g rfl i (.int .u8 u.toNat) (by simp [byteCells, hi])
        rw [add_mk] at this
        exact this
section
variable {F : Fence} {n : Nat} {Q : Exit → Act → World → Prop} {m : Nat} {D : List Deferred} {L : Env} {w w' : World} {ops rest : List Oper} {d : Nat} {ty : TypeId} {pos : String} {af : Array Edge} {g : Option (Nat × Bool)} {x y : Operand}
theorem wl_cloneB {b5 : Nat} {v : Value} {l : List UInt8} {A : Nat → Prop} (hW : Wd F) (hg : wants L ops g = some true) (hd : Nat.blt d m = true) (hx : ev L x = some (.slice (some ⟨b5, 0, none⟩) 0 0)) (hy : ev L y = some v)
    (hB : Blk w b5 [] 5) (hv : Byts A w v l) (hl : l.length ≤ 70368744177664) (k : ∀ v' w', Byts (fun k => k = b5 ∨ w.heap.size ≤ k) w' v' l → Keep (· ≠ b5) w w' → WL F n Try.prog Q m D ops rest ((d, v') :: L) w') :
    WL F n Try.prog Q m D ops (⟨some d, .call ⟨.builtin .append, #[x, y], #[23, 23]⟩, ty, pos, af, g⟩ :: rest) L w := by
  obtain ⟨v', w', hr, ho, hk⟩ := run_cloneB (ty := ty) hB hv hl
  refine wl_val hW hg hd ⟨nofun, fun _ _ _ _ a h => ?_⟩ (k v' w' ho hk)
  simp [execOp, resolve, h.ev hx, h.ev hy, invoke, builtin, hr]
end

def grps : Nat → Nat → List Ent → List (Nat × List Ent)
  | 0, _, _ => []
  | _ + 1, _, [] => []
  | f + 1, o, e :: es => (o, e :: es.takeWhile fun x => decide (x.k = e.k)) :: grps f (o + 1 + (es.takeWhile fun x => decide (x.k = e.k)).length) (es.dropWhile fun x => decide (x.k = e.k))
theorem take_drop_while {p : Ent → Bool} : ∀ (es : List Ent) (n : Nat) (hn : n ≤ es.length), (∀ j (h : j < es.length), j < n → p es[j] = true) → (∀ h : n < es.length, p es[n] = false) → es.takeWhile p = es.take n ∧ es.dropWhile p = es.drop n
  | [], n, hn, _, _ => by simp
  | e :: es, 0, _, _, h => by have := h (by simp); simp at this; simp [this]
  | e :: es, n + 1, hn, h1, h2 => by
    have h0 := h1 0 (by simp) (by omega)
    simp only [List.getElem_cons_zero] at h0
    obtain ⟨i1, i2⟩ := take_drop_while es n (by simpa using hn) (fun j h hj => by have := h1 (j + 1) (by simpa using h) (by omega); simpa using this) (fun h => by have := h2 (by simpa using h); simpa using this)
    simp [h0, i1, i2]
/-- The slice that holds a group of what lies from ad on. -/
def gval (ad : Option Addr) (x : Nat × List Ent) : Value := .slice (ad.map (·.add (x.1 * 4))) x.2.length x.2.length
theorem gval_row {A : Nat → Prop} {w : World} {ad : Option Addr} {cap : Nat} {es g pre suf : List Ent} (h : Row A w (.slice ad es.length cap) es) (he : es = pre ++ g ++ suf) : Row A w (gval ad (pre.length, g)) g := by
  obtain ⟨ad', cap', e, h1, h2, h3, h⟩ := h
  cases e
  refine ⟨_, g.length, rfl, Nat.le_refl _, by rw [he] at h2; simp at h2; omega, fun x hx => h3 x (by rw [he]; simp [hx]), fun hne => ?_⟩
  obtain ⟨b, o, rfl, hA, hr⟩ := h (by rw [he]; intro e; simp at e; exact hne e.2.1)
  refine ⟨b, o + pre.length * 4, by simp [add_mk], hA, fun i x hi => ?_⟩
  have hlt := (List.getElem?_eq_some_iff.1 hi).1
  obtain ⟨bv, hc, hb⟩ := hr (pre.length + i) x (by
    rw [he, List.append_assoc, List.getElem?_append_right (by omega), Nat.add_sub_cancel_left, List.getElem?_append_left hlt]; exact hi)
  exact ⟨bv, by rw [show o + pre.length * 4 + i * 4 = o + (pre.length + i) * 4 from by omega]; exact hc, hb⟩
end Go.Proofs.Ytblbddamebbgaaa.K

/- Walks: copies, groups, newest. -/
namespace Go.Proofs.Ytblbddamebbgaaa.K
open Go Go.RowKit
set_option linter.unusedVariables false
set_option linter.unusedSimpArgs false

theorem C65 {A : Nat → Prop} {w : World} {v : Value} {l : List UInt8} (hv : Byts A w v l) (hl : l.length ≤ 70368744177664) : Rt Try.prog 65 [v] w fun r w' => Byts (fun k => w.heap.size ≤ k) w' r l ∧ Ext w w' := by
  obtain ⟨ad, cap, rfl, hcap⟩ := hv.form
  have hW := hWw
  have hFF := hFw
  have hE : Ext w w := Keep.refl _ _
  refine rt_body Try.func65 rfl Try.ntmps65 rfl ?_
  refine wc_seq ?_
  refine wc_region ?_
  refine wl_val hW rfl rfl (x_assign rfl) ?_
  refine wl_nil ?_
  refine nx_then ?_
  refine wc_seq ?_
  refine wc_seq ?_
  refine wc_region ?_
  refine wl_val hW rfl rfl (x_move rfl) ?_
  refine wl_val hW rfl rfl (x_nilEq Try.underlying23 rfl rfl) ?_
  refine wl_nil ?_
  refine nx_then ?_
  refine wc_bool rfl (fun hc => ?_) (fun hc => ?_)
  · refine wc_seq ?_
    refine wc_region ?_
    refine wl_val hW rfl rfl (x_assign rfl) ?_
    refine wl_nil ?_
    refine nx_then ?_
    refine wc_ret ?_
    refine nx_then_ret ?_
    have hl0 : l = [] := by
      obtain ⟨ad', cap', e, -, h⟩ := hv
      cases e
      cases l with
      | nil => rfl
      | cons u l => obtain ⟨b, o, h, -⟩ := h (by simp); subst h; simp at hc
    exact ends_ret (res_tmp Try.results65 rfl) ⟨by rw [hl0]; exact byts_nil _ _, hE⟩
  · refine wc_skip ?_
    refine nx_then ?_
    refine wc_seq ?_
    refine wc_region ?_
    refine wl_buildSlice (parts := []) hW rfl rfl Try.underlying23 fl5.siz Try.zeroValue5 rfl rfl rfl (by omega) ?_
    intro b5 w5 hl5 hB5 hx5
    have g5 : w.heap.size ≤ b5 := Nat.le_trans hE.size hl5
    replace hE := hE.trans hx5
    refine wl_val hW rfl rfl (x_move rfl) ?_
    have hxw := hE
    refine wl_cloneB hW rfl rfl rfl rfl hB5 (hv.ext hE) hl ?_
    intro v7 w7 hv7 hk7
    replace hE := hE.store hk7 g5
    refine wl_val hW rfl rfl (x_assign rfl) ?_
    refine wl_nil ?_
    refine nx_then ?_
    refine wc_ret ?_
    exact ends_ret (res_tmp Try.results65 rfl) ⟨hv7.mono (fun k _ h => by rcases h with h | h; omega; exact Nat.le_trans hxw.size h), hE⟩
theorem C62 {A : Nat → Prop} {w : World} {bv : Value} {e : Ent} (hv : Byts A w bv e.v) (hok : EntOk e) : Rt Try.prog 62 [.agg (cellsOf e bv).toArray] w fun r w' => (∃ bv', r = .agg (cellsOf e bv').toArray ∧ Byts (fun k => w.heap.size ≤ k) w' bv' e.v) ∧ Ext w w' := by
  obtain ⟨ad, cap, rfl, hcap⟩ := hv.form
  have hW := hWw
  have hFF := hFw
  have hE : Ext w w := Keep.refl _ _
  refine rt_body Try.func62 rfl Try.ntmps62 rfl ?_
  refine wc_seq ?_
  refine wc_region ?_
  refine wl_box hW rfl rfl rfl rfl ?_
  intro b1 w1 hl1 hB1 hx1
  have g1 : w.heap.size ≤ b1 := Nat.le_trans hE.size hl1
  replace hE := hE.trans hx1
  refine wl_alloc (cs := [.string ⟨#[]⟩, .int .u64 0, .bool false, .slice none 0 0]) hW rfl rfl Try.zeroValue25 rfl ?_
  intro b2 w2 hl2 hB2 hx2
  have g2 : w.heap.size ≤ b2 := Nat.le_trans hE.size hl2
  have n2_1 : b2 ≠ b1 := Nat.ne_of_gt (Nat.lt_of_lt_of_le hB1.lt hl2)
  replace hB1 := hB1.ext hx2
  replace hE := hE.trans hx2
  refine wl_nil ?_
  refine nx_then ?_
  refine wc_seq ?_
  refine wc_region ?_
  refine wl_val hW rfl rfl (x_fieldAddr Try.underlying25 rfl fl23.siz rfl) ?_
  refine wl_val hW rfl rfl (x_load fl23 rfl (hB1.cell (o := 3) rfl)) ?_
  have hx0 := hE.size
  have hlt1 := hB1.lt
  have hlt2 := hB2.lt
  refine wl_call hW rfl rfl (x_call en65 rfl) ((C65 (hv.ext hE) (by have := hok.v; omega)).inF hFF) ?_
  rintro v5 wC ⟨hv5, hxC⟩
  obtain ⟨a5, c5, e5, -⟩ := hv5.form
  subst e5
  replace hB1 := hB1.ext hxC
  replace hB2 := hB2.ext hxC
  replace hE := hE.trans hxC
  refine wl_val hW rfl rfl (x_fieldAddr Try.underlying25 rfl fl23.siz rfl) ?_
  refine wl_store hW rfl fl23 rfl rfl rfl hB1 rfl ?_
  intro wS hBS hkS
  replace hv5 := hv5.ck (CK.of_keep hkS (fun k _ h => by intro e; omega))
  replace hB2 := hB2.keep hkS n2_1
  replace hB1 := hBS
  clear hBS
  replace hE := hE.store hkS g1
  refine wl_nil ?_
  refine nx_then ?_
  refine wc_seq ?_
  refine wc_region ?_
  refine wl_val hW rfl rfl (x_loadA ag25 rfl hB1.cells rfl) ?_
  refine wl_storeA hW rfl ag25 rfl rfl rfl rfl hB2 rfl ?_
  intro wS hBS hkS
  replace hv5 := hv5.ck (CK.of_keep hkS (fun k _ h => by intro e; omega))
  replace hB1 := hB1.keep hkS n2_1.symm
  replace hB2 := hBS
  clear hBS
  replace hE := hE.store hkS g2
  refine wl_nil ?_
  refine nx_then ?_
  refine wc_ret ?_
  exact ends_ret (res_cell Try.results62 rfl (run_loadVar_cells ag25 hB2.cells rfl)) ⟨⟨_, rfl, hv5.mono (fun k _ h => by omega)⟩, hE⟩
theorem C60 {w : World} {ad : Option Addr} {n c : Nat} : Rt Try.prog 60 [.slice ad n c] w fun r w' => (∃ b, r = .func (.func 83) #[] #[.pointer (some ⟨b, 0, none⟩)] ∧ w.heap.size ≤ b ∧ Blk w' b [.slice ad n c] 26) ∧ Ext w w' := by
  have hW := hWw
  have hFF := hFw
  have hE : Ext w w := Keep.refl _ _
  refine rt_body Try.func60 rfl Try.ntmps60 rfl ?_
  refine wc_seq ?_
  refine wc_region ?_
  refine wl_box hW rfl rfl rfl rfl ?_
  intro b1 w1 hl1 hB1 hx1
  have g1 : w.heap.size ≤ b1 := Nat.le_trans hE.size hl1
  replace hE := hE.trans hx1
  refine wl_val hW rfl rfl (x_assign rfl) ?_
  refine wl_nil ?_
  refine nx_then ?_
  refine wc_seq ?_
  refine wc_region ?_
  refine wl_val hW rfl rfl (x_makeFunc (xs := [.tmp 1]) rfl) ?_
  refine wl_val hW rfl rfl (x_assign rfl) ?_
  refine wl_nil ?_
  refine nx_then ?_
  refine wc_ret ?_
  exact ends_ret (res_tmp Try.results60 rfl) ⟨⟨b1, rfl, g1, hB1⟩, hE⟩
theorem C61 {A : Nat → Prop} {w : World} {v : Value} {es : List Ent} {up : Int} (hR : Row A w v es) : Rt Try.prog 61 [v, .int .u64 up] w fun r w' => r = .int .i64 (newestN up es) ∧ Ext w w' := by
  obtain ⟨ad, cap, rfl, hcap, hlen⟩ := hR.form
  have hW := hWw
  have hFF := hFw
  have hE : Ext w w := Keep.refl _ _
  refine rt_body Try.func61 rfl Try.ntmps61 rfl ?_
  refine wc_seq ?_
  refine wc_region ?_
  refine wl_val hW rfl rfl (x_assign rfl) ?_
  refine wl_nil ?_
  refine nx_then ?_
  refine wc_seq ?_
  refine wc_seq ?_
  refine wc_region ?_
  refine wl_val hW rfl rfl (x_move rfl) ?_
  refine wl_val hW rfl rfl (x_len Try.underlying26 rfl) ?_
  refine wl_val hW rfl rfl (x_move rfl) ?_
  refine wl_nil ?_
  refine nx_then ?_
  refine wc_block ?_
  refine wc_loop (σ := Nat) (fun s => [(0, .slice ad es.length cap), (1, .int .u64 up), (7, .slice ad es.length cap), (8, .int .i64 es.length), (9, .int .i64 s)]) (fun s w' => (s ≤ es.length ∧ (∀ j (hj : j < es.length), j < s → ¬ es[j].s ≤ up)) ∧ Ext w w') (fun s => es.length - s) 0 ?_ ?_ ?_
  · exact ⟨⟨Nat.zero_le _, fun j _ h => absurd h (Nat.not_lt_zero _)⟩, hE⟩
  · repeat (first | exact sub_nil | refine sub_cons rfl ?_)
  · rintro s wr ⟨hs, hE⟩
    refine wc_seq ?_
    refine wc_region ?_
    refine wl_val hW rfl rfl (x_lss rfl rfl) ?_
    refine wl_nil ?_
    refine nx_then ?_
    refine wc_seq ?_
    refine wc_dec rfl (fun hc => ?_) (fun hc => ?_)
    · have hlt : s < es.length := by omega
      obtain ⟨b, o, cap', bv, e1, hA, hC12, hb1, hok1⟩ := (hR.ext hE).at s hlt
      cases e1
      obtain ⟨av, cv, hbv, hcv⟩ := hb1.form
      subst hbv
      refine wc_skip ?_
      refine nx_then ?_
      refine wc_seq ?_
      refine wc_block ?_
      refine wc_seq ?_
      refine wc_region ?_
      refine wl_val hW rfl rfl (x_move rfl) ?_
      refine wl_val hW rfl rfl (x_indexAddr Try.underlying26 ag25.siz rfl rfl (by omega) (by omega)) ?_
      refine wl_val hW rfl rfl (x_loadA ag25 rfl hC12 rfl) ?_
      refine wl_alloc (cs := [.string ⟨#[]⟩, .int .u64 0, .bool false, .slice none 0 0]) hW rfl rfl Try.zeroValue25 rfl ?_
      intro b6 w6 hl6 hB6 hx6
      have g6 : w.heap.size ≤ b6 := Nat.le_trans hE.size hl6
      replace hE := hE.trans hx6
      refine wl_val hW rfl rfl (x_assign rfl) ?_
      refine wl_storeA hW rfl ag25 rfl rfl rfl rfl hB6 rfl ?_
      intro wS hBS hkS
      replace hB6 := hBS
      clear hBS
      replace hE := hE.store hkS g6
      refine wl_nil ?_
      refine nx_then ?_
      refine wc_seq ?_
      refine wc_region ?_
      refine wl_val hW rfl rfl (x_fieldAddr Try.underlying25 rfl fl22.siz rfl) ?_
      refine wl_val hW rfl rfl (x_load fl22 rfl (hB6.cell (o := 1) rfl)) ?_
      refine wl_val hW rfl rfl (x_move rfl) ?_
      refine wl_val hW rfl rfl (x_leq rfl rfl) ?_
      refine wl_nil ?_
      refine nx_then ?_
      refine wc_dec rfl (fun hc => ?_) (fun hc => ?_)
      · refine wc_seq ?_
        refine wc_region ?_
        refine wl_val hW rfl rfl (x_move rfl) ?_
        refine wl_val hW rfl rfl (x_assign rfl) ?_
        refine wl_nil ?_
        refine nx_then ?_
        refine wc_ret ?_
        refine nx_block_ret ?_
        refine nx_then_ret ?_
        refine nx_then_ret ?_
        refine nx_block_ret ?_
        refine nx_then_ret ?_
        exact ends_ret (res_tmp Try.results61 rfl) ⟨by rw [newestN_at es s hlt (fun j hj => hs.2 j (by omega) hj) hc], hE⟩
      · refine wc_skip ?_
        refine nx_block ?_
        refine nx_then ?_
        refine wc_region ?_
        refine wl_val hW rfl rfl (x_inc rfl (by omega)) ?_
        refine wl_val hW rfl rfl (x_move rfl) ?_
        refine wl_nil ?_
        exact nx_next (s + 1) (by omega) ⟨⟨hlt, fun j hj h => by rcases Nat.lt_succ_iff_lt_or_eq.1 h with h | rfl; exact hs.2 j hj h; exact hc⟩, hE⟩ (by repeat (first | exact sub_nil | refine sub_cons rfl ?_))
    · refine wc_exit ?_
      refine nx_then_exit ?_
      refine nx_then_exit ?_
      refine nx_block_exit ?_
      refine nx_then ?_
      refine wc_seq ?_
      refine wc_region ?_
      refine wl_val hW rfl rfl (x_move rfl) ?_
      refine wl_val hW rfl rfl (x_len Try.underlying26 rfl) ?_
      refine wl_val hW rfl rfl (x_assign rfl) ?_
      refine wl_nil ?_
      refine nx_then ?_
      refine wc_ret ?_
      exact ends_ret (res_tmp Try.results61 rfl) ⟨by rw [newestN_none es (fun j hj => hs.2 j hj (by omega))], hE⟩
theorem grps_step (f o : Nat) (e : Ent) (tl : List Ent) (n : Nat) (hn : n ≤ tl.length) (h1 : ∀ j (h : j < tl.length), j < n → tl[j].k = e.k) (h2 : ∀ h : n < tl.length, tl[n].k ≠ e.k) :
    grps (f + 1) o (e :: tl) = (o, e :: tl.take n) :: grps f (o + 1 + n) (tl.drop n) := by
  obtain ⟨i1, i2⟩ := take_drop_while (p := fun x => decide (x.k = e.k)) tl n hn (fun j h hj => decide_eq_true (h1 j h hj)) (fun h => decide_eq_false (h2 h))
  simp only [grps, i1, i2, List.length_take, Nat.min_eq_left hn]
theorem grps_nil (f o : Nat) : grps f o [] = [] := by cases f <;> rfl
/-- A group that lies in es. -/
def IsGrp (es : List Ent) (x : Nat × List Ent) : Prop := ∃ p s, es = p ++ x.2 ++ s ∧ p.length = x.1
abbrev Grp (es : List Ent) := {x : Nat × List Ent // IsGrp es x}
theorem C83 {A S : Nat → Prop} {w : World} {ad : Option Addr} {cap b13 : Nat} {es : List Ent} (hR : Row A w (.slice ad es.length cap) es) (hA : ∀ k, A k → S k) (hS : S b13) (hB : Blk w b13 [.slice ad es.length cap] 26) :
    SeqStopsK (α := {x : Nat × List Ent // IsGrp es x}) Fence.wide 8 Try.prog 83 #[.pointer (some ⟨b13, 0, none⟩)] (fun x => #[gval ad x.1]) (Keep S) (fun xs => xs.map (·.1) = grps es.length 0 es) (fun pre => pre.map (·.1) <+: grps es.length 0 es) (es.length + 1) w := by
  intro l J Jx W hW' hJ hJx hY hJ0
  have hRW := hR.ext (Ext.of_below hW')
  have hBW := hB.ext (Ext.of_below hW')
  have hcapl : es.length ≤ cap ∧ es.length ≤ 1099511627776 := by obtain ⟨_, _, e, h1, h2⟩ := hR.form; cases e; exact ⟨h1, h2⟩
  clear hR hB hW'
  have hJd : ∀ pre w1 w2, J pre w1 → Ext w1 w2 → J pre w2 := fun pre w1 w2 h he => hJ pre w1 w2 none h he.grown (fun r e => by cases e)
  have hJxd : ∀ pre w1 w2, Jx pre w1 → Ext w1 w2 → Jx pre w2 := fun pre w1 w2 h he => hJx pre w1 w2 none h he.grown (fun r e => by cases e)
  refine CallsIn.mono (R := ok1 fun v W' => (∃ ys : List {x : Nat × List Ent // IsGrp es x}, ys.map (·.1) = grps es.length 0 es ∧ J ys W') ∨ (∃ pre : List {x : Nat × List Ent // IsGrp es x}, pre.map (·.1) <+: grps es.length 0 es ∧ Jx pre W')) ?_ (fun e w' ⟨v, he, h⟩ => ⟨⟨v, he⟩, h⟩)
  rw [show (#[Value.func (.yield l) #[] #[]] ++ #[Value.pointer (some ⟨b13, 0, none⟩)] : Array Value) = [Value.func (.yield l) #[] #[], Value.pointer (some ⟨b13, 0, none⟩)].toArray from by simp]
  have hW := hWw
  have hFF := hFw
  refine rt_bodyn Try.func83 rfl Try.ntmps83 rfl ?_
  refine wc_seq ?_
  refine wc_region ?_
  refine wl_val hW rfl rfl (x_assign rfl) ?_
  refine wl_nil ?_
  refine nx_then ?_
  refine wc_block ?_
  refine wc_loop (σ := List {x : Nat × List Ent // IsGrp es x} × List Ent × List Ent) (fun s => [(0, .func (.yield l) #[] #[]), (1, .pointer (some ⟨b13, 0, none⟩)), (3, .int .i64 (s.2.1.length : Nat))]) (fun s w' => (es = s.2.1 ++ s.2.2 ∧ (∃ f, s.2.2.length ≤ f ∧ grps es.length 0 es = s.1.map (·.1) ++ grps f s.2.1.length s.2.2) ∧ s.1.length ≤ s.2.1.length ∧ J s.1 w') ∧ Keep S W w') (fun s => s.2.2.length) ([], [], es) ?_ ?_ ?_
  · exact ⟨⟨rfl, ⟨es.length, Nat.le_refl _, rfl⟩, Nat.le_refl _, hJ0⟩, Keep.refl _ _⟩
  · repeat (first | exact sub_nil | refine sub_cons rfl ?_)
  · rintro ⟨pre, done, rest⟩ wr ⟨⟨he, ⟨f, hf, hg⟩, hpl, hj⟩, hK⟩
    dsimp only at he hf hg hpl hj
    have hBr := hBW.keep hK hS
    refine wc_seq ?_
    refine wc_seq ?_
    refine wc_region ?_
    refine wl_val hW rfl rfl (x_move rfl) ?_
    refine wl_val hW rfl rfl (x_load fl26 rfl (hBr.cell (o := 0) rfl)) ?_
    refine wl_val hW rfl rfl (x_len Try.underlying26 rfl) ?_
    refine wl_val hW rfl rfl (x_lss rfl rfl) ?_
    refine wl_nil ?_
    refine nx_then ?_
    refine wc_dec rfl (fun hc => ?_) (fun hc => ?_)
    · replace hc : ((done.length : Nat) : Int) < es.length := hc
      obtain ⟨e, tl, rfl⟩ : ∃ e tl, rest = e :: tl := by
        cases rest with
        | nil => exfalso; rw [List.append_nil] at he; rw [he] at hc; omega
        | cons e tl => exact ⟨e, tl, rfl⟩
      have hlen : es.length = done.length + 1 + tl.length := by rw [he]; simp; omega
      have hat0 : ∀ h : done.length < es.length, es[done.length] = e := fun h => by subst he; simp
      have hatn : ∀ n (h : done.length + 1 + n < es.length) (h' : n < tl.length), es[done.length + 1 + n] = tl[n] := fun n h h' => by
        subst he
        rw [List.getElem_append_right (by omega)]
        simp only [show done.length + 1 + n - done.length = n + 1 from by omega, List.getElem_cons_succ]
      refine wc_skip ?_
      refine nx_then ?_
      refine wc_block ?_
      refine wc_seq ?_
      refine wc_region ?_
      refine wl_val hW rfl rfl (x_move rfl) ?_
      refine wl_val hW rfl rfl (x_inc (s := done.length) rfl (by omega)) ?_
      refine wl_val hW rfl rfl (x_assign rfl) ?_
      refine wl_nil ?_
      refine nx_then ?_
      refine wc_seq ?_
      refine wc_block ?_
      refine wc_loop (σ := Nat) (fun n => [(0, .func (.yield l) #[] #[]), (1, .pointer (some ⟨b13, 0, none⟩)), (3, .int .i64 (done.length : Nat)), (4, .int .i64 ((done.length + 1 + n : Nat) : Int))]) (fun n w' => (n ≤ tl.length ∧ (∀ j (h : j < tl.length), j < n → tl[j].k = e.k) ∧ J pre w') ∧ Keep S W w') (fun n => tl.length - n) 0 ?_ ?_ ?_
      · exact ⟨⟨Nat.zero_le _, fun j _ h => absurd h (Nat.not_lt_zero _), hj⟩, hK⟩
      · repeat (first | exact sub_nil | refine sub_cons rfl ?_)
      · rintro n wr2 ⟨⟨hn, hk, hj2⟩, hK2⟩
        refine wc_seq ?_
        refine wc_seq ?_
        refine wc_cut [(0, .func (.yield l) #[] #[]), (1, .pointer (some ⟨b13, 0, none⟩)), (3, .int .i64 (done.length : Nat)), (4, .int .i64 ((done.length + 1 + n : Nat) : Int)), (27, .bool (if h : n < tl.length then tl[n].k.toList == e.k.toList else false))] (fun w' => Ext wr2 w') ?_ ?_
        · refine wc_draw' 17 hW mixed (by kernel_rfl) (fun w0 hx0 => ?_)
          have hB0 := (hBW.keep hK2 hS).ext hx0
          have hR0 := (hRW.ck (CK.of_keep hK2 (fun k _ h => hA k h))).ext hx0
          refine q_val rfl rfl (fun _ hx => x_move rfl) ?_
          refine q_val rfl rfl (fun _ hx => x_load fl26 rfl (hx.cell (hB0.cell (o := 0) rfl))) ?_
          refine q_val rfl rfl (fun _ hx => x_len Try.underlying26 rfl) ?_
          refine q_val rfl rfl (fun _ hx => x_lss rfl rfl) ?_
          refine q_val rfl rfl (fun _ hx => x_move rfl) ?_
          refine q_dcases (d := 15) rfl (fun hg15 => ?_) (fun hg15 => ?_)
          · obtain ⟨b, o, cap', v1, e1, hA1, hC18, hb1, hok1⟩ := hR0.at (done.length + 1 + n) (by omega)
            cases e1
            obtain ⟨b', o', cap'', v2, e2, hA2, hC23, hb2, hok2⟩ := hR0.at done.length (by omega)
            cases e2
            refine q_val rfl rfl (fun _ hx => x_load fl26 rfl (hx.cell (hB0.cell (o := 0) rfl))) ?_
            refine q_val rfl rfl (fun _ hx => x_move rfl) ?_
            refine q_val rfl rfl (fun _ hx => x_indexAddr Try.underlying26 ag25.siz rfl rfl (by omega) (by omega)) ?_
            refine q_val rfl rfl (fun _ hx => x_fieldAddr Try.underlying25 rfl fl9.siz rfl) ?_
            refine q_val rfl rfl (fun _ hx => x_load fl9 rfl (hx.cell (hC18 0 _ rfl))) ?_
            refine q_val rfl rfl (fun _ hx => x_load fl26 rfl (hx.cell (hB0.cell (o := 0) rfl))) ?_
            refine q_val rfl rfl (fun _ hx => x_move rfl) ?_
            refine q_val rfl rfl (fun _ hx => x_indexAddr Try.underlying26 ag25.siz rfl rfl (by omega) (by omega)) ?_
            refine q_val rfl rfl (fun _ hx => x_fieldAddr Try.underlying25 rfl fl9.siz rfl) ?_
            refine q_val rfl rfl (fun _ hx => x_load fl9 rfl (hx.cell (hC23 0 _ rfl))) ?_
            refine q_val rfl rfl (fun _ hx => x_seql rfl rfl) ?_
            refine q_val rfl rfl (fun _ hx => x_pickT rfl rfl) ?_
            refine q_nil (tail0 (fun wt hxt => ?_))
            refine wl_nil ?_
            have e27 : (if h : n < tl.length then tl[n].k.toList == e.k.toList else false) = (es[done.length + 1 + n].k.toList == es[done.length].k.toList) := by rw [dif_pos (by omega), hatn n (by omega) (by omega), hat0 (by omega)]
            rw [e27]
            exact nx_cut (by repeat (first | exact sub_nil | refine sub_cons rfl ?_)) (hx0.trans hxt)
          · refine q_off rfl rfl ?_
            refine q_off rfl rfl ?_
            refine q_off rfl rfl ?_
            refine q_off rfl rfl ?_
            refine q_off rfl rfl ?_
            refine q_off rfl rfl ?_
            refine q_off rfl rfl ?_
            refine q_off rfl rfl ?_
            refine q_off rfl rfl ?_
            refine q_off rfl rfl ?_
            refine q_off rfl rfl ?_
            refine q_val rfl rfl (fun _ hx => x_pickF rfl rfl) ?_
            refine q_nil (tail0 (fun wt hxt => ?_))
            refine wl_nil ?_
            rw [show (if h : n < tl.length then tl[n].k.toList == e.k.toList else false) = false from dif_neg (by omega)]
            exact nx_cut (by repeat (first | exact sub_nil | refine sub_cons rfl ?_)) (hx0.trans hxt)
        · intro w2 hE2
          have hj3 := hJd _ _ _ hj2 hE2
          have hK3 := hK2.trans (Keep.of_ext hE2)
          refine nx_then ?_
          refine wc_bool rfl (fun hc => ?_) (fun hc => ?_)
          · have hn1 : n < tl.length := by refine Decidable.byContradiction fun h => ?_; rw [dif_neg h] at hc; cases hc
            have hk1 : tl[n].k = e.k := by rw [dif_pos hn1] at hc; exact ba_ext (by simpa using hc)
            refine wc_skip ?_
            refine nx_then ?_
            refine wc_block ?_
            refine wc_region ?_
            refine wl_val hW rfl rfl (x_move rfl) ?_
            refine wl_val hW rfl rfl (x_inc rfl (by omega)) ?_
            refine wl_val hW rfl rfl (x_assign rfl) ?_
            refine wl_nil ?_
            refine nx_block ?_
            exact nx_next (n + 1) (by omega) ⟨⟨hn1, fun j h hj => by rcases Nat.lt_succ_iff_lt_or_eq.1 hj with hj | rfl; exact hk j h hj; exact hk1, hj3⟩, hK3⟩ (by repeat (first | exact sub_nil | refine sub_cons rfl ?_))
          · have h2 : ∀ h : n < tl.length, tl[n].k ≠ e.k := fun h heq => by rw [dif_pos h, heq] at hc; simp at hc
            obtain ⟨f', rfl⟩ : ∃ f', f = f' + 1 := ⟨f - 1, by simp at hf; omega⟩
            have hstep := grps_step f' done.length e tl n hn hk h2
            have hB2r := hBW.keep hK3 hS
            have elen : (done ++ e :: tl.take n).length = done.length + 1 + n := by simp; omega
            have egv : gval ad (done.length, e :: tl.take n) = .slice (if done.length + 1 + n = done.length then ad else ad.map (·.add (done.length * 4))) (done.length + 1 + n - done.length) (done.length + 1 + n - done.length) := by
              have e1 : (e :: tl.take n).length = done.length + 1 + n - done.length := by simp; omega
              unfold gval; rw [if_neg (by omega), e1]
            have hxg : IsGrp es (done.length, e :: tl.take n) := ⟨done, tl.drop n, by rw [he]; simp, rfl⟩
            have hYa := hY pre ⟨_, hxg⟩ w2 hj3 (by omega)
            refine wc_exit ?_
            refine nx_then_exit ?_
            refine nx_then_exit ?_
            refine nx_block_exit ?_
            refine nx_then ?_
            refine wc_seq ?_
            refine wc_seq ?_
            refine wc_region ?_
            refine wl_val hW rfl rfl (x_move rfl) ?_
            refine wl_val hW rfl rfl (x_load fl26 rfl (hB2r.cell (o := 0) rfl)) ?_
            refine wl_val hW rfl rfl (x_move rfl) ?_
            refine wl_val hW rfl rfl (x_move rfl) ?_
            refine wl_val hW rfl rfl (x_move rfl) ?_
            refine wl_val hW rfl rfl (x_slice3 Try.underlying26 ag25.siz rfl rfl rfl rfl (by omega) (by omega)) ?_
            refine wl_yield (R := fun v W' => ∃ b, v = .bool b ∧ (b = true → J (pre ++ [⟨_, hxg⟩]) W' ∧ Keep S w2 W') ∧ (b = false → Jx (pre ++ [⟨_, hxg⟩]) W')) hW rfl rfl rfl rfl (by rw [← egv]; exact hYa.mono (fun e' W' h => by rcases h with ⟨rfl, h⟩ | ⟨rfl, h⟩; exact ⟨_, rfl, true, rfl, (fun _ => h), (fun h => by cases h)⟩; exact ⟨_, rfl, false, rfl, (fun h => by cases h), (fun _ => h)⟩)) ?_
            rintro v W2 ⟨bb, rfl, hbt, hbf⟩
            refine wl_val hW rfl rfl (x_not rfl) ?_
            refine wl_nil ?_
            refine nx_then ?_
            refine wc_bool rfl (fun hc => ?_) (fun hc => ?_)
            · refine wc_ret ?_
              refine nx_then_ret ?_
              refine nx_block_ret ?_
              refine nx_then_ret ?_
              refine nx_block_ret ?_
              exact ends_ret (res_none Try.results83) (.inr ⟨_, ⟨grps f' (done.length + 1 + n) (tl.drop n), by rw [hg, hstep]; simp⟩, hbf (by simpa using hc)⟩)
            · refine wc_skip ?_
              refine nx_then ?_
              refine wc_region ?_
              refine wl_val hW rfl rfl (x_move rfl) ?_
              refine wl_val hW rfl rfl (x_assign rfl) ?_
              refine wl_nil ?_
              refine nx_block ?_
              have hb1 := hbt (by simpa using hc)
              exact nx_next (pre ++ [⟨_, hxg⟩], done ++ e :: tl.take n, tl.drop n) (by simp; omega) ⟨⟨by simp [he], ⟨f', by simp at hf ⊢; omega, by show _ = (pre ++ [⟨_, hxg⟩] : List {x : Nat × List Ent // IsGrp es x}).map (·.1) ++ grps f' (done ++ e :: tl.take n).length (tl.drop n); rw [elen, hg, hstep]; simp⟩, by show (pre ++ _).length ≤ (done ++ e :: tl.take n).length; rw [elen]; simp; omega, hb1.1⟩, hK3.trans hb1.2⟩ (by show Sub [(0, _), (1, _), (3, .int .i64 (((done ++ e :: tl.take n).length : Nat) : Int))] _; rw [elen]; repeat (first | exact sub_nil | refine sub_cons rfl ?_))
    · refine wc_exit ?_
      refine nx_then_exit ?_
      refine nx_then_exit ?_
      refine nx_block_exit ?_
      replace hc : ¬ ((done.length : Nat) : Int) < es.length := hc
      have hr0 : rest = [] := by cases rest with | nil => rfl | cons e tl => exfalso; rw [he] at hc; simp at hc; omega
      subst hr0
      exact ends_normal (res_none Try.results83) (.inl ⟨pre, by rw [hg, grps_nil, List.append_nil], hj⟩)
end Go.Proofs.Ytblbddamebbgaaa.K


/- Lists collected in a range over a function; what is seen and what is left, plain. -/
namespace Go.Proofs.Ytblbddamebbgaaa.K
open Go Go.RowKit
set_option linter.unusedVariables false
set_option linter.unusedSectionVars false
set_option linter.unusedSimpArgs false

theorem nc_put {B C : Nat} {W : World} (h : W.heap[B]? = some (.deferred (some []))) (hC : C ≤ B) : Nc C W (W.putObj B (.deferred none)) :=
  ⟨⟨some B, grownBy_putObj' W B _, fun r e => by cases e; exact ⟨hC, _, h, rfl⟩⟩⟩
theorem Keep.after {S : Nat → Prop} {w0 w w' : World} (h : Ext w0 w) (hk : Keep S w w') (hs : ∀ k, k < w0.heap.size → S k) : Ext w0 w' :=
  ⟨hk.os.trans h.os, hk.tape.trans h.tape, hk.output.trans h.output, Nat.le_trans h.size hk.size, fun k hlt _ => (hk.block k (Nat.lt_of_lt_of_le hlt h.size) (hs k hlt)).trans (h.block k hlt trivial)⟩
/-- What is seen of a group. -/
def seenG (up : Int) (g : List Ent) : List Ent := match g[newestN up g]? with
  | some e => if e.g then [] else [e]
  | none => []
def seenL (up : Int) (es : List Ent) : List Ent := (grps es.length 0 es).flatMap fun x => seenG up x.2
def leftN (keep : Int) (bottom : Bool) (g : List Ent) : Nat := match g[newestN keep g]? with
  | some e => if e.g && bottom then newestN keep g else newestN keep g + 1
  | none => newestN keep g
def leftL (keep : Int) (bottom : Bool) (es : List Ent) : List Ent := (grps es.length 0 es).flatMap fun x => x.2.take (leftN keep bottom x.2)
theorem flat_len_le {α : Type} (f : α → List Ent) (n : Nat) : ∀ l : List α, (∀ x ∈ l, (f x).length ≤ n) → (l.flatMap f).length ≤ l.length * n
  | [], _ => by simp
  | x :: l, h => by
    have h1 := h x (by simp)
    have h2 := flat_len_le f n l fun y hy => h y (by simp [hy])
    simp only [List.flatMap_cons, List.length_append, List.length_cons, Nat.succ_mul]
    omega
/-- A slice's block is one of entries. -/
theorem OwnE.blk {A : Nat → Prop} {base : Nat} {w : World} {v : Value} {es : List Ent} (h : OwnE A base w v es) {b : Nat} {o : Obj} (hv : v.ownBlock = some b) (ho : w.heap[b]? = some o) : o.isCells = true := by
  obtain ⟨⟨bvs, h1, h2, h3⟩, h4⟩ := h
  rcases h2.2 with ⟨rfl, _⟩ | ⟨g, cap, cur, rfl, -, hg, -⟩
  · cases hv
  · cases hv; rw [hg] at ho; cases ho; rfl
theorem Blk.isC {w : World} {b : Nat} {cs : List Value} {t : TypeId} (h : Blk w b cs t) {o : Obj} (ho : w.heap[b]? = some o) : o.isCells = true := by
  unfold Blk at h; rw [h] at ho; cases ho; rfl
/-- What is held between two rounds: the box b6 holds what is collected; what lay before lies as it lay. -/
structure Coll (W0 : World) (b6 : Nat) (A : Nat → Prop) (xs : List Ent) (W : World) : Prop where
  ex : ∃ ov, Blk W b6 [ov] 26 ∧ OwnE A W0.heap.size W ov xs
  keep : Keep (fun k => k < W0.heap.size ∧ k ≠ b6) W0 W
theorem Coll.nc {W0 W W' : World} {b6 : Nat} {A : Nat → Prop} {xs : List Ent} (h : Coll W0 b6 A xs W) (hn : Nc W0.heap.size W W') : Coll W0 b6 A xs W' := by
  obtain ⟨⟨ov, h1, h2⟩, h3⟩ := h
  exact ⟨⟨ov, h1.nc hn, h2.nc hn⟩, h3.nc hn (Nat.le_refl _)⟩
theorem Coll.start {W0 : World} {b6 : Nat} {A : Nat → Prop} (h : Blk W0 b6 [.slice none 0 0] 26) : Coll W0 b6 A [] W0 := ⟨⟨_, h, own_nil _ _ _⟩, Keep.refl _ _⟩
section
variable {P : Program} {m : Nat} {D : List Deferred} {L : Env} {w W0 W : World} {b6 : Nat} {A : Nat → Prop} {ov : Value} {xs : List Ent}
/-- What a round turns: the box and the row's block. -/
def KeepR (b6 : Nat) (ov : Value) : World → World → Prop := Keep fun k => k ≠ b6 ∧ some k ≠ ov.ownBlock
theorem round_coll {α : Type} {I : List α → World → Prop} {Ix : Code → List α → World → Prop} {ys : List α} (hI : ∀ W, Coll W0 b6 A xs W → I ys W) (hb : Blk W b6 [ov] 26) (hrow : ∃ zs, OwnE A W0.heap.size W ov zs) (h0 : Keep (fun k => k < W0.heap.size ∧ k ≠ b6) W0 W) (hk : KeepR b6 ov W w)
    (h1 : ∃ ov', Blk w b6 [ov'] 26 ∧ OwnE A W0.heap.size w ov' xs) : NX (RoundQ W0.heap.size (fun k => k < W0.heap.size ∧ k ≠ b6) I Ix ys W) m D .normal L w := by
  obtain ⟨zs, hrow⟩ := hrow
  have hs : ∀ k, (k < W0.heap.size ∧ k ≠ b6) → k ≠ b6 ∧ some k ≠ ov.ownBlock := fun k h => ⟨h.2, fun e => by have := (hrow.lt k e.symm).1; omega⟩
  exact round_normal hk hs (fun k o hB ho hc => ⟨(fun e => by subst e; exact Bool.noConfusion ((hb.isC ho).symm.trans hc)), (fun e => Bool.noConfusion ((hrow.blk e.symm ho).symm.trans hc))⟩) (hI _ ⟨h1, h0.trans (hk.mono fun k _ h => hs k h)⟩)
theorem KeepR.of_ext {W W' : World} (h : Ext W W') : KeepR b6 ov W W' := Keep.of_ext h
end
theorem coll_done {w wG W : World} {b6 B : Nat} {ov : Value} {xs : List Ent} {es : List Ent} (hE : Ext w wG) (g6 : w.heap.size ≤ b6) (hK : Keep (fun k => k < wG.heap.size ∧ k ≠ b6) wG W) (hO : OwnE (fun k => wG.heap.size ≤ k) wG.heap.size W ov xs) (hB : wG.heap.size ≤ B) (hk : W.heap[B]? = some (.deferred (some []))) (he : xs = es) (hl : es.length ≤ 1099511627776) :
    Row (fun k => w.heap.size ≤ k) (W.putObj B (.deferred none)) ov es ∧ Ext w (W.putObj B (.deferred none)) := by
  subst he
  have hs := hE.size
  have h1 : Ext w W := Keep.after hE hK (fun k h => ⟨by omega, by omega⟩)
  have hn : Nc wG.heap.size W (W.putObj B (.deferred none)) := nc_put hk hB
  exact ⟨((hO.nc hn).row hl).mono (fun k _ h => by rcases h with h | h <;> omega), h1.nc hn hs⟩
theorem grps_flat : ∀ (f o : Nat) (es : List Ent), es.length ≤ f → (grps f o es).flatMap (·.2) = es
  | 0, _, es, h => by have : es = [] := List.eq_nil_of_length_eq_zero (by omega); subst this; rfl
  | f + 1, _, [], _ => rfl
  | f + 1, o, e :: es, h => by
    have hd : (es.dropWhile fun x => decide (x.k = e.k)).length ≤ f := by
      have := congrArg List.length (List.takeWhile_append_dropWhile (p := fun x => decide (x.k = e.k)) (l := es))
      simp only [List.length_append, List.length_cons] at this h
      omega
    simp only [grps, List.flatMap_cons, grps_flat f _ _ hd, List.cons_append, List.takeWhile_append_dropWhile]
theorem flat_le2 {α : Type} (f g : α → List Ent) : ∀ l : List α, (∀ x ∈ l, (f x).length ≤ (g x).length) → (l.flatMap f).length ≤ (l.flatMap g).length
  | [], _ => by simp
  | x :: l, h => by
    have h1 := h x (by simp)
    have h2 := flat_le2 f g l fun y hy => h y (by simp [hy])
    simp only [List.flatMap_cons, List.length_append]
    omega
theorem leftL_le (keep : Int) (bottom : Bool) (es : List Ent) : (leftL keep bottom es).length ≤ es.length := by
  have := flat_le2 (fun x => x.2.take (leftN keep bottom x.2)) (·.2) (grps es.length 0 es) fun x _ => by simp; omega
  rwa [grps_flat _ _ _ (Nat.le_refl _)] at this
theorem newestN_le (up : Int) : ∀ g : List Ent, newestN up g ≤ g.length
  | [] => by simp [newestN]
  | e :: g => by have := newestN_le up g; simp only [newestN]; split <;> simp <;> omega
theorem leftN_some {keep : Int} {bottom : Bool} {g : List Ent} (h : newestN keep g < g.length) : leftN keep bottom g = if g[newestN keep g].g && bottom then newestN keep g else newestN keep g + 1 := by
  unfold leftN; rw [List.getElem?_eq_getElem h]
theorem leftN_none {keep : Int} {bottom : Bool} {g : List Ent} (h : ¬ newestN keep g < g.length) : leftN keep bottom g = newestN keep g := by
  unfold leftN; rw [List.getElem?_eq_none (by omega)]
theorem leftN_le (keep : Int) (bottom : Bool) (g : List Ent) : newestN keep g ≤ leftN keep bottom g ∧ leftN keep bottom g ≤ newestN keep g + 1 ∧ leftN keep bottom g ≤ g.length := by
  have h1 := newestN_le keep g
  by_cases h : newestN keep g < g.length
  · rw [leftN_some h]; split <;> omega
  · rw [leftN_none h]; omega
theorem take_snoc {g : List Ent} {s k : Nat} (h : s < (g.take k).length) : g.take (s + 1) = g.take s ++ [(g.take k)[s]] := by
  have h2 : s < g.length := by simp at h; omega
  rw [List.getElem_take, List.take_add_one, List.getElem?_eq_getElem h2]; rfl
theorem Keep.then {S S' : Nat → Prop} {w0 w w' : World} (h : Keep S w0 w) (hk : Keep S' w w') (hs : ∀ k, k < w0.heap.size → S k → S' k) : Keep S w0 w' :=
  ⟨hk.os.trans h.os, hk.tape.trans h.tape, hk.output.trans h.output, Nat.le_trans h.size hk.size, fun k hlt h1 => (hk.block k (Nat.lt_of_lt_of_le hlt h.size) (hs k hlt h1)).trans (h.block k hlt h1)⟩
/-- The first k of a row. -/
theorem Row.sliceh {A : Nat → Prop} {w : World} {a : Option Addr} {n c k : Nat} {g : List Ent} (h : Row A w (.slice a n c) g) (hk : k ≤ g.length) : Row A w (.slice (if c = 0 then a else a.map (·.add (0 * 4))) (k - 0) (c - 0)) (g.take k) := by
  obtain ⟨ad', cap', e, h1, h2, h3, h⟩ := h
  cases e
  have hlen : (g.take k).length = k := by simp; omega
  refine ⟨_, _, by rw [hlen]; rfl, by omega, by omega, fun x hx => h3 x (List.mem_of_mem_take hx), fun hne => ?_⟩
  obtain ⟨b, o, rfl, hA, hr⟩ := h (by rintro rfl; simp at hne)
  refine ⟨b, o, by split <;> simp [add_mk], hA, fun i x hi => hr i x ?_⟩
  rw [List.getElem?_take] at hi
  split at hi
  · exact hi
  · cases hi
/-- What is held within a round that collects more than once. -/
structure Col2 (wG W : World) (b8 : Nat) (A : Nat → Prop) (ov : Value) (xs : List Ent) (w : World) : Prop where
  ex : ∃ ov', Blk w b8 [ov'] 26 ∧ OwnE A wG.heap.size w ov' xs ∧ ∀ b, ov'.ownBlock = some b → ov.ownBlock = some b ∨ W.heap.size ≤ b
  keep : KeepR b8 ov W w

/-- A copy of e, made since w0. -/
def ApV (w0 : World) (e : Ent) : VP := fun u w => ∃ bv, u = .agg (cellsOf e bv).toArray ∧ Byts (fun k => w0.heap.size ≤ k) w bv e.v
/-- A slice of one copy of e, made since w0. -/
def Ap1 (w0 : World) (e : Ent) : VP := fun u w => ∃ bt bv, u = .slice (some ⟨bt, 0, none⟩) 1 1 ∧ w0.heap.size ≤ bt ∧ Blk w bt (cellsOf e bv) 25 ∧ Byts (fun k => w0.heap.size ≤ k) w bv e.v
theorem ApV.stable {w0 : World} {e : Ent} : Stable (ApV w0 e) := fun v w w' ⟨bv, h, hb⟩ hx => ⟨bv, h, hb.ext hx⟩
theorem Ap1.stable {w0 : World} {e : Ent} : Stable (Ap1 w0 e) := fun v w w' ⟨bt, bv, h, h2, hB, hb⟩ hx => ⟨bt, bv, h, h2, hB.ext hx, hb.ext hx⟩
section
variable {F : Fence} {n m : Nat} {Q : Exit → Act → World → Prop} {D : List Deferred} {L : Env} {w0 : World} {ops : List Oper} {rest : List Oper} {d s : Nat} {ty : TypeId} {pos : String} {af : Array Edge} {e : Ent} {K : Env → List (Nat × VP) → Prop} {V : List (Nat × VP)}
theorem q_apart {bv : Value} {x : Operand} {ts : Array TypeId} {g : Option (Nat × Bool)} (hg : wants L ops g = some true) (hd : Nat.blt d m = true) (hno : at' L d = none) (hx : evs L [x] = some [.agg (cellsOf e bv).toArray]) (hen : Enters Try.prog 62)
    (hc : ∀ w', Ext w0 w' → CallsIn F (n - 1) Try.prog 62 [Value.agg (cellsOf e bv).toArray].toArray w' (ok1 fun r w'' => (∃ bv', r = .agg (cellsOf e bv').toArray ∧ Byts (fun k => w'.heap.size ≤ k) w'' bv' e.v) ∧ Ext w' w'')) (k : QW F n Try.prog m D ops w0 K rest L ((d, ApV w0 e) :: V)) :
    QW F n Try.prog m D ops w0 K (⟨some d, .call ⟨.value (.func 62), [x].toArray, ts⟩, ty, pos, af, g⟩ :: rest) L V :=
  q_callp ApV.stable hg hd hno (fun _ => x_call hen hx) (fun w' hw => (hc w' hw).mono (fun e' w'' ⟨v, he, ⟨bv', hv, hb⟩, hE⟩ => ⟨v, he, ⟨bv', hv, hb.mono fun k _ h => Nat.le_trans hw.size h⟩, hE⟩)) k
theorem q_build1 (hd : Nat.blt d m = true) (hno : at' L d = none) (hs : (s, ApV w0 e) ∈ V) (k : QW F n Try.prog m D ops w0 K rest L ((d, Ap1 w0 e) :: V)) :
    QW F n Try.prog m D ops w0 K (⟨some d, .buildSlice 26 1 #[(0, .tmp s)], ty, pos, af, none⟩ :: rest) L V :=
  q_valv Ap1.stable rfl hd hno hs (List.mem_append_left _ (List.mem_filterMap.2 ⟨.tmp s, by simp [Op.operands], rfl⟩)) (fun w' u hw hu => by
    obtain ⟨bv, rfl, hb⟩ := hu
    have hlook : ev ((s, .agg (cellsOf e bv).toArray) :: L) (.tmp s) = some (.agg (cellsOf e bv).toArray) := by show at' _ _ = _; rw [at_cons, if_pos rfl]
    obtain ⟨b, w'', hx, h1, h2, h3⟩ := x_buildSlice (P := Try.prog) (m := m) (D := D) (w := w') (ty := ty) (L := (s, .agg (cellsOf e bv).toArray) :: L) (vs := [.agg (cellsOf e bv).toArray]) (sz := 4) (len := 1) (parts := [(0, .tmp s)]) Try.underlying26 ag25.siz Try.zeroValue25 (by simp only [partsOk, hlook]; rfl) rfl rfl (by decide)
    exact ⟨_, w'', hx, ⟨b, bv, rfl, Nat.le_trans hw.size h1, h2, hb.ext h3⟩, h3⟩) k
end
end Go.Proofs.Ytblbddamebbgaaa.K

/- Walks: Seen, Prune. -/
namespace Go.Proofs.Ytblbddamebbgaaa.K
open Go Go.RowKit
set_option linter.unusedVariables false
set_option linter.unusedSimpArgs false

theorem C25 {w : World} {v : Value} {es : List Ent} {keep : Int} {bottom : Bool} (hR : Row (fun k => k < w.heap.size) w v es) (hl : es.length ≤ 1048000) :
    Rt Try.prog 25 [v, .int .u64 keep, .bool bottom] w fun r w' => (∃ rv, r = .tuple #[rv, .int .i64 (if rightB es then 0 else 15)] ∧ Row (fun k => w.heap.size ≤ k) w' rv (if rightB es then leftL keep bottom es else [])) ∧ Ext w w' := by
  obtain ⟨ad, cap, rfl, hcap, hlen⟩ := hR.form
  have hW := hWw
  have hFF := hFw
  have hE : Ext w w := Keep.refl _ _
  refine rt_body Try.func25 rfl Try.ntmps25 rfl ?_
  refine wc_seq ?_
  refine wc_region ?_
  refine wl_box hW rfl rfl rfl rfl ?_
  intro b4 w4 hl4 hB4 hx4
  have g4 : w.heap.size ≤ b4 := Nat.le_trans hE.size hl4
  replace hE := hE.trans hx4
  refine wl_box hW rfl rfl rfl rfl ?_
  intro b5 w5 hl5 hB5 hx5
  have g5 : w.heap.size ≤ b5 := Nat.le_trans hE.size hl5
  have n5_4 : b5 ≠ b4 := Nat.ne_of_gt (Nat.lt_of_lt_of_le hB4.lt hl5)
  replace hB4 := hB4.ext hx5
  replace hE := hE.trans hx5
  refine wl_val hW rfl rfl (x_assign rfl) ?_
  refine wl_val hW rfl rfl (x_assign rfl) ?_
  refine wl_nil ?_
  refine nx_then ?_
  refine wc_seq ?_
  refine wc_seq ?_
  refine wc_region ?_
  refine wl_val hW rfl rfl (x_move rfl) ?_
  refine wl_call hW rfl rfl (x_call en20 rfl) ((C20 (hR.ext hE)).inF hFF) ?_
  rintro _ wC ⟨rfl, hxC⟩
  replace hB4 := hB4.ext hxC
  replace hB5 := hB5.ext hxC
  replace hE := hE.trans hxC
  refine wl_val hW rfl rfl (x_not rfl) ?_
  refine wl_nil ?_
  refine nx_then ?_
  refine wc_bool rfl (fun hc => ?_) (fun hc => ?_)
  · have hrt : rightB es = false := by simpa using hc
    refine wc_seq ?_
    refine wc_region ?_
    refine wl_val hW rfl rfl (x_assign rfl) ?_
    refine wl_val hW rfl rfl (x_assign rfl) ?_
    refine wl_nil ?_
    refine nx_then ?_
    refine wc_ret ?_
    refine nx_then_ret ?_
    exact ends_ret (res_tmp2 Try.results25 rfl rfl) ⟨⟨_, by rw [hrt]; rfl, by rw [hrt]; exact row_nil _ _⟩, hE⟩
  · refine wc_skip ?_
    refine nx_then ?_
    have hrt : rightB es = true := by simpa using hc
    refine wc_seq ?_
    refine wc_region ?_
    refine wl_alloc (cs := [.slice none 0 0]) hW rfl rfl Try.zeroValue26 rfl ?_
    intro b8 w8 hl8 hB8 hx8
    have g8 : w.heap.size ≤ b8 := Nat.le_trans hE.size hl8
    have n8_4 : b8 ≠ b4 := Nat.ne_of_gt (Nat.lt_of_lt_of_le hB4.lt hl8)
    replace hB4 := hB4.ext hx8
    have n8_5 : b8 ≠ b5 := Nat.ne_of_gt (Nat.lt_of_lt_of_le hB5.lt hl8)
    replace hB5 := hB5.ext hx8
    replace hE := hE.trans hx8
    refine wl_nil ?_
    refine nx_then ?_
    refine wc_seq ?_
    refine wc_seq ?_
    refine wc_region ?_
    refine wl_val hW rfl rfl (x_move rfl) ?_
    refine wl_call hW rfl rfl (x_call en60 rfl) (C60.inF hFF) ?_
    rintro _ wG ⟨⟨bg, rfl, hbg, hBg⟩, hxC⟩
    have nbg : bg ≠ b8 := Nat.ne_of_gt (Nat.lt_of_lt_of_le hB8.lt hbg)
    replace hB4 := hB4.ext hxC
    replace hB5 := hB5.ext hxC
    replace hB8 := hB8.ext hxC
    replace hE := hE.trans hxC
    refine wl_nil ?_
    refine nx_then ?_
    refine wc_block ?_
    have hRG := hR.ext hE
    have hb8lt := hB8.lt
    have hb4lt := hB4.lt
    have hb5lt := hB5.lt
    have hEG := hE
    refine wc_range (α := Grp es) (fun x => gval ad x.1) (fun k => k < wG.heap.size ∧ k ≠ b8) (fun xs => xs.map (·.1) = grps es.length 0 es) (fun pre => pre.map (·.1) <+: grps es.length 0 es) (es.length + 1) rfl en83 rfl (C83 hRG (fun k h => ⟨Nat.lt_of_lt_of_le h hE.size, by omega⟩) ⟨hBg.lt, nbg⟩ hBg) (fun k h => h.1) (fun pre W => Coll wG b8 (fun k => wG.heap.size ≤ k) (pre.flatMap fun x : Grp es => x.1.2.take (leftN keep bottom x.1.2)) W) (fun _ _ _ => False) (fun s W W' h hn => h.nc hn) (fun c s W W' h _ => h) (Coll.start hB8) (fun x => [(4, .pointer (some ⟨b4, 0, none⟩)), (5, .pointer (some ⟨b5, 0, none⟩)), (8, .pointer (some ⟨b8, 0, none⟩)), (9, gval ad x.1)]) ?_ ?_ ?_ ?_
    · intro l x W K hK
      have hW := hWw.round l
      -- assign
      refine wc_region ?_
      refine wl_val hW rfl rfl (x_assign rfl) ?_
      refine wl_nil ?_
      exact fun a ha => hK a (ha.sub (by repeat (first | exact sub_nil | refine sub_cons rfl ?_)))
    · rintro l pre ⟨x, hx⟩ W hI hpl
      -- body
      obtain ⟨⟨ov, hBo, hO⟩, hK⟩ := hI
      have hGW := hRG.ck (CK.of_keep hK (fun k _ h => ⟨Nat.lt_of_lt_of_le h hEG.size, by omega⟩))
      have hcx : ∀ x' : Grp es, (pre ++ [x']).flatMap (fun x : Grp es => x.1.2.take (leftN keep bottom x.1.2)) = pre.flatMap (fun x : Grp es => x.1.2.take (leftN keep bottom x.1.2)) ++ x'.1.2.take (leftN keep bottom x'.1.2) := fun x' => by simp
      have hcx := hcx ⟨x, hx⟩
      have hgle : ∀ x : Grp es, x.1.2.length ≤ es.length := fun x => by obtain ⟨p, s, e, -⟩ := x.2; have := congrArg List.length e; simp only [List.length_append] at this; omega
      have hcl := flat_len_le (fun x : Grp es => x.1.2.take (leftN keep bottom x.1.2)) es.length pre (fun x _ => by have := hgle x; simp; omega)
      have hgl0 := hgle ⟨x, hx⟩
      have hmul : pre.length * es.length ≤ 1048000 * 1048000 := Nat.mul_le_mul (by omega) hl
      dsimp only at hcx hgl0
      obtain ⟨px, sx, hex, hpx⟩ := hx
      obtain ⟨x1, g⟩ := x
      dsimp only at hex hpx hcx hgl0
      subst hpx
      replace hGW := gval_row hGW hex
      show WC _ _ _ _ _ _ _ [(4, _), (5, _), (8, _), (9, gval ad (px.length, g))] _
      generalize gval ad (px.length, g) = gv at hGW ⊢
      obtain ⟨ga, gc, rfl, hgc, hgl⟩ := hGW.form
      have hG := hGW
      have hnl := leftN_le keep bottom g
      replace hB4 := hB4.keep hK ⟨hb4lt, n8_4.symm⟩
      replace hB5 := hB5.keep hK ⟨hb5lt, n8_5.symm⟩
      replace hB8 := hBo
      replace hE : Ext W W := Keep.refl _ _
      have hW := hWw.round l
      have hFF := hFr l
      refine wc_block ?_
      refine wc_seq ?_
      refine wc_region ?_
      refine wl_val hW rfl rfl (x_move rfl) ?_
      refine wl_val hW rfl rfl (x_load fl22 rfl (hB4.cell (o := 0) rfl)) ?_
      refine wl_call hW rfl rfl (x_call en61 rfl) ((C61 hG).inF hFF) ?_
      rintro _ wC ⟨rfl, hxC⟩
      replace hG := hG.ext hxC
      replace hB4 := hB4.ext hxC
      replace hB5 := hB5.ext hxC
      replace hB8 := hB8.ext hxC
      replace hE := hE.trans hxC
      refine wl_val hW rfl rfl (x_assign rfl) ?_
      refine wl_nil ?_
      refine nx_then ?_
      refine wc_seq ?_
      refine wc_seq ?_
      refine wc_cut [(8, .pointer (some ⟨b8, 0, none⟩)), (9, .slice ga g.length gc), (10, .int .i64 (newestN keep g)), (36, .bool (decide (newestN keep g < leftN keep bottom g)))] (fun w' => w' = wC) ?_ ?_
      · refine wc_region ?_
        refine wl_val hW rfl rfl (x_move rfl) ?_
        refine wl_val hW rfl rfl (x_move rfl) ?_
        refine wl_val hW rfl rfl (x_len Try.underlying26 rfl) ?_
        refine wl_val hW rfl rfl (x_lss rfl rfl) ?_
        refine wl_val hW rfl rfl (x_move rfl) ?_
        refine wl_dcases (d := 26) rfl (fun hg26 => ?_) (fun hg26 => ?_)
        · have hi : newestN keep g < g.length := by omega
          have hls := leftN_some (keep := keep) (bottom := bottom) hi
          obtain ⟨b, o, cap', bv, e1, hA, hC29, hb1, hok1⟩ := hG.at _ hi
          cases e1
          refine wl_val hW rfl rfl (x_move rfl) ?_
          refine wl_val hW rfl rfl (x_move rfl) ?_
          refine wl_val hW rfl rfl (x_indexAddr Try.underlying26 ag25.siz rfl rfl (by omega) (by omega)) ?_
          refine wl_val hW rfl rfl (x_fieldAddr Try.underlying25 rfl fl4.siz rfl) ?_
          refine wl_val hW rfl rfl (x_load fl4 rfl (hC29 2 _ rfl)) ?_
          refine wl_val hW rfl rfl (x_move rfl) ?_
          refine wl_bcases (d := 32) rfl (fun hg32 => ?_) (fun hg32 => ?_)
          · refine wl_val hW rfl rfl (x_load fl4 rfl (hB5.cell (o := 0) rfl)) ?_
            refine wl_val hW rfl rfl (x_pickT rfl rfl) ?_
            refine wl_val hW rfl rfl (x_not rfl) ?_
            refine wl_val hW rfl rfl (x_pickT rfl rfl) ?_
            refine wl_nil ?_
            exact nx_cut (by rw [show decide (newestN keep g < leftN keep bottom g) = !bottom from by rw [hls, show g[newestN keep g].g = true from hg32]; cases bottom <;> simp]; repeat (first | exact sub_nil | refine sub_cons rfl ?_)) rfl
          · refine wl_off hW rfl rfl ?_
            refine wl_val hW rfl rfl (x_pickF rfl rfl) ?_
            refine wl_val hW rfl rfl (x_not rfl) ?_
            refine wl_val hW rfl rfl (x_pickT rfl rfl) ?_
            refine wl_nil ?_
            exact nx_cut (by rw [show decide (newestN keep g < leftN keep bottom g) = true from by rw [hls, show g[newestN keep g].g = false from hg32]; simp]; repeat (first | exact sub_nil | refine sub_cons rfl ?_)) rfl
        · refine wl_off hW rfl rfl ?_
          refine wl_off hW rfl rfl ?_
          refine wl_off hW rfl rfl ?_
          refine wl_off hW rfl rfl ?_
          refine wl_off hW rfl rfl ?_
          refine wl_off hW rfl rfl ?_
          refine wl_off hW rfl rfl ?_
          refine wl_off hW rfl rfl ?_
          refine wl_off hW rfl rfl ?_
          refine wl_val hW rfl rfl (x_pickF rfl rfl) ?_
          refine wl_nil ?_
          exact nx_cut (by rw [show decide (newestN keep g < leftN keep bottom g) = false from by rw [leftN_none (by omega)]; simp]; repeat (first | exact sub_nil | refine sub_cons rfl ?_)) rfl
      · rintro w' rfl
        refine nx_then ?_
        refine wc_cut [(8, .pointer (some ⟨b8, 0, none⟩)), (9, .slice ga g.length gc), (10, .int .i64 (leftN keep bottom g))] (fun w'' => w'' = w') ?_ ?_
        · refine wc_bool rfl (fun hc => ?_) (fun hc => ?_)
          · replace hc := of_decide_eq_true hc
            refine wc_region ?_
            refine wl_val hW rfl rfl (x_move rfl) ?_
            refine wl_val hW rfl rfl (x_inc (s := newestN keep g) rfl (by omega)) ?_
            refine wl_val hW rfl rfl (x_assign rfl) ?_
            refine wl_nil ?_
            exact nx_cut (by rw [show leftN keep bottom g = newestN keep g + 1 from by omega]; repeat (first | exact sub_nil | refine sub_cons rfl ?_)) rfl
          · replace hc := of_decide_eq_false hc
            refine wc_skip ?_
            exact nx_cut (by rw [show leftN keep bottom g = newestN keep g from by omega]; repeat (first | exact sub_nil | refine sub_cons rfl ?_)) rfl
        · rintro w' rfl
          refine nx_then ?_
          refine wc_seq ?_
          refine wc_region ?_
          refine wl_val hW rfl rfl (x_move rfl) ?_
          refine wl_val hW rfl rfl (x_move rfl) ?_
          refine wl_val hW rfl rfl (x_sliceh Try.underlying26 ag25.siz rfl rfl (by omega)) ?_
          have hT := hGW.sliceh hnl.2.2
          generalize (if gc = 0 then ga else ga.map (·.add (0 * 4))) = ta at hT ⊢
          refine wl_val hW rfl rfl (x_len Try.underlying26 rfl) ?_
          refine wl_val hW rfl rfl (x_move rfl) ?_
          refine wl_nil ?_
          refine nx_then ?_
          refine wc_block ?_
          refine wc_loop (σ := Nat) (fun s => [(8, .pointer (some ⟨b8, 0, none⟩)), (41, .slice ta (leftN keep bottom g - 0) (gc - 0)), (42, .int .i64 ((leftN keep bottom g - 0 : Nat) : Int)), (43, .int .i64 s)]) (fun s w' => s ≤ leftN keep bottom g ∧ Col2 wG W b8 (fun k => wG.heap.size ≤ k) ov (pre.flatMap (fun x : Grp es => x.1.2.take (leftN keep bottom x.1.2)) ++ g.take s) w') (fun s => leftN keep bottom g - s) 0 ?_ ?_ ?_
          · exact ⟨Nat.zero_le _, ⟨ov, hB8, by rw [List.take_zero, List.append_nil]; exact hO.ext hE, fun b h => .inl h⟩, KeepR.of_ext hE⟩
          · repeat (first | exact sub_nil | refine sub_cons rfl ?_)
          · rintro s wr ⟨hs, ⟨ov', hB8, hO', hob⟩, hKr⟩
            replace hE : Ext wr wr := Keep.refl _ _
            have hTr := hT.ck (CK.of_keep hKr (fun k _ h => ⟨by have := hEG.size; omega, fun e => by have := (hO.lt _ e.symm).1; have := hEG.size; omega⟩))
            refine wc_seq ?_
            refine wc_region ?_
            refine wl_val hW rfl rfl (x_lss rfl rfl) ?_
            refine wl_nil ?_
            refine nx_then ?_
            refine wc_seq ?_
            refine wc_dec rfl (fun hc => ?_) (fun hc => ?_)
            · replace hc : ((s : Nat) : Int) < ((leftN keep bottom g - 0 : Nat) : Int) := hc
              refine wc_skip ?_
              refine nx_then ?_
              refine wc_seq ?_
              refine wc_block ?_
              refine wc_seq ?_
              refine wc_region ?_
              have hslt : s < (g.take (leftN keep bottom g)).length := by simp; omega
              obtain ⟨b, o, cap', bv, e1, hA, hC45, hb1, hok1⟩ := hTr.at s hslt
              injection e1 with e1 e1b e1c
              subst e1
              obtain ⟨av, cv, hbv, hcv⟩ := hb1.form
              subst hbv
              refine wl_val hW rfl rfl (x_indexAddr Try.underlying26 ag25.siz rfl rfl (by omega) (by omega)) ?_
              refine wl_val hW rfl rfl (x_loadA ag25 rfl hC45 rfl) ?_
              refine wl_alloc (cs := [.string ⟨#[]⟩, .int .u64 0, .bool false, .slice none 0 0]) hW rfl rfl Try.zeroValue25 rfl ?_
              intro b12 w12 hl12 hB12 hx12
              have g12 : wr.heap.size ≤ b12 := Nat.le_trans hE.size hl12
              have n12_8 : b12 ≠ b8 := Nat.ne_of_gt (Nat.lt_of_lt_of_le hB8.lt hl12)
              replace hB8 := hB8.ext hx12
              replace hE := hE.trans hx12
              refine wl_storeA hW rfl ag25 rfl rfl rfl rfl hB12 rfl ?_
              intro wS hBS hkS
              replace hB8 := hB8.keep hkS n12_8.symm
              replace hB12 := hBS
              clear hBS
              replace hE := hE.store hkS g12
              refine wl_nil ?_
              refine nx_then ?_
              refine wc_draw' 4 hW mixed (by kernel_rfl) (fun w0 hx0 => ?_)
              replace hB8 := hB8.ext hx0
              replace hB12 := hB12.ext hx0
              replace hE := hE.trans hx0
              refine q_val rfl rfl (fun _ hx => x_load fl26 rfl (hx.cell (hB8.cell (o := 0) rfl))) ?_
              refine q_val rfl rfl (fun _ hx => x_loadA ag25 rfl (hB12.ext hx).cells rfl) ?_
              have hsz := hE.size
              have hKs := hK.size
              have hKrs := hKr.size
              refine q_apart (e := (g.take (leftN keep bottom g))[s]) rfl rfl rfl rfl en62 (fun _ hx => (C62 ((hb1.ext hE).ext hx) hok1).inF hFF) ?_
              refine q_build1 rfl rfl (List.mem_cons_self ..) ?_
              refine q_nil (tail2 (fun wt v50 v49 hxt h50 h49 => ?_))
              replace hB8 := hB8.ext hxt
              replace hB12 := hB12.ext hxt
              replace hE := hE.trans hxt
              obtain ⟨b50, bv50, rfl, g50, hB50, hb50⟩ := h50
              have hsz2 := hE.size
              refine wl_append1 hW rfl rfl rfl rfl (hO'.ext hE) (by simp only [List.length_append, List.length_take]; omega) hB50 (hb50.mono (fun k _ h => ⟨by omega, fun e => by have := hO'.lt _ e.symm; omega⟩)) hok1 (by omega) ?_
              intro v51 wA hO2 hkA hcA
              have hB8A := hB8.keep hkA (fun e => (hO'.ext hE).ne hB8 (by decide) _ e.symm rfl)
              refine wl_store hW rfl fl26 rfl rfl hO2.one hB8A rfl ?_
              intro wS hBS hkS
              refine wl_nil ?_
              refine nx_block ?_
              refine nx_then ?_
              refine wc_region ?_
              refine wl_val hW rfl rfl (x_inc (s := s) rfl (by omega)) ?_
              refine wl_val hW rfl rfl (x_move rfl) ?_
              refine wl_nil ?_
              exact nx_next (s + 1) (by omega) ⟨by omega, ⟨_, hBS, by rw [take_snoc hslt, ← List.append_assoc]; exact hO2.keep hkS (hO2.ne hB8A (by decide)) (fun k _ h => by omega), fun b hb => by rcases hcA with h | ⟨b', h, h'⟩; rw [h] at hb; exact hob b hb; rw [h] at hb; cases hb; right; omega⟩, ((hKr.trans (KeepR.of_ext hE)).then hkA (fun k hk h e => by rcases hob k e.symm with h' | h'; exact h.2 h'.symm; omega)).then hkS (fun k _ h => h.1)⟩ (by repeat (first | exact sub_nil | refine sub_cons rfl ?_))
            · replace hc : ¬ ((s : Nat) : Int) < ((leftN keep bottom g - 0 : Nat) : Int) := hc
              refine wc_exit ?_
              refine nx_then_exit ?_
              refine nx_then_exit ?_
              refine nx_block_exit ?_
              refine nx_block ?_
              exact round_coll (fun _ h => h) hBo ⟨_, hO⟩ hK hKr ⟨_, hB8, by rw [hcx]; rw [show s = leftN keep bottom g from by omega] at hO'; exact hO'⟩
    · intro B xs W hBB hs hi hk
      -- done
      obtain ⟨⟨ov, hBo, hO⟩, hK⟩ := hi
      replace hB8 := hBo
      refine nx_block ?_
      refine nx_then ?_
      refine wc_seq ?_
      refine wc_region ?_
      refine wl_val hW rfl rfl (x_load fl26 rfl (hB8.cell (o := 0) rfl)) ?_
      refine wl_val hW rfl rfl (x_assign rfl) ?_
      refine wl_val hW rfl rfl (x_assign rfl) ?_
      refine wl_nil ?_
      refine nx_then ?_
      refine wc_ret ?_
      obtain ⟨hdr, hde⟩ := coll_done hEG g8 hK hO hBB hk (es := leftL keep bottom es) (by unfold leftL; rw [← hs, List.flatMap_map]) (by have := leftL_le keep bottom es; omega)
      exact ends_ret_mark hk (res_tmp2 Try.results25 rfl rfl) ⟨⟨_, by rw [hrt]; rfl, by rw [hrt]; exact hdr⟩, hde⟩
    · exact fun B c pre W _ _ h _ => h.elim
end Go.Proofs.Ytblbddamebbgaaa.K


/- Bytes and strings converted; what the document's functions tell, plain. -/
namespace Go.Proofs.Ytblbddamebbgaaa.K
open Go Go.RowKit
set_option linter.unusedVariables false
set_option linter.unusedSectionVars false
set_option linter.unusedSimpArgs false

section
variable {m : Nat} {D : List Deferred} {L : Env} {w : World} {ty : TypeId} {x : Operand} {v : Value} {A : Nat → Prop} {l : List UInt8}
theorem run_convB (h : Byts A w v l) : (convert 23 9 v).run Try.prog w = .ok (.string ⟨l.toArray⟩) w := by
  obtain ⟨ad, cap, rfl, hcap, hc⟩ := h
  cases ad with
  | none =>
    have hl0 : l = [] := by
      cases l with
      | nil => rfl
      | cons u l => obtain ⟨b, o, h, -⟩ := hc (by simp); cases h
    subst hl0
    exact run_convert_bytes_nil (P := Try.prog) (w := w) 23 5 Try.underlying23 Try.underlying5 _ _ 9 Try.underlying9
  | some a =>
    refine run_convert_bytes_back (P := Try.prog) w 23 9 5 a cap l Try.underlying23 Try.underlying5 Try.underlying9 (fun j hj => ?_)
    obtain ⟨b, o, h, -, hcell⟩ := hc (by rintro rfl; simp at hj)
    cases h
    rw [add_mk]
    exact hcell j _ (List.getElem?_eq_getElem hj)
theorem x_convB (hx : ev L x = some v) (h : Byts A w v l) : Xv Try.prog m D L (.convert 23 9 x) ty w (.string ⟨l.toArray⟩) w :=
  ⟨nofun, fun _ _ _ _ a ha => by simp [execOp, ha.ev hx, run_convB h]⟩
end
theorem toList_mk (l : List UInt8) : (ByteArray.mk l.toArray).toList = l := by
  have h : ∀ (b : ByteArray), b.toList = b.data.toList := fun b => by simp [ByteArray.toList_eq]
  rw [h]

def sameB (a b : Ent) : Bool := a.k.toList == b.k.toList && (decide (a.s = b.s) && ((a.g == b.g) && ((ByteArray.mk a.v.toArray).toList == (ByteArray.mk b.v.toArray).toList)))
theorem sameB_iff {a b : Ent} : sameB a b = true ↔ a = b := by
  constructor
  · intro h
    simp only [sameB, Bool.and_eq_true, beq_iff_eq, decide_eq_true_eq, toList_mk] at h
    obtain ⟨ak, as_, ag, av⟩ := a
    obtain ⟨bk, bs, bg, bv⟩ := b
    obtain ⟨h1, h2, h3, h4⟩ := h
    simp only at h1 h2 h3 h4
    rw [ba_ext h1, h2, h3, h4]
  · rintro rfl; simp [sameB]

theorem cmpE_1 {a b : Ent} (h : Op.bytesLess a.k.toList b.k.toList = true) : cmpE a b = -1 := by unfold cmpE; rw [cmpS_1 h]; rfl
theorem cmpE_2 {a b : Ent} (h1 : Op.bytesLess a.k.toList b.k.toList = false) (h : (!(Op.bytesLess a.k.toList b.k.toList || a.k.toList == b.k.toList)) = true) : cmpE a b = 1 := by unfold cmpE; rw [cmpS_2 h1 h]; rfl
theorem cmpE_3 {a b : Ent} (h1 : Op.bytesLess a.k.toList b.k.toList = false) (h : (!(Op.bytesLess a.k.toList b.k.toList || a.k.toList == b.k.toList)) = false) : cmpE a b = cmpI b.s a.s := by unfold cmpE; rw [cmpS_3 h1 h]; rfl
/-- Is something wrong with element s? -/
def badB (es : List Ent) (s : Nat) : Bool := !okB (es.getD s z0) || (decide (0 < s) && decide (0 ≤ cmpE (es.getD (s - 1) z0) (es.getD s z0)))
theorem getD_eq {es : List Ent} {s : Nat} (h : s < es.length) : es.getD s z0 = es[s] := by rw [List.getD_eq_getElem?_getD, List.getElem?_eq_getElem h]; rfl
theorem badB_true {es : List Ent} {s : Nat} (hs : s < es.length) (h : badB es s = true) : rightB es = false := by
  cases hr : rightB es with
  | false => rfl
  | true =>
    obtain ⟨h1, h2⟩ := rightB_iff.1 hr
    have h3 := adj_of_sorted h2
    unfold badB at h
    rw [Bool.or_eq_true] at h
    rcases h with h | h
    · rw [getD_eq hs, okB_iff.2 (h1 _ (List.getElem_mem hs))] at h; cases h
    · rw [Bool.and_eq_true, decide_eq_true_eq, decide_eq_true_eq] at h
      obtain ⟨t, rfl⟩ : ∃ t, s = t + 1 := ⟨s - 1, by omega⟩
      rw [getD_eq hs, Nat.add_sub_cancel, getD_eq (by omega)] at h
      have := cmpE_neg.2 (h3 t hs)
      omega
theorem badB_false {es : List Ent} (h : ∀ s, s < es.length → badB es s = false) : rightB es = true := by
  have h0 : ∀ s, s < es.length → okB (es.getD s z0) = true ∧ (0 < s → cmpE (es.getD (s - 1) z0) (es.getD s z0) < 0) := fun s hs => by
    have := h s hs
    unfold badB at this
    rw [Bool.or_eq_false_iff] at this
    refine ⟨by simpa using this.1, fun hs => ?_⟩
    have h2 := this.2
    rw [decide_eq_true hs, Bool.true_and, decide_eq_false_iff_not] at h2
    omega
  refine rightB_iff.2 ⟨fun e he => ?_, sorted_of_adj _ fun i hi => ?_⟩
  · obtain ⟨i, hi, rfl⟩ := List.getElem_of_mem he
    have := (h0 i hi).1
    rw [getD_eq hi] at this
    exact okB_iff.1 this
  · have := (h0 (i + 1) hi).2 (by omega)
    rw [getD_eq hi, Nat.add_sub_cancel, getD_eq (by omega)] at this
    exact cmpE_neg.1 this

theorem badB_1 {es : List Ent} {s : Nat} (hs : s < es.length) (h : okB es[s] = false) : badB es s = true := by unfold badB; rw [getD_eq hs, h]; rfl
theorem badB_2 {es : List Ent} {s : Nat} (hs : s < es.length) (h : okB es[s] = true) (hp : 0 < s) : badB es s = decide (0 ≤ cmpE es[s - 1] es[s]) := by unfold badB; rw [getD_eq hs, getD_eq (show s - 1 < es.length by omega), h, decide_eq_true hp]; simp
theorem badB_3 {es : List Ent} {s : Nat} (hs : s < es.length) (h : okB es[s] = true) (hp : ¬ 0 < s) : badB es s = false := by unfold badB; rw [getD_eq hs, h, decide_eq_false hp]; rfl
theorem okB_1 {e : Ent} (h1 : e.g = true) (h2 : (0 : Int) < (e.v.length : Int)) : okB e = false := by unfold okB; rw [h1, decide_eq_true h2]; rfl
theorem okB_2 {e : Ent} (h2 : ¬ (0 : Int) < (e.v.length : Int)) : okB e = true := by unfold okB; rw [decide_eq_false h2, Bool.and_false]; rfl
theorem okB_3 {e : Ent} (h1 : e.g = false) : okB e = true := by unfold okB; rw [h1]; rfl

def freshB (pk : Option ByteArray) (e : Ent) : Bool := match pk with
  | some k => !(e.k.toList == k.toList)
  | none => false
def doneB (pk : Option ByteArray) (d : Bool) (e : Ent) : Bool := if freshB pk e then false else d
def rSeen (up : Int) : Option ByteArray → Bool → List Ent → List Ent
  | _, _, [] => []
  | pk, d, e :: es => if doneB pk d e || decide (up < e.s) then rSeen up (some e.k) (doneB pk d e) es else (if e.g then [] else [e]) ++ rSeen up (some e.k) true es
def rLeft (keep : Int) (bottom : Bool) : Option ByteArray → Bool → List Ent → List Ent
  | _, _, [] => []
  | pk, d, e :: es => if keep < e.s then e :: rLeft keep bottom (some e.k) (doneB pk d e) es else (if !doneB pk d e && !(e.g && bottom) then [e] else []) ++ rLeft keep bottom (some e.k) true es
theorem doneB_same {k : ByteArray} {d : Bool} {e : Ent} (h : e.k = k) : doneB (some k) d e = d := by simp [doneB, freshB, h]
theorem doneB_new {k : ByteArray} {d : Bool} {e : Ent} (h : e.k ≠ k) : doneB (some k) d e = false := by
  have : (e.k.toList == k.toList) = false := by
    cases hb : e.k.toList == k.toList with
    | false => rfl
    | true => exact absurd (ba_ext (by simpa using hb)) h
  simp [doneB, freshB, this]
theorem rSeen_done (up : Int) (k : ByteArray) (rest : List Ent) : ∀ g : List Ent, (∀ e ∈ g, e.k = k) → rSeen up (some k) true (g ++ rest) = rSeen up (some k) true rest
  | [], _ => rfl
  | e :: g, h => by
    have hk := h e (by simp)
    simp only [List.cons_append, rSeen, doneB_same hk, Bool.true_or, if_true]
    rw [hk]; exact rSeen_done up k rest g fun x hx => h x (by simp [hx])
theorem rSeen_grp (up : Int) (k : ByteArray) (rest : List Ent) : ∀ g : List Ent, (∀ e ∈ g, e.k = k) → rSeen up (some k) false (g ++ rest) = seenG up g ++ rSeen up (some k) (decide (newestN up g < g.length)) rest
  | [], _ => by simp [seenG, newestN]
  | e :: g, h => by
    have hk := h e (by simp)
    have hg : ∀ x ∈ g, x.k = k := fun x hx => h x (by simp [hx])
    simp only [List.cons_append, rSeen, doneB_same hk, Bool.false_or]
    by_cases hs : e.s ≤ up
    · have h0 : newestN up (e :: g) = 0 := by simp [newestN, hs]
      rw [if_neg (by simpa using hs), hk, rSeen_done up k rest g hg]
      simp only [seenG, h0, List.getElem?_cons_zero, List.length_cons]
      cases e.g <;> simp
    · have h1 : newestN up (e :: g) = newestN up g + 1 := by simp [newestN, hs]
      rw [if_pos (by simp; omega), hk, rSeen_grp up k rest g hg]
      simp only [seenG, h1, List.getElem?_cons_succ, List.length_cons]
      congr 2
      simp
theorem rSeen_fresh (up : Int) (k : ByteArray) (d : Bool) : ∀ rest : List Ent, (∀ e, rest.head? = some e → e.k ≠ k) → rSeen up (some k) d rest = rSeen up none false rest
  | [], _ => rfl
  | e :: rest, h => by
    have := h e rfl
    simp only [rSeen, doneB_new this]
    rfl
theorem rSeen_start (up : Int) (e : Ent) (tl : List Ent) : rSeen up none false (e :: tl) = rSeen up (some e.k) false (e :: tl) := by
  simp only [rSeen, doneB_same rfl]; rfl
theorem head_drop {p : Ent → Bool} {e : Ent} : ∀ l : List Ent, (l.dropWhile p).head? = some e → p e = false
  | [], h => by simp at h
  | x :: l, h => by
    by_cases hp : p x = true
    · simp [hp] at h; exact head_drop l (by simpa using h)
    · simp [hp] at h; subst h; simpa using hp
theorem grps_all {k : ByteArray} {l : List Ent} : ∀ e ∈ l.takeWhile (fun x => decide (x.k = k)), e.k = k := fun e he => by
  induction l with
  | nil => simp at he
  | cons x l ih =>
    simp only [List.takeWhile_cons] at he
    split at he
    · rename_i hx
      rcases List.mem_cons.1 he with rfl | he
      · simpa using hx
      · exact ih he
    · simp at he
theorem rSeen_eq (up : Int) : ∀ (f o : Nat) (es : List Ent), es.length ≤ f → rSeen up none false es = (grps f o es).flatMap fun x => seenG up x.2
  | _, _, [], _ => by rename_i f o _; cases f <;> rfl
  | 0, _, e :: es, h => by simp at h
  | f + 1, o, e :: es, h => by
    have happ := List.takeWhile_append_dropWhile (p := fun x : Ent => decide (x.k = e.k)) (l := es)
    have hl : (es.dropWhile fun x => decide (x.k = e.k)).length ≤ f := by
      have := congrArg List.length happ
      simp only [List.length_append, List.length_cons] at this h
      omega
    have hall : ∀ x ∈ e :: es.takeWhile (fun x => decide (x.k = e.k)), x.k = e.k := fun x hx => by
      rcases List.mem_cons.1 hx with rfl | hx
      · rfl
      · exact grps_all x hx
    rw [rSeen_start]
    conv => lhs; rw [← happ, ← List.cons_append]
    rw [rSeen_grp up e.k _ _ hall, rSeen_fresh up e.k _ _ (fun x hx => by simpa using head_drop es hx), rSeen_eq up f _ _ hl]
    rfl
theorem rSeen_is (up : Int) (es : List Ent) : rSeen up none false es = seenL up es := rSeen_eq up _ 0 es (Nat.le_refl _)

/-- Numbers fall. -/
def Fall (g : List Ent) : Prop := g.Pairwise fun a b => b.s < a.s
theorem rLeft_done (keep : Int) (bottom : Bool) (k : ByteArray) (rest : List Ent) : ∀ g : List Ent, (∀ e ∈ g, e.k = k) → (∀ e ∈ g, e.s ≤ keep) → rLeft keep bottom (some k) true (g ++ rest) = rLeft keep bottom (some k) true rest
  | [], _, _ => rfl
  | e :: g, h, hs => by
    have hk := h e (by simp)
    have h1 := hs e (by simp)
    simp only [List.cons_append, rLeft, doneB_same hk]
    rw [if_neg (by omega), hk]
    simp only [Bool.not_true, Bool.false_and, Bool.false_eq_true, if_false, List.nil_append]
    exact rLeft_done keep bottom k rest g (fun x hx => h x (by simp [hx])) (fun x hx => hs x (by simp [hx]))
theorem rLeft_grp (keep : Int) (bottom : Bool) (k : ByteArray) (rest : List Ent) : ∀ g : List Ent, (∀ e ∈ g, e.k = k) → Fall g → ∃ d, rLeft keep bottom (some k) false (g ++ rest) = g.take (leftN keep bottom g) ++ rLeft keep bottom (some k) d rest
  | [], _, _ => ⟨false, by simp⟩
  | e :: g, h, hf => by
    have hk := h e (by simp)
    have hg : ∀ x ∈ g, x.k = k := fun x hx => h x (by simp [hx])
    have hf1 := (List.pairwise_cons.1 hf).1
    have hf2 := (List.pairwise_cons.1 hf).2
    by_cases hs : e.s ≤ keep
    · have h0 : newestN keep (e :: g) = 0 := by simp [newestN, hs]
      refine ⟨true, ?_⟩
      simp only [List.cons_append, rLeft, doneB_same hk]
      rw [if_neg (by omega), hk, rLeft_done keep bottom k rest g hg (fun x hx => by have := hf1 x hx; omega)]
      simp only [leftN, h0, List.getElem?_cons_zero]
      cases e.g <;> cases bottom <;> simp
    · have h1 : newestN keep (e :: g) = newestN keep g + 1 := by simp [newestN, hs]
      have h2 : leftN keep bottom (e :: g) = leftN keep bottom g + 1 := by
        simp only [leftN, h1, List.getElem?_cons_succ]
        split
        · split <;> rfl
        · rfl
      obtain ⟨d, hd⟩ := rLeft_grp keep bottom k rest g hg hf2
      refine ⟨d, ?_⟩
      simp only [List.cons_append, rLeft, doneB_same hk]
      rw [if_pos (by omega), hk, hd, h2]
      rfl
theorem rLeft_fresh (keep : Int) (bottom : Bool) (k : ByteArray) (d : Bool) : ∀ rest : List Ent, (∀ e, rest.head? = some e → e.k ≠ k) → rLeft keep bottom (some k) d rest = rLeft keep bottom none false rest
  | [], _ => rfl
  | e :: rest, h => by
    have := h e rfl
    simp only [rLeft, doneB_new this]
    rfl
theorem rLeft_start (keep : Int) (bottom : Bool) (e : Ent) (tl : List Ent) : rLeft keep bottom none false (e :: tl) = rLeft keep bottom (some e.k) false (e :: tl) := by
  simp only [rLeft, doneB_same rfl]; rfl
theorem fall_of {k : ByteArray} {g : List Ent} (h : ∀ e ∈ g, e.k = k) (hs : Sorted g) : Fall g := by
  refine List.Pairwise.imp_of_mem (fun {a b} ha hb h' => ?_) hs
  rcases h' with h' | ⟨-, h'⟩
  · rw [h a ha, h b hb, bl_irrefl] at h'; cases h'
  · exact h'
theorem rLeft_eq (keep : Int) (bottom : Bool) : ∀ (f o : Nat) (es : List Ent), es.length ≤ f → Sorted es → rLeft keep bottom none false es = (grps f o es).flatMap fun x => x.2.take (leftN keep bottom x.2)
  | _, _, [], _, _ => by rename_i f o _ _; cases f <;> rfl
  | 0, _, e :: es, h, _ => by simp at h
  | f + 1, o, e :: es, h, hso => by
    have happ := List.takeWhile_append_dropWhile (p := fun x : Ent => decide (x.k = e.k)) (l := es)
    have hl : (es.dropWhile fun x => decide (x.k = e.k)).length ≤ f := by
      have := congrArg List.length happ
      simp only [List.length_append, List.length_cons] at this h
      omega
    have hall : ∀ x ∈ e :: es.takeWhile (fun x => decide (x.k = e.k)), x.k = e.k := fun x hx => by
      rcases List.mem_cons.1 hx with rfl | hx
      · rfl
      · exact grps_all x hx
    have hso2 : Sorted ((e :: es.takeWhile fun x => decide (x.k = e.k)) ++ es.dropWhile fun x => decide (x.k = e.k)) := by rw [List.cons_append, happ]; exact hso
    obtain ⟨hs1, hs2, -⟩ := List.pairwise_append.1 hso2
    rw [rLeft_start]
    conv => lhs; rw [← happ, ← List.cons_append]
    obtain ⟨d, hd⟩ := rLeft_grp keep bottom e.k (es.dropWhile fun x => decide (x.k = e.k)) _ hall (fall_of hall hs1)
    rw [hd, rLeft_fresh keep bottom e.k _ _ (fun x hx => by simpa using head_drop es hx), rLeft_eq keep bottom f (o + 1 + (es.takeWhile fun x => decide (x.k = e.k)).length) _ hl hs2]
    rfl
theorem rLeft_is (keep : Int) (bottom : Bool) (es : List Ent) (h : Sorted es) : rLeft keep bottom none false es = leftL keep bottom es := rLeft_eq keep bottom _ 0 es (Nat.le_refl _) h

def pkOf (es : List Ent) (s : Nat) : Option ByteArray := if s = 0 then none else some (es.getD (s - 1) z0).k
theorem pkOf_succ {es : List Ent} {s : Nat} (h : s < es.length) : pkOf es (s + 1) = some es[s].k := by unfold pkOf; rw [if_neg (by omega), Nat.add_sub_cancel, getD_eq h]
theorem fresh_pos {es : List Ent} {s : Nat} {e : Ent} (h0 : 0 < s) (h : s - 1 < es.length) : freshB (pkOf es s) e = !(e.k.toList == es[s - 1].k.toList) := by unfold pkOf; rw [if_neg (by omega), getD_eq h]; rfl
theorem fresh_zero {es : List Ent} {s : Nat} {e : Ent} (h0 : ¬ 0 < s) : freshB (pkOf es s) e = false := by unfold pkOf; rw [if_pos (by omega)]; rfl
theorem doneB_fresh {pk : Option ByteArray} {d : Bool} {e : Ent} (h : freshB pk e = true) : doneB pk d e = false := by unfold doneB; rw [h]; rfl
theorem doneB_stale {pk : Option ByteArray} {d : Bool} {e : Ent} (h : freshB pk e = false) : doneB pk d e = d := by unfold doneB; rw [h]; rfl
theorem drop_at {es : List Ent} {s : Nat} (h : s < es.length) : es.drop s = es[s] :: es.drop (s + 1) := List.drop_eq_getElem_cons h
theorem rSeen_skip {up : Int} {pk : Option ByteArray} {d : Bool} {e : Ent} {es : List Ent} (h : (doneB pk d e || decide (up < e.s)) = true) : rSeen up pk d (e :: es) = rSeen up (some e.k) (doneB pk d e) es := by simp only [rSeen, h, if_true]
theorem rSeen_take {up : Int} {pk : Option ByteArray} {d : Bool} {e : Ent} {es : List Ent} (h : (doneB pk d e || decide (up < e.s)) = false) : rSeen up pk d (e :: es) = (if e.g then [] else [e]) ++ rSeen up (some e.k) true es := by simp [rSeen, h]
/-- What is collected in ov, and what is still to come. -/
def OutIs (w w' : World) (ov : Value) (n : Nat) (rest all : List Ent) : Prop := ∃ coll, OwnE (fun k => k < w.heap.size) w.heap.size w' ov coll ∧ coll.length ≤ n ∧ coll ++ rest = all
theorem OutIs.row {w w' : World} {ov : Value} {n : Nat} {all : List Ent} (h : OutIs w w' ov n [] all) (hn : n ≤ 1099511627776) : Row (fun _ => True) w' ov all := by
  obtain ⟨coll, h1, h2, h3⟩ := h
  rw [List.append_nil] at h3
  subst h3
  exact (h1.row (by omega)).mono fun _ _ _ => trivial
end Go.Proofs.Ytblbddamebbgaaa.K

/- Walks: the document's own functions on entries, and the laws' helpers. -/
namespace Go.Proofs.Ytblbddamebbgaaa.K
open Go Go.RowKit
set_option linter.unusedVariables false
set_option linter.unusedSimpArgs false

theorem C17 {A : Nat → Prop} {w : World} {v : Value} {es : List Ent} {m : Int} (hR : Row A w v es) : Rt Try.prog 17 [v, .int .i64 m] w fun r w' => (∃ b, r = .bool b ∧ (b = true → (es.length : Int) ≤ m)) ∧ Ext w w' := by
  obtain ⟨ad, cap, rfl, hcap, hlen⟩ := hR.form
  have hW := hWw
  have hFF := hFw
  have hE : Ext w w := Keep.refl _ _
  refine rt_body Try.func17 rfl Try.ntmps17 rfl ?_
  refine wc_seq ?_
  refine wc_region ?_
  refine wl_val hW rfl rfl (x_assign rfl) ?_
  refine wl_nil ?_
  refine nx_then ?_
  refine wc_seq ?_
  refine wc_region ?_
  refine wl_val hW rfl rfl (x_assign rfl) ?_
  refine wl_nil ?_
  refine nx_then ?_
  refine wc_seq ?_
  refine wc_seq ?_
  refine wc_region ?_
  refine wl_val hW rfl rfl (x_assign rfl) ?_
  refine wl_nil ?_
  refine nx_then ?_
  refine wc_block ?_
  refine wc_loop (σ := Nat × Nat) (fun s => [(0, .slice ad es.length cap), (1, .int .i64 m), (5, .int .i64 s.2), (6, .int .i64 s.1)]) (fun s w' => (s.1 ≤ es.length ∧ s.2 ≤ s.1 * 2097152) ∧ Ext w w') (fun s => es.length - s.1) (0, 0) ?_ ?_ ?_
  · exact ⟨⟨Nat.zero_le _, Nat.zero_le _⟩, hE⟩
  · repeat (first | exact sub_nil | refine sub_cons rfl ?_)
  · rintro ⟨s, t⟩ wr ⟨hs, hE⟩
    dsimp only at hs
    refine wc_seq ?_
    refine wc_seq ?_
    refine wc_region ?_
    refine wl_val hW rfl rfl (x_move rfl) ?_
    refine wl_val hW rfl rfl (x_move rfl) ?_
    refine wl_val hW rfl rfl (x_len Try.underlying26 rfl) ?_
    refine wl_val hW rfl rfl (x_lss rfl rfl) ?_
    refine wl_nil ?_
    refine nx_then ?_
    refine wc_dec rfl (fun hc => ?_) (fun hc => ?_)
    · replace hc : ((s : Nat) : Int) < es.length := hc
      refine wc_skip ?_
      refine nx_then ?_
      refine wc_seq ?_
      refine wc_block ?_
      refine wc_draw' 15 hW mixed (by kernel_rfl) (fun w0 hx0 => ?_)
      replace hE := hE.trans hx0
      have hlt : s < es.length := by omega
      obtain ⟨b, o, cap', bv, e1, hA, hC16, hb1, hok1⟩ := (hR.ext hE).at s hlt
      cases e1
      obtain ⟨av, cv, hbv, hcv⟩ := hb1.form
      subst hbv
      have hC23 := hC16
      have hok2 := hok1.k
      have hok3 := hok1.v
      refine q_val rfl rfl (fun _ hx => x_move rfl) ?_
      refine q_val rfl rfl (fun _ hx => x_move rfl) ?_
      refine q_val rfl rfl (fun _ hx => x_move rfl) ?_
      refine q_val rfl rfl (fun _ hx => x_indexAddr Try.underlying26 ag25.siz rfl rfl (by omega) (by omega)) ?_
      refine q_val rfl rfl (fun _ hx => x_fieldAddr Try.underlying25 rfl fl9.siz rfl) ?_
      refine q_val rfl rfl (fun _ hx => x_load fl9 rfl (hx.cell (hC16 0 _ rfl))) ?_
      refine q_val rfl rfl (fun _ hx => x_lens Try.underlying9 rfl) ?_
      refine q_val rfl rfl (fun _ hx => x_addn (i := t) (j := es[s].k.size) rfl rfl (by omega)) ?_
      refine q_val rfl rfl (fun _ hx => x_move rfl) ?_
      refine q_val rfl rfl (fun _ hx => x_move rfl) ?_
      refine q_val rfl rfl (fun _ hx => x_indexAddr Try.underlying26 ag25.siz rfl rfl (by omega) (by omega)) ?_
      refine q_val rfl rfl (fun _ hx => x_fieldAddr Try.underlying25 rfl fl23.siz rfl) ?_
      refine q_val rfl rfl (fun _ hx => x_load fl23 rfl (hx.cell (hC23 3 _ rfl))) ?_
      refine q_val rfl rfl (fun _ hx => x_len Try.underlying23 rfl) ?_
      refine q_val rfl rfl (fun _ hx => x_addn (i := t + es[s].k.size) (j := es[s].v.length) rfl rfl (by omega)) ?_
      refine q_nil (tail0 (fun wt hxt => ?_))
      replace hE := hE.trans hxt
      refine wl_val hW rfl rfl (x_assign rfl) ?_
      refine wl_nil ?_
      refine nx_block ?_
      refine nx_then ?_
      refine wc_region ?_
      refine wl_val hW rfl rfl (x_move rfl) ?_
      refine wl_val hW rfl rfl (x_inc (s := s) rfl (by omega)) ?_
      refine wl_val hW rfl rfl (x_assign rfl) ?_
      refine wl_nil ?_
      exact nx_next (s + 1, t + es[s].k.size + es[s].v.length) (by dsimp only; omega) ⟨⟨by dsimp only; omega, by dsimp only; omega⟩, hE⟩ (by repeat (first | exact sub_nil | refine sub_cons rfl ?_))
    · refine wc_exit ?_
      refine nx_then_exit ?_
      refine nx_then_exit ?_
      refine nx_block_exit ?_
      refine nx_then ?_
      refine wc_seq ?_
      refine wc_cut [(4, .bool (decide ((es.length : Int) ≤ m) && decide ((t : Int) ≤ 131072)))] (fun w' => w' = wr) ?_ ?_
      · refine wc_region ?_
        refine wl_val hW rfl rfl (x_move rfl) ?_
        refine wl_val hW rfl rfl (x_len Try.underlying26 rfl) ?_
        refine wl_val hW rfl rfl (x_move rfl) ?_
        refine wl_val hW rfl rfl (x_leq rfl rfl) ?_
        refine wl_val hW rfl rfl (x_move rfl) ?_
        refine wl_dcases (d := 32) rfl (fun hg32 => ?_) (fun hg32 => ?_)
        · refine wl_val hW rfl rfl (x_move rfl) ?_
          refine wl_val hW rfl rfl (x_leq rfl rfl) ?_
          refine wl_val hW rfl rfl (x_pickT rfl rfl) ?_
          refine wl_val hW rfl rfl (x_assign rfl) ?_
          refine wl_nil ?_
          exact nx_cut (by rw [decide_eq_true hg32, Bool.true_and]; repeat (first | exact sub_nil | refine sub_cons rfl ?_)) rfl
        · refine wl_off hW rfl rfl ?_
          refine wl_off hW rfl rfl ?_
          refine wl_val hW rfl rfl (x_pickF rfl rfl) ?_
          refine wl_val hW rfl rfl (x_assign rfl) ?_
          refine wl_nil ?_
          exact nx_cut (by rw [decide_eq_false hg32, Bool.false_and]; repeat (first | exact sub_nil | refine sub_cons rfl ?_)) rfl
      · rintro w' rfl
        refine nx_then ?_
        refine wc_ret ?_
        exact ends_ret (res_tmp Try.results17 rfl) ⟨⟨_, rfl, fun h => by simp only [Bool.and_eq_true, decide_eq_true_eq] at h; exact h.1⟩, hE⟩
theorem C19 {w : World} {av bv : Value} {a b : Ent} : Rt Try.prog 19 [.agg (cellsOf a av).toArray, .agg (cellsOf b bv).toArray] w fun r w' => r = .int .i64 (cmpE a b) ∧ Ext w w' := by
  have hW := hWw
  have hFF := hFw
  have hE : Ext w w := Keep.refl _ _
  refine rt_body Try.func19 rfl Try.ntmps19 rfl ?_
  refine wc_seq ?_
  refine wc_region ?_
  refine wl_box hW rfl rfl rfl rfl ?_
  intro b2 w2 hl2 hB2 hx2
  have g2 : w.heap.size ≤ b2 := Nat.le_trans hE.size hl2
  replace hE := hE.trans hx2
  refine wl_box hW rfl rfl rfl rfl ?_
  intro b3 w3 hl3 hB3 hx3
  have g3 : w.heap.size ≤ b3 := Nat.le_trans hE.size hl3
  have n3_2 : b3 ≠ b2 := Nat.ne_of_gt (Nat.lt_of_lt_of_le hB2.lt hl3)
  replace hB2 := hB2.ext hx3
  replace hE := hE.trans hx3
  refine wl_val hW rfl rfl (x_assign rfl) ?_
  refine wl_nil ?_
  refine nx_then ?_
  refine wc_seq ?_
  refine wc_seq ?_
  refine wc_region ?_
  refine wl_val hW rfl rfl (x_fieldAddr Try.underlying25 rfl fl9.siz rfl) ?_
  refine wl_val hW rfl rfl (x_load fl9 rfl (hB2.cell (o := 0) rfl)) ?_
  refine wl_val hW rfl rfl (x_fieldAddr Try.underlying25 rfl fl9.siz rfl) ?_
  refine wl_val hW rfl rfl (x_load fl9 rfl (hB3.cell (o := 0) rfl)) ?_
  refine wl_val hW rfl rfl (x_slss rfl rfl) ?_
  refine wl_nil ?_
  refine nx_then ?_
  refine wc_bool rfl (fun hc => ?_) (fun hc => ?_)
  · refine wc_seq ?_
    refine wc_region ?_
    refine wl_val hW rfl rfl (x_assign rfl) ?_
    refine wl_nil ?_
    refine nx_then ?_
    refine wc_ret ?_
    refine nx_then_ret ?_
    exact ends_ret (res_tmp Try.results19 rfl) ⟨by rw [cmpE_1 hc], hE⟩
  · have hc1 := hc
    refine wc_skip ?_
    refine nx_then ?_
    refine wc_seq ?_
    refine wc_seq ?_
    refine wc_region ?_
    refine wl_val hW rfl rfl (x_fieldAddr Try.underlying25 rfl fl9.siz rfl) ?_
    refine wl_val hW rfl rfl (x_load fl9 rfl (hB2.cell (o := 0) rfl)) ?_
    refine wl_val hW rfl rfl (x_fieldAddr Try.underlying25 rfl fl9.siz rfl) ?_
    refine wl_val hW rfl rfl (x_load fl9 rfl (hB3.cell (o := 0) rfl)) ?_
    refine wl_val hW rfl rfl (x_sgtr rfl rfl) ?_
    refine wl_nil ?_
    refine nx_then ?_
    refine wc_bool rfl (fun hc => ?_) (fun hc => ?_)
    · refine wc_seq ?_
      refine wc_region ?_
      refine wl_val hW rfl rfl (x_assign rfl) ?_
      refine wl_nil ?_
      refine nx_then ?_
      refine wc_ret ?_
      refine nx_then_ret ?_
      exact ends_ret (res_tmp Try.results19 rfl) ⟨by rw [cmpE_2 hc1 hc], hE⟩
    · have hc2 := hc
      refine wc_skip ?_
      refine nx_then ?_
      refine wc_seq ?_
      refine wc_seq ?_
      refine wc_region ?_
      refine wl_val hW rfl rfl (x_fieldAddr Try.underlying25 rfl fl22.siz rfl) ?_
      refine wl_val hW rfl rfl (x_load fl22 rfl (hB2.cell (o := 1) rfl)) ?_
      refine wl_val hW rfl rfl (x_fieldAddr Try.underlying25 rfl fl22.siz rfl) ?_
      refine wl_val hW rfl rfl (x_load fl22 rfl (hB3.cell (o := 1) rfl)) ?_
      refine wl_val hW rfl rfl (x_gtr rfl rfl) ?_
      refine wl_nil ?_
      refine nx_then ?_
      refine wc_dec rfl (fun hc => ?_) (fun hc => ?_)
      · refine wc_seq ?_
        refine wc_region ?_
        refine wl_val hW rfl rfl (x_assign rfl) ?_
        refine wl_nil ?_
        refine nx_then ?_
        refine wc_ret ?_
        refine nx_then_ret ?_
        exact ends_ret (res_tmp Try.results19 rfl) ⟨by rw [cmpE_3 hc1 hc2]; unfold cmpI; rw [if_pos hc], hE⟩
      · have hc3 := hc
        refine wc_skip ?_
        refine nx_then ?_
        refine wc_seq ?_
        refine wc_seq ?_
        refine wc_region ?_
        refine wl_val hW rfl rfl (x_fieldAddr Try.underlying25 rfl fl22.siz rfl) ?_
        refine wl_val hW rfl rfl (x_load fl22 rfl (hB2.cell (o := 1) rfl)) ?_
        refine wl_val hW rfl rfl (x_fieldAddr Try.underlying25 rfl fl22.siz rfl) ?_
        refine wl_val hW rfl rfl (x_load fl22 rfl (hB3.cell (o := 1) rfl)) ?_
        refine wl_val hW rfl rfl (x_lss rfl rfl) ?_
        refine wl_nil ?_
        refine nx_then ?_
        refine wc_dec rfl (fun hc => ?_) (fun hc => ?_)
        · refine wc_seq ?_
          refine wc_region ?_
          refine wl_val hW rfl rfl (x_assign rfl) ?_
          refine wl_nil ?_
          refine nx_then ?_
          refine wc_ret ?_
          refine nx_then_ret ?_
          exact ends_ret (res_tmp Try.results19 rfl) ⟨by rw [cmpE_3 hc1 hc2]; unfold cmpI; rw [if_neg hc3, if_pos hc], hE⟩
        · refine wc_skip ?_
          refine nx_then ?_
          refine wc_seq ?_
          refine wc_region ?_
          refine wl_val hW rfl rfl (x_assign rfl) ?_
          refine wl_nil ?_
          refine nx_then ?_
          refine wc_ret ?_
          exact ends_ret (res_tmp Try.results19 rfl) ⟨by rw [cmpE_3 hc1 hc2]; unfold cmpI; rw [if_neg hc3, if_neg hc], hE⟩
theorem C38 {A : Nat → Prop} {w : World} {av bv : Value} {a b : Ent} (ha : Byts A w av a.v) (hb : Byts A w bv b.v) : Rt Try.prog 38 [.agg (cellsOf a av).toArray, .agg (cellsOf b bv).toArray] w fun r w' => r = .bool (sameB a b) ∧ Ext w w' := by
  have hW := hWw
  have hFF := hFw
  have hE : Ext w w := Keep.refl _ _
  refine rt_body Try.func38 rfl Try.ntmps38 rfl ?_
  refine wc_seq ?_
  refine wc_region ?_
  refine wl_box hW rfl rfl rfl rfl ?_
  intro b2 w2 hl2 hB2 hx2
  have g2 : w.heap.size ≤ b2 := Nat.le_trans hE.size hl2
  replace hE := hE.trans hx2
  refine wl_box hW rfl rfl rfl rfl ?_
  intro b3 w3 hl3 hB3 hx3
  have g3 : w.heap.size ≤ b3 := Nat.le_trans hE.size hl3
  have n3_2 : b3 ≠ b2 := Nat.ne_of_gt (Nat.lt_of_lt_of_le hB2.lt hl3)
  replace hB2 := hB2.ext hx3
  replace hE := hE.trans hx3
  refine wl_val hW rfl rfl (x_assign rfl) ?_
  refine wl_nil ?_
  refine nx_then ?_
  refine wc_seq ?_
  have hE1 := hE
  refine wc_cut [(4, .bool (sameB a b))] (fun w' => w' = w3) ?_ ?_
  · refine wc_region ?_
    refine wl_val hW rfl rfl (x_fieldAddr Try.underlying25 rfl fl9.siz rfl) ?_
    refine wl_val hW rfl rfl (x_load fl9 rfl (hB2.cell (o := 0) rfl)) ?_
    refine wl_val hW rfl rfl (x_fieldAddr Try.underlying25 rfl fl9.siz rfl) ?_
    refine wl_val hW rfl rfl (x_load fl9 rfl (hB3.cell (o := 0) rfl)) ?_
    refine wl_val hW rfl rfl (x_seql rfl rfl) ?_
    refine wl_val hW rfl rfl (x_move rfl) ?_
    refine wl_bcases (d := 10) rfl (fun hg10 => ?_) (fun hg10 => ?_)
    · refine wl_val hW rfl rfl (x_fieldAddr Try.underlying25 rfl fl22.siz rfl) ?_
      refine wl_val hW rfl rfl (x_load fl22 rfl (hB2.cell (o := 1) rfl)) ?_
      refine wl_val hW rfl rfl (x_fieldAddr Try.underlying25 rfl fl22.siz rfl) ?_
      refine wl_val hW rfl rfl (x_load fl22 rfl (hB3.cell (o := 1) rfl)) ?_
      refine wl_val hW rfl rfl (x_eql rfl rfl) ?_
      refine wl_val hW rfl rfl (x_pickT rfl rfl) ?_
      refine wl_val hW rfl rfl (x_move rfl) ?_
      refine wl_dcases (d := 17) rfl (fun hg17 => ?_) (fun hg17 => ?_)
      · refine wl_val hW rfl rfl (x_fieldAddr Try.underlying25 rfl fl4.siz rfl) ?_
        refine wl_val hW rfl rfl (x_load fl4 rfl (hB2.cell (o := 2) rfl)) ?_
        refine wl_val hW rfl rfl (x_fieldAddr Try.underlying25 rfl fl4.siz rfl) ?_
        refine wl_val hW rfl rfl (x_load fl4 rfl (hB3.cell (o := 2) rfl)) ?_
        refine wl_val hW rfl rfl (x_beql rfl rfl Try.underlying4) ?_
        refine wl_val hW rfl rfl (x_pickT rfl rfl) ?_
        refine wl_val hW rfl rfl (x_move rfl) ?_
        refine wl_bcases (d := 24) rfl (fun hg24 => ?_) (fun hg24 => ?_)
        · refine wl_val hW rfl rfl (x_fieldAddr Try.underlying25 rfl fl23.siz rfl) ?_
          refine wl_val hW rfl rfl (x_load fl23 rfl (hB2.cell (o := 3) rfl)) ?_
          refine wl_val hW rfl rfl (x_convB rfl (ha.ext hE)) ?_
          refine wl_val hW rfl rfl (x_fieldAddr Try.underlying25 rfl fl23.siz rfl) ?_
          refine wl_val hW rfl rfl (x_load fl23 rfl (hB3.cell (o := 3) rfl)) ?_
          refine wl_val hW rfl rfl (x_convB rfl (hb.ext hE)) ?_
          refine wl_val hW rfl rfl (x_seql rfl rfl) ?_
          refine wl_val hW rfl rfl (x_pickT rfl rfl) ?_
          refine wl_val hW rfl rfl (x_assign rfl) ?_
          refine wl_nil ?_
          exact nx_cut (by unfold sameB; rw [hg10, decide_eq_true hg17, hg24]; repeat (first | exact sub_nil | refine sub_cons rfl ?_)) rfl
        · refine wl_off hW rfl rfl ?_
          refine wl_off hW rfl rfl ?_
          refine wl_off hW rfl rfl ?_
          refine wl_off hW rfl rfl ?_
          refine wl_off hW rfl rfl ?_
          refine wl_off hW rfl rfl ?_
          refine wl_off hW rfl rfl ?_
          refine wl_val hW rfl rfl (x_pickF rfl rfl) ?_
          refine wl_val hW rfl rfl (x_assign rfl) ?_
          refine wl_nil ?_
          exact nx_cut (by unfold sameB; rw [hg10, decide_eq_true hg17, hg24]; repeat (first | exact sub_nil | refine sub_cons rfl ?_)) rfl
      · refine wl_off hW rfl rfl ?_
        refine wl_off hW rfl rfl ?_
        refine wl_off hW rfl rfl ?_
        refine wl_off hW rfl rfl ?_
        refine wl_off hW rfl rfl ?_
        refine wl_val hW rfl rfl (x_pickF rfl rfl) ?_
        refine wl_val hW rfl rfl (x_move rfl) ?_
        refine wl_off hW rfl rfl ?_
        refine wl_off hW rfl rfl ?_
        refine wl_off hW rfl rfl ?_
        refine wl_off hW rfl rfl ?_
        refine wl_off hW rfl rfl ?_
        refine wl_off hW rfl rfl ?_
        refine wl_off hW rfl rfl ?_
        refine wl_val hW rfl rfl (x_pickF rfl rfl) ?_
        refine wl_val hW rfl rfl (x_assign rfl) ?_
        refine wl_nil ?_
        exact nx_cut (by unfold sameB; rw [hg10, decide_eq_false hg17]; repeat (first | exact sub_nil | refine sub_cons rfl ?_)) rfl
    · refine wl_off hW rfl rfl ?_
      refine wl_off hW rfl rfl ?_
      refine wl_off hW rfl rfl ?_
      refine wl_off hW rfl rfl ?_
      refine wl_off hW rfl rfl ?_
      refine wl_val hW rfl rfl (x_pickF rfl rfl) ?_
      refine wl_val hW rfl rfl (x_move rfl) ?_
      refine wl_off hW rfl rfl ?_
      refine wl_off hW rfl rfl ?_
      refine wl_off hW rfl rfl ?_
      refine wl_off hW rfl rfl ?_
      refine wl_off hW rfl rfl ?_
      refine wl_val hW rfl rfl (x_pickF rfl rfl) ?_
      refine wl_val hW rfl rfl (x_move rfl) ?_
      refine wl_off hW rfl rfl ?_
      refine wl_off hW rfl rfl ?_
      refine wl_off hW rfl rfl ?_
      refine wl_off hW rfl rfl ?_
      refine wl_off hW rfl rfl ?_
      refine wl_off hW rfl rfl ?_
      refine wl_off hW rfl rfl ?_
      refine wl_val hW rfl rfl (x_pickF rfl rfl) ?_
      refine wl_val hW rfl rfl (x_assign rfl) ?_
      refine wl_nil ?_
      exact nx_cut (by unfold sameB; rw [hg10]; repeat (first | exact sub_nil | refine sub_cons rfl ?_)) rfl
  · rintro w' rfl
    refine nx_then ?_
    refine wc_ret ?_
    exact ends_ret (res_tmp Try.results38 rfl) ⟨rfl, hE⟩
theorem C24 {A : Nat → Prop} {w : World} {v u : Value} {as_ bs : List Ent} (hR : Row A w v as_) (hS : Row A w u bs) : Rt Try.prog 24 [v, u] w fun r w' => (∃ b, r = .bool b ∧ (b = true ↔ as_ = bs)) ∧ Ext w w' := by
  obtain ⟨ad, cap, rfl, hcap, hlen⟩ := hR.form
  obtain ⟨ad2, cap2, rfl, hcap2, hlen2⟩ := hS.form
  have hW := hWw
  have hFF := hFw
  have hE : Ext w w := Keep.refl _ _
  refine rt_body Try.func24 rfl Try.ntmps24 rfl ?_
  refine wc_seq ?_
  refine wc_region ?_
  refine wl_val hW rfl rfl (x_assign rfl) ?_
  refine wl_nil ?_
  refine nx_then ?_
  refine wc_seq ?_
  refine wc_seq ?_
  refine wc_region ?_
  refine wl_val hW rfl rfl (x_move rfl) ?_
  refine wl_val hW rfl rfl (x_len Try.underlying26 rfl) ?_
  refine wl_val hW rfl rfl (x_move rfl) ?_
  refine wl_val hW rfl rfl (x_len Try.underlying26 rfl) ?_
  refine wl_val hW rfl rfl (x_neq rfl rfl) ?_
  refine wl_nil ?_
  refine nx_then ?_
  refine wc_dec rfl (fun hc => ?_) (fun hc => ?_)
  · refine wc_seq ?_
    refine wc_region ?_
    refine wl_val hW rfl rfl (x_assign rfl) ?_
    refine wl_nil ?_
    refine nx_then ?_
    refine wc_ret ?_
    refine nx_then_ret ?_
    exact ends_ret (res_tmp Try.results24 rfl) ⟨⟨false, rfl, by constructor; intro h; cases h; rintro rfl; exact absurd rfl hc⟩, hE⟩
  · have hl : as_.length = bs.length := by have hc' : ¬ ¬ ((as_.length : Int) = bs.length) := hc; omega
    refine wc_skip ?_
    refine nx_then ?_
    refine wc_seq ?_
    refine wc_seq ?_
    refine wc_region ?_
    refine wl_val hW rfl rfl (x_assign rfl) ?_
    refine wl_nil ?_
    refine nx_then ?_
    refine wc_block ?_
    refine wc_loop (σ := Nat) (fun s => [(0, .slice ad as_.length cap), (1, .slice ad2 bs.length cap2), (5, .int .i64 s)]) (fun s w' => (s ≤ as_.length ∧ ∀ j (h : j < as_.length) (h' : j < bs.length), j < s → as_[j] = bs[j]) ∧ Ext w w') (fun s => as_.length - s) 0 ?_ ?_ ?_
    · exact ⟨⟨Nat.zero_le _, fun j _ _ h => absurd h (Nat.not_lt_zero _)⟩, hE⟩
    · repeat (first | exact sub_nil | refine sub_cons rfl ?_)
    · rintro s wr ⟨hs, hE⟩
      refine wc_seq ?_
      refine wc_seq ?_
      refine wc_region ?_
      refine wl_val hW rfl rfl (x_move rfl) ?_
      refine wl_val hW rfl rfl (x_move rfl) ?_
      refine wl_val hW rfl rfl (x_len Try.underlying26 rfl) ?_
      refine wl_val hW rfl rfl (x_lss rfl rfl) ?_
      refine wl_nil ?_
      refine nx_then ?_
      refine wc_dec rfl (fun hc => ?_) (fun hc => ?_)
      · replace hc : ((s : Nat) : Int) < as_.length := hc
        refine wc_skip ?_
        refine nx_then ?_
        refine wc_seq ?_
        refine wc_block ?_
        refine wc_seq ?_
        refine wc_draw' 10 hW mixed (by kernel_rfl) (fun w0 hx0 => ?_)
        replace hE := hE.trans hx0
        have hlt : s < as_.length := by omega
        have hlt2 : s < bs.length := by omega
        obtain ⟨b, o, cap', bv, e1, hA, hC19, hb1, hok1⟩ := (hR.ext hE).at s hlt
        cases e1
        obtain ⟨b', o', cap'', bv', e2, hA', hC23, hb2, hok2⟩ := (hS.ext hE).at s hlt2
        cases e2
        refine q_val rfl rfl (fun _ hx => x_move rfl) ?_
        refine q_val rfl rfl (fun _ hx => x_move rfl) ?_
        refine q_val rfl rfl (fun _ hx => x_indexAddr Try.underlying26 ag25.siz rfl rfl (by omega) (by omega)) ?_
        refine q_val rfl rfl (fun _ hx => x_loadA ag25 rfl (hC19.ext hx) rfl) ?_
        refine q_val rfl rfl (fun _ hx => x_move rfl) ?_
        refine q_val rfl rfl (fun _ hx => x_move rfl) ?_
        refine q_val rfl rfl (fun _ hx => x_indexAddr Try.underlying26 ag25.siz rfl rfl (by omega) (by omega)) ?_
        refine q_val rfl rfl (fun _ hx => x_loadA ag25 rfl (hC23.ext hx) rfl) ?_
        refine q_call rfl rfl (fun _ => x_call en38 rfl) (fun w' hx => (C38 (hb1.ext hx) (hb2.ext hx)).inF hFF) ?_
        refine q_val rfl rfl (fun _ hx => x_not rfl) ?_
        refine q_nil (tail0 (fun wt hxt => ?_))
        replace hE := hE.trans hxt
        refine wl_nil ?_
        refine nx_then ?_
        refine wc_bool rfl (fun hc => ?_) (fun hc => ?_)
        · have hne : as_[s] ≠ bs[s] := fun h => by rw [sameB_iff.2 h] at hc; cases hc
          refine wc_seq ?_
          refine wc_region ?_
          refine wl_val hW rfl rfl (x_assign rfl) ?_
          refine wl_nil ?_
          refine nx_then ?_
          refine wc_ret ?_
          refine nx_block_ret ?_
          refine nx_then_ret ?_
          refine nx_then_ret ?_
          refine nx_block_ret ?_
          refine nx_then_ret ?_
          exact ends_ret (res_tmp Try.results24 rfl) ⟨⟨false, rfl, by constructor; intro h; cases h; rintro rfl; exact absurd rfl hne⟩, hE⟩
        · refine wc_skip ?_
          refine nx_block ?_
          refine nx_then ?_
          refine wc_region ?_
          refine wl_val hW rfl rfl (x_move rfl) ?_
          refine wl_val hW rfl rfl (x_inc (s := s) rfl (by omega)) ?_
          refine wl_val hW rfl rfl (x_assign rfl) ?_
          refine wl_nil ?_
          have heq : as_[s] = bs[s] := sameB_iff.1 (by simpa using hc)
          exact nx_next (s + 1) (by omega) ⟨⟨hlt, fun j h h' hj => by rcases Nat.lt_succ_iff_lt_or_eq.1 hj with hj | rfl; exact hs.2 j h h' hj; exact heq⟩, hE⟩ (by repeat (first | exact sub_nil | refine sub_cons rfl ?_))
      · refine wc_exit ?_
        refine nx_then_exit ?_
        refine nx_then_exit ?_
        refine nx_block_exit ?_
        refine nx_then ?_
        refine wc_seq ?_
        refine wc_region ?_
        refine wl_val hW rfl rfl (x_assign rfl) ?_
        refine wl_nil ?_
        refine nx_then ?_
        refine wc_ret ?_
        exact ends_ret (res_tmp Try.results24 rfl) ⟨⟨true, rfl, ⟨fun _ => List.ext_getElem hl fun j h h' => hs.2 j h h' (by have hc' : ¬ ((s : Nat) : Int) < as_.length := hc; omega), fun _ => rfl⟩⟩, hE⟩
end Go.Proofs.Ytblbddamebbgaaa.K


/- Walks: the document's Right, Seen, Prune. -/
namespace Go.Proofs.Ytblbddamebbgaaa.K
open Go Go.RowKit
set_option linter.unusedVariables false
set_option linter.unusedSimpArgs false

theorem C21 {A : Nat → Prop} {w : World} {v : Value} {es : List Ent} (hR : Row A w v es) : Rt Try.prog 21 [v] w fun r w' => r = .bool (rightB es) ∧ Ext w w' := by
  obtain ⟨ad, cap, rfl, hcap, hlen⟩ := hR.form
  have hW := hWw
  have hFF := hFw
  have hE : Ext w w := Keep.refl _ _
  refine rt_body Try.func21 rfl Try.ntmps21 rfl ?_
  refine wc_seq ?_
  refine wc_region ?_
  refine wl_val hW rfl rfl (x_assign rfl) ?_
  refine wl_nil ?_
  refine nx_then ?_
  refine wc_seq ?_
  refine wc_seq ?_
  refine wc_region ?_
  refine wl_val hW rfl rfl (x_assign rfl) ?_
  refine wl_nil ?_
  refine nx_then ?_
  refine wc_block ?_
  refine wc_loop (σ := Nat) (fun s => [(0, .slice ad es.length cap), (3, .int .i64 s)]) (fun s w' => (s ≤ es.length ∧ ∀ j, j < s → j < es.length → badB es j = false) ∧ Ext w w') (fun s => es.length - s) 0 ?_ ?_ ?_
  · exact ⟨⟨Nat.zero_le _, fun j h => absurd h (Nat.not_lt_zero _)⟩, hE⟩
  · repeat (first | exact sub_nil | refine sub_cons rfl ?_)
  · rintro s wr ⟨hs, hE⟩
    refine wc_seq ?_
    refine wc_seq ?_
    refine wc_region ?_
    refine wl_val hW rfl rfl (x_move rfl) ?_
    refine wl_val hW rfl rfl (x_move rfl) ?_
    refine wl_val hW rfl rfl (x_len Try.underlying26 rfl) ?_
    refine wl_val hW rfl rfl (x_lss rfl rfl) ?_
    refine wl_nil ?_
    refine nx_then ?_
    refine wc_dec rfl (fun hc => ?_) (fun hc => ?_)
    · replace hc : ((s : Nat) : Int) < es.length := hc
      have hlt : s < es.length := by omega
      refine wc_skip ?_
      refine nx_then ?_
      refine wc_seq ?_
      refine wc_block ?_
      refine wc_seq ?_
      refine wc_cut [(0, .slice ad es.length cap), (3, .int .i64 s), (40, .bool (badB es s))] (fun w' => Ext w w') ?_ ?_
      · refine wc_draw' 31 hW mixed (by kernel_rfl) (fun w0 hx0 => ?_)
        replace hE := hE.trans hx0
        have hRn := hR.ext hE
        obtain ⟨b, o, cap', bv, e1, hA, hC12, hb1, hok1⟩ := hRn.at s hlt
        cases e1
        obtain ⟨av, cv, hbv, hcv⟩ := hb1.form
        subst hbv
        have hC18 := hC12
        have hC35 := hC12
        refine q_val rfl rfl (fun _ hx => x_move rfl) ?_
        refine q_val rfl rfl (fun _ hx => x_move rfl) ?_
        refine q_val rfl rfl (fun _ hx => x_indexAddr Try.underlying26 ag25.siz rfl rfl (by omega) (by omega)) ?_
        refine q_val rfl rfl (fun _ hx => x_fieldAddr Try.underlying25 rfl fl4.siz rfl) ?_
        refine q_val rfl rfl (fun _ hx => x_load fl4 rfl (hx.cell (hC12 2 _ rfl))) ?_
        refine q_val rfl rfl (fun _ hx => x_move rfl) ?_
        refine q_bcases (d := 15) rfl (fun hg15 => ?_) (fun hg15 => ?_)
        · refine q_val rfl rfl (fun _ hx => x_move rfl) ?_
          refine q_val rfl rfl (fun _ hx => x_move rfl) ?_
          refine q_val rfl rfl (fun _ hx => x_indexAddr Try.underlying26 ag25.siz rfl rfl (by omega) (by omega)) ?_
          refine q_val rfl rfl (fun _ hx => x_fieldAddr Try.underlying25 rfl fl23.siz rfl) ?_
          refine q_val rfl rfl (fun _ hx => x_load fl23 rfl (hx.cell (hC18 3 _ rfl))) ?_
          refine q_val rfl rfl (fun _ hx => x_len Try.underlying23 rfl) ?_
          refine q_val rfl rfl (fun _ hx => x_gtr rfl rfl) ?_
          refine q_val rfl rfl (fun _ hx => x_pickT rfl rfl) ?_
          refine q_val rfl rfl (fun _ hx => x_move rfl) ?_
          refine q_dcases (d := 24) rfl (fun hg24 => ?_) (fun hg24 => ?_)
          · refine q_off rfl rfl ?_
            refine q_off rfl rfl ?_
            refine q_off rfl rfl ?_
            refine q_off rfl rfl ?_
            refine q_off rfl rfl ?_
            refine q_off rfl rfl ?_
            refine q_off rfl rfl ?_
            refine q_off rfl rfl ?_
            refine q_off rfl rfl ?_
            refine q_off rfl rfl ?_
            refine q_off rfl rfl ?_
            refine q_off rfl rfl ?_
            refine q_off rfl rfl ?_
            refine q_off rfl rfl ?_
            refine q_off rfl rfl ?_
            refine q_val rfl rfl (fun _ hx => x_pickT rfl rfl) ?_
            refine q_nil (tail0 (fun wt hxt => ?_))
            replace hE := hE.trans hxt
            refine wl_nil ?_
            exact nx_cut (by rw [badB_1 hlt (okB_1 hg15 hg24)]; repeat (first | exact sub_nil | refine sub_cons rfl ?_)) hE
          · refine q_val rfl rfl (fun _ hx => x_move rfl) ?_
            refine q_val rfl rfl (fun _ hx => x_gtr rfl rfl) ?_
            refine q_val rfl rfl (fun _ hx => x_move rfl) ?_
            refine q_dcases (d := 27) rfl (fun hg27 => ?_) (fun hg27 => ?_)
            · obtain ⟨b', o', cap'', bv', e2, hA', hC31, hb2, hok2⟩ := hRn.at (s - 1) (by omega)
              cases e2
              refine q_val rfl rfl (fun _ hx => x_move rfl) ?_
              refine q_val rfl rfl (fun _ hx => x_move rfl) ?_
              refine q_val rfl rfl (fun _ hx => x_subn (i := s) (j := 1) rfl rfl (by omega) (by omega)) ?_
              refine q_val rfl rfl (fun _ hx => x_indexAddr Try.underlying26 ag25.siz rfl rfl (by omega) (by omega)) ?_
              refine q_val rfl rfl (fun _ hx => x_loadA ag25 rfl (hC31.ext hx) rfl) ?_
              refine q_val rfl rfl (fun _ hx => x_move rfl) ?_
              refine q_val rfl rfl (fun _ hx => x_move rfl) ?_
              refine q_val rfl rfl (fun _ hx => x_indexAddr Try.underlying26 ag25.siz rfl rfl (by omega) (by omega)) ?_
              refine q_val rfl rfl (fun _ hx => x_loadA ag25 rfl (hC35.ext hx) rfl) ?_
              refine q_call rfl rfl (fun _ => x_call en19 rfl) (fun w' hx => C19.inF hFF) ?_
              refine q_val rfl rfl (fun _ hx => x_geq rfl rfl) ?_
              refine q_val rfl rfl (fun _ hx => x_pickT rfl rfl) ?_
              refine q_val rfl rfl (fun _ hx => x_pickF rfl rfl) ?_
              refine q_nil (tail0 (fun wt hxt => ?_))
              replace hE := hE.trans hxt
              refine wl_nil ?_
              exact nx_cut (by rw [badB_2 hlt (okB_2 hg24) (by omega)]; repeat (first | exact sub_nil | refine sub_cons rfl ?_)) hE
            · refine q_off rfl rfl ?_
              refine q_off rfl rfl ?_
              refine q_off rfl rfl ?_
              refine q_off rfl rfl ?_
              refine q_off rfl rfl ?_
              refine q_off rfl rfl ?_
              refine q_off rfl rfl ?_
              refine q_off rfl rfl ?_
              refine q_off rfl rfl ?_
              refine q_off rfl rfl ?_
              refine q_off rfl rfl ?_
              refine q_val rfl rfl (fun _ hx => x_pickF rfl rfl) ?_
              refine q_val rfl rfl (fun _ hx => x_pickF rfl rfl) ?_
              refine q_nil (tail0 (fun wt hxt => ?_))
              replace hE := hE.trans hxt
              refine wl_nil ?_
              exact nx_cut (by rw [badB_3 hlt (okB_2 hg24) (by omega)]; repeat (first | exact sub_nil | refine sub_cons rfl ?_)) hE
        · refine q_off rfl rfl ?_
          refine q_off rfl rfl ?_
          refine q_off rfl rfl ?_
          refine q_off rfl rfl ?_
          refine q_off rfl rfl ?_
          refine q_off rfl rfl ?_
          refine q_off rfl rfl ?_
          refine q_val rfl rfl (fun _ hx => x_pickF rfl rfl) ?_
          refine q_val rfl rfl (fun _ hx => x_move rfl) ?_
          refine q_val rfl rfl (fun _ hx => x_move rfl) ?_
          refine q_val rfl rfl (fun _ hx => x_gtr rfl rfl) ?_
          refine q_val rfl rfl (fun _ hx => x_move rfl) ?_
          refine q_dcases (d := 27) rfl (fun hg27 => ?_) (fun hg27 => ?_)
          · obtain ⟨b', o', cap'', bv', e2, hA', hC31, hb2, hok2⟩ := hRn.at (s - 1) (by omega)
            cases e2
            refine q_val rfl rfl (fun _ hx => x_move rfl) ?_
            refine q_val rfl rfl (fun _ hx => x_move rfl) ?_
            refine q_val rfl rfl (fun _ hx => x_subn (i := s) (j := 1) rfl rfl (by omega) (by omega)) ?_
            refine q_val rfl rfl (fun _ hx => x_indexAddr Try.underlying26 ag25.siz rfl rfl (by omega) (by omega)) ?_
            refine q_val rfl rfl (fun _ hx => x_loadA ag25 rfl (hC31.ext hx) rfl) ?_
            refine q_val rfl rfl (fun _ hx => x_move rfl) ?_
            refine q_val rfl rfl (fun _ hx => x_move rfl) ?_
            refine q_val rfl rfl (fun _ hx => x_indexAddr Try.underlying26 ag25.siz rfl rfl (by omega) (by omega)) ?_
            refine q_val rfl rfl (fun _ hx => x_loadA ag25 rfl (hC35.ext hx) rfl) ?_
            refine q_call rfl rfl (fun _ => x_call en19 rfl) (fun w' hx => C19.inF hFF) ?_
            refine q_val rfl rfl (fun _ hx => x_geq rfl rfl) ?_
            refine q_val rfl rfl (fun _ hx => x_pickT rfl rfl) ?_
            refine q_val rfl rfl (fun _ hx => x_pickF rfl rfl) ?_
            refine q_nil (tail0 (fun wt hxt => ?_))
            replace hE := hE.trans hxt
            refine wl_nil ?_
            exact nx_cut (by rw [badB_2 hlt (okB_3 hg15) (by omega)]; repeat (first | exact sub_nil | refine sub_cons rfl ?_)) hE
          · refine q_off rfl rfl ?_
            refine q_off rfl rfl ?_
            refine q_off rfl rfl ?_
            refine q_off rfl rfl ?_
            refine q_off rfl rfl ?_
            refine q_off rfl rfl ?_
            refine q_off rfl rfl ?_
            refine q_off rfl rfl ?_
            refine q_off rfl rfl ?_
            refine q_off rfl rfl ?_
            refine q_off rfl rfl ?_
            refine q_val rfl rfl (fun _ hx => x_pickF rfl rfl) ?_
            refine q_val rfl rfl (fun _ hx => x_pickF rfl rfl) ?_
            refine q_nil (tail0 (fun wt hxt => ?_))
            replace hE := hE.trans hxt
            refine wl_nil ?_
            exact nx_cut (by rw [badB_3 hlt (okB_3 hg15) (by omega)]; repeat (first | exact sub_nil | refine sub_cons rfl ?_)) hE
      · rintro w' hE
        refine nx_then ?_
        refine wc_bool rfl (fun hc => ?_) (fun hc => ?_)
        · refine wc_seq ?_
          refine wc_region ?_
          refine wl_val hW rfl rfl (x_assign rfl) ?_
          refine wl_nil ?_
          refine nx_then ?_
          refine wc_ret ?_
          refine nx_block_ret ?_
          refine nx_then_ret ?_
          refine nx_then_ret ?_
          refine nx_block_ret ?_
          refine nx_then_ret ?_
          exact ends_ret (res_tmp Try.results21 rfl) ⟨by rw [badB_true hlt hc], hE⟩
        · refine wc_skip ?_
          refine nx_block ?_
          refine nx_then ?_
          refine wc_region ?_
          refine wl_val hW rfl rfl (x_move rfl) ?_
          refine wl_val hW rfl rfl (x_inc (s := s) rfl (by omega)) ?_
          refine wl_val hW rfl rfl (x_assign rfl) ?_
          refine wl_nil ?_
          exact nx_next (s + 1) (by omega) ⟨⟨hlt, fun j hj h => by rcases Nat.lt_succ_iff_lt_or_eq.1 hj with hj | rfl; exact hs.2 j hj h; exact hc⟩, hE⟩ (by repeat (first | exact sub_nil | refine sub_cons rfl ?_))
    · refine wc_exit ?_
      refine nx_then_exit ?_
      refine nx_then_exit ?_
      refine nx_block_exit ?_
      refine nx_then ?_
      refine wc_seq ?_
      refine wc_region ?_
      refine wl_val hW rfl rfl (x_assign rfl) ?_
      refine wl_nil ?_
      refine nx_then ?_
      refine wc_ret ?_
      exact ends_ret (res_tmp Try.results21 rfl) ⟨by rw [badB_false (fun j hj => hs.2 j (by have hc' : ¬ ((s : Nat) : Int) < es.length := hc; omega) hj)], hE⟩
theorem C23 {w : World} {v : Value} {es : List Ent} {up : Int} (hR : Row (fun k => k < w.heap.size) w v es) :
    Rt Try.prog 23 [v, .int .u64 up] w fun r w' => (∃ rv, r = .tuple #[rv, .int .i64 (if rightB es then 0 else 15)] ∧ Row (fun _ => True) w' rv (if rightB es then rSeen up none false es else [])) ∧ Ext w w' := by
  obtain ⟨ad, cap, rfl, hcap, hlen⟩ := hR.form
  have hW := hWw
  have hFF := hFw
  have hE : Ext w w := Keep.refl _ _
  refine rt_body Try.func23 rfl Try.ntmps23 rfl ?_
  refine wc_seq ?_
  refine wc_region ?_
  refine wl_val hW rfl rfl (x_assign rfl) ?_
  refine wl_val hW rfl rfl (x_assign rfl) ?_
  refine wl_nil ?_
  refine nx_then ?_
  refine wc_seq ?_
  refine wc_seq ?_
  refine wc_region ?_
  refine wl_val hW rfl rfl (x_move rfl) ?_
  refine wl_call hW rfl rfl (x_call en21 rfl) ((C21 (hR.ext hE)).inF hFF) ?_
  rintro _ wC ⟨rfl, hxC⟩
  replace hE := hE.trans hxC
  refine wl_val hW rfl rfl (x_not rfl) ?_
  refine wl_nil ?_
  refine nx_then ?_
  refine wc_bool rfl (fun hc => ?_) (fun hc => ?_)
  · have hrt : rightB es = false := by simpa using hc
    refine wc_seq ?_
    refine wc_region ?_
    refine wl_val hW rfl rfl (x_assign rfl) ?_
    refine wl_val hW rfl rfl (x_assign rfl) ?_
    refine wl_nil ?_
    refine nx_then ?_
    refine wc_ret ?_
    refine nx_then_ret ?_
    exact ends_ret (res_tmp2 Try.results23 rfl rfl) ⟨⟨_, by rw [hrt]; rfl, by rw [hrt]; exact row_nil _ _⟩, hE⟩
  · have hrt : rightB es = true := by simpa using hc
    refine wc_skip ?_
    refine nx_then ?_
    refine wc_seq ?_
    refine wc_region ?_
    refine wl_val hW rfl rfl (x_assign rfl) ?_
    refine wl_nil ?_
    refine nx_then ?_
    refine wc_seq ?_
    refine wc_region ?_
    refine wl_val hW rfl rfl (x_assign rfl) ?_
    refine wl_nil ?_
    refine nx_then ?_
    refine wc_seq ?_
    refine wc_seq ?_
    refine wc_region ?_
    refine wl_val hW rfl rfl (x_assign rfl) ?_
    refine wl_nil ?_
    refine nx_then ?_
    refine wc_block ?_
    refine wc_loop (σ := Nat × Value × Bool) (fun s => [(0, .slice ad es.length cap), (1, .int .u64 up), (6, s.2.1), (7, .bool s.2.2), (8, .int .i64 s.1)]) (fun s w' => (s.1 ≤ es.length ∧ OutIs w w' s.2.1 s.1 (rSeen up (pkOf es s.1) s.2.2 (es.drop s.1)) (rSeen up none false es)) ∧ Ext w w') (fun s => es.length - s.1) (0, .slice none 0 0, false) ?_ ?_ ?_
    · exact ⟨⟨Nat.zero_le _, [], own_nil _ _ _, by simp, by rw [List.drop_zero]; rfl⟩, hE⟩
    · repeat (first | exact sub_nil | refine sub_cons rfl ?_)
    · rintro ⟨s, ov, dn⟩ wr ⟨⟨hsl, coll, hO, hcl, hco⟩, hEw⟩
      dsimp only at hsl hO hcl hco
      have hE : Ext wr wr := Keep.refl _ _
      have hRw := hR.ext hEw
      refine wc_seq ?_
      refine wc_seq ?_
      refine wc_region ?_
      refine wl_val hW rfl rfl (x_move rfl) ?_
      refine wl_val hW rfl rfl (x_move rfl) ?_
      refine wl_val hW rfl rfl (x_len Try.underlying26 rfl) ?_
      refine wl_val hW rfl rfl (x_lss rfl rfl) ?_
      refine wl_nil ?_
      refine nx_then ?_
      refine wc_dec rfl (fun hc => ?_) (fun hc => ?_)
      · replace hc : ((s : Nat) : Int) < es.length := hc
        have hlt : s < es.length := by omega
        refine wc_skip ?_
        refine nx_then ?_
        refine wc_seq ?_
        refine wc_block ?_
        refine wc_seq ?_
        refine wc_seq ?_
        refine wc_cut [(0, .slice ad es.length cap), (1, .int .u64 up), (6, ov), (7, .bool dn), (8, .int .i64 s), (33, .bool (freshB (pkOf es s) es[s]))] (fun w' => Ext wr w') ?_ ?_
        · refine wc_draw' 16 hW mixed (by kernel_rfl) (fun w0 hx0 => ?_)
          replace hE := hE.trans hx0
          refine q_val rfl rfl (fun _ hx => x_move rfl) ?_
          refine q_val rfl rfl (fun _ hx => x_gtr rfl rfl) ?_
          refine q_val rfl rfl (fun _ hx => x_move rfl) ?_
          refine q_dcases (d := 20) rfl (fun hg20 => ?_) (fun hg20 => ?_)
          · have hRn := hRw.ext hE
            obtain ⟨b, o, cap', bv, e1, hA, hC23, hb1, hok1⟩ := hRn.at s hlt
            cases e1
            obtain ⟨b', o', cap'', bv', e2, hA', hC29, hb2, hok2⟩ := hRn.at (s - 1) (by omega)
            cases e2
            refine q_val rfl rfl (fun _ hx => x_move rfl) ?_
            refine q_val rfl rfl (fun _ hx => x_move rfl) ?_
            refine q_val rfl rfl (fun _ hx => x_indexAddr Try.underlying26 ag25.siz rfl rfl (by omega) (by omega)) ?_
            refine q_val rfl rfl (fun _ hx => x_fieldAddr Try.underlying25 rfl fl9.siz rfl) ?_
            refine q_val rfl rfl (fun _ hx => x_load fl9 rfl (hx.cell (hC23 0 _ rfl))) ?_
            refine q_val rfl rfl (fun _ hx => x_move rfl) ?_
            refine q_val rfl rfl (fun _ hx => x_move rfl) ?_
            refine q_val rfl rfl (fun _ hx => x_subn (i := s) (j := 1) rfl rfl (by omega) (by omega)) ?_
            refine q_val rfl rfl (fun _ hx => x_indexAddr Try.underlying26 ag25.siz rfl rfl (by omega) (by omega)) ?_
            refine q_val rfl rfl (fun _ hx => x_fieldAddr Try.underlying25 rfl fl9.siz rfl) ?_
            refine q_val rfl rfl (fun _ hx => x_load fl9 rfl (hx.cell (hC29 0 _ rfl))) ?_
            refine q_val rfl rfl (fun _ hx => x_sneq rfl rfl) ?_
            refine q_val rfl rfl (fun _ hx => x_pickT rfl rfl) ?_
            refine q_nil (tail0 (fun wt hxt => ?_))
            replace hE := hE.trans hxt
            refine wl_nil ?_
            exact nx_cut (by rw [fresh_pos (by omega) (show s - 1 < es.length by omega)]; repeat (first | exact sub_nil | refine sub_cons rfl ?_)) hE
          · refine q_off rfl rfl ?_
            refine q_off rfl rfl ?_
            refine q_off rfl rfl ?_
            refine q_off rfl rfl ?_
            refine q_off rfl rfl ?_
            refine q_off rfl rfl ?_
            refine q_off rfl rfl ?_
            refine q_off rfl rfl ?_
            refine q_off rfl rfl ?_
            refine q_off rfl rfl ?_
            refine q_off rfl rfl ?_
            refine q_off rfl rfl ?_
            refine q_val rfl rfl (fun _ hx => x_pickF rfl rfl) ?_
            refine q_nil (tail0 (fun wt hxt => ?_))
            replace hE := hE.trans hxt
            refine wl_nil ?_
            exact nx_cut (by rw [fresh_zero (by omega)]; repeat (first | exact sub_nil | refine sub_cons rfl ?_)) hE
        · rintro w' hE
          refine nx_then ?_
          refine wc_cut [(0, .slice ad es.length cap), (1, .int .u64 up), (6, ov), (7, .bool (doneB (pkOf es s) dn es[s])), (8, .int .i64 s)] (fun w'' => w'' = w') ?_ ?_
          · refine wc_bool rfl (fun hc => ?_) (fun hc => ?_)
            · refine wc_region ?_
              refine wl_val hW rfl rfl (x_assign rfl) ?_
              refine wl_nil ?_
              exact nx_cut (by rw [doneB_fresh hc]; repeat (first | exact sub_nil | refine sub_cons rfl ?_)) rfl
            · refine wc_skip ?_
              exact nx_cut (by rw [doneB_stale hc]; repeat (first | exact sub_nil | refine sub_cons rfl ?_)) rfl
          · rintro w' rfl
            refine nx_then ?_
            refine wc_seq ?_
            refine wc_seq ?_
            refine wc_cut [(0, .slice ad es.length cap), (1, .int .u64 up), (6, ov), (7, .bool (doneB (pkOf es s) dn es[s])), (8, .int .i64 s), (43, .bool (doneB (pkOf es s) dn es[s] || decide (up < es[s].s)))] (fun w'' => w'' = w') ?_ ?_
            · refine wc_region ?_
              refine wl_val hW rfl rfl (x_move rfl) ?_
              refine wl_val hW rfl rfl (x_move rfl) ?_
              refine wl_bcases (d := 35) rfl (fun hg35 => ?_) (fun hg35 => ?_)
              · refine wl_off hW rfl rfl ?_
                refine wl_off hW rfl rfl ?_
                refine wl_off hW rfl rfl ?_
                refine wl_off hW rfl rfl ?_
                refine wl_off hW rfl rfl ?_
                refine wl_off hW rfl rfl ?_
                refine wl_off hW rfl rfl ?_
                refine wl_val hW rfl rfl (x_pickT rfl rfl) ?_
                refine wl_nil ?_
                exact nx_cut (by rw [hg35, Bool.true_or]; repeat (first | exact sub_nil | refine sub_cons rfl ?_)) rfl
              · obtain ⟨b, o, cap', bv, e1, hA, hC38, hb1, hok1⟩ := (hRw.ext hE).at s hlt
                cases e1
                refine wl_val hW rfl rfl (x_move rfl) ?_
                refine wl_val hW rfl rfl (x_move rfl) ?_
                refine wl_val hW rfl rfl (x_indexAddr Try.underlying26 ag25.siz rfl rfl (by omega) (by omega)) ?_
                refine wl_val hW rfl rfl (x_fieldAddr Try.underlying25 rfl fl22.siz rfl) ?_
                refine wl_val hW rfl rfl (x_load fl22 rfl (hC38 1 _ rfl)) ?_
                refine wl_val hW rfl rfl (x_move rfl) ?_
                refine wl_val hW rfl rfl (x_gtr rfl rfl) ?_
                refine wl_val hW rfl rfl (x_pickF rfl rfl) ?_
                refine wl_nil ?_
                exact nx_cut (by rw [hg35, Bool.false_or]; repeat (first | exact sub_nil | refine sub_cons rfl ?_)) rfl
            · rintro w' rfl
              refine nx_then ?_
              refine wc_bool rfl (fun hc => ?_) (fun hc => ?_)
              · refine wc_exit ?_
                refine nx_then_exit ?_
                refine nx_block_exit ?_
                refine nx_then ?_
                refine wc_region ?_
                refine wl_val hW rfl rfl (x_move rfl) ?_
                refine wl_val hW rfl rfl (x_inc (s := s) rfl (by omega)) ?_
                refine wl_val hW rfl rfl (x_assign rfl) ?_
                refine wl_nil ?_
                exact nx_next (s + 1, ov, doneB (pkOf es s) dn es[s]) (by dsimp only; omega) ⟨⟨hlt, coll, hO.ext hE, by dsimp only; omega, by dsimp only; rw [← hco, drop_at hlt, rSeen_skip hc, pkOf_succ hlt]⟩, hEw.trans hE⟩ (by repeat (first | exact sub_nil | refine sub_cons rfl ?_))
              · have hc0 := hc
                refine wc_skip ?_
                refine nx_then ?_
                refine wc_seq ?_
                refine wc_region ?_
                refine wl_val hW rfl rfl (x_assign rfl) ?_
                refine wl_nil ?_
                refine nx_then ?_
                refine wc_seq ?_
                refine wc_region ?_
                obtain ⟨b, o, cap', bv, e1, hA, hC46, hb1, hok1⟩ := (hRw.ext hE).at s hlt
                cases e1
                refine wl_val hW rfl rfl (x_move rfl) ?_
                refine wl_val hW rfl rfl (x_move rfl) ?_
                refine wl_val hW rfl rfl (x_indexAddr Try.underlying26 ag25.siz rfl rfl (by omega) (by omega)) ?_
                refine wl_val hW rfl rfl (x_fieldAddr Try.underlying25 rfl fl4.siz rfl) ?_
                refine wl_val hW rfl rfl (x_load fl4 rfl (hC46 2 _ rfl)) ?_
                refine wl_val hW rfl rfl (x_not rfl) ?_
                refine wl_nil ?_
                refine nx_then ?_
                refine wc_bool rfl (fun hc => ?_) (fun hc => ?_)
                · refine wc_region ?_
                  have hC53 := hC46
                  refine wl_val hW rfl rfl (x_move rfl) ?_
                  refine wl_val hW rfl rfl (x_move rfl) ?_
                  refine wl_val hW rfl rfl (x_move rfl) ?_
                  refine wl_val hW rfl rfl (x_indexAddr Try.underlying26 ag25.siz rfl rfl (by omega) (by omega)) ?_
                  refine wl_val hW rfl rfl (x_loadA ag25 rfl hC53 rfl) ?_
                  refine wl_buildSlice (parts := [(0, .tmp 54)]) hW rfl rfl Try.underlying26 ag25.siz Try.zeroValue25 rfl rfl rfl (by omega) ?_
                  intro b55 w55 hl55 hB55 hx55
                  replace hE := hE.trans hx55
                  have hsz := hE.size
                  have hszw := hEw.size
                  refine wl_append1 hW rfl rfl rfl rfl (hO.ext hE) (by omega) (show Blk _ _ (cellsOf es[s] bv) 25 from hB55) ((hb1.ext hx55).mono (fun k _ h => ⟨h, fun e => by have := hO.lt _ e.symm; omega⟩)) hok1 (by omega) ?_
                  intro v56 wA hO2 hkA hcA
                  refine wl_val hW rfl rfl (x_assign rfl) ?_
                  refine wl_nil ?_
                  refine nx_block ?_
                  refine nx_then ?_
                  refine wc_region ?_
                  refine wl_val hW rfl rfl (x_move rfl) ?_
                  refine wl_val hW rfl rfl (x_inc (s := s) rfl (by omega)) ?_
                  refine wl_val hW rfl rfl (x_assign rfl) ?_
                  refine wl_nil ?_
                  exact nx_next (s + 1, v56, true) (by dsimp only; omega) ⟨⟨hlt, coll ++ [es[s]], hO2, by simp only [List.length_append, List.length_cons, List.length_nil]; omega, by dsimp only; rw [← hco, drop_at hlt, rSeen_take hc0, pkOf_succ hlt, if_neg (by simpa using hc), List.append_assoc]⟩, Keep.rowed (hEw.trans hE) hkA (fun b h => (hO.lt b h).1)⟩ (by repeat (first | exact sub_nil | refine sub_cons rfl ?_))
                · refine wc_skip ?_
                  refine nx_block ?_
                  refine nx_then ?_
                  refine wc_region ?_
                  refine wl_val hW rfl rfl (x_move rfl) ?_
                  refine wl_val hW rfl rfl (x_inc (s := s) rfl (by omega)) ?_
                  refine wl_val hW rfl rfl (x_assign rfl) ?_
                  refine wl_nil ?_
                  exact nx_next (s + 1, ov, true) (by dsimp only; omega) ⟨⟨hlt, coll, hO.ext hE, by dsimp only; omega, by dsimp only; rw [← hco, drop_at hlt, rSeen_take hc0, pkOf_succ hlt, if_pos (by simpa using hc), List.nil_append]⟩, hEw.trans hE⟩ (by repeat (first | exact sub_nil | refine sub_cons rfl ?_))
      · refine wc_exit ?_
        refine nx_then_exit ?_
        refine nx_then_exit ?_
        refine nx_block_exit ?_
        refine nx_then ?_
        refine wc_seq ?_
        replace hc : ¬ ((s : Nat) : Int) < es.length := hc
        have hdr : es.drop s = [] := List.drop_eq_nil_of_le (by omega)
        rw [hdr] at hco
        refine wc_region ?_
        refine wl_val hW rfl rfl (x_move rfl) ?_
        refine wl_val hW rfl rfl (x_assign rfl) ?_
        refine wl_val hW rfl rfl (x_assign rfl) ?_
        refine wl_nil ?_
        refine nx_then ?_
        refine wc_ret ?_
        exact ends_ret (res_tmp2 Try.results23 rfl rfl) ⟨⟨_, by rw [hrt]; rfl, by rw [hrt]; exact OutIs.row ⟨coll, hO, hcl, hco⟩ (by omega)⟩, hEw⟩
end Go.Proofs.Ytblbddamebbgaaa.K


/- Arguments read: what a list of entries is; the row of a law that holds. -/
namespace Go.Proofs.Ytblbddamebbgaaa.K
open Go Go.RowKit Go.ChangeShapes Go.WideShapes Go.ChangeAt
set_option linter.unusedVariables false
set_option linter.unusedSectionVars false
set_option linter.unusedSimpArgs false

section
variable {H : Type}
theorem bulk_pos (d : DataW H) : 1 ≤ Rows.uptoBulk d := by
  cases d with
  | lit l => cases l <;> simp [Rows.uptoBulk]
  | _ => simp [Rows.uptoBulk]
theorem bulkAll_len : ∀ l : List (DataW H), l.length ≤ Rows.uptoBulkAll l
  | [] => by simp
  | d :: l => by have := bulk_pos d; have := bulkAll_len l; simp only [Rows.uptoBulkAll, List.length_cons]; omega
theorem bulkAll_mem : ∀ (l : List (DataW H)) (d : DataW H), d ∈ l → Rows.uptoBulk d ≤ Rows.uptoBulkAll l
  | [], d, h => by simp at h
  | x :: l, d, h => by
    simp only [Rows.uptoBulkAll]
    rcases List.mem_cons.1 h with rfl | h
    · omega
    · have := bulkAll_mem l d h; omega
variable {enc : TypeId × Value → H} {w : World} {spare : Nat → Bool} {held : Bool} {fuel : Nat} {cs : List Value} {x : DataW H × List MemPlace}
theorem cellsOf5 : Try.prog.cellsOf 5 = 1 := by kernel_rfl
theorem cellsOf25 : Try.prog.cellsOf 25 = 4 := by kernel_rfl
theorem cellsOf9 : Try.prog.cellsOf 9 = 1 := by kernel_rfl
theorem cellsOf22 : Try.prog.cellsOf 22 = 1 := by kernel_rfl
theorem cellsOf4 : Try.prog.cellsOf 4 = 1 := by kernel_rfl
theorem cellsOf23 : Try.prog.cellsOf 23 = 1 := by kernel_rfl
theorem cellsOf26 : Try.prog.cellsOf 26 = 1 := by kernel_rfl
theorem addr_add0 (a : Addr) : a.add 0 = a := by cases a; simp [Addr.add]
theorem cell_spot {w : World} {a : Addr} {v : Value} (h : w.cell? a = some v) : a.spot = none := by
  unfold World.cell? at h
  split at h
  · cases hs : a.spot with
    | none => rfl
    | some s => rw [hs] at h; simp at h
  · cases h
theorem cells_at {a : Addr} {n : Nat} {cs : List Value} (h : w.cells? 0 a n = some cs) (h0 : 0 < n) : a.spot = none ∧ a.block < w.heap.size ∧ cs.length = n ∧ Cells w a.block a.off cs := by
  obtain ⟨-, hl, hg⟩ := World.cells?_some h
  have h1 := hg 0 h0
  rw [addr_add0] at h1
  have hv : cs[0]? = some (cs[0]'(by omega)) := List.getElem?_eq_getElem _
  rw [hv] at h1
  refine ⟨cell_spot h1, World.block_lt_of_cell? w _ h1, hl, fun j v hj => ?_⟩
  have hlt := (List.getElem?_eq_some_iff.1 hj).1
  have := hg j (by omega)
  rw [hj] at this
  obtain ⟨b, o, sp⟩ := a
  have hsp : sp = none := cell_spot h1
  subst hsp
  rw [add_mk] at this
  exact this
theorem open_bytes (h : DataW.trod enc Try.prog w 0 spare held fuel 23 cs = some x) : ∃ v l, cs = [v] ∧ Byts (fun k => k < w.heap.size) w v l ∧ l.length + 1 ≤ Rows.uptoBulk x.1 := by
  rcases Go.Deep.open_slice Try.underlying23 h with ⟨rfl, rfl⟩ | ⟨a, len, cap, m, n, D, Pl, rfl, -, hl, -, hm, rfl, hel⟩
  · exact ⟨_, [], rfl, byts_nil _ _, by simp [Rows.uptoBulk]⟩
  · have hle : len ≤ m := by rw [hm]; split <;> omega
    have hcell : ∀ i, i < len → ∃ u : UInt8, w.cell? (a.add i) = some (.int .u8 u.toNat) := fun i hi => by
      obtain ⟨cs', h1, h2⟩ := hel i (by omega)
      obtain ⟨z, rfl, -, hw⟩ := DataW.trod_int Try.underlying5 h2
      rw [cellsOf5, Nat.mul_one] at h1
      have hb := bounds_u8 hw
      refine ⟨UInt8.ofNat z.toNat, ?_⟩
      rw [cell_of_cells?_one h1]
      congr 2
      simp
      omega
    refine ⟨_, (List.range len).map fun i => if hi : i < len then (hcell i hi).choose else 0, rfl, ⟨some a, cap, by simp, by simpa using hl, fun hne => ?_⟩, ?_⟩
    · have h0 : 0 < len := by
        rcases Nat.eq_zero_or_pos len with h | h
        · subst h; simp at hne
        · exact h
      obtain ⟨u0, h1⟩ := hcell 0 h0
      rw [addr_add0] at h1
      obtain ⟨b, o, sp⟩ := a
      have hsp : sp = none := cell_spot h1
      subst hsp
      refine ⟨b, o, rfl, World.block_lt_of_cell? w _ h1, fun i u hi => ?_⟩
      have hlt : i < len := by have := (List.getElem?_eq_some_iff.1 hi).1; simpa using this
      rw [List.getElem?_map, List.getElem?_range hlt] at hi
      simp only [Option.map_some, Option.some.injEq, dif_pos hlt] at hi
      have := (hcell i hlt).choose_spec
      rw [hi, add_mk] at this
      exact this
    · have := bulkAll_len ((List.range len).map D)
      simp only [List.length_map, List.length_range] at this
      simp only [List.length_map, List.length_range, Rows.uptoBulk]
      omega
theorem list4 {α : Type} : ∀ {l : List α}, l.length = 4 → ∃ a b c d, l = [a, b, c, d]
  | [a, b, c, d], _ => ⟨a, b, c, d, rfl⟩
theorem open_ent (h : DataW.trod enc Try.prog w 0 spare held fuel 25 cs = some x) (hb : Rows.uptoBulk x.1 ≤ 1048576) : ∃ e bv, cs = cellsOf e bv ∧ Byts (fun k => k < w.heap.size) w bv e.v ∧ EntOk e := by
  obtain ⟨y0, y1, y2, y3, n, rfl, hl, h0, h1, h2, h3⟩ := Go.Joins.trod_struct4 Try.underlying25 h
  rw [cellsOf25] at hl
  obtain ⟨c0, c1, c2, c3, rfl⟩ := list4 hl
  replace h0 : DataW.trod enc Try.prog w 0 spare held n 9 ((([c0, c1, c2, c3] : List Value).drop 0).take (Try.prog.cellsOf 9)) = some y0 := h0
  replace h1 : DataW.trod enc Try.prog w 0 spare held n 22 ((([c0, c1, c2, c3] : List Value).drop 1).take (Try.prog.cellsOf 22)) = some y1 := h1
  replace h2 : DataW.trod enc Try.prog w 0 spare held n 4 ((([c0, c1, c2, c3] : List Value).drop 2).take (Try.prog.cellsOf 4)) = some y2 := h2
  replace h3 : DataW.trod enc Try.prog w 0 spare held n 23 ((([c0, c1, c2, c3] : List Value).drop 3).take (Try.prog.cellsOf 23)) = some y3 := h3
  rw [cellsOf9] at h0; rw [cellsOf22] at h1; rw [cellsOf4] at h2; rw [cellsOf23] at h3
  obtain ⟨k, e0, rfl, -⟩ := DataW.trod_string Try.underlying9 h0
  obtain ⟨s, e1, rfl, hs⟩ := DataW.trod_int Try.underlying22 h1
  obtain ⟨g, e2, rfl⟩ := DataW.trod_bool Try.underlying4 h2
  obtain ⟨bv, l, e3, hby, hlen⟩ := open_bytes h3
  simp at e0 e1 e2 e3
  subst e0; subst e1; subst e2; subst e3
  have hsb := bounds_u64 hs
  have hk : k.data.toList.length = k.size := by simp
  simp only [Rows.uptoBulk, Rows.uptoBulkAll] at hb
  exact ⟨⟨k, s, g, l⟩, c3, rfl, hby, ⟨hsb.1, hsb.2, by simp only; omega, by simp only; omega⟩⟩
theorem open_row {v : Value} (h : DataW.trod enc Try.prog w 0 spare held fuel 26 cs = some x) (hcs : cs = [v]) (hb : Rows.uptoBulk x.1 ≤ 1048576) : ∃ es, Row (fun k => k < w.heap.size) w v es ∧ es.length ≤ 1048576 := by
  rcases Go.Deep.open_slice Try.underlying26 h with ⟨rfl, rfl⟩ | ⟨a, len, cap, m, n, D, Pl, rfl, -, hl, -, hm, rfl, hel⟩
  · cases hcs; exact ⟨[], row_nil _ _, by simp⟩
  · cases hcs
    have hle : len ≤ m := by rw [hm]; split <;> omega
    simp only [Rows.uptoBulk] at hb
    have hlen : len ≤ 1048576 := by have := bulkAll_len ((List.range len).map D); simp at this; omega
    have hent : ∀ i, i < len → ∃ e : Ent, ∃ bv, w.cells? 0 (a.add (i * 4)) 4 = some (cellsOf e bv) ∧ Byts (fun k => k < w.heap.size) w bv e.v ∧ EntOk e := fun i hi => by
      obtain ⟨cs', h1, h2⟩ := hel i (by omega)
      rw [cellsOf25] at h1
      have := bulkAll_mem ((List.range len).map D) (D i) (List.mem_map.2 ⟨i, List.mem_range.2 hi, rfl⟩)
      obtain ⟨e, bv, rfl, h3, h4⟩ := open_ent h2 (by simp only; omega)
      exact ⟨e, bv, h1, h3, h4⟩
    refine ⟨(List.range len).map fun i => if hi : i < len then (hent i hi).choose else z0, ⟨some a, cap, by simp, by simpa using hl, by simp; omega, fun e he => ?_, fun hne => ?_⟩, by simpa using hlen⟩
    · obtain ⟨i, hi, rfl⟩ := List.mem_map.1 he
      have hlt := List.mem_range.1 hi
      rw [dif_pos hlt]
      exact (hent i hlt).choose_spec.choose_spec.2.2
    · have h0 : 0 < len := by
        rcases Nat.eq_zero_or_pos len with h | h
        · subst h; simp at hne
        · exact h
      obtain ⟨e0, bv0, h1, -⟩ := hent 0 h0
      rw [Nat.zero_mul, addr_add0] at h1
      obtain ⟨hsp, hlt, -, -⟩ := cells_at h1 (by omega)
      obtain ⟨b, o, sp⟩ := a
      simp only at hsp hlt
      subst hsp
      refine ⟨b, o, rfl, hlt, fun i e hi => ?_⟩
      have hil : i < len := by have := (List.getElem?_eq_some_iff.1 hi).1; simpa using this
      rw [List.getElem?_map, List.getElem?_range hil] at hi
      simp only [Option.map_some, Option.some.injEq, dif_pos hil] at hi
      subst hi
      have h2 := (hent i hil).choose_spec
      generalize (hent i hil).choose = e1 at h2 ⊢
      obtain ⟨bv1, h3, h4, -⟩ := h2
      obtain ⟨-, -, -, hC⟩ := cells_at h3 (by omega)
      rw [add_mk] at hC
      exact ⟨_, hC, h4⟩
end

section
variable {H : Type} {enc : TypeId × Value → H} {P : Program} {W W' : World}
theorem trodAll_stays (hl : laidOutB P = true) (hb : Below W.heap.size W W') {sp : Nat → Bool} : ∀ (ts : List TypeId) (vs : List Value) (ds : List (DataW H)) (p : List MemPlace), (∀ t ∈ ts, P.readableRec t = true ∧ t < P.types.size) → (∀ x ∈ p, x.block < W.heap.size) → (∀ x ∈ p, sp x.block = true) →
    DataW.TrodAll enc P W 0 (fun _ => true) true ts vs ds p → DataW.TrodAll enc P W' 0 sp true ts vs ds p
  | [], vs, ds, p, _, _, _, h => by
    obtain ⟨rfl, rfl, rfl⟩ := trodAll_nil h
    exact trodAll_mk0
  | t :: ts, vs, ds, p, ht, hlt, hsp, h => by
    obtain ⟨v, vs', d, ds', p1, q, rfl, rfl, rfl, h1, h2⟩ := trodAll_cons h
    exact trodAll_cons_mk (WideElems.Trod_stays hl (ht t (by simp)).1 (ht t (by simp)).2 h1 (fun x hx => hb.same (hlt x (by simp [hx]))) (fun x hx => hsp x (by simp [hx])))
      (trodAll_stays hl hb ts vs' ds' q (fun t h => ht t (by simp [h])) (fun x hx => hlt x (by simp [hx])) (fun x hx => hsp x (by simp [hx])) h2)
end
end Go.Proofs.Ytblbddamebbgaaa.K

/- Lists of lists of entries: how they lie in memory. -/
namespace Go.Proofs.Ytblbddamebbgaaa.K
open Go Go.RowKit
set_option linter.unusedVariables false
set_option linter.unusedSectionVars false
set_option linter.unusedSimpArgs false

/-- The slice v holds the lists ls. -/
def LRow (A : Nat → Prop) (w : World) (v : Value) (ls : List (List Ent)) : Prop :=
  ∃ ad cap, v = .slice ad ls.length cap ∧ ls.length ≤ cap ∧ ls.length ≤ 1099511627776 ∧ (ls ≠ [] → ∃ b o, ad = some ⟨b, o, none⟩ ∧ A b ∧ ∀ (i : Nat) (l : List Ent), ls[i]? = some l → ∃ rv, Cells w b (o + i * 1) [rv] ∧ Row A w rv l)
/-- .. in a block of the call's own. -/
structure LOwn (A : Nat → Prop) (base : Nat) (w : World) (v : Value) (ls : List (List Ent)) : Prop where
  ex : ∃ vals, vals.length = ls.length ∧ w.ownsRow base 26 1 v ls.length vals ∧ ∀ (i : Nat) (l : List Ent) (u : Value), ls[i]? = some l → vals[i]? = some u → Row (fun k => A k ∧ some k ≠ v.ownBlock) w u l
  len : ls.length ≤ 1099511627776
section
variable {A A' : Nat → Prop} {base : Nat} {w w' : World} {v : Value} {ls : List (List Ent)}
theorem LRow.ck (h : LRow A w v ls) (hk : CK A w w') : LRow A w' v ls := by
  obtain ⟨ad, cap, rfl, h1, h2, h⟩ := h
  refine ⟨ad, cap, rfl, h1, h2, fun hne => ?_⟩
  obtain ⟨b, o, rfl, hA, hr⟩ := h hne
  exact ⟨b, o, rfl, hA, fun i l hi => by obtain ⟨rv, h3, h4⟩ := hr i l hi; exact ⟨rv, h3.ck hA hk, h4.ck hk⟩⟩
theorem LRow.ext (h : LRow A w v ls) (hk : Ext w w') : LRow A w' v ls := h.ck (CK.of_ext hk)
theorem LRow.mono (h : LRow A w v ls) (hA : ∀ k, k < w.heap.size → A k → A' k) : LRow A' w v ls := by
  obtain ⟨ad, cap, rfl, h1, h2, h⟩ := h
  refine ⟨ad, cap, rfl, h1, h2, fun hne => ?_⟩
  obtain ⟨b, o, rfl, hAb, hr⟩ := h hne
  have hb : b < w.heap.size := by
    cases ls with
    | nil => exact absurd rfl hne
    | cons e es =>
      obtain ⟨rv, hc, -⟩ := hr 0 e rfl
      exact World.block_lt_of_cell? w _ (hc 0 _ rfl)
  exact ⟨b, o, rfl, hA b hb hAb, fun i l hi => by obtain ⟨rv, h3, h4⟩ := hr i l hi; exact ⟨rv, h3, h4.mono hA⟩⟩
theorem LRow.form (h : LRow A w v ls) : ∃ ad cap, v = .slice ad ls.length cap ∧ ls.length ≤ cap ∧ ls.length ≤ 1099511627776 := by
  obtain ⟨ad, cap, rfl, h1, h2, -⟩ := h
  exact ⟨ad, cap, rfl, h1, h2⟩
theorem LRow.at (h : LRow A w v ls) (i : Nat) (hi : i < ls.length) : ∃ b o cap rv, v = .slice (some ⟨b, o, none⟩) ls.length cap ∧ A b ∧ Cells w b (o + i * 1) [rv] ∧ Row A w rv ls[i] := by
  obtain ⟨ad, cap, rfl, h1, h2, h⟩ := h
  obtain ⟨b, o, rfl, hA, hr⟩ := h (by intro e; rw [e] at hi; simp at hi)
  obtain ⟨rv, h4, h5⟩ := hr i ls[i] (List.getElem?_eq_getElem hi)
  exact ⟨b, o, cap, rv, rfl, hA, h4, h5⟩
theorem Row.one {es : List Ent} (h : Row A w v es) : v.oneCell' = true := by obtain ⟨ad, cap, rfl, -⟩ := h; rfl
theorem info26 : (Try.prog.info? 26).map (fun i => (i.zero, i.size, i.bytes)) = some (some (.slice none 0 0), 1, 24) := by kernel_rfl
theorem run_cloneL {b5 : Nat} {y : Value} {ty : TypeId} (hB : Blk w b5 [] 26) (hy : LRow A w y ls) (hA : ∀ k, A k → k ≠ b5) :
    ∃ v' w', (Builtin.append_ #[65, 65] ty #[.slice (some ⟨b5, 0, none⟩) 0 0, y]).run Try.prog w = .ok v' w' ∧ LOwn A b5 w' v' ls ∧ Keep (· ≠ b5) w w' ∧ (v'.ownBlock = some b5 ∨ ∃ b, v'.ownBlock = some b ∧ w.heap.size ≤ b) := by
  obtain ⟨i0, hi, hz0, hz1, hz2⟩ := info_parts info26
  obtain ⟨ad, cap, rfl, hcap, hlen, hcell⟩ := hy
  have hown : w.ownsRow b5 26 1 (.slice (some ⟨b5, 0, none⟩) 0 0) 0 [] := ⟨rfl, .inr ⟨b5, 0, #[], rfl, Nat.le_refl _, hB, Nat.le_refl _, Nat.zero_le _, rfl, rfl⟩⟩
  cases ad with
  | none =>
    have hl0 : ls = [] := by
      cases ls with
      | nil => rfl
      | cons u l => obtain ⟨b, o, h, -⟩ := hcell (by simp); cases h
    subst hl0
    refine ⟨.slice (some ⟨b5, 0, none⟩) 0 0, w, ?_, ⟨⟨[], rfl, hown, fun i l u h => by simp at h⟩, by simp⟩, Keep.refl _ _, .inl rfl⟩
    simp [Builtin.append_, run_underlying Try.underlying65, sizeOf, typeInfo, hi, Builtin.lenOf, Builtin.firstCells, storeCells]
  | some a0 =>
    have hv : ∀ i, i < ls.length → ∃ rv, w.cell? (a0.add i) = some rv ∧ ∀ l, ls[i]? = some l → Row A w rv l := fun i hlt => by
      obtain ⟨b, o, h, -, hc⟩ := hcell (by rintro rfl; simp at hlt)
      cases h
      obtain ⟨rv, h1, h2⟩ := hc i ls[i] (List.getElem?_eq_getElem hlt)
      refine ⟨rv, ?_, fun l hl => ?_⟩
      · have := h1 0 rv rfl
        rw [Nat.mul_one, Nat.add_zero] at this
        rw [add_mk]; exact this
      · rw [List.getElem?_eq_getElem hlt] at hl; cases hl; exact h2
    let vals := (List.range ls.length).map fun i => if h : i < ls.length then (hv i h).choose else undef
    have hvl : vals.length = ls.length := by simp [vals]
    have hvat : ∀ i u, vals[i]? = some u → w.cell? (a0.add i) = some u ∧ ∀ l, ls[i]? = some l → Row A w u l := fun i u hu => by
      have hlt : i < ls.length := by have := (List.getElem?_eq_some_iff.1 hu).1; omega
      simp only [vals, List.getElem?_map, List.getElem?_range hlt, Option.map_some, Option.some.injEq, dif_pos hlt] at hu
      have := (hv i hlt).choose_spec
      rw [hu] at this
      exact this
    have hone : ∀ u ∈ vals, u.oneCell' = true := fun u hu => by
      obtain ⟨i, hi'⟩ := List.getElem?_of_mem hu
      have hlt : i < ls.length := by have := (List.getElem?_eq_some_iff.1 hi').1; omega
      exact ((hvat i u hi').2 _ (List.getElem?_eq_getElem hlt)).one
    obtain ⟨v', w', hr, ho, hg, -, hat⟩ := run_append_own_at (P := Try.prog) w b5 65 ty 26 i0 _ 1 24 Try.underlying65 hi hz0 hz1 hz2 rfl (by decide) _ 0 [] hown a0 ls.length cap vals (by rw [hvl]; omega) (fun j u hj => (hvat j u hj).1)
      hone (by unfold maxLen; omega) (by omega) (Nat.le_of_lt hB.lt)
    rw [Nat.zero_add, List.nil_append] at ho
    have hk : Keep (· ≠ b5) w w' := (Keep.grown hg).mono fun k _ h => by intro e; cases e; exact h rfl
    have hcase : v'.ownBlock = some b5 ∨ ∃ b, v'.ownBlock = some b ∧ w.heap.size ≤ b := by
      rcases hat with e | e
      · exact .inl e
      · exact .inr ⟨_, e, Nat.le_refl _⟩
    refine ⟨v', w', hr, ⟨⟨vals, hvl, ho, fun i l u hi' hu => ?_⟩, hlen⟩, hk, hcase⟩
    have h0 := ((hvat i u hu).2 l hi').mono (A' := fun k => A k ∧ k < w.heap.size) (fun k hk h => ⟨h, hk⟩)
    refine (h0.ck (CK.of_keep hk fun k _ h => hA k h.1)).mono fun k _ h => ⟨h.1, ?_⟩
    rcases hcase with e | ⟨b, e, hb⟩
    · rw [e]; intro he; cases he; exact hA _ h.1 rfl
    · rw [e]; intro he; cases he; omega
theorem lown_nil (A : Nat → Prop) (base : Nat) (w : World) : LOwn A base w (.slice none 0 0) [] := ⟨⟨[], rfl, World.ownsRow_nil w base 26 1, fun i l u h => by simp at h⟩, by simp⟩
theorem lownsRow_ck {n : Nat} {xs : List Value} (h : w.ownsRow base 26 1 v n xs) (hk : ∀ b cs, v.ownBlock = some b → w.heap[b]? = some (.cells cs 26 (0, 0)) → w'.heap[b]? = some (.cells cs 26 (0, 0))) : w'.ownsRow base 26 1 v n xs := by
  refine ⟨h.1, ?_⟩
  rcases h.2 with ⟨h1, h2⟩ | ⟨g, cap, cur, rfl, hb, hg, h1⟩
  · exact .inl ⟨h1, h2⟩
  · exact .inr ⟨g, cap, cur, rfl, hb, hk g cur rfl hg, h1⟩
theorem LOwn.keep {S : Nat → Prop} (h : LOwn A base w v ls) (hk : Keep S w w') (hv : ∀ b, v.ownBlock = some b → S b) (hA : ∀ k, k < w.heap.size → A k → S k) : LOwn A base w' v ls := by
  obtain ⟨⟨vals, h1, h2, h3⟩, h4⟩ := h
  exact ⟨⟨vals, h1, lownsRow_ck h2 (fun b cs hb hc => (hk.block b (Array.getElem?_eq_some_iff.1 hc).1 (hv b hb)).trans hc), fun i l u hi hj => (h3 i l u hi hj).ck (CK.of_keep hk (fun k hk' h => hA k hk' h.1))⟩, h4⟩
theorem LOwn.ext (h : LOwn A base w v ls) (hk : Ext w w') : LOwn A base w' v ls := h.keep hk (fun _ _ => trivial) (fun _ _ _ => trivial)
theorem LOwn.lt (h : LOwn A base w v ls) : ∀ b, v.ownBlock = some b → base ≤ b ∧ b < w.heap.size := by obtain ⟨⟨vals, h1, h2, h3⟩, h4⟩ := h; exact h2.lt
theorem LOwn.form (h : LOwn A base w v ls) : ∃ ad cap, v = .slice ad ls.length cap := by
  obtain ⟨⟨vals, h1, h2, h3⟩, h4⟩ := h
  rcases h2.2 with ⟨rfl, h⟩ | ⟨g, cap, cur, rfl, -⟩
  · exact ⟨none, 0, by rw [h]⟩
  · exact ⟨_, cap, rfl⟩
/-- Element i. -/
theorem LOwn.at (h : LOwn A base w v ls) (i : Nat) (hi : i < ls.length) : ∃ b cap rv, v = .slice (some ⟨b, 0, none⟩) ls.length cap ∧ Cells w b (0 + i * 1) [rv] ∧ Row (fun k => A k ∧ some k ≠ v.ownBlock) w rv ls[i] := by
  obtain ⟨⟨vals, h1, h2, h3⟩, h4⟩ := h
  have hc := fun g => h2.cells (g := g)
  rcases h2.2 with ⟨rfl, h⟩ | ⟨g, cap, cur, rfl, hb, hg, -⟩
  · omega
  · have hvi : vals[i]? = some (vals[i]'(by omega)) := List.getElem?_eq_getElem _
    refine ⟨g, cap, _, rfl, fun j u hj => ?_, h3 i _ _ (List.getElem?_eq_getElem hi) hvi⟩
    have : j = 0 := by have := (List.getElem?_eq_some_iff.1 hj).1; simp at this; omega
    subst this
    simp at hj
    have h5 := hc g rfl i _ hvi
    rw [add_mk] at h5
    rw [Nat.mul_one, Nat.add_zero, h5]
    exact congrArg some hj
def gOf (ad : Option Addr) : Nat := (ad.map (·.block)).getD 0
theorem LOwn.at2 {ad : Option Addr} {n cap : Nat} (h : LOwn A base w (.slice ad n cap) ls) (i : Nat) (hi : i < ls.length) : ∃ rv, ad = some ⟨gOf ad, 0, none⟩ ∧ Cells w (gOf ad) (0 + i * 1) [rv] ∧ Row (fun k => A k ∧ k ≠ gOf ad) w rv ls[i] := by
  obtain ⟨b, c, rv, e, h1, h2⟩ := h.at i hi
  cases e
  exact ⟨rv, rfl, h1, h2.mono fun k _ h => ⟨h.1, fun e => h.2 (by rw [e]; rfl)⟩⟩
theorem LOwn.blk (h : LOwn A base w v ls) : ∀ b, v.ownBlock = some b → ∃ cs, Blk w b cs 26 := by
  obtain ⟨⟨vals, h1, h2, h3⟩, h4⟩ := h
  intro b hb
  rcases h2.2 with ⟨rfl, _⟩ | ⟨g, cap, cur, rfl, -, hg, -⟩
  · cases hb
  · cases hb; exact ⟨cur.toList, by simpa [Blk] using hg⟩
/-- A list is put at place i. -/
theorem LOwn.put {ad : Option Addr} {n cap : Nat} (h : LOwn A base w (.slice ad n cap) ls) (i : Nat) (hi : i < ls.length) : ∃ cs, Blk w (gOf ad) cs 26 ∧ Nat.blt (0 + i * 1) cs.length = true ∧
    ∀ w' u l, Blk w' (gOf ad) (cs.set (0 + i * 1) u) 26 → Keep (· ≠ gOf ad) w w' → Row (fun k => A k ∧ k ≠ gOf ad) w' u l → LOwn A base w' (.slice ad n cap) (ls.set i l) := by
  obtain ⟨⟨vals, h1, h2, h3⟩, h4⟩ := h
  rcases h2.2 with ⟨he, h⟩ | ⟨g, c, cur, he, hb, hg, hc1, hc2, hc3, hc4⟩
  · omega
  · cases he
    refine ⟨cur.toList, by simpa [Blk, gOf] using hg, by simp; omega, fun w' u l hB hk hr => ⟨⟨vals.set i u, by simpa using h1, ⟨by simpa using h2.1, .inr ⟨g, cap, cur.setIfInBounds i u, by simp, hb, ?_, by simpa using hc1, hc2, by simpa using hc3, ?_⟩⟩, fun j l' u' hj hu => ?_⟩, by simpa using h4⟩⟩
    · have : (0 + i * 1) = i := by omega
      rw [this] at hB
      unfold Blk at hB
      show w'.heap[g]? = _
      rw [show gOf (some ⟨g, 0, none⟩) = g from rfl] at hB
      rw [hB, show (cur.toList.set i u).toArray = cur.setIfInBounds i u from by rw [← Array.toList_inj]; simp]
    · simp only [Array.toList_setIfInBounds, List.length_set]
      rw [List.take_set, hc4]
    · by_cases e : i = j
      · subst e
        rw [List.getElem?_set_self (by omega)] at hj hu
        cases hj; cases hu
        exact hr.mono fun k _ h => ⟨h.1, fun e => h.2 (by cases e; rfl)⟩
      · rw [List.getElem?_set_ne e] at hj hu
        exact ((h3 j l' u' hj hu).ck (CK.of_keep hk fun k _ h e => h.2 (by rw [e]; rfl)))
end
theorem Row.tail {A : Nat → Prop} {w : World} {a : Option Addr} {n c : Nat} {x : Ent} {t : List Ent} (h : Row A w (.slice a n c) (x :: t)) : Row A w (.slice (if c = 1 then a else a.map (·.add (1 * 4))) (n - 1) (c - 1)) t := by
  obtain ⟨ad', cap', e, h1, h2, h3, h⟩ := h
  cases e
  simp only [List.length_cons] at h1 h2
  refine ⟨_, _, by rw [List.length_cons, Nat.add_sub_cancel], by omega, by omega, fun y hy => h3 y (by simp [hy]), fun hne => ?_⟩
  obtain ⟨b, o, rfl, hA, hr⟩ := h (by simp)
  have ht : 0 < t.length := List.length_pos_iff.2 hne
  refine ⟨b, o + 1 * 4, by rw [if_neg (by omega)]; simp [add_mk], hA, fun i y hi => ?_⟩
  obtain ⟨bv, h4, h5⟩ := hr (i + 1) y (by simpa using hi)
  exact ⟨bv, by rw [show o + 1 * 4 + i * 4 = o + (i + 1) * 4 from by omega]; exact h4, h5⟩
section
variable {F : Fence} {n : Nat} {Q : Exit → Act → World → Prop} {m : Nat} {D : List Deferred} {L : Env} {w w' : World} {ops rest : List Oper} {d : Nat} {ty : TypeId} {pos : String} {af : Array Edge} {g : Option (Nat × Bool)} {x y : Operand}
theorem wl_cloneL {b5 : Nat} {v : Value} {ls : List (List Ent)} {A : Nat → Prop} (hW : Wd F) (hg : wants L ops g = some true) (hd : Nat.blt d m = true) (hx : ev L x = some (.slice (some ⟨b5, 0, none⟩) 0 0)) (hy : ev L y = some v)
    (hB : Blk w b5 [] 26) (hv : LRow A w v ls) (hA : ∀ k, A k → k ≠ b5) (k : ∀ v' w', LOwn A b5 w' v' ls → Keep (· ≠ b5) w w' → (v'.ownBlock = some b5 ∨ ∃ b, v'.ownBlock = some b ∧ w.heap.size ≤ b) → WL F n Try.prog Q m D ops rest ((d, v') :: L) w') :
    WL F n Try.prog Q m D ops (⟨some d, .call ⟨.builtin .append, #[x, y], #[65, 65]⟩, ty, pos, af, g⟩ :: rest) L w := by
  obtain ⟨v', w', hr, ho, hk, hc⟩ := run_cloneL (ty := ty) hB hv hA
  refine wl_val hW hg hd ⟨nofun, fun _ _ _ _ a h => ?_⟩ (k v' w' ho hk hc)
  simp [execOp, resolve, h.ev hx, h.ev hy, invoke, builtin, hr]
end
end Go.Proofs.Ytblbddamebbgaaa.K

/- The plain law of pruning: pruned again it stays; nothing changes of what may be seen. -/
namespace Go.Proofs.Ytblbddamebbgaaa.K
open Go Go.RowKit
set_option linter.unusedVariables false
set_option linter.unusedSectionVars false
set_option linter.unusedSimpArgs false

theorem seenG_cons_hit {up : Int} {e : Ent} {g : List Ent} (h : e.s ≤ up) : seenG up (e :: g) = if e.g then [] else [e] := by
  have : newestN up (e :: g) = 0 := by simp [newestN, h]
  simp [seenG, this]
theorem seenG_cons_miss {up : Int} {e : Ent} {g : List Ent} (h : ¬ e.s ≤ up) : seenG up (e :: g) = seenG up g := by
  have : newestN up (e :: g) = newestN up g + 1 := by simp [newestN, h]
  simp [seenG, this]
theorem leftN_cons_hit {keep : Int} {bottom : Bool} {e : Ent} {g : List Ent} (h : e.s ≤ keep) : leftN keep bottom (e :: g) = if e.g && bottom then 0 else 1 := by
  have : newestN keep (e :: g) = 0 := by simp [newestN, h]
  simp [leftN, this]
theorem leftN_cons_miss {keep : Int} {bottom : Bool} {e : Ent} {g : List Ent} (h : ¬ e.s ≤ keep) : leftN keep bottom (e :: g) = leftN keep bottom g + 1 := by
  have : newestN keep (e :: g) = newestN keep g + 1 := by simp [newestN, h]
  simp only [leftN, this, List.getElem?_cons_succ]
  split
  · split <;> rfl
  · rfl
theorem seenG_left {keep up : Int} {bottom : Bool} (hk : keep ≤ up) : ∀ g : List Ent, seenG up (g.take (leftN keep bottom g)) = seenG up g
  | [] => by simp
  | e :: g => by
    by_cases h : e.s ≤ keep
    · rw [leftN_cons_hit h, seenG_cons_hit (show e.s ≤ up by omega)]
      by_cases hg : (e.g && bottom) = true
      · rw [if_pos hg]
        have : e.g = true := by revert hg; cases e.g <;> simp
        simp [this, seenG]
      · rw [if_neg hg]
        simp only [List.take_succ_cons, List.take_zero]
        exact seenG_cons_hit (by omega)
    · rw [leftN_cons_miss h, List.take_succ_cons]
      by_cases h2 : e.s ≤ up
      · rw [seenG_cons_hit h2, seenG_cons_hit h2]
      · rw [seenG_cons_miss h2, seenG_cons_miss h2, seenG_left hk g]
theorem left_left {keep : Int} {bottom : Bool} : ∀ g : List Ent, (g.take (leftN keep bottom g)).take (leftN keep bottom (g.take (leftN keep bottom g))) = g.take (leftN keep bottom g)
  | [] => by simp
  | e :: g => by
    by_cases h : e.s ≤ keep
    · rw [leftN_cons_hit h]
      by_cases hg : (e.g && bottom) = true
      · rw [if_pos hg]; simp
      · rw [if_neg hg]
        simp only [List.take_succ_cons, List.take_zero]
        rw [leftN_cons_hit h, if_neg hg]
        simp
    · rw [leftN_cons_miss h, List.take_succ_cons, leftN_cons_miss h, List.take_succ_cons, left_left g]
theorem rLeft_sub (keep : Int) (bottom : Bool) : ∀ (pk : Option ByteArray) (d : Bool) (es : List Ent), (rLeft keep bottom pk d es).Sublist es
  | _, _, [] => by simp [rLeft]
  | pk, d, e :: es => by
    simp only [rLeft]
    split
    · exact (rLeft_sub keep bottom _ _ es).cons_cons e
    · split
      · exact (rLeft_sub keep bottom _ _ es).cons_cons e
      · exact (rLeft_sub keep bottom _ _ es).cons e
theorem rLeft_join (keep : Int) (bottom : Bool) {k : ByteArray} {h r : List Ent} (hk : ∀ e ∈ h, e.k = k) (hf : Fall h) (hr : ∀ e, r.head? = some e → e.k ≠ k) : rLeft keep bottom none false (h ++ r) = h.take (leftN keep bottom h) ++ rLeft keep bottom none false r := by
  cases h with
  | nil => simp
  | cons e h =>
    have he := hk e (by simp)
    rw [List.cons_append, rLeft_start, ← List.cons_append, he]
    obtain ⟨d, hd⟩ := rLeft_grp keep bottom k r (e :: h) hk hf
    rw [hd, rLeft_fresh keep bottom k d r hr]
theorem rSeen_join (up : Int) {k : ByteArray} {h r : List Ent} (hk : ∀ e ∈ h, e.k = k) (hr : ∀ e, r.head? = some e → e.k ≠ k) : rSeen up none false (h ++ r) = seenG up h ++ rSeen up none false r := by
  cases h with
  | nil => simp [seenG]
  | cons e h =>
    have he := hk e (by simp)
    rw [List.cons_append, rSeen_start, ← List.cons_append, he, rSeen_grp up k r (e :: h) hk, rSeen_fresh up k _ r hr]
/-- A sorted list: its first group, and the rest, which is of other keys. -/
theorem sorted_split {e : Ent} {es : List Ent} (hs : Sorted (e :: es)) : ∃ g r, e :: es = g ++ r ∧ g ≠ [] ∧ (∀ x ∈ g, x.k = e.k) ∧ (∀ x ∈ r, x.k ≠ e.k) ∧ Fall g ∧ Sorted r := by
  have happ := List.takeWhile_append_dropWhile (p := fun x : Ent => decide (x.k = e.k)) (l := es)
  have hall : ∀ x ∈ e :: es.takeWhile (fun x => decide (x.k = e.k)), x.k = e.k := fun x hx => by
    rcases List.mem_cons.1 hx with rfl | hx
    · rfl
    · exact grps_all x hx
  have hso2 : Sorted ((e :: es.takeWhile fun x => decide (x.k = e.k)) ++ es.dropWhile fun x => decide (x.k = e.k)) := by rw [List.cons_append, happ]; exact hs
  obtain ⟨hs1, hs2, hs3⟩ := List.pairwise_append.1 hso2
  refine ⟨_, _, by rw [List.cons_append, happ], by simp, hall, fun x hx hxk => ?_, fall_of hall hs1, hs2⟩
  cases hr : es.dropWhile (fun x => decide (x.k = e.k)) with
  | nil => rw [hr] at hx; simp at hx
  | cons y r =>
    have hy : y.k ≠ e.k := by simpa using head_drop (p := fun x => decide (x.k = e.k)) (e := y) es (by rw [hr]; rfl)
    rw [hr] at hx hs2
    have h1 := hs3 e (by simp) y (by rw [hr]; simp)
    have h2 : bl e.k.toList y.k.toList = true := by
      rcases h1 with h | ⟨h, -⟩
      · exact h
      · exact absurd h.symm hy
    rcases List.mem_cons.1 hx with rfl | hx
    · exact hy hxk
    · rcases (List.pairwise_cons.1 hs2).1 x hx with h | ⟨h, -⟩
      · have := bl_trans _ _ _ h2 h
        rw [hxk, bl_irrefl] at this; cases this
      · exact hy (by rw [h, hxk])
theorem head_mem {r : List Ent} {e : Ent} (h : r.head? = some e) : e ∈ r := List.mem_of_head? h
theorem prune_law {keep up : Int} {bottom : Bool} (hk : keep ≤ up) : ∀ (n : Nat) (es : List Ent), es.length ≤ n → Sorted es →
    rSeen up none false (rLeft keep bottom none false es) = rSeen up none false es ∧ rLeft keep bottom none false (rLeft keep bottom none false es) = rLeft keep bottom none false es
  | _, [], _, _ => ⟨rfl, rfl⟩
  | 0, e :: es, h, _ => by simp at h
  | n + 1, e :: es, h, hs => by
    obtain ⟨g, r, he, hg, hgk, hrk, hf, hsr⟩ := sorted_split hs
    have hl : r.length ≤ n := by
      have h1 := congrArg List.length he
      have h2 : 0 < g.length := List.length_pos_iff.2 hg
      simp only [List.length_cons, List.length_append] at h1 h
      omega
    obtain ⟨i1, i2⟩ := prune_law hk n r hl hsr
    have hrh : ∀ x, r.head? = some x → x.k ≠ e.k := fun x hx => hrk x (head_mem hx)
    have hrh' : ∀ x, (rLeft keep bottom none false r).head? = some x → x.k ≠ e.k := fun x hx => hrk x ((rLeft_sub keep bottom none false r).subset (head_mem hx))
    have hhk : ∀ x ∈ g.take (leftN keep bottom g), x.k = e.k := fun x hx => hgk x (List.mem_of_mem_take hx)
    have hhf : Fall (g.take (leftN keep bottom g)) := hf.sublist (List.take_sublist _ _)
    rw [he, rLeft_join keep bottom hgk hf hrh]
    constructor
    · rw [rSeen_join up hhk hrh', rSeen_join up hgk hrh, seenG_left hk, i1]
    · rw [rLeft_join keep bottom hhk hhf hrh', left_left, i2]
theorem left_right {keep : Int} {bottom : Bool} {es : List Ent} (h : rightB es = true) : rightB (leftL keep bottom es) = true := by
  obtain ⟨h1, h2⟩ := rightB_iff.1 h
  rw [← rLeft_is keep bottom es h2]
  have hs := rLeft_sub keep bottom none false es
  exact rightB_iff.2 ⟨fun e he => h1 e (hs.subset he), List.Pairwise.sublist hs h2⟩
theorem seen_left {keep up : Int} {bottom : Bool} {es : List Ent} (hk : keep ≤ up) (h : rightB es = true) : seenL up es = seenL up (leftL keep bottom es) := by
  have h2 := (rightB_iff.1 h).2
  have := (prune_law (bottom := bottom) hk es.length es (Nat.le_refl _) h2).1
  rw [rLeft_is keep bottom es h2, rSeen_is, rSeen_is] at this
  exact this.symm
end Go.Proofs.Ytblbddamebbgaaa.K
