/- Walks: the document's own functions on entries, and the laws' helpers. -/
import Derived.Test.YtblbddamebbgaaaKj
import Derived.Test.YtblbddamebbgaaaKs
namespace Go.Proofs.Ytblbddamebbgaaa.K
open Go Go.RowKit
set_option linter.unusedVariables false
set_option linter.unusedSimpArgs false

theorem C17 {A : Nat → Prop} {w : World} {v : Value} {es : List Ent} {m : Int} (hR : Row A w v es) : Rt Try.prog 17 [v, .int .i64 m] w fun r w' => (∃ b, r = .bool b ∧ (b = true → (es.length : Int) ≤ m)) ∧ Ext w w' := by
  obtain ⟨ad, cap, rfl, hcap, hlen⟩ := hR.form
  have hW := hWw
  have hFF := hFw
  have hE : Ext w w := Keep.refl _ _
  refine rt_body Try.func17 rfl Try.ntmps17 rfl ?_
  refine wc_seq ?_
  refine wc_region ?_
  refine wl_val hW rfl rfl (x_assign rfl) ?_
  refine wl_nil ?_
  refine nx_then ?_
  refine wc_seq ?_
  refine wc_region ?_
  refine wl_val hW rfl rfl (x_assign rfl) ?_
  refine wl_nil ?_
  refine nx_then ?_
  refine wc_seq ?_
  refine wc_seq ?_
  refine wc_region ?_
  refine wl_val hW rfl rfl (x_assign rfl) ?_
  refine wl_nil ?_
  refine nx_then ?_
  refine wc_block ?_
  refine wc_loop (σ := Nat × Nat) (fun s => [(0, .slice ad es.length cap), (1, .int .i64 m), (5, .int .i64 s.2), (6, .int .i64 s.1)]) (fun s w' => (s.1 ≤ es.length ∧ s.2 ≤ s.1 * 2097152) ∧ Ext w w') (fun s => es.length - s.1) (0, 0) ?_ ?_ ?_
  · exact ⟨⟨Nat.zero_le _, Nat.zero_le _⟩, hE⟩
  · repeat (first | exact sub_nil | refine sub_cons rfl ?_)
  · rintro ⟨s, t⟩ wr ⟨hs, hE⟩
    dsimp only at hs
    refine wc_seq ?_
    refine wc_seq ?_
    refine wc_region ?_
    refine wl_val hW rfl rfl (x_move rfl) ?_
    refine wl_val hW rfl rfl (x_move rfl) ?_
    refine wl_val hW rfl rfl (x_len Try.underlying26 rfl) ?_
    refine wl_val hW rfl rfl (x_lss rfl rfl) ?_
    refine wl_nil ?_
    refine nx_then ?_
    refine wc_dec rfl (fun hc => ?_) (fun hc => ?_)
    · replace hc : ((s : Nat) : Int) < es.length := hc
      refine wc_skip ?_
      refine nx_then ?_
      refine wc_seq ?_
      refine wc_block ?_
      refine wc_draw' 15 hW mixed (by kernel_rfl) (fun w0 hx0 => ?_)
      replace hE := hE.trans hx0
      have hlt : s < es.length := by omega
      obtain ⟨b, o, cap', bv, e1, hA, hC16, hb1, hok1⟩ := (hR.ext hE).at s hlt
      cases e1
      obtain ⟨av, cv, hbv, hcv⟩ := hb1.form
      subst hbv
      have hC23 := hC16
      have hok2 := hok1.k
      have hok3 := hok1.v
      refine q_val rfl rfl (fun _ hx => x_move rfl) ?_
      refine q_val rfl rfl (fun _ hx => x_move rfl) ?_
      refine q_val rfl rfl (fun _ hx => x_move rfl) ?_
      refine q_val rfl rfl (fun _ hx => x_indexAddr Try.underlying26 ag25.siz rfl rfl (by omega) (by omega)) ?_
      refine q_val rfl rfl (fun _ hx => x_fieldAddr Try.underlying25 rfl fl9.siz rfl) ?_
      refine q_val rfl rfl (fun _ hx => x_load fl9 rfl (hx.cell (hC16 0 _ rfl))) ?_
      refine q_val rfl rfl (fun _ hx => x_lens Try.underlying9 rfl) ?_
      refine q_val rfl rfl (fun _ hx => x_addn (i := t) (j := es[s].k.size) rfl rfl (by omega)) ?_
      refine q_val rfl rfl (fun _ hx => x_move rfl) ?_
      refine q_val rfl rfl (fun _ hx => x_move rfl) ?_
      refine q_val rfl rfl (fun _ hx => x_indexAddr Try.underlying26 ag25.siz rfl rfl (by omega) (by omega)) ?_
      refine q_val rfl rfl (fun _ hx => x_fieldAddr Try.underlying25 rfl fl23.siz rfl) ?_
      refine q_val rfl rfl (fun _ hx => x_load fl23 rfl (hx.cell (hC23 3 _ rfl))) ?_
      refine q_val rfl rfl (fun _ hx => x_len Try.underlying23 rfl) ?_
      refine q_val rfl rfl (fun _ hx => x_addn (i := t + es[s].k.size) (j := es[s].v.length) rfl rfl (by omega)) ?_
      refine q_nil (tail0 (fun wt hxt => ?_))
      replace hE := hE.trans hxt
      refine wl_val hW rfl rfl (x_assign rfl) ?_
      refine wl_nil ?_
      refine nx_block ?_
      refine nx_then ?_
      refine wc_region ?_
      refine wl_val hW rfl rfl (x_move rfl) ?_
      refine wl_val hW rfl rfl (x_inc (s := s) rfl (by omega)) ?_
      refine wl_val hW rfl rfl (x_assign rfl) ?_
      refine wl_nil ?_
      exact nx_next (s + 1, t + es[s].k.size + es[s].v.length) (by dsimp only; omega) ⟨⟨by dsimp only; omega, by dsimp only; omega⟩, hE⟩ (by repeat (first | exact sub_nil | refine sub_cons rfl ?_))
    · refine wc_exit ?_
      refine nx_then_exit ?_
      refine nx_then_exit ?_
      refine nx_block_exit ?_
      refine nx_then ?_
      refine wc_seq ?_
      refine wc_cut [(4, .bool (decide ((es.length : Int) ≤ m) && decide ((t : Int) ≤ 131072)))] (fun w' => w' = wr) ?_ ?_
      · refine wc_region ?_
        refine wl_val hW rfl rfl (x_move rfl) ?_
        refine wl_val hW rfl rfl (x_len Try.underlying26 rfl) ?_
        refine wl_val hW rfl rfl (x_move rfl) ?_
        refine wl_val hW rfl rfl (x_leq rfl rfl) ?_
        refine wl_val hW rfl rfl (x_move rfl) ?_
        refine wl_dcases (d := 32) rfl (fun hg32 => ?_) (fun hg32 => ?_)
        · refine wl_val hW rfl rfl (x_move rfl) ?_
          refine wl_val hW rfl rfl (x_leq rfl rfl) ?_
          refine wl_val hW rfl rfl (x_pickT rfl rfl) ?_
          refine wl_val hW rfl rfl (x_assign rfl) ?_
          refine wl_nil ?_
          exact nx_cut (by rw [decide_eq_true hg32, Bool.true_and]; repeat (first | exact sub_nil | refine sub_cons rfl ?_)) rfl
        · refine wl_off hW rfl rfl ?_
          refine wl_off hW rfl rfl ?_
          refine wl_val hW rfl rfl (x_pickF rfl rfl) ?_
          refine wl_val hW rfl rfl (x_assign rfl) ?_
          refine wl_nil ?_
          exact nx_cut (by rw [decide_eq_false hg32, Bool.false_and]; repeat (first | exact sub_nil | refine sub_cons rfl ?_)) rfl
      · rintro w' rfl
        refine nx_then ?_
        refine wc_ret ?_
        exact ends_ret (res_tmp Try.results17 rfl) ⟨⟨_, rfl, fun h => by simp only [Bool.and_eq_true, decide_eq_true_eq] at h; exact h.1⟩, hE⟩
theorem C19 {w : World} {av bv : Value} {a b : Ent} : Rt Try.prog 19 [.agg (cellsOf a av).toArray, .agg (cellsOf b bv).toArray] w fun r w' => r = .int .i64 (cmpE a b) ∧ Ext w w' := by
  have hW := hWw
  have hFF := hFw
  have hE : Ext w w := Keep.refl _ _
  refine rt_body Try.func19 rfl Try.ntmps19 rfl ?_
  refine wc_seq ?_
  refine wc_region ?_
  refine wl_box hW rfl rfl rfl rfl ?_
  intro b2 w2 hl2 hB2 hx2
  have g2 : w.heap.size ≤ b2 := Nat.le_trans hE.size hl2
  replace hE := hE.trans hx2
  refine wl_box hW rfl rfl rfl rfl ?_
  intro b3 w3 hl3 hB3 hx3
  have g3 : w.heap.size ≤ b3 := Nat.le_trans hE.size hl3
  have n3_2 : b3 ≠ b2 := Nat.ne_of_gt (Nat.lt_of_lt_of_le hB2.lt hl3)
  replace hB2 := hB2.ext hx3
  replace hE := hE.trans hx3
  refine wl_val hW rfl rfl (x_assign rfl) ?_
  refine wl_nil ?_
  refine nx_then ?_
  refine wc_seq ?_
  refine wc_seq ?_
  refine wc_region ?_
  refine wl_val hW rfl rfl (x_fieldAddr Try.underlying25 rfl fl9.siz rfl) ?_
  refine wl_val hW rfl rfl (x_load fl9 rfl (hB2.cell (o := 0) rfl)) ?_
  refine wl_val hW rfl rfl (x_fieldAddr Try.underlying25 rfl fl9.siz rfl) ?_
  refine wl_val hW rfl rfl (x_load fl9 rfl (hB3.cell (o := 0) rfl)) ?_
  refine wl_val hW rfl rfl (x_slss rfl rfl) ?_
  refine wl_nil ?_
  refine nx_then ?_
  refine wc_bool rfl (fun hc => ?_) (fun hc => ?_)
  · refine wc_seq ?_
    refine wc_region ?_
    refine wl_val hW rfl rfl (x_assign rfl) ?_
    refine wl_nil ?_
    refine nx_then ?_
    refine wc_ret ?_
    refine nx_then_ret ?_
    exact ends_ret (res_tmp Try.results19 rfl) ⟨by rw [cmpE_1 hc], hE⟩
  · have hc1 := hc
    refine wc_skip ?_
    refine nx_then ?_
    refine wc_seq ?_
    refine wc_seq ?_
    refine wc_region ?_
    refine wl_val hW rfl rfl (x_fieldAddr Try.underlying25 rfl fl9.siz rfl) ?_
    refine wl_val hW rfl rfl (x_load fl9 rfl (hB2.cell (o := 0) rfl)) ?_
    refine wl_val hW rfl rfl (x_fieldAddr Try.underlying25 rfl fl9.siz rfl) ?_
    refine wl_val hW rfl rfl (x_load fl9 rfl (hB3.cell (o := 0) rfl)) ?_
    refine wl_val hW rfl rfl (x_sgtr rfl rfl) ?_
    refine wl_nil ?_
    refine nx_then ?_
    refine wc_bool rfl (fun hc => ?_) (fun hc => ?_)
    · refine wc_seq ?_
      refine wc_region ?_
      refine wl_val hW rfl rfl (x_assign rfl) ?_
      refine wl_nil ?_
      refine nx_then ?_
      refine wc_ret ?_
      refine nx_then_ret ?_
      exact ends_ret (res_tmp Try.results19 rfl) ⟨by rw [cmpE_2 hc1 hc], hE⟩
    · have hc2 := hc
      refine wc_skip ?_
      refine nx_then ?_
      refine wc_seq ?_
      refine wc_seq ?_
      refine wc_region ?_
      refine wl_val hW rfl rfl (x_fieldAddr Try.underlying25 rfl fl22.siz rfl) ?_
      refine wl_val hW rfl rfl (x_load fl22 rfl (hB2.cell (o := 1) rfl)) ?_
      refine wl_val hW rfl rfl (x_fieldAddr Try.underlying25 rfl fl22.siz rfl) ?_
      refine wl_val hW rfl rfl (x_load fl22 rfl (hB3.cell (o := 1) rfl)) ?_
      refine wl_val hW rfl rfl (x_gtr rfl rfl) ?_
      refine wl_nil ?_
      refine nx_then ?_
      refine wc_dec rfl (fun hc => ?_) (fun hc => ?_)
      · refine wc_seq ?_
        refine wc_region ?_
        refine wl_val hW rfl rfl (x_assign rfl) ?_
        refine wl_nil ?_
        refine nx_then ?_
        refine wc_ret ?_
        refine nx_then_ret ?_
        exact ends_ret (res_tmp Try.results19 rfl) ⟨by rw [cmpE_3 hc1 hc2]; unfold cmpI; rw [if_pos hc], hE⟩
      · have hc3 := hc
        refine wc_skip ?_
        refine nx_then ?_
        refine wc_seq ?_
        refine wc_seq ?_
        refine wc_region ?_
        refine wl_val hW rfl rfl (x_fieldAddr Try.underlying25 rfl fl22.siz rfl) ?_
        refine wl_val hW rfl rfl (x_load fl22 rfl (hB2.cell (o := 1) rfl)) ?_
        refine wl_val hW rfl rfl (x_fieldAddr Try.underlying25 rfl fl22.siz rfl) ?_
        refine wl_val hW rfl rfl (x_load fl22 rfl (hB3.cell (o := 1) rfl)) ?_
        refine wl_val hW rfl rfl (x_lss rfl rfl) ?_
        refine wl_nil ?_
        refine nx_then ?_
        refine wc_dec rfl (fun hc => ?_) (fun hc => ?_)
        · refine wc_seq ?_
          refine wc_region ?_
          refine wl_val hW rfl rfl (x_assign rfl) ?_
          refine wl_nil ?_
          refine nx_then ?_
          refine wc_ret ?_
          refine nx_then_ret ?_
          exact ends_ret (res_tmp Try.results19 rfl) ⟨by rw [cmpE_3 hc1 hc2]; unfold cmpI; rw [if_neg hc3, if_pos hc], hE⟩
        · refine wc_skip ?_
          refine nx_then ?_
          refine wc_seq ?_
          refine wc_region ?_
          refine wl_val hW rfl rfl (x_assign rfl) ?_
          refine wl_nil ?_
          refine nx_then ?_
          refine wc_ret ?_
          exact ends_ret (res_tmp Try.results19 rfl) ⟨by rw [cmpE_3 hc1 hc2]; unfold cmpI; rw [if_neg hc3, if_neg hc], hE⟩
theorem C38 {A : Nat → Prop} {w : World} {av bv : Value} {a b : Ent} (ha : Byts A w av a.v) (hb : Byts A w bv b.v) : Rt Try.prog 38 [.agg (cellsOf a av).toArray, .agg (cellsOf b bv).toArray] w fun r w' => r = .bool (sameB a b) ∧ Ext w w' := by
  have hW := hWw
  have hFF := hFw
  have hE : Ext w w := Keep.refl _ _
  refine rt_body Try.func38 rfl Try.ntmps38 rfl ?_
  refine wc_seq ?_
  refine wc_region ?_
  refine wl_box hW rfl rfl rfl rfl ?_
  intro b2 w2 hl2 hB2 hx2
  have g2 : w.heap.size ≤ b2 := Nat.le_trans hE.size hl2
  replace hE := hE.trans hx2
  refine wl_box hW rfl rfl rfl rfl ?_
  intro b3 w3 hl3 hB3 hx3
  have g3 : w.heap.size ≤ b3 := Nat.le_trans hE.size hl3
  have n3_2 : b3 ≠ b2 := Nat.ne_of_gt (Nat.lt_of_lt_of_le hB2.lt hl3)
  replace hB2 := hB2.ext hx3
  replace hE := hE.trans hx3
  refine wl_val hW rfl rfl (x_assign rfl) ?_
  refine wl_nil ?_
  refine nx_then ?_
  refine wc_seq ?_
  have hE1 := hE
  refine wc_cut [(4, .bool (sameB a b))] (fun w' => w' = w3) ?_ ?_
  · refine wc_region ?_
    refine wl_val hW rfl rfl (x_fieldAddr Try.underlying25 rfl fl9.siz rfl) ?_
    refine wl_val hW rfl rfl (x_load fl9 rfl (hB2.cell (o := 0) rfl)) ?_
    refine wl_val hW rfl rfl (x_fieldAddr Try.underlying25 rfl fl9.siz rfl) ?_
    refine wl_val hW rfl rfl (x_load fl9 rfl (hB3.cell (o := 0) rfl)) ?_
    refine wl_val hW rfl rfl (x_seql rfl rfl) ?_
    refine wl_val hW rfl rfl (x_move rfl) ?_
    refine wl_bcases (d := 10) rfl (fun hg10 => ?_) (fun hg10 => ?_)
    · refine wl_val hW rfl rfl (x_fieldAddr Try.underlying25 rfl fl22.siz rfl) ?_
      refine wl_val hW rfl rfl (x_load fl22 rfl (hB2.cell (o := 1) rfl)) ?_
      refine wl_val hW rfl rfl (x_fieldAddr Try.underlying25 rfl fl22.siz rfl) ?_
      refine wl_val hW rfl rfl (x_load fl22 rfl (hB3.cell (o := 1) rfl)) ?_
      refine wl_val hW rfl rfl (x_eql rfl rfl) ?_
      refine wl_val hW rfl rfl (x_pickT rfl rfl) ?_
      refine wl_val hW rfl rfl (x_move rfl) ?_
      refine wl_dcases (d := 17) rfl (fun hg17 => ?_) (fun hg17 => ?_)
      · refine wl_val hW rfl rfl (x_fieldAddr Try.underlying25 rfl fl4.siz rfl) ?_
        refine wl_val hW rfl rfl (x_load fl4 rfl (hB2.cell (o := 2) rfl)) ?_
        refine wl_val hW rfl rfl (x_fieldAddr Try.underlying25 rfl fl4.siz rfl) ?_
        refine wl_val hW rfl rfl (x_load fl4 rfl (hB3.cell (o := 2) rfl)) ?_
        refine wl_val hW rfl rfl (x_beql rfl rfl Try.underlying4) ?_
        refine wl_val hW rfl rfl (x_pickT rfl rfl) ?_
        refine wl_val hW rfl rfl (x_move rfl) ?_
        refine wl_bcases (d := 24) rfl (fun hg24 => ?_) (fun hg24 => ?_)
        · refine wl_val hW rfl rfl (x_fieldAddr Try.underlying25 rfl fl23.siz rfl) ?_
          refine wl_val hW rfl rfl (x_load fl23 rfl (hB2.cell (o := 3) rfl)) ?_
          refine wl_val hW rfl rfl (x_convB rfl (ha.ext hE)) ?_
          refine wl_val hW rfl rfl (x_fieldAddr Try.underlying25 rfl fl23.siz rfl) ?_
          refine wl_val hW rfl rfl (x_load fl23 rfl (hB3.cell (o := 3) rfl)) ?_
          refine wl_val hW rfl rfl (x_convB rfl (hb.ext hE)) ?_
          refine wl_val hW rfl rfl (x_seql rfl rfl) ?_
          refine wl_val hW rfl rfl (x_pickT rfl rfl) ?_
          refine wl_val hW rfl rfl (x_assign rfl) ?_
          refine wl_nil ?_
          exact nx_cut (by unfold sameB; rw [hg10, decide_eq_true hg17, hg24]; repeat (first | exact sub_nil | refine sub_cons rfl ?_)) rfl
        · refine wl_off hW rfl rfl ?_
          refine wl_off hW rfl rfl ?_
          refine wl_off hW rfl rfl ?_
          refine wl_off hW rfl rfl ?_
          refine wl_off hW rfl rfl ?_
          refine wl_off hW rfl rfl ?_
          refine wl_off hW rfl rfl ?_
          refine wl_val hW rfl rfl (x_pickF rfl rfl) ?_
          refine wl_val hW rfl rfl (x_assign rfl) ?_
          refine wl_nil ?_
          exact nx_cut (by unfold sameB; rw [hg10, decide_eq_true hg17, hg24]; repeat (first | exact sub_nil | refine sub_cons rfl ?_)) rfl
      · refine wl_off hW rfl rfl ?_
        refine wl_off hW rfl rfl ?_
        refine wl_off hW rfl rfl ?_
        refine wl_off hW rfl rfl ?_
        refine wl_off hW rfl rfl ?_
        refine wl_val hW rfl rfl (x_pickF rfl rfl) ?_
        refine wl_val hW rfl rfl (x_move rfl) ?_
        refine wl_off hW rfl rfl ?_
        refine wl_off hW rfl rfl ?_
        refine wl_off hW rfl rfl ?_
        refine wl_off hW rfl rfl ?_
        refine wl_off hW rfl rfl ?_
        refine wl_off hW rfl rfl ?_
        refine wl_off hW rfl rfl ?_
        refine wl_val hW rfl rfl (x_pickF rfl rfl) ?_
        refine wl_val hW rfl rfl (x_assign rfl) ?_
        refine wl_nil ?_
        exact nx_cut (by unfold sameB; rw [hg10, decide_eq_false hg17]; repeat (first | exact sub_nil | refine sub_cons rfl ?_)) rfl
    · refine wl_off hW rfl rfl ?_
      refine wl_off hW rfl rfl ?_
      refine wl_off hW rfl rfl ?_
      refine wl_off hW rfl rfl ?_
      refine wl_off hW rfl rfl ?_
      refine wl_val hW rfl rfl (x_pickF rfl rfl) ?_
      refine wl_val hW rfl rfl (x_move rfl) ?_
      refine wl_off hW rfl rfl ?_
      refine wl_off hW rfl rfl ?_
      refine wl_off hW rfl rfl ?_
      refine wl_off hW rfl rfl ?_
      refine wl_off hW rfl rfl ?_
      refine wl_val hW rfl rfl (x_pickF rfl rfl) ?_
      refine wl_val hW rfl rfl (x_move rfl) ?_
      refine wl_off hW rfl rfl ?_
      refine wl_off hW rfl rfl ?_
      refine wl_off hW rfl rfl ?_
      refine wl_off hW rfl rfl ?_
      refine wl_off hW rfl rfl ?_
      refine wl_off hW rfl rfl ?_
      refine wl_off hW rfl rfl ?_
      refine wl_val hW rfl rfl (x_pickF rfl rfl) ?_
      refine wl_val hW rfl rfl (x_assign rfl) ?_
      refine wl_nil ?_
      exact nx_cut (by unfold sameB; rw [hg10]; repeat (first | exact sub_nil | refine sub_cons rfl ?_)) rfl
  · rintro w' rfl
    refine nx_then ?_
    refine wc_ret ?_
    exact ends_ret (res_tmp Try.results38 rfl) ⟨rfl, hE⟩
theorem C24 {A : Nat → Prop} {w : World} {v u : Value} {as_ bs : List Ent} (hR : Row A w v as_) (hS : Row A w u bs) : Rt Try.prog 24 [v, u] w fun r w' => (∃ b, r = .bool b ∧ (b = true ↔ as_ = bs)) ∧ Ext w w' := by
  obtain ⟨ad, cap, rfl, hcap, hlen⟩ := hR.form
  obtain ⟨ad2, cap2, rfl, hcap2, hlen2⟩ := hS.form
  have hW := hWw
  have hFF := hFw
  have hE : Ext w w := Keep.refl _ _
  refine rt_body Try.func24 rfl Try.ntmps24 rfl ?_
  refine wc_seq ?_
  refine wc_region ?_
  refine wl_val hW rfl rfl (x_assign rfl) ?_
  refine wl_nil ?_
  refine nx_then ?_
  refine wc_seq ?_
  refine wc_seq ?_
  refine wc_region ?_
  refine wl_val hW rfl rfl (x_move rfl) ?_
  refine wl_val hW rfl rfl (x_len Try.underlying26 rfl) ?_
  refine wl_val hW rfl rfl (x_move rfl) ?_
  refine wl_val hW rfl rfl (x_len Try.underlying26 rfl) ?_
  refine wl_val hW rfl rfl (x_neq rfl rfl) ?_
  refine wl_nil ?_
  refine nx_then ?_
  refine wc_dec rfl (fun hc => ?_) (fun hc => ?_)
  · refine wc_seq ?_
    refine wc_region ?_
    refine wl_val hW rfl rfl (x_assign rfl) ?_
    refine wl_nil ?_
    refine nx_then ?_
    refine wc_ret ?_
    refine nx_then_ret ?_
    exact ends_ret (res_tmp Try.results24 rfl) ⟨⟨false, rfl, by constructor; intro h; cases h; rintro rfl; exact absurd rfl hc⟩, hE⟩
  · have hl : as_.length = bs.length := by have hc' : ¬ ¬ ((as_.length : Int) = bs.length) := hc; omega
    refine wc_skip ?_
    refine nx_then ?_
    refine wc_seq ?_
    refine wc_seq ?_
    refine wc_region ?_
    refine wl_val hW rfl rfl (x_assign rfl) ?_
    refine wl_nil ?_
    refine nx_then ?_
    refine wc_block ?_
    refine wc_loop (σ := Nat) (fun s => [(0, .slice ad as_.length cap), (1, .slice ad2 bs.length cap2), (5, .int .i64 s)]) (fun s w' => (s ≤ as_.length ∧ ∀ j (h : j < as_.length) (h' : j < bs.length), j < s → as_[j] = bs[j]) ∧ Ext w w') (fun s => as_.length - s) 0 ?_ ?_ ?_
    · exact ⟨⟨Nat.zero_le _, fun j _ _ h => absurd h (Nat.not_lt_zero _)⟩, hE⟩
    · repeat (first | exact sub_nil | refine sub_cons rfl ?_)
    · rintro s wr ⟨hs, hE⟩
      refine wc_seq ?_
      refine wc_seq ?_
      refine wc_region ?_
      refine wl_val hW rfl rfl (x_move rfl) ?_
      refine wl_val hW rfl rfl (x_move rfl) ?_
      refine wl_val hW rfl rfl (x_len Try.underlying26 rfl) ?_
      refine wl_val hW rfl rfl (x_lss rfl rfl) ?_
      refine wl_nil ?_
      refine nx_then ?_
      refine wc_dec rfl (fun hc => ?_) (fun hc => ?_)
      · replace hc : ((s : Nat) : Int) < as_.length := hc
        refine wc_skip ?_
        refine nx_then ?_
        refine wc_seq ?_
        refine wc_block ?_
        refine wc_seq ?_
        refine wc_draw' 10 hW mixed (by kernel_rfl) (fun w0 hx0 => ?_)
        replace hE := hE.trans hx0
        have hlt : s < as_.length := by omega
        have hlt2 : s < bs.length := by omega
        obtain ⟨b, o, cap', bv, e1, hA, hC19, hb1, hok1⟩ := (hR.ext hE).at s hlt
        cases e1
        obtain ⟨b', o', cap'', bv', e2, hA', hC23, hb2, hok2⟩ := (hS.ext hE).at s hlt2
        cases e2
        refine q_val rfl rfl (fun _ hx => x_move rfl) ?_
        refine q_val rfl rfl (fun _ hx => x_move rfl) ?_
        refine q_val rfl rfl (fun _ hx => x_indexAddr Try.underlying26 ag25.siz rfl rfl (by omega) (by omega)) ?_
        refine q_val rfl rfl (fun _ hx => x_loadA ag25 rfl (hC19.ext hx) rfl) ?_
        refine q_val rfl rfl (fun _ hx => x_move rfl) ?_
        refine q_val rfl rfl (fun _ hx => x_move rfl) ?_
        refine q_val rfl rfl (fun _ hx => x_indexAddr Try.underlying26 ag25.siz rfl rfl (by omega) (by omega)) ?_
        refine q_val rfl rfl (fun _ hx => x_loadA ag25 rfl (hC23.ext hx) rfl) ?_
        refine q_call rfl rfl (fun _ => x_call en38 rfl) (fun w' hx => (C38 (hb1.ext hx) (hb2.ext hx)).inF hFF) ?_
        refine q_val rfl rfl (fun _ hx => x_not rfl) ?_
        refine q_nil (tail0 (fun wt hxt => ?_))
        replace hE := hE.trans hxt
        refine wl_nil ?_
        refine nx_then ?_
        refine wc_bool rfl (fun hc => ?_) (fun hc => ?_)
        · have hne : as_[s] ≠ bs[s] := fun h => by rw [sameB_iff.2 h] at hc; cases hc
          refine wc_seq ?_
          refine wc_region ?_
          refine wl_val hW rfl rfl (x_assign rfl) ?_
          refine wl_nil ?_
          refine nx_then ?_
          refine wc_ret ?_
          refine nx_block_ret ?_
          refine nx_then_ret ?_
          refine nx_then_ret ?_
          refine nx_block_ret ?_
          refine nx_then_ret ?_
          exact ends_ret (res_tmp Try.results24 rfl) ⟨⟨false, rfl, by constructor; intro h; cases h; rintro rfl; exact absurd rfl hne⟩, hE⟩
        · refine wc_skip ?_
          refine nx_block ?_
          refine nx_then ?_
          refine wc_region ?_
          refine wl_val hW rfl rfl (x_move rfl) ?_
          refine wl_val hW rfl rfl (x_inc (s := s) rfl (by omega)) ?_
          refine wl_val hW rfl rfl (x_assign rfl) ?_
          refine wl_nil ?_
          have heq : as_[s] = bs[s] := sameB_iff.1 (by simpa using hc)
          exact nx_next (s + 1) (by omega) ⟨⟨hlt, fun j h h' hj => by rcases Nat.lt_succ_iff_lt_or_eq.1 hj with hj | rfl; exact hs.2 j h h' hj; exact heq⟩, hE⟩ (by repeat (first | exact sub_nil | refine sub_cons rfl ?_))
      · refine wc_exit ?_
        refine nx_then_exit ?_
        refine nx_then_exit ?_
        refine nx_block_exit ?_
        refine nx_then ?_
        refine wc_seq ?_
        refine wc_region ?_
        refine wl_val hW rfl rfl (x_assign rfl) ?_
        refine wl_nil ?_
        refine nx_then ?_
        refine wc_ret ?_
        exact ends_ret (res_tmp Try.results24 rfl) ⟨⟨true, rfl, ⟨fun _ => List.ext_getElem hl fun j h h' => hs.2 j h h' (by have hc' : ¬ ((s : Nat) : Int) < as_.length := hc; omega), fun _ => rfl⟩⟩, hE⟩
end Go.Proofs.Ytblbddamebbgaaa.K

