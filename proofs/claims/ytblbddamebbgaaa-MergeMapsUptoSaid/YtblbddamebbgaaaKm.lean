/- Walks: the document's Right, Seen, Prune. -/
import Derived.Test.YtblbddamebbgaaaKl
namespace Go.Proofs.Ytblbddamebbgaaa.K
open Go Go.RowKit
set_option linter.unusedVariables false
set_option linter.unusedSimpArgs false

theorem C21 {A : Nat → Prop} {w : World} {v : Value} {es : List Ent} (hR : Row A w v es) : Rt Try.prog 21 [v] w fun r w' => r = .bool (rightB es) ∧ Ext w w' := by
  obtain ⟨ad, cap, rfl, hcap, hlen⟩ := hR.form
  have hW := hWw
  have hFF := hFw
  have hE : Ext w w := Keep.refl _ _
  refine rt_body Try.func21 rfl Try.ntmps21 rfl ?_
  refine wc_seq ?_
  refine wc_region ?_
  refine wl_val hW rfl rfl (x_assign rfl) ?_
  refine wl_nil ?_
  refine nx_then ?_
  refine wc_seq ?_
  refine wc_seq ?_
  refine wc_region ?_
  refine wl_val hW rfl rfl (x_assign rfl) ?_
  refine wl_nil ?_
  refine nx_then ?_
  refine wc_block ?_
  refine wc_loop (σ := Nat) (fun s => [(0, .slice ad es.length cap), (3, .int .i64 s)]) (fun s w' => (s ≤ es.length ∧ ∀ j, j < s → j < es.length → badB es j = false) ∧ Ext w w') (fun s => es.length - s) 0 ?_ ?_ ?_
  · exact ⟨⟨Nat.zero_le _, fun j h => absurd h (Nat.not_lt_zero _)⟩, hE⟩
  · repeat (first | exact sub_nil | refine sub_cons rfl ?_)
  · rintro s wr ⟨hs, hE⟩
    refine wc_seq ?_
    refine wc_seq ?_
    refine wc_region ?_
    refine wl_val hW rfl rfl (x_move rfl) ?_
    refine wl_val hW rfl rfl (x_move rfl) ?_
    refine wl_val hW rfl rfl (x_len Try.underlying26 rfl) ?_
    refine wl_val hW rfl rfl (x_lss rfl rfl) ?_
    refine wl_nil ?_
    refine nx_then ?_
    refine wc_dec rfl (fun hc => ?_) (fun hc => ?_)
    · replace hc : ((s : Nat) : Int) < es.length := hc
      have hlt : s < es.length := by omega
      refine wc_skip ?_
      refine nx_then ?_
      refine wc_seq ?_
      refine wc_block ?_
      refine wc_seq ?_
      refine wc_cut [(0, .slice ad es.length cap), (3, .int .i64 s), (40, .bool (badB es s))] (fun w' => Ext w w') ?_ ?_
      · refine wc_draw' 31 hW mixed (by kernel_rfl) (fun w0 hx0 => ?_)
        replace hE := hE.trans hx0
        have hRn := hR.ext hE
        obtain ⟨b, o, cap', bv, e1, hA, hC12, hb1, hok1⟩ := hRn.at s hlt
        cases e1
        obtain ⟨av, cv, hbv, hcv⟩ := hb1.form
        subst hbv
        have hC18 := hC12
        have hC35 := hC12
        refine q_val rfl rfl (fun _ hx => x_move rfl) ?_
        refine q_val rfl rfl (fun _ hx => x_move rfl) ?_
        refine q_val rfl rfl (fun _ hx => x_indexAddr Try.underlying26 ag25.siz rfl rfl (by omega) (by omega)) ?_
        refine q_val rfl rfl (fun _ hx => x_fieldAddr Try.underlying25 rfl fl4.siz rfl) ?_
        refine q_val rfl rfl (fun _ hx => x_load fl4 rfl (hx.cell (hC12 2 _ rfl))) ?_
        refine q_val rfl rfl (fun _ hx => x_move rfl) ?_
        refine q_bcases (d := 15) rfl (fun hg15 => ?_) (fun hg15 => ?_)
        · refine q_val rfl rfl (fun _ hx => x_move rfl) ?_
          refine q_val rfl rfl (fun _ hx => x_move rfl) ?_
          refine q_val rfl rfl (fun _ hx => x_indexAddr Try.underlying26 ag25.siz rfl rfl (by omega) (by omega)) ?_
          refine q_val rfl rfl (fun _ hx => x_fieldAddr Try.underlying25 rfl fl23.siz rfl) ?_
          refine q_val rfl rfl (fun _ hx => x_load fl23 rfl (hx.cell (hC18 3 _ rfl))) ?_
          refine q_val rfl rfl (fun _ hx => x_len Try.underlying23 rfl) ?_
          refine q_val rfl rfl (fun _ hx => x_gtr rfl rfl) ?_
          refine q_val rfl rfl (fun _ hx => x_pickT rfl rfl) ?_
          refine q_val rfl rfl (fun _ hx => x_move rfl) ?_
          refine q_dcases (d := 24) rfl (fun hg24 => ?_) (fun hg24 => ?_)
          · refine q_off rfl rfl ?_
            refine q_off rfl rfl ?_
            refine q_off rfl rfl ?_
            refine q_off rfl rfl ?_
            refine q_off rfl rfl ?_
            refine q_off rfl rfl ?_
            refine q_off rfl rfl ?_
            refine q_off rfl rfl ?_
            refine q_off rfl rfl ?_
            refine q_off rfl rfl ?_
            refine q_off rfl rfl ?_
            refine q_off rfl rfl ?_
            refine q_off rfl rfl ?_
            refine q_off rfl rfl ?_
            refine q_off rfl rfl ?_
            refine q_val rfl rfl (fun _ hx => x_pickT rfl rfl) ?_
            refine q_nil (tail0 (fun wt hxt => ?_))
            replace hE := hE.trans hxt
            refine wl_nil ?_
            exact nx_cut (by rw [badB_1 hlt (okB_1 hg15 hg24)]; repeat (first | exact sub_nil | refine sub_cons rfl ?_)) hE
          · refine q_val rfl rfl (fun _ hx => x_move rfl) ?_
            refine q_val rfl rfl (fun _ hx => x_gtr rfl rfl) ?_
            refine q_val rfl rfl (fun _ hx => x_move rfl) ?_
            refine q_dcases (d := 27) rfl (fun hg27 => ?_) (fun hg27 => ?_)
            · obtain ⟨b', o', cap'', bv', e2, hA', hC31, hb2, hok2⟩ := hRn.at (s - 1) (by omega)
              cases e2
              refine q_val rfl rfl (fun _ hx => x_move rfl) ?_
              refine q_val rfl rfl (fun _ hx => x_move rfl) ?_
              refine q_val rfl rfl (fun _ hx => x_subn (i := s) (j := 1) rfl rfl (by omega) (by omega)) ?_
              refine q_val rfl rfl (fun _ hx => x_indexAddr Try.underlying26 ag25.siz rfl rfl (by omega) (by omega)) ?_
              refine q_val rfl rfl (fun _ hx => x_loadA ag25 rfl (hC31.ext hx) rfl) ?_
              refine q_val rfl rfl (fun _ hx => x_move rfl) ?_
              refine q_val rfl rfl (fun _ hx => x_move rfl) ?_
              refine q_val rfl rfl (fun _ hx => x_indexAddr Try.underlying26 ag25.siz rfl rfl (by omega) (by omega)) ?_
              refine q_val rfl rfl (fun _ hx => x_loadA ag25 rfl (hC35.ext hx) rfl) ?_
              refine q_call rfl rfl (fun _ => x_call en19 rfl) (fun w' hx => C19.inF hFF) ?_
              refine q_val rfl rfl (fun _ hx => x_geq rfl rfl) ?_
              refine q_val rfl rfl (fun _ hx => x_pickT rfl rfl) ?_
              refine q_val rfl rfl (fun _ hx => x_pickF rfl rfl) ?_
              refine q_nil (tail0 (fun wt hxt => ?_))
              replace hE := hE.trans hxt
              refine wl_nil ?_
              exact nx_cut (by rw [badB_2 hlt (okB_2 hg24) (by omega)]; repeat (first | exact sub_nil | refine sub_cons rfl ?_)) hE
            · refine q_off rfl rfl ?_
              refine q_off rfl rfl ?_
              refine q_off rfl rfl ?_
              refine q_off rfl rfl ?_
              refine q_off rfl rfl ?_
              refine q_off rfl rfl ?_
              refine q_off rfl rfl ?_
              refine q_off rfl rfl ?_
              refine q_off rfl rfl ?_
              refine q_off rfl rfl ?_
              refine q_off rfl rfl ?_
              refine q_val rfl rfl (fun _ hx => x_pickF rfl rfl) ?_
              refine q_val rfl rfl (fun _ hx => x_pickF rfl rfl) ?_
              refine q_nil (tail0 (fun wt hxt => ?_))
              replace hE := hE.trans hxt
              refine wl_nil ?_
              exact nx_cut (by rw [badB_3 hlt (okB_2 hg24) (by omega)]; repeat (first | exact sub_nil | refine sub_cons rfl ?_)) hE
        · refine q_off rfl rfl ?_
          refine q_off rfl rfl ?_
          refine q_off rfl rfl ?_
          refine q_off rfl rfl ?_
          refine q_off rfl rfl ?_
          refine q_off rfl rfl ?_
          refine q_off rfl rfl ?_
          refine q_val rfl rfl (fun _ hx => x_pickF rfl rfl) ?_
          refine q_val rfl rfl (fun _ hx => x_move rfl) ?_
          refine q_val rfl rfl (fun _ hx => x_move rfl) ?_
          refine q_val rfl rfl (fun _ hx => x_gtr rfl rfl) ?_
          refine q_val rfl rfl (fun _ hx => x_move rfl) ?_
          refine q_dcases (d := 27) rfl (fun hg27 => ?_) (fun hg27 => ?_)
          · obtain ⟨b', o', cap'', bv', e2, hA', hC31, hb2, hok2⟩ := hRn.at (s - 1) (by omega)
            cases e2
            refine q_val rfl rfl (fun _ hx => x_move rfl) ?_
            refine q_val rfl rfl (fun _ hx => x_move rfl) ?_
            refine q_val rfl rfl (fun _ hx => x_subn (i := s) (j := 1) rfl rfl (by omega) (by omega)) ?_
            refine q_val rfl rfl (fun _ hx => x_indexAddr Try.underlying26 ag25.siz rfl rfl (by omega) (by omega)) ?_
            refine q_val rfl rfl (fun _ hx => x_loadA ag25 rfl (hC31.ext hx) rfl) ?_
            refine q_val rfl rfl (fun _ hx => x_move rfl) ?_
            refine q_val rfl rfl (fun _ hx => x_move rfl) ?_
            refine q_val rfl rfl (fun _ hx => x_indexAddr Try.underlying26 ag25.siz rfl rfl (by omega) (by omega)) ?_
            refine q_val rfl rfl (fun _ hx => x_loadA ag25 rfl (hC35.ext hx) rfl) ?_
            refine q_call rfl rfl (fun _ => x_call en19 rfl) (fun w' hx => C19.inF hFF) ?_
            refine q_val rfl rfl (fun _ hx => x_geq rfl rfl) ?_
            refine q_val rfl rfl (fun _ hx => x_pickT rfl rfl) ?_
            refine q_val rfl rfl (fun _ hx => x_pickF rfl rfl) ?_
            refine q_nil (tail0 (fun wt hxt => ?_))
            replace hE := hE.trans hxt
            refine wl_nil ?_
            exact nx_cut (by rw [badB_2 hlt (okB_3 hg15) (by omega)]; repeat (first | exact sub_nil | refine sub_cons rfl ?_)) hE
          · refine q_off rfl rfl ?_
            refine q_off rfl rfl ?_
            refine q_off rfl rfl ?_
            refine q_off rfl rfl ?_
            refine q_off rfl rfl ?_
            refine q_off rfl rfl ?_
            refine q_off rfl rfl ?_
            refine q_off rfl rfl ?_
            refine q_off rfl rfl ?_
            refine q_off rfl rfl ?_
            refine q_off rfl rfl ?_
            refine q_val rfl rfl (fun _ hx => x_pickF rfl rfl) ?_
            refine q_val rfl rfl (fun _ hx => x_pickF rfl rfl) ?_
            refine q_nil (tail0 (fun wt hxt => ?_))
            replace hE := hE.trans hxt
            refine wl_nil ?_
            exact nx_cut (by rw [badB_3 hlt (okB_3 hg15) (by omega)]; repeat (first | exact sub_nil | refine sub_cons rfl ?_)) hE
      · rintro w' hE
        refine nx_then ?_
        refine wc_bool rfl (fun hc => ?_) (fun hc => ?_)
        · refine wc_seq ?_
          refine wc_region ?_
          refine wl_val hW rfl rfl (x_assign rfl) ?_
          refine wl_nil ?_
          refine nx_then ?_
          refine wc_ret ?_
          refine nx_block_ret ?_
          refine nx_then_ret ?_
          refine nx_then_ret ?_
          refine nx_block_ret ?_
          refine nx_then_ret ?_
          exact ends_ret (res_tmp Try.results21 rfl) ⟨by rw [badB_true hlt hc], hE⟩
        · refine wc_skip ?_
          refine nx_block ?_
          refine nx_then ?_
          refine wc_region ?_
          refine wl_val hW rfl rfl (x_move rfl) ?_
          refine wl_val hW rfl rfl (x_inc (s := s) rfl (by omega)) ?_
          refine wl_val hW rfl rfl (x_assign rfl) ?_
          refine wl_nil ?_
          exact nx_next (s + 1) (by omega) ⟨⟨hlt, fun j hj h => by rcases Nat.lt_succ_iff_lt_or_eq.1 hj with hj | rfl; exact hs.2 j hj h; exact hc⟩, hE⟩ (by repeat (first | exact sub_nil | refine sub_cons rfl ?_))
    · refine wc_exit ?_
      refine nx_then_exit ?_
      refine nx_then_exit ?_
      refine nx_block_exit ?_
      refine nx_then ?_
      refine wc_seq ?_
      refine wc_region ?_
      refine wl_val hW rfl rfl (x_assign rfl) ?_
      refine wl_nil ?_
      refine nx_then ?_
      refine wc_ret ?_
      exact ends_ret (res_tmp Try.results21 rfl) ⟨by rw [badB_false (fun j hj => hs.2 j (by have hc' : ¬ ((s : Nat) : Int) < es.length := hc; omega) hj)], hE⟩
theorem C23 {w : World} {v : Value} {es : List Ent} {up : Int} (hR : Row (fun k => k < w.heap.size) w v es) :
    Rt Try.prog 23 [v, .int .u64 up] w fun r w' => (∃ rv, r = .tuple #[rv, .int .i64 (if rightB es then 0 else 15)] ∧ Row (fun _ => True) w' rv (if rightB es then rSeen up none false es else [])) ∧ Ext w w' := by
  obtain ⟨ad, cap, rfl, hcap, hlen⟩ := hR.form
  have hW := hWw
  have hFF := hFw
  have hE : Ext w w := Keep.refl _ _
  refine rt_body Try.func23 rfl Try.ntmps23 rfl ?_
  refine wc_seq ?_
  refine wc_region ?_
  refine wl_val hW rfl rfl (x_assign rfl) ?_
  refine wl_val hW rfl rfl (x_assign rfl) ?_
  refine wl_nil ?_
  refine nx_then ?_
  refine wc_seq ?_
  refine wc_seq ?_
  refine wc_region ?_
  refine wl_val hW rfl rfl (x_move rfl) ?_
  refine wl_call hW rfl rfl (x_call en21 rfl) ((C21 (hR.ext hE)).inF hFF) ?_
  rintro _ wC ⟨rfl, hxC⟩
  replace hE := hE.trans hxC
  refine wl_val hW rfl rfl (x_not rfl) ?_
  refine wl_nil ?_
  refine nx_then ?_
  refine wc_bool rfl (fun hc => ?_) (fun hc => ?_)
  · have hrt : rightB es = false := by simpa using hc
    refine wc_seq ?_
    refine wc_region ?_
    refine wl_val hW rfl rfl (x_assign rfl) ?_
    refine wl_val hW rfl rfl (x_assign rfl) ?_
    refine wl_nil ?_
    refine nx_then ?_
    refine wc_ret ?_
    refine nx_then_ret ?_
    exact ends_ret (res_tmp2 Try.results23 rfl rfl) ⟨⟨_, by rw [hrt]; rfl, by rw [hrt]; exact row_nil _ _⟩, hE⟩
  · have hrt : rightB es = true := by simpa using hc
    refine wc_skip ?_
    refine nx_then ?_
    refine wc_seq ?_
    refine wc_region ?_
    refine wl_val hW rfl rfl (x_assign rfl) ?_
    refine wl_nil ?_
    refine nx_then ?_
    refine wc_seq ?_
    refine wc_region ?_
    refine wl_val hW rfl rfl (x_assign rfl) ?_
    refine wl_nil ?_
    refine nx_then ?_
    refine wc_seq ?_
    refine wc_seq ?_
    refine wc_region ?_
    refine wl_val hW rfl rfl (x_assign rfl) ?_
    refine wl_nil ?_
    refine nx_then ?_
    refine wc_block ?_
    refine wc_loop (σ := Nat × Value × Bool) (fun s => [(0, .slice ad es.length cap), (1, .int .u64 up), (6, s.2.1), (7, .bool s.2.2), (8, .int .i64 s.1)]) (fun s w' => (s.1 ≤ es.length ∧ OutIs w w' s.2.1 s.1 (rSeen up (pkOf es s.1) s.2.2 (es.drop s.1)) (rSeen up none false es)) ∧ Ext w w') (fun s => es.length - s.1) (0, .slice none 0 0, false) ?_ ?_ ?_
    · exact ⟨⟨Nat.zero_le _, [], own_nil _ _ _, by simp, by rw [List.drop_zero]; rfl⟩, hE⟩
    · repeat (first | exact sub_nil | refine sub_cons rfl ?_)
    · rintro ⟨s, ov, dn⟩ wr ⟨⟨hsl, coll, hO, hcl, hco⟩, hEw⟩
      dsimp only at hsl hO hcl hco
      have hE : Ext wr wr := Keep.refl _ _
      have hRw := hR.ext hEw
      refine wc_seq ?_
      refine wc_seq ?_
      refine wc_region ?_
      refine wl_val hW rfl rfl (x_move rfl) ?_
      refine wl_val hW rfl rfl (x_move rfl) ?_
      refine wl_val hW rfl rfl (x_len Try.underlying26 rfl) ?_
      refine wl_val hW rfl rfl (x_lss rfl rfl) ?_
      refine wl_nil ?_
      refine nx_then ?_
      refine wc_dec rfl (fun hc => ?_) (fun hc => ?_)
      · replace hc : ((s : Nat) : Int) < es.length := hc
        have hlt : s < es.length := by omega
        refine wc_skip ?_
        refine nx_then ?_
        refine wc_seq ?_
        refine wc_block ?_
        refine wc_seq ?_
        refine wc_seq ?_
        refine wc_cut [(0, .slice ad es.length cap), (1, .int .u64 up), (6, ov), (7, .bool dn), (8, .int .i64 s), (33, .bool (freshB (pkOf es s) es[s]))] (fun w' => Ext wr w') ?_ ?_
        · refine wc_draw' 16 hW mixed (by kernel_rfl) (fun w0 hx0 => ?_)
          replace hE := hE.trans hx0
          refine q_val rfl rfl (fun _ hx => x_move rfl) ?_
          refine q_val rfl rfl (fun _ hx => x_gtr rfl rfl) ?_
          refine q_val rfl rfl (fun _ hx => x_move rfl) ?_
          refine q_dcases (d := 20) rfl (fun hg20 => ?_) (fun hg20 => ?_)
          · have hRn := hRw.ext hE
            obtain ⟨b, o, cap', bv, e1, hA, hC23, hb1, hok1⟩ := hRn.at s hlt
            cases e1
            obtain ⟨b', o', cap'', bv', e2, hA', hC29, hb2, hok2⟩ := hRn.at (s - 1) (by omega)
            cases e2
            refine q_val rfl rfl (fun _ hx => x_move rfl) ?_
            refine q_val rfl rfl (fun _ hx => x_move rfl) ?_
            refine q_val rfl rfl (fun _ hx => x_indexAddr Try.underlying26 ag25.siz rfl rfl (by omega) (by omega)) ?_
            refine q_val rfl rfl (fun _ hx => x_fieldAddr Try.underlying25 rfl fl9.siz rfl) ?_
            refine q_val rfl rfl (fun _ hx => x_load fl9 rfl (hx.cell (hC23 0 _ rfl))) ?_
            refine q_val rfl rfl (fun _ hx => x_move rfl) ?_
            refine q_val rfl rfl (fun _ hx => x_move rfl) ?_
            refine q_val rfl rfl (fun _ hx => x_subn (i := s) (j := 1) rfl rfl (by omega) (by omega)) ?_
            refine q_val rfl rfl (fun _ hx => x_indexAddr Try.underlying26 ag25.siz rfl rfl (by omega) (by omega)) ?_
            refine q_val rfl rfl (fun _ hx => x_fieldAddr Try.underlying25 rfl fl9.siz rfl) ?_
            refine q_val rfl rfl (fun _ hx => x_load fl9 rfl (hx.cell (hC29 0 _ rfl))) ?_
            refine q_val rfl rfl (fun _ hx => x_sneq rfl rfl) ?_
            refine q_val rfl rfl (fun _ hx => x_pickT rfl rfl) ?_
            refine q_nil (tail0 (fun wt hxt => ?_))
            replace hE := hE.trans hxt
            refine wl_nil ?_
            exact nx_cut (by rw [fresh_pos (by omega) (show s - 1 < es.length by omega)]; repeat (first | exact sub_nil | refine sub_cons rfl ?_)) hE
          · refine q_off rfl rfl ?_
            refine q_off rfl rfl ?_
            refine q_off rfl rfl ?_
            refine q_off rfl rfl ?_
            refine q_off rfl rfl ?_
            refine q_off rfl rfl ?_
            refine q_off rfl rfl ?_
            refine q_off rfl rfl ?_
            refine q_off rfl rfl ?_
            refine q_off rfl rfl ?_
            refine q_off rfl rfl ?_
            refine q_off rfl rfl ?_
            refine q_val rfl rfl (fun _ hx => x_pickF rfl rfl) ?_
            refine q_nil (tail0 (fun wt hxt => ?_))
            replace hE := hE.trans hxt
            refine wl_nil ?_
            exact nx_cut (by rw [fresh_zero (by omega)]; repeat (first | exact sub_nil | refine sub_cons rfl ?_)) hE
        · rintro w' hE
          refine nx_then ?_
          refine wc_cut [(0, .slice ad es.length cap), (1, .int .u64 up), (6, ov), (7, .bool (doneB (pkOf es s) dn es[s])), (8, .int .i64 s)] (fun w'' => w'' = w') ?_ ?_
          · refine wc_bool rfl (fun hc => ?_) (fun hc => ?_)
            · refine wc_region ?_
              refine wl_val hW rfl rfl (x_assign rfl) ?_
              refine wl_nil ?_
              exact nx_cut (by rw [doneB_fresh hc]; repeat (first | exact sub_nil | refine sub_cons rfl ?_)) rfl
            · refine wc_skip ?_
              exact nx_cut (by rw [doneB_stale hc]; repeat (first | exact sub_nil | refine sub_cons rfl ?_)) rfl
          · rintro w' rfl
            refine nx_then ?_
            refine wc_seq ?_
            refine wc_seq ?_
            refine wc_cut [(0, .slice ad es.length cap), (1, .int .u64 up), (6, ov), (7, .bool (doneB (pkOf es s) dn es[s])), (8, .int .i64 s), (43, .bool (doneB (pkOf es s) dn es[s] || decide (up < es[s].s)))] (fun w'' => w'' = w') ?_ ?_
            · refine wc_region ?_
              refine wl_val hW rfl rfl (x_move rfl) ?_
              refine wl_val hW rfl rfl (x_move rfl) ?_
              refine wl_bcases (d := 35) rfl (fun hg35 => ?_) (fun hg35 => ?_)
              · refine wl_off hW rfl rfl ?_
                refine wl_off hW rfl rfl ?_
                refine wl_off hW rfl rfl ?_
                refine wl_off hW rfl rfl ?_
                refine wl_off hW rfl rfl ?_
                refine wl_off hW rfl rfl ?_
                refine wl_off hW rfl rfl ?_
                refine wl_val hW rfl rfl (x_pickT rfl rfl) ?_
                refine wl_nil ?_
                exact nx_cut (by rw [hg35, Bool.true_or]; repeat (first | exact sub_nil | refine sub_cons rfl ?_)) rfl
              · obtain ⟨b, o, cap', bv, e1, hA, hC38, hb1, hok1⟩ := (hRw.ext hE).at s hlt
                cases e1
                refine wl_val hW rfl rfl (x_move rfl) ?_
                refine wl_val hW rfl rfl (x_move rfl) ?_
                refine wl_val hW rfl rfl (x_indexAddr Try.underlying26 ag25.siz rfl rfl (by omega) (by omega)) ?_
                refine wl_val hW rfl rfl (x_fieldAddr Try.underlying25 rfl fl22.siz rfl) ?_
                refine wl_val hW rfl rfl (x_load fl22 rfl (hC38 1 _ rfl)) ?_
                refine wl_val hW rfl rfl (x_move rfl) ?_
                refine wl_val hW rfl rfl (x_gtr rfl rfl) ?_
                refine wl_val hW rfl rfl (x_pickF rfl rfl) ?_
                refine wl_nil ?_
                exact nx_cut (by rw [hg35, Bool.false_or]; repeat (first | exact sub_nil | refine sub_cons rfl ?_)) rfl
            · rintro w' rfl
              refine nx_then ?_
              refine wc_bool rfl (fun hc => ?_) (fun hc => ?_)
              · refine wc_exit ?_
                refine nx_then_exit ?_
                refine nx_block_exit ?_
                refine nx_then ?_
                refine wc_region ?_
                refine wl_val hW rfl rfl (x_move rfl) ?_
                refine wl_val hW rfl rfl (x_inc (s := s) rfl (by omega)) ?_
                refine wl_val hW rfl rfl (x_assign rfl) ?_
                refine wl_nil ?_
                exact nx_next (s + 1, ov, doneB (pkOf es s) dn es[s]) (by dsimp only; omega) ⟨⟨hlt, coll, hO.ext hE, by dsimp only; omega, by dsimp only; rw [← hco, drop_at hlt, rSeen_skip hc, pkOf_succ hlt]⟩, hEw.trans hE⟩ (by repeat (first | exact sub_nil | refine sub_cons rfl ?_))
              · have hc0 := hc
                refine wc_skip ?_
                refine nx_then ?_
                refine wc_seq ?_
                refine wc_region ?_
                refine wl_val hW rfl rfl (x_assign rfl) ?_
                refine wl_nil ?_
                refine nx_then ?_
                refine wc_seq ?_
                refine wc_region ?_
                obtain ⟨b, o, cap', bv, e1, hA, hC46, hb1, hok1⟩ := (hRw.ext hE).at s hlt
                cases e1
                refine wl_val hW rfl rfl (x_move rfl) ?_
                refine wl_val hW rfl rfl (x_move rfl) ?_
                refine wl_val hW rfl rfl (x_indexAddr Try.underlying26 ag25.siz rfl rfl (by omega) (by omega)) ?_
                refine wl_val hW rfl rfl (x_fieldAddr Try.underlying25 rfl fl4.siz rfl) ?_
                refine wl_val hW rfl rfl (x_load fl4 rfl (hC46 2 _ rfl)) ?_
                refine wl_val hW rfl rfl (x_not rfl) ?_
                refine wl_nil ?_
                refine nx_then ?_
                refine wc_bool rfl (fun hc => ?_) (fun hc => ?_)
                · refine wc_region ?_
                  have hC53 := hC46
                  refine wl_val hW rfl rfl (x_move rfl) ?_
                  refine wl_val hW rfl rfl (x_move rfl) ?_
                  refine wl_val hW rfl rfl (x_move rfl) ?_
                  refine wl_val hW rfl rfl (x_indexAddr Try.underlying26 ag25.siz rfl rfl (by omega) (by omega)) ?_
                  refine wl_val hW rfl rfl (x_loadA ag25 rfl hC53 rfl) ?_
                  refine wl_buildSlice (parts := [(0, .tmp 54)]) hW rfl rfl Try.underlying26 ag25.siz Try.zeroValue25 rfl rfl rfl (by omega) ?_
                  intro b55 w55 hl55 hB55 hx55
                  replace hE := hE.trans hx55
                  have hsz := hE.size
                  have hszw := hEw.size
                  refine wl_append1 hW rfl rfl rfl rfl (hO.ext hE) (by omega) (show Blk _ _ (cellsOf es[s] bv) 25 from hB55) ((hb1.ext hx55).mono (fun k _ h => ⟨h, fun e => by have := hO.lt _ e.symm; omega⟩)) hok1 (by omega) ?_
                  intro v56 wA hO2 hkA hcA
                  refine wl_val hW rfl rfl (x_assign rfl) ?_
                  refine wl_nil ?_
                  refine nx_block ?_
                  refine nx_then ?_
                  refine wc_region ?_
                  refine wl_val hW rfl rfl (x_move rfl) ?_
                  refine wl_val hW rfl rfl (x_inc (s := s) rfl (by omega)) ?_
                  refine wl_val hW rfl rfl (x_assign rfl) ?_
                  refine wl_nil ?_
                  exact nx_next (s + 1, v56, true) (by dsimp only; omega) ⟨⟨hlt, coll ++ [es[s]], hO2, by simp only [List.length_append, List.length_cons, List.length_nil]; omega, by dsimp only; rw [← hco, drop_at hlt, rSeen_take hc0, pkOf_succ hlt, if_neg (by simpa using hc), List.append_assoc]⟩, Keep.rowed (hEw.trans hE) hkA (fun b h => (hO.lt b h).1)⟩ (by repeat (first | exact sub_nil | refine sub_cons rfl ?_))
                · refine wc_skip ?_
                  refine nx_block ?_
                  refine nx_then ?_
                  refine wc_region ?_
                  refine wl_val hW rfl rfl (x_move rfl) ?_
                  refine wl_val hW rfl rfl (x_inc (s := s) rfl (by omega)) ?_
                  refine wl_val hW rfl rfl (x_assign rfl) ?_
                  refine wl_nil ?_
                  exact nx_next (s + 1, ov, true) (by dsimp only; omega) ⟨⟨hlt, coll, hO.ext hE, by dsimp only; omega, by dsimp only; rw [← hco, drop_at hlt, rSeen_take hc0, pkOf_succ hlt, if_pos (by simpa using hc), List.nil_append]⟩, hEw.trans hE⟩ (by repeat (first | exact sub_nil | refine sub_cons rfl ?_))
      · refine wc_exit ?_
        refine nx_then_exit ?_
        refine nx_then_exit ?_
        refine nx_block_exit ?_
        refine nx_then ?_
        refine wc_seq ?_
        replace hc : ¬ ((s : Nat) : Int) < es.length := hc
        have hdr : es.drop s = [] := List.drop_eq_nil_of_le (by omega)
        rw [hdr] at hco
        refine wc_region ?_
        refine wl_val hW rfl rfl (x_move rfl) ?_
        refine wl_val hW rfl rfl (x_assign rfl) ?_
        refine wl_val hW rfl rfl (x_assign rfl) ?_
        refine wl_nil ?_
        refine nx_then ?_
        refine wc_ret ?_
        exact ends_ret (res_tmp2 Try.results23 rfl rfl) ⟨⟨_, by rw [hrt]; rfl, by rw [hrt]; exact OutIs.row ⟨coll, hO, hcl, hco⟩ (by omega)⟩, hEw⟩
theorem C26 {w : World} {v : Value} {es : List Ent} {keep : Int} {bottom : Bool} (hR : Row (fun k => k < w.heap.size) w v es) :
    Rt Try.prog 26 [v, .int .u64 keep, .bool bottom] w fun r w' => (∃ rv, r = .tuple #[rv, .int .i64 (if rightB es then 0 else 15)] ∧ Row (fun _ => True) w' rv (if rightB es then rLeft keep bottom none false es else [])) ∧ Ext w w' := by
  obtain ⟨ad, cap, rfl, hcap, hlen⟩ := hR.form
  have hW := hWw
  have hFF := hFw
  have hE : Ext w w := Keep.refl _ _
  refine rt_body Try.func26 rfl Try.ntmps26 rfl ?_
  refine wc_seq ?_
  refine wc_region ?_
  refine wl_val hW rfl rfl (x_assign rfl) ?_
  refine wl_val hW rfl rfl (x_assign rfl) ?_
  refine wl_nil ?_
  refine nx_then ?_
  refine wc_seq ?_
  refine wc_seq ?_
  refine wc_region ?_
  refine wl_val hW rfl rfl (x_move rfl) ?_
  refine wl_call hW rfl rfl (x_call en21 rfl) ((C21 (hR.ext hE)).inF hFF) ?_
  rintro _ wC ⟨rfl, hxC⟩
  replace hE := hE.trans hxC
  refine wl_val hW rfl rfl (x_not rfl) ?_
  refine wl_nil ?_
  refine nx_then ?_
  refine wc_bool rfl (fun hc => ?_) (fun hc => ?_)
  · have hrt : rightB es = false := by simpa using hc
    refine wc_seq ?_
    refine wc_region ?_
    refine wl_val hW rfl rfl (x_assign rfl) ?_
    refine wl_val hW rfl rfl (x_assign rfl) ?_
    refine wl_nil ?_
    refine nx_then ?_
    refine wc_ret ?_
    refine nx_then_ret ?_
    exact ends_ret (res_tmp2 Try.results26 rfl rfl) ⟨⟨_, by rw [hrt]; rfl, by rw [hrt]; exact row_nil _ _⟩, hE⟩
  · have hrt : rightB es = true := by simpa using hc
    refine wc_skip ?_
    refine nx_then ?_
    refine wc_seq ?_
    refine wc_region ?_
    refine wl_val hW rfl rfl (x_assign rfl) ?_
    refine wl_nil ?_
    refine nx_then ?_
    refine wc_seq ?_
    refine wc_region ?_
    refine wl_val hW rfl rfl (x_assign rfl) ?_
    refine wl_nil ?_
    refine nx_then ?_
    refine wc_seq ?_
    refine wc_seq ?_
    refine wc_region ?_
    refine wl_val hW rfl rfl (x_assign rfl) ?_
    refine wl_nil ?_
    refine nx_then ?_
    refine wc_block ?_
    refine wc_loop (σ := Nat × Value × Bool) (fun s => [(0, .slice ad es.length cap), (1, .int .u64 keep), (2, .bool bottom), (8, s.2.1), (9, .bool s.2.2), (10, .int .i64 s.1)]) (fun s w' => (s.1 ≤ es.length ∧ OutIs w w' s.2.1 s.1 (rLeft keep bottom (pkOf es s.1) s.2.2 (es.drop s.1)) (rLeft keep bottom none false es)) ∧ Ext w w') (fun s => es.length - s.1) (0, .slice none 0 0, false) ?_ ?_ ?_
    · exact ⟨⟨Nat.zero_le _, [], own_nil _ _ _, by simp, by rw [List.drop_zero]; rfl⟩, hE⟩
    · repeat (first | exact sub_nil | refine sub_cons rfl ?_)
    · rintro ⟨s, ov, dn⟩ wr ⟨⟨hsl, coll, hO, hcl, hco⟩, hEw⟩
      dsimp only at hsl hO hcl hco
      have hE : Ext wr wr := Keep.refl _ _
      have hRw := hR.ext hEw
      refine wc_seq ?_
      refine wc_seq ?_
      refine wc_region ?_
      refine wl_val hW rfl rfl (x_move rfl) ?_
      refine wl_val hW rfl rfl (x_move rfl) ?_
      refine wl_val hW rfl rfl (x_len Try.underlying26 rfl) ?_
      refine wl_val hW rfl rfl (x_lss rfl rfl) ?_
      refine wl_nil ?_
      refine nx_then ?_
      refine wc_dec rfl (fun hc => ?_) (fun hc => ?_)
      · replace hc : ((s : Nat) : Int) < es.length := hc
        have hlt : s < es.length := by omega
        refine wc_skip ?_
        refine nx_then ?_
        refine wc_seq ?_
        refine wc_block ?_
        refine wc_seq ?_
        refine wc_seq ?_
        refine wc_cut [(0, .slice ad es.length cap), (1, .int .u64 keep), (2, .bool bottom), (8, ov), (9, .bool dn), (10, .int .i64 s), (35, .bool (freshB (pkOf es s) es[s]))] (fun w' => Ext wr w') ?_ ?_
        · refine wc_draw' 16 hW mixed (by kernel_rfl) (fun w0 hx0 => ?_)
          replace hE := hE.trans hx0
          refine q_val rfl rfl (fun _ hx => x_move rfl) ?_
          refine q_val rfl rfl (fun _ hx => x_gtr rfl rfl) ?_
          refine q_val rfl rfl (fun _ hx => x_move rfl) ?_
          refine q_dcases (d := 22) rfl (fun hg22 => ?_) (fun hg22 => ?_)
          · have hRn := hRw.ext hE
            obtain ⟨b, o, cap', bv, e1, hA, hC25, hb1, hok1⟩ := hRn.at s hlt
            cases e1
            obtain ⟨b', o', cap'', bv', e2, hA', hC31, hb2, hok2⟩ := hRn.at (s - 1) (by omega)
            cases e2
            refine q_val rfl rfl (fun _ hx => x_move rfl) ?_
            refine q_val rfl rfl (fun _ hx => x_move rfl) ?_
            refine q_val rfl rfl (fun _ hx => x_indexAddr Try.underlying26 ag25.siz rfl rfl (by omega) (by omega)) ?_
            refine q_val rfl rfl (fun _ hx => x_fieldAddr Try.underlying25 rfl fl9.siz rfl) ?_
            refine q_val rfl rfl (fun _ hx => x_load fl9 rfl (hx.cell (hC25 0 _ rfl))) ?_
            refine q_val rfl rfl (fun _ hx => x_move rfl) ?_
            refine q_val rfl rfl (fun _ hx => x_move rfl) ?_
            refine q_val rfl rfl (fun _ hx => x_subn (i := s) (j := 1) rfl rfl (by omega) (by omega)) ?_
            refine q_val rfl rfl (fun _ hx => x_indexAddr Try.underlying26 ag25.siz rfl rfl (by omega) (by omega)) ?_
            refine q_val rfl rfl (fun _ hx => x_fieldAddr Try.underlying25 rfl fl9.siz rfl) ?_
            refine q_val rfl rfl (fun _ hx => x_load fl9 rfl (hx.cell (hC31 0 _ rfl))) ?_
            refine q_val rfl rfl (fun _ hx => x_sneq rfl rfl) ?_
            refine q_val rfl rfl (fun _ hx => x_pickT rfl rfl) ?_
            refine q_nil (tail0 (fun wt hxt => ?_))
            replace hE := hE.trans hxt
            refine wl_nil ?_
            exact nx_cut (by rw [fresh_pos (by omega) (show s - 1 < es.length by omega)]; repeat (first | exact sub_nil | refine sub_cons rfl ?_)) hE
          · refine q_off rfl rfl ?_
            refine q_off rfl rfl ?_
            refine q_off rfl rfl ?_
            refine q_off rfl rfl ?_
            refine q_off rfl rfl ?_
            refine q_off rfl rfl ?_
            refine q_off rfl rfl ?_
            refine q_off rfl rfl ?_
            refine q_off rfl rfl ?_
            refine q_off rfl rfl ?_
            refine q_off rfl rfl ?_
            refine q_off rfl rfl ?_
            refine q_val rfl rfl (fun _ hx => x_pickF rfl rfl) ?_
            refine q_nil (tail0 (fun wt hxt => ?_))
            replace hE := hE.trans hxt
            refine wl_nil ?_
            exact nx_cut (by rw [fresh_zero (by omega)]; repeat (first | exact sub_nil | refine sub_cons rfl ?_)) hE
        · rintro w' hE
          refine nx_then ?_
          refine wc_cut [(0, .slice ad es.length cap), (1, .int .u64 keep), (2, .bool bottom), (8, ov), (9, .bool (doneB (pkOf es s) dn es[s])), (10, .int .i64 s)] (fun w'' => w'' = w') ?_ ?_
          · refine wc_bool rfl (fun hc => ?_) (fun hc => ?_)
            · refine wc_region ?_
              refine wl_val hW rfl rfl (x_assign rfl) ?_
              refine wl_nil ?_
              exact nx_cut (by rw [doneB_fresh hc]; repeat (first | exact sub_nil | refine sub_cons rfl ?_)) rfl
            · refine wc_skip ?_
              exact nx_cut (by rw [doneB_stale hc]; repeat (first | exact sub_nil | refine sub_cons rfl ?_)) rfl
          · rintro w' rfl
            refine nx_then ?_
            refine wc_seq ?_
            refine wc_seq ?_
            refine wc_region ?_
            obtain ⟨b, o, cap', bv, e1, hA, hC38, hb1, hok1⟩ := (hRw.ext hE).at s hlt
            cases e1
            refine wl_val hW rfl rfl (x_move rfl) ?_
            refine wl_val hW rfl rfl (x_move rfl) ?_
            refine wl_val hW rfl rfl (x_indexAddr Try.underlying26 ag25.siz rfl rfl (by omega) (by omega)) ?_
            refine wl_val hW rfl rfl (x_fieldAddr Try.underlying25 rfl fl22.siz rfl) ?_
            refine wl_val hW rfl rfl (x_load fl22 rfl (hC38 1 _ rfl)) ?_
            refine wl_val hW rfl rfl (x_move rfl) ?_
            refine wl_val hW rfl rfl (x_gtr rfl rfl) ?_
            refine wl_nil ?_
            refine nx_then ?_
            refine wc_dec rfl (fun hc => ?_) (fun hc => ?_)
            · refine wc_seq ?_
              refine wc_region ?_
              have hC46 := hC38
              refine wl_val hW rfl rfl (x_move rfl) ?_
              refine wl_val hW rfl rfl (x_move rfl) ?_
              refine wl_val hW rfl rfl (x_move rfl) ?_
              refine wl_val hW rfl rfl (x_indexAddr Try.underlying26 ag25.siz rfl rfl (by omega) (by omega)) ?_
              refine wl_val hW rfl rfl (x_loadA ag25 rfl hC46 rfl) ?_
              refine wl_buildSlice (parts := [(0, .tmp 47)]) hW rfl rfl Try.underlying26 ag25.siz Try.zeroValue25 rfl rfl rfl (by omega) ?_
              intro b48 w48 hl48 hB48 hx48
              replace hE := hE.trans hx48
              have hsz := hE.size
              have hszw := hEw.size
              refine wl_append1 hW rfl rfl rfl rfl (hO.ext hE) (by omega) (show Blk _ _ (cellsOf es[s] bv) 25 from hB48) ((hb1.ext hx48).mono (fun k _ h => ⟨h, fun e => by have := hO.lt _ e.symm; omega⟩)) hok1 (by omega) ?_
              intro v49 wA hO2 hkA hcA
              refine wl_val hW rfl rfl (x_assign rfl) ?_
              refine wl_nil ?_
              refine nx_then ?_
              refine wc_exit ?_
              refine nx_then_exit ?_
              refine nx_block_exit ?_
              refine nx_then ?_
              refine wc_region ?_
              refine wl_val hW rfl rfl (x_move rfl) ?_
              refine wl_val hW rfl rfl (x_inc (s := s) rfl (by omega)) ?_
              refine wl_val hW rfl rfl (x_assign rfl) ?_
              refine wl_nil ?_
              exact nx_next (s + 1, v49, doneB (pkOf es s) dn es[s]) (by dsimp only; omega) ⟨⟨hlt, coll ++ [es[s]], hO2, by simp only [List.length_append, List.length_cons, List.length_nil]; omega, by dsimp only; rw [← hco, drop_at hlt, rLeft_keep hc, pkOf_succ hlt, List.append_assoc]; rfl⟩, Keep.rowed (hEw.trans hE) hkA (fun b h => (hO.lt b h).1)⟩ (by repeat (first | exact sub_nil | refine sub_cons rfl ?_))
            · have hc0 := hc
              refine wc_skip ?_
              refine nx_then ?_
              refine wc_seq ?_
              refine wc_seq ?_
              refine wc_cut [(0, .slice (some ⟨b, o, none⟩) es.length cap), (1, .int .u64 keep), (2, .bool bottom), (8, ov), (10, .int .i64 s), (62, .bool (!doneB (pkOf es s) dn es[s] && !(es[s].g && bottom)))] (fun w'' => w'' = w') ?_ ?_
              · refine wc_region ?_
                refine wl_val hW rfl rfl (x_move rfl) ?_
                refine wl_val hW rfl rfl (x_not rfl) ?_
                refine wl_val hW rfl rfl (x_move rfl) ?_
                refine wl_bcases (d := 52) rfl (fun hg52 => ?_) (fun hg52 => ?_)
                · have hC55 := hC38
                  refine wl_val hW rfl rfl (x_move rfl) ?_
                  refine wl_val hW rfl rfl (x_move rfl) ?_
                  refine wl_val hW rfl rfl (x_indexAddr Try.underlying26 ag25.siz rfl rfl (by omega) (by omega)) ?_
                  refine wl_val hW rfl rfl (x_fieldAddr Try.underlying25 rfl fl4.siz rfl) ?_
                  refine wl_val hW rfl rfl (x_load fl4 rfl (hC55 2 _ rfl)) ?_
                  refine wl_val hW rfl rfl (x_move rfl) ?_
                  refine wl_bcases (d := 58) rfl (fun hg58 => ?_) (fun hg58 => ?_)
                  · refine wl_val hW rfl rfl (x_move rfl) ?_
                    refine wl_val hW rfl rfl (x_pickT rfl rfl) ?_
                    refine wl_val hW rfl rfl (x_not rfl) ?_
                    refine wl_val hW rfl rfl (x_pickT rfl rfl) ?_
                    refine wl_nil ?_
                    exact nx_cut (by rw [hg52, show es[s].g = true from hg58, Bool.true_and, Bool.true_and]; repeat (first | exact sub_nil | refine sub_cons rfl ?_)) rfl
                  · refine wl_off hW rfl rfl ?_
                    refine wl_val hW rfl rfl (x_pickF rfl rfl) ?_
                    refine wl_val hW rfl rfl (x_not rfl) ?_
                    refine wl_val hW rfl rfl (x_pickT rfl rfl) ?_
                    refine wl_nil ?_
                    exact nx_cut (by rw [hg52, show es[s].g = false from hg58, Bool.false_and, Bool.true_and]; repeat (first | exact sub_nil | refine sub_cons rfl ?_)) rfl
                · refine wl_off hW rfl rfl ?_
                  refine wl_off hW rfl rfl ?_
                  refine wl_off hW rfl rfl ?_
                  refine wl_off hW rfl rfl ?_
                  refine wl_off hW rfl rfl ?_
                  refine wl_off hW rfl rfl ?_
                  refine wl_off hW rfl rfl ?_
                  refine wl_off hW rfl rfl ?_
                  refine wl_off hW rfl rfl ?_
                  refine wl_val hW rfl rfl (x_pickF rfl rfl) ?_
                  refine wl_nil ?_
                  exact nx_cut (by rw [hg52, Bool.false_and]; repeat (first | exact sub_nil | refine sub_cons rfl ?_)) rfl
              · rintro w' rfl
                refine nx_then ?_
                refine wc_bool rfl (fun hc => ?_) (fun hc => ?_)
                · refine wc_region ?_
                  have hC66 := hC38
                  refine wl_val hW rfl rfl (x_move rfl) ?_
                  refine wl_val hW rfl rfl (x_move rfl) ?_
                  refine wl_val hW rfl rfl (x_move rfl) ?_
                  refine wl_val hW rfl rfl (x_indexAddr Try.underlying26 ag25.siz rfl rfl (by omega) (by omega)) ?_
                  refine wl_val hW rfl rfl (x_loadA ag25 rfl hC66 rfl) ?_
                  refine wl_buildSlice (parts := [(0, .tmp 67)]) hW rfl rfl Try.underlying26 ag25.siz Try.zeroValue25 rfl rfl rfl (by omega) ?_
                  intro b68 w68 hl68 hB68 hx68
                  replace hE := hE.trans hx68
                  have hsz := hE.size
                  have hszw := hEw.size
                  refine wl_append1 hW rfl rfl rfl rfl (hO.ext hE) (by omega) (show Blk _ _ (cellsOf es[s] bv) 25 from hB68) ((hb1.ext hx68).mono (fun k _ h => ⟨h, fun e => by have := hO.lt _ e.symm; omega⟩)) hok1 (by omega) ?_
                  intro v69 wA hO2 hkA hcA
                  refine wl_val hW rfl rfl (x_assign rfl) ?_
                  refine wl_nil ?_
                  refine nx_then ?_
                  refine wc_region ?_
                  refine wl_val hW rfl rfl (x_assign rfl) ?_
                  refine wl_nil ?_
                  refine nx_block ?_
                  refine nx_then ?_
                  refine wc_region ?_
                  refine wl_val hW rfl rfl (x_move rfl) ?_
                  refine wl_val hW rfl rfl (x_inc (s := s) rfl (by omega)) ?_
                  refine wl_val hW rfl rfl (x_assign rfl) ?_
                  refine wl_nil ?_
                  exact nx_next (s + 1, v69, true) (by dsimp only; omega) ⟨⟨hlt, coll ++ [es[s]], hO2, by simp only [List.length_append, List.length_cons, List.length_nil]; omega, by dsimp only; rw [← hco, drop_at hlt, rLeft_old hc0, pkOf_succ hlt, if_pos hc, List.append_assoc]⟩, Keep.rowed (hEw.trans hE) hkA (fun b h => (hO.lt b h).1)⟩ (by repeat (first | exact sub_nil | refine sub_cons rfl ?_))
                · refine wc_skip ?_
                  refine nx_then ?_
                  refine wc_region ?_
                  refine wl_val hW rfl rfl (x_assign rfl) ?_
                  refine wl_nil ?_
                  refine nx_block ?_
                  refine nx_then ?_
                  refine wc_region ?_
                  refine wl_val hW rfl rfl (x_move rfl) ?_
                  refine wl_val hW rfl rfl (x_inc (s := s) rfl (by omega)) ?_
                  refine wl_val hW rfl rfl (x_assign rfl) ?_
                  refine wl_nil ?_
                  exact nx_next (s + 1, ov, true) (by dsimp only; omega) ⟨⟨hlt, coll, hO.ext hE, by dsimp only; omega, by dsimp only; rw [← hco, drop_at hlt, rLeft_old hc0, pkOf_succ hlt, if_neg (by rw [hc]; simp), List.nil_append]⟩, hEw.trans hE⟩ (by repeat (first | exact sub_nil | refine sub_cons rfl ?_))
      · refine wc_exit ?_
        refine nx_then_exit ?_
        refine nx_then_exit ?_
        refine nx_block_exit ?_
        refine nx_then ?_
        refine wc_seq ?_
        replace hc : ¬ ((s : Nat) : Int) < es.length := hc
        have hdr : es.drop s = [] := List.drop_eq_nil_of_le (by omega)
        rw [hdr] at hco
        refine wc_region ?_
        refine wl_val hW rfl rfl (x_move rfl) ?_
        refine wl_val hW rfl rfl (x_assign rfl) ?_
        refine wl_val hW rfl rfl (x_assign rfl) ?_
        refine wl_nil ?_
        refine nx_then ?_
        refine wc_ret ?_
        exact ends_ret (res_tmp2 Try.results26 rfl rfl) ⟨⟨_, by rw [hrt]; rfl, by rw [hrt]; exact OutIs.row ⟨coll, hO, hcl, hco⟩ (by omega)⟩, hEw⟩
end Go.Proofs.Ytblbddamebbgaaa.K

