/- Walks: Check, job. -/
import Derived.Test.YtblbddamebbgaaaOk
namespace Go.Proofs.Ytblbddamebbgaaa.K
open Go Go.RowKit
set_option linter.unusedVariables false
set_option linter.unusedSimpArgs false

theorem C50 {w : World} {z b t : Int} : Rt Try.prog 50 [.agg #[.int .i64 z, .int .i64 b, .int .i64 t]] w fun r w' => r = .int .i64 (if okS z b t then 0 else 1) ∧ Ext w w' := by
  have hW := hWw
  have hFF := hFw
  have hE : Ext w w := Keep.refl _ _
  refine rt_body Try.func50 rfl Try.ntmps50 rfl ?_
  refine wc_seq ?_
  refine wc_region ?_
  refine wl_box hW rfl rfl rfl rfl ?_
  intro b1 w1 hl1 hB1 hx1
  have g1 : w.heap.size ≤ b1 := Nat.le_trans hE.size hl1
  replace hE := hE.trans hx1
  refine wl_val hW rfl rfl (x_assign rfl) ?_
  refine wl_nil ?_
  refine nx_then ?_
  refine wc_seq ?_
  refine wc_region ?_
  refine wl_val hW rfl rfl x_build78 ?_
  refine wl_val hW rfl rfl x_build78 ?_
  refine wl_alloc (cs := [.int .i64 0, .int .i64 0, .int .i64 0]) hW rfl rfl Try.zeroValue78 rfl ?_
  intro b3 w3 hl3 hB3 hx3
  have g3 : w.heap.size ≤ b3 := Nat.le_trans hE.size hl3
  have n3_1 : b3 ≠ b1 := Nat.ne_of_gt (Nat.lt_of_lt_of_le hB1.lt hl3)
  replace hB1 := hB1.ext hx3
  replace hE := hE.trans hx3
  refine wl_alloc (cs := [.int .i64 0, .int .i64 0, .int .i64 0]) hW rfl rfl Try.zeroValue78 rfl ?_
  intro b4 w4 hl4 hB4 hx4
  have g4 : w.heap.size ≤ b4 := Nat.le_trans hE.size hl4
  have n4_1 : b4 ≠ b1 := Nat.ne_of_gt (Nat.lt_of_lt_of_le hB1.lt hl4)
  replace hB1 := hB1.ext hx4
  have n4_3 : b4 ≠ b3 := Nat.ne_of_gt (Nat.lt_of_lt_of_le hB3.lt hl4)
  replace hB3 := hB3.ext hx4
  replace hE := hE.trans hx4
  refine wl_storeA hW rfl ag78 rfl rfl rfl rfl hB3 rfl ?_
  intro wS hBS hkS
  replace hB1 := hB1.keep hkS n3_1.symm
  replace hB4 := hB4.keep hkS n4_3
  replace hB3 := hBS
  clear hBS
  replace hE := hE.store hkS g3
  refine wl_storeA hW rfl ag78 rfl rfl rfl rfl hB4 rfl ?_
  intro wS hBS hkS
  replace hB1 := hB1.keep hkS n4_1.symm
  replace hB3 := hB3.keep hkS n4_3.symm
  replace hB4 := hBS
  clear hBS
  replace hE := hE.store hkS g4
  refine wl_nil ?_
  refine nx_then ?_
  refine wc_seq ?_
  refine wc_seq ?_
  refine wc_cutE (σ := Bool) (fun u => [(1, .pointer (some ⟨b1, 0, none⟩)), (3, .pointer (some ⟨b3, 0, none⟩)), (4, .pointer (some ⟨b4, 0, none⟩)), (14, .bool u)]) (fun u w' => w' = wS ∧ (u = true → okS z b t = true)) ?_ ?_
  · refine wc_region ?_
    refine wl_val hW rfl rfl (x_loadA ag78 rfl hB1.cells rfl) ?_
    refine wl_val hW rfl rfl (x_loadA ag78 rfl hB3.cells rfl) ?_
    refine wl_val hW rfl rfl (x_eq78 rfl rfl) ?_
    refine wl_val hW rfl rfl (x_move rfl) ?_
    refine wl_bcases (d := 10) rfl (fun hg10 => ?_) (fun hg10 => ?_)
    · refine wl_off hW rfl rfl ?_
      refine wl_off hW rfl rfl ?_
      refine wl_off hW rfl rfl ?_
      refine wl_val hW rfl rfl (x_pickT rfl rfl) ?_
      refine wl_nil ?_
      exact nx_cutE true (by repeat (first | exact sub_nil | refine sub_cons rfl ?_)) ⟨rfl, fun _ => by simp at hg10; unfold okS; exact decide_eq_true (by omega)⟩
    · refine wl_val hW rfl rfl (x_loadA ag78 rfl hB1.cells rfl) ?_
      refine wl_val hW rfl rfl (x_loadA ag78 rfl hB4.cells rfl) ?_
      refine wl_val hW rfl rfl (x_eq78 rfl rfl) ?_
      refine wl_val hW rfl rfl (x_pickF rfl rfl) ?_
      refine wl_nil ?_
      exact nx_cutE (z == 100 && (b == 1073741824 && t == 67108864)) (by repeat (first | exact sub_nil | refine sub_cons rfl ?_)) ⟨rfl, fun h => by simp at h; unfold okS; exact decide_eq_true (by omega)⟩
  · rintro u w' ⟨rfl, hu⟩
    refine nx_then ?_
    refine wc_bool rfl (fun hc => ?_) (fun hc => ?_)
    · refine wc_seq ?_
      refine wc_region ?_
      refine wl_val hW rfl rfl (x_assign rfl) ?_
      refine wl_nil ?_
      refine nx_then ?_
      refine wc_ret ?_
      refine nx_then_ret ?_
      exact ends_ret (res_tmp Try.results50 rfl) ⟨by rw [hu hc]; rfl, hE⟩
    · refine wc_skip ?_
      refine nx_then ?_
      refine wc_seq ?_
      refine wc_seq ?_
      refine wc_cutE (σ := Bool) (fun u => [(54, .bool u)]) (fun u w'' => w'' = w' ∧ u = !okS z b t) ?_ ?_
      · refine wc_region ?_
        refine wl_val hW rfl rfl (x_fieldAddr Try.underlying78 rfl fl3.siz rfl) ?_
        refine wl_val hW rfl rfl (x_load fl3 rfl (hB1.cell (o := 0) rfl)) ?_
        refine wl_val hW rfl rfl (x_fieldAddr Try.underlying78 rfl fl3.siz rfl) ?_
        refine wl_val hW rfl rfl (x_load fl3 rfl (hB3.cell (o := 0) rfl)) ?_
        refine wl_val hW rfl rfl (x_lss rfl rfl) ?_
        refine wl_val hW rfl rfl (x_move rfl) ?_
        refine wl_dcases (d := 20) rfl (fun hg20 => ?_) (fun hg20 => ?_)
        · refine wl_off hW rfl rfl ?_
          refine wl_off hW rfl rfl ?_
          refine wl_off hW rfl rfl ?_
          refine wl_off hW rfl rfl ?_
          refine wl_off hW rfl rfl ?_
          refine wl_val hW rfl rfl (x_pickT rfl rfl) ?_
          refine wl_val hW rfl rfl (x_move rfl) ?_
          refine wl_off hW rfl rfl ?_
          refine wl_off hW rfl rfl ?_
          refine wl_off hW rfl rfl ?_
          refine wl_off hW rfl rfl ?_
          refine wl_off hW rfl rfl ?_
          refine wl_val hW rfl rfl (x_pickT rfl rfl) ?_
          refine wl_val hW rfl rfl (x_move rfl) ?_
          refine wl_off hW rfl rfl ?_
          refine wl_off hW rfl rfl ?_
          refine wl_off hW rfl rfl ?_
          refine wl_off hW rfl rfl ?_
          refine wl_off hW rfl rfl ?_
          refine wl_val hW rfl rfl (x_pickT rfl rfl) ?_
          refine wl_val hW rfl rfl (x_move rfl) ?_
          refine wl_off hW rfl rfl ?_
          refine wl_off hW rfl rfl ?_
          refine wl_off hW rfl rfl ?_
          refine wl_off hW rfl rfl ?_
          refine wl_off hW rfl rfl ?_
          refine wl_val hW rfl rfl (x_pickT rfl rfl) ?_
          refine wl_val hW rfl rfl (x_move rfl) ?_
          refine wl_off hW rfl rfl ?_
          refine wl_off hW rfl rfl ?_
          refine wl_off hW rfl rfl ?_
          refine wl_off hW rfl rfl ?_
          refine wl_off hW rfl rfl ?_
          refine wl_val hW rfl rfl (x_pickT rfl rfl) ?_
          refine wl_nil ?_
          exact nx_cutE true (by repeat (first | exact sub_nil | refine sub_cons rfl ?_)) ⟨rfl, by unfold okS; rw [decide_eq_false (by omega)]; rfl⟩
        · refine wl_val hW rfl rfl (x_fieldAddr Try.underlying78 rfl fl3.siz rfl) ?_
          refine wl_val hW rfl rfl (x_load fl3 rfl (hB1.cell (o := 0) rfl)) ?_
          refine wl_val hW rfl rfl (x_fieldAddr Try.underlying78 rfl fl3.siz rfl) ?_
          refine wl_val hW rfl rfl (x_load fl3 rfl (hB4.cell (o := 0) rfl)) ?_
          refine wl_val hW rfl rfl (x_gtr rfl rfl) ?_
          refine wl_val hW rfl rfl (x_pickF rfl rfl) ?_
          refine wl_val hW rfl rfl (x_move rfl) ?_
          refine wl_dcases (d := 27) rfl (fun hg27 => ?_) (fun hg27 => ?_)
          · refine wl_off hW rfl rfl ?_
            refine wl_off hW rfl rfl ?_
            refine wl_off hW rfl rfl ?_
            refine wl_off hW rfl rfl ?_
            refine wl_off hW rfl rfl ?_
            refine wl_val hW rfl rfl (x_pickT rfl rfl) ?_
            refine wl_val hW rfl rfl (x_move rfl) ?_
            refine wl_off hW rfl rfl ?_
            refine wl_off hW rfl rfl ?_
            refine wl_off hW rfl rfl ?_
            refine wl_off hW rfl rfl ?_
            refine wl_off hW rfl rfl ?_
            refine wl_val hW rfl rfl (x_pickT rfl rfl) ?_
            refine wl_val hW rfl rfl (x_move rfl) ?_
            refine wl_off hW rfl rfl ?_
            refine wl_off hW rfl rfl ?_
            refine wl_off hW rfl rfl ?_
            refine wl_off hW rfl rfl ?_
            refine wl_off hW rfl rfl ?_
            refine wl_val hW rfl rfl (x_pickT rfl rfl) ?_
            refine wl_val hW rfl rfl (x_move rfl) ?_
            refine wl_off hW rfl rfl ?_
            refine wl_off hW rfl rfl ?_
            refine wl_off hW rfl rfl ?_
            refine wl_off hW rfl rfl ?_
            refine wl_off hW rfl rfl ?_
            refine wl_val hW rfl rfl (x_pickT rfl rfl) ?_
            refine wl_nil ?_
            exact nx_cutE true (by repeat (first | exact sub_nil | refine sub_cons rfl ?_)) ⟨rfl, by unfold okS; rw [decide_eq_false (by omega)]; rfl⟩
          · refine wl_val hW rfl rfl (x_fieldAddr Try.underlying78 rfl fl3.siz rfl) ?_
            refine wl_val hW rfl rfl (x_load fl3 rfl (hB1.cell (o := 1) rfl)) ?_
            refine wl_val hW rfl rfl (x_fieldAddr Try.underlying78 rfl fl3.siz rfl) ?_
            refine wl_val hW rfl rfl (x_load fl3 rfl (hB3.cell (o := 1) rfl)) ?_
            refine wl_val hW rfl rfl (x_lss rfl rfl) ?_
            refine wl_val hW rfl rfl (x_pickF rfl rfl) ?_
            refine wl_val hW rfl rfl (x_move rfl) ?_
            refine wl_dcases (d := 34) rfl (fun hg34 => ?_) (fun hg34 => ?_)
            · refine wl_off hW rfl rfl ?_
              refine wl_off hW rfl rfl ?_
              refine wl_off hW rfl rfl ?_
              refine wl_off hW rfl rfl ?_
              refine wl_off hW rfl rfl ?_
              refine wl_val hW rfl rfl (x_pickT rfl rfl) ?_
              refine wl_val hW rfl rfl (x_move rfl) ?_
              refine wl_off hW rfl rfl ?_
              refine wl_off hW rfl rfl ?_
              refine wl_off hW rfl rfl ?_
              refine wl_off hW rfl rfl ?_
              refine wl_off hW rfl rfl ?_
              refine wl_val hW rfl rfl (x_pickT rfl rfl) ?_
              refine wl_val hW rfl rfl (x_move rfl) ?_
              refine wl_off hW rfl rfl ?_
              refine wl_off hW rfl rfl ?_
              refine wl_off hW rfl rfl ?_
              refine wl_off hW rfl rfl ?_
              refine wl_off hW rfl rfl ?_
              refine wl_val hW rfl rfl (x_pickT rfl rfl) ?_
              refine wl_nil ?_
              exact nx_cutE true (by repeat (first | exact sub_nil | refine sub_cons rfl ?_)) ⟨rfl, by unfold okS; rw [decide_eq_false (by omega)]; rfl⟩
            · refine wl_val hW rfl rfl (x_fieldAddr Try.underlying78 rfl fl3.siz rfl) ?_
              refine wl_val hW rfl rfl (x_load fl3 rfl (hB1.cell (o := 1) rfl)) ?_
              refine wl_val hW rfl rfl (x_fieldAddr Try.underlying78 rfl fl3.siz rfl) ?_
              refine wl_val hW rfl rfl (x_load fl3 rfl (hB4.cell (o := 1) rfl)) ?_
              refine wl_val hW rfl rfl (x_gtr rfl rfl) ?_
              refine wl_val hW rfl rfl (x_pickF rfl rfl) ?_
              refine wl_val hW rfl rfl (x_move rfl) ?_
              refine wl_dcases (d := 41) rfl (fun hg41 => ?_) (fun hg41 => ?_)
              · refine wl_off hW rfl rfl ?_
                refine wl_off hW rfl rfl ?_
                refine wl_off hW rfl rfl ?_
                refine wl_off hW rfl rfl ?_
                refine wl_off hW rfl rfl ?_
                refine wl_val hW rfl rfl (x_pickT rfl rfl) ?_
                refine wl_val hW rfl rfl (x_move rfl) ?_
                refine wl_off hW rfl rfl ?_
                refine wl_off hW rfl rfl ?_
                refine wl_off hW rfl rfl ?_
                refine wl_off hW rfl rfl ?_
                refine wl_off hW rfl rfl ?_
                refine wl_val hW rfl rfl (x_pickT rfl rfl) ?_
                refine wl_nil ?_
                exact nx_cutE true (by repeat (first | exact sub_nil | refine sub_cons rfl ?_)) ⟨rfl, by unfold okS; rw [decide_eq_false (by omega)]; rfl⟩
              · refine wl_val hW rfl rfl (x_fieldAddr Try.underlying78 rfl fl3.siz rfl) ?_
                refine wl_val hW rfl rfl (x_load fl3 rfl (hB1.cell (o := 2) rfl)) ?_
                refine wl_val hW rfl rfl (x_fieldAddr Try.underlying78 rfl fl3.siz rfl) ?_
                refine wl_val hW rfl rfl (x_load fl3 rfl (hB3.cell (o := 2) rfl)) ?_
                refine wl_val hW rfl rfl (x_lss rfl rfl) ?_
                refine wl_val hW rfl rfl (x_pickF rfl rfl) ?_
                refine wl_val hW rfl rfl (x_move rfl) ?_
                refine wl_dcases (d := 48) rfl (fun hg48 => ?_) (fun hg48 => ?_)
                · refine wl_off hW rfl rfl ?_
                  refine wl_off hW rfl rfl ?_
                  refine wl_off hW rfl rfl ?_
                  refine wl_off hW rfl rfl ?_
                  refine wl_off hW rfl rfl ?_
                  refine wl_val hW rfl rfl (x_pickT rfl rfl) ?_
                  refine wl_nil ?_
                  exact nx_cutE true (by repeat (first | exact sub_nil | refine sub_cons rfl ?_)) ⟨rfl, by unfold okS; rw [decide_eq_false (by omega)]; rfl⟩
                · refine wl_val hW rfl rfl (x_fieldAddr Try.underlying78 rfl fl3.siz rfl) ?_
                  refine wl_val hW rfl rfl (x_load fl3 rfl (hB1.cell (o := 2) rfl)) ?_
                  refine wl_val hW rfl rfl (x_fieldAddr Try.underlying78 rfl fl3.siz rfl) ?_
                  refine wl_val hW rfl rfl (x_load fl3 rfl (hB4.cell (o := 2) rfl)) ?_
                  refine wl_val hW rfl rfl (x_gtr rfl rfl) ?_
                  refine wl_val hW rfl rfl (x_pickF rfl rfl) ?_
                  refine wl_nil ?_
                  exact nx_cutE (decide ((67108864 : Int) < t)) (by repeat (first | exact sub_nil | refine sub_cons rfl ?_)) ⟨rfl, by unfold okS; by_cases h : (67108864 : Int) < t; (rw [decide_eq_true h, decide_eq_false (by omega)]; rfl); (rw [decide_eq_false h, decide_eq_true (by omega)]; rfl)⟩
      · rintro u w'' ⟨rfl, hu2⟩
        refine nx_then ?_
        refine wc_bool rfl (fun hc => ?_) (fun hc => ?_)
        · refine wc_seq ?_
          refine wc_region ?_
          refine wl_val hW rfl rfl (x_assign rfl) ?_
          refine wl_nil ?_
          refine nx_then ?_
          refine wc_ret ?_
          refine nx_then_ret ?_
          exact ends_ret (res_tmp Try.results50 rfl) ⟨by have : okS z b t = false := (by rw [hc] at hu2; simpa using hu2.symm); rw [this]; rfl, hE⟩
        · refine wc_skip ?_
          refine nx_then ?_
          refine wc_seq ?_
          refine wc_region ?_
          refine wl_val hW rfl rfl (x_assign rfl) ?_
          refine wl_nil ?_
          refine nx_then ?_
          refine wc_ret ?_
          exact ends_ret (res_tmp Try.results50 rfl) ⟨by have : okS z b t = true := (by rw [hc] at hu2; simpa using hu2.symm); rw [this]; rfl, hE⟩
theorem C80 {A A2 : Nat → Prop} {w : World} {tv lv : Value} {ts l' : List Tb} {t0 : Tb} {sq nx wl : Int} {n : Nat} (hR : TRow A w tv ts) (hL : TRow A2 w lv (t0 :: l')) (hn : n ≤ 5) (hts : ts.length ≤ 100000) (hll : (t0 :: l').length ≤ 100000) :
    Rt Try.prog 80 [.agg #[tv, .int .u64 sq, .int .i64 nx, .int .i64 wl], .int .i64 (n : Nat), lv] w fun r w' => (∃ iv, r = .agg [.int .i64 (n : Nat), iv, .bool (jobOf ts n (t0 :: l')).bot].toArray ∧ IRow (fun k => w.heap.size ≤ k) w' iv (jobOf ts n (t0 :: l')).ins) ∧ Ext w w' := by
  obtain ⟨ad, cap, rfl, hcap, hlen⟩ := hR.form
  obtain ⟨bl, ol, cl, rfl, -, -⟩ := hL.at 0 (Nat.zero_lt_succ _)
  replace hR := hR.mono (A' := fun k => k < w.heap.size) fun k hk _ => hk
  replace hL := hL.mono (A' := fun k => k < w.heap.size) fun k hk _ => hk
  have hol : (overL ts ((n + 1 : Nat) : Int) (stretchL t0.a t0.z (t0 :: l')).1 (stretchL t0.a t0.z (t0 :: l')).2).length ≤ ts.length := Nat.le_trans (List.length_filter_le _ _) (levelL_le _ _)
  have hW := hWw
  have hFF := hFw
  have hE : Ext w w := Keep.refl _ _
  refine rt_body Try.func80 rfl Try.ntmps80 rfl ?_
  refine wc_seq ?_
  refine wc_region ?_
  refine wl_box hW rfl rfl rfl rfl ?_
  intro b3 w3 hl3 hB3 hx3
  have g3 : w.heap.size ≤ b3 := Nat.le_trans hE.size hl3
  replace hE := hE.trans hx3
  refine wl_alloc (cs := [.int .i64 0, .slice none 0 0, .bool false]) hW rfl rfl Try.zeroValue95 rfl ?_
  intro b6 w6 hl6 hB6 hx6
  have g6 : w.heap.size ≤ b6 := Nat.le_trans hE.size hl6
  have n6_3 : b6 ≠ b3 := Nat.ne_of_gt (Nat.lt_of_lt_of_le hB3.lt hl6)
  replace hB3 := hB3.ext hx6
  replace hE := hE.trans hx6
  refine wl_nil ?_
  refine nx_then ?_
  refine wc_seq ?_
  refine wc_region ?_
  refine wl_val hW rfl rfl (x_move rfl) ?_
  refine wl_call hW rfl rfl (x_call en92 rfl) ((C92 (hL.ext hE) (Nat.zero_lt_succ _)).inF hFF) ?_
  rintro _ wC ⟨rfl, hxC⟩
  replace hB3 := hB3.ext hxC
  replace hB6 := hB6.ext hxC
  replace hE := hE.trans hxC
  refine wl_val hW rfl rfl (x_move rfl) ?_
  refine wl_val hW rfl rfl (x_extract rfl rfl) ?_
  refine wl_val hW rfl rfl (x_extract rfl rfl) ?_
  refine wl_val hW rfl rfl (x_assign rfl) ?_
  refine wl_val hW rfl rfl (x_assign rfl) ?_
  refine wl_nil ?_
  refine nx_then ?_
  refine wc_seq ?_
  refine wc_draw' 7 hW mixed (by kernel_rfl) (fun w0 hx0 => ?_)
  replace hB3 := hB3.ext hx0
  replace hB6 := hB6.ext hx0
  replace hE := hE.trans hx0
  have hL0 := hL.ext hE
  have hR0 := hR.ext hE
  refine q_val rfl rfl (fun _ hx => x_move rfl) ?_
  refine q_call rfl rfl (fun _ => x_call en93 rfl) (fun w' hx => (C93c (hL0.ext hx)).inF hFF) ?_
  refine q_val rfl rfl (fun _ hx => x_loadA ag82 rfl (hB3.ext hx).cells rfl) ?_
  refine q_val rfl rfl (fun _ hx => x_move rfl) ?_
  refine q_val rfl rfl (fun _ hx => x_inc (s := n) rfl (by omega)) ?_
  refine q_val rfl rfl (fun _ hx => x_move rfl) ?_
  refine q_val rfl rfl (fun _ hx => x_move rfl) ?_
  refine q_nil (tail0 (fun wt hxt => ?_))
  replace hB3 := hB3.ext hxt
  replace hB6 := hB6.ext hxt
  replace hE := hE.trans hxt
  refine wl_call hW rfl rfl (x_call en94 rfl) ((C94 (hR0.ext hxt)).inF hFF) ?_
  rintro ro wC ⟨hRo, hxC⟩
  replace hB3 := hB3.ext hxC
  replace hB6 := hB6.ext hxC
  replace hE := hE.trans hxC
  replace hRo : TRow (fun k => wt.heap.size ≤ k) wC ro (overL ts ((n + 1 : Nat) : Int) (stretchL t0.a t0.z (t0 :: l')).1 (stretchL t0.a t0.z (t0 :: l')).2) := hRo
  obtain ⟨ao, co, rfl, -, -⟩ := hRo.form
  have hLC := TRow.full ((hL0.ext hxt).ext hxC)
  have hszC := hE.size
  refine wl_appendFull hW rfl rfl rfl rfl rfl rfl hLC hRo (by omega) (Nat.zero_lt_succ _) ?_
  intro av wX hAll0 hxX
  replace hB3 := hB3.ext hxX
  replace hB6 := hB6.ext hxX
  replace hE := hE.trans hxX
  obtain ⟨o, ho⟩ : ∃ o, o = overL ts ((n + 1 : Nat) : Int) (stretchL t0.a t0.z (t0 :: l')).1 (stretchL t0.a t0.z (t0 :: l')).2 := ⟨_, rfl⟩
  rw [← ho] at hAll0 hol
  have hjob : jobOf ts n (t0 :: l') = ⟨n, (t0 :: (l' ++ o)).map (·.f), lowB ts (stretchL t0.a t0.z (t0 :: (l' ++ o))).1 (stretchL t0.a t0.z (t0 :: (l' ++ o))).2 ((n : Int) + 2) (5 - n)⟩ := by
    have h5 : (5 - (n : Int)).toNat = 5 - n := by omega
    rw [ho, ← h5]; rfl
  obtain ⟨all, hall⟩ : ∃ all, all = t0 :: (l' ++ o) := ⟨_, rfl⟩
  have hAll : TRow (fun k => k < wX.heap.size) wX av all := by rw [hall]; exact hAll0.mono fun k hk _ => hk
  have hal : all.length ≤ 200000 := by rw [hall]; simp at hol hll ⊢; omega
  have hal0 : 0 < all.length := by rw [hall]; exact Nat.zero_lt_succ _
  have hRX := ((hR0.ext hxt).ext hxC).ext hxX
  rw [← hall] at hjob
  obtain ⟨aa, ca, rfl, hca, -⟩ := hAll.form
  refine wl_val hW rfl rfl (x_assign rfl) ?_
  refine wl_nil ?_
  refine nx_then ?_
  refine wc_seq ?_
  refine wc_region ?_
  refine wl_val hW rfl rfl (x_move rfl) ?_
  refine wl_val hW rfl rfl (x_build95 rfl) ?_
  refine wl_alloc (cs := [.int .i64 0, .slice none 0 0, .bool false]) hW rfl rfl Try.zeroValue95 rfl ?_
  intro b10 w10 hl10 hB10 hx10
  have g10 : w.heap.size ≤ b10 := Nat.le_trans hE.size hl10
  have n10_3 : b10 ≠ b3 := Nat.ne_of_gt (Nat.lt_of_lt_of_le hB3.lt hl10)
  replace hB3 := hB3.ext hx10
  have n10_6 : b10 ≠ b6 := Nat.ne_of_gt (Nat.lt_of_lt_of_le hB6.lt hl10)
  replace hB6 := hB6.ext hx10
  replace hE := hE.trans hx10
  refine wl_storeA hW rfl ag95 rfl rfl rfl rfl hB10 rfl ?_
  intro w5 hBS hkS
  replace hB3 := hB3.keep hkS n10_3.symm
  replace hB6 := hB6.keep hkS n10_6.symm
  replace hB10 := hBS
  clear hBS
  replace hE := hE.store hkS g10
  refine wl_nil ?_
  refine nx_then ?_
  refine wc_seq ?_
  refine wc_seq ?_
  have hE5 := hE
  have hB3s := hB3
  have hB6s := hB6
  have hszX := hx10.size
  have hAllS : TRow (fun k => k < wX.heap.size) w5 (.slice aa all.length ca) all := (hAll.ext hx10).keep hkS fun k _ hk => by omega
  have hRS : TRow (fun k => k < w.heap.size) w5 (.slice ad ts.length cap) ts := (hRX.ext hx10).keep hkS fun k _ hk => by have := hE5.size; omega
  have h10s := hB10.lt
  have hBn : Blk w5 b10 [.int .i64 (n : Nat), .slice none 0 0, .bool true] 95 := hB10
  refine wc_region ?_
  refine wl_val hW rfl rfl (x_move rfl) ?_
  refine wl_val hW rfl rfl (x_len Try.underlying80 rfl) ?_
  refine wl_val hW rfl rfl (x_move rfl) ?_
  refine wl_nil ?_
  refine nx_then ?_
  refine wc_block ?_
  refine wc_loop (σ := Nat) (fun s => [(1, .int .i64 (n : Nat)), (3, .pointer (some ⟨b3, 0, none⟩)), (6, .pointer (some ⟨b6, 0, none⟩)), (9, .slice aa all.length ca), (10, .pointer (some ⟨b10, 0, none⟩)), (30, .slice aa all.length ca), (31, .int .i64 (all.length : Nat)), (32, .int .i64 (s : Nat))]) (fun s w' => (s ≤ all.length ∧ ∃ ov, Blk w' b10 [.int .i64 (n : Nat), ov, .bool true] 95 ∧ w'.ownsRow w5.heap.size 3 1 ov s (intCells ((all.take s).map (·.f)))) ∧ Keep (· ≠ b10) w5 w') (fun s => all.length - s) 0 ?_ ?_ ?_
  · exact ⟨⟨Nat.zero_le _, _, hBn, ⟨rfl, .inl ⟨rfl, rfl⟩⟩⟩, Keep.refl _ _⟩
  · repeat (first | exact sub_nil | refine sub_cons rfl ?_)
  · rintro s wr ⟨⟨hs, ov, hB10, hO⟩, hK⟩
    have hB3 := hB3s.keep hK n10_3.symm
    have hB6 := hB6s.keep hK n10_6.symm
    have hE : Ext w wr := Keep.store hE5 hK g10
    have hAllr := hAllS.keep hK fun k _ hk => by omega
    have hRr := hRS.keep hK fun k _ hk => by omega
    have hszK := hK.size
    have hov1 : ov.oneCell' = true := by obtain ⟨a, c, rfl, -⟩ := owns_src hO; rfl
    have hov10 : ∀ b, ov.ownBlock = some b → b ≠ b10 := fun b hb => by obtain ⟨-, cs, h2⟩ := ownsRow_blk hO hb; exact h2.ne hB10 (by decide)
    refine wc_seq ?_
    refine wc_region ?_
    refine wl_val hW rfl rfl (x_lss rfl rfl) ?_
    refine wl_nil ?_
    refine nx_then ?_
    refine wc_seq ?_
    refine wc_dec rfl (fun hc => ?_) (fun hc => ?_)
    · refine wc_skip ?_
      refine nx_then ?_
      refine wc_seq ?_
      refine wc_block ?_
      refine wc_seq ?_
      refine wc_region ?_
      have hlt : s < all.length := by omega
      obtain ⟨b, oo, cap', e1, hA, hC34⟩ := hAllr.at s hlt
      cases e1
      refine wl_val hW rfl rfl (x_indexAddr Try.underlying80 ag87.siz rfl rfl (by omega) (by omega)) ?_
      refine wl_val hW rfl rfl (x_loadA ag87 rfl hC34 rfl) ?_
      refine wl_alloc (cs := [.int .i64 0, .int .i64 0, .string ⟨#[]⟩, .string ⟨#[]⟩, .int .i64 0]) hW rfl rfl Try.zeroValue87 rfl ?_
      intro b12 w12 hl12 hB12 hx12
      have g12 : w.heap.size ≤ b12 := Nat.le_trans hE.size hl12
      have n12_3 : b12 ≠ b3 := Nat.ne_of_gt (Nat.lt_of_lt_of_le hB3.lt hl12)
      replace hB3 := hB3.ext hx12
      have n12_6 : b12 ≠ b6 := Nat.ne_of_gt (Nat.lt_of_lt_of_le hB6.lt hl12)
      replace hB6 := hB6.ext hx12
      have n12_10 : b12 ≠ b10 := Nat.ne_of_gt (Nat.lt_of_lt_of_le hB10.lt hl12)
      replace hB10 := hB10.ext hx12
      replace hE := hE.trans hx12
      refine wl_storeA hW rfl ag87 rfl rfl (cellsT_one _) rfl hB12 rfl ?_
      intro wS hBS hkS
      replace hB3 := hB3.keep hkS n12_3.symm
      replace hB6 := hB6.keep hkS n12_6.symm
      replace hB10 := hB10.keep hkS n12_10.symm
      replace hB12 := hBS
      clear hBS
      replace hE := hE.store hkS g12
      refine wl_nil ?_
      refine nx_then ?_
      have hO12 : wS.ownsRow w5.heap.size 3 1 ov s (intCells ((all.take s).map (·.f))) := ownsRow_keep (ownsRow_keep hO hx12 fun _ _ => trivial) hkS (fun b hb => by obtain ⟨-, cs, h2⟩ := ownsRow_blk hO hb; have := h2.lt; omega)
      have hK12 : Keep (· ≠ b10) w5 wS := (hK.trans (Keep.of_ext hx12)).then hkS fun k hk h => by omega
      refine wc_region ?_
      refine wl_val hW rfl rfl (x_fieldAddr Try.underlying95 rfl fl42.siz rfl) ?_
      refine wl_val hW rfl rfl (x_load fl42 rfl (hB10.cell (o := 1) rfl)) ?_
      refine wl_val hW rfl rfl (x_fieldAddr Try.underlying87 rfl fl3.siz rfl) ?_
      refine wl_val hW rfl rfl (x_load fl3 rfl (hB12.cell (o := 0) rfl)) ?_
      refine wl_buildSlice (parts := [(0, .tmp 39)]) hW rfl rfl Try.underlying42 fl3.siz Try.zeroValue3 rfl rfl rfl (by omega) ?_
      intro b40 w40 hl40 hB40 hx40
      have g40 : w.heap.size ≤ b40 := Nat.le_trans hE.size hl40
      have n40_3 : b40 ≠ b3 := Nat.ne_of_gt (Nat.lt_of_lt_of_le hB3.lt hl40)
      replace hB3 := hB3.ext hx40
      have n40_6 : b40 ≠ b6 := Nat.ne_of_gt (Nat.lt_of_lt_of_le hB6.lt hl40)
      replace hB6 := hB6.ext hx40
      have n40_10 : b40 ≠ b10 := Nat.ne_of_gt (Nat.lt_of_lt_of_le hB10.lt hl40)
      replace hB10 := hB10.ext hx40
      have n40_12 : b40 ≠ b12 := Nat.ne_of_gt (Nat.lt_of_lt_of_le hB12.lt hl40)
      replace hB12 := hB12.ext hx40
      replace hE := hE.trans hx40
      have hO40 := ownsRow_keep hO12 hx40 fun _ _ => trivial
      have hsz5 := hK12.size
      have hsz40 := hx40.size
      refine wl_append Try.underlying42 info3 rfl (by decide) hW rfl rfl rfl rfl hO40 (show (intCells [all[s].f]).length = 1 * 1 from rfl) (src_blk (show Blk _ _ (intCells [all[s].f]) 3 from hB40)) intCells_one (by omega) (by decide) (by omega) ?_
      intro v41 wA hO41 hkA hcA
      replace hB10 := hB10.keep hkA (fun e => hov10 _ e.symm rfl)
      have hK41 : Keep (· ≠ b10) w5 wA := (hK12.trans (Keep.of_ext hx40)).then hkA fun k hk h e => by have := (ownsRow_blk hO e.symm).1; omega
      have hO1 : v41.oneCell' = true := by obtain ⟨a, c, rfl, -⟩ := owns_src hO41; rfl
      have h41n : ∀ b, v41.ownBlock = some b → b ≠ b10 := fun b hb => by obtain ⟨-, cs, h2⟩ := ownsRow_blk hO41 hb; exact h2.ne hB10 (by decide)
      refine wl_val hW rfl rfl (x_fieldAddr Try.underlying95 rfl fl42.siz rfl) ?_
      refine wl_store hW rfl fl42 rfl rfl hO1 hB10 rfl ?_
      intro wT hBS hkT
      replace hB10 := hBS
      clear hBS
      refine wl_nil ?_
      refine nx_block ?_
      refine nx_then ?_
      refine wc_region ?_
      refine wl_val hW rfl rfl (x_inc (s := s) rfl (by omega)) ?_
      refine wl_val hW rfl rfl (x_move rfl) ?_
      refine wl_nil ?_
      exact nx_next (s + 1) (by omega) ⟨⟨hlt, v41, hB10, by have h9 := ownsRow_keep hO41 hkT (fun b hb => h41n b hb); rw [map_take_f hlt]; unfold intCells at h9 ⊢; rw [List.map_append]; exact h9⟩, hK41.trans hkT⟩ (by repeat (first | exact sub_nil | refine sub_cons rfl ?_))
    · refine wc_exit ?_
      refine nx_then_exit ?_
      refine nx_then_exit ?_
      refine nx_block_exit ?_
      refine nx_then ?_
      refine wc_seq ?_
      have hsl : s = all.length := by omega
      rw [hsl, List.take_length] at hO
      refine wc_region ?_
      refine wl_val hW rfl rfl (x_move rfl) ?_
      refine wl_call hW rfl rfl (x_call en92 rfl) ((C92 hAllr hal0).inF hFF) ?_
      rintro _ w6 ⟨rfl, hxC⟩
      replace hB3 := hB3.ext hxC
      replace hB6 := hB6.ext hxC
      replace hB10 := hB10.ext hxC
      replace hE := hE.trans hxC
      refine wl_val hW rfl rfl (x_move rfl) ?_
      refine wl_val hW rfl rfl (x_extract rfl rfl) ?_
      refine wl_val hW rfl rfl (x_extract rfl rfl) ?_
      refine wl_val hW rfl rfl (x_assign rfl) ?_
      refine wl_val hW rfl rfl (x_assign rfl) ?_
      refine wl_nil ?_
      refine nx_then ?_
      refine wc_seq ?_
      refine wc_seq ?_
      refine wc_region ?_
      refine wl_val hW rfl rfl (x_move rfl) ?_
      refine wl_val hW rfl rfl (x_addn (i := n) (j := 2) rfl rfl (by omega)) ?_
      refine wl_val hW rfl rfl (x_assign rfl) ?_
      refine wl_nil ?_
      refine nx_then ?_
      have hO6 := ownsRow_keep hO hxC fun _ _ => trivial
      have hE6 := hE
      have hB3t := hB3
      have hB6t := hB6
      have hR6 := hRr.ext hxC
      obtain ⟨f1, hf1⟩ : ∃ f1, f1 = (stretchL all[0].a all[0].z all).1 := ⟨_, rfl⟩
      obtain ⟨z1, hz1⟩ : ∃ z1, z1 = (stretchL all[0].a all[0].z all).2 := ⟨_, rfl⟩
      have ha0 : all[0] = t0 := by simp only [hall]; rfl
      have hjob2 : jobOf ts n (t0 :: l') = ⟨n, all.map (·.f), lowB ts f1 z1 ((n : Int) + 2) (5 - n)⟩ := by rw [hjob, hf1, hz1, ha0]
      rw [← hf1, ← hz1]
      refine wc_block ?_
      refine wc_loop (σ := Nat) (fun c => [(3, .pointer (some ⟨b3, 0, none⟩)), (6, .pointer (some ⟨b6, 0, none⟩)), (7, .string f1), (8, .string z1), (10, .pointer (some ⟨b10, 0, none⟩)), (13, .int .i64 ((n + 2 + c : Nat)))]) (fun c w' => (c ≤ 5 - n ∧ Blk w' b10 [.int .i64 (n : Nat), ov, .bool (lowB ts f1 z1 ((n : Int) + 2) c)] 95) ∧ Keep (· ≠ b10) w6 w') (fun c => 5 - n - c) 0 ?_ ?_ ?_
      · exact ⟨⟨Nat.zero_le _, hB10⟩, Keep.refl _ _⟩
      · repeat (first | exact sub_nil | refine sub_cons rfl ?_)
      · rintro c wr2 ⟨⟨hcn, hB10⟩, hK6⟩
        have hB3 := hB3t.keep hK6 n10_3.symm
        have hB6 := hB6t.keep hK6 n10_6.symm
        have hE : Ext w wr2 := Keep.store hE6 hK6 g10
        have hRc := hR6.keep hK6 fun k _ hk => by omega
        refine wc_seq ?_
        refine wc_seq ?_
        refine wc_region ?_
        refine wl_val hW rfl rfl (x_move rfl) ?_
        refine wl_val hW rfl rfl (x_leq rfl rfl) ?_
        refine wl_nil ?_
        refine nx_then ?_
        refine wc_dec rfl (fun hc => ?_) (fun hc => ?_)
        · refine wc_skip ?_
          refine nx_then ?_
          refine wc_seq ?_
          refine wc_block ?_
          have hcast : (((n + 2 + c : Nat)) : Int) = (n : Int) + 2 + (c : Nat) := by omega
          refine wc_cut [(3, .pointer (some ⟨b3, 0, none⟩)), (6, .pointer (some ⟨b6, 0, none⟩)), (7, .string f1), (8, .string z1), (10, .pointer (some ⟨b10, 0, none⟩)), (13, .int .i64 ((n + 2 + c : Nat)))] (fun w' => Blk w' b10 [.int .i64 (n : Nat), ov, .bool (lowB ts f1 z1 ((n : Int) + 2) (c + 1))] 95 ∧ Keep (· ≠ b10) w6 w') ?_ ?_
          · refine wc_region ?_
            refine wl_val hW rfl rfl (x_fieldAddr Try.underlying95 rfl fl4.siz rfl) ?_
            refine wl_val hW rfl rfl (x_load fl4 rfl (hB10.cell (o := 2) rfl)) ?_
            refine wl_val hW rfl rfl (x_move rfl) ?_
            refine wl_bcases (d := 57) rfl (fun hg57 => ?_) (fun hg57 => ?_)
            · refine wl_val hW rfl rfl (x_loadA ag82 rfl hB3.cells rfl) ?_
              refine wl_val hW rfl rfl (x_move rfl) ?_
              refine wl_val hW rfl rfl (x_move rfl) ?_
              refine wl_val hW rfl rfl (x_move rfl) ?_
              refine wl_call hW rfl rfl (x_call en94 rfl) ((C94 hRc).inF hFF) ?_
              rintro ro wC2 ⟨hRo2, hxC⟩
              replace hB3 := hB3.ext hxC
              replace hB6 := hB6.ext hxC
              replace hB10 := hB10.ext hxC
              replace hE := hE.trans hxC
              have hRol : (overL ts (((n + 2 + c : Nat)) : Int) f1 z1).length ≤ 100000 := Nat.le_trans (Nat.le_trans (List.length_filter_le _ _) (levelL_le _ _)) hts
              obtain ⟨ao2, co2, rfl, -, -⟩ := hRo2.form
              refine wl_val hW rfl rfl (x_len Try.underlying80 rfl) ?_
              refine wl_val hW rfl rfl (x_eql rfl rfl) ?_
              refine wl_val hW rfl rfl (x_pickT rfl rfl) ?_
              refine wl_val hW rfl rfl (x_fieldAddr Try.underlying95 rfl fl4.siz rfl) ?_
              refine wl_store hW rfl fl4 rfl rfl rfl hB10 rfl ?_
              intro wS hBS hkS
              replace hB3 := hB3.keep hkS n10_3.symm
              replace hB6 := hB6.keep hkS n10_6.symm
              replace hB10 := hBS
              clear hBS
              replace hE := hE.store hkS g10
              refine wl_nil ?_
              exact nx_cut (by repeat (first | exact sub_nil | refine sub_cons rfl ?_)) ⟨by rw [lowB_succ, hg57, Bool.true_and, ← hcast]; exact hB10, (hK6.trans (Keep.of_ext hxC)).trans hkS⟩
            · refine wl_off hW rfl rfl ?_
              refine wl_off hW rfl rfl ?_
              refine wl_off hW rfl rfl ?_
              refine wl_off hW rfl rfl ?_
              refine wl_off hW rfl rfl ?_
              refine wl_off hW rfl rfl ?_
              refine wl_off hW rfl rfl ?_
              refine wl_val hW rfl rfl (x_pickF rfl rfl) ?_
              refine wl_val hW rfl rfl (x_fieldAddr Try.underlying95 rfl fl4.siz rfl) ?_
              refine wl_store hW rfl fl4 rfl rfl rfl hB10 rfl ?_
              intro wS hBS hkS
              replace hB3 := hB3.keep hkS n10_3.symm
              replace hB6 := hB6.keep hkS n10_6.symm
              replace hB10 := hBS
              clear hBS
              replace hE := hE.store hkS g10
              refine wl_nil ?_
              exact nx_cut (by repeat (first | exact sub_nil | refine sub_cons rfl ?_)) ⟨by rw [lowB_succ, hg57, Bool.false_and]; exact hB10, hK6.trans hkS⟩
          · rintro w' ⟨hB10', hK6'⟩
            refine nx_block ?_
            refine nx_then ?_
            refine wc_region ?_
            refine wl_val hW rfl rfl (x_move rfl) ?_
            refine wl_val hW rfl rfl (x_inc (s := n + 2 + c) rfl (by omega)) ?_
            refine wl_val hW rfl rfl (x_assign rfl) ?_
            refine wl_nil ?_
            exact nx_next (c + 1) (by omega) ⟨⟨by omega, hB10'⟩, hK6'⟩ (by repeat (first | exact sub_nil | refine sub_cons rfl ?_))
        · refine wc_exit ?_
          refine nx_then_exit ?_
          refine nx_then_exit ?_
          refine nx_block_exit ?_
          refine nx_then ?_
          refine wc_seq ?_
          have hcl : c = 5 - n := by omega
          rw [hcl] at hB10
          refine wc_region ?_
          refine wl_val hW rfl rfl (x_loadA ag95 rfl hB10.cells rfl) ?_
          refine wl_storeA hW rfl ag95 rfl rfl (by obtain ⟨a, c, rfl, -⟩ := owns_src hO; rfl) rfl hB6 rfl ?_
          intro wS hBS hkS
          have hOf := ownsRow_keep (ownsRow_keep hO6 hK6 hov10) hkS (fun b hb => by obtain ⟨-, cs, h2⟩ := ownsRow_blk (ownsRow_keep hO6 hK6 hov10) hb; exact h2.ne hB6 (by decide))
          replace hB3 := hB3.keep hkS n6_3.symm
          replace hB10 := hB10.keep hkS n10_6
          replace hB6 := hBS
          clear hBS
          replace hE := hE.store hkS g6
          refine wl_nil ?_
          refine nx_then ?_
          refine wc_ret ?_
          exact ends_ret (res_cell Try.results80 rfl (run_loadVar_cells ag95 hB6.cells rfl)) ⟨⟨ov, by rw [hjob2]; rfl, by rw [hjob2]; exact (irow_own hOf (by rw [List.length_map]; omega)).mono fun k _ hk => by have := hE5.size; omega⟩, hE⟩
theorem C80z {A A2 : Nat → Prop} {w : World} {tv lv : Value} {ts l' : List Tb} {t0 : Tb} {sq nx wl : Int} (hR : TRow A w tv ts) (hL : TRow A2 w lv (t0 :: l')) (hts : ts.length ≤ 100000) (hll : (t0 :: l').length ≤ 100000) :
    Rt Try.prog 80 [.agg #[tv, .int .u64 sq, .int .i64 nx, .int .i64 wl], .int .i64 0, lv] w fun r w' => (∃ iv, r = .agg [.int .i64 0, iv, .bool (jobOf ts 0 (t0 :: l')).bot].toArray ∧ IRow (fun k => w.heap.size ≤ k) w' iv (jobOf ts 0 (t0 :: l')).ins) ∧ Ext w w' := by
  have h := C80 (n := 0) (sq := sq) (nx := nx) (wl := wl) hR hL (Nat.zero_le _) hts hll
  rw [show (((0 : Nat)) : Int) = 0 from rfl] at h
  exact h
end Go.Proofs.Ytblbddamebbgaaa.K

