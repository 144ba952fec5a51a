/- Walk: the law MergeParts. -/
import Derived.Test.YtblbddamebbgaaaHc
import Derived.Test.YtblbddamebbgaaaPa
namespace Go.Proofs.Ytblbddamebbgaaa.K
open Go Go.RowKit
set_option linter.unusedVariables false
set_option linter.unusedSimpArgs false

theorem lrow7 {A : Nat → Prop} {w : World} {b : Nat} {v0 v1 v2 v3 v4 v5 v6 : Value} {x0 x1 x2 x3 x4 x5 x6 : List Ent} (hB : Blk w b [v0, v1, v2, v3, v4, v5, v6] 26) (hA : A b) (h0 : Row A w v0 x0) (h1 : Row A w v1 x1) (h2 : Row A w v2 x2) (h3 : Row A w v3 x3) (h4 : Row A w v4 x4) (h5 : Row A w v5 x5) (h6 : Row A w v6 x6) : LRow A w (.slice (some ⟨b, 0, none⟩) 7 7) [x0, x1, x2, x3, x4, x5, x6] :=
  lrow_of_blk (ls := [x0, x1, x2, x3, x4, x5, x6]) (vals := [v0, v1, v2, v3, v4, v5, v6]) rfl hB hA (fun i l u hi hj => by
    match i, hi, hj with
    | 0, hi, hj => cases hi; cases hj; exact h0
    | 1, hi, hj => cases hi; cases hj; exact h1
    | 2, hi, hj => cases hi; cases hj; exact h2
    | 3, hi, hj => cases hi; cases hj; exact h3
    | 4, hi, hj => cases hi; cases hj; exact h4
    | 5, hi, hj => cases hi; cases hj; exact h5
    | 6, hi, hj => cases hi; cases hj; exact h6) (by simp)
theorem C11 {A0 : Nat → Prop} {w : World} {v u : Value} {es : List Ent} {zs : List Int} (hR : Row (fun k => k < w.heap.size) w v es) (hZ : IRow A0 w u zs) : Rt Try.prog 11 [v, u] w fun r w' => r = .bool true ∧ Ext w w' := by
  obtain ⟨ad, cap, rfl, hcap, hlen⟩ := hR.form
  obtain ⟨ad2, cap2, rfl, hzl⟩ := hZ.form
  have hW := hWw
  have hFF := hFw
  have hE : Ext w w := Keep.refl _ _
  refine rt_body Try.func11 rfl Try.ntmps11 rfl ?_
  refine wc_seq ?_
  refine wc_region ?_
  refine wl_val hW rfl rfl (x_assign rfl) ?_
  refine wl_nil ?_
  refine nx_then ?_
  refine wc_seq ?_
  refine wc_seq ?_
  refine wc_region ?_
  refine wl_call hW rfl rfl (x_call en16 rfl) (C16.inF hFF) ?_
  rintro _ wC ⟨rfl, hxC⟩
  replace hE := hE.trans hxC
  refine wl_val hW rfl rfl (x_not rfl) ?_
  refine wl_nil ?_
  refine nx_then ?_
  refine wc_false rfl ?_
  refine wc_skip ?_
  refine nx_then ?_
  refine wc_seq ?_
  refine wc_seq ?_
  refine wc_cutE (σ := Bool) (fun s => [(0, .slice ad es.length cap), (1, .slice ad2 zs.length cap2), (19, .bool s)]) (fun s w' => Ext w w' ∧ (s = false → (es.length : Int) ≤ 1000 ∧ rightB es = true)) ?_ ?_
  · refine wc_region ?_
    refine wl_val hW rfl rfl (x_move rfl) ?_
    refine wl_call hW rfl rfl (x_call en17 rfl) ((C17 (hR.ext hE)).inF hFF) ?_
    rintro _ wC ⟨⟨bb, rfl, hfew⟩, hxC⟩
    replace hE := hE.trans hxC
    refine wl_val hW rfl rfl (x_not rfl) ?_
    refine wl_val hW rfl rfl (x_move rfl) ?_
    refine wl_bcases (d := 15) rfl (fun hg15 => ?_) (fun hg15 => ?_)
    · refine wl_off hW rfl rfl ?_
      refine wl_off hW rfl rfl ?_
      refine wl_off hW rfl rfl ?_
      refine wl_val hW rfl rfl (x_pickT rfl rfl) ?_
      refine wl_nil ?_
      exact nx_cutE true (by repeat (first | exact sub_nil | refine sub_cons rfl ?_)) ⟨hE, fun h => by cases h⟩
    · refine wl_val hW rfl rfl (x_move rfl) ?_
      refine wl_call hW rfl rfl (x_call en20 rfl) ((C20 (hR.ext hE)).inF hFF) ?_
      rintro _ wC ⟨rfl, hxC⟩
      replace hE := hE.trans hxC
      refine wl_val hW rfl rfl (x_not rfl) ?_
      refine wl_val hW rfl rfl (x_pickF rfl rfl) ?_
      refine wl_nil ?_
      exact nx_cutE (!rightB es) (by repeat (first | exact sub_nil | refine sub_cons rfl ?_)) ⟨hE, fun h => ⟨hfew (by simpa using hg15), by simpa using h⟩⟩
  · rintro s w' ⟨hE, hs⟩
    refine nx_then ?_
    refine wc_bool rfl (fun hc => ?_) (fun hc => ?_)
    · refine wc_seq ?_
      refine wc_region ?_
      refine wl_val hW rfl rfl (x_assign rfl) ?_
      refine wl_nil ?_
      refine nx_then ?_
      refine wc_ret ?_
      refine nx_then_ret ?_
      exact ends_ret (res_tmp Try.results11 rfl) ⟨rfl, hE⟩
    · obtain ⟨hl, hrt⟩ := hs hc
      refine wc_skip ?_
      refine nx_then ?_
      refine wc_seq ?_
      refine wc_region ?_
      refine wl_alloc (cs := [.slice none 0 0, .slice none 0 0, .slice none 0 0, .slice none 0 0, .slice none 0 0, .slice none 0 0, .slice none 0 0]) hW rfl rfl Try.zeroValue69 rfl ?_
      intro b5 w5 hl5 hB5 hx5
      have g5 : w.heap.size ≤ b5 := Nat.le_trans hE.size hl5
      replace hE := hE.trans hx5
      refine wl_nil ?_
      refine nx_then ?_
      refine wc_seq ?_
      refine wc_seq ?_
      refine wc_region ?_
      refine wl_val hW rfl rfl (x_assign rfl) ?_
      refine wl_nil ?_
      refine nx_then ?_
      refine wc_block ?_
      refine wc_loop (σ := Nat) (fun s => [(0, .slice ad es.length cap), (1, .slice ad2 zs.length cap2), (5, .pointer (some ⟨b5, 0, none⟩)), (6, .int .i64 s)]) (fun s w' => s ≤ es.length ∧ Sev (fun k => k < w.heap.size) w.heap.size w' b5 (parts7 (pidx zs) (es.take s)) ∧ Ext w w') (fun s => es.length - s) 0 ?_ ?_ ?_
      · exact ⟨Nat.zero_le _, Sev.start _ hB5, hE⟩
      · repeat (first | exact sub_nil | refine sub_cons rfl ?_)
      · rintro s wr ⟨hsl, hSv, hEw⟩
        have hE : Ext wr wr := Keep.refl _ _
        clear hB5
        refine wc_seq ?_
        refine wc_seq ?_
        refine wc_region ?_
        refine wl_val hW rfl rfl (x_move rfl) ?_
        refine wl_val hW rfl rfl (x_move rfl) ?_
        refine wl_val hW rfl rfl (x_len Try.underlying26 rfl) ?_
        refine wl_val hW rfl rfl (x_lss rfl rfl) ?_
        refine wl_nil ?_
        refine nx_then ?_
        refine wc_dec rfl (fun hc => ?_) (fun hc => ?_)
        · replace hc : ((s : Nat) : Int) < es.length := hc
          have hlt : s < es.length := by omega
          refine wc_skip ?_
          refine nx_then ?_
          refine wc_seq ?_
          refine wc_block ?_
          refine wc_seq ?_
          refine wc_region ?_
          refine wl_val hW rfl rfl (x_assign rfl) ?_
          refine wl_nil ?_
          refine nx_then ?_
          refine wc_seq ?_
          refine wc_seq ?_
          refine wc_region ?_
          refine wl_val hW rfl rfl (x_move rfl) ?_
          refine wl_val hW rfl rfl (x_move rfl) ?_
          refine wl_val hW rfl rfl (x_len Try.underlying42 rfl) ?_
          refine wl_val hW rfl rfl (x_lss rfl rfl) ?_
          refine wl_nil ?_
          refine nx_then ?_
          refine wc_cut [(0, .slice ad es.length cap), (1, .slice ad2 zs.length cap2), (5, .pointer (some ⟨b5, 0, none⟩)), (6, .int .i64 s), (7, .int .i64 ((pidx zs s : Nat) : Int))] (fun w' => w' = wr) ?_ ?_
          · refine wc_dec rfl (fun hc => ?_) (fun hc => ?_)
            · refine wc_seq ?_
              refine wc_region ?_
              replace hc : ((s : Nat) : Int) < zs.length := hc
              have hzs : s < zs.length := by omega
              obtain ⟨bz, oz, cz, ez, hC32⟩ := (hZ.ext hEw).at s hzs
              cases ez
              have ht7 := tmod7 zs[s]
              have hpi := pidx_in hzs
              refine wl_val hW rfl rfl (x_move rfl) ?_
              refine wl_val hW rfl rfl (x_move rfl) ?_
              refine wl_val hW rfl rfl (x_indexAddr Try.underlying42 fl3.siz rfl rfl (by omega) (by omega)) ?_
              refine wl_val hW rfl rfl (x_load fl3 rfl (hC32 0 _ rfl)) ?_
              refine wl_val hW rfl rfl (x_rem rfl rfl (by decide)) ?_
              refine wl_val hW rfl rfl (x_assign rfl) ?_
              refine wl_nil ?_
              refine nx_then ?_
              refine wc_seq ?_
              refine wc_region ?_
              refine wl_val hW rfl rfl (x_move rfl) ?_
              refine wl_val hW rfl rfl (x_lss rfl rfl) ?_
              refine wl_nil ?_
              refine nx_then ?_
              refine wc_dec rfl (fun hc => ?_) (fun hc => ?_)
              · refine wc_region ?_
                refine wl_val hW rfl rfl (x_move rfl) ?_
                refine wl_val hW rfl rfl (x_subs (i := 0) (j := zs[s].tmod 7) (r := 0 - zs[s].tmod 7) rfl rfl (by omega) (by omega) rfl) ?_
                refine wl_val hW rfl rfl (x_assign rfl) ?_
                refine wl_nil ?_
                exact nx_cut (by rw [show ((pidx zs s : Nat) : Int) = 0 - zs[s].tmod 7 from by have hc' : zs[s].tmod 7 < 0 := hc; rw [hpi]; omega]; repeat (first | exact sub_nil | refine sub_cons rfl ?_)) rfl
              · refine wc_skip ?_
                exact nx_cut (by rw [show ((pidx zs s : Nat) : Int) = zs[s].tmod 7 from by have hc' : ¬ zs[s].tmod 7 < 0 := hc; rw [hpi]; omega]; repeat (first | exact sub_nil | refine sub_cons rfl ?_)) rfl
            · replace hc : ¬ ((s : Nat) : Int) < zs.length := hc
              refine wc_skip ?_
              exact nx_cut (by rw [pidx_out (show ¬ s < zs.length by omega)]; repeat (first | exact sub_nil | refine sub_cons rfl ?_)) rfl
          · rintro w' rfl
            obtain ⟨hl7, vals, hvl, hB5, hOw, hdis⟩ := hSv
            have hn7 := pidx_lt zs s
            have hvn : vals[pidx zs s]? = some (vals[pidx zs s]'(by omega)) := List.getElem?_eq_getElem _
            generalize vals[pidx zs s]'(by omega) = rv at hvn
            have hpn := parts7_at (f := pidx zs) (es := es.take s) hn7
            have hOn := hOw _ _ _ hvn hpn
            have hpl : (partF (pidx zs) (pidx zs s) 0 (es.take s)).length ≤ es.length := Nat.le_trans (partF_sub _ _ _ _).length_le (by simp; omega)
            have hszw := hEw.size
            refine nx_then ?_
            refine wc_drawS' (fun k => some k ≠ rv.ownBlock) 9 11 hW mixed (by kernel_rfl) (fun w0 hx0 => ?_)
            replace hB5 := hB5.ext hx0
            replace hE := hE.trans hx0
            have hOn0 := hOn.ext hx0
            have hSb : some b5 ≠ rv.ownBlock := fun e => hOn0.ne hB5 (by decide) _ e.symm rfl
            have hsz := hE.size
            have hC41 : w0.cell? ⟨b5, 0 + pidx zs s * 1, none⟩ = some rv := hB5.cell (by rw [Nat.zero_add, Nat.mul_one]; exact hvn)
            obtain ⟨b, o, cap', bv, e1, hA, hC45, hb1, hok1⟩ := ((hR.ext hEw).ext hE).at s hlt
            cases e1
            have hSa : some b ≠ rv.ownBlock := fun e => by have := hOn.lt _ e.symm; omega
            refine qs_val rfl rfl (fun _ hx => x_move rfl) ?_
            refine qs_val rfl rfl (fun _ hx => x_move rfl) ?_
            refine qs_val rfl rfl (fun _ hx => x_indexArr Try.underlying69 fl26.siz rfl rfl (by omega) (by omega)) ?_
            refine qs_val rfl rfl (fun _ hx => x_load fl26 rfl (hx.cell hC41 hSb)) ?_
            refine qs_val rfl rfl (fun _ hx => x_move rfl) ?_
            refine qs_val rfl rfl (fun _ hx => x_move rfl) ?_
            refine qs_val rfl rfl (fun _ hx => x_indexAddr Try.underlying26 ag25.siz rfl rfl (by omega) (by omega)) ?_
            refine qs_val rfl rfl (fun _ hx => x_loadA ag25 rfl (fun j u hj => hx.cell (hC45 j u hj) hSa) rfl) ?_
            refine qs_build2 (e := es[s]) (bv := bv) (by decide) (fun k h e => by have := hOn0.lt _ e.symm; have := hOn.lt _ e.symm; have := hx0.size; omega) rfl rfl rfl ?_
            refine qs_append2 rfl rfl rfl (by decide) rfl (List.mem_cons_self ..) hOn0 (by omega) (hb1.mono (fun k _ h => ⟨h, fun e => by have := hOn.lt _ e.symm; omega⟩)) hok1 (by omega) ?_
            refine qs_val rfl rfl (fun _ hx => x_indexArr Try.underlying69 fl26.siz rfl rfl (by omega) (by omega)) ?_
            refine qs_nil (tailS2 (fun wA v48 v47 hkA h48 h47 => ?_))
            obtain ⟨hO2, hcA⟩ := h48
            have hB5A := hB5.keep hkA hSb
            refine wl_store hW rfl fl26 rfl rfl hO2.one hB5A (show Nat.blt (0 + pidx zs s * 1) vals.length = true from by rw [hvl]; simp; omega) ?_
            intro wS hBS hkS
            refine wl_nil ?_
            refine nx_block ?_
            refine nx_then ?_
            refine wc_region ?_
            refine wl_val hW rfl rfl (x_move rfl) ?_
            refine wl_val hW rfl rfl (x_inc (s := s) rfl (by omega)) ?_
            refine wl_val hW rfl rfl (x_assign rfl) ?_
            refine wl_nil ?_
            replace hBS : Blk wS b5 (vals.set (0 + pidx zs s * 1) v48) 69 := hBS
            rw [Nat.zero_add, Nat.mul_one] at hBS
            exact nx_next (s + 1) (by omega) ⟨hlt, by rw [parts7_snoc hlt]; exact Sev.step (fun k h => h) g5 hl7 hvl hB5 (fun n v p h h' => (hOw n v p h h').ext hE) hdis hn7 hvn hO2 hkA hcA hB5A hBS hkS, (Keep.rowed (hEw.trans hE) hkA (fun b h => (hOn.lt b h).1)).store hkS g5⟩ (by repeat (first | exact sub_nil | refine sub_cons rfl ?_))
        · refine wc_exit ?_
          refine nx_then_exit ?_
          refine nx_then_exit ?_
          refine nx_block_exit ?_
          refine nx_then ?_
          replace hc : ¬ ((s : Nat) : Int) < es.length := hc
          rw [List.take_of_length_le (show es.length ≤ s by omega)] at hSv
          obtain ⟨hl7, vals, hvl, hB5, hOw, hdis⟩ := hSv
          have hrow : ∀ (n : Nat) (v : Value) (p : List Ent), vals[n]? = some v → (parts7 (pidx zs) es)[n]? = some p → Row (fun _ => True) wr v p := fun n v p h h' => by
            have hn : n < 7 := by have := (List.getElem?_eq_some_iff.1 h).1; omega
            have h2 := h'
            rw [parts7_at hn] at h2
            cases h2
            exact ((hOw n v _ h h').row (Nat.le_trans (partF_sub _ _ _ _).length_le (by omega))).mono (fun _ _ _ => trivial)
          obtain ⟨u0, u1, u2, u3, u4, u5, u6, rfl⟩ := list7 hvl
          have hr0 := hrow 0 _ _ rfl rfl
          have hr1 := hrow 1 _ _ rfl rfl
          have hr2 := hrow 2 _ _ rfl rfl
          have hr3 := hrow 3 _ _ rfl rfl
          have hr4 := hrow 4 _ _ rfl rfl
          have hr5 := hrow 5 _ _ rfl rfl
          have hr6 := hrow 6 _ _ rfl rfl
          clear hrow hOw hdis
          obtain ⟨d0, c0, rfl, -⟩ := hr0.form
          obtain ⟨d1, c1, rfl, -⟩ := hr1.form
          obtain ⟨d2, c2, rfl, -⟩ := hr2.form
          obtain ⟨d3, c3, rfl, -⟩ := hr3.form
          obtain ⟨d4, c4, rfl, -⟩ := hr4.form
          obtain ⟨d5, c5, rfl, -⟩ := hr5.form
          obtain ⟨d6, c6, rfl, -⟩ := hr6.form
          refine wc_seq ?_
          refine wc_region ?_
          refine wl_val hW rfl rfl (x_indexArr Try.underlying69 fl26.siz rfl rfl (by decide) (by decide)) ?_
          refine wl_val hW rfl rfl (x_load fl26 rfl (hB5.cell (o := 0) rfl)) ?_
          refine wl_val hW rfl rfl (x_indexArr Try.underlying69 fl26.siz rfl rfl (by decide) (by decide)) ?_
          refine wl_val hW rfl rfl (x_load fl26 rfl (hB5.cell (o := 1) rfl)) ?_
          refine wl_val hW rfl rfl (x_indexArr Try.underlying69 fl26.siz rfl rfl (by decide) (by decide)) ?_
          refine wl_val hW rfl rfl (x_load fl26 rfl (hB5.cell (o := 2) rfl)) ?_
          refine wl_val hW rfl rfl (x_indexArr Try.underlying69 fl26.siz rfl rfl (by decide) (by decide)) ?_
          refine wl_val hW rfl rfl (x_load fl26 rfl (hB5.cell (o := 3) rfl)) ?_
          refine wl_val hW rfl rfl (x_indexArr Try.underlying69 fl26.siz rfl rfl (by decide) (by decide)) ?_
          refine wl_val hW rfl rfl (x_load fl26 rfl (hB5.cell (o := 4) rfl)) ?_
          refine wl_val hW rfl rfl (x_indexArr Try.underlying69 fl26.siz rfl rfl (by decide) (by decide)) ?_
          refine wl_val hW rfl rfl (x_load fl26 rfl (hB5.cell (o := 5) rfl)) ?_
          refine wl_val hW rfl rfl (x_indexArr Try.underlying69 fl26.siz rfl rfl (by decide) (by decide)) ?_
          refine wl_val hW rfl rfl (x_load fl26 rfl (hB5.cell (o := 6) rfl)) ?_
          refine wl_buildSlice (parts := [(0, .tmp 52), (1, .tmp 54), (2, .tmp 56), (3, .tmp 58), (4, .tmp 60), (5, .tmp 62), (6, .tmp 64)]) hW rfl rfl Try.underlying65 fl26.siz Try.zeroValue26 rfl rfl rfl (by omega) ?_
          intro b65 w65 hl65 hB65 hx65
          have n65_5 : b65 ≠ b5 := Nat.ne_of_gt (Nat.lt_of_lt_of_le hB5.lt hl65)
          replace hB5 := hB5.ext hx65
          replace hE := hE.trans hx65
          have hEA := hEw.trans hE
          refine wl_call hW rfl rfl (x_call en46 rfl) ((C46r (ls := parts7 (pidx zs) es) ((lrow7 (A := fun _ => True) hB65 trivial (hr0.ext hx65) (hr1.ext hx65) (hr2.ext hx65) (hr3.ext hx65) (hr4.ext hx65) (hr5.ext hx65) (hr6.ext hx65)).mono (fun k h _ => h)) (by have := parts_tot (pidx zs) es; omega) (parts_right hrt)).inF hFF) ?_
          rintro _ wC ⟨⟨rM, rfl, hRM⟩, hxC⟩
          rw [parts_law (pidx_lt zs) hrt] at hRM
          replace hB5 := hB5.ext hxC
          replace hB65 := hB65.ext hxC
          replace hE := hE.trans hxC
          refine wl_val hW rfl rfl (x_move rfl) ?_
          refine wl_val hW rfl rfl (x_extract rfl rfl) ?_
          refine wl_val hW rfl rfl (x_extract rfl rfl) ?_
          refine wl_val hW rfl rfl (x_assign rfl) ?_
          refine wl_val hW rfl rfl (x_assign rfl) ?_
          refine wl_nil ?_
          refine nx_then ?_
          refine wc_seq ?_
          refine wc_cut [(4, .bool true)] (fun w' => Ext wr w') ?_ ?_
          · refine wc_region ?_
            refine wl_val hW rfl rfl (x_move rfl) ?_
            refine wl_val hW rfl rfl (x_eqlT rfl rfl rfl) ?_
            refine wl_val hW rfl rfl (x_move rfl) ?_
            refine wl_val hW rfl rfl (x_move rfl) ?_
            refine wl_val hW rfl rfl (x_move rfl) ?_
            refine wl_call hW rfl rfl (x_call en24 rfl) ((C24 hRM (((hR.ext hEw).ext hE).mono (fun _ _ _ => trivial))).inF hFF) ?_
            rintro _ wC2 ⟨⟨b2, rfl, hb2⟩, hxC⟩
            obtain rfl : b2 = true := hb2.2 rfl
            replace hB5 := hB5.ext hxC
            replace hB65 := hB65.ext hxC
            replace hE := hE.trans hxC
            refine wl_val hW rfl rfl (x_pickT rfl rfl) ?_
            refine wl_val hW rfl rfl (x_assign rfl) ?_
            refine wl_nil ?_
            exact nx_cut (by repeat (first | exact sub_nil | refine sub_cons rfl ?_)) hE
          · rintro w' hE
            refine nx_then ?_
            refine wc_ret ?_
            exact ends_ret (res_tmp Try.results11 rfl) ⟨rfl, hEw.trans hE⟩
end Go.Proofs.Ytblbddamebbgaaa.K

