/- Walk: the law MergeSteps. -/
import Derived.Test.YtblbddamebbgaaaHb
namespace Go.Proofs.Ytblbddamebbgaaa.K
open Go Go.RowKit
set_option linter.unusedVariables false
set_option linter.unusedSimpArgs false

theorem lrow3 {A : Nat → Prop} {w : World} {b : Nat} {v1 v2 v3 : Value} {x y z : List Ent} (hB : Blk w b [v1, v2, v3] 26) (hA : A b) (h1 : Row A w v1 x) (h2 : Row A w v2 y) (h3 : Row A w v3 z) : LRow A w (.slice (some ⟨b, 0, none⟩) 3 3) [x, y, z] :=
  lrow_of_blk (ls := [x, y, z]) (vals := [v1, v2, v3]) rfl hB hA (fun i l u hi hj => by
    match i, hi, hj with
    | 0, hi, hj => cases hi; cases hj; exact h1
    | 1, hi, hj => cases hi; cases hj; exact h2
    | 2, hi, hj => cases hi; cases hj; exact h3) (by simp)
theorem lrow2 {A : Nat → Prop} {w : World} {b : Nat} {v1 v2 : Value} {x y : List Ent} (hB : Blk w b [v1, v2] 26) (hA : A b) (h1 : Row A w v1 x) (h2 : Row A w v2 y) : LRow A w (.slice (some ⟨b, 0, none⟩) 2 2) [x, y] :=
  lrow_of_blk (ls := [x, y]) (vals := [v1, v2]) rfl hB hA (fun i l u hi hj => by
    match i, hi, hj with
    | 0, hi, hj => cases hi; cases hj; exact h1
    | 1, hi, hj => cases hi; cases hj; exact h2) (by simp)
/-- Merge of right lists. -/
theorem C46r {w : World} {v : Value} {ls : List (List Ent)} (hL : LRow (fun k => k < w.heap.size) w v ls) (htot : tot ls ≤ 1099511627000) (hr : ls.all rightB = true) : Rt Try.prog 46 [v] w fun r w' => (∃ rv, r = .tuple #[rv, .int .i64 0] ∧ Row (fun _ => True) w' rv (mrg ls)) ∧ Ext w w' :=
  (C46 hL htot).mono fun r w' ⟨⟨rv, h1, h2⟩, h3⟩ => ⟨⟨rv, by rw [h1, hr]; rfl, by rw [hr, if_pos rfl] at h2; exact h2.mono fun _ _ _ => trivial⟩, h3⟩
theorem C13 {w : World} {v1 v2 v3 : Value} {a b c : List Ent} (hR1 : Row (fun k => k < w.heap.size) w v1 a) (hR2 : Row (fun k => k < w.heap.size) w v2 b) (hR3 : Row (fun k => k < w.heap.size) w v3 c) :
    Rt Try.prog 13 [v1, v2, v3] w fun r w' => r = .bool true ∧ Ext w w' := by
  replace hR1 := hR1.mono (A' := fun _ => True) (fun _ _ _ => trivial)
  replace hR2 := hR2.mono (A' := fun _ => True) (fun _ _ _ => trivial)
  replace hR3 := hR3.mono (A' := fun _ => True) (fun _ _ _ => trivial)
  obtain ⟨ad1, cap1, rfl, -⟩ := hR1.form
  obtain ⟨ad2, cap2, rfl, -⟩ := hR2.form
  obtain ⟨ad3, cap3, rfl, -⟩ := hR3.form
  have hW := hWw
  have hFF := hFw
  have hE : Ext w w := Keep.refl _ _
  refine rt_body Try.func13 rfl Try.ntmps13 rfl ?_
  refine wc_seq ?_
  refine wc_region ?_
  refine wl_val hW rfl rfl (x_assign rfl) ?_
  refine wl_nil ?_
  refine nx_then ?_
  refine wc_seq ?_
  refine wc_seq ?_
  refine wc_region ?_
  refine wl_call hW rfl rfl (x_call en16 rfl) (C16.inF hFF) ?_
  rintro _ wC ⟨rfl, hxC⟩
  replace hE := hE.trans hxC
  refine wl_val hW rfl rfl (x_not rfl) ?_
  refine wl_nil ?_
  refine nx_then ?_
  refine wc_false rfl ?_
  refine wc_skip ?_
  refine nx_then ?_
  refine wc_seq ?_
  refine wc_seq ?_
  refine wc_cutE (σ := Bool) (fun s => [(0, .slice ad1 a.length cap1), (1, .slice ad2 b.length cap2), (2, .slice ad3 c.length cap3), (37, .bool s)]) (fun s w' => Ext w w' ∧ (s = false → tot [a, b, c] ≤ 3000 ∧ rightB a = true ∧ rightB b = true ∧ rightB c = true)) ?_ ?_
  · refine wc_region ?_
    refine wl_val hW rfl rfl (x_move rfl) ?_
    refine wl_val hW rfl rfl (x_move rfl) ?_
    refine wl_val hW rfl rfl (x_move rfl) ?_
    refine wl_buildSlice (parts := [(0, .tmp 17), (1, .tmp 18), (2, .tmp 19)]) hW rfl rfl Try.underlying65 fl26.siz Try.zeroValue26 rfl rfl rfl (by omega) ?_
    intro b20 w20 hl20 hB20 hx20
    have g20 : w.heap.size ≤ b20 := Nat.le_trans hE.size hl20
    replace hE := hE.trans hx20
    refine wl_call hW rfl rfl (x_call en45 rfl) ((C45 (lrow3 (A := fun _ => True) hB20 trivial (hR1.ext hE) (hR2.ext hE) (hR3.ext hE))).inF hFF) ?_
    rintro _ wC ⟨⟨bb, rfl, hfew⟩, hxC⟩
    replace hB20 := hB20.ext hxC
    replace hE := hE.trans hxC
    refine wl_val hW rfl rfl (x_not rfl) ?_
    refine wl_val hW rfl rfl (x_move rfl) ?_
    refine wl_bcases (d := 23) rfl (fun hg23 => ?_) (fun hg23 => ?_)
    · refine wl_off hW rfl rfl ?_
      refine wl_off hW rfl rfl ?_
      refine wl_off hW rfl rfl ?_
      refine wl_val hW rfl rfl (x_pickT rfl rfl) ?_
      refine wl_val hW rfl rfl (x_move rfl) ?_
      refine wl_off hW rfl rfl ?_
      refine wl_off hW rfl rfl ?_
      refine wl_off hW rfl rfl ?_
      refine wl_val hW rfl rfl (x_pickT rfl rfl) ?_
      refine wl_val hW rfl rfl (x_move rfl) ?_
      refine wl_off hW rfl rfl ?_
      refine wl_off hW rfl rfl ?_
      refine wl_off hW rfl rfl ?_
      refine wl_val hW rfl rfl (x_pickT rfl rfl) ?_
      refine wl_nil ?_
      exact nx_cutE true (by repeat (first | exact sub_nil | refine sub_cons rfl ?_)) ⟨hE, fun h => by cases h⟩
    · refine wl_val hW rfl rfl (x_move rfl) ?_
      refine wl_call hW rfl rfl (x_call en21 rfl) ((C21 (hR1.ext hE)).inF hFF) ?_
      rintro _ wC ⟨rfl, hxC⟩
      replace hB20 := hB20.ext hxC
      replace hE := hE.trans hxC
      refine wl_val hW rfl rfl (x_not rfl) ?_
      refine wl_val hW rfl rfl (x_pickF rfl rfl) ?_
      refine wl_val hW rfl rfl (x_move rfl) ?_
      refine wl_bcases (d := 28) rfl (fun hg28 => ?_) (fun hg28 => ?_)
      · refine wl_off hW rfl rfl ?_
        refine wl_off hW rfl rfl ?_
        refine wl_off hW rfl rfl ?_
        refine wl_val hW rfl rfl (x_pickT rfl rfl) ?_
        refine wl_val hW rfl rfl (x_move rfl) ?_
        refine wl_off hW rfl rfl ?_
        refine wl_off hW rfl rfl ?_
        refine wl_off hW rfl rfl ?_
        refine wl_val hW rfl rfl (x_pickT rfl rfl) ?_
        refine wl_nil ?_
        exact nx_cutE true (by repeat (first | exact sub_nil | refine sub_cons rfl ?_)) ⟨hE, fun h => by cases h⟩
      · refine wl_val hW rfl rfl (x_move rfl) ?_
        refine wl_call hW rfl rfl (x_call en21 rfl) ((C21 (hR2.ext hE)).inF hFF) ?_
        rintro _ wC ⟨rfl, hxC⟩
        replace hB20 := hB20.ext hxC
        replace hE := hE.trans hxC
        refine wl_val hW rfl rfl (x_not rfl) ?_
        refine wl_val hW rfl rfl (x_pickF rfl rfl) ?_
        refine wl_val hW rfl rfl (x_move rfl) ?_
        refine wl_bcases (d := 33) rfl (fun hg33 => ?_) (fun hg33 => ?_)
        · refine wl_off hW rfl rfl ?_
          refine wl_off hW rfl rfl ?_
          refine wl_off hW rfl rfl ?_
          refine wl_val hW rfl rfl (x_pickT rfl rfl) ?_
          refine wl_nil ?_
          exact nx_cutE true (by repeat (first | exact sub_nil | refine sub_cons rfl ?_)) ⟨hE, fun h => by cases h⟩
        · refine wl_val hW rfl rfl (x_move rfl) ?_
          refine wl_call hW rfl rfl (x_call en21 rfl) ((C21 (hR3.ext hE)).inF hFF) ?_
          rintro _ wC ⟨rfl, hxC⟩
          replace hB20 := hB20.ext hxC
          replace hE := hE.trans hxC
          refine wl_val hW rfl rfl (x_not rfl) ?_
          refine wl_val hW rfl rfl (x_pickF rfl rfl) ?_
          refine wl_nil ?_
          exact nx_cutE (!rightB c) (by repeat (first | exact sub_nil | refine sub_cons rfl ?_)) ⟨hE, fun h => ⟨hfew (by simpa using hg23), by simpa using hg28, by simpa using hg33, by simpa using h⟩⟩
  · rintro s w' ⟨hE, hs⟩
    refine nx_then ?_
    refine wc_bool rfl (fun hc => ?_) (fun hc => ?_)
    · refine wc_seq ?_
      refine wc_region ?_
      refine wl_val hW rfl rfl (x_assign rfl) ?_
      refine wl_nil ?_
      refine nx_then ?_
      refine wc_ret ?_
      refine nx_then_ret ?_
      exact ends_ret (res_tmp Try.results13 rfl) ⟨rfl, hE⟩
    · obtain ⟨htot, hra, hrb, hrc⟩ := hs hc
      simp only [tot] at htot
      have hsa := (rightB_iff.1 hra).2
      have hsb := (rightB_iff.1 hrb).2
      have hsc := (rightB_iff.1 hrc).2
      have hab : [a, b].all rightB = true := by simp [hra, hrb]
      have hbc : [b, c].all rightB = true := by simp [hrb, hrc]
      have habc : [a, b, c].all rightB = true := by simp [hra, hrb, hrc]
      have hx1 := mrg_right hab
      have hy1 := mrg_right hbc
      have lx1 : (mrg [a, b]).length ≤ 3000 := by have := foldTwo_len [a, b] []; simp only [tot, List.length_nil] at this; unfold mrg; omega
      have ly1 : (mrg [b, c]).length ≤ 3000 := by have := foldTwo_len [b, c] []; simp only [tot, List.length_nil] at this; unfold mrg; omega
      refine wc_skip ?_
      refine nx_then ?_
      refine wc_seq ?_
      refine wc_region ?_
      refine wl_val hW rfl rfl (x_move rfl) ?_
      refine wl_val hW rfl rfl (x_move rfl) ?_
      refine wl_val hW rfl rfl (x_move rfl) ?_
      refine wl_buildSlice (parts := [(0, .tmp 39), (1, .tmp 40), (2, .tmp 41)]) hW rfl rfl Try.underlying65 fl26.siz Try.zeroValue26 rfl rfl rfl (by omega) ?_
      intro b42 w42 hl42 hB42 hx42
      have g42 : w.heap.size ≤ b42 := Nat.le_trans hE.size hl42
      replace hE := hE.trans hx42
      refine wl_call hW rfl rfl (x_call en46 rfl) ((C46r ((lrow3 (A := fun _ => True) hB42 trivial (hR1.ext hE) (hR2.ext hE) (hR3.ext hE)).mono (fun k h _ => h)) (by simp only [tot]; omega) habc).inF hFF) ?_
      rintro _ wC ⟨⟨rA, rfl, hRA⟩, hxC⟩
      replace hE := hE.trans hxC
      refine wl_val hW rfl rfl (x_move rfl) ?_
      refine wl_val hW rfl rfl (x_extract rfl rfl) ?_
      refine wl_val hW rfl rfl (x_extract rfl rfl) ?_
      refine wl_val hW rfl rfl (x_assign rfl) ?_
      refine wl_val hW rfl rfl (x_assign rfl) ?_
      refine wl_nil ?_
      refine nx_then ?_
      refine wc_seq ?_
      refine wc_region ?_
      refine wl_val hW rfl rfl (x_move rfl) ?_
      refine wl_val hW rfl rfl (x_move rfl) ?_
      refine wl_buildSlice (parts := [(0, .tmp 47), (1, .tmp 48)]) hW rfl rfl Try.underlying65 fl26.siz Try.zeroValue26 rfl rfl rfl (by omega) ?_
      intro b49 w49 hl49 hB49 hx49
      have g49 : w.heap.size ≤ b49 := Nat.le_trans hE.size hl49
      replace hE := hE.trans hx49
      refine wl_call hW rfl rfl (x_call en46 rfl) ((C46r ((lrow2 (A := fun _ => True) hB49 trivial (hR1.ext hE) (hR2.ext hE)).mono (fun k h _ => h)) (by simp only [tot]; omega) hab).inF hFF) ?_
      rintro _ wC2 ⟨⟨rX, rfl, hRX⟩, hxC⟩
      obtain ⟨aX, cX, rfl, -⟩ := hRX.form
      replace hRA := hRA.ext (hx49.trans hxC)
      replace hE := hE.trans hxC
      refine wl_val hW rfl rfl (x_move rfl) ?_
      refine wl_val hW rfl rfl (x_extract rfl rfl) ?_
      refine wl_val hW rfl rfl (x_extract rfl rfl) ?_
      refine wl_val hW rfl rfl (x_assign rfl) ?_
      refine wl_val hW rfl rfl (x_assign rfl) ?_
      refine wl_nil ?_
      refine nx_then ?_
      refine wc_seq ?_
      refine wc_region ?_
      refine wl_val hW rfl rfl (x_move rfl) ?_
      refine wl_val hW rfl rfl (x_move rfl) ?_
      refine wl_buildSlice (parts := [(0, .tmp 54), (1, .tmp 55)]) hW rfl rfl Try.underlying65 fl26.siz Try.zeroValue26 rfl rfl rfl (by omega) ?_
      intro b56 w56 hl56 hB56 hx56
      have g56 : w.heap.size ≤ b56 := Nat.le_trans hE.size hl56
      replace hE := hE.trans hx56
      refine wl_call hW rfl rfl (x_call en46 rfl) ((C46r ((lrow2 (A := fun _ => True) hB56 trivial (hRX.ext hx56) (hR3.ext hE)).mono (fun k h _ => h)) (by simp only [tot]; omega) (by simp [hx1, hrc])).inF hFF) ?_
      rintro _ wC3 ⟨⟨rX2, rfl, hRX2⟩, hxC⟩
      replace hRA := hRA.ext (hx56.trans hxC)
      replace hE := hE.trans hxC
      refine wl_val hW rfl rfl (x_move rfl) ?_
      refine wl_val hW rfl rfl (x_extract rfl rfl) ?_
      refine wl_val hW rfl rfl (x_extract rfl rfl) ?_
      refine wl_val hW rfl rfl (x_assign rfl) ?_
      refine wl_val hW rfl rfl (x_assign rfl) ?_
      refine wl_nil ?_
      refine nx_then ?_
      refine wc_seq ?_
      refine wc_region ?_
      refine wl_val hW rfl rfl (x_move rfl) ?_
      refine wl_val hW rfl rfl (x_move rfl) ?_
      refine wl_buildSlice (parts := [(0, .tmp 61), (1, .tmp 62)]) hW rfl rfl Try.underlying65 fl26.siz Try.zeroValue26 rfl rfl rfl (by omega) ?_
      intro b63 w63 hl63 hB63 hx63
      have g63 : w.heap.size ≤ b63 := Nat.le_trans hE.size hl63
      replace hE := hE.trans hx63
      refine wl_call hW rfl rfl (x_call en46 rfl) ((C46r ((lrow2 (A := fun _ => True) hB63 trivial (hR2.ext hE) (hR3.ext hE)).mono (fun k h _ => h)) (by simp only [tot]; omega) hbc).inF hFF) ?_
      rintro _ wC4 ⟨⟨rY, rfl, hRY⟩, hxC⟩
      obtain ⟨aY, cY, rfl, -⟩ := hRY.form
      replace hRA := hRA.ext (hx63.trans hxC)
      replace hRX2 := hRX2.ext (hx63.trans hxC)
      replace hE := hE.trans hxC
      refine wl_val hW rfl rfl (x_move rfl) ?_
      refine wl_val hW rfl rfl (x_extract rfl rfl) ?_
      refine wl_val hW rfl rfl (x_extract rfl rfl) ?_
      refine wl_val hW rfl rfl (x_assign rfl) ?_
      refine wl_val hW rfl rfl (x_assign rfl) ?_
      refine wl_nil ?_
      refine nx_then ?_
      refine wc_seq ?_
      refine wc_region ?_
      refine wl_val hW rfl rfl (x_move rfl) ?_
      refine wl_val hW rfl rfl (x_move rfl) ?_
      refine wl_buildSlice (parts := [(0, .tmp 68), (1, .tmp 69)]) hW rfl rfl Try.underlying65 fl26.siz Try.zeroValue26 rfl rfl rfl (by omega) ?_
      intro b70 w70 hl70 hB70 hx70
      have g70 : w.heap.size ≤ b70 := Nat.le_trans hE.size hl70
      replace hE := hE.trans hx70
      refine wl_call hW rfl rfl (x_call en46 rfl) ((C46r ((lrow2 (A := fun _ => True) hB70 trivial (hR1.ext hE) (hRY.ext hx70)).mono (fun k h _ => h)) (by simp only [tot]; omega) (by simp [hra, hy1])).inF hFF) ?_
      rintro _ wC5 ⟨⟨rY2, rfl, hRY2⟩, hxC⟩
      replace hRA := hRA.ext (hx70.trans hxC)
      replace hRX2 := hRX2.ext (hx70.trans hxC)
      replace hE := hE.trans hxC
      refine wl_val hW rfl rfl (x_move rfl) ?_
      refine wl_val hW rfl rfl (x_extract rfl rfl) ?_
      refine wl_val hW rfl rfl (x_extract rfl rfl) ?_
      refine wl_val hW rfl rfl (x_assign rfl) ?_
      refine wl_val hW rfl rfl (x_assign rfl) ?_
      refine wl_nil ?_
      refine nx_then ?_
      refine wc_seq ?_
      refine wc_cut [(6, .bool true)] (fun w' => Ext w w') ?_ ?_
      · refine wc_region ?_
        refine wl_val hW rfl rfl (x_move rfl) ?_
        refine wl_val hW rfl rfl (x_move rfl) ?_
        refine wl_val hW rfl rfl (x_add (r := 0) rfl rfl rfl) ?_
        refine wl_val hW rfl rfl (x_move rfl) ?_
        refine wl_val hW rfl rfl (x_add (r := 0) rfl rfl rfl) ?_
        refine wl_val hW rfl rfl (x_move rfl) ?_
        refine wl_val hW rfl rfl (x_add (r := 0) rfl rfl rfl) ?_
        refine wl_val hW rfl rfl (x_move rfl) ?_
        refine wl_val hW rfl rfl (x_add (r := 0) rfl rfl rfl) ?_
        refine wl_val hW rfl rfl (x_eqlT rfl rfl rfl) ?_
        refine wl_val hW rfl rfl (x_move rfl) ?_
        refine wl_val hW rfl rfl (x_move rfl) ?_
        refine wl_val hW rfl rfl (x_move rfl) ?_
        refine wl_call hW rfl rfl (x_call en24 rfl) ((C24 hRA hRX2).inF hFF) ?_
        rintro _ wC6 ⟨⟨b2, rfl, hb2⟩, hxC⟩
        obtain rfl : b2 = true := hb2.2 (steps_left hsa hsb hsc).symm
        replace hE := hE.trans hxC
        refine wl_val hW rfl rfl (x_pickT rfl rfl) ?_
        refine wl_val hW rfl rfl (x_move rfl) ?_
        refine wl_val hW rfl rfl (x_move rfl) ?_
        refine wl_val hW rfl rfl (x_move rfl) ?_
        refine wl_call hW rfl rfl (x_call en24 rfl) ((C24 (hRA.ext hxC) (hRY2.ext hxC)).inF hFF) ?_
        rintro _ wC7 ⟨⟨b3, rfl, hb3⟩, hxC7⟩
        obtain rfl : b3 = true := hb3.2 (steps_right hsa hsb hsc).symm
        replace hxC := hxC7
        replace hE := hE.trans hxC
        refine wl_val hW rfl rfl (x_pickT rfl rfl) ?_
        refine wl_val hW rfl rfl (x_assign rfl) ?_
        refine wl_nil ?_
        exact nx_cut (by repeat (first | exact sub_nil | refine sub_cons rfl ?_)) hE
      · rintro w' hE
        refine nx_then ?_
        refine wc_ret ?_
        exact ends_ret (res_tmp Try.results13 rfl) ⟨rfl, hE⟩
end Go.Proofs.Ytblbddamebbgaaa.K

