/- Walk: law 6's example. -/
import Derived.Test.YtblbddamebbgaaaKm
import Derived.Test.YtblbddamebbgaaaKt
namespace Go.Proofs.Ytblbddamebbgaaa.K
open Go Go.RowKit
set_option linter.unusedVariables false
set_option linter.unusedSimpArgs false

theorem C16 {w : World} : Rt Try.prog 16 [] w fun r w' => r = .bool true ∧ Ext w w' := by
  have hW := hWw
  have hFF := hFw
  have hE : Ext w w := Keep.refl _ _
  refine rt_body Try.func16 rfl Try.ntmps16 rfl ?_
  refine wc_seq ?_
  refine wc_region ?_
  refine wl_val hW rfl rfl (x_assign rfl) ?_
  refine wl_nil ?_
  refine nx_then ?_
  refine wc_seq ?_
  refine wc_region ?_
  refine wl_buildSlice (parts := [(0, .const (.int .u8 120))]) hW rfl rfl Try.underlying23 fl5.siz Try.zeroValue5 rfl rfl rfl (by omega) ?_
  intro b8 w8 hl8 hB8 hx8
  have g8 : w.heap.size ≤ b8 := Nat.le_trans hE.size hl8
  replace hE := hE.trans hx8
  refine wl_convSame hW rfl rfl rfl hB8 ?_
  intro v8 hC8 hk8
  replace hE := hE.store hk8 g8
  have hy8 : Byts (· = b8) v8 (.slice (some ⟨b8, 0, none⟩) 1 1) [120] := byts_one (u := 120) hC8 rfl
  have hlt8 : b8 < v8.heap.size := Nat.lt_of_lt_of_le hB8.lt hk8.size
  refine wl_val hW rfl rfl (x_buildE rfl) ?_
  refine wl_buildSlice (parts := [(0, .const (.int .u8 121))]) hW rfl rfl Try.underlying23 fl5.siz Try.zeroValue5 rfl rfl rfl (by omega) ?_
  intro b11 w11 hl11 hB11 hx11
  have g11 : w.heap.size ≤ b11 := Nat.le_trans hE.size hl11
  have n11_8 : b11 ≠ b8 := Nat.ne_of_gt (Nat.lt_of_lt_of_le hlt8 hl11)
  replace hy8 := hy8.ext hx11
  replace hE := hE.trans hx11
  refine wl_convSame hW rfl rfl rfl hB11 ?_
  intro v11 hC11 hk11
  replace hE := hE.store hk11 g11
  have hy11 : Byts (· = b11) v11 (.slice (some ⟨b11, 0, none⟩) 1 1) [121] := byts_one (u := 121) hC11 rfl
  have hlt11 : b11 < v11.heap.size := Nat.lt_of_lt_of_le hB11.lt hk11.size
  replace hy8 := hy8.ck (CK.of_keep hk11 (fun k _ h => by rw [h]; exact n11_8.symm))
  replace hlt8 : b8 < v11.heap.size := Nat.lt_of_lt_of_le hlt8 (Nat.le_trans hx11.size hk11.size)
  refine wl_val hW rfl rfl (x_buildE rfl) ?_
  refine wl_buildSlice (parts := [(0, .const (.int .u8 122))]) hW rfl rfl Try.underlying23 fl5.siz Try.zeroValue5 rfl rfl rfl (by omega) ?_
  intro b14 w14 hl14 hB14 hx14
  have g14 : w.heap.size ≤ b14 := Nat.le_trans hE.size hl14
  have n14_8 : b14 ≠ b8 := Nat.ne_of_gt (Nat.lt_of_lt_of_le hlt8 hl14)
  replace hy8 := hy8.ext hx14
  have n14_11 : b14 ≠ b11 := Nat.ne_of_gt (Nat.lt_of_lt_of_le hlt11 hl14)
  replace hy11 := hy11.ext hx14
  replace hE := hE.trans hx14
  refine wl_convSame hW rfl rfl rfl hB14 ?_
  intro v14 hC14 hk14
  replace hE := hE.store hk14 g14
  have hy14 : Byts (· = b14) v14 (.slice (some ⟨b14, 0, none⟩) 1 1) [122] := byts_one (u := 122) hC14 rfl
  replace hy8 := hy8.ck (CK.of_keep hk14 (fun k _ h => by rw [h]; exact n14_8.symm))
  replace hy11 := hy11.ck (CK.of_keep hk14 (fun k _ h => by rw [h]; exact n14_11.symm))
  clear hB8 hB11 hB14
  refine wl_val hW rfl rfl (x_buildE rfl) ?_
  refine wl_val hW rfl rfl x_buildG ?_
  refine wl_buildSlice (parts := [(0, .tmp 10), (1, .tmp 13), (2, .tmp 16), (3, .tmp 17)]) hW rfl rfl Try.underlying26 ag25.siz Try.zeroValue25 rfl rfl rfl (by omega) ?_
  intro b18 w18 hl18 hB18 hx18
  have g18 : w.heap.size ≤ b18 := Nat.le_trans hE.size hl18
  replace hE := hE.trans hx18
  have hK : Row (fun k => k < w18.heap.size) w18 (.slice (some ⟨b18, 0, none⟩) 4 4) kn := row_of_blk (es := kn) (bvs := [.slice (some ⟨b8, 0, none⟩) 1 1, .slice (some ⟨b11, 0, none⟩) 1 1, .slice (some ⟨b14, 0, none⟩) 1 1, .slice none 0 0]) rfl hB18 hB18.lt (fun i e bv hi hj => by
    match i, hi, hj with
    | 0, hi, hj => cases hi; cases hj; exact (hy8.ext hx18).mono (fun k h _ => h)
    | 1, hi, hj => cases hi; cases hj; exact (hy11.ext hx18).mono (fun k h _ => h)
    | 2, hi, hj => cases hi; cases hj; exact (hy14.ext hx18).mono (fun k h _ => h)
    | 3, hi, hj => cases hi; cases hj; exact byts_nil _ _) kn_ok (by decide)
  refine wl_val hW rfl rfl (x_assign rfl) ?_
  refine wl_nil ?_
  refine nx_then ?_
  refine wc_seq ?_
  refine wc_region ?_
  refine wl_val hW rfl rfl (x_move rfl) ?_
  refine wl_call hW rfl rfl (x_call en22 rfl) ((C22 hK (by decide)).inF hFF) ?_
  rintro _ wC ⟨⟨rv1, hr, hR1⟩, hxC⟩
  simp only [kn_right, if_true, kn_seen] at hr hR1
  subst hr
  replace hE := hE.trans hxC
  replace hK := (hK.ext hxC).mono (A' := fun k => k < wC.heap.size) (fun k h _ => h)
  refine wl_val hW rfl rfl (x_move rfl) ?_
  refine wl_val hW rfl rfl (x_extract rfl rfl) ?_
  refine wl_val hW rfl rfl (x_extract rfl rfl) ?_
  refine wl_val hW rfl rfl (x_assign rfl) ?_
  refine wl_val hW rfl rfl (x_assign rfl) ?_
  refine wl_nil ?_
  refine nx_then ?_
  refine wc_seq ?_
  refine wc_region ?_
  refine wl_val hW rfl rfl (x_move rfl) ?_
  refine wl_call hW rfl rfl (x_call en25 rfl) ((C25 hK (by decide)).inF hFF) ?_
  rintro _ wC2 ⟨⟨rv2, hr, hR2⟩, hxC⟩
  simp only [kn_right, if_true] at hr hR2
  subst hr
  replace hE := hE.trans hxC
  replace hK := (hK.ext hxC).mono (A' := fun k => k < wC2.heap.size) (fun k h _ => h)
  replace hR1 := hR1.ext hxC
  refine wl_val hW rfl rfl (x_move rfl) ?_
  refine wl_val hW rfl rfl (x_extract rfl rfl) ?_
  refine wl_val hW rfl rfl (x_extract rfl rfl) ?_
  refine wl_val hW rfl rfl (x_assign rfl) ?_
  refine wl_val hW rfl rfl (x_assign rfl) ?_
  refine wl_nil ?_
  refine nx_then ?_
  refine wc_seq ?_
  refine wc_region ?_
  refine wl_val hW rfl rfl (x_move rfl) ?_
  refine wl_call hW rfl rfl (x_call en25 rfl) ((C25 hK (by decide)).inF hFF) ?_
  rintro _ wC3 ⟨⟨rv3, hr, hR3⟩, hxC⟩
  simp only [kn_right, if_true] at hr hR3
  subst hr
  replace hE := hE.trans hxC
  replace hK := (hK.ext hxC).mono (A' := fun k => k < wC3.heap.size) (fun k h _ => h)
  replace hR1 := hR1.ext hxC
  obtain ⟨ad2, cap2, rfl, -⟩ := hR2.form
  obtain ⟨ad3, cap3, rfl, -⟩ := hR3.form
  obtain ⟨b, o, cap', bv, rfl, hA, hC47, hb1, hok1⟩ := hR1.at 0 (by decide)
  refine wl_val hW rfl rfl (x_move rfl) ?_
  refine wl_val hW rfl rfl (x_extract rfl rfl) ?_
  refine wl_val hW rfl rfl (x_extract rfl rfl) ?_
  refine wl_val hW rfl rfl (x_assign rfl) ?_
  refine wl_val hW rfl rfl (x_assign rfl) ?_
  refine wl_nil ?_
  refine nx_then ?_
  refine wc_seq ?_
  refine wc_cut [(0, .bool true)] (fun w' => Ext w w') ?_ ?_
  · refine wc_region ?_
    refine wl_val hW rfl rfl (x_move rfl) ?_
    refine wl_val hW rfl rfl (x_move rfl) ?_
    refine wl_val hW rfl rfl (x_add (r := 0) rfl rfl rfl) ?_
    refine wl_val hW rfl rfl (x_move rfl) ?_
    refine wl_val hW rfl rfl (x_add (r := 0) rfl rfl rfl) ?_
    refine wl_val hW rfl rfl (x_eqlT rfl rfl rfl) ?_
    refine wl_val hW rfl rfl (x_move rfl) ?_
    refine wl_val hW rfl rfl (x_move rfl) ?_
    refine wl_val hW rfl rfl (x_len Try.underlying26 rfl) ?_
    refine wl_val hW rfl rfl (x_eqlT rfl rfl rfl) ?_
    refine wl_val hW rfl rfl (x_pickT rfl rfl) ?_
    refine wl_val hW rfl rfl (x_move rfl) ?_
    refine wl_val hW rfl rfl (x_move rfl) ?_
    refine wl_val hW rfl rfl (x_indexAddr Try.underlying26 ag25.siz rfl rfl (by decide) (by decide)) ?_
    refine wl_val hW rfl rfl (x_fieldAddr Try.underlying25 rfl fl22.siz rfl) ?_
    refine wl_val hW rfl rfl (x_load fl22 rfl (hC47 1 _ rfl)) ?_
    refine wl_val hW rfl rfl (x_eqlT rfl rfl rfl) ?_
    refine wl_val hW rfl rfl (x_pickT rfl rfl) ?_
    refine wl_val hW rfl rfl (x_move rfl) ?_
    refine wl_val hW rfl rfl (x_move rfl) ?_
    refine wl_val hW rfl rfl (x_len Try.underlying26 rfl) ?_
    refine wl_val hW rfl rfl (x_eqlT rfl rfl (by rw [kn_left0]; rfl)) ?_
    refine wl_val hW rfl rfl (x_pickT rfl rfl) ?_
    refine wl_val hW rfl rfl (x_move rfl) ?_
    refine wl_val hW rfl rfl (x_move rfl) ?_
    refine wl_val hW rfl rfl (x_len Try.underlying26 rfl) ?_
    refine wl_val hW rfl rfl (x_eqlT rfl rfl (by rw [kn_left1]; rfl)) ?_
    refine wl_val hW rfl rfl (x_pickT rfl rfl) ?_
    refine wl_val hW rfl rfl (x_move rfl) ?_
    refine wl_val hW rfl rfl (x_move rfl) ?_
    refine wl_call hW rfl rfl (x_call en20 rfl) ((C20 hK).inF hFF) ?_
    rintro _ wC ⟨hr, hxC⟩
    rw [kn_right] at hr
    subst hr
    replace hE := hE.trans hxC
    refine wl_val hW rfl rfl (x_pickT rfl rfl) ?_
    refine wl_val hW rfl rfl (x_assign rfl) ?_
    refine wl_nil ?_
    exact nx_cut (by repeat (first | exact sub_nil | refine sub_cons rfl ?_)) hE
  · rintro w' hE
    refine nx_then ?_
    refine wc_ret ?_
    exact ends_ret (res_tmp Try.results16 rfl) ⟨rfl, hE⟩
end Go.Proofs.Ytblbddamebbgaaa.K

