/- Walk: the law MergePrunes. -/
import Derived.Test.YtblbddamebbgaaaKn
import Derived.Test.YtblbddamebbgaaaKw
namespace Go.Proofs.Ytblbddamebbgaaa.K
open Go Go.RowKit
set_option linter.unusedVariables false
set_option linter.unusedSimpArgs false

theorem C5 {w : World} {v : Value} {es : List Ent} {keep more : Int} {bottom : Bool} (hR : Row (fun k => k < w.heap.size) w v es) :
    Rt Try.prog 5 [v, .int .u64 keep, .int .u64 more, .bool bottom] w fun r w' => r = .bool true ∧ Ext w w' := by
  obtain ⟨ad, cap, rfl, hcap, hlen⟩ := hR.form
  have hW := hWw
  have hFF := hFw
  have hE : Ext w w := Keep.refl _ _
  refine rt_body Try.func5 rfl Try.ntmps5 rfl ?_
  refine wc_seq ?_
  refine wc_region ?_
  refine wl_val hW rfl rfl (x_assign rfl) ?_
  refine wl_nil ?_
  refine nx_then ?_
  refine wc_seq ?_
  refine wc_seq ?_
  refine wc_region ?_
  refine wl_call hW rfl rfl (x_call en16 rfl) (C16.inF hFF) ?_
  rintro _ wC ⟨rfl, hxC⟩
  replace hE := hE.trans hxC
  refine wl_val hW rfl rfl (x_not rfl) ?_
  refine wl_nil ?_
  refine nx_then ?_
  refine wc_false rfl ?_
  refine wc_skip ?_
  refine nx_then ?_
  refine wc_seq ?_
  refine wc_seq ?_
  refine wc_region ?_
  refine wl_val hW rfl rfl (x_move rfl) ?_
  refine wl_call hW rfl rfl (x_call en17 rfl) ((C17 (hR.ext hE)).inF hFF) ?_
  rintro _ wC ⟨⟨bb, rfl, hfew⟩, hxC⟩
  replace hE := hE.trans hxC
  refine wl_val hW rfl rfl (x_not rfl) ?_
  refine wl_nil ?_
  refine nx_then ?_
  refine wc_bool rfl (fun hc => ?_) (fun hc => ?_)
  · refine wc_seq ?_
    refine wc_region ?_
    refine wl_val hW rfl rfl (x_assign rfl) ?_
    refine wl_nil ?_
    refine nx_then ?_
    refine wc_ret ?_
    refine nx_then_ret ?_
    exact ends_ret (res_tmp Try.results5 rfl) ⟨rfl, hE⟩
  · have hl : (es.length : Int) ≤ 1000 := hfew (by simpa using hc)
    clear hfew
    refine wc_skip ?_
    refine nx_then ?_
    refine wc_seq ?_
    refine wc_region ?_
    refine wl_val hW rfl rfl (x_move rfl) ?_
    refine wl_val hW rfl rfl (x_move rfl) ?_
    refine wl_val hW rfl rfl (x_move rfl) ?_
    refine wl_call hW rfl rfl (x_call en25 rfl) ((C25 ((hR.ext hE).mono (fun k h _ => h)) (by omega)).inF hFF) ?_
    rintro _ wS ⟨⟨rv1, rfl, hR1⟩, hxC⟩
    replace hE := hE.trans hxC
    refine wl_val hW rfl rfl (x_move rfl) ?_
    refine wl_val hW rfl rfl (x_extract rfl rfl) ?_
    refine wl_val hW rfl rfl (x_extract rfl rfl) ?_
    refine wl_val hW rfl rfl (x_assign rfl) ?_
    refine wl_val hW rfl rfl (x_assign rfl) ?_
    refine wl_nil ?_
    refine nx_then ?_
    refine wc_seq ?_
    refine wc_seq ?_
    refine wc_region ?_
    refine wl_val hW rfl rfl (x_move rfl) ?_
    refine wl_val hW rfl rfl (x_neq rfl rfl) ?_
    refine wl_nil ?_
    refine nx_then ?_
    refine wc_dec rfl (fun hc => ?_) (fun hc => ?_)
    · have hrt : rightB es = false := by cases h : rightB es; rfl; rw [h] at hc; exact absurd rfl hc
      rw [hrt] at hR1
      replace hR1 : Row _ _ _ [] := hR1
      obtain ⟨ad1, c1, rfl, -⟩ := hR1.form
      refine wc_seq ?_
      refine wc_cut [(8, .bool true)] (fun w' => Ext w w') ?_ ?_
      · refine wc_region ?_
        refine wl_val hW rfl rfl (x_move rfl) ?_
        refine wl_call hW rfl rfl (x_call en20 rfl) ((C20 (hR.ext hE)).inF hFF) ?_
        rintro _ wC2 ⟨hr, hxC⟩
        rw [hrt] at hr
        subst hr
        replace hE := hE.trans hxC
        refine wl_val hW rfl rfl (x_not rfl) ?_
        refine wl_val hW rfl rfl (x_move rfl) ?_
        refine wl_val hW rfl rfl (x_move rfl) ?_
        refine wl_val hW rfl rfl (x_len Try.underlying26 rfl) ?_
        refine wl_val hW rfl rfl (x_eqlT rfl rfl rfl) ?_
        refine wl_val hW rfl rfl (x_pickT rfl rfl) ?_
        refine wl_val hW rfl rfl (x_assign rfl) ?_
        refine wl_nil ?_
        exact nx_cut (by repeat (first | exact sub_nil | refine sub_cons rfl ?_)) hE
      · rintro w' hE
        refine nx_then ?_
        refine wc_ret ?_
        refine nx_then_ret ?_
        exact ends_ret (res_tmp Try.results5 rfl) ⟨rfl, hE⟩
    · have hrt : rightB es = true := by cases h : rightB es; rw [h] at hc; exact absurd (by decide) hc; rfl
      rw [if_pos hrt] at hR1
      have hll := leftL_le keep bottom es
      refine wc_skip ?_
      refine nx_then ?_
      refine wc_seq ?_
      refine wc_region ?_
      refine wl_val hW rfl rfl (x_move rfl) ?_
      refine wl_val hW rfl rfl (x_move rfl) ?_
      refine wl_val hW rfl rfl (x_move rfl) ?_
      refine wl_call hW rfl rfl (x_call en25 rfl) ((C25 (hR1.mono (fun k h _ => h)) (by omega)).inF hFF) ?_
      rintro _ wT ⟨⟨rv2, hr2, hR2⟩, hxC⟩
      rw [left_right hrt, if_pos rfl] at hr2 hR2
      rw [left_again hrt] at hR2
      subst hr2
      replace hE := hE.trans hxC
      replace hR1 := (hR1.ext hxC).mono (A' := fun _ => True) (fun _ _ _ => trivial)
      replace hR2 := hR2.mono (A' := fun _ => True) (fun _ _ _ => trivial)
      refine wl_val hW rfl rfl (x_move rfl) ?_
      refine wl_val hW rfl rfl (x_extract rfl rfl) ?_
      refine wl_val hW rfl rfl (x_extract rfl rfl) ?_
      refine wl_val hW rfl rfl (x_assign rfl) ?_
      refine wl_val hW rfl rfl (x_assign rfl) ?_
      refine wl_nil ?_
      refine nx_then ?_
      refine wc_seq ?_
      refine wc_seq ?_
      refine wc_cut [(0, .slice ad es.length cap), (1, .int .u64 keep), (2, .int .u64 more), (9, rv1), (54, .bool false)] (fun w' => Ext wT w') ?_ ?_
      · refine wc_region ?_
        refine wl_val hW rfl rfl (x_move rfl) ?_
        refine wl_val hW rfl rfl (x_neqF rfl rfl (by decide)) ?_
        refine wl_val hW rfl rfl (x_move rfl) ?_
        refine wl_val hW rfl rfl (x_move rfl) ?_
        refine wl_val hW rfl rfl (x_move rfl) ?_
        refine wl_call hW rfl rfl (x_call en24 rfl) ((C24 hR1 hR2).inF hFF) ?_
        rintro _ wC2 ⟨⟨b2, rfl, hb2⟩, hxC⟩
        obtain rfl : b2 = true := hb2.2 rfl
        replace hE := hE.trans hxC
        refine wl_val hW rfl rfl (x_not rfl) ?_
        refine wl_val hW rfl rfl (x_pickF rfl rfl) ?_
        refine wl_nil ?_
        exact nx_cut (by repeat (first | exact sub_nil | refine sub_cons rfl ?_)) hxC
      · rintro w' hx
        replace hE := hE.trans hx
        replace hR1 := hR1.ext hx
        refine nx_then ?_
        refine wc_false rfl ?_
        refine wc_skip ?_
        refine nx_then ?_
        refine wc_seq ?_
        refine wc_region ?_
        refine wl_val hW rfl rfl (x_move rfl) ?_
        refine wl_val hW rfl rfl (x_move rfl) ?_
        refine wl_val hW rfl rfl (x_add (r := IntKind.u64.wrap (keep + more)) rfl rfl rfl) ?_
        refine wl_val hW rfl rfl (x_assign rfl) ?_
        refine wl_nil ?_
        refine nx_then ?_
        refine wc_seq ?_
        refine wc_seq ?_
        refine wc_region ?_
        refine wl_val hW rfl rfl (x_move rfl) ?_
        refine wl_val hW rfl rfl (x_move rfl) ?_
        refine wl_val hW rfl rfl (x_lss rfl rfl) ?_
        refine wl_nil ?_
        refine nx_then ?_
        refine wc_cut [(0, .slice ad es.length cap), (9, rv1), (13, .int .u64 (if IntKind.u64.wrap (keep + more) < keep then keep else IntKind.u64.wrap (keep + more)))] (fun w'' => w'' = w') ?_ ?_
        · refine wc_dec rfl (fun hc => ?_) (fun hc => ?_)
          · refine wc_region ?_
            refine wl_val hW rfl rfl (x_move rfl) ?_
            refine wl_val hW rfl rfl (x_assign rfl) ?_
            refine wl_nil ?_
            exact nx_cut (by rw [if_pos hc]; repeat (first | exact sub_nil | refine sub_cons rfl ?_)) rfl
          · refine wc_skip ?_
            exact nx_cut (by rw [if_neg hc]; repeat (first | exact sub_nil | refine sub_cons rfl ?_)) rfl
        · rintro w' rfl
          have hup : keep ≤ (if IntKind.u64.wrap (keep + more) < keep then keep else IntKind.u64.wrap (keep + more)) := by split <;> omega
          generalize (if IntKind.u64.wrap (keep + more) < keep then keep else IntKind.u64.wrap (keep + more)) = up at hup ⊢
          refine nx_then ?_
          refine wc_seq ?_
          refine wc_region ?_
          refine wl_val hW rfl rfl (x_move rfl) ?_
          refine wl_val hW rfl rfl (x_move rfl) ?_
          refine wl_call hW rfl rfl (x_call en22 rfl) ((C22 ((hR.ext hE).mono (fun k h _ => h)) (by omega)).inF hFF) ?_
          rintro _ wU ⟨⟨rv3, rfl, hR3⟩, hxC⟩
          rw [if_pos hrt] at hR3
          replace hR1 := hR1.ext hxC
          replace hE := hE.trans hxC
          refine wl_val hW rfl rfl (x_move rfl) ?_
          refine wl_val hW rfl rfl (x_extract rfl rfl) ?_
          refine wl_val hW rfl rfl (x_extract rfl rfl) ?_
          refine wl_val hW rfl rfl (x_assign rfl) ?_
          refine wl_val hW rfl rfl (x_assign rfl) ?_
          refine wl_nil ?_
          refine nx_then ?_
          refine wc_seq ?_
          refine wc_region ?_
          refine wl_val hW rfl rfl (x_move rfl) ?_
          refine wl_val hW rfl rfl (x_move rfl) ?_
          refine wl_call hW rfl rfl (x_call en22 rfl) ((C22 (hR1.mono (fun k h _ => h)) (by omega)).inF hFF) ?_
          rintro _ wV ⟨⟨rv4, rfl, hR4⟩, hxC⟩
          rw [if_pos (left_right hrt)] at hR4
          replace hE := hE.trans hxC
          refine wl_val hW rfl rfl (x_move rfl) ?_
          refine wl_val hW rfl rfl (x_extract rfl rfl) ?_
          refine wl_val hW rfl rfl (x_extract rfl rfl) ?_
          refine wl_val hW rfl rfl (x_assign rfl) ?_
          refine wl_val hW rfl rfl (x_assign rfl) ?_
          refine wl_nil ?_
          refine nx_then ?_
          refine wc_seq ?_
          refine wc_region ?_
          refine wl_val hW rfl rfl (x_move rfl) ?_
          refine wl_val hW rfl rfl (x_move rfl) ?_
          refine wl_call hW rfl rfl (x_call en24 rfl) ((C24 ((hR3.ext hxC).mono (A' := fun _ => True) (fun _ _ _ => trivial)) (hR4.mono (fun _ _ _ => trivial))).inF hFF) ?_
          rintro _ wC2 ⟨⟨b2, rfl, hb2⟩, hxC⟩
          obtain rfl : b2 = true := hb2.2 (seen_left hup hrt)
          replace hE := hE.trans hxC
          refine wl_val hW rfl rfl (x_assign rfl) ?_
          refine wl_nil ?_
          refine nx_then ?_
          refine wc_ret ?_
          exact ends_ret (res_tmp Try.results5 rfl) ⟨rfl, hE⟩
end Go.Proofs.Ytblbddamebbgaaa.K

