/- Walk: the law MergeMaps. -/
import Derived.Test.YtblbddamebbgaaaHc
import Derived.Test.YtblbddamebbgaaaMa
import Derived.Test.YtblbddamebbgaaaMb
namespace Go.Proofs.Ytblbddamebbgaaa.K
open Go Go.RowKit
set_option linter.unusedVariables false
set_option linter.unusedSimpArgs false

theorem ok_key {e : Ent} (h : EntOk e) : TS.ok e.k := by
  show e.k.size ≤ maxLen
  have := h.k; unfold maxLen; omega
theorem ment_put {w : World} {f : ByteArray → Option Value} {g : ByteArray → Option Ent} {up : Int} {x : Ent} {bv : Value} (h : MEnt w f g) (ht : takeM up g x = true) (hb : Byts (fun _ => True) w bv x.v) : MEnt w (fun z => if z = x.k then some (.agg (cellsOf x bv).toArray) else f z) (putM up g x) := fun k => by
  unfold putM
  rw [ht, if_pos rfl]
  by_cases e : k = x.k
  · simp only [if_pos e]; exact ⟨bv, rfl, hb⟩
  · simp only [if_neg e]; exact h k
theorem putM_still {g : ByteArray → Option Ent} {up : Int} {x : Ent} (ht : takeM up g x = false) : putM up g x = g := by unfold putM; rw [ht]; rfl
theorem C12 {w : World} {v : Value} {ls : List (List Ent)} {up : Int} (hL : LRow (fun k => k < w.heap.size) w v ls) : Rt Try.prog 12 [v, .int .u64 up] w fun r w' => r = .bool true ∧ Ext w w' := by
  obtain ⟨ad, cap, rfl, hcap, hlen⟩ := hL.form
  have hW := hWw
  have hFF := hFw
  have hE : Ext w w := Keep.refl _ _
  refine rt_body Try.func12 rfl Try.ntmps12 rfl ?_
  refine wc_seq ?_
  refine wc_region ?_
  refine wl_val hW rfl rfl (x_assign rfl) ?_
  refine wl_nil ?_
  refine nx_then ?_
  refine wc_seq ?_
  refine wc_seq ?_
  refine wc_region ?_
  refine wl_call hW rfl rfl (x_call en16 rfl) (C16.inF hFF) ?_
  rintro _ wC ⟨rfl, hxC⟩
  replace hE := hE.trans hxC
  refine wl_val hW rfl rfl (x_not rfl) ?_
  refine wl_nil ?_
  refine nx_then ?_
  refine wc_false rfl ?_
  refine wc_skip ?_
  refine nx_then ?_
  refine wc_seq ?_
  refine wc_seq ?_
  refine wc_region ?_
  refine wl_val hW rfl rfl (x_move rfl) ?_
  refine wl_call hW rfl rfl (x_call en45 rfl) ((C45 (hL.ext hE)).inF hFF) ?_
  rintro _ wC ⟨⟨bb, rfl, hfew⟩, hxC⟩
  replace hE := hE.trans hxC
  refine wl_val hW rfl rfl (x_not rfl) ?_
  refine wl_nil ?_
  refine nx_then ?_
  refine wc_bool rfl (fun hc => ?_) (fun hc => ?_)
  · refine wc_seq ?_
    refine wc_region ?_
    refine wl_val hW rfl rfl (x_assign rfl) ?_
    refine wl_nil ?_
    refine nx_then ?_
    refine wc_ret ?_
    refine nx_then_ret ?_
    exact ends_ret (res_tmp Try.results12 rfl) ⟨rfl, hE⟩
  · have htot : tot ls ≤ 3000 := hfew (by simpa using hc)
    clear hfew
    refine wc_skip ?_
    refine nx_then ?_
    refine wc_seq ?_
    refine wc_region ?_
    refine wl_val hW rfl rfl (x_move rfl) ?_
    refine wl_call hW rfl rfl (x_call en46 rfl) ((C46 ((hL.ext hE).mono (fun k h _ => h)) (by omega)).inF hFF) ?_
    rintro _ wS ⟨⟨rv1, rfl, hR1⟩, hxC⟩
    replace hE := hE.trans hxC
    refine wl_val hW rfl rfl (x_move rfl) ?_
    refine wl_val hW rfl rfl (x_extract rfl rfl) ?_
    refine wl_val hW rfl rfl (x_extract rfl rfl) ?_
    refine wl_val hW rfl rfl (x_assign rfl) ?_
    refine wl_val hW rfl rfl (x_assign rfl) ?_
    refine wl_nil ?_
    refine nx_then ?_
    refine wc_seq ?_
    refine wc_seq ?_
    refine wc_region ?_
    refine wl_val hW rfl rfl (x_move rfl) ?_
    refine wl_val hW rfl rfl (x_neq rfl rfl) ?_
    refine wl_nil ?_
    refine nx_then ?_
    refine wc_dec rfl (fun hc => ?_) (fun hc => ?_)
    · refine wc_seq ?_
      refine wc_region ?_
      refine wl_val hW rfl rfl (x_assign rfl) ?_
      refine wl_nil ?_
      refine nx_then ?_
      refine wc_ret ?_
      refine nx_then_ret ?_
      exact ends_ret (res_tmp Try.results12 rfl) ⟨rfl, hE⟩
    · have hal : ls.all rightB = true := by cases h : ls.all rightB; rw [h] at hc; exact absurd (by decide) hc; rfl
      rw [if_pos hal] at hR1
      replace hR1 : Row _ _ rv1 (mrg ls) := hR1
      have hsrt := mrg_sorted (all_sorted hal)
      have hmr := mrg_right hal
      have hml : (mrg ls).length ≤ 3000 := by have := foldTwo_len ls []; simp only [List.length_nil] at this; unfold mrg; omega
      refine wc_skip ?_
      refine nx_then ?_
      refine wc_seq ?_
      refine wc_region ?_
      refine wl_val hW rfl rfl (x_move rfl) ?_
      refine wl_val hW rfl rfl (x_move rfl) ?_
      refine wl_call hW rfl rfl (x_call en22 rfl) ((C22 (hR1.mono (fun k h _ => h)) (by omega)).inF hFF) ?_
      rintro _ wT ⟨⟨sv, hrs, hRs⟩, hxC⟩
      rw [hmr, if_pos rfl] at hrs hRs
      subst hrs
      have hsl := seenL_le up (mrg ls)
      replace hE := hE.trans hxC
      obtain ⟨sa, sc, rfl, -⟩ := hRs.form
      refine wl_val hW rfl rfl (x_move rfl) ?_
      refine wl_val hW rfl rfl (x_extract rfl rfl) ?_
      refine wl_val hW rfl rfl (x_extract rfl rfl) ?_
      refine wl_val hW rfl rfl (x_assign rfl) ?_
      refine wl_val hW rfl rfl (x_assign rfl) ?_
      refine wl_nil ?_
      refine nx_then ?_
      refine wc_seq ?_
      refine wc_seq ?_
      refine wc_region ?_
      refine wl_val hW rfl rfl (x_move rfl) ?_
      refine wl_val hW rfl rfl (x_neqF rfl rfl rfl) ?_
      refine wl_nil ?_
      refine nx_then ?_
      refine wc_false rfl ?_
      refine wc_skip ?_
      refine nx_then ?_
      refine wc_seq ?_
      refine wc_region ?_
      refine wl_makeMap TS hW rfl rfl ?_
      intro m39 w39 hl39 hM39 hx39
      have hgm : w.heap.size ≤ m39 := Nat.le_trans hE.size hl39
      replace hE := hE.trans hx39
      replace hRs : Row (fun k => k < m39) w39 (.slice sa (seenL up (mrg ls)).length sc) (seenL up (mrg ls)) := (hRs.mono (fun k hk _ => Nat.lt_of_lt_of_le hk hl39)).ext hx39
      refine wl_val hW rfl rfl (x_assign rfl) ?_
      refine wl_nil ?_
      refine nx_then ?_
      refine wc_seq ?_
      refine wc_seq ?_
      refine wc_region ?_
      refine wl_val hW rfl rfl (x_assign rfl) ?_
      refine wl_nil ?_
      refine nx_then ?_
      refine wc_block ?_
      refine wc_loop (σ := Nat) (fun i => [(0, .slice ad ls.length cap), (1, .int .u64 up), (7, .slice sa (seenL up (mrg ls)).length sc), (8, .map (some m39)), (9, .int .i64 i)]) (fun i w' => i ≤ ls.length ∧ (∃ f n, MapIs TS w' m39 n f ∧ n ≤ tot (ls.take i) ∧ MEnt w' f (bestF up (fun _ => none) (ls.take i).flatten)) ∧ Row (fun k => k < m39) w' (.slice sa (seenL up (mrg ls)).length sc) (seenL up (mrg ls)) ∧ Ext w w') (fun i => ls.length - i) 0 ?_ ?_ ?_
      · exact ⟨Nat.zero_le _, ⟨_, 0, hM39, Nat.zero_le _, fun k => rfl⟩, hRs, hE⟩
      · repeat (first | exact sub_nil | refine sub_cons rfl ?_)
      · rintro i wr ⟨hil, ⟨f, nm, hM, hnm, hME⟩, hRs, hE⟩
        refine wc_seq ?_
        refine wc_seq ?_
        refine wc_region ?_
        refine wl_val hW rfl rfl (x_move rfl) ?_
        refine wl_val hW rfl rfl (x_move rfl) ?_
        refine wl_val hW rfl rfl (x_len Try.underlying65 rfl) ?_
        refine wl_val hW rfl rfl (x_lss rfl rfl) ?_
        refine wl_nil ?_
        refine nx_then ?_
        refine wc_dec rfl (fun hc => ?_) (fun hc => ?_)
        · replace hc : ((i : Nat) : Int) < ls.length := hc
          have hlt : i < ls.length := by omega
          have htd := tot_take_drop ls i
          have htd2 := tot_take_drop ls (i + 1)
          have htd3 := tot_drop hlt
          refine wc_skip ?_
          refine nx_then ?_
          refine wc_seq ?_
          refine wc_block ?_
          refine wc_seq ?_
          refine wc_region ?_
          refine wl_val hW rfl rfl (x_assign rfl) ?_
          refine wl_nil ?_
          refine nx_then ?_
          refine wc_block ?_
          refine wc_loop (σ := Nat) (fun q => [(0, .slice ad ls.length cap), (1, .int .u64 up), (7, .slice sa (seenL up (mrg ls)).length sc), (8, .map (some m39)), (9, .int .i64 i), (10, .int .i64 q)]) (fun q w' => q ≤ ls[i].length ∧ (∃ f n, MapIs TS w' m39 n f ∧ n ≤ tot (ls.take i) + q ∧ MEnt w' f (bestF up (fun _ => none) ((ls.take i).flatten ++ ls[i].take q))) ∧ Row (fun k => k < m39) w' (.slice sa (seenL up (mrg ls)).length sc) (seenL up (mrg ls)) ∧ Ext w w') (fun q => ls[i].length - q) 0 ?_ ?_ ?_
          · exact ⟨Nat.zero_le _, ⟨f, nm, hM, by omega, by rw [List.take_zero, List.append_nil]; exact hME⟩, hRs, hE⟩
          · repeat (first | exact sub_nil | refine sub_cons rfl ?_)
          · rintro q wr2 ⟨hql, ⟨f, nm, hM, hnm, hME⟩, hRs, hE⟩
            refine wc_seq ?_
            refine wc_seq ?_
            refine wc_region ?_
            refine wl_val hW rfl rfl (x_move rfl) ?_
            refine wl_val hW rfl rfl (x_move rfl) ?_
            refine wl_val hW rfl rfl (x_move rfl) ?_
            obtain ⟨bL, oL, cL, rvL, eL, hAL, hC49, hRl⟩ := (hL.ext hE).at i hlt
            injection eL with eL1 eL2 eL3
            obtain ⟨la, lc, rfl, hlc, hll⟩ := hRl.form
            refine wl_val hW rfl rfl (x_indexAddr Try.underlying65 fl26.siz (congrArg (fun a => some (Value.slice a ls.length cap)) eL1) rfl (by omega) (by omega)) ?_
            refine wl_val hW rfl rfl (x_load fl26 rfl (hC49 0 _ rfl)) ?_
            refine wl_val hW rfl rfl (x_len Try.underlying26 rfl) ?_
            refine wl_val hW rfl rfl (x_lss rfl rfl) ?_
            refine wl_nil ?_
            refine nx_then ?_
            refine wc_dec rfl (fun hc => ?_) (fun hc => ?_)
            · replace hc : ((q : Nat) : Int) < ls[i].length := hc
              have hqlt : q < ls[i].length := by omega
              refine wc_skip ?_
              refine nx_then ?_
              refine wc_seq ?_
              refine wc_block ?_
              refine wc_seq ?_
              refine wc_region ?_
              refine wl_val hW rfl rfl (x_move rfl) ?_
              refine wl_val hW rfl rfl (x_move rfl) ?_
              refine wl_val hW rfl rfl (x_indexAddr Try.underlying65 fl26.siz (congrArg (fun a => some (Value.slice a ls.length cap)) eL1) rfl (by omega) (by omega)) ?_
              refine wl_val hW rfl rfl (x_load fl26 rfl (hC49 0 _ rfl)) ?_
              obtain ⟨bx, ox, cx, bvx, ex, hAx, hC60, hbx, hokx⟩ := hRl.at q hqlt
              injection ex with ex1
              subst ex1
              obtain ⟨av, cv, hbv, hcv⟩ := hbx.form
              subst hbv
              have hEx : Ext wr2 wr2 := Keep.refl _ _
              refine wl_val hW rfl rfl (x_move rfl) ?_
              refine wl_val hW rfl rfl (x_indexAddr Try.underlying26 ag25.siz rfl rfl (by omega) (by omega)) ?_
              refine wl_val hW rfl rfl (x_loadA ag25 rfl hC60 rfl) ?_
              refine wl_alloc (cs := [.string ⟨#[]⟩, .int .u64 0, .bool false, .slice none 0 0]) hW rfl rfl Try.zeroValue25 rfl ?_
              intro b11 w11 hl11 hB11 hx11
              have g11 : w.heap.size ≤ b11 := Nat.le_trans hE.size hl11
              replace hEx := hEx.trans hx11
              replace hE := hE.trans hx11
              refine wl_storeA hW rfl ag25 rfl rfl rfl rfl hB11 rfl ?_
              intro wS hBS hkS
              replace hB11 := hBS
              clear hBS
              have gx11 := hl11
              replace hEx := hEx.store hkS gx11
              replace hE := hE.store hkS g11
              refine wl_nil ?_
              refine nx_then ?_
              refine wc_seq ?_
              refine wc_region ?_
              refine wl_val hW rfl rfl (x_move rfl) ?_
              refine wl_val hW rfl rfl (x_fieldAddr Try.underlying25 rfl fl9.siz rfl) ?_
              refine wl_val hW rfl rfl (x_load fl9 rfl (hB11.cell (o := 0) rfl)) ?_
              obtain ⟨ye, ya, yc, hy1, hy2, hy3, hy4⟩ := hME.look ls[i][q].k
              refine wl_val hW rfl rfl (x_lookupOk (T := TS) (k := ls[i][q].k) (hM.ext hEx) Try.underlying71 Try.zeroValue25 rfl rfl (ok_key hokx) hy1 hy3) ?_
              refine wl_val hW rfl rfl (x_move rfl) ?_
              refine wl_val hW rfl rfl (x_extract rfl rfl) ?_
              refine wl_val hW rfl rfl (x_extract rfl rfl) ?_
              refine wl_alloc (cs := [.string ⟨#[]⟩, .int .u64 0, .bool false, .slice none 0 0]) hW rfl rfl Try.zeroValue25 rfl ?_
              intro b12 w12 hl12 hB12 hx12
              have gx12 : wr2.heap.size ≤ b12 := Nat.le_trans hEx.size hl12
              have g12 : w.heap.size ≤ b12 := Nat.le_trans hE.size hl12
              have n12_11 : b12 ≠ b11 := Nat.ne_of_gt (Nat.lt_of_lt_of_le hB11.lt hl12)
              replace hB11 := hB11.ext hx12
              replace hEx := hEx.trans hx12
              replace hE := hE.trans hx12
              refine wl_storeA hW rfl ag25 rfl rfl rfl rfl hB12 rfl ?_
              intro wS hBS hkS
              replace hB11 := hB11.keep hkS n12_11.symm
              replace hB12 := hBS
              clear hBS
              replace hEx := hEx.store hkS gx12
              replace hE := hE.store hkS g12
              refine wl_val hW rfl rfl (x_assign rfl) ?_
              refine wl_nil ?_
              refine nx_then ?_
              refine wc_seq ?_
              refine wc_cut [(0, .slice ad ls.length cap), (1, .int .u64 up), (7, .slice sa (seenL up (mrg ls)).length sc), (8, .map (some m39)), (9, .int .i64 i), (10, .int .i64 q), (11, .pointer (some ⟨b11, 0, none⟩)), (83, .bool (takeM up (bestF up (fun _ => none) ((ls.take i).flatten ++ ls[i].take q)) ls[i][q]))] (fun w' => Ext wr2 w' ∧ Ext w w' ∧ Blk w' b11 (cellsOf ls[i][q] (.slice av ls[i][q].v.length cv)) 25) ?_ ?_
              · refine wc_region ?_
                refine wl_val hW rfl rfl (x_fieldAddr Try.underlying25 rfl fl22.siz rfl) ?_
                refine wl_val hW rfl rfl (x_load fl22 rfl (hB11.cell (o := 1) rfl)) ?_
                refine wl_val hW rfl rfl (x_move rfl) ?_
                refine wl_val hW rfl rfl (x_leq rfl rfl) ?_
                refine wl_val hW rfl rfl (x_move rfl) ?_
                refine wl_dcases (d := 73) rfl (fun hg73 => ?_) (fun hg73 => ?_)
                · refine wl_val hW rfl rfl (x_move rfl) ?_
                  refine wl_val hW rfl rfl (x_not rfl) ?_
                  refine wl_val hW rfl rfl (x_move rfl) ?_
                  refine wl_bcases (d := 76) rfl (fun hg76 => ?_) (fun hg76 => ?_)
                  · refine wl_off hW rfl rfl ?_
                    refine wl_off hW rfl rfl ?_
                    refine wl_off hW rfl rfl ?_
                    refine wl_off hW rfl rfl ?_
                    refine wl_off hW rfl rfl ?_
                    refine wl_val hW rfl rfl (x_pickT rfl rfl) ?_
                    refine wl_val hW rfl rfl (x_pickT rfl rfl) ?_
                    refine wl_nil ?_
                    exact nx_cut (by rw [show takeM up (bestF up (fun _ => none) ((ls.take i).flatten ++ ls[i].take q)) ls[i][q] = true from by unfold takeM; rw [decide_eq_true (show ls[i][q].s ≤ up from hg73)]; cases h : (bestF up (fun _ => none) ((ls.take i).flatten ++ ls[i].take q)) ls[i][q].k with | none => rfl | some e => rw [h] at hg76; cases hg76]; repeat (first | exact sub_nil | refine sub_cons rfl ?_)) ⟨hEx, hE, hB11⟩
                  · refine wl_val hW rfl rfl (x_fieldAddr Try.underlying25 rfl fl22.siz rfl) ?_
                    refine wl_val hW rfl rfl (x_load fl22 rfl (hB11.cell (o := 1) rfl)) ?_
                    refine wl_val hW rfl rfl (x_fieldAddr Try.underlying25 rfl fl22.siz rfl) ?_
                    refine wl_val hW rfl rfl (x_load fl22 rfl (hB12.cell (o := 1) rfl)) ?_
                    refine wl_val hW rfl rfl (x_gtr rfl rfl) ?_
                    refine wl_val hW rfl rfl (x_pickF rfl rfl) ?_
                    refine wl_val hW rfl rfl (x_pickT rfl rfl) ?_
                    refine wl_nil ?_
                    exact nx_cut (by rw [show takeM up (bestF up (fun _ => none) ((ls.take i).flatten ++ ls[i].take q)) ls[i][q] = decide (ye.s < ls[i][q].s) from by unfold takeM; rw [decide_eq_true (show ls[i][q].s ≤ up from hg73)]; cases h : (bestF up (fun _ => none) ((ls.take i).flatten ++ ls[i].take q)) ls[i][q].k with | none => rw [h] at hg76; cases hg76 | some e => rw [hy4 e h]; rfl]; repeat (first | exact sub_nil | refine sub_cons rfl ?_)) ⟨hEx, hE, hB11⟩
                · refine wl_off hW rfl rfl ?_
                  refine wl_off hW rfl rfl ?_
                  refine wl_off hW rfl rfl ?_
                  refine wl_off hW rfl rfl ?_
                  refine wl_off hW rfl rfl ?_
                  refine wl_off hW rfl rfl ?_
                  refine wl_off hW rfl rfl ?_
                  refine wl_off hW rfl rfl ?_
                  refine wl_off hW rfl rfl ?_
                  refine wl_val hW rfl rfl (x_pickF rfl rfl) ?_
                  refine wl_nil ?_
                  exact nx_cut (by rw [show takeM up (bestF up (fun _ => none) ((ls.take i).flatten ++ ls[i].take q)) ls[i][q] = false from by unfold takeM; rw [decide_eq_false (show ¬ ls[i][q].s ≤ up from hg73)]; rfl]; repeat (first | exact sub_nil | refine sub_cons rfl ?_)) ⟨hEx, hE, hB11⟩
              · rintro w' ⟨hEx, hE, hB11⟩
                have htk : (ls.take i).flatten ++ ls[i].take (q + 1) = ((ls.take i).flatten ++ ls[i].take q) ++ [ls[i][q]] := by rw [List.take_add_one, List.getElem?_eq_getElem hqlt, List.append_assoc]; rfl
                refine nx_then ?_
                refine wc_bool rfl (fun hc => ?_) (fun hc => ?_)
                · refine wc_region ?_
                  refine wl_val hW rfl rfl (x_move rfl) ?_
                  refine wl_val hW rfl rfl (x_fieldAddr Try.underlying25 rfl fl9.siz rfl) ?_
                  refine wl_val hW rfl rfl (x_load fl9 rfl (hB11.cell (o := 0) rfl)) ?_
                  refine wl_val hW rfl rfl (x_loadA ag25 rfl hB11.cells rfl) ?_
                  refine wl_mapUpdate (T := TS) (k := ls[i][q].k) (v := .agg (cellsOf ls[i][q] (.slice av ls[i][q].v.length cv)).toArray) hW rfl (hM.ext hEx) Try.underlying71 (by unfold maxLen; omega) rfl rfl rfl (ok_key hokx) ?_
                  intro wM hM2 hkM
                  refine wl_nil ?_
                  refine nx_block ?_
                  refine nx_then ?_
                  refine wc_region ?_
                  refine wl_val hW rfl rfl (x_move rfl) ?_
                  refine wl_val hW rfl rfl (x_inc (s := q) rfl (by omega)) ?_
                  refine wl_val hW rfl rfl (x_assign rfl) ?_
                  refine wl_nil ?_
                  exact nx_next (q + 1) (by omega) ⟨by omega, ⟨_, _, hM2, by omega, by rw [htk, bestF_append]; exact ment_put ((hME.ext hEx).keep hkM (hM.ext hEx).ne) hc (((hbx.ext hEx).ck (CK.of_keep hkM (fun k _ h => by omega))).mono (fun _ _ _ => trivial))⟩, (hRs.ext hEx).ck (CK.of_keep hkM (fun k _ h => by omega)), hE.store hkM hgm⟩ (by repeat (first | exact sub_nil | refine sub_cons rfl ?_))
                · refine wc_skip ?_
                  refine nx_block ?_
                  refine nx_then ?_
                  refine wc_region ?_
                  refine wl_val hW rfl rfl (x_move rfl) ?_
                  refine wl_val hW rfl rfl (x_inc (s := q) rfl (by omega)) ?_
                  refine wl_val hW rfl rfl (x_assign rfl) ?_
                  refine wl_nil ?_
                  exact nx_next (q + 1) (by omega) ⟨by omega, ⟨f, nm, hM.ext hEx, by omega, by rw [htk, bestF_append]; show MEnt _ _ (putM up _ _); rw [putM_still hc]; exact hME.ext hEx⟩, hRs.ext hEx, hE⟩ (by repeat (first | exact sub_nil | refine sub_cons rfl ?_))
            · replace hc : ¬ ((q : Nat) : Int) < ls[i].length := hc
              rw [List.take_of_length_le (show ls[i].length ≤ q by omega)] at hME
              refine wc_exit ?_
              refine nx_then_exit ?_
              refine nx_then_exit ?_
              refine nx_block_exit ?_
              refine nx_block ?_
              refine nx_then ?_
              refine wc_region ?_
              refine wl_val hW rfl rfl (x_move rfl) ?_
              refine wl_val hW rfl rfl (x_inc (s := i) rfl (by omega)) ?_
              refine wl_val hW rfl rfl (x_assign rfl) ?_
              refine wl_nil ?_
              exact nx_next (i + 1) (by omega) ⟨by omega, ⟨f, nm, hM, by omega, by rw [List.take_add_one, List.getElem?_eq_getElem hlt, List.flatten_append]; simpa using hME⟩, hRs, hE⟩ (by repeat (first | exact sub_nil | refine sub_cons rfl ?_))
        · replace hc : ¬ ((i : Nat) : Int) < ls.length := hc
          rw [List.take_of_length_le (show ls.length ≤ i by omega)] at hME
          have hMT : MEnt wr f (top up (mrg ls)) := fun k => by have := hME k; rw [best_merge (all_sorted hal)] at this; exact this
          clear hME
          have hkeys := seen_keys (up := up) hsrt
          have hsm := fun e => seen_mem (up := up) hsrt e
          refine wc_exit ?_
          refine nx_then_exit ?_
          refine nx_then_exit ?_
          refine nx_block_exit ?_
          refine nx_then ?_
          refine wc_seq ?_
          refine wc_region ?_
          refine wl_val hW rfl rfl (x_assign rfl) ?_
          refine wl_nil ?_
          refine nx_then ?_
          refine wc_seq ?_
          refine wc_seq ?_
          refine wc_region ?_
          refine wl_val hW rfl rfl (x_move rfl) ?_
          refine wl_rangeM (T := TS) hW rfl rfl hM Try.underlying71 rfl ?_
          intro r89 w89 cnt89 hl89 hR89 hx89
          have hgr : w.heap.size ≤ r89 := Nat.le_trans hE.size hl89
          have hrm : m39 < r89 := Nat.lt_of_lt_of_le hM.lt hl89
          replace hE := hE.trans hx89
          refine wl_nil ?_
          refine nx_then ?_
          refine wc_block ?_
          refine wc_loop (σ := Nat × Nat × (ByteArray → Bool)) (fun u => [(7, .slice sa (seenL up (mrg ls)).length sc), (8, .map (some m39)), (14, .int .i64 u.1), (89, .pointer (some ⟨r89, 0, none⟩))]) (fun u w' => RangeIs TS w' m39 r89 nm f u.2.2 u.2.1 ∧ MEnt w' f (top up (mrg ls)) ∧ u.1 + ((seenL up (mrg ls)).filter (fun x => u.2.2 x.k)).length = (seenL up (mrg ls)).length ∧ Row (fun k => k < m39) w' (.slice sa (seenL up (mrg ls)).length sc) (seenL up (mrg ls)) ∧ Ext w w') (fun u => u.2.1) (0, cnt89, fun k => (f k).isSome) ?_ ?_ ?_
          · exact ⟨hR89, hMT.ext hx89, by rw [Nat.zero_add, List.filter_eq_self.2 (fun x hx => by have h1 := hMT x.k; rw [((hsm x).1 hx).1] at h1; obtain ⟨bv, h2, -⟩ := h1; show (f x.k).isSome = true; rw [h2]; rfl)], hRs.ext hx89, hE⟩
          · repeat (first | exact sub_nil | refine sub_cons rfl ?_)
          · rintro ⟨nn, cnt, left⟩ w3 ⟨hRg, hMT3, hcnt, hRs, hE⟩
            dsimp only at hRg hcnt
            refine wc_seq ?_
            refine wc_cutE (σ := Bool × ByteArray × Nat) (fun u => [(7, .slice sa (seenL up (mrg ls)).length sc), (8, .map (some m39)), (14, .int .i64 nn), (89, .pointer (some ⟨r89, 0, none⟩)), (91, .bool u.1)]) (fun u w' => (u.1 = false ∧ (∀ k, TS.ok k → left k = false) ∧ w' = w3) ∨ (u.1 = true ∧ ∃ vv, TS.ok u.2.1 ∧ left u.2.1 = true ∧ f u.2.1 = some vv ∧ RangeIs TS w' m39 r89 nm f (fun x => left x && !decide (x = u.2.1)) u.2.2 ∧ u.2.2 < cnt ∧ Keep (· ≠ r89) w3 w' ∧ (Instr.entry (.pointer (some ⟨r89, 0, none⟩))).run Try.prog w' = .ok (.tuple #[TS.v u.2.1, vv]) w')) ?_ ?_
            · refine wc_region ?_
              refine wl_nextM (T := TS) hW rfl rfl hRg rfl (fun h0 hall => ?_) (fun kk vv w' cnt' hko hle hfk hR' hcn hkN hent => ?_)
              · exact wl_val hW rfl rfl (x_extract rfl rfl) (wl_nil (nx_cutE (false, ⟨#[]⟩, 0) (by repeat (first | exact sub_nil | refine sub_cons rfl ?_)) (.inl ⟨rfl, hall, rfl⟩)))
              refine wl_val hW rfl rfl (x_extract rfl rfl) ?_
              refine wl_nil ?_
              exact nx_cutE (true, kk, cnt') (by repeat (first | exact sub_nil | refine sub_cons rfl ?_)) (.inr ⟨rfl, vv, hko, hle, hfk, hR', hcn, hkN, hent⟩)
            · rintro ⟨u1, kk, cnt'⟩ w' hu
              dsimp only at hu
              refine nx_then ?_
              refine wc_seq ?_
              refine wc_bool rfl (fun hc => ?_) (fun hc => ?_)
              · obtain ⟨-, vv, hko, hle, hfk, hR', hcn, hkN, hent⟩ := hu.resolve_left (fun h => by have hc' : u1 = true := hc; rw [h.1] at hc'; cases hc')
                have hMT' := hMT3.keep hkN hRg.ner
                obtain ⟨ye, ya, yc, hy1, hy2, hy3, hy4⟩ := hMT'.look kk
                obtain ⟨e0, he0⟩ : ∃ e, top up (mrg ls) kk = some e := by cases h : top up (mrg ls) kk with | none => rw [h, hfk] at hy3; cases hy3 | some e => exact ⟨e, rfl⟩
                obtain rfl := hy4 e0 he0
                have hyk := ((top_some hsrt).1 he0).2.1
                have hRs' := hRs.ck (CK.of_keep hkN (fun k _ h => by omega))
                have hE' := hE.store hkN hgr
                refine wc_skip ?_
                refine nx_then ?_
                refine wc_block ?_
                refine wc_seq ?_
                refine wc_region ?_
                refine wl_val hW rfl rfl (x_entry rfl hent) ?_
                refine wl_val hW rfl rfl (x_extract rfl rfl) ?_
                refine wl_val hW rfl rfl (x_assign rfl) ?_
                refine wl_nil ?_
                refine nx_then ?_
                refine wc_seq ?_
                refine wc_region ?_
                refine wl_val hW rfl rfl (x_move rfl) ?_
                refine wl_val hW rfl rfl (x_move rfl) ?_
                refine wl_val hW rfl rfl (x_lookup1 (T := TS) (k := kk) hR'.map Try.underlying71 Try.zeroValue25 rfl rfl hko hy1) ?_
                refine wl_val hW rfl rfl (x_field Try.underlying25 rfl fl4 rfl rfl) ?_
                refine wl_val hW rfl rfl (x_not rfl) ?_
                refine wl_nil ?_
                refine nx_then ?_
                refine wc_bool rfl (fun hc => ?_) (fun hc => ?_)
                · refine wc_region ?_
                  refine wl_val hW rfl rfl (x_move rfl) ?_
                  refine wl_val hW rfl rfl (x_inc (s := nn) rfl (by omega)) ?_
                  refine wl_val hW rfl rfl (x_assign rfl) ?_
                  refine wl_nil ?_
                  refine nx_block ?_
                  have hg0 : ye.g = false := by have hc' : (!ye.g) = true := hc; simpa using hc'
                  have hmem : ye ∈ (seenL up (mrg ls)) := (hsm ye).2 ⟨by rw [hyk]; exact he0, hg0⟩
                  have hcs := count_step hkeys left kk hle ye hmem hyk
                  exact nx_next (nn + 1, cnt', fun x => left x && !decide (x = kk)) hcn ⟨hR', hMT', by dsimp only; omega, hRs', hE'⟩ (by repeat (first | exact sub_nil | refine sub_cons rfl ?_))
                · refine wc_skip ?_
                  refine nx_block ?_
                  have hg0 : ye.g = true := by have hc' : (!ye.g) = false := hc; simpa using hc'
                  have hcs := count_still (s := (seenL up (mrg ls))) left kk (fun x hx hxk => by have h1 := (hsm x).1 hx; rw [hxk, he0] at h1; have h2 := Option.some.inj h1.1; rw [← h2, hg0] at h1; cases h1.2)
                  exact nx_next (nn, cnt', fun x => left x && !decide (x = kk)) hcn ⟨hR', hMT', by dsimp only; rw [hcs]; exact hcnt, hRs', hE'⟩ (by repeat (first | exact sub_nil | refine sub_cons rfl ?_))
              · obtain ⟨-, hall, hww⟩ := hu.resolve_right (fun h => by have hc' : u1 = false := hc; rw [h.1] at hc'; cases hc')
                subst hww
                have hnn : nn = (seenL up (mrg ls)).length := by rw [List.filter_eq_nil_iff.2 (fun x hx => by rw [hall x.k (ok_key (hRs.ok x hx))]; simp)] at hcnt; simpa using hcnt
                refine wc_exit ?_
                refine nx_then_exit ?_
                refine nx_then_exit ?_
                refine nx_block_exit ?_
                refine nx_then ?_
                refine wc_seq ?_
                refine wc_seq ?_
                refine wc_region ?_
                refine wl_val hW rfl rfl (x_assign rfl) ?_
                refine wl_nil ?_
                refine nx_then ?_
                refine wc_block ?_
                refine wc_loop (σ := Nat) (fun q => [(7, .slice sa (seenL up (mrg ls)).length sc), (8, .map (some m39)), (14, .int .i64 nn), (16, .int .i64 q)]) (fun q w' => q ≤ (seenL up (mrg ls)).length ∧ MapIs TS w' m39 nm f ∧ MEnt w' f (top up (mrg ls)) ∧ Row (fun k => k < m39) w' (.slice sa (seenL up (mrg ls)).length sc) (seenL up (mrg ls)) ∧ Ext w w') (fun q => (seenL up (mrg ls)).length - q) 0 ?_ ?_ ?_
                · exact ⟨Nat.zero_le _, hRg.map, hMT3, hRs, hE⟩
                · repeat (first | exact sub_nil | refine sub_cons rfl ?_)
                · rintro q w4 ⟨hql, hM4, hMT4, hRs4, hE⟩
                  refine wc_seq ?_
                  refine wc_seq ?_
                  refine wc_region ?_
                  refine wl_val hW rfl rfl (x_move rfl) ?_
                  refine wl_val hW rfl rfl (x_move rfl) ?_
                  refine wl_val hW rfl rfl (x_len Try.underlying26 rfl) ?_
                  refine wl_val hW rfl rfl (x_lss rfl rfl) ?_
                  refine wl_nil ?_
                  refine nx_then ?_
                  refine wc_dec rfl (fun hc => ?_) (fun hc => ?_)
                  · replace hc : ((q : Nat) : Int) < (seenL up (mrg ls)).length := hc
                    have hqlt : q < (seenL up (mrg ls)).length := by omega
                    have hmq := (hsm _).1 (List.getElem_mem hqlt)
                    refine wc_skip ?_
                    refine nx_then ?_
                    refine wc_seq ?_
                    refine wc_block ?_
                    refine wc_seq ?_
                    refine wc_region ?_
                    obtain ⟨b1, o1, c1, bv1, e1, hA1, hC111, hb1, hok1⟩ := hRs4.at q hqlt
                    injection e1 with e1a
                    obtain ⟨ye, ya, yc, hy1, hy2, hy3, hy4⟩ := hMT4.look (seenL up (mrg ls))[q].k
                    obtain rfl := hy4 _ hmq.1
                    have hEx : Ext w4 w4 := Keep.refl _ _
                    refine wl_val hW rfl rfl (x_move rfl) ?_
                    refine wl_val hW rfl rfl (x_move rfl) ?_
                    refine wl_val hW rfl rfl (x_move rfl) ?_
                    refine wl_val hW rfl rfl (x_indexAddr Try.underlying26 ag25.siz (congrArg (fun a => some (Value.slice a (seenL up (mrg ls)).length sc)) e1a) rfl (by omega) (by omega)) ?_
                    refine wl_val hW rfl rfl (x_fieldAddr Try.underlying25 rfl fl9.siz rfl) ?_
                    refine wl_val hW rfl rfl (x_load fl9 rfl (hC111 0 _ rfl)) ?_
                    refine wl_val hW rfl rfl (x_lookupOk (T := TS) (k := (seenL up (mrg ls))[q].k) (s1 := true) hM4 Try.underlying71 Try.zeroValue25 rfl rfl (ok_key hok1) hy1 (by rw [hy3, hmq.1]; rfl)) ?_
                    refine wl_val hW rfl rfl (x_move rfl) ?_
                    refine wl_val hW rfl rfl (x_extract rfl rfl) ?_
                    refine wl_val hW rfl rfl (x_extract rfl rfl) ?_
                    refine wl_alloc (cs := [.string ⟨#[]⟩, .int .u64 0, .bool false, .slice none 0 0]) hW rfl rfl Try.zeroValue25 rfl ?_
                    intro b17 w17 hl17 hB17 hx17
                    have g17 : w.heap.size ≤ b17 := Nat.le_trans hE.size hl17
                    replace hEx := hEx.trans hx17
                    replace hE := hE.trans hx17
                    refine wl_storeA hW rfl ag25 rfl rfl rfl rfl hB17 rfl ?_
                    intro wS hBS hkS
                    replace hB17 := hBS
                    clear hBS
                    replace hEx := hEx.store hkS hl17
                    replace hE := hE.store hkS g17
                    refine wl_val hW rfl rfl (x_assign rfl) ?_
                    refine wl_nil ?_
                    refine nx_then ?_
                    refine wc_seq ?_
                    refine wc_cut [(7, .slice sa (seenL up (mrg ls)).length sc), (8, .map (some m39)), (14, .int .i64 nn), (16, .int .i64 q), (149, .bool false)] (fun w' => Ext w4 w' ∧ Ext w w') ?_ ?_
                    · refine wc_draw' 33 hW mixed (by kernel_rfl) (fun w0 hx0 => ?_)
                      replace hB17 := hB17.ext hx0
                      replace hEx := hEx.trans hx0
                      replace hE := hE.trans hx0
                      refine q_val rfl rfl (fun _ hx => x_move rfl) ?_
                      refine q_val rfl rfl (fun _ hx => x_not rfl) ?_
                      refine q_val rfl rfl (fun _ hx => x_move rfl) ?_
                      refine q_val rfl rfl (fun _ hx => x_fieldAddr Try.underlying25 rfl fl4.siz rfl) ?_
                      refine q_val rfl rfl (fun _ hx => x_load fl4 rfl (v := .bool false) (hx.cell (show w0.cell? ⟨b17, 0 + 2, none⟩ = some (.bool false) from by rw [← hmq.2]; exact hB17.cell (o := 2) rfl))) ?_
                      refine q_val rfl rfl (fun _ hx => x_pickF rfl rfl) ?_
                      refine q_val rfl rfl (fun _ hx => x_move rfl) ?_
                      have hC127 := hC111.ext hEx
                      refine q_val rfl rfl (fun _ hx => x_loadA ag25 rfl (hB17.ext hx).cells rfl) ?_
                      refine q_val rfl rfl (fun _ hx => x_move rfl) ?_
                      refine q_val rfl rfl (fun _ hx => x_move rfl) ?_
                      refine q_val rfl rfl (fun _ hx => x_indexAddr Try.underlying26 ag25.siz (congrArg (fun a => some (Value.slice a (seenL up (mrg ls)).length sc)) e1a) rfl (by omega) (by omega)) ?_
                      refine q_val rfl rfl (fun _ hx => x_loadA ag25 rfl (hC127.ext hx) rfl) ?_
                      refine q_call rfl rfl (fun _ => x_call en38 rfl) (fun w' hx => (((C38 ((hy2.ext hEx).ext hx) (((hb1.ext hEx).ext hx).mono (fun _ _ _ => trivial))).mono (fun r w'' h => ⟨by rw [h.1, sameB_iff.2 rfl], h.2⟩) : Rt Try.prog 38 _ w' fun r w'' => r = .bool true ∧ Ext w' w'')).inF hFF) ?_
                      refine q_val rfl rfl (fun _ hx => x_not rfl) ?_
                      refine q_val rfl rfl (fun _ hx => x_pickF rfl rfl) ?_
                      refine q_val rfl rfl (fun _ hx => x_move rfl) ?_
                      refine q_val rfl rfl (fun _ hx => x_move rfl) ?_
                      refine q_val rfl rfl (fun _ hx => x_gtr rfl rfl) ?_
                      refine q_val rfl rfl (fun _ hx => x_move rfl) ?_
                      refine q_dcases (d := 135) rfl (fun hg135 => ?_) (fun hg135 => ?_)
                      · obtain ⟨b2, o2, c2, bv2, e2, hA2, hC139, hb2, hok2⟩ := hRs4.at (q - 1) (by omega)
                        rw [e1a] at e2
                        injection e2 with e2a
                        injection e2a with e2b
                        injection e2b with e2c e2d
                        subst e2c
                        subst e2d
                        replace hC139 := hC139.ext hEx
                        have hC144 := hC127
                        have hbl : Op.bytesLess (seenL up (mrg ls))[q - 1].k.toList (seenL up (mrg ls))[q].k.toList = true := List.pairwise_iff_getElem.1 hkeys (q - 1) q (by omega) hqlt (by omega)
                        refine q_val rfl rfl (fun _ hx => x_move rfl) ?_
                        refine q_val rfl rfl (fun _ hx => x_move rfl) ?_
                        refine q_val rfl rfl (fun _ hx => x_subn (i := q) (j := 1) rfl rfl (by omega) (by omega)) ?_
                        refine q_val rfl rfl (fun _ hx => x_indexAddr Try.underlying26 ag25.siz (congrArg (fun a => some (Value.slice a (seenL up (mrg ls)).length sc)) e1a) rfl (by omega) (by omega)) ?_
                        refine q_val rfl rfl (fun _ hx => x_fieldAddr Try.underlying25 rfl fl9.siz rfl) ?_
                        refine q_val rfl rfl (fun _ hx => x_load fl9 rfl (hx.cell (hC139 0 _ rfl))) ?_
                        refine q_val rfl rfl (fun _ hx => x_move rfl) ?_
                        refine q_val rfl rfl (fun _ hx => x_move rfl) ?_
                        refine q_val rfl rfl (fun _ hx => x_indexAddr Try.underlying26 ag25.siz (congrArg (fun a => some (Value.slice a (seenL up (mrg ls)).length sc)) e1a) rfl (by omega) (by omega)) ?_
                        refine q_val rfl rfl (fun _ hx => x_fieldAddr Try.underlying25 rfl fl9.siz rfl) ?_
                        refine q_val rfl rfl (fun _ hx => x_load fl9 rfl (hx.cell (hC144 0 _ rfl))) ?_
                        refine q_val rfl rfl (fun _ hx => x_sgeq rfl rfl) ?_
                        refine q_val rfl rfl (fun _ hx => x_pickT rfl rfl) ?_
                        refine q_val rfl rfl (fun _ hx => x_pickF rfl rfl) ?_
                        refine q_nil (tail0 (fun wt hxt => ?_))
                        replace hB17 := hB17.ext hxt
                        replace hE := hE.trans hxt
                        refine wl_nil ?_
                        exact nx_cut (by rw [hbl]; repeat (first | exact sub_nil | refine sub_cons rfl ?_)) ⟨hEx.trans hxt, hE⟩
                      · refine q_off rfl rfl ?_
                        refine q_off rfl rfl ?_
                        refine q_off rfl rfl ?_
                        refine q_off rfl rfl ?_
                        refine q_off rfl rfl ?_
                        refine q_off rfl rfl ?_
                        refine q_off rfl rfl ?_
                        refine q_off rfl rfl ?_
                        refine q_off rfl rfl ?_
                        refine q_off rfl rfl ?_
                        refine q_off rfl rfl ?_
                        refine q_off rfl rfl ?_
                        refine q_val rfl rfl (fun _ hx => x_pickF rfl rfl) ?_
                        refine q_val rfl rfl (fun _ hx => x_pickF rfl rfl) ?_
                        refine q_nil (tail0 (fun wt hxt => ?_))
                        replace hB17 := hB17.ext hxt
                        replace hE := hE.trans hxt
                        refine wl_nil ?_
                        exact nx_cut (by repeat (first | exact sub_nil | refine sub_cons rfl ?_)) ⟨hEx.trans hxt, hE⟩
                    · rintro w' ⟨hEx, hE⟩
                      refine nx_then ?_
                      refine wc_false rfl ?_
                      refine wc_skip ?_
                      refine nx_block ?_
                      refine nx_then ?_
                      refine wc_region ?_
                      refine wl_val hW rfl rfl (x_move rfl) ?_
                      refine wl_val hW rfl rfl (x_inc (s := q) rfl (by omega)) ?_
                      refine wl_val hW rfl rfl (x_assign rfl) ?_
                      refine wl_nil ?_
                      exact nx_next (q + 1) (by omega) ⟨by omega, hM4.ext hEx, hMT4.ext hEx, hRs4.ext hEx, hE⟩ (by repeat (first | exact sub_nil | refine sub_cons rfl ?_))
                  · refine wc_exit ?_
                    refine nx_then_exit ?_
                    refine nx_then_exit ?_
                    refine nx_block_exit ?_
                    refine nx_then ?_
                    refine wc_seq ?_
                    refine wc_region ?_
                    refine wl_val hW rfl rfl (x_move rfl) ?_
                    refine wl_val hW rfl rfl (x_move rfl) ?_
                    refine wl_val hW rfl rfl (x_len Try.underlying26 rfl) ?_
                    refine wl_val hW rfl rfl (x_eqlT rfl rfl (by rw [hnn])) ?_
                    refine wl_val hW rfl rfl (x_assign rfl) ?_
                    refine wl_nil ?_
                    refine nx_then ?_
                    refine wc_ret ?_
                    exact ends_ret (res_tmp Try.results12 rfl) ⟨rfl, hE⟩
end Go.Proofs.Ytblbddamebbgaaa.K

