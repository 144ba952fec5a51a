/- Walk: MemPlays. -/
import Derived.Test.YtblbddamebbgaaaZ6
namespace Go.Proofs.Ytblbddamebbgaaa.K
open Go Go.RowKit
set_option linter.unusedVariables false
set_option linter.unusedSimpArgs false

theorem C9 {w : World} {vd vl : Value} {zs : List Int} {es : List Ent} {key : ByteArray} {up : Int} (hd : IRow (fun k => k < w.heap.size) w vd zs) (hl : Row (fun k => k < w.heap.size) w vl es) :
    Rt Try.prog 9 [vd, vl, .string key, .int .u64 up] w fun r w' => r = .bool true ∧ Ext w w' := by
  obtain ⟨ad0, cap0, rfl, hzl⟩ := hd.form
  obtain ⟨ad, cap, rfl, hcap, hlen⟩ := hl.form
  have hW := hWw
  have hFF := hFw
  have hE : Ext w w := Keep.refl _ _
  refine rt_body Try.func9 rfl Try.ntmps9 rfl ?_
  refine wc_seq ?_
  refine wc_region ?_
  refine wl_val hW rfl rfl (x_assign rfl) ?_
  refine wl_nil ?_
  refine nx_then ?_
  refine wc_seq ?_
  refine wc_seq ?_
  refine wc_region ?_
  refine wl_call hW rfl rfl (x_call en27 rfl) (C27.inF hFF) ?_
  rintro _ wC ⟨rfl, hxC⟩
  replace hE := hE.trans hxC
  refine wl_val hW rfl rfl (x_not rfl) ?_
  refine wl_nil ?_
  refine nx_then ?_
  refine wc_false rfl ?_
  refine wc_skip ?_
  refine nx_then ?_
  refine wc_seq ?_
  refine wc_seq ?_
  refine wc_cutE (σ := Bool) (fun s => [(0, .slice ad0 zs.length cap0), (1, .slice ad es.length cap), (2, .string key), (3, .int .u64 up), (35, .bool s)]) (fun s w' => Ext w w' ∧ (s = false → es.length ≤ 1000)) ?_ ?_
  · refine wc_region ?_
    refine wl_val hW rfl rfl (x_move rfl) ?_
    refine wl_call hW rfl rfl (x_call en17 rfl) ((C17 (hl.ext hE)).inF hFF) ?_
    rintro _ wC ⟨⟨bb, rfl, hfew⟩, hxC⟩
    replace hE := hE.trans hxC
    refine wl_val hW rfl rfl (x_not rfl) ?_
    refine wl_val hW rfl rfl (x_move rfl) ?_
    refine wl_bcases (d := 26) rfl (fun hg26 => ?_) (fun hg26 => ?_)
    · refine wl_off hW rfl rfl ?_
      refine wl_off hW rfl rfl ?_
      refine wl_off hW rfl rfl ?_
      refine wl_val hW rfl rfl (x_pickT rfl rfl) ?_
      refine wl_val hW rfl rfl (x_move rfl) ?_
      refine wl_off hW rfl rfl ?_
      refine wl_off hW rfl rfl ?_
      refine wl_off hW rfl rfl ?_
      refine wl_val hW rfl rfl (x_pickT rfl rfl) ?_
      refine wl_nil ?_
      exact nx_cutE true (by repeat (first | exact sub_nil | refine sub_cons rfl ?_)) ⟨hE, fun h => by cases h⟩
    · refine wl_val hW rfl rfl (x_move rfl) ?_
      refine wl_val hW rfl rfl (x_len Try.underlying42 rfl) ?_
      refine wl_val hW rfl rfl (x_gtr rfl rfl) ?_
      refine wl_val hW rfl rfl (x_pickF rfl rfl) ?_
      refine wl_val hW rfl rfl (x_move rfl) ?_
      refine wl_dcases (d := 31) rfl (fun hg31 => ?_) (fun hg31 => ?_)
      · refine wl_off hW rfl rfl ?_
        refine wl_off hW rfl rfl ?_
        refine wl_off hW rfl rfl ?_
        refine wl_val hW rfl rfl (x_pickT rfl rfl) ?_
        refine wl_nil ?_
        exact nx_cutE true (by repeat (first | exact sub_nil | refine sub_cons rfl ?_)) ⟨hE, fun h => by cases h⟩
      · refine wl_val hW rfl rfl (x_move rfl) ?_
        refine wl_val hW rfl rfl (x_lens Try.underlying9 rfl) ?_
        refine wl_val hW rfl rfl (x_gtr rfl rfl) ?_
        refine wl_val hW rfl rfl (x_pickF rfl rfl) ?_
        refine wl_nil ?_
        exact nx_cutE (decide ((10000 : Int) < (key.size : Nat))) (by repeat (first | exact sub_nil | refine sub_cons rfl ?_)) ⟨hE, fun h => by have := hfew (by simpa using hg26); omega⟩
  · rintro s w' ⟨hE, hs⟩
    refine nx_then ?_
    refine wc_bool rfl (fun hc => ?_) (fun hc => ?_)
    · refine wc_seq ?_
      refine wc_region ?_
      refine wl_val hW rfl rfl (x_assign rfl) ?_
      refine wl_nil ?_
      refine nx_then ?_
      refine wc_ret ?_
      refine nx_then_ret ?_
      exact ends_ret (res_tmp Try.results9 rfl) ⟨rfl, hE⟩
    · have hn := hs hc
      refine wc_skip ?_
      refine nx_then ?_
      refine wc_seq ?_
      refine wc_region ?_
      refine wl_val hW rfl rfl (x_move rfl) ?_
      refine wl_call hW rfl rfl (x_call en28 rfl) ((C28 (hd.ext hE)).inF hFF) ?_
      have hEn := hE
      rintro _ wC ⟨⟨bt, ha, dv, rfl, hT0⟩, hxC⟩
      replace hE := hE.trans hxC
      have hsz0 := hEn.size
      refine wl_val hW rfl rfl (x_assign rfl) ?_
      refine wl_nil ?_
      refine nx_then ?_
      refine wc_seq ?_
      refine wc_region ?_
      refine wl_val hW rfl rfl (x_move rfl) ?_
      refine wl_val hW rfl rfl (x_build53 rfl) ?_
      refine wl_box hW rfl rfl rfl rfl ?_
      intro b40 w40 hl40 hB40 hx40
      have g40 : w.heap.size ≤ b40 := Nat.le_trans hE.size hl40
      replace hE := hE.trans hx40
      have hBoth : Both w.heap.size w40 bt b40 ⟨bt, ha, [], 0, 0, dv, zs, 0⟩ _ := both_new hT0.bound (fun k h => Nat.le_trans hsz0 h) hx40 hl40 (Nat.le_trans hsz0 hxC.size) hB40 (hd.ext hE)
      refine wl_val hW rfl rfl (x_assign rfl) ?_
      refine wl_nil ?_
      refine nx_then ?_
      refine wc_seq ?_
      refine wc_seq ?_
      refine wc_region ?_
      refine wl_val hW rfl rfl (x_move rfl) ?_
      refine wl_val hW rfl rfl (x_peq Try.underlying43 some114 rfl rfl) ?_
      refine wl_nil ?_
      refine nx_then ?_
      refine wc_false rfl ?_
      refine wc_skip ?_
      refine nx_then ?_
      refine wc_seq ?_
      refine wc_seq ?_
      refine wc_region ?_
      refine wl_val hW rfl rfl (x_assign rfl) ?_
      refine wl_nil ?_
      refine nx_then ?_
      refine wc_block ?_
      refine wc_loop (σ := Nat) (fun s => [(1, .slice ad es.length cap), (2, .string key), (3, .int .u64 up), (9, .pointer (some ⟨bt, 0, none⟩)), (10, .pointer (some ⟨b40, 0, none⟩)), (11, .int .i64 (s : Nat))]) (fun s w' => (s ≤ es.length ∧ ∃ t r, Both w.heap.size w' bt b40 t r ∧ TI t ∧ TR t r ∧ t.ns.length ≤ s) ∧ Ext w w') (fun s => es.length - s) 0 ?_ ?_ ?_
      · exact ⟨⟨Nat.zero_le _, _, _, hBoth, ⟨rfl, rfl, rfl⟩, ⟨rfl, rfl, rfl, rfl⟩, Nat.le_refl _⟩, hE⟩
      · repeat (first | exact sub_nil | refine sub_cons rfl ?_)
      · rintro s wr ⟨⟨hs, t, r, hBo, hI, hTR, hns⟩, hE⟩
        have hLl : r.L.length = t.ns.length := by rw [← hTR.E]; simp [Td.E]
        have hHl : r.hs.length = t.ns.length := by rw [← hTR.H]; simp [Td.H]
        refine wc_seq ?_
        refine wc_seq ?_
        refine wc_region ?_
        refine wl_val hW rfl rfl (x_move rfl) ?_
        refine wl_val hW rfl rfl (x_move rfl) ?_
        refine wl_val hW rfl rfl (x_len Try.underlying26 rfl) ?_
        refine wl_val hW rfl rfl (x_lss rfl rfl) ?_
        refine wl_nil ?_
        refine nx_then ?_
        refine wc_dec rfl (fun hc => ?_) (fun hc => ?_)
        · refine wc_skip ?_
          refine nx_then ?_
          refine wc_seq ?_
          refine wc_block ?_
          refine wc_seq ?_
          refine wc_region ?_
          refine wl_val hW rfl rfl (x_move rfl) ?_
          refine wl_val hW rfl rfl (x_move rfl) ?_
          refine wl_val hW rfl rfl (x_move rfl) ?_
          have hlt : s < es.length := by omega
          obtain ⟨b, o, cap', bv, e1, hA, hC52, hb1, hok1⟩ := (hl.ext hE).at s hlt
          cases e1
          have hE1 := hE
          have hEl : t.E.length = t.ns.length := by simp [Td.E]
          have hCm : r.came = t.ns.length := by have := hTR.came; have := hI.cnt; omega
          refine wl_val hW rfl rfl (x_indexAddr Try.underlying26 ag25.siz rfl rfl (by omega) (by omega)) ?_
          refine wl_val hW rfl rfl (x_loadA ag25 rfl hC52 rfl) ?_
          refine wl_call hW rfl rfl (x_call en29 rfl) ((hBo.putT hI hb1 hok1 (by omega)).inF hFF) ?_
          rintro _ wC ⟨t2, hBo2, hI2, hP2, hl2, hk2⟩
          replace hE := Keep.after hE hk2 (fun k h => h)
          refine wl_nil ?_
          refine nx_then ?_
          refine wc_seq ?_
          refine wc_region ?_
          refine wl_val hW rfl rfl (x_move rfl) ?_
          refine wl_val hW rfl rfl (x_move rfl) ?_
          refine wl_val hW rfl rfl (x_move rfl) ?_
          refine wl_val hW rfl rfl (x_indexAddr Try.underlying26 ag25.siz rfl rfl (by omega) (by omega)) ?_
          have hC58 := hC52.ck hA (CK.of_keep hk2 fun k _ h => h)
          refine wl_val hW rfl rfl (x_loadA ag25 rfl hC58 rfl) ?_
          refine wl_call hW rfl rfl (x_call en35 rfl) ((hBo2.putR (hb1.ck (CK.of_keep hk2 fun k _ h => h)) hok1 (by omega) (by omega) (by omega)).inF hFF) ?_
          rintro _ wC2 ⟨r2, hBo3, hR3, hk3⟩
          replace hE := Keep.after hE hk3 (fun k h => h)
          have hTR2 := hTR.put hP2 hR3
          have hLl2 : r2.L.length = t2.ns.length := by rw [← hTR2.E]; simp [Td.E]
          have hHl2 : r2.hs.length = t2.ns.length := by rw [← hTR2.H]; simp [Td.H]
          have hEl2 : t2.E.length = t2.ns.length := by simp [Td.E]
          obtain ⟨lv2, hlv2, hRow2⟩ := hBo3.rowL (by omega)
          obtain ⟨al2, cl2, rfl, -, -⟩ := hRow2.form
          refine wl_nil ?_
          refine nx_then ?_
          refine wc_seq ?_
          refine wc_cut [(1, .slice (some ⟨b, o, none⟩) es.length cap), (2, .string key), (3, .int .u64 up), (9, .pointer (some ⟨bt, 0, none⟩)), (10, .pointer (some ⟨b40, 0, none⟩)), (11, .int .i64 (s : Nat)), (82, .bool false)] (fun w' => Ext w w' ∧ Both w.heap.size w' bt b40 t2 r2) ?_ ?_
          · refine wc_draw' 21 hW mixed (by kernel_rfl) (fun w0 hx0 => ?_)
            have hBo4 := hBo3.ext hx0
            have hB40 := hBo4.tb
            rw [hlv2] at hB40
            replace hE := hE.trans hx0
            refine q_val rfl rfl (fun _ hx => x_move rfl) ?_
            refine q_call rfl rfl (fun _ => x_call en39 rfl) (fun w' hx => (hBo4.ext hx).hgt.inF hFF) ?_
            refine q_val rfl rfl (fun _ hx => x_move rfl) ?_
            refine q_call rfl rfl (fun _ => x_call en40 rfl) (fun w' hx => ((hBo4.ext hx).rhgt (by omega)).inF hFF) ?_
            refine q_val rfl rfl (fun _ hx => x_neqF rfl rfl (by rw [hI2.hgt, hTR2.H])) ?_
            refine q_val rfl rfl (fun _ hx => x_move rfl) ?_
            refine q_val rfl rfl (fun _ hx => x_move rfl) ?_
            refine q_call rfl rfl (fun _ => x_call en31 rfl) (fun w' hx => (hBo4.ext hx).len.inF hFF) ?_
            refine q_val rfl rfl (fun _ hx => x_move rfl) ?_
            refine q_val rfl rfl (fun _ hx => x_nilCheck rfl) ?_
            refine q_val rfl rfl (fun _ hx => x_fieldAddr Try.underlying53 rfl fl26.siz rfl) ?_
            refine q_val rfl rfl (fun _ hx => x_load fl26 rfl ((hB40.ext hx).cell rfl)) ?_
            refine q_val rfl rfl (fun _ hx => x_len Try.underlying26 rfl) ?_
            refine q_val rfl rfl (fun _ hx => x_neqF rfl rfl (by rw [hI2.cnt]; omega)) ?_
            refine q_val rfl rfl (fun _ hx => x_pickF rfl rfl) ?_
            refine q_val rfl rfl (fun _ hx => x_move rfl) ?_
            refine q_val rfl rfl (fun _ hx => x_move rfl) ?_
            refine q_call rfl rfl (fun _ => x_call en32 rfl) (fun w' hx => (hBo4.ext hx).size.inF hFF) ?_
            refine q_val rfl rfl (fun _ hx => x_move rfl) ?_
            refine q_call rfl rfl (fun _ => x_call en41 rfl) (fun w' hx => ((hBo4.ext hx).rsize (by omega)).inF hFF) ?_
            refine q_val rfl rfl (fun _ hx => x_neqF rfl rfl (by rw [hI2.sz, hTR2.E])) ?_
            refine q_nil (tail0 (fun wt hxt => ?_))
            replace hB40 := hB40.ext hxt
            replace hE := hE.trans hxt
            refine wl_val hW rfl rfl (x_pickF rfl rfl) ?_
            refine wl_nil ?_
            exact nx_cut (by repeat (first | exact sub_nil | refine sub_cons rfl ?_)) ⟨hE, hBo4.ext hxt⟩
          · rintro w' ⟨hE, hBo5⟩
            refine nx_then ?_
            refine wc_false rfl ?_
            refine wc_skip ?_
            refine nx_block ?_
            refine nx_then ?_
            refine wc_region ?_
            refine wl_val hW rfl rfl (x_move rfl) ?_
            refine wl_val hW rfl rfl (x_inc (s := s) rfl (by omega)) ?_
            refine wl_val hW rfl rfl (x_assign rfl) ?_
            refine wl_nil ?_
            exact nx_next (s + 1) (by omega) ⟨⟨hlt, t2, r2, hBo5, hI2, hTR2, by omega⟩, hE⟩ (by repeat (first | exact sub_nil | refine sub_cons rfl ?_))
        · refine wc_exit ?_
          obtain ⟨lv, hlv, hRowL⟩ := hBo.rowL (by omega)
          obtain ⟨al, cl, rfl, -, -⟩ := hRowL.form
          have hB40s := hBo.tb
          rw [hlv] at hB40s
          have hE0 := hE
          replace hE : Ext wr wr := Keep.refl _ _
          refine nx_then_exit ?_
          refine nx_then_exit ?_
          refine nx_block_exit ?_
          refine nx_then ?_
          refine wc_seq ?_
          refine wc_seq ?_
          refine wc_region ?_
          refine wl_val hW rfl rfl (x_assign rfl) ?_
          refine wl_nil ?_
          refine nx_then ?_
          refine wc_block ?_
          refine wc_loop (σ := Nat) (fun s => [(1, .slice ad es.length cap), (2, .string key), (3, .int .u64 up), (9, .pointer (some ⟨bt, 0, none⟩)), (10, .pointer (some ⟨b40, 0, none⟩)), (12, .int .i64 (s : Nat))]) (fun s w' => s ≤ es.length ∧ Ext wr w') (fun s => es.length - s) 0 ?_ ?_ ?_
          · exact ⟨Nat.zero_le _, hE⟩
          · repeat (first | exact sub_nil | refine sub_cons rfl ?_)
          · rintro s2 w2 ⟨hs2, hE⟩
            refine wc_seq ?_
            refine wc_seq ?_
            refine wc_cutE (σ := Bool) (fun u => [(1, .slice ad es.length cap), (2, .string key), (3, .int .u64 up), (9, .pointer (some ⟨bt, 0, none⟩)), (10, .pointer (some ⟨b40, 0, none⟩)), (12, .int .i64 (s2 : Nat)), (90, .bool u)]) (fun u w' => w' = w2 ∧ (u = true → s2 < es.length)) ?_ ?_
            · refine wc_region ?_
              refine wl_val hW rfl rfl (x_move rfl) ?_
              refine wl_val hW rfl rfl (x_move rfl) ?_
              refine wl_val hW rfl rfl (x_len Try.underlying26 rfl) ?_
              refine wl_val hW rfl rfl (x_lss rfl rfl) ?_
              refine wl_val hW rfl rfl (x_move rfl) ?_
              refine wl_dcases (d := 87) rfl (fun hg87 => ?_) (fun hg87 => ?_)
              · refine wl_val hW rfl rfl (x_move rfl) ?_
                refine wl_val hW rfl rfl (x_lss rfl rfl) ?_
                refine wl_val hW rfl rfl (x_pickT rfl rfl) ?_
                refine wl_nil ?_
                exact nx_cutE (decide ((s2 : Int) < 100)) (by repeat (first | exact sub_nil | refine sub_cons rfl ?_)) ⟨rfl, fun _ => by omega⟩
              · refine wl_off hW rfl rfl ?_
                refine wl_off hW rfl rfl ?_
                refine wl_val hW rfl rfl (x_pickF rfl rfl) ?_
                refine wl_nil ?_
                exact nx_cutE false (by repeat (first | exact sub_nil | refine sub_cons rfl ?_)) ⟨rfl, fun h => by cases h⟩
            · rintro u w' ⟨rfl, hu⟩
              refine nx_then ?_
              refine wc_bool rfl (fun hc => ?_) (fun hc => ?_)
              · refine wc_skip ?_
                refine nx_then ?_
                refine wc_seq ?_
                refine wc_block ?_
                refine wc_seq ?_
                have hlt2 : s2 < es.length := hu hc
                obtain ⟨b, o, cap', bv, e1, hA, hCl, hb1, hok1⟩ := (hl.ext (hE0.trans hE)).at s2 hlt2
                cases e1
                have hBo2 := hBo.ext hE
                refine wc_drawX (GX 11 w') 17 hW mixed (by kernel_rfl) (by kernel_rfl) gx_ext (fun w0 hx0 => hx0) ?_
                refine qx_val rfl rfl rfl (fun _ _ hJ => x_move rfl) ?_
                refine qx_val rfl rfl rfl (fun _ _ hJ => x_move rfl) ?_
                refine qx_val rfl rfl rfl (fun _ _ hJ => x_move rfl) ?_
                refine qx_val rfl rfl rfl (fun _ _ hJ => x_indexAddr Try.underlying26 ag25.siz rfl rfl (by omega) (by omega)) ?_
                refine qx_val rfl rfl rfl (fun _ _ hJ => x_fieldAddr Try.underlying25 rfl fl9.siz rfl) ?_
                refine qx_val rfl rfl rfl (fun _ _ hJ => x_load fl9 rfl (Ext.cell hJ (hCl 0 _ rfl))) ?_
                refine qx_val rfl rfl rfl (fun _ _ hJ => x_move rfl) ?_
                refine qx_val rfl rfl rfl (fun _ _ hJ => x_move rfl) ?_
                refine qx_val rfl rfl rfl (fun _ _ hJ => x_indexAddr Try.underlying26 ag25.siz rfl rfl (by omega) (by omega)) ?_
                refine qx_val rfl rfl rfl (fun _ _ hJ => x_fieldAddr Try.underlying25 rfl fl22.siz rfl) ?_
                refine qx_val rfl rfl rfl (fun _ _ hJ => x_load fl22 rfl (Ext.cell hJ (hCl 1 _ rfl))) ?_
                refine qx_get (c := 11) (Qb := fun bv w2 => FB w'.heap.size w2 bv (gotE t.E es[s2].k es[s2].s).v) rfl (fun _ _ _ h hx => h.ext hx) (fun _ _ _ h hs => h.storeNew hs) (fun _ _ h => by obtain ⟨a, c, rfl⟩ := h.form; rfl) rfl rfl rfl rfl rfl rfl rfl rfl rfl (by decide) (fun o ho => by cases ho; decide) rfl (fun _ => x_call en36 rfl) (fun w2 hJ => (((hBo2.ext hJ).get (by omega)).mono fun r w3 ⟨⟨bv, h1, h2⟩, h3⟩ => ⟨⟨bv, h1, h2.mono hJ.size⟩, h3⟩).inF hFF) (fun wA b13 bvA hxA hl13 hB13 hFA => ?_)
                replace hE := hE.trans hxA
                have hB40 := hB40s.ext hE
                have hBoA := hBo.ext hE
                replace hCl := hCl.ext hxA
                refine wl_val hW rfl rfl (x_assign rfl) ?_
                refine wl_nil ?_
                refine nx_then ?_
                refine wc_seq ?_
                refine wc_drawX (GX 14 wA) 20 hW mixed (by kernel_rfl) (by kernel_rfl) gx_ext (fun w0 hx0 => hx0) ?_
                refine qx_val rfl rfl rfl (fun _ _ hJ => x_move rfl) ?_
                refine qx_val rfl rfl rfl (fun _ _ hJ => x_nilCheck rfl) ?_
                refine qx_val rfl rfl rfl (fun _ _ hJ => x_fieldAddr Try.underlying53 rfl fl26.siz rfl) ?_
                refine qx_val rfl rfl rfl (fun _ _ hJ => x_load fl26 rfl ((hB40.ext hJ).cell rfl)) ?_
                refine qx_val rfl rfl rfl (fun _ _ hJ => x_move rfl) ?_
                refine qx_val rfl rfl rfl (fun _ _ hJ => x_move rfl) ?_
                refine qx_val rfl rfl rfl (fun _ _ hJ => x_indexAddr Try.underlying26 ag25.siz rfl rfl (by omega) (by omega)) ?_
                refine qx_val rfl rfl rfl (fun _ _ hJ => x_fieldAddr Try.underlying25 rfl fl9.siz rfl) ?_
                refine qx_val rfl rfl rfl (fun _ _ hJ => x_load fl9 rfl (Ext.cell hJ (hCl 0 _ rfl))) ?_
                refine qx_val rfl rfl rfl (fun _ _ hJ => x_move rfl) ?_
                refine qx_val rfl rfl rfl (fun _ _ hJ => x_move rfl) ?_
                refine qx_val rfl rfl rfl (fun _ _ hJ => x_indexAddr Try.underlying26 ag25.siz rfl rfl (by omega) (by omega)) ?_
                refine qx_val rfl rfl rfl (fun _ _ hJ => x_fieldAddr Try.underlying25 rfl fl22.siz rfl) ?_
                refine qx_val rfl rfl rfl (fun _ _ hJ => x_load fl22 rfl (Ext.cell hJ (hCl 1 _ rfl))) ?_
                refine qx_get (c := 14) (Qb := fun bv w2 => Byts (fun k => k < wA.heap.size) w2 bv (gotE r.L es[s2].k es[s2].s).v) rfl (fun _ _ _ h hx => h.ext hx) (fun _ _ _ h hs => h.storeNew hs) (fun _ _ h => h.one) rfl rfl rfl rfl rfl rfl rfl rfl rfl (by decide) (fun o ho => by cases ho; decide) rfl (fun _ => x_call en42 rfl) (fun w2 hJ => ((C42g (hRowL.ext (hE.trans hJ))).mono fun r w3 ⟨⟨bv, h1, h2⟩, h3⟩ => ⟨⟨bv, h1, h2.mono fun k _ hk => by have := hk.2; have := hE.size; omega⟩, h3⟩).inF hFF) (fun wB b15 bvB hxB hl15 hB15 hFB2 => ?_)
                replace hE := hE.trans hxB
                replace hB40 := hB40.ext hxB
                replace hB13 := hB13.ext hxB
                replace hFA := hFA.ext hxB
                refine wl_val hW rfl rfl (x_assign rfl) ?_
                refine wl_nil ?_
                refine nx_then ?_
                refine wc_seq ?_
                refine wc_cut [(1, .slice (some ⟨b, o, none⟩) es.length cap), (2, .string key), (3, .int .u64 up), (9, .pointer (some ⟨bt, 0, none⟩)), (10, .pointer (some ⟨b40, 0, none⟩)), (12, .int .i64 (s2 : Nat)), (134, .bool false)] (fun w' => Ext wr w') ?_ ?_
                · refine wc_region ?_
                  refine wl_val hW rfl rfl (x_move rfl) ?_
                  refine wl_val hW rfl rfl (x_move rfl) ?_
                  refine wl_val hW rfl rfl (x_bneqR rfl rfl Try.underlying4 (by rw [hTR.E])) ?_
                  refine wl_val hW rfl rfl (x_move rfl) ?_
                  refine wl_val hW rfl rfl (x_loadA ag25 rfl hB13.cells rfl) ?_
                  refine wl_val hW rfl rfl (x_loadA ag25 rfl hB15.cells rfl) ?_
                  refine wl_call hW rfl rfl (x_call en38 rfl) ((C38r (A := fun _ => True) (hFA.byts.mono fun _ _ _ => trivial) (hFB2.mono fun _ _ _ => trivial) (by rw [hTR.E])).inF hFF) ?_
                  rintro _ wC ⟨rfl, hxC⟩
                  replace hB40 := hB40.ext hxC
                  replace hB13 := hB13.ext hxC
                  replace hB15 := hB15.ext hxC
                  replace hE := hE.trans hxC
                  refine wl_val hW rfl rfl (x_not rfl) ?_
                  refine wl_val hW rfl rfl (x_pickF rfl rfl) ?_
                  refine wl_nil ?_
                  exact nx_cut (by repeat (first | exact sub_nil | refine sub_cons rfl ?_)) hE
                · rintro w' hE
                  refine nx_then ?_
                  refine wc_false rfl ?_
                  refine wc_skip ?_
                  refine nx_block ?_
                  refine nx_then ?_
                  refine wc_region ?_
                  refine wl_val hW rfl rfl (x_move rfl) ?_
                  refine wl_val hW rfl rfl (x_inc (s := s2) rfl (by omega)) ?_
                  refine wl_val hW rfl rfl (x_assign rfl) ?_
                  refine wl_nil ?_
                  exact nx_next (s2 + 1) (by omega) ⟨hlt2, hE⟩ (by repeat (first | exact sub_nil | refine sub_cons rfl ?_))
              · refine wc_exit ?_
                refine nx_then_exit ?_
                refine nx_then_exit ?_
                refine nx_block_exit ?_
                refine nx_then ?_
                refine wc_seq ?_
                have hB40 := hB40s.ext hE
                refine wc_region ?_
                refine wl_val hW rfl rfl (x_move rfl) ?_
                refine wl_val hW rfl rfl (x_move rfl) ?_
                refine wl_val hW rfl rfl (x_move rfl) ?_
                refine wl_call hW rfl rfl (x_call en36 rfl) (((hBo.ext hE).get (by omega)).inF hFF) ?_
                rintro _ wC ⟨⟨bvA, rfl, hFA⟩, hxC⟩
                have honeA := cells_one (e := gotE t.E key up) (bv := bvA) (by obtain ⟨a, c, rfl⟩ := hFA.form; rfl)
                replace hB40 := hB40.ext hxC
                replace hE := hE.trans hxC
                refine wl_val hW rfl rfl (x_move rfl) ?_
                refine wl_val hW rfl rfl (x_extract rfl rfl) ?_
                refine wl_val hW rfl rfl (x_extract rfl rfl) ?_
                refine wl_alloc (cs := [.string ⟨#[]⟩, .int .u64 0, .bool false, .slice none 0 0]) hW rfl rfl Try.zeroValue25 rfl ?_
                intro b17 w17 hl17 hB17 hx17
                have g17 : wr.heap.size ≤ b17 := Nat.le_trans hE.size hl17
                have n17_40 : b17 ≠ b40 := Nat.ne_of_gt (Nat.lt_of_lt_of_le hB40.lt hl17)
                replace hB40 := hB40.ext hx17
                replace hE := hE.trans hx17
                refine wl_storeA hW rfl ag25 rfl rfl honeA rfl hB17 rfl ?_
                intro wS hBS hkS
                replace hFA := (hFA.ext hx17).keep hkS (fun b hb => (hFA.ext hx17).ne hb hB17 (by decide))
                replace hB40 := hB40.keep hkS n17_40.symm
                replace hB17 := hBS
                clear hBS
                replace hE := hE.store hkS g17
                refine wl_val hW rfl rfl (x_assign rfl) ?_
                refine wl_nil ?_
                refine nx_then ?_
                refine wc_seq ?_
                refine wc_region ?_
                refine wl_val hW rfl rfl (x_move rfl) ?_
                refine wl_val hW rfl rfl (x_nilCheck rfl) ?_
                refine wl_val hW rfl rfl (x_fieldAddr Try.underlying53 rfl fl26.siz rfl) ?_
                refine wl_val hW rfl rfl (x_load fl26 rfl (hB40.cell rfl)) ?_
                refine wl_val hW rfl rfl (x_move rfl) ?_
                refine wl_val hW rfl rfl (x_move rfl) ?_
                refine wl_call hW rfl rfl (x_call en42 rfl) ((C42g (hRowL.ext hE)).inF hFF) ?_
                rintro _ wD ⟨⟨bvB, rfl, hFB2⟩, hxC⟩
                have honeB := cells_one (e := gotE r.L key up) (bv := bvB) hFB2.one
                have hsz17 := hE.size
                replace hB40 := hB40.ext hxC
                replace hB17 := hB17.ext hxC
                replace hE := hE.trans hxC
                replace hFA := hFA.ext hxC
                refine wl_val hW rfl rfl (x_move rfl) ?_
                refine wl_val hW rfl rfl (x_extract rfl rfl) ?_
                refine wl_val hW rfl rfl (x_extract rfl rfl) ?_
                refine wl_alloc (cs := [.string ⟨#[]⟩, .int .u64 0, .bool false, .slice none 0 0]) hW rfl rfl Try.zeroValue25 rfl ?_
                intro b19 w19 hl19 hB19 hx19
                have g19 : wr.heap.size ≤ b19 := Nat.le_trans hE.size hl19
                have n19_40 : b19 ≠ b40 := Nat.ne_of_gt (Nat.lt_of_lt_of_le hB40.lt hl19)
                replace hB40 := hB40.ext hx19
                have n19_17 : b19 ≠ b17 := Nat.ne_of_gt (Nat.lt_of_lt_of_le hB17.lt hl19)
                replace hB17 := hB17.ext hx19
                replace hE := hE.trans hx19
                refine wl_storeA hW rfl ag25 rfl rfl honeB rfl hB19 rfl ?_
                intro wS hBS hkS
                replace hFA := (hFA.ext hx19).keep hkS (fun b hb => (hFA.ext hx19).ne hb hB19 (by decide))
                replace hFB2 := (hFB2.ext hx19).ck (CK.of_keep hkS fun k _ hk => by have := hk.2; omega)
                replace hB40 := hB40.keep hkS n19_40.symm
                replace hB17 := hB17.keep hkS n19_17.symm
                replace hB19 := hBS
                clear hBS
                replace hE := hE.store hkS g19
                refine wl_val hW rfl rfl (x_assign rfl) ?_
                refine wl_nil ?_
                refine nx_then ?_
                refine wc_seq ?_
                refine wc_cut [(8, .bool true)] (fun w' => Ext wr w') ?_ ?_
                · refine wc_draw' 31 hW mixed (by kernel_rfl) (fun w0 hx0 => ?_)
                  replace hB40 := hB40.ext hx0
                  replace hB17 := hB17.ext hx0
                  replace hB19 := hB19.ext hx0
                  replace hE := hE.trans hx0
                  replace hFA := hFA.ext hx0
                  replace hFB2 := hFB2.ext hx0
                  have hBo0 := hBo.ext hE
                  have hRow0 := hRowL.ext hE
                  refine q_val rfl rfl (fun _ hx => x_move rfl) ?_
                  refine q_val rfl rfl (fun _ hx => x_move rfl) ?_
                  refine q_val rfl rfl (fun _ hx => x_beqlR rfl rfl Try.underlying4 (by rw [hTR.E])) ?_
                  refine q_val rfl rfl (fun _ hx => x_move rfl) ?_
                  refine q_val rfl rfl (fun _ hx => x_loadA ag25 rfl (hB17.ext hx).cells rfl) ?_
                  refine q_val rfl rfl (fun _ hx => x_loadA ag25 rfl (hB19.ext hx).cells rfl) ?_
                  refine q_call rfl rfl (fun _ => x_call en38 rfl) (fun w' hx => (C38r (A := fun _ => True) ((hFA.ext hx).byts.mono fun _ _ _ => trivial) ((hFB2.ext hx).mono fun _ _ _ => trivial) (by rw [hTR.E])).inF hFF) ?_
                  refine q_val rfl rfl (fun _ hx => x_pickT rfl rfl) ?_
                  refine q_val rfl rfl (fun _ hx => x_move rfl) ?_
                  refine q_val rfl rfl (fun _ hx => x_move rfl) ?_
                  refine q_callp (p := fun v w' => Row (fun _ => True) w' v t.E) (fun v w w' h hx => h.ext hx) rfl rfl rfl (fun _ => x_call en30 rfl) (fun w' hx => (((hBo0.ext hx).all (by omega)).mono fun r w'' ⟨h1, h2⟩ => ⟨h1.mono (fun _ _ _ => trivial), h2⟩).inF hFF) ?_
                  refine q_val rfl rfl (fun _ hx => x_move rfl) ?_
                  refine q_val rfl rfl (fun _ hx => x_nilCheck rfl) ?_
                  refine q_val rfl rfl (fun _ hx => x_fieldAddr Try.underlying53 rfl fl26.siz rfl) ?_
                  refine q_val rfl rfl (fun _ hx => x_load fl26 rfl ((hB40.ext hx).cell rfl)) ?_
                  refine q_callvc (s := 162) rfl rfl (List.mem_cons_self ..) (List.mem_append_left _ (List.mem_filterMap.2 ⟨.tmp 162, by simp [Op.operands, Call.operands], rfl⟩)) (fun _ u => x_call en24 rfl) (fun w' u hx hu => (C24r hu ((hRow0.ext hx).mono fun _ _ _ => trivial) hTR.E).inF hFF) ?_
                  refine q_val rfl rfl (fun _ hx => x_pickT rfl rfl) ?_
                  refine q_val rfl rfl (fun _ hx => x_move rfl) ?_
                  refine q_val rfl rfl (fun _ hx => x_move rfl) ?_
                  refine q_val rfl rfl (fun _ hx => x_move rfl) ?_
                  refine q_callp (p := fun v w' => Row (fun _ => True) w' v (t.E.drop (fromN t.E key))) (fun v w w' h hx => h.ext hx) rfl rfl rfl (fun _ => x_call en43 rfl) (fun w' hx => (((hBo0.ext hx).from (by omega)).mono fun r w'' ⟨h1, h2⟩ => ⟨h1.mono (fun _ _ _ => trivial), h2⟩).inF hFF) ?_
                  refine q_val rfl rfl (fun _ hx => x_move rfl) ?_
                  refine q_val rfl rfl (fun _ hx => x_nilCheck rfl) ?_
                  refine q_val rfl rfl (fun _ hx => x_fieldAddr Try.underlying53 rfl fl26.siz rfl) ?_
                  refine q_val rfl rfl (fun _ hx => x_load fl26 rfl ((hB40.ext hx).cell rfl)) ?_
                  refine q_val rfl rfl (fun _ hx => x_move rfl) ?_
                  refine q_val rfl rfl (fun _ hx => x_nilCheck rfl) ?_
                  refine q_val rfl rfl (fun _ hx => x_fieldAddr Try.underlying53 rfl fl26.siz rfl) ?_
                  refine q_val rfl rfl (fun _ hx => x_load fl26 rfl ((hB40.ext hx).cell rfl)) ?_
                  refine q_val rfl rfl (fun _ hx => x_move rfl) ?_
                  refine q_call rfl rfl (fun _ => x_call en44 rfl) (fun w' hx => (C44 (hRow0.ext hx)).inF hFF) ?_
                  refine q_nil (tailm (d := 172) (List.mem_cons_self ..) (fun wt v172 hxt h172 => ?_))
                  replace hB40 := hB40.ext hxt
                  replace hB17 := hB17.ext hxt
                  replace hB19 := hB19.ext hxt
                  replace hE := hE.trans hxt
                  refine wl_val hW rfl rfl (x_slicel (i := fromN r.L key) Try.underlying26 ag25.siz rfl rfl (show fromN r.L key ≤ r.L.length from (List.takeWhile_sublist _).length_le)) ?_
                  refine wl_call hW rfl rfl (x_call en24 rfl) ((C24r h172 (((hRow0.ext hxt).slicel (show fromN r.L key ≤ r.L.length from (List.takeWhile_sublist _).length_le)).mono fun _ _ _ => trivial) (by rw [hTR.E])).inF hFF) ?_
                  rintro _ wC ⟨rfl, hxC⟩
                  replace hB40 := hB40.ext hxC
                  replace hB17 := hB17.ext hxC
                  replace hB19 := hB19.ext hxC
                  replace hE := hE.trans hxC
                  refine wl_val hW rfl rfl (x_pickT rfl rfl) ?_
                  refine wl_val hW rfl rfl (x_assign rfl) ?_
                  refine wl_nil ?_
                  exact nx_cut (by repeat (first | exact sub_nil | refine sub_cons rfl ?_)) hE
                · rintro w' hE
                  refine nx_then ?_
                  refine wc_ret ?_
                  exact ends_ret (res_tmp Try.results9 rfl) ⟨rfl, hE0.trans hE⟩
end Go.Proofs.Ytblbddamebbgaaa.K

