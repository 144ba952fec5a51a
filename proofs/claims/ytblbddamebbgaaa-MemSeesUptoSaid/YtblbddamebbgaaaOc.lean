/- Walk: MemSees. -/
import Derived.Test.YtblbddamebbgaaaOb
namespace Go.Proofs.Ytblbddamebbgaaa.K
open Go Go.RowKit
set_option linter.unusedVariables false
set_option linter.unusedSimpArgs false

theorem C8 {w : World} {vd vl : Value} {zs : List Int} {es : List Ent} {up : Int} (hd : IRow (fun k => k < w.heap.size) w vd zs) (hl : Row (fun k => k < w.heap.size) w vl es) :
    Rt Try.prog 8 [vd, vl, .int .u64 up] w fun r w' => r = .bool true ∧ Ext w w' := by
  obtain ⟨ad0, cap0, rfl, hzl⟩ := hd.form
  obtain ⟨ad, cap, rfl, hcap, hlen⟩ := hl.form
  have hW := hWw
  have hFF := hFw
  have hE : Ext w w := Keep.refl _ _
  refine rt_body Try.func8 rfl Try.ntmps8 rfl ?_
  refine wc_seq ?_
  refine wc_region ?_
  refine wl_val hW rfl rfl (x_assign rfl) ?_
  refine wl_nil ?_
  refine nx_then ?_
  refine wc_seq ?_
  refine wc_seq ?_
  refine wc_region ?_
  refine wl_call hW rfl rfl (x_call en27 rfl) (C27.inF hFF) ?_
  rintro _ wC ⟨rfl, hxC⟩
  replace hE := hE.trans hxC
  refine wl_val hW rfl rfl (x_not rfl) ?_
  refine wl_nil ?_
  refine nx_then ?_
  refine wc_false rfl ?_
  refine wc_skip ?_
  refine nx_then ?_
  refine wc_seq ?_
  refine wc_seq ?_
  refine wc_cutE (σ := Bool) (fun s => [(0, .slice ad0 zs.length cap0), (1, .slice ad es.length cap), (2, .int .u64 up), (25, .bool s)]) (fun s w' => Ext w w' ∧ (s = false → es.length ≤ 400)) ?_ ?_
  · refine wc_region ?_
    refine wl_val hW rfl rfl (x_move rfl) ?_
    refine wl_call hW rfl rfl (x_call en17 rfl) ((C17 (hl.ext hE)).inF hFF) ?_
    rintro _ wC ⟨⟨bb, rfl, hfew⟩, hxC⟩
    replace hE := hE.trans hxC
    refine wl_val hW rfl rfl (x_not rfl) ?_
    refine wl_val hW rfl rfl (x_move rfl) ?_
    refine wl_bcases (d := 21) rfl (fun hg21 => ?_) (fun hg21 => ?_)
    · refine wl_off hW rfl rfl ?_
      refine wl_off hW rfl rfl ?_
      refine wl_off hW rfl rfl ?_
      refine wl_val hW rfl rfl (x_pickT rfl rfl) ?_
      refine wl_nil ?_
      exact nx_cutE true (by repeat (first | exact sub_nil | refine sub_cons rfl ?_)) ⟨hE, fun h => by cases h⟩
    · refine wl_val hW rfl rfl (x_move rfl) ?_
      refine wl_val hW rfl rfl (x_len Try.underlying42 rfl) ?_
      refine wl_val hW rfl rfl (x_gtr rfl rfl) ?_
      refine wl_val hW rfl rfl (x_pickF rfl rfl) ?_
      refine wl_nil ?_
      exact nx_cutE (decide ((1000 : Int) < (zs.length : Nat))) (by repeat (first | exact sub_nil | refine sub_cons rfl ?_)) ⟨hE, fun h => by have := hfew (by simpa using hg21); omega⟩
  · rintro s w' ⟨hE, hs⟩
    refine nx_then ?_
    refine wc_bool rfl (fun hc => ?_) (fun hc => ?_)
    · refine wc_seq ?_
      refine wc_region ?_
      refine wl_val hW rfl rfl (x_assign rfl) ?_
      refine wl_nil ?_
      refine nx_then ?_
      refine wc_ret ?_
      refine nx_then_ret ?_
      exact ends_ret (res_tmp Try.results8 rfl) ⟨rfl, hE⟩
    · have hn := hs hc
      refine wc_skip ?_
      refine nx_then ?_
      refine wc_seq ?_
      refine wc_region ?_
      refine wl_val hW rfl rfl (x_move rfl) ?_
      refine wl_call hW rfl rfl (x_call en28 rfl) ((C28 (hd.ext hE)).inF hFF) ?_
      have hEn := hE
      rintro _ wC ⟨⟨bt, ha, dv, rfl, hT0⟩, hxC⟩
      replace hE := hE.trans hxC
      have hsz0 := hEn.size
      have hTb0 := tbl_new (hT0.mono (O' := fun k => w.heap.size ≤ k) fun k _ hk => Nat.le_trans hsz0 hk)
      refine wl_val hW rfl rfl (x_assign rfl) ?_
      refine wl_nil ?_
      refine nx_then ?_
      refine wc_seq ?_
      refine wc_seq ?_
      refine wc_region ?_
      refine wl_val hW rfl rfl (x_move rfl) ?_
      refine wl_val hW rfl rfl (x_peq Try.underlying43 some114 rfl rfl) ?_
      refine wl_nil ?_
      refine nx_then ?_
      refine wc_false rfl ?_
      refine wc_skip ?_
      refine nx_then ?_
      refine wc_seq ?_
      refine wc_seq ?_
      refine wc_region ?_
      refine wl_val hW rfl rfl (x_assign rfl) ?_
      refine wl_nil ?_
      refine nx_then ?_
      refine wc_block ?_
      refine wc_loop (σ := Nat) (fun s => [(1, .slice ad es.length cap), (2, .int .u64 up), (7, .pointer (some ⟨bt, 0, none⟩)), (8, .int .i64 (s : Nat))]) (fun s w' => (s ≤ es.length ∧ ∃ t, Tbl w.heap.size w' bt t ∧ t.ns.length ≤ s) ∧ Ext w w') (fun s => es.length - s) 0 ?_ ?_ ?_
      · exact ⟨⟨Nat.zero_le _, _, hTb0, Nat.le_refl _⟩, hE⟩
      · repeat (first | exact sub_nil | refine sub_cons rfl ?_)
      · rintro s wr ⟨⟨hs, t, hTb, hns⟩, hE⟩
        refine wc_seq ?_
        refine wc_seq ?_
        refine wc_region ?_
        refine wl_val hW rfl rfl (x_move rfl) ?_
        refine wl_val hW rfl rfl (x_move rfl) ?_
        refine wl_val hW rfl rfl (x_len Try.underlying26 rfl) ?_
        refine wl_val hW rfl rfl (x_lss rfl rfl) ?_
        refine wl_nil ?_
        refine nx_then ?_
        refine wc_dec rfl (fun hc => ?_) (fun hc => ?_)
        · refine wc_skip ?_
          refine nx_then ?_
          refine wc_seq ?_
          refine wc_block ?_
          refine wc_region ?_
          have hlt : s < es.length := by omega
          obtain ⟨b, o, cap', bv, e1, hA, hC39, hb1, hok1⟩ := (hl.ext hE).at s hlt
          cases e1
          refine wl_val hW rfl rfl (x_move rfl) ?_
          refine wl_val hW rfl rfl (x_move rfl) ?_
          refine wl_val hW rfl rfl (x_move rfl) ?_
          refine wl_val hW rfl rfl (x_indexAddr Try.underlying26 ag25.siz rfl rfl (by omega) (by omega)) ?_
          refine wl_val hW rfl rfl (x_loadA ag25 rfl hC39 rfl) ?_
          refine wl_call hW rfl rfl (x_call en29 rfl) ((hTb.put hb1 hok1 (by omega) hE.size).inF hFF) ?_
          rintro _ wC ⟨t2, hTb2, -, hl2, hk2, -⟩
          replace hE := Keep.after hE hk2 (fun k h => h)
          refine wl_nil ?_
          refine nx_block ?_
          refine nx_then ?_
          refine wc_region ?_
          refine wl_val hW rfl rfl (x_move rfl) ?_
          refine wl_val hW rfl rfl (x_inc (s := s) rfl (by omega)) ?_
          refine wl_val hW rfl rfl (x_assign rfl) ?_
          refine wl_nil ?_
          exact nx_next (s + 1) (by omega) ⟨⟨hlt, t2, hTb2, by omega⟩, hE⟩ (by repeat (first | exact sub_nil | refine sub_cons rfl ?_))
        · refine wc_exit ?_
          refine nx_then_exit ?_
          refine nx_then_exit ?_
          refine nx_block_exit ?_
          refine nx_then ?_
          refine wc_seq ?_
          have hE0 := hE
          refine wc_region ?_
          refine wl_val hW rfl rfl (x_move rfl) ?_
          refine wl_call hW rfl rfl (x_call en30 rfl) ((hTb.all (by omega)).inF hFF) ?_
          rintro r1 wC ⟨hRall, hxC⟩
          have hTb1 := hTb.ext hxC
          replace hE := hE.trans hxC
          refine wl_val hW rfl rfl (x_move rfl) ?_
          refine wl_call hW rfl rfl (x_call en23 rfl) ((C23r (hRall.mono fun k hk _ => hk) hTb.right).inF hFF) ?_
          have hxA := hxC
          rintro _ w1 ⟨⟨sv, rfl, hRs⟩, hxC⟩
          replace hE := hE.trans hxC
          replace hTb1 := hTb1.ext hxC
          replace hE0 := hE
          replace hE : Ext w1 w1 := Keep.refl _ _
          obtain ⟨asl, cs, rfl, -, hsl⟩ := hRs.form
          have hsl2 := seenL_le up t.E
          have hEl := t.El
          refine wl_val hW rfl rfl (x_move rfl) ?_
          refine wl_val hW rfl rfl (x_extract rfl rfl) ?_
          refine wl_val hW rfl rfl (x_extract rfl rfl) ?_
          refine wl_val hW rfl rfl (x_assign rfl) ?_
          refine wl_val hW rfl rfl (x_assign rfl) ?_
          refine wl_nil ?_
          refine nx_then ?_
          refine wc_seq ?_
          refine wc_seq ?_
          refine wc_region ?_
          refine wl_val hW rfl rfl (x_move rfl) ?_
          refine wl_val hW rfl rfl (x_neqF rfl rfl rfl) ?_
          refine wl_nil ?_
          refine nx_then ?_
          refine wc_false rfl ?_
          refine wc_skip ?_
          refine nx_then ?_
          refine wc_seq ?_
          refine wc_region ?_
          refine wl_val hW rfl rfl (x_assign rfl) ?_
          refine wl_nil ?_
          refine nx_then ?_
          refine wc_seq ?_
          refine wc_seq ?_
          refine wc_region ?_
          refine wl_val hW rfl rfl (x_assign rfl) ?_
          refine wl_nil ?_
          refine nx_then ?_
          refine wc_block ?_
          refine wc_loop (σ := Nat) (fun s => [(1, .slice ad es.length cap), (2, .int .u64 up), (7, .pointer (some ⟨bt, 0, none⟩)), (9, .slice asl (seenL up t.E).length cs), (11, .int .i64 (s : Nat)), (12, .int .i64 (s : Nat))]) (fun s w' => s ≤ es.length ∧ Ext w1 w') (fun s => es.length - s) 0 ?_ ?_ ?_
          · exact ⟨Nat.zero_le _, hE⟩
          · repeat (first | exact sub_nil | refine sub_cons rfl ?_)
          · rintro s2 w2 ⟨hs2, hE⟩
            refine wc_seq ?_
            refine wc_seq ?_
            refine wc_region ?_
            refine wl_val hW rfl rfl (x_move rfl) ?_
            refine wl_val hW rfl rfl (x_move rfl) ?_
            refine wl_val hW rfl rfl (x_len Try.underlying26 rfl) ?_
            refine wl_val hW rfl rfl (x_lss rfl rfl) ?_
            refine wl_nil ?_
            refine nx_then ?_
            refine wc_dec rfl (fun hc => ?_) (fun hc => ?_)
            · refine wc_skip ?_
              refine nx_then ?_
              refine wc_seq ?_
              refine wc_block ?_
              refine wc_seq ?_
              refine wc_region ?_
              have hlt2 : s2 < es.length := by omega
              obtain ⟨b, o, cap', bv, e1, hA, hC61, hb1, hok1⟩ := (hl.ext (hE0.trans hE)).at s2 hlt2
              cases e1
              refine wl_val hW rfl rfl (x_move rfl) ?_
              refine wl_val hW rfl rfl (x_move rfl) ?_
              refine wl_val hW rfl rfl (x_move rfl) ?_
              refine wl_val hW rfl rfl (x_indexAddr Try.underlying26 ag25.siz rfl rfl (by omega) (by omega)) ?_
              refine wl_val hW rfl rfl (x_fieldAddr Try.underlying25 rfl fl9.siz rfl) ?_
              refine wl_val hW rfl rfl (x_load fl9 rfl (hC61 0 _ rfl)) ?_
              refine wl_val hW rfl rfl (x_move rfl) ?_
              refine wl_call hW rfl rfl (x_call en36 rfl) (((hTb1.ext hE).get (by omega)).inF hFF) ?_
              rintro _ wC ⟨⟨bvA, rfl, hFA⟩, hxC⟩
              have honeA := cells_one (e := gotE t.E es[s2].k up) (bv := bvA) (by obtain ⟨a, c, rfl⟩ := hFA.form; rfl)
              replace hE := hE.trans hxC
              refine wl_val hW rfl rfl (x_move rfl) ?_
              refine wl_val hW rfl rfl (x_extract rfl rfl) ?_
              refine wl_val hW rfl rfl (x_extract rfl rfl) ?_
              refine wl_alloc (cs := [.string ⟨#[]⟩, .int .u64 0, .bool false, .slice none 0 0]) hW rfl rfl Try.zeroValue25 rfl ?_
              intro b13 w13 hl13 hB13 hx13
              have g13 : w1.heap.size ≤ b13 := Nat.le_trans hE.size hl13
              replace hE := hE.trans hx13
              refine wl_storeA hW rfl ag25 rfl rfl honeA rfl hB13 rfl ?_
              intro wS hBS hkS
              replace hFA := (hFA.ext hx13).keep hkS (fun b hb => (hFA.ext hx13).ne hb hB13 (by decide))
              replace hB13 := hBS
              clear hBS
              replace hE := hE.store hkS g13
              refine wl_val hW rfl rfl (x_assign rfl) ?_
              refine wl_nil ?_
              refine nx_then ?_
              refine wc_seq ?_
              refine wc_region ?_
              refine wl_val hW rfl rfl (x_assign rfl) ?_
              refine wl_nil ?_
              refine nx_then ?_
              refine wc_seq ?_
              refine wc_block ?_
              have hE3 : Ext wS wS := Keep.refl _ _
              refine wc_loop (σ := Nat) (fun k => [(1, .slice (some ⟨b, o, none⟩) es.length cap), (2, .int .u64 up), (7, .pointer (some ⟨bt, 0, none⟩)), (9, .slice asl (seenL up t.E).length cs), (11, .int .i64 (s2 : Nat)), (12, .int .i64 (s2 : Nat)), (13, .pointer (some ⟨b13, 0, none⟩)), (14, .bool (newF t.E es[s2].k up).isSome), (15, .int .i64 (k : Nat))]) (fun k w' => (k ≤ (seenL up t.E).length ∧ ∀ (j : Nat) (h : j < (seenL up t.E).length), j < k → (seenL up t.E)[j].k ≠ es[s2].k) ∧ Ext wS w') (fun k => (seenL up t.E).length - k) 0 ?_ ?_ ?_
              · exact ⟨⟨Nat.zero_le _, fun j _ h => absurd h (Nat.not_lt_zero _)⟩, hE3⟩
              · repeat (first | exact sub_nil | refine sub_cons rfl ?_)
              · rintro k w3 ⟨⟨hk, hno⟩, hE3⟩
                refine wc_seq ?_
                refine wc_seq ?_
                have hB13s := hB13
                refine wc_cutE (σ := Bool) (fun u => [(1, .slice (some ⟨b, o, none⟩) es.length cap), (2, .int .u64 up), (7, .pointer (some ⟨bt, 0, none⟩)), (9, .slice asl (seenL up t.E).length cs), (11, .int .i64 (s2 : Nat)), (12, .int .i64 (s2 : Nat)), (13, .pointer (some ⟨b13, 0, none⟩)), (14, .bool (newF t.E es[s2].k up).isSome), (15, .int .i64 (k : Nat)), (84, .bool u)]) (fun u w' => Ext wS w' ∧ (u = true → ∃ h : k < (seenL up t.E).length, (seenL up t.E)[k].k ≠ es[s2].k) ∧ (u = false → ∀ h : k < (seenL up t.E).length, (seenL up t.E)[k].k = es[s2].k)) ?_ ?_
                · refine wc_draw' 15 hW mixed (by kernel_rfl) (fun w0 hx0 => ?_)
                  replace hE3 := hE3.trans hx0
                  refine q_val rfl rfl (fun _ hx => x_move rfl) ?_
                  refine q_val rfl rfl (fun _ hx => x_move rfl) ?_
                  refine q_val rfl rfl (fun _ hx => x_len Try.underlying26 rfl) ?_
                  refine q_val rfl rfl (fun _ hx => x_lss rfl rfl) ?_
                  refine q_val rfl rfl (fun _ hx => x_move rfl) ?_
                  refine q_dcases (d := 72) rfl (fun hg72 => ?_) (fun hg72 => ?_)
                  · have hkl : k < (seenL up t.E).length := by omega
                    obtain ⟨b', o', cap', bv', e1, -, hC75, -, -⟩ := (hRs.ext (hE.trans hE3)).at k hkl
                    cases e1
                    obtain ⟨b2, o2, cap2, bv2, e2, -, hC80, -, -⟩ := (hl.ext (hE0.trans (hE.trans hE3))).at s2 hlt2
                    cases e2
                    refine q_val rfl rfl (fun _ hx => x_move rfl) ?_
                    refine q_val rfl rfl (fun _ hx => x_move rfl) ?_
                    refine q_val rfl rfl (fun _ hx => x_indexAddr Try.underlying26 ag25.siz rfl rfl (by omega) (by omega)) ?_
                    refine q_val rfl rfl (fun _ hx => x_fieldAddr Try.underlying25 rfl fl9.siz rfl) ?_
                    refine q_val rfl rfl (fun _ hx => x_load fl9 rfl (hx.cell (hC75 0 _ rfl))) ?_
                    refine q_val rfl rfl (fun _ hx => x_move rfl) ?_
                    refine q_val rfl rfl (fun _ hx => x_move rfl) ?_
                    refine q_val rfl rfl (fun _ hx => x_indexAddr Try.underlying26 ag25.siz rfl rfl (by omega) (by omega)) ?_
                    refine q_val rfl rfl (fun _ hx => x_fieldAddr Try.underlying25 rfl fl9.siz rfl) ?_
                    refine q_val rfl rfl (fun _ hx => x_load fl9 rfl (hx.cell (hC80 0 _ rfl))) ?_
                    refine q_nil (tail0 (fun wt hxt => ?_))
                    replace hE3 := hE3.trans hxt
                    refine wl_val hW rfl rfl (x_sneq rfl rfl) ?_
                    refine wl_val hW rfl rfl (x_pickT rfl rfl) ?_
                    refine wl_nil ?_
                    exact nx_cutE (!((seenL up t.E)[k].k.toList == es[s2].k.toList)) (by repeat (first | exact sub_nil | refine sub_cons rfl ?_)) ⟨hE3, fun h => ⟨hkl, fun e => by rw [e] at h; simp at h⟩, fun h _ => ba_ext (by simpa using h)⟩
                  · refine q_off rfl rfl ?_
                    refine q_off rfl rfl ?_
                    refine q_off rfl rfl ?_
                    refine q_off rfl rfl ?_
                    refine q_off rfl rfl ?_
                    refine q_off rfl rfl ?_
                    refine q_off rfl rfl ?_
                    refine q_off rfl rfl ?_
                    refine q_off rfl rfl ?_
                    refine q_off rfl rfl ?_
                    refine q_nil (tail0 (fun wt hxt => ?_))
                    replace hE3 := hE3.trans hxt
                    refine wl_off hW rfl rfl ?_
                    refine wl_val hW rfl rfl (x_pickF rfl rfl) ?_
                    refine wl_nil ?_
                    exact nx_cutE false (by repeat (first | exact sub_nil | refine sub_cons rfl ?_)) ⟨hE3, fun h => (by cases h), fun _ h => by omega⟩
                · rintro u w' ⟨hE3, hu1, hu2⟩
                  refine nx_then ?_
                  refine wc_bool rfl (fun hc => ?_) (fun hc => ?_)
                  · refine wc_skip ?_
                    refine nx_then ?_
                    refine wc_block ?_
                    refine wc_region ?_
                    refine wl_val hW rfl rfl (x_move rfl) ?_
                    refine wl_val hW rfl rfl (x_inc (s := k) rfl (by have := (hu1 hc).1; omega)) ?_
                    refine wl_val hW rfl rfl (x_assign rfl) ?_
                    refine wl_nil ?_
                    refine nx_block ?_
                    exact nx_next (k + 1) (by have := (hu1 hc).1; omega) ⟨⟨(hu1 hc).1, fun j h hj => by rcases Nat.lt_succ_iff_lt_or_eq.1 hj with hj | rfl; exact hno j h hj; exact (hu1 hc).2⟩, hE3⟩ (by repeat (first | exact sub_nil | refine sub_cons rfl ?_))
                  · refine wc_exit ?_
                    refine nx_then_exit ?_
                    refine nx_then_exit ?_
                    refine nx_block_exit ?_
                    refine nx_then ?_
                    refine wc_seq ?_
                    refine wc_seq ?_
                    have hgs := got_seen (up := up) hTb1.sorted hk hno (hu2 hc)
                    replace hB13 := hB13s.ext hE3
                    replace hFA := hFA.ext hE3
                    replace hE := hE.trans hE3
                    refine wc_cut [(1, .slice (some ⟨b, o, none⟩) es.length cap), (2, .int .u64 up), (7, .pointer (some ⟨bt, 0, none⟩)), (9, .slice asl (seenL up t.E).length cs), (11, .int .i64 (s2 : Nat)), (12, .int .i64 (s2 : Nat)), (112, .bool false)] (fun w' => Ext w1 w') ?_ ?_
                    · refine wc_draw' 22 hW mixed (by kernel_rfl) (fun w0 hx0 => ?_)
                      replace hB13 := hB13.ext hx0
                      replace hE := hE.trans hx0
                      replace hFA := hFA.ext hx0
                      have hRs0 := hRs.ext hE
                      refine q_val rfl rfl (fun _ hx => x_move rfl) ?_
                      refine q_val rfl rfl (fun _ hx => x_move rfl) ?_
                      refine q_bcases (d := 88) rfl (fun hg88 => ?_) (fun hg88 => ?_)
                      · refine q_val rfl rfl (fun _ hx => x_fieldAddr Try.underlying25 rfl fl4.siz rfl) ?_
                        refine q_val rfl rfl (fun _ hx => x_load fl4 rfl (hx.cell (hB13.cell (o := 2) rfl))) ?_
                        refine q_val rfl rfl (fun _ hx => x_not rfl) ?_
                        refine q_val rfl rfl (fun _ hx => x_pickT rfl rfl) ?_
                        refine q_val rfl rfl (fun _ hx => x_move rfl) ?_
                        refine q_val rfl rfl (fun _ hx => x_move rfl) ?_
                        refine q_val rfl rfl (fun _ hx => x_len Try.underlying26 rfl) ?_
                        refine q_val rfl rfl (fun _ hx => x_lss rfl rfl) ?_
                        refine q_val rfl rfl (fun _ hx => x_bneqR rfl rfl Try.underlying4 (by rw [← hgs.1, hg88]; rfl)) ?_
                        refine q_val rfl rfl (fun _ hx => x_move rfl) ?_
                        refine q_val rfl rfl (fun _ hx => x_move rfl) ?_
                        refine q_val rfl rfl (fun _ hx => x_move rfl) ?_
                        refine q_val rfl rfl (fun _ hx => x_len Try.underlying26 rfl) ?_
                        refine q_val rfl rfl (fun _ hx => x_lss rfl rfl) ?_
                        refine q_val rfl rfl (fun _ hx => x_move rfl) ?_
                        refine q_dcases (d := 103) rfl (fun hg103 => ?_) (fun hg103 => ?_)
                        · have hkl : k < (seenL up t.E).length := by omega
                          obtain ⟨b', o', cap', bv', e1, -, hC107, hbS, -⟩ := hRs0.at k hkl
                          cases e1
                          refine q_val rfl rfl (fun _ hx => x_loadA ag25 rfl (hB13.ext hx).cells rfl) ?_
                          refine q_val rfl rfl (fun _ hx => x_move rfl) ?_
                          refine q_val rfl rfl (fun _ hx => x_move rfl) ?_
                          refine q_val rfl rfl (fun _ hx => x_indexAddr Try.underlying26 ag25.siz rfl rfl (by omega) (by omega)) ?_
                          refine q_val rfl rfl (fun _ hx => x_loadA ag25 rfl (hC107.ext hx) rfl) ?_
                          refine q_nil (tail0 (fun wt hxt => ?_))
                          replace hB13 := hB13.ext hxt
                          replace hE := hE.trans hxt
                          refine wl_call hW rfl rfl (x_call en38 rfl) ((C38r (A := fun _ => True) ((hFA.ext hxt).byts.mono fun _ _ _ => trivial) (hbS.ext hxt) (hgs.2 hkl)).inF hFF) ?_
                          rintro _ wC ⟨rfl, hxC⟩
                          replace hB13 := hB13.ext hxC
                          replace hE := hE.trans hxC
                          refine wl_val hW rfl rfl (x_not rfl) ?_
                          refine wl_val hW rfl rfl (x_pickT rfl rfl) ?_
                          refine wl_val hW rfl rfl (x_pickF rfl rfl) ?_
                          refine wl_nil ?_
                          exact nx_cut (by repeat (first | exact sub_nil | refine sub_cons rfl ?_)) hE
                        · refine q_off rfl rfl ?_
                          refine q_off rfl rfl ?_
                          refine q_off rfl rfl ?_
                          refine q_off rfl rfl ?_
                          refine q_off rfl rfl ?_
                          refine q_nil (tail0 (fun wt hxt => ?_))
                          replace hB13 := hB13.ext hxt
                          replace hE := hE.trans hxt
                          refine wl_off hW rfl rfl ?_
                          refine wl_off hW rfl rfl ?_
                          refine wl_val hW rfl rfl (x_pickF rfl rfl) ?_
                          refine wl_val hW rfl rfl (x_pickF rfl rfl) ?_
                          refine wl_nil ?_
                          exact nx_cut (by repeat (first | exact sub_nil | refine sub_cons rfl ?_)) hE
                      · refine q_off rfl rfl ?_
                        refine q_off rfl rfl ?_
                        refine q_off rfl rfl ?_
                        refine q_val rfl rfl (fun _ hx => x_pickF rfl rfl) ?_
                        refine q_val rfl rfl (fun _ hx => x_move rfl) ?_
                        refine q_val rfl rfl (fun _ hx => x_move rfl) ?_
                        refine q_val rfl rfl (fun _ hx => x_len Try.underlying26 rfl) ?_
                        refine q_val rfl rfl (fun _ hx => x_lss rfl rfl) ?_
                        refine q_val rfl rfl (fun _ hx => x_bneqR rfl rfl Try.underlying4 (by rw [← hgs.1, hg88]; rfl)) ?_
                        refine q_val rfl rfl (fun _ hx => x_move rfl) ?_
                        refine q_val rfl rfl (fun _ hx => x_move rfl) ?_
                        refine q_val rfl rfl (fun _ hx => x_move rfl) ?_
                        refine q_val rfl rfl (fun _ hx => x_len Try.underlying26 rfl) ?_
                        refine q_val rfl rfl (fun _ hx => x_lss rfl rfl) ?_
                        refine q_val rfl rfl (fun _ hx => x_move rfl) ?_
                        refine q_dcases (d := 103) rfl (fun hg103 => ?_) (fun hg103 => ?_)
                        · exfalso
                          have h1 := hgs.1
                          rw [hg88, Bool.false_and, decide_eq_true hg103] at h1
                          cases h1
                        · refine q_off rfl rfl ?_
                          refine q_off rfl rfl ?_
                          refine q_off rfl rfl ?_
                          refine q_off rfl rfl ?_
                          refine q_off rfl rfl ?_
                          refine q_nil (tail0 (fun wt hxt => ?_))
                          replace hB13 := hB13.ext hxt
                          replace hE := hE.trans hxt
                          refine wl_off hW rfl rfl ?_
                          refine wl_off hW rfl rfl ?_
                          refine wl_val hW rfl rfl (x_pickF rfl rfl) ?_
                          refine wl_val hW rfl rfl (x_pickF rfl rfl) ?_
                          refine wl_nil ?_
                          exact nx_cut (by repeat (first | exact sub_nil | refine sub_cons rfl ?_)) hE
                    · rintro w' hE
                      refine nx_then ?_
                      refine wc_false rfl ?_
                      refine wc_skip ?_
                      refine nx_then ?_
                      refine wc_region ?_
                      refine wl_val hW rfl rfl (x_move rfl) ?_
                      refine wl_val hW rfl rfl (x_inc (s := s2) rfl (by omega)) ?_
                      refine wl_val hW rfl rfl (x_assign rfl) ?_
                      refine wl_nil ?_
                      refine nx_block ?_
                      refine nx_then ?_
                      refine wc_region ?_
                      refine wl_val hW rfl rfl (x_move rfl) ?_
                      refine wl_val hW rfl rfl (x_inc (s := s2) rfl (by omega)) ?_
                      refine wl_val hW rfl rfl (x_assign rfl) ?_
                      refine wl_nil ?_
                      exact nx_next (s2 + 1) (by omega) ⟨hlt2, hE⟩ (by repeat (first | exact sub_nil | refine sub_cons rfl ?_))
            · refine wc_exit ?_
              refine nx_then_exit ?_
              refine nx_then_exit ?_
              refine nx_block_exit ?_
              refine nx_then ?_
              refine wc_seq ?_
              refine wc_region ?_
              have hend : s2 = es.length := by omega
              refine wl_val hW rfl rfl (x_move rfl) ?_
              refine wl_val hW rfl rfl (x_move rfl) ?_
              refine wl_val hW rfl rfl (x_len Try.underlying26 rfl) ?_
              refine wl_val hW rfl rfl (x_eqlT rfl rfl (by rw [hend])) ?_
              refine wl_val hW rfl rfl (x_assign rfl) ?_
              refine wl_nil ?_
              refine nx_then ?_
              refine wc_ret ?_
              exact ends_ret (res_tmp Try.results8 rfl) ⟨rfl, hE0.trans hE⟩
end Go.Proofs.Ytblbddamebbgaaa.K

