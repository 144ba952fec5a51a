/- Walk: what MasterOwn asks. -/
import Derived.Test.YtiaikajibefieaaTt
namespace Go.Proofs.Ytiaikajibefieaa.K
open Go Go.RowKit
set_option linter.unusedVariables false
set_option linter.unusedSimpArgs false
theorem C4 {A A2 : Nat → Prop} {w : World} {e : Int} {a1 a2 : Option Addr} {n1 n2 c1 c2 : Nat} {x : Cm} (hF : fewB n1 n2 = true → ∃ ms zs, n1 = ms.length ∧ n2 = zs.length ∧ MRow A w (.slice a1 n1 c1) ms ∧ IRow A2 w (.slice a2 n2 c2) zs) :
    Rt Try.prog 4 [.agg #[.int .i64 e, .slice a1 n1 c1, .slice a2 n2 c2], .agg (cellsC x).toArray] w fun r w' => r = .bool true ∧ Ext w w' := by
  have hW := hWw
  have hFF := hFw
  have hE : Ext w w := Keep.refl _ _
  refine rt_body Try.func4 rfl Try.ntmps4 rfl ?_
  refine wc_seq ?_
  refine wc_region ?_
  refine wl_box hW rfl rfl rfl rfl ?_
  intro b2 w2 hl2 hB2 hx2
  have g2 : w.heap.size ≤ b2 := Nat.le_trans hE.size hl2
  replace hE := hE.trans hx2
  refine wl_box hW rfl rfl rfl rfl ?_
  intro b3 w3 hl3 hB3 hx3
  have g3 : w.heap.size ≤ b3 := Nat.le_trans hE.size hl3
  have n3_2 : b3 ≠ b2 := Nat.ne_of_gt (Nat.lt_of_lt_of_le hB2.lt hl3)
  replace hB2 := hB2.ext hx3
  replace hE := hE.trans hx3
  refine wl_val hW rfl rfl (x_assign rfl) ?_
  refine wl_nil ?_
  refine nx_then ?_
  refine wc_seq ?_
  refine wc_seq ?_
  refine wc_region ?_
  refine wl_call hW rfl rfl (x_call en7 rfl) ((C7).inF hFF) ?_
  rintro _ wC ⟨rfl, hxC⟩
  replace hB2 := hB2.ext hxC
  replace hB3 := hB3.ext hxC
  replace hE := hE.trans hxC
  refine wl_val hW rfl rfl (x_not rfl) ?_
  refine wl_nil ?_
  refine nx_then ?_
  refine wc_false rfl ?_
  refine wc_skip ?_
  refine nx_then ?_
  refine wc_seq ?_
  refine wc_seq ?_
  refine wc_region ?_
  refine wl_val hW rfl rfl (x_loadA ag27 rfl hB2.cells rfl) ?_
  refine wl_call hW rfl rfl (x_call en11 rfl) ((C11).inF hFF) ?_
  rintro _ wC ⟨rfl, hxC⟩
  replace hB2 := hB2.ext hxC
  replace hB3 := hB3.ext hxC
  replace hE := hE.trans hxC
  refine wl_val hW rfl rfl (x_not rfl) ?_
  refine wl_nil ?_
  refine nx_then ?_
  refine wc_bool rfl (fun hc => ?_) (fun hc => ?_)
  · refine wc_seq ?_
    refine wc_region ?_
    refine wl_val hW rfl rfl (x_assign rfl) ?_
    refine wl_nil ?_
    refine nx_then ?_
    refine wc_ret ?_
    refine nx_then_ret ?_
    exact ends_ret (res_tmp Try.results4 rfl) ⟨rfl, hE⟩
  · have hfw : fewB n1 n2 = true := by simpa using hc
    obtain ⟨ms, zs, rfl, rfl, hR, hI⟩ := hF hfw
    obtain ⟨_, _, -, -, hl1⟩ := hR.form
    obtain ⟨_, _, -, -, hl2⟩ := hI.form
    refine wc_skip ?_
    refine nx_then ?_
    refine wc_seq ?_
    refine wc_region ?_
    refine wl_val hW rfl rfl (x_loadA ag27 rfl hB2.cells rfl) ?_
    refine wl_call hW rfl rfl (x_call en12 rfl) ((C12 (hR.ext hE) (hI.ext hE)).inF hFF) ?_
    have hsz := hE.size
    rintro _ wC ⟨⟨cv5, sv5, rfl, hM5, hZ5⟩, hxC⟩
    replace hM5 : MOwn w.heap.size wC cv5 ms := hM5.rebase fun b hb => Nat.le_trans hsz (hM5.ge hb)
    replace hZ5 : IOwn w.heap.size wC sv5 zs := hZ5.rebase fun b hb => Nat.le_trans hsz (hZ5.ge hb)
    obtain ⟨ma5, mc5, rfl, -⟩ := hM5.form
    obtain ⟨za5, zc5, rfl, -⟩ := hZ5.form
    replace hB2 := hB2.ext hxC
    replace hB3 := hB3.ext hxC
    replace hE := hE.trans hxC
    refine wl_alloc (cs := [.int .i64 0, .slice none 0 0, .slice none 0 0]) hW rfl rfl Try.zeroValue27 rfl ?_
    intro b5 w5 hl5 hB5 hx5
    have g5 : w.heap.size ≤ b5 := Nat.le_trans hE.size hl5
    have n5_2 : b5 ≠ b2 := Nat.ne_of_gt (Nat.lt_of_lt_of_le hB2.lt hl5)
    replace hM5 := hM5.ext hx5
    replace hZ5 := hZ5.ext hx5
    replace hB2 := hB2.ext hx5
    have n5_3 : b5 ≠ b3 := Nat.ne_of_gt (Nat.lt_of_lt_of_le hB3.lt hl5)
    replace hB3 := hB3.ext hx5
    replace hE := hE.trans hx5
    refine wl_storeA hW rfl ag27 rfl rfl rfl rfl hB5 rfl ?_
    intro wS1 hBS hkS
    replace hM5 := hM5.keep hkS (fun b hb => hM5.ne hb hB5 (by decide))
    replace hZ5 := hZ5.keep hkS (fun b hb => hZ5.ne hb hB5 (by decide))
    replace hB2 := hB2.keep hkS n5_2.symm
    replace hB3 := hB3.keep hkS n5_3.symm
    replace hB5 := hBS
    clear hBS
    replace hE := hE.store hkS g5
    refine wl_nil ?_
    refine nx_then ?_
    refine wc_seq ?_
    refine wc_region ?_
    refine wl_val hW rfl rfl (x_loadA ag27 rfl hB5.cells rfl) ?_
    refine wl_val hW rfl rfl (x_loadA ag32 rfl hB3.cells rfl) ?_
    refine wl_call hW rfl rfl (x_call en8 rfl) ((C8 (x := x) (hM5.row cellsM_len hl1) (hZ5.row cellsI_len hl2)).inF hFF) ?_
    have hsz1 : w.heap.size ≤ wS1.heap.size := hE.size
    rintro _ wD ⟨⟨cv6, sv6, rfl, hM6, hZ6⟩, hxC⟩
    have hlt5 : ∀ b, (Value.slice ma5 ms.length mc5).ownBlock = some b → b < wS1.heap.size := fun b hb => hM5.lt hb
    replace hM5 := hM5.ext hxC
    replace hZ5 := hZ5.ext hxC
    have hdl := (doF_len e ms zs x).1
    obtain ⟨d, hdd⟩ : ∃ d, d = doF e ms zs x := ⟨_, rfl⟩
    rw [← hdd] at hM6 hZ6 hdl
    rw [← hdd]
    obtain ⟨ma6, mc6, rfl, -⟩ := hM6.form
    obtain ⟨za6, zc6, rfl, -⟩ := hZ6.form
    replace hB2 := hB2.ext hxC
    replace hB3 := hB3.ext hxC
    replace hB5 := hB5.ext hxC
    replace hE := hE.trans hxC
    refine wl_val hW rfl rfl (x_move rfl) ?_
    refine wl_val hW rfl rfl (x_extract rfl rfl) ?_
    refine wl_val hW rfl rfl (x_extract rfl rfl) ?_
    refine wl_alloc (cs := [.int .i64 0, .slice none 0 0, .slice none 0 0]) hW rfl rfl Try.zeroValue27 rfl ?_
    intro b6 w6 hl6 hB6 hx6
    have g6 : w.heap.size ≤ b6 := Nat.le_trans hE.size hl6
    replace hM5 := hM5.ext hx6
    replace hZ5 := hZ5.ext hx6
    replace hM6 := hM6.ext hx6
    have n6_2 : b6 ≠ b2 := Nat.ne_of_gt (Nat.lt_of_lt_of_le hB2.lt hl6)
    replace hB2 := hB2.ext hx6
    have n6_3 : b6 ≠ b3 := Nat.ne_of_gt (Nat.lt_of_lt_of_le hB3.lt hl6)
    replace hB3 := hB3.ext hx6
    have n6_5 : b6 ≠ b5 := Nat.ne_of_gt (Nat.lt_of_lt_of_le hB5.lt hl6)
    replace hB5 := hB5.ext hx6
    replace hE := hE.trans hx6
    refine wl_storeA hW rfl ag27 rfl rfl rfl rfl hB6 rfl ?_
    intro wS2 hBS hkS
    replace hM5 := hM5.keep hkS (fun b hb => hM5.ne hb hB6 (by decide))
    replace hZ5 := hZ5.keep hkS (fun b hb => hZ5.ne hb hB6 (by decide))
    replace hM6 := hM6.keep hkS (fun b hb => hM6.ne hb hB6 (by decide))
    replace hB2 := hB2.keep hkS n6_2.symm
    replace hB3 := hB3.keep hkS n6_3.symm
    replace hB5 := hB5.keep hkS n6_5.symm
    replace hB6 := hBS
    clear hBS
    replace hE := hE.store hkS g6
    refine wl_val hW rfl rfl (x_assign rfl) ?_
    refine wl_nil ?_
    refine nx_then ?_
    refine wc_seq ?_
    refine wc_region ?_
    refine wl_val hW rfl rfl (x_loadA ag27 rfl hB5.cells rfl) ?_
    refine wl_val hW rfl rfl (x_loadA ag32 rfl hB3.cells rfl) ?_
    refine wl_buildSlice (parts := [(0, .tmp 26)]) hW rfl rfl Try.underlying22 ag32.siz Try.zeroValue32 rfl rfl rfl (by omega) ?_
    intro b27 w27 hl27 hB27 hx27
    have g27 : w.heap.size ≤ b27 := Nat.le_trans hE.size hl27
    replace hM5 := hM5.ext hx27
    replace hZ5 := hZ5.ext hx27
    replace hM6 := hM6.ext hx27
    have n27_2 : b27 ≠ b2 := Nat.ne_of_gt (Nat.lt_of_lt_of_le hB2.lt hl27)
    replace hB2 := hB2.ext hx27
    have n27_3 : b27 ≠ b3 := Nat.ne_of_gt (Nat.lt_of_lt_of_le hB3.lt hl27)
    replace hB3 := hB3.ext hx27
    have n27_5 : b27 ≠ b5 := Nat.ne_of_gt (Nat.lt_of_lt_of_le hB5.lt hl27)
    replace hB5 := hB5.ext hx27
    have n27_6 : b27 ≠ b6 := Nat.ne_of_gt (Nat.lt_of_lt_of_le hB6.lt hl27)
    replace hB6 := hB6.ext hx27
    replace hE := hE.trans hx27
    refine wl_call hW rfl rfl (x_call en13 rfl) ((C13 (l := [x]) (hM5.row cellsM_len hl1) (hZ5.row cellsI_len hl2) (grow_blk cellsC_len hB27 rfl rfl (Nat.le_refl _) (show (1 : Nat) ≤ 1099511627776 from by decide))).inF hFF) ?_
    have hsz2 : w.heap.size ≤ w27.heap.size := hE.size
    rintro _ wE ⟨⟨cv8, sv8, rfl, hM8, hZ8⟩, hxC⟩
    have hlt6 : ∀ b, (Value.slice ma6 d.2.2.1.length mc6).ownBlock = some b → b < w27.heap.size := fun b hb => hM6.lt hb
    have hlt5' : ∀ b, (Value.slice ma5 ms.length mc5).ownBlock = some b → b < w27.heap.size := fun b hb => hM5.lt hb
    have hltz5 : ∀ b, (Value.slice za5 zs.length zc5).ownBlock = some b → b < w27.heap.size := fun b hb => hZ5.lt hb
    replace hM5 := hM5.ext hxC
    replace hZ5 := hZ5.ext hxC
    replace hM6 := hM6.ext hxC
    obtain ⟨hfl1, hfl2⟩ := run1_len (e := e) x hl1 hl2
    obtain ⟨f, hff⟩ : ∃ f, f = runF (e, ms, zs) [x] := ⟨_, rfl⟩
    rw [← hff] at hM8 hZ8 hfl1 hfl2
    rw [← hff]
    obtain ⟨ma8, mc8, rfl, -⟩ := hM8.form
    obtain ⟨za8, zc8, rfl, -⟩ := hZ8.form
    replace hB2 := hB2.ext hxC
    replace hB3 := hB3.ext hxC
    replace hB5 := hB5.ext hxC
    replace hB6 := hB6.ext hxC
    replace hB27 := hB27.ext hxC
    replace hE := hE.trans hxC
    refine wl_alloc (cs := [.int .i64 0, .slice none 0 0, .slice none 0 0]) hW rfl rfl Try.zeroValue27 rfl ?_
    intro b8 w8 hl8 hB8 hx8
    have g8 : w.heap.size ≤ b8 := Nat.le_trans hE.size hl8
    replace hM5 := hM5.ext hx8
    replace hZ5 := hZ5.ext hx8
    replace hM6 := hM6.ext hx8
    replace hM8 := hM8.ext hx8
    replace hZ8 := hZ8.ext hx8
    have n8_2 : b8 ≠ b2 := Nat.ne_of_gt (Nat.lt_of_lt_of_le hB2.lt hl8)
    replace hB2 := hB2.ext hx8
    have n8_3 : b8 ≠ b3 := Nat.ne_of_gt (Nat.lt_of_lt_of_le hB3.lt hl8)
    replace hB3 := hB3.ext hx8
    have n8_5 : b8 ≠ b5 := Nat.ne_of_gt (Nat.lt_of_lt_of_le hB5.lt hl8)
    replace hB5 := hB5.ext hx8
    have n8_6 : b8 ≠ b6 := Nat.ne_of_gt (Nat.lt_of_lt_of_le hB6.lt hl8)
    replace hB6 := hB6.ext hx8
    have n8_27 : b8 ≠ b27 := Nat.ne_of_gt (Nat.lt_of_lt_of_le hB27.lt hl8)
    replace hB27 := hB27.ext hx8
    replace hE := hE.trans hx8
    refine wl_storeA hW rfl ag27 rfl rfl rfl rfl hB8 rfl ?_
    intro wS3 hBS hkS
    replace hM5 := hM5.keep hkS (fun b hb => hM5.ne hb hB8 (by decide))
    replace hZ5 := hZ5.keep hkS (fun b hb => hZ5.ne hb hB8 (by decide))
    replace hM6 := hM6.keep hkS (fun b hb => hM6.ne hb hB8 (by decide))
    replace hM8 := hM8.keep hkS (fun b hb => hM8.ne hb hB8 (by decide))
    replace hZ8 := hZ8.keep hkS (fun b hb => hZ8.ne hb hB8 (by decide))
    replace hB2 := hB2.keep hkS n8_2.symm
    replace hB3 := hB3.keep hkS n8_3.symm
    replace hB5 := hB5.keep hkS n8_5.symm
    replace hB6 := hB6.keep hkS n8_6.symm
    replace hB27 := hB27.keep hkS n8_27.symm
    replace hB8 := hBS
    clear hBS
    replace hE := hE.store hkS g8
    refine wl_nil ?_
    refine nx_then ?_
    refine wc_seq ?_
    refine wc_seq ?_
    refine wc_region ?_
    refine wl_val hW rfl rfl (x_assign rfl) ?_
    refine wl_nil ?_
    refine nx_then ?_
    refine wc_block ?_
    refine wc_loop (σ := Nat × List Mb) (fun s => [(2, .pointer (some ⟨b2, 0, none⟩)), (5, .pointer (some ⟨b5, 0, none⟩)), (6, .pointer (some ⟨b6, 0, none⟩)), (8, .pointer (some ⟨b8, 0, none⟩)), (9, .int .i64 (s.1 : Nat))]) (fun s w' => (s.1 ≤ d.2.2.1.length ∧ s.2.length = d.2.2.1.length ∧ MOwn wS1.heap.size w' (.slice ma6 d.2.2.1.length mc6) s.2) ∧ Keep (fun k => some k ≠ (Value.slice ma6 d.2.2.1.length mc6).ownBlock) wS3 w') (fun s => d.2.2.1.length - s.1) (0, d.2.2.1) ?_ ?_ ?_
    · exact ⟨⟨Nat.zero_le _, rfl, hM6⟩, Keep.refl _ _⟩
    · repeat (first | exact sub_nil | refine sub_cons rfl ?_)
    · rintro ⟨s, m1⟩ wr ⟨⟨hs, hl, hMr⟩, hK⟩
      replace hs : s ≤ d.2.2.1.length := hs
      replace hl : m1.length = d.2.2.1.length := hl
      replace hMr : MOwn wS1.heap.size wr (.slice ma6 d.2.2.1.length mc6) m1 := hMr
      replace hB6 := hB6.keep hK (hM6.off hB6 (by decide))
      refine wc_seq ?_
      refine wc_seq ?_
      refine wc_region ?_
      refine wl_val hW rfl rfl (x_move rfl) ?_
      refine wl_val hW rfl rfl (x_fieldAddr Try.underlying27 rfl fl24.siz rfl) ?_
      refine wl_val hW rfl rfl (x_load fl24 rfl (hB6.cell (o := 1) rfl)) ?_
      refine wl_val hW rfl rfl (x_len Try.underlying24 rfl) ?_
      refine wl_val hW rfl rfl (x_lss rfl rfl) ?_
      refine wl_nil ?_
      refine nx_then ?_
      refine wc_dec rfl (fun hc => ?_) (fun hc => ?_)
      · replace hc : ((s : Nat) : Int) < d.2.2.1.length := hc
        have hsl : s < m1.length := by omega
        obtain ⟨g, cs, e9, -, hBg, hblt, hbg, hset⟩ := MOwn.field hMr (m' := ⟨m1[s].n, 77, m1[s].w⟩) (j := 1) (v := .int .i64 77) hsl (by decide) rfl
        subst e9
        refine wc_skip ?_
        refine nx_then ?_
        refine wc_seq ?_
        refine wc_block ?_
        refine wc_region ?_
        refine wl_val hW rfl rfl (x_fieldAddr Try.underlying27 rfl fl24.siz rfl) ?_
        refine wl_val hW rfl rfl (x_load fl24 rfl (hB6.cell (o := 1) rfl)) ?_
        refine wl_val hW rfl rfl (x_move rfl) ?_
        refine wl_val hW rfl rfl (x_indexAddr Try.underlying24 ag35.siz rfl rfl (by omega) (by omega)) ?_
        refine wl_val hW rfl rfl (x_fieldAddr Try.underlying35 rfl fl3.siz rfl) ?_
        refine wl_store (o := s * 3 + 1) hW rfl fl3 (by show some (Value.pointer (some ⟨g, _, none⟩)) = _; rw [Int.toNat_natCast, Nat.zero_add]; rfl) rfl rfl hBg hblt ?_
        intro wS4 hBS hkS
        have hMn := hset _ hBS
        have hKn := hK.then hkS (fun k _ h e => h (by rw [e]; rfl))
        refine wl_nil ?_
        refine nx_block ?_
        refine nx_then ?_
        refine wc_region ?_
        refine wl_val hW rfl rfl (x_move rfl) ?_
        refine wl_val hW rfl rfl (x_inc (s := s) rfl (by omega)) ?_
        refine wl_val hW rfl rfl (x_assign rfl) ?_
        refine wl_nil ?_
        exact nx_next (s + 1, m1.set s ⟨m1[s].n, 77, m1[s].w⟩) (by dsimp only; omega) ⟨⟨by dsimp only; omega, by dsimp only; rw [List.length_set]; exact hl, hMn⟩, hKn⟩ (by repeat (first | exact sub_nil | refine sub_cons rfl ?_))
      · replace hB2 := hB2.keep hK (hM6.off hB2 (by decide))
        replace hB5 := hB5.keep hK (hM6.off hB5 (by decide))
        replace hB8 := hB8.keep hK (hM6.off hB8 (by decide))
        replace hM5 := hM5.keep hK (fun b hb e => by have h1 := hlt5 b hb; have h2 := hM6.ge e.symm; omega)
        replace hZ5 := hZ5.keep hK (own_apart hM6 hZ5)
        replace hM8 := hM8.keep hK (fun b hb e => by have h1 := hlt6 b e.symm; have h2 := hM8.ge hb; omega)
        replace hZ8 := hZ8.keep hK (own_apart hM6 hZ8)
        replace hE : Ext w wr := Keep.after hE hK (fun k hk e => by have := hM6.ge e.symm; omega)
        refine wc_exit ?_
        refine nx_then_exit ?_
        refine nx_then_exit ?_
        refine nx_block_exit ?_
        refine nx_then ?_
        refine wc_seq ?_
        refine wc_seq ?_
        refine wc_region ?_
        refine wl_val hW rfl rfl (x_assign rfl) ?_
        refine wl_nil ?_
        refine nx_then ?_
        refine wc_block ?_
        refine wc_loop (σ := Nat × List Int) (fun s => [(2, .pointer (some ⟨b2, 0, none⟩)), (5, .pointer (some ⟨b5, 0, none⟩)), (8, .pointer (some ⟨b8, 0, none⟩)), (10, .int .i64 (s.1 : Nat))]) (fun s w' => (s.1 ≤ f.2.2.length ∧ s.2.length = f.2.2.length ∧ IOwn w27.heap.size w' (.slice za8 f.2.2.length zc8) s.2) ∧ Keep (fun k => some k ≠ (Value.slice za8 f.2.2.length zc8).ownBlock) wr w') (fun s => f.2.2.length - s.1) (0, f.2.2) ?_ ?_ ?_
        · exact ⟨⟨Nat.zero_le _, rfl, hZ8⟩, Keep.refl _ _⟩
        · repeat (first | exact sub_nil | refine sub_cons rfl ?_)
        · rintro ⟨s2, z1⟩ wr2 ⟨⟨hs2, hl3, hZr⟩, hK2⟩
          replace hs2 : s2 ≤ f.2.2.length := hs2
          replace hl3 : z1.length = f.2.2.length := hl3
          replace hZr : IOwn w27.heap.size wr2 (.slice za8 f.2.2.length zc8) z1 := hZr
          replace hB8 := hB8.keep hK2 (hZ8.off hB8 (by decide))
          refine wc_seq ?_
          refine wc_seq ?_
          refine wc_region ?_
          refine wl_val hW rfl rfl (x_move rfl) ?_
          refine wl_val hW rfl rfl (x_fieldAddr Try.underlying27 rfl fl25.siz rfl) ?_
          refine wl_val hW rfl rfl (x_load fl25 rfl (hB8.cell (o := 2) rfl)) ?_
          refine wl_val hW rfl rfl (x_len Try.underlying25 rfl) ?_
          refine wl_val hW rfl rfl (x_lss rfl rfl) ?_
          refine wl_nil ?_
          refine nx_then ?_
          refine wc_dec rfl (fun hc => ?_) (fun hc => ?_)
          · replace hc : ((s2 : Nat) : Int) < f.2.2.length := hc
            have hsl : s2 < z1.length := by omega
            obtain ⟨g, cs, e9, -, hBg, hblt, hbg, hset⟩ := IOwn.field hZr (z := 77) hsl
            subst e9
            refine wc_skip ?_
            refine nx_then ?_
            refine wc_seq ?_
            refine wc_block ?_
            refine wc_region ?_
            refine wl_val hW rfl rfl (x_fieldAddr Try.underlying27 rfl fl25.siz rfl) ?_
            refine wl_val hW rfl rfl (x_load fl25 rfl (hB8.cell (o := 2) rfl)) ?_
            refine wl_val hW rfl rfl (x_move rfl) ?_
            refine wl_val hW rfl rfl (x_indexAddr Try.underlying25 fl3.siz rfl rfl (by omega) (by omega)) ?_
            refine wl_store (o := s2) hW rfl fl3 (by show some (Value.pointer (some ⟨g, _, none⟩)) = _; rw [Int.toNat_natCast, Nat.zero_add, Nat.mul_one]) rfl rfl hBg hblt ?_
            intro wS5 hBS hkS
            have hZn := hset _ hBS
            have hKn := hK2.then hkS (fun k _ h e => h (by rw [e]; rfl))
            refine wl_nil ?_
            refine nx_block ?_
            refine nx_then ?_
            refine wc_region ?_
            refine wl_val hW rfl rfl (x_move rfl) ?_
            refine wl_val hW rfl rfl (x_inc (s := s2) rfl (by omega)) ?_
            refine wl_val hW rfl rfl (x_assign rfl) ?_
            refine wl_nil ?_
            exact nx_next (s2 + 1, z1.set s2 77) (by dsimp only; omega) ⟨⟨by dsimp only; omega, by dsimp only; rw [List.length_set]; exact hl3, hZn⟩, hKn⟩ (by repeat (first | exact sub_nil | refine sub_cons rfl ?_))
          · replace hB2 := hB2.keep hK2 (hZ8.off hB2 (by decide))
            replace hB5 := hB5.keep hK2 (hZ8.off hB5 (by decide))
            replace hM5 := hM5.keep hK2 (own_apart' hM5 hZ8)
            replace hZ5 := hZ5.keep hK2 (fun b hb e => by have h1 := hltz5 b hb; have h2 := hZ8.ge e.symm; omega)
            replace hM8 := hM8.keep hK2 (own_apart' hM8 hZ8)
            replace hE : Ext w wr2 := Keep.after hE hK2 (fun k hk e => by have := hZ8.ge e.symm; omega)
            refine wc_exit ?_
            refine nx_then_exit ?_
            refine nx_then_exit ?_
            refine nx_block_exit ?_
            refine nx_then ?_
            refine wc_seq ?_
            refine wc_seq ?_
            refine wc_region ?_
            refine wl_val hW rfl rfl (x_assign rfl) ?_
            refine wl_nil ?_
            refine nx_then ?_
            refine wc_block ?_
            refine wc_loop (σ := Nat × List Mb) (fun s => [(2, .pointer (some ⟨b2, 0, none⟩)), (5, .pointer (some ⟨b5, 0, none⟩)), (8, .pointer (some ⟨b8, 0, none⟩)), (11, .int .i64 (s.1 : Nat))]) (fun s w' => (s.1 ≤ f.2.1.length ∧ s.2.length = f.2.1.length ∧ MOwn w27.heap.size w' (.slice ma8 f.2.1.length mc8) s.2) ∧ Keep (fun k => some k ≠ (Value.slice ma8 f.2.1.length mc8).ownBlock) wr2 w') (fun s => f.2.1.length - s.1) (0, f.2.1) ?_ ?_ ?_
            · exact ⟨⟨Nat.zero_le _, rfl, hM8⟩, Keep.refl _ _⟩
            · repeat (first | exact sub_nil | refine sub_cons rfl ?_)
            · rintro ⟨s3, m3⟩ wr3 ⟨⟨hs3, hl4, hMr3⟩, hK3⟩
              replace hs3 : s3 ≤ f.2.1.length := hs3
              replace hl4 : m3.length = f.2.1.length := hl4
              replace hMr3 : MOwn w27.heap.size wr3 (.slice ma8 f.2.1.length mc8) m3 := hMr3
              replace hB8 := hB8.keep hK3 (hM8.off hB8 (by decide))
              refine wc_seq ?_
              refine wc_seq ?_
              refine wc_region ?_
              refine wl_val hW rfl rfl (x_move rfl) ?_
              refine wl_val hW rfl rfl (x_fieldAddr Try.underlying27 rfl fl24.siz rfl) ?_
              refine wl_val hW rfl rfl (x_load fl24 rfl (hB8.cell (o := 1) rfl)) ?_
              refine wl_val hW rfl rfl (x_len Try.underlying24 rfl) ?_
              refine wl_val hW rfl rfl (x_lss rfl rfl) ?_
              refine wl_nil ?_
              refine nx_then ?_
              refine wc_dec rfl (fun hc => ?_) (fun hc => ?_)
              · replace hc : ((s3 : Nat) : Int) < f.2.1.length := hc
                have hsl : s3 < m3.length := by omega
                obtain ⟨g, cs, e9, -, hBg, hblt, hbg, hset⟩ := MOwn.field hMr3 (m' := ⟨77, m3[s3].b, m3[s3].w⟩) (j := 0) (v := .int .i64 77) hsl (by decide) rfl
                subst e9
                refine wc_skip ?_
                refine nx_then ?_
                refine wc_seq ?_
                refine wc_block ?_
                refine wc_region ?_
                refine wl_val hW rfl rfl (x_fieldAddr Try.underlying27 rfl fl24.siz rfl) ?_
                refine wl_val hW rfl rfl (x_load fl24 rfl (hB8.cell (o := 1) rfl)) ?_
                refine wl_val hW rfl rfl (x_move rfl) ?_
                refine wl_val hW rfl rfl (x_indexAddr Try.underlying24 ag35.siz rfl rfl (by omega) (by omega)) ?_
                refine wl_val hW rfl rfl (x_fieldAddr Try.underlying35 rfl fl3.siz rfl) ?_
                refine wl_store (o := s3 * 3 + 0) hW rfl fl3 (by show some (Value.pointer (some ⟨g, _, none⟩)) = _; rw [Int.toNat_natCast, Nat.zero_add]; rfl) rfl rfl hBg hblt ?_
                intro wS6 hBS hkS
                have hMn := hset _ hBS
                have hKn := hK3.then hkS (fun k _ h e => h (by rw [e]; rfl))
                refine wl_nil ?_
                refine nx_block ?_
                refine nx_then ?_
                refine wc_region ?_
                refine wl_val hW rfl rfl (x_move rfl) ?_
                refine wl_val hW rfl rfl (x_inc (s := s3) rfl (by omega)) ?_
                refine wl_val hW rfl rfl (x_assign rfl) ?_
                refine wl_nil ?_
                exact nx_next (s3 + 1, m3.set s3 ⟨77, m3[s3].b, m3[s3].w⟩) (by dsimp only; omega) ⟨⟨by dsimp only; omega, by dsimp only; rw [List.length_set]; exact hl4, hMn⟩, hKn⟩ (by repeat (first | exact sub_nil | refine sub_cons rfl ?_))
              · replace hB2 := hB2.keep hK3 (hM8.off hB2 (by decide))
                replace hB5 := hB5.keep hK3 (hM8.off hB5 (by decide))
                replace hM5 := hM5.keep hK3 (fun b hb e => by have h1 := hlt5' b hb; have h2 := hM8.ge e.symm; omega)
                replace hZ5 := hZ5.keep hK3 (own_apart hM8 hZ5)
                replace hE : Ext w wr3 := Keep.after hE hK3 (fun k hk e => by have := hM8.ge e.symm; omega)
                refine wc_exit ?_
                refine nx_then_exit ?_
                refine nx_then_exit ?_
                refine nx_block_exit ?_
                refine nx_then ?_
                refine wc_seq ?_
                refine wc_region ?_
                refine wl_val hW rfl rfl (x_loadA ag27 rfl hB5.cells rfl) ?_
                refine wl_val hW rfl rfl (x_loadA ag27 rfl hB2.cells rfl) ?_
                refine wl_call hW rfl rfl (x_call en14 rfl) ((C14 (hM5.row cellsM_len hl1) (hZ5.row cellsI_len hl2) (hR.ext hE) (hI.ext hE)).inF hFF) ?_
                rintro _ wC ⟨rfl, hxC⟩
                replace hB2 := hB2.ext hxC
                replace hB5 := hB5.ext hxC
                replace hB8 := hB8.ext hxC
                replace hE := hE.trans hxC
                refine wl_val hW rfl rfl (x_assign rfl) ?_
                refine wl_nil ?_
                refine nx_then ?_
                refine wc_ret ?_
                exact ends_ret (res_tmp Try.results4 rfl) ⟨rfl, hE⟩
end Go.Proofs.Ytiaikajibefieaa.K

