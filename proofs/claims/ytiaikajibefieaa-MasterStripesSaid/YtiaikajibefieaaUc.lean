/- Walk: what MasterStripes asks. -/
import Derived.Test.YtiaikajibefieaaUb
namespace Go.Proofs.Ytiaikajibefieaa.K
open Go Go.RowKit
set_option linter.unusedVariables false
set_option linter.unusedSimpArgs false
theorem x_beqlT {m : Nat} {D : List Deferred} {L : Env} {w : World} {t ty t' : TypeId} {x y : Operand} {b c : Bool} (hx : ev L x = some (.bool b)) (hy : ev L y = some (.bool c)) (hu : Try.prog.underlying t = some .bool) (hr : b = c) : Xv Try.prog m D L (.binOp .eql t x y t') ty w (.bool true) w := by
  have := x_beql (P := Try.prog) (m := m) (D := D) (ty := ty) (t' := t') (w := w) hx hy hu
  subst hr
  simpa using this
theorem info4 : (Try.prog.info? 4).map (fun i => (i.zero, i.size, i.bytes)) = some (some (.bool false), 1, 1) := by kernel_rfl
theorem C6 {A : Nat → Prop} {w : World} {la : Option Addr} {n lc st : Nat} {k : Int} (hL : n ≤ 16 → ∃ l, n = l.length ∧ IRow A w (.slice la n lc) l) :
    Rt Try.prog 6 [.slice la n lc, .int .u64 (st : Nat), .int .i64 k] w fun r w' => r = .bool true ∧ Ext w w' := by
  obtain ⟨i3, hi3, hz3, hs3, hb3⟩ := info_parts info3
  obtain ⟨i4, hi4, hz4, hs4, hb4⟩ := info_parts info4
  have hW := hWw
  have hFF := hFw
  have hE : Ext w w := Keep.refl _ _
  refine rt_body Try.func6 rfl Try.ntmps6 rfl ?_
  refine wc_seq ?_
  refine wc_region ?_
  refine wl_val hW rfl rfl (x_assign rfl) ?_
  refine wl_nil ?_
  refine nx_then ?_
  refine wc_seq ?_
  refine wc_seq ?_
  refine wc_region ?_
  refine wl_call hW rfl rfl (x_call en7 rfl) (C7.inF hFF) ?_
  rintro _ wC ⟨rfl, hxC⟩
  replace hE := hE.trans hxC
  refine wl_val hW rfl rfl (x_not rfl) ?_
  refine wl_nil ?_
  refine nx_then ?_
  refine wc_false rfl ?_
  refine wc_skip ?_
  refine nx_then ?_
  refine wc_seq ?_
  refine wc_region ?_
  refine wl_val hW rfl rfl (x_build27z) ?_
  refine wl_alloc (cs := [.int .i64 0, .slice none 0 0, .slice none 0 0]) hW rfl rfl Try.zeroValue27 rfl ?_
  intro b7 w7 hl7 hB7 hx7
  have g7 : w.heap.size ≤ b7 := Nat.le_trans hE.size hl7
  replace hE := hE.trans hx7
  refine wl_storeA hW rfl ag27 rfl rfl rfl rfl hB7 rfl ?_
  intro wS hBS hkS
  replace hB7 := hBS
  clear hBS
  replace hE := hE.store hkS g7
  refine wl_nil ?_
  refine nx_then ?_
  refine wc_seq ?_
  refine wc_seq ?_
  refine wc_region ?_
  refine wl_val hW rfl rfl (x_move rfl) ?_
  refine wl_val hW rfl rfl (x_len Try.underlying25 rfl) ?_
  refine wl_val hW rfl rfl (x_gtr rfl rfl) ?_
  refine wl_nil ?_
  refine nx_then ?_
  refine wc_dec rfl (fun hc => ?_) (fun hc => ?_)
  · refine wc_seq ?_
    refine wc_region ?_
    refine wl_val hW rfl rfl (x_assign rfl) ?_
    refine wl_nil ?_
    refine nx_then ?_
    refine wc_ret ?_
    refine nx_then_ret ?_
    exact ends_ret (res_tmp Try.results6 rfl) ⟨rfl, hE⟩
  · have hc' : n ≤ 16 := by have h' : ¬ ((16 : Nat) : Int) < (n : Int) := hc; omega
    obtain ⟨l, rfl, hL⟩ := hL hc'
    refine wc_skip ?_
    refine nx_then ?_
    refine wc_seq ?_
    refine wc_seq ?_
    refine wc_region ?_
    refine wl_val hW rfl rfl (x_assign rfl) ?_
    refine wl_nil ?_
    refine nx_then ?_
    refine wc_block ?_
    refine wc_loop (σ := Nat × Value × Value) (fun s => [(0, .slice la l.length lc), (1, .int .u64 (st : Nat)), (2, .int .i64 k), (7, .pointer (some ⟨b7, 0, none⟩)), (8, .int .i64 (s.1 : Nat))]) (fun s w' => (s.1 ≤ l.length ∧ MOwn w.heap.size w' s.2.1 (runS l s.1).2.1 ∧ IOwn w.heap.size w' s.2.2 (runS l s.1).2.2) ∧ Ext w w' ∧ Blk w' b7 [.int .i64 (runS l s.1).1, s.2.1, s.2.2] 27) (fun s => l.length - s.1) (0, .slice none 0 0, .slice none 0 0) ?_ ?_ ?_
    · exact ⟨⟨Nat.zero_le _, gown_nil, gown_nil⟩, hE, hB7⟩
    · repeat (first | exact sub_nil | refine sub_cons rfl ?_)
    · rintro ⟨s, cv2, sv2⟩ wr ⟨⟨hs, hM, hZ⟩, hE, hB7⟩
      replace hs : s ≤ l.length := hs
      replace hM : MOwn w.heap.size wr cv2 (runS l s).2.1 := hM
      replace hZ : IOwn w.heap.size wr sv2 (runS l s).2.2 := hZ
      replace hB7 : Blk wr b7 [.int .i64 (runS l s).1, cv2, sv2] 27 := hB7
      obtain ⟨ma2, mc2, rfl, -⟩ := hM.form
      obtain ⟨za2, zc2, rfl, -⟩ := hZ.form
      have hV := runS_vld l s
      refine wc_seq ?_
      refine wc_seq ?_
      refine wc_region ?_
      refine wl_val hW rfl rfl (x_move rfl) ?_
      refine wl_val hW rfl rfl (x_move rfl) ?_
      refine wl_val hW rfl rfl (x_len Try.underlying25 rfl) ?_
      refine wl_val hW rfl rfl (x_lss rfl rfl) ?_
      refine wl_nil ?_
      refine nx_then ?_
      refine wc_dec rfl (fun hc => ?_) (fun hc => ?_)
      · replace hc : ((s : Nat) : Int) < l.length := hc
        have hlt : s < l.length := by omega
        obtain ⟨b, o, cap', e1, -, hC34⟩ := (hL.ext hE).at s hlt
        cases e1
        have hsn := runS_succ hlt
        obtain ⟨c, hcd⟩ : ∃ c, c = runS l s := ⟨_, rfl⟩
        rw [← hcd] at hM hZ hB7 hsn hV
        have hl1 : c.2.1.length ≤ 1099511627776 := Nat.le_trans hV.len (by decide)
        have hl2 : c.2.2.length ≤ 1099511627776 := Nat.le_trans hV.zlen (by decide)
        refine wc_skip ?_
        refine nx_then ?_
        refine wc_seq ?_
        refine wc_block ?_
        refine wc_draw' 7 hW mixed (by kernel_rfl) (fun w0 hx0 => ?_)
        replace hB7 := hB7.ext hx0
        replace hE := hE.trans hx0
        replace hC34 := hC34.ext hx0
        refine q_val rfl rfl (fun _ hx => x_loadA ag27 rfl (hB7.ext hx).cells rfl) ?_
        refine q_val rfl rfl (fun _ hx => x_move rfl) ?_
        refine q_val rfl rfl (fun _ hx => x_move rfl) ?_
        refine q_val rfl rfl (fun _ hx => x_indexAddr Try.underlying25 fl3.siz rfl rfl (by omega) (by omega)) ?_
        refine q_val rfl rfl (fun _ hx => x_load fl3 rfl (hx.cell (hC34 0 _ rfl))) ?_
        refine q_val rfl rfl (fun _ hx => x_build32 (a := 4) (b := l[s]) rfl rfl) ?_
        refine q_buildV (parts := [(0, .tmp 36)]) rfl rfl rfl Try.underlying22 ag32.siz Try.zeroValue32 rfl rfl rfl (by decide) ?_
        refine q_nil (tailm (List.mem_cons_self ..) (fun wt v37 hxt hp37 => ?_))
        obtain ⟨b37, rfl, hB37⟩ := hp37
        replace hB7 := hB7.ext hxt
        replace hE := hE.trans hxt
        replace hM := (hM.ext hx0).ext hxt
        replace hZ := (hZ.ext hx0).ext hxt
        refine wl_call hW rfl rfl (x_call en13 rfl) ((C13 (l := [mkS l[s]]) (hM.row cellsM_len hl1) (hZ.row cellsI_len hl2) (grow_blk cellsC_len hB37 rfl rfl (Nat.le_refl _) (show (1 : Nat) ≤ 1099511627776 from by decide))).inF hFF) ?_
        have hsz := hE.size
        rintro _ wC ⟨⟨cv3, sv3, rfl, hM3, hZ3⟩, hxC⟩
        replace hM3 : MOwn w.heap.size wC cv3 (runF c [mkS l[s]]).2.1 := hM3.rebase fun b hb => Nat.le_trans hsz (hM3.ge hb)
        replace hZ3 : IOwn w.heap.size wC sv3 (runF c [mkS l[s]]).2.2 := hZ3.rebase fun b hb => Nat.le_trans hsz (hZ3.ge hb)
        obtain ⟨ma3, mc3, rfl, -⟩ := hM3.form
        obtain ⟨za3, zc3, rfl, -⟩ := hZ3.form
        replace hB7 := hB7.ext hxC
        replace hE := hE.trans hxC
        refine wl_storeA hW rfl ag27 rfl rfl rfl rfl hB7 rfl ?_
        intro wS hBS hkS
        replace hM3 := hM3.keep hkS (fun b hb => hM3.ne hb hB7 (by decide))
        replace hZ3 := hZ3.keep hkS (fun b hb => hZ3.ne hb hB7 (by decide))
        replace hB7 := hBS
        clear hBS
        replace hE := hE.store hkS g7
        refine wl_nil ?_
        refine nx_block ?_
        refine nx_then ?_
        refine wc_region ?_
        refine wl_val hW rfl rfl (x_move rfl) ?_
        refine wl_val hW rfl rfl (x_inc (s := s) rfl (by omega)) ?_
        refine wl_val hW rfl rfl (x_assign rfl) ?_
        refine wl_nil ?_
        exact nx_next (s + 1, .slice ma3 _ mc3, .slice za3 _ zc3) (by dsimp only; omega) ⟨⟨hlt, by dsimp only; rw [hsn]; exact hM3, by dsimp only; rw [hsn]; exact hZ3⟩, hE, by dsimp only; rw [hsn]; exact hB7⟩ (by repeat (first | exact sub_nil | refine sub_cons rfl ?_))
      · obtain ⟨c, hcd⟩ : ∃ c, c = runS l s := ⟨_, rfl⟩
        rw [← hcd] at hM hZ hB7 hV
        have hz16 := hV.zlen
        obtain ⟨B52, hB52⟩ : ∃ B : Bool, B = decide (k < 1 ∨ (c.2.2.length : Int) < k ∨ (1152921504606846976 : Int) < ((st : Nat) : Int)) := ⟨_, rfl⟩
        refine wc_exit ?_
        refine nx_then_exit ?_
        refine nx_then_exit ?_
        refine nx_block_exit ?_
        refine nx_then ?_
        refine wc_seq ?_
        refine wc_region ?_
        refine wl_val hW rfl rfl (x_fieldAddr Try.underlying27 rfl fl25.siz rfl) ?_
        refine wl_val hW rfl rfl (x_load fl25 rfl (hB7.cell (o := 2) rfl)) ?_
        refine wl_val hW rfl rfl (x_len Try.underlying25 rfl) ?_
        refine wl_val hW rfl rfl (x_assign rfl) ?_
        refine wl_nil ?_
        refine nx_then ?_
        refine wc_seq ?_
        refine wc_seq ?_
        refine wc_cut [(1, .int .u64 (st : Nat)), (2, .int .i64 k), (7, .pointer (some ⟨b7, 0, none⟩)), (9, .int .i64 (c.2.2.length : Nat)), (52, .bool B52)] (fun w' => w' = wr) ?_ ?_
        · refine wc_region ?_
          refine wl_val hW rfl rfl (x_move rfl) ?_
          refine wl_val hW rfl rfl (x_lss rfl rfl) ?_
          refine wl_val hW rfl rfl (x_move rfl) ?_
          refine wl_dcases (d := 44) rfl (fun hg44 => ?_) (fun hg44 => ?_)
          · refine wl_off hW rfl rfl ?_
            refine wl_off hW rfl rfl ?_
            refine wl_off hW rfl rfl ?_
            refine wl_val hW rfl rfl (x_pickT rfl rfl) ?_
            refine wl_val hW rfl rfl (x_move rfl) ?_
            refine wl_off hW rfl rfl ?_
            refine wl_off hW rfl rfl ?_
            refine wl_val hW rfl rfl (x_pickT rfl rfl) ?_
            refine wl_nil ?_
            exact nx_cut (by rw [show B52 = true from by rw [hB52]; exact decide_eq_true (.inl hg44)]; repeat (first | exact sub_nil | refine sub_cons rfl ?_)) rfl
          · refine wl_val hW rfl rfl (x_move rfl) ?_
            refine wl_val hW rfl rfl (x_move rfl) ?_
            refine wl_val hW rfl rfl (x_gtr rfl rfl) ?_
            refine wl_val hW rfl rfl (x_pickF rfl rfl) ?_
            refine wl_val hW rfl rfl (x_move rfl) ?_
            refine wl_dcases (d := 49) rfl (fun hg49 => ?_) (fun hg49 => ?_)
            · refine wl_off hW rfl rfl ?_
              refine wl_off hW rfl rfl ?_
              refine wl_val hW rfl rfl (x_pickT rfl rfl) ?_
              refine wl_nil ?_
              exact nx_cut (by rw [show B52 = true from by rw [hB52]; exact decide_eq_true (.inr (.inl hg49))]; repeat (first | exact sub_nil | refine sub_cons rfl ?_)) rfl
            · refine wl_val hW rfl rfl (x_move rfl) ?_
              refine wl_val hW rfl rfl (x_gtr rfl rfl) ?_
              refine wl_val hW rfl rfl (x_pickF rfl rfl) ?_
              refine wl_nil ?_
              exact nx_cut (by rw [show B52 = decide ((1152921504606846976 : Int) < ((st : Nat) : Int)) from by rw [hB52]; exact decide_eq_decide.2 ⟨fun h => (h.resolve_left hg44).resolve_left hg49, fun h => .inr (.inr h)⟩]; repeat (first | exact sub_nil | refine sub_cons rfl ?_)) rfl
        · intro wX hwX
          obtain rfl : wr = wX := hwX.symm
          refine nx_then ?_
          refine wc_bool rfl (fun hc => ?_) (fun hc => ?_)
          · refine wc_seq ?_
            refine wc_region ?_
            refine wl_val hW rfl rfl (x_loadA ag27 rfl hB7.cells rfl) ?_
            refine wl_val hW rfl rfl (x_move rfl) ?_
            refine wl_val hW rfl rfl (x_move rfl) ?_
            refine wl_call hW rfl rfl (x_call en19 rfl) ((C19 (hZ.row cellsI_len (by omega)) hz16).inF hFF) ?_
            rintro _ wC ⟨⟨v58, rfl, -⟩, hxC⟩
            replace hB7 := hB7.ext hxC
            replace hE := hE.trans hxC
            refine wl_val hW rfl rfl (x_move rfl) ?_
            refine wl_val hW rfl rfl (x_extract rfl rfl) ?_
            refine wl_val hW rfl rfl (x_extract rfl rfl) ?_
            refine wl_val hW rfl rfl (x_assign rfl) ?_
            refine wl_val hW rfl rfl (x_assign rfl) ?_
            refine wl_nil ?_
            refine nx_then ?_
            refine wc_seq ?_
            refine wc_cut [(6, .bool true)] (fun w' => w' = wC) ?_ ?_
            · refine wc_region ?_
              refine wl_val hW rfl rfl (x_move rfl) ?_
              refine wl_val hW rfl rfl (x_eql rfl rfl) ?_
              refine wl_val hW rfl rfl (x_move rfl) ?_
              refine wl_val hW rfl rfl (x_geq rfl rfl) ?_
              refine wl_val hW rfl rfl (x_move rfl) ?_
              refine wl_dcases (d := 64) rfl (fun hg64 => ?_) (fun hg64 => ?_)
              · refine wl_val hW rfl rfl (x_move rfl) ?_
                refine wl_val hW rfl rfl (x_move rfl) ?_
                refine wl_val hW rfl rfl (x_leq rfl rfl) ?_
                refine wl_val hW rfl rfl (x_pickT rfl rfl) ?_
                refine wl_val hW rfl rfl (x_beqlT rfl rfl Try.underlying4 (decide_eq_decide.2 ((stripeE_zero hz16).trans ⟨fun h => h.2, fun h => ⟨hg64, h⟩⟩))) ?_
                refine wl_val hW rfl rfl (x_assign rfl) ?_
                refine wl_nil ?_
                exact nx_cut (by repeat (first | exact sub_nil | refine sub_cons rfl ?_)) rfl
              · refine wl_off hW rfl rfl ?_
                refine wl_off hW rfl rfl ?_
                refine wl_off hW rfl rfl ?_
                refine wl_val hW rfl rfl (x_pickF rfl rfl) ?_
                refine wl_val hW rfl rfl (x_beqlT rfl rfl Try.underlying4 (decide_eq_false (fun h => hg64 ((stripeE_zero hz16).1 h).1))) ?_
                refine wl_val hW rfl rfl (x_assign rfl) ?_
                refine wl_nil ?_
                exact nx_cut (by repeat (first | exact sub_nil | refine sub_cons rfl ?_)) rfl
            · rintro w' rfl
              refine nx_then ?_
              refine wc_ret ?_
              refine nx_then_ret ?_
              exact ends_ret (res_tmp Try.results6 rfl) ⟨rfl, hE⟩
          · have hb := of_decide_eq_false (hB52.symm.trans hc)
            obtain ⟨m, rfl⟩ : ∃ m : Nat, k = m := ⟨k.toNat, by omega⟩
            have hm1 : 1 ≤ m := by omega
            have hm2 : m ≤ c.2.2.length := by omega
            have hst2 : st ≤ 1152921504606846976 := by omega
            have h0 : 0 < c.2.2.length := by omega
            have hltZ : ∀ b, (Value.slice za2 c.2.2.length zc2).ownBlock = some b → b < wr.heap.size := fun b hb => hZ.lt hb
            have hlt7 := hB7.lt
            refine wc_skip ?_
            refine nx_then ?_
            refine wc_seq ?_
            refine wc_region ?_
            refine wl_makeSlice (h := 16) (z := .int .i64 0) hW rfl rfl Try.underlying25 hi3 (by omega) hs3 hz3 rfl rfl rfl (by decide) (fun bC wD hlC hBC hxD => ?_)
            have gC : w.heap.size ≤ bC := Nat.le_trans hE.size hlC
            replace hE := hE.trans hxD
            replace hB7 := hB7.ext hxD
            replace hZ := hZ.ext hxD
            refine wl_val hW rfl rfl (x_assign rfl) ?_
            refine wl_nil ?_
            refine nx_then ?_
            refine wc_seq ?_
            refine wc_seq ?_
            refine wc_region ?_
            refine wl_val hW rfl rfl (x_assign rfl) ?_
            refine wl_nil ?_
            refine nx_then ?_
            refine wc_block ?_
            refine wc_loop (σ := Nat) (fun i => [(1, .int .u64 (st : Nat)), (2, .int .i64 (m : Nat)), (7, .pointer (some ⟨b7, 0, none⟩)), (9, .int .i64 (c.2.2.length : Nat)), (12, .slice (some ⟨bC, 0, none⟩) 16 16), (13, .int .i64 (i : Nat))]) (fun i w' => i ≤ c.2.2.length ∧ Ext w w' ∧ Keep (· ≠ bC) wD w' ∧ Blk w' bC (cntC (flatF c.2.2 st m i)) 3) (fun i => c.2.2.length - i) 0 ?_ ?_ ?_
            · exact ⟨Nat.zero_le _, hE, Keep.refl _ _, by rw [show flatF c.2.2 st m 0 = [] from rfl, cntC_nil]; exact hBC⟩
            · repeat (first | exact sub_nil | refine sub_cons rfl ?_)
            · rintro i wr2 ⟨hi, hE, hK, hBC2⟩
              replace hi : i ≤ c.2.2.length := hi
              replace hBC2 : Blk wr2 bC (cntC (flatF c.2.2 st m i)) 3 := hBC2
              replace hB7 := hB7.keep hK (by omega)
              replace hZ := hZ.keep hK (fun b hb => by have := hltZ b hb; omega)
              refine wc_seq ?_
              refine wc_seq ?_
              refine wc_region ?_
              refine wl_val hW rfl rfl (x_move rfl) ?_
              refine wl_val hW rfl rfl (x_move rfl) ?_
              refine wl_val hW rfl rfl (x_lss rfl rfl) ?_
              refine wl_nil ?_
              refine nx_then ?_
              refine wc_dec rfl (fun hc => ?_) (fun hc => ?_)
              · replace hc : ((i : Nat) : Int) < c.2.2.length := hc
                have hlt : i < c.2.2.length := by omega
                refine wc_skip ?_
                refine nx_then ?_
                refine wc_seq ?_
                refine wc_block ?_
                refine wc_seq ?_
                refine wc_region ?_
                refine wl_val hW rfl rfl (x_loadA ag27 rfl hB7.cells rfl) ?_
                refine wl_val hW rfl rfl (x_move rfl) ?_
                refine wl_val hW rfl rfl (x_move rfl) ?_
                refine wl_val hW rfl rfl (x_convU (s := i) Try.underlying3 Try.underlying46 rfl (by omega)) ?_
                refine wl_val hW rfl rfl (x_add (r := ((st + i : Nat) : Int)) rfl rfl (by rw [IntWalk.u64_in _ (by omega)]; omega)) ?_
                refine wl_val hW rfl rfl (x_move rfl) ?_
                refine wl_call hW rfl rfl (x_call en19 rfl) ((C19 (st := st + i) (hZ.row cellsI_len (by omega)) hz16).inF hFF) ?_
                rintro _ wE ⟨⟨v83, rfl, hSI⟩, hxC⟩
                have hS0 : stripeE c.2.2 ((m : Nat) : Int) = 0 := (stripeE_zero hz16).2 ⟨by omega, by omega⟩
                have hRow := hSI hS0
                rw [Int.toNat_natCast] at hRow
                replace hRow : IRow (fun k => wr2.heap.size ≤ k ∧ k < wE.heap.size) wE v83 (rowF c.2.2 st m i) := hRow.mono (fun k h1 h2 => ⟨h2, h1⟩)
                have hrl := rowF_len (st := st) (i := i) h0 hm2
                obtain ⟨ra, rc, rfl, -⟩ := hRow.form
                rw [hS0]
                have hltC := hBC2.lt
                replace hBC2 := hBC2.ext hxC
                replace hK := hK.trans (Keep.of_ext hxC)
                replace hB7 := hB7.ext hxC
                replace hE := hE.trans hxC
                refine wl_val hW rfl rfl (x_move rfl) ?_
                refine wl_val hW rfl rfl (x_extract rfl rfl) ?_
                refine wl_val hW rfl rfl (x_extract rfl rfl) ?_
                refine wl_val hW rfl rfl (x_assign rfl) ?_
                refine wl_val hW rfl rfl (x_assign rfl) ?_
                refine wl_nil ?_
                refine nx_then ?_
                refine wc_seq ?_
                refine wc_seq ?_
                refine wc_cut [(1, .int .u64 (st : Nat)), (2, .int .i64 (m : Nat)), (7, .pointer (some ⟨b7, 0, none⟩)), (9, .int .i64 (c.2.2.length : Nat)), (12, .slice (some ⟨bC, 0, none⟩) 16 16), (13, .int .i64 (i : Nat)), (14, .slice ra (rowF c.2.2 st m i).length rc), (93, .bool false)] (fun w' => w' = wE) ?_ ?_
                · refine wc_region ?_
                  refine wl_val hW rfl rfl (x_move rfl) ?_
                  refine wl_val hW rfl rfl (x_neqF rfl rfl rfl) ?_
                  refine wl_val hW rfl rfl (x_move rfl) ?_
                  refine wl_val hW rfl rfl (x_move rfl) ?_
                  refine wl_val hW rfl rfl (x_len Try.underlying25 rfl) ?_
                  refine wl_val hW rfl rfl (x_move rfl) ?_
                  refine wl_val hW rfl rfl (x_neqF rfl rfl (by rw [hrl])) ?_
                  refine wl_val hW rfl rfl (x_pickF rfl rfl) ?_
                  refine wl_nil ?_
                  exact nx_cut (by repeat (first | exact sub_nil | refine sub_cons rfl ?_)) rfl
                · intro wX hwX
                  obtain rfl : wE = wX := hwX.symm
                  refine nx_then ?_
                  refine wc_false rfl ?_
                  refine wc_skip ?_
                  refine nx_then ?_
                  refine wc_seq ?_
                  refine wc_region ?_
                  refine wl_makeSlice (h := 16) (z := .bool false) hW rfl rfl Try.underlying49 hi4 (by omega) hs4 hz4 rfl rfl rfl (by decide) (fun bS wF hlS hBS hxF => ?_)
                  have gS : w.heap.size ≤ bS := Nat.le_trans hE.size hlS
                  have hDS : wD.heap.size ≤ bS := Nat.le_trans hK.size hlS
                  have hCS : bC < bS := Nat.lt_of_lt_of_le hBC2.lt hlS
                  replace hE := hE.trans hxF
                  replace hRow := hRow.ext hxF
                  replace hBC2 := hBC2.ext hxF
                  replace hK := hK.trans (Keep.of_ext hxF)
                  refine wl_val hW rfl rfl (x_assign rfl) ?_
                  refine wl_nil ?_
                  refine nx_then ?_
                  refine wc_seq ?_
                  refine wc_region ?_
                  refine wl_val hW rfl rfl (x_assign rfl) ?_
                  refine wl_nil ?_
                  refine nx_then ?_
                  refine wc_block ?_
                  refine wc_loop (σ := Nat) (fun j => [(1, .int .u64 (st : Nat)), (2, .int .i64 (m : Nat)), (7, .pointer (some ⟨b7, 0, none⟩)), (9, .int .i64 (c.2.2.length : Nat)), (12, .slice (some ⟨bC, 0, none⟩) 16 16), (13, .int .i64 (i : Nat)), (14, .slice ra (rowF c.2.2 st m i).length rc), (16, .slice (some ⟨bS, 0, none⟩) 16 16), (17, .int .i64 (j : Nat))]) (fun j w' => j ≤ m ∧ Ext w w' ∧ Keep (fun b => b ≠ bC ∧ b ≠ bS) wF w' ∧ Blk w' bC (cntC (flatF c.2.2 st m i ++ (rowF c.2.2 st m i).take j)) 3 ∧ Blk w' bS (seenC ((rowF c.2.2 st m i).take j)) 4) (fun j => m - j) 0 ?_ ?_ ?_
                  · exact ⟨Nat.zero_le _, hE, Keep.refl _ _, by rw [List.take_zero, List.append_nil]; exact hBC2, by rw [List.take_zero, seenC_nil]; exact hBS⟩
                  · repeat (first | exact sub_nil | refine sub_cons rfl ?_)
                  · rintro j wr3 ⟨hj, hE, hK3, hBC3, hBS3⟩
                    replace hj : j ≤ m := hj
                    replace hBC3 : Blk wr3 bC (cntC (flatF c.2.2 st m i ++ (rowF c.2.2 st m i).take j)) 3 := hBC3
                    replace hBS3 : Blk wr3 bS (seenC ((rowF c.2.2 st m i).take j)) 4 := hBS3
                    refine wc_seq ?_
                    refine wc_seq ?_
                    refine wc_region ?_
                    refine wl_val hW rfl rfl (x_move rfl) ?_
                    refine wl_val hW rfl rfl (x_move rfl) ?_
                    refine wl_val hW rfl rfl (x_lss rfl rfl) ?_
                    refine wl_nil ?_
                    refine nx_then ?_
                    refine wc_dec rfl (fun hc => ?_) (fun hc => ?_)
                    · replace hc : ((j : Nat) : Int) < ((m : Nat) : Int) := hc
                      have hjr : j < (rowF c.2.2 st m i).length := by omega
                      have hmem := of_decide_eq_true (hV.zmem _ (rowF_mem (List.getElem_mem hjr)))
                      have hRow3 := hRow.keep hK3 (fun k _ hk => ⟨by have := hk.1; omega, by have := hk.2; omega⟩)
                      obtain ⟨g, o2, cap2, e2, hgA, hC102⟩ := hRow3.at j hjr
                      have hnew0 := rowF_new (st := st) (i := i) hV.srt h0 hm2 hjr
                      have htk0 := List.take_append_getElem hjr
                      obtain ⟨xn, hxn⟩ : ∃ xn : Nat, (rowF c.2.2 st m i)[j] = xn := ⟨((rowF c.2.2 st m i)[j]).toNat, by omega⟩
                      rw [hxn] at hC102 hmem hnew0 htk0
                      have hx16 : xn < 16 := by omega
                      have hgS : g ≠ bS := by have := hgA.2; omega
                      cases e2
                      refine wc_skip ?_
                      refine nx_then ?_
                      refine wc_seq ?_
                      refine wc_block ?_
                      refine wc_seq ?_
                      refine wc_seq ?_
                      refine wc_cut [(1, .int .u64 (st : Nat)), (2, .int .i64 (m : Nat)), (7, .pointer (some ⟨b7, 0, none⟩)), (9, .int .i64 (c.2.2.length : Nat)), (12, .slice (some ⟨bC, 0, none⟩) 16 16), (13, .int .i64 (i : Nat)), (14, .slice (some ⟨g, o2, none⟩) (rowF c.2.2 st m i).length rc), (16, .slice (some ⟨bS, 0, none⟩) 16 16), (17, .int .i64 (j : Nat)), (120, .bool false)] (fun w' => w' = wr3) ?_ ?_
                      · refine wc_region ?_
                        refine wl_val hW rfl rfl (x_move rfl) ?_
                        refine wl_val hW rfl rfl (x_move rfl) ?_
                        refine wl_val hW rfl rfl (x_indexAddr Try.underlying25 fl3.siz rfl rfl (by omega) (by omega)) ?_
                        refine wl_val hW rfl rfl (x_load fl3 rfl (hC102 0 _ rfl)) ?_
                        refine wl_val hW rfl rfl (x_lssF rfl rfl (by omega)) ?_
                        refine wl_val hW rfl rfl (x_move rfl) ?_
                        refine wl_val hW rfl rfl (x_move rfl) ?_
                        refine wl_val hW rfl rfl (x_move rfl) ?_
                        refine wl_val hW rfl rfl (x_indexAddr Try.underlying25 fl3.siz rfl rfl (by omega) (by omega)) ?_
                        refine wl_val hW rfl rfl (x_load fl3 rfl (hC102 0 _ rfl)) ?_
                        refine wl_val hW rfl rfl (x_gtrF rfl rfl (by omega)) ?_
                        refine wl_val hW rfl rfl (x_pickF rfl rfl) ?_
                        refine wl_val hW rfl rfl (x_move rfl) ?_
                        refine wl_val hW rfl rfl (x_move rfl) ?_
                        refine wl_val hW rfl rfl (x_move rfl) ?_
                        refine wl_val hW rfl rfl (x_move rfl) ?_
                        refine wl_val hW rfl rfl (x_indexAddr Try.underlying25 fl3.siz rfl rfl (by omega) (by omega)) ?_
                        refine wl_val hW rfl rfl (x_load fl3 rfl (hC102 0 _ rfl)) ?_
                        refine wl_val hW rfl rfl (x_indexAddr Try.underlying49 fl4.siz rfl rfl (by omega) (by omega)) ?_
                        refine wl_val hW rfl rfl (x_load fl4 rfl (by rw [Int.toNat_natCast, Nat.zero_add, Nat.mul_one]; exact hBS3.cell (seenC_get hx16 hnew0))) ?_
                        refine wl_val hW rfl rfl (x_pickF rfl rfl) ?_
                        refine wl_nil ?_
                        exact nx_cut (by repeat (first | exact sub_nil | refine sub_cons rfl ?_)) rfl
                      · intro wX hwX
                        obtain rfl : wr3 = wX := hwX.symm
                        refine nx_then ?_
                        refine wc_false rfl ?_
                        refine wc_skip ?_
                        refine nx_then ?_
                        refine wc_seq ?_
                        refine wc_region ?_
                        refine wl_val hW rfl rfl (x_move rfl) ?_
                        refine wl_val hW rfl rfl (x_move rfl) ?_
                        refine wl_val hW rfl rfl (x_move rfl) ?_
                        refine wl_val hW rfl rfl (x_indexAddr Try.underlying25 fl3.siz rfl rfl (by omega) (by omega)) ?_
                        refine wl_val hW rfl rfl (x_load fl3 rfl (hC102 0 _ rfl)) ?_
                        refine wl_val hW rfl rfl (x_indexAddr Try.underlying49 fl4.siz rfl rfl (by omega) (by omega)) ?_
                        refine wl_store (o := xn) hW rfl fl4 (by show some (Value.pointer (some ⟨bS, _, none⟩)) = _; rw [Int.toNat_natCast, Nat.zero_add, Nat.mul_one]) rfl rfl hBS3 (by rw [Nat.blt_eq, seenC_len]; exact hx16) ?_
                        intro wG hBS4 hkG
                        rw [seenC_set hx16, htk0] at hBS4
                        have hBC4 := hBC3.keep hkG (by omega)
                        have hC130 := hC102.ck (A := fun k => k ≠ bS) hgS (CK.of_keep hkG fun k _ h => h)
                        replace hE := hE.store hkG gS
                        have hK4 : Keep (fun b => b ≠ bC ∧ b ≠ bS) wF wG := hK3.then hkG (fun k _ h => h.2)
                        have hcl : (flatF c.2.2 st m i ++ (rowF c.2.2 st m i).take j).count ((xn : Nat) : Int) < 4611686018427387904 := by
                          have h1 := List.count_le_length (a := ((xn : Nat) : Int)) (l := flatF c.2.2 st m i ++ (rowF c.2.2 st m i).take j)
                          rw [List.length_append, flatF_len h0 hm2, List.length_take] at h1
                          have h2 : i * m ≤ 16 * 16 := Nat.mul_le_mul (by omega) (by omega)
                          omega
                        refine wl_nil ?_
                        refine nx_then ?_
                        refine wc_region ?_
                        refine wl_val hW rfl rfl (x_move rfl) ?_
                        refine wl_val hW rfl rfl (x_move rfl) ?_
                        refine wl_val hW rfl rfl (x_move rfl) ?_
                        refine wl_val hW rfl rfl (x_indexAddr Try.underlying25 fl3.siz rfl rfl (by omega) (by omega)) ?_
                        refine wl_val hW rfl rfl (x_load fl3 rfl (hC130 0 _ rfl)) ?_
                        refine wl_val hW rfl rfl (x_indexAddr Try.underlying25 fl3.siz rfl rfl (by omega) (by omega)) ?_
                        refine wl_val hW rfl rfl (x_load fl3 rfl (by rw [Int.toNat_natCast, Nat.zero_add, Nat.mul_one]; exact hBC4.cell (cntC_get hx16))) ?_
                        refine wl_val hW rfl rfl (x_inc (s := (flatF c.2.2 st m i ++ (rowF c.2.2 st m i).take j).count ((xn : Nat) : Int)) rfl hcl) ?_
                        refine wl_val hW rfl rfl (x_indexAddr Try.underlying25 fl3.siz rfl rfl (by omega) (by omega)) ?_
                        refine wl_store (o := xn) hW rfl fl3 (by show some (Value.pointer (some ⟨bC, _, none⟩)) = _; rw [Int.toNat_natCast, Nat.zero_add, Nat.mul_one]) rfl rfl hBC4 (by rw [Nat.blt_eq, cntC_len]; exact hx16) ?_
                        intro wH hBC5 hkH
                        rw [cntC_set hx16, List.append_assoc, htk0] at hBC5
                        have hBS5 := hBS4.keep hkH (by omega)
                        replace hE := hE.store hkH gC
                        have hK5 : Keep (fun b => b ≠ bC ∧ b ≠ bS) wF wH := hK4.then hkH (fun k _ h => h.1)
                        refine wl_nil ?_
                        refine nx_block ?_
                        refine nx_then ?_
                        refine wc_region ?_
                        refine wl_val hW rfl rfl (x_move rfl) ?_
                        refine wl_val hW rfl rfl (x_inc (s := j) rfl (by omega)) ?_
                        refine wl_val hW rfl rfl (x_assign rfl) ?_
                        refine wl_nil ?_
                        exact nx_next (j + 1) (by omega) ⟨by omega, hE, hK5, hBC5, hBS5⟩ (by repeat (first | exact sub_nil | refine sub_cons rfl ?_))
                    · have hjm : j = m := by have h' : ¬ ((j : Nat) : Int) < ((m : Nat) : Int) := hc; omega
                      rw [hjm, List.take_of_length_le (by omega), ← flatF_succ] at hBC3
                      have hKn : Keep (· ≠ bC) wD wr3 := hK.then hK3 (fun k hk h => ⟨h, by omega⟩)
                      refine wc_exit ?_
                      refine nx_then_exit ?_
                      refine nx_then_exit ?_
                      refine nx_block_exit ?_
                      refine nx_block ?_
                      refine nx_then ?_
                      refine wc_region ?_
                      refine wl_val hW rfl rfl (x_move rfl) ?_
                      refine wl_val hW rfl rfl (x_inc (s := i) rfl (by omega)) ?_
                      refine wl_val hW rfl rfl (x_assign rfl) ?_
                      refine wl_nil ?_
                      exact nx_next (i + 1) (by omega) ⟨hlt, hE, hKn, hBC3⟩ (by repeat (first | exact sub_nil | refine sub_cons rfl ?_))
              · have hiL : i = c.2.2.length := by have h' : ¬ ((i : Nat) : Int) < c.2.2.length := hc; omega
                rw [hiL] at hBC2
                refine wc_exit ?_
                refine nx_then_exit ?_
                refine nx_then_exit ?_
                refine nx_block_exit ?_
                refine nx_then ?_
                refine wc_seq ?_
                refine wc_seq ?_
                refine wc_region ?_
                refine wl_val hW rfl rfl (x_assign rfl) ?_
                refine wl_nil ?_
                refine nx_then ?_
                refine wc_block ?_
                refine wc_loop (σ := Nat) (fun p => [(2, .int .i64 (m : Nat)), (7, .pointer (some ⟨b7, 0, none⟩)), (9, .int .i64 (c.2.2.length : Nat)), (12, .slice (some ⟨bC, 0, none⟩) 16 16), (18, .int .i64 (p : Nat))]) (fun p w' => p ≤ c.2.2.length ∧ Ext wr2 w') (fun p => c.2.2.length - p) 0 ?_ ?_ ?_
                · exact ⟨Nat.zero_le _, Keep.refl _ _⟩
                · repeat (first | exact sub_nil | refine sub_cons rfl ?_)
                · rintro p wr4 ⟨hp, hx4⟩
                  replace hp : p ≤ c.2.2.length := hp
                  replace hE := hE.trans hx4
                  replace hB7 := hB7.ext hx4
                  replace hZ := hZ.ext hx4
                  replace hBC2 := hBC2.ext hx4
                  refine wc_seq ?_
                  refine wc_seq ?_
                  refine wc_region ?_
                  refine wl_val hW rfl rfl (x_move rfl) ?_
                  refine wl_val hW rfl rfl (x_move rfl) ?_
                  refine wl_val hW rfl rfl (x_lss rfl rfl) ?_
                  refine wl_nil ?_
                  refine nx_then ?_
                  refine wc_dec rfl (fun hc => ?_) (fun hc => ?_)
                  · replace hc : ((p : Nat) : Int) < c.2.2.length := hc
                    have hplt : p < c.2.2.length := by omega
                    have hmem := of_decide_eq_true (hV.zmem _ (List.getElem_mem hplt))
                    have hcf := count_flat (st := st) hV.srt hz16 hplt m hm2
                    obtain ⟨g, o2, cap2, e2, -, hC145⟩ := (hZ.row cellsI_len (by omega)).at p hplt
                    obtain ⟨xn, hxn⟩ : ∃ xn : Nat, c.2.2[p] = xn := ⟨(c.2.2[p]).toNat, by omega⟩
                    rw [hxn] at hC145 hmem hcf
                    have hx16 : xn < 16 := by omega
                    cases e2
                    refine wc_skip ?_
                    refine nx_then ?_
                    refine wc_seq ?_
                    refine wc_block ?_
                    refine wc_seq ?_
                    refine wc_region ?_
                    refine wl_val hW rfl rfl (x_move rfl) ?_
                    refine wl_val hW rfl rfl (x_fieldAddr Try.underlying27 rfl fl25.siz rfl) ?_
                    refine wl_val hW rfl rfl (x_load fl25 rfl (hB7.cell (o := 2) rfl)) ?_
                    refine wl_val hW rfl rfl (x_move rfl) ?_
                    refine wl_val hW rfl rfl (x_indexAddr Try.underlying25 fl3.siz rfl rfl (by omega) (by omega)) ?_
                    refine wl_val hW rfl rfl (x_load fl3 rfl (hC145 0 _ rfl)) ?_
                    refine wl_val hW rfl rfl (x_indexAddr Try.underlying25 fl3.siz rfl rfl (by omega) (by omega)) ?_
                    refine wl_val hW rfl rfl (x_load fl3 rfl (by rw [Int.toNat_natCast, Nat.zero_add, Nat.mul_one]; exact hBC2.cell (cntC_get hx16))) ?_
                    refine wl_val hW rfl rfl (x_move rfl) ?_
                    refine wl_val hW rfl rfl (x_neqF rfl rfl (by rw [hcf])) ?_
                    refine wl_nil ?_
                    refine nx_then ?_
                    refine wc_false rfl ?_
                    refine wc_skip ?_
                    refine nx_block ?_
                    refine nx_then ?_
                    refine wc_region ?_
                    refine wl_val hW rfl rfl (x_move rfl) ?_
                    refine wl_val hW rfl rfl (x_inc (s := p) rfl (by omega)) ?_
                    refine wl_val hW rfl rfl (x_assign rfl) ?_
                    refine wl_nil ?_
                    exact nx_next (p + 1) (by omega) ⟨hplt, hx4⟩ (by repeat (first | exact sub_nil | refine sub_cons rfl ?_))
                  · refine wc_exit ?_
                    refine nx_then_exit ?_
                    refine nx_then_exit ?_
                    refine nx_block_exit ?_
                    refine nx_then ?_
                    refine wc_seq ?_
                    refine wc_region ?_
                    refine wl_val hW rfl rfl (x_assign rfl) ?_
                    refine wl_nil ?_
                    refine nx_then ?_
                    refine wc_ret ?_
                    exact ends_ret (res_tmp Try.results6 rfl) ⟨rfl, hE⟩
theorem C6z {A : Nat → Prop} {w : World} {la : Option Addr} {n lc : Nat} {a k : Int} (ha : 0 ≤ a) (hL : n ≤ 16 → ∃ l, n = l.length ∧ IRow A w (.slice la n lc) l) :
    Rt Try.prog 6 [.slice la n lc, .int .u64 a, .int .i64 k] w fun r w' => r = .bool true ∧ Ext w w' := by
  obtain ⟨st, rfl⟩ : ∃ st : Nat, a = st := ⟨a.toNat, by omega⟩
  exact C6 hL
end Go.Proofs.Ytiaikajibefieaa.K

