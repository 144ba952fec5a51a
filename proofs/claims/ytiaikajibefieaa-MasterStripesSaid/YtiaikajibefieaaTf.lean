/- Walk: a configuration checked. -/
import Derived.Test.YtiaikajibefieaaTe
namespace Go.Proofs.Ytiaikajibefieaa.K
open Go Go.RowKit
set_option linter.unusedVariables false
set_option linter.unusedSimpArgs false
def badA (e : Int) (ms : List Mb) : Bool := decide (e < 0) || (decide (1099511627776 < e) || (decide (5 < (ms.length : Int)) || (decide (0 < (ms.length : Int)) && !(ms.any (·.w)))))
def badM (ms : List Mb) (i : Nat) : Bool := match ms[i]? with
  | some m => !nodeB m.n || (!bornB m.b || ((ms.take (min i 5)).any fun o => decide (o.n = m.n)))
  | none => false
def badMs (b : Bool) (ms : List Mb) : Nat → Bool
  | 0 => b
  | s + 1 => badMs b ms s || badM ms s
def badI (zs : List Int) (i : Nat) : Bool := match zs[i]? with
  | some z => !nodeB z || (decide (0 < (i : Int)) && decide (z ≤ (zs[i - 1]?).getD 0))
  | none => false
def badIs (b : Bool) (zs : List Int) : Nat → Bool
  | 0 => b
  | s + 1 => badIs b zs s || badI zs s
def checkB (e : Int) (ms : List Mb) (zs : List Int) : Bool := !badIs (badMs (badA e ms) ms ms.length) zs zs.length
theorem C9 {A A2 : Nat → Prop} {w : World} {cv sv : Value} {e : Int} {ms : List Mb} {zs : List Int} (hR : MRow A w cv ms) (hI : IRow A2 w sv zs) :
    Rt Try.prog 9 [.agg #[.int .i64 e, cv, sv]] w fun r w' => r = .int .i64 (if checkB e ms zs then 0 else 1) ∧ Ext w w' := by
  obtain ⟨ca, cc, rfl, hcc, hlm⟩ := hR.form
  obtain ⟨sa, sc, rfl, -, hlz⟩ := hI.form
  have hW := hWw
  have hFF := hFw
  have hE : Ext w w := Keep.refl _ _
  refine rt_body Try.func9 rfl Try.ntmps9 rfl ?_
  refine wc_seq ?_
  refine wc_region ?_
  refine wl_box hW rfl rfl rfl rfl ?_
  intro b1 w1 hl1 hB1 hx1
  have g1 : w.heap.size ≤ b1 := Nat.le_trans hE.size hl1
  replace hE := hE.trans hx1
  refine wl_val hW rfl rfl (x_assign rfl) ?_
  refine wl_nil ?_
  refine nx_then ?_
  refine wc_seq ?_
  refine wc_cut [(1, .pointer (some ⟨b1, 0, none⟩)), (3, .bool (badA e ms))] (fun w' => Ext w w' ∧ Blk w' b1 [.int .i64 e, .slice ca ms.length cc, .slice sa zs.length sc] 27) ?_ ?_
  · refine wc_region ?_
    refine wl_val hW rfl rfl (x_fieldAddr Try.underlying27 rfl fl3.siz rfl) ?_
    refine wl_val hW rfl rfl (x_load fl3 rfl (hB1.cell (o := 0) rfl)) ?_
    refine wl_val hW rfl rfl (x_lss rfl rfl) ?_
    refine wl_val hW rfl rfl (x_move rfl) ?_
    refine wl_dcases (d := 11) rfl (fun hg11 => ?_) (fun hg11 => ?_)
    · refine wl_off hW rfl rfl ?_
      refine wl_off hW rfl rfl ?_
      refine wl_off hW rfl rfl ?_
      refine wl_val hW rfl rfl (x_pickT rfl rfl) ?_
      refine wl_val hW rfl rfl (x_move rfl) ?_
      refine wl_off hW rfl rfl ?_
      refine wl_off hW rfl rfl ?_
      refine wl_off hW rfl rfl ?_
      refine wl_off hW rfl rfl ?_
      refine wl_val hW rfl rfl (x_pickT rfl rfl) ?_
      refine wl_val hW rfl rfl (x_move rfl) ?_
      refine wl_off hW rfl rfl ?_
      refine wl_off hW rfl rfl ?_
      refine wl_off hW rfl rfl ?_
      refine wl_off hW rfl rfl ?_
      refine wl_off hW rfl rfl ?_
      refine wl_off hW rfl rfl ?_
      refine wl_off hW rfl rfl ?_
      refine wl_off hW rfl rfl ?_
      refine wl_off hW rfl rfl ?_
      refine wl_off hW rfl rfl ?_
      refine wl_val hW rfl rfl (x_pickT rfl rfl) ?_
      refine wl_val hW rfl rfl (x_assign rfl) ?_
      refine wl_nil ?_
      exact nx_cut (by rw [show badA e ms = true from by simp [badA, hg11]]; repeat (first | exact sub_nil | refine sub_cons rfl ?_)) ⟨hE, hB1⟩
    · refine wl_val hW rfl rfl (x_fieldAddr Try.underlying27 rfl fl3.siz rfl) ?_
      refine wl_val hW rfl rfl (x_load fl3 rfl (hB1.cell (o := 0) rfl)) ?_
      refine wl_val hW rfl rfl (x_gtr rfl rfl) ?_
      refine wl_val hW rfl rfl (x_pickF rfl rfl) ?_
      refine wl_val hW rfl rfl (x_move rfl) ?_
      refine wl_dcases (d := 16) rfl (fun hg16 => ?_) (fun hg16 => ?_)
      · refine wl_off hW rfl rfl ?_
        refine wl_off hW rfl rfl ?_
        refine wl_off hW rfl rfl ?_
        refine wl_off hW rfl rfl ?_
        refine wl_val hW rfl rfl (x_pickT rfl rfl) ?_
        refine wl_val hW rfl rfl (x_move rfl) ?_
        refine wl_off hW rfl rfl ?_
        refine wl_off hW rfl rfl ?_
        refine wl_off hW rfl rfl ?_
        refine wl_off hW rfl rfl ?_
        refine wl_off hW rfl rfl ?_
        refine wl_off hW rfl rfl ?_
        refine wl_off hW rfl rfl ?_
        refine wl_off hW rfl rfl ?_
        refine wl_off hW rfl rfl ?_
        refine wl_off hW rfl rfl ?_
        refine wl_val hW rfl rfl (x_pickT rfl rfl) ?_
        refine wl_val hW rfl rfl (x_assign rfl) ?_
        refine wl_nil ?_
        exact nx_cut (by rw [show badA e ms = true from by simp [badA, hg16]]; repeat (first | exact sub_nil | refine sub_cons rfl ?_)) ⟨hE, hB1⟩
      · refine wl_val hW rfl rfl (x_fieldAddr Try.underlying27 rfl fl24.siz rfl) ?_
        refine wl_val hW rfl rfl (x_load fl24 rfl (hB1.cell (o := 1) rfl)) ?_
        refine wl_val hW rfl rfl (x_len Try.underlying24 rfl) ?_
        refine wl_val hW rfl rfl (x_gtr rfl rfl) ?_
        refine wl_val hW rfl rfl (x_pickF rfl rfl) ?_
        refine wl_val hW rfl rfl (x_move rfl) ?_
        refine wl_dcases (d := 22) rfl (fun hg22 => ?_) (fun hg22 => ?_)
        · refine wl_off hW rfl rfl ?_
          refine wl_off hW rfl rfl ?_
          refine wl_off hW rfl rfl ?_
          refine wl_off hW rfl rfl ?_
          refine wl_off hW rfl rfl ?_
          refine wl_off hW rfl rfl ?_
          refine wl_off hW rfl rfl ?_
          refine wl_off hW rfl rfl ?_
          refine wl_off hW rfl rfl ?_
          refine wl_off hW rfl rfl ?_
          refine wl_val hW rfl rfl (x_pickT rfl rfl) ?_
          refine wl_val hW rfl rfl (x_assign rfl) ?_
          refine wl_nil ?_
          exact nx_cut (by rw [show badA e ms = true from by unfold badA; rw [decide_eq_true hg22]; simp]; repeat (first | exact sub_nil | refine sub_cons rfl ?_)) ⟨hE, hB1⟩
        · refine wl_val hW rfl rfl (x_fieldAddr Try.underlying27 rfl fl24.siz rfl) ?_
          refine wl_val hW rfl rfl (x_load fl24 rfl (hB1.cell (o := 1) rfl)) ?_
          refine wl_val hW rfl rfl (x_len Try.underlying24 rfl) ?_
          refine wl_val hW rfl rfl (x_gtr rfl rfl) ?_
          refine wl_val hW rfl rfl (x_move rfl) ?_
          refine wl_dcases (d := 27) rfl (fun hg27 => ?_) (fun hg27 => ?_)
          · refine wl_val hW rfl rfl (x_fieldAddr Try.underlying27 rfl fl24.siz rfl) ?_
            refine wl_val hW rfl rfl (x_load fl24 rfl (hB1.cell (o := 1) rfl)) ?_
            refine wl_call hW rfl rfl (x_call en25 rfl) ((C25 (hR.ext hE)).inF hFF) ?_
            rintro _ wC ⟨rfl, hxC⟩
            replace hB1 := hB1.ext hxC
            replace hE := hE.trans hxC
            refine wl_val hW rfl rfl (x_not rfl) ?_
            refine wl_val hW rfl rfl (x_pickT rfl rfl) ?_
            refine wl_val hW rfl rfl (x_pickF rfl rfl) ?_
            refine wl_val hW rfl rfl (x_assign rfl) ?_
            refine wl_nil ?_
            exact nx_cut (by rw [show badA e ms = !(ms.any (·.w)) from by unfold badA; rw [decide_eq_false hg11, decide_eq_false hg16, decide_eq_false hg22, decide_eq_true hg27]; simp]; repeat (first | exact sub_nil | refine sub_cons rfl ?_)) ⟨hE, hB1⟩
          · refine wl_off hW rfl rfl ?_
            refine wl_off hW rfl rfl ?_
            refine wl_off hW rfl rfl ?_
            refine wl_off hW rfl rfl ?_
            refine wl_val hW rfl rfl (x_pickF rfl rfl) ?_
            refine wl_val hW rfl rfl (x_pickF rfl rfl) ?_
            refine wl_val hW rfl rfl (x_assign rfl) ?_
            refine wl_nil ?_
            exact nx_cut (by rw [show badA e ms = false from by unfold badA; rw [decide_eq_false hg11, decide_eq_false hg16, decide_eq_false hg22, decide_eq_false hg27]; simp]; repeat (first | exact sub_nil | refine sub_cons rfl ?_)) ⟨hE, hB1⟩
  · rintro w' ⟨hE, hB1⟩
    refine nx_then ?_
    refine wc_seq ?_
    refine wc_seq ?_
    refine wc_region ?_
    refine wl_val hW rfl rfl (x_fieldAddr Try.underlying27 rfl fl24.siz rfl) ?_
    refine wl_val hW rfl rfl (x_load fl24 rfl (hB1.cell (o := 1) rfl)) ?_
    refine wl_val hW rfl rfl (x_len Try.underlying24 rfl) ?_
    refine wl_val hW rfl rfl (x_move rfl) ?_
    refine wl_nil ?_
    refine nx_then ?_
    refine wc_block ?_
    refine wc_loop (σ := Nat) (fun s => [(1, .pointer (some ⟨b1, 0, none⟩)), (3, .bool (badMs (badA e ms) ms s)), (35, .slice ca ms.length cc), (36, .int .i64 (ms.length : Nat)), (37, .int .i64 (s : Nat))]) (fun s w' => s ≤ ms.length ∧ Ext w w' ∧ Blk w' b1 [.int .i64 e, .slice ca ms.length cc, .slice sa zs.length sc] 27) (fun s => ms.length - s) 0 ?_ ?_ ?_
    · exact ⟨Nat.zero_le _, hE, hB1⟩
    · repeat (first | exact sub_nil | refine sub_cons rfl ?_)
    · rintro s wr ⟨hs, hE, hB1⟩
      refine wc_seq ?_
      refine wc_region ?_
      refine wl_val hW rfl rfl (x_lss rfl rfl) ?_
      refine wl_nil ?_
      refine nx_then ?_
      refine wc_seq ?_
      refine wc_dec rfl (fun hc => ?_) (fun hc => ?_)
      · refine wc_skip ?_
        refine nx_then ?_
        refine wc_seq ?_
        refine wc_block ?_
        refine wc_seq ?_
        replace hc : ((s : Nat) : Int) < ms.length := hc
        have hlt : s < ms.length := by omega
        have hRr := hR.ext hE
        obtain ⟨b, o, cap', e1, -, hC40⟩ := hRr.at s hlt
        cases e1
        have hbm : badM ms s = (!nodeB ms[s].n || (!bornB ms[s].b || ((ms.take (min s 5)).any fun o => decide (o.n = ms[s].n)))) := by unfold badM; rw [List.getElem?_eq_getElem hlt]
        have hbs : badMs (badA e ms) ms (s + 1) = (badMs (badA e ms) ms s || badM ms s) := rfl
        have hEr := hE
        refine wc_region ?_
        refine wl_val hW rfl rfl (x_move rfl) ?_
        refine wl_val hW rfl rfl (x_indexAddr Try.underlying24 ag35.siz rfl rfl (by omega) (by omega)) ?_
        refine wl_val hW rfl rfl (x_loadA ag35 rfl hC40 rfl) ?_
        refine wl_alloc (cs := [.int .i64 0, .int .i64 0, .bool false]) hW rfl rfl Try.zeroValue35 rfl ?_
        intro b5 w5 hl5 hB5 hx5
        have g5 : w.heap.size ≤ b5 := Nat.le_trans hE.size hl5
        have n5_1 : b5 ≠ b1 := Nat.ne_of_gt (Nat.lt_of_lt_of_le hB1.lt hl5)
        replace hB1 := hB1.ext hx5
        replace hE := hE.trans hx5
        refine wl_val hW rfl rfl (x_assign rfl) ?_
        refine wl_storeA hW rfl ag35 rfl rfl (cellsM_one _) rfl hB5 rfl ?_
        intro wS hBS hkS
        replace hB1 := hB1.keep hkS n5_1.symm
        replace hB5 := hBS
        clear hBS
        replace hE := hE.store hkS g5
        refine wl_nil ?_
        refine nx_then ?_
        have hxr : Ext wr wS := Keep.store hx5 hkS hl5
        refine wc_cut [(1, .pointer (some ⟨b1, 0, none⟩)), (3, .bool (badMs (badA e ms) ms (s + 1))), (35, .slice (some ⟨b, o, none⟩) ms.length cc), (36, .int .i64 (ms.length : Nat)), (37, .int .i64 (s : Nat))] (fun w' => Ext w w' ∧ Blk w' b1 [.int .i64 e, .slice (some ⟨b, o, none⟩) ms.length cc, .slice sa zs.length sc] 27) ?_ ?_
        · refine wc_region ?_
          refine wl_val hW rfl rfl (x_move rfl) ?_
          refine wl_val hW rfl rfl (x_move rfl) ?_
          refine wl_bcases (d := 43) rfl (fun hg43 => ?_) (fun hg43 => ?_)
          · refine wl_off hW rfl rfl ?_
            refine wl_off hW rfl rfl ?_
            refine wl_off hW rfl rfl ?_
            refine wl_off hW rfl rfl ?_
            refine wl_val hW rfl rfl (x_pickT rfl rfl) ?_
            refine wl_val hW rfl rfl (x_move rfl) ?_
            refine wl_off hW rfl rfl ?_
            refine wl_off hW rfl rfl ?_
            refine wl_off hW rfl rfl ?_
            refine wl_off hW rfl rfl ?_
            refine wl_val hW rfl rfl (x_pickT rfl rfl) ?_
            refine wl_val hW rfl rfl (x_move rfl) ?_
            refine wl_off hW rfl rfl ?_
            refine wl_off hW rfl rfl ?_
            refine wl_off hW rfl rfl ?_
            refine wl_off hW rfl rfl ?_
            refine wl_off hW rfl rfl ?_
            refine wl_off hW rfl rfl ?_
            refine wl_off hW rfl rfl ?_
            refine wl_val hW rfl rfl (x_pickT rfl rfl) ?_
            refine wl_val hW rfl rfl (x_assign rfl) ?_
            refine wl_nil ?_
            exact nx_cut (by rw [hbs, hg43, Bool.true_or]; repeat (first | exact sub_nil | refine sub_cons rfl ?_)) ⟨hE, hB1⟩
          · refine wl_val hW rfl rfl (x_fieldAddr Try.underlying35 rfl fl3.siz rfl) ?_
            refine wl_val hW rfl rfl (x_load fl3 rfl (hB5.cell (o := 0) rfl)) ?_
            refine wl_call hW rfl rfl (x_call en20 rfl) ((C20).inF hFF) ?_
            rintro _ wC ⟨rfl, hxC⟩
            replace hB1 := hB1.ext hxC
            replace hB5 := hB5.ext hxC
            replace hE := hE.trans hxC
            refine wl_val hW rfl rfl (x_not rfl) ?_
            refine wl_val hW rfl rfl (x_pickF rfl rfl) ?_
            refine wl_val hW rfl rfl (x_move rfl) ?_
            refine wl_bcases (d := 49) rfl (fun hg49 => ?_) (fun hg49 => ?_)
            · refine wl_off hW rfl rfl ?_
              refine wl_off hW rfl rfl ?_
              refine wl_off hW rfl rfl ?_
              refine wl_off hW rfl rfl ?_
              refine wl_val hW rfl rfl (x_pickT rfl rfl) ?_
              refine wl_val hW rfl rfl (x_move rfl) ?_
              refine wl_off hW rfl rfl ?_
              refine wl_off hW rfl rfl ?_
              refine wl_off hW rfl rfl ?_
              refine wl_off hW rfl rfl ?_
              refine wl_off hW rfl rfl ?_
              refine wl_off hW rfl rfl ?_
              refine wl_off hW rfl rfl ?_
              refine wl_val hW rfl rfl (x_pickT rfl rfl) ?_
              refine wl_val hW rfl rfl (x_assign rfl) ?_
              refine wl_nil ?_
              exact nx_cut (by rw [hbs, hg43, Bool.false_or, hbm, hg49, Bool.true_or]; repeat (first | exact sub_nil | refine sub_cons rfl ?_)) ⟨hE, hB1⟩
            · refine wl_val hW rfl rfl (x_fieldAddr Try.underlying35 rfl fl3.siz rfl) ?_
              refine wl_val hW rfl rfl (x_load fl3 rfl (hB5.cell (o := 1) rfl)) ?_
              refine wl_call hW rfl rfl (x_call en21 rfl) ((C21).inF hFF) ?_
              rintro _ wC ⟨rfl, hxC⟩
              replace hB1 := hB1.ext hxC
              replace hB5 := hB5.ext hxC
              replace hE := hE.trans hxC
              refine wl_val hW rfl rfl (x_not rfl) ?_
              refine wl_val hW rfl rfl (x_pickF rfl rfl) ?_
              refine wl_val hW rfl rfl (x_move rfl) ?_
              refine wl_bcases (d := 55) rfl (fun hg55 => ?_) (fun hg55 => ?_)
              · refine wl_off hW rfl rfl ?_
                refine wl_off hW rfl rfl ?_
                refine wl_off hW rfl rfl ?_
                refine wl_off hW rfl rfl ?_
                refine wl_off hW rfl rfl ?_
                refine wl_off hW rfl rfl ?_
                refine wl_off hW rfl rfl ?_
                refine wl_val hW rfl rfl (x_pickT rfl rfl) ?_
                refine wl_val hW rfl rfl (x_assign rfl) ?_
                refine wl_nil ?_
                exact nx_cut (by rw [hbs, hg43, Bool.false_or, hbm, hg49, Bool.false_or, hg55, Bool.true_or]; repeat (first | exact sub_nil | refine sub_cons rfl ?_)) ⟨hE, hB1⟩
              · refine wl_val hW rfl rfl (x_fieldAddr Try.underlying27 rfl fl24.siz rfl) ?_
                refine wl_val hW rfl rfl (x_load fl24 rfl (hB1.cell (o := 1) rfl)) ?_
                refine wl_val hW rfl rfl (x_move rfl) ?_
                refine wl_val hW rfl rfl (x_minn (i := s) (j := 5) rfl rfl) ?_
                refine wl_val hW rfl rfl (x_sliceh (j := min s 5) Try.underlying24 ag35.siz rfl rfl (by omega)) ?_
                refine wl_val hW rfl rfl (x_makeFunc (xs := [.tmp 5]) rfl) ?_
                have hRs := ((hR.ext hE).slice (i := 0) (j := min s 5) (c' := cc - 0) (ad' := if cc = 0 then some ⟨b, o, none⟩ else (some (⟨b, o, none⟩ : Addr)).map (·.add (0 * 3))) (by omega) (Nat.zero_le _) (by omega) (fun h => by rw [if_neg (by omega)]))
                rw [List.drop_zero] at hRs
                refine wl_call hW rfl rfl (x_call en28 rfl) ((C28 (cap := [.pointer (some ⟨b5, 0, none⟩)]) (pr := fun o => decide (o.n = ms[s].n)) hRs en29 (fun o w' hx => C29 (m := ms[s]) (hB5.ext hx))).inF hFF) ?_
                rintro _ wC ⟨rfl, hxC⟩
                replace hB1 := hB1.ext hxC
                replace hB5 := hB5.ext hxC
                replace hE := hE.trans hxC
                refine wl_val hW rfl rfl (x_pickF rfl rfl) ?_
                refine wl_val hW rfl rfl (x_assign rfl) ?_
                refine wl_nil ?_
                exact nx_cut (by rw [hbs, hg43, Bool.false_or, hbm, hg49, Bool.false_or, hg55, Bool.false_or]; repeat (first | exact sub_nil | refine sub_cons rfl ?_)) ⟨hE, hB1⟩
        · rintro w' ⟨hE, hB1⟩
          refine nx_block ?_
          refine nx_then ?_
          refine wc_region ?_
          refine wl_val hW rfl rfl (x_inc (s := s) rfl (by omega)) ?_
          refine wl_val hW rfl rfl (x_move rfl) ?_
          refine wl_nil ?_
          exact nx_next (s + 1) (by omega) ⟨hlt, hE, hB1⟩ (by repeat (first | exact sub_nil | refine sub_cons rfl ?_))
      · refine wc_exit ?_
        have hse : s = ms.length := by have h' : ¬ ((s : Nat) : Int) < ms.length := hc; omega
        rw [hse]
        refine nx_then_exit ?_
        refine nx_then_exit ?_
        refine nx_block_exit ?_
        refine nx_then ?_
        refine wc_seq ?_
        refine wc_seq ?_
        refine wc_region ?_
        refine wl_val hW rfl rfl (x_fieldAddr Try.underlying27 rfl fl25.siz rfl) ?_
        refine wl_val hW rfl rfl (x_load fl25 rfl (hB1.cell (o := 2) rfl)) ?_
        refine wl_val hW rfl rfl (x_len Try.underlying25 rfl) ?_
        refine wl_val hW rfl rfl (x_move rfl) ?_
        refine wl_nil ?_
        refine nx_then ?_
        refine wc_block ?_
        refine wc_loop (σ := Nat) (fun s => [(1, .pointer (some ⟨b1, 0, none⟩)), (3, .bool (badIs (badMs (badA e ms) ms ms.length) zs s)), (66, .slice sa zs.length sc), (67, .int .i64 (zs.length : Nat)), (68, .int .i64 (s : Nat))]) (fun s w' => s ≤ zs.length ∧ Ext w w' ∧ Blk w' b1 [.int .i64 e, .slice ca ms.length cc, .slice sa zs.length sc] 27) (fun s => zs.length - s) 0 ?_ ?_ ?_
        · exact ⟨Nat.zero_le _, hE, hB1⟩
        · repeat (first | exact sub_nil | refine sub_cons rfl ?_)
        · rintro s wr ⟨hs, hE, hB1⟩
          refine wc_seq ?_
          refine wc_region ?_
          refine wl_val hW rfl rfl (x_lss rfl rfl) ?_
          refine wl_nil ?_
          refine nx_then ?_
          refine wc_seq ?_
          refine wc_dec rfl (fun hc => ?_) (fun hc => ?_)
          · refine wc_skip ?_
            refine nx_then ?_
            refine wc_seq ?_
            refine wc_block ?_
            refine wc_seq ?_
            replace hc : ((s : Nat) : Int) < zs.length := hc
            have hlt : s < zs.length := by omega
            obtain ⟨b, o, cap', e1, -, hC71⟩ := (hI.ext hE).at s hlt
            cases e1
            have hbm : badI zs s = (!nodeB zs[s] || (decide (0 < (s : Int)) && decide (zs[s] ≤ (zs[s - 1]?).getD 0))) := by unfold badI; rw [List.getElem?_eq_getElem hlt]
            have hbs : badIs (badMs (badA e ms) ms ms.length) zs (s + 1) = (badIs (badMs (badA e ms) ms ms.length) zs s || badI zs s) := rfl
            refine wc_region ?_
            refine wl_val hW rfl rfl (x_move rfl) ?_
            refine wl_val hW rfl rfl (x_indexAddr Try.underlying25 fl3.siz rfl rfl (by omega) (by omega)) ?_
            refine wl_val hW rfl rfl (x_load fl3 rfl (hC71 0 _ rfl)) ?_
            refine wl_val hW rfl rfl (x_assign rfl) ?_
            refine wl_val hW rfl rfl (x_assign rfl) ?_
            refine wl_nil ?_
            refine nx_then ?_
            refine wc_cut [(1, .pointer (some ⟨b1, 0, none⟩)), (3, .bool (badIs (badMs (badA e ms) ms ms.length) zs (s + 1))), (66, .slice (some ⟨b, o, none⟩) zs.length sc), (67, .int .i64 (zs.length : Nat)), (68, .int .i64 (s : Nat))] (fun w' => Ext w w' ∧ Blk w' b1 [.int .i64 e, .slice ca ms.length cc, .slice (some ⟨b, o, none⟩) zs.length sc] 27) ?_ ?_
            · refine wc_region ?_
              refine wl_val hW rfl rfl (x_move rfl) ?_
              refine wl_val hW rfl rfl (x_move rfl) ?_
              refine wl_bcases (d := 74) rfl (fun hg74 => ?_) (fun hg74 => ?_)
              · refine wl_off hW rfl rfl ?_
                refine wl_off hW rfl rfl ?_
                refine wl_off hW rfl rfl ?_
                refine wl_val hW rfl rfl (x_pickT rfl rfl) ?_
                refine wl_val hW rfl rfl (x_move rfl) ?_
                refine wl_off hW rfl rfl ?_
                refine wl_off hW rfl rfl ?_
                refine wl_off hW rfl rfl ?_
                refine wl_off hW rfl rfl ?_
                refine wl_off hW rfl rfl ?_
                refine wl_off hW rfl rfl ?_
                refine wl_off hW rfl rfl ?_
                refine wl_off hW rfl rfl ?_
                refine wl_off hW rfl rfl ?_
                refine wl_off hW rfl rfl ?_
                refine wl_off hW rfl rfl ?_
                refine wl_off hW rfl rfl ?_
                refine wl_val hW rfl rfl (x_pickT rfl rfl) ?_
                refine wl_val hW rfl rfl (x_assign rfl) ?_
                refine wl_nil ?_
                exact nx_cut (by rw [hbs, hg74, Bool.true_or]; repeat (first | exact sub_nil | refine sub_cons rfl ?_)) ⟨hE, hB1⟩
              · refine wl_val hW rfl rfl (x_move rfl) ?_
                refine wl_call hW rfl rfl (x_call en20 rfl) ((C20).inF hFF) ?_
                rintro _ wC ⟨rfl, hxC⟩
                replace hB1 := hB1.ext hxC
                replace hE := hE.trans hxC
                refine wl_val hW rfl rfl (x_not rfl) ?_
                refine wl_val hW rfl rfl (x_pickF rfl rfl) ?_
                refine wl_val hW rfl rfl (x_move rfl) ?_
                refine wl_bcases (d := 79) rfl (fun hg79 => ?_) (fun hg79 => ?_)
                · refine wl_off hW rfl rfl ?_
                  refine wl_off hW rfl rfl ?_
                  refine wl_off hW rfl rfl ?_
                  refine wl_off hW rfl rfl ?_
                  refine wl_off hW rfl rfl ?_
                  refine wl_off hW rfl rfl ?_
                  refine wl_off hW rfl rfl ?_
                  refine wl_off hW rfl rfl ?_
                  refine wl_off hW rfl rfl ?_
                  refine wl_off hW rfl rfl ?_
                  refine wl_off hW rfl rfl ?_
                  refine wl_off hW rfl rfl ?_
                  refine wl_val hW rfl rfl (x_pickT rfl rfl) ?_
                  refine wl_val hW rfl rfl (x_assign rfl) ?_
                  refine wl_nil ?_
                  exact nx_cut (by rw [hbs, hg74, Bool.false_or, hbm, hg79, Bool.true_or]; repeat (first | exact sub_nil | refine sub_cons rfl ?_)) ⟨hE, hB1⟩
                · refine wl_val hW rfl rfl (x_move rfl) ?_
                  refine wl_val hW rfl rfl (x_gtr rfl rfl) ?_
                  refine wl_val hW rfl rfl (x_move rfl) ?_
                  refine wl_dcases (d := 82) rfl (fun hg82 => ?_) (fun hg82 => ?_)
                  · have hs0 : 0 < s := by have h' : (0 : Int) < ((s : Nat) : Int) := hg82; omega
                    obtain ⟨b', o', cap', e2, -, hC88⟩ := (hI.ext hE).at (s - 1) (by omega)
                    cases e2
                    refine wl_val hW rfl rfl (x_move rfl) ?_
                    refine wl_val hW rfl rfl (x_fieldAddr Try.underlying27 rfl fl25.siz rfl) ?_
                    refine wl_val hW rfl rfl (x_load fl25 rfl (hB1.cell (o := 2) rfl)) ?_
                    refine wl_val hW rfl rfl (x_move rfl) ?_
                    refine wl_val hW rfl rfl (x_subn (i := s) (j := 1) rfl rfl (by omega) (by omega)) ?_
                    refine wl_val hW rfl rfl (x_indexAddr Try.underlying25 fl3.siz rfl rfl (by omega) (by omega)) ?_
                    refine wl_val hW rfl rfl (x_load fl3 rfl (hC88 0 _ rfl)) ?_
                    refine wl_val hW rfl rfl (x_leq rfl rfl) ?_
                    refine wl_val hW rfl rfl (x_pickT rfl rfl) ?_
                    refine wl_val hW rfl rfl (x_pickF rfl rfl) ?_
                    refine wl_val hW rfl rfl (x_assign rfl) ?_
                    refine wl_nil ?_
                    exact nx_cut (by rw [hbs, hg74, Bool.false_or, hbm, hg79, Bool.false_or, decide_eq_true hg82, Bool.true_and, List.getElem?_eq_getElem (show s - 1 < zs.length by omega)]; repeat (first | exact sub_nil | refine sub_cons rfl ?_)) ⟨hE, hB1⟩
                  · refine wl_off hW rfl rfl ?_
                    refine wl_off hW rfl rfl ?_
                    refine wl_off hW rfl rfl ?_
                    refine wl_off hW rfl rfl ?_
                    refine wl_off hW rfl rfl ?_
                    refine wl_off hW rfl rfl ?_
                    refine wl_off hW rfl rfl ?_
                    refine wl_off hW rfl rfl ?_
                    refine wl_val hW rfl rfl (x_pickF rfl rfl) ?_
                    refine wl_val hW rfl rfl (x_pickF rfl rfl) ?_
                    refine wl_val hW rfl rfl (x_assign rfl) ?_
                    refine wl_nil ?_
                    exact nx_cut (by rw [hbs, hg74, Bool.false_or, hbm, hg79, Bool.false_or, decide_eq_false hg82, Bool.false_and]; repeat (first | exact sub_nil | refine sub_cons rfl ?_)) ⟨hE, hB1⟩
            · rintro w' ⟨hE, hB1⟩
              refine nx_block ?_
              refine nx_then ?_
              refine wc_region ?_
              refine wl_val hW rfl rfl (x_inc (s := s) rfl (by omega)) ?_
              refine wl_val hW rfl rfl (x_move rfl) ?_
              refine wl_nil ?_
              exact nx_next (s + 1) (by omega) ⟨hlt, hE, hB1⟩ (by repeat (first | exact sub_nil | refine sub_cons rfl ?_))
          · refine wc_exit ?_
            have hse : s = zs.length := by have h' : ¬ ((s : Nat) : Int) < zs.length := hc; omega
            rw [hse]
            refine nx_then_exit ?_
            refine nx_then_exit ?_
            refine nx_block_exit ?_
            refine nx_then ?_
            refine wc_seq ?_
            refine wc_seq ?_
            refine wc_region ?_
            refine wl_val hW rfl rfl (x_move rfl) ?_
            refine wl_nil ?_
            refine nx_then ?_
            refine wc_bool rfl (fun hc => ?_) (fun hc => ?_)
            · refine wc_seq ?_
              refine wc_region ?_
              refine wl_val hW rfl rfl (x_assign rfl) ?_
              refine wl_nil ?_
              refine nx_then ?_
              refine wc_ret ?_
              refine nx_then_ret ?_
              exact ends_ret (res_tmp Try.results9 rfl) ⟨by rw [show checkB e ms zs = false from by unfold checkB; rw [hc]; rfl]; rfl, hE⟩
            · refine wc_skip ?_
              refine nx_then ?_
              refine wc_seq ?_
              refine wc_region ?_
              refine wl_val hW rfl rfl (x_assign rfl) ?_
              refine wl_nil ?_
              refine nx_then ?_
              refine wc_ret ?_
              exact ends_ret (res_tmp Try.results9 rfl) ⟨by rw [show checkB e ms zs = true from by unfold checkB; rw [hc]; rfl]; rfl, hE⟩
end Go.Proofs.Ytiaikajibefieaa.K

