/- Walk: the known story of three nodes. -/
import Derived.Test.YtiaikajibefieaaTo
namespace Go.Proofs.Ytiaikajibefieaa.K
open Go Go.RowKit
set_option linter.unusedVariables false
set_option linter.unusedSimpArgs false
section
variable {m : Nat} {D : List Deferred} {L : Env} {w : World} {ty t' : TypeId} {x y z : Operand}
theorem build32 {a b : Int} (w : World) : (Instr.build 32 [(0, Value.int .i64 a), (1, Value.int .i64 b)].toArray).run Try.prog w = .ok (.agg (cellsC ⟨a, b, 0, 0⟩).toArray) w := by
  simp [Instr.build, run_underlying Try.underlying32, Try.zeroValue32, fl3.siz w]
  rfl
theorem x_build32 {a b : Int} (hx : ev L x = some (.int .i64 a)) (hy : ev L y = some (.int .i64 b)) : Xv Try.prog m D L (.build 32 #[(0, x), (1, y)]) ty w (.agg (cellsC ⟨a, b, 0, 0⟩).toArray) w :=
  x_build (parts := [(0, x), (1, y)]) Try.underlying32 Try.zeroValue32 (pv := [(0, .int .i64 a), (1, .int .i64 b)]) (fun a h => by show [(0, a.eval x), (1, a.eval y)] = _; rw [h.ev hx, h.ev hy]) build32
theorem build32b {a b c : Int} (w : World) : (Instr.build 32 [(0, Value.int .i64 a), (1, Value.int .i64 b), (3, Value.int .i64 c)].toArray).run Try.prog w = .ok (.agg (cellsC ⟨a, b, 0, c⟩).toArray) w := by
  simp [Instr.build, run_underlying Try.underlying32, Try.zeroValue32, fl3.siz w]
  rfl
theorem x_build32b {a b c : Int} (hx : ev L x = some (.int .i64 a)) (hy : ev L y = some (.int .i64 b)) (hz : ev L z = some (.int .i64 c)) : Xv Try.prog m D L (.build 32 #[(0, x), (1, y), (3, z)]) ty w (.agg (cellsC ⟨a, b, 0, c⟩).toArray) w :=
  x_build (parts := [(0, x), (1, y), (3, z)]) Try.underlying32 Try.zeroValue32 (pv := [(0, .int .i64 a), (1, .int .i64 b), (3, .int .i64 c)]) (fun a h => by show [(0, a.eval x), (1, a.eval y), (3, a.eval z)] = _; rw [h.ev hx, h.ev hy, h.ev hz]) build32b
end
/-- A block that a row fills. -/
theorem grow_blk {α : Type} {sz : Nat} {enc : α → List Value} {w : World} {b : Nat} {cs : List Value} {t : TypeId} {xs : List α} {n c : Nat} (henc : ∀ x, (enc x).length = sz) (hB : Blk w b cs t) (hcs : cs = xs.flatMap enc) (hn : n = xs.length) (hc : n ≤ c) (hl : xs.length ≤ 1099511627776) : GRow sz enc (fun k => k = b) w (.slice (some ⟨b, 0, none⟩) n c) xs := by
  subst hn; subst hcs
  exact ⟨_, _, rfl, hc, hl, fun hne => ⟨b, 0, rfl, rfl, hB.lt, fun i x hi j u hj => by rw [Nat.zero_add]; exact hB.cell (gflat_at henc xs i x hi j u hj)⟩⟩
theorem known1 : runF (0, [], []) [⟨1, 3, 0, 0⟩, ⟨1, 4, 0, 0⟩] = (2, [⟨3, 0, true⟩, ⟨4, 0, false⟩], []) := by kernel_rfl
theorem known2 : (doF 2 [⟨3, 0, true⟩, ⟨4, 0, false⟩] [] ⟨2, 3, 0, 0⟩).1 = 23 := by kernel_rfl
theorem known3 : runF (2, [⟨3, 0, true⟩, ⟨4, 0, false⟩], []) [⟨3, 4, 0, 2⟩, ⟨2, 3, 0, 0⟩] = (3, [⟨4, 0, true⟩], []) := by kernel_rfl
theorem C13k {A A2 A3 : Nat → Prop} {w : World} {cv sv lv : Value} {e e' : Int} {ms ms' : List Mb} {zs zs' : List Int} {l : List Cm} (hR : MRow A w cv ms) (hI : IRow A2 w sv zs) (hL : CRow A3 w lv l) (hk : runF (e, ms, zs) l = (e', ms', zs')) :
    Rt Try.prog 13 [.agg #[.int .i64 e, cv, sv], lv] w fun r w' => (∃ cv' sv', r = .agg #[.int .i64 e', cv', sv'] ∧ MOwn w.heap.size w' cv' ms' ∧ IOwn w.heap.size w' sv' zs') ∧ Ext w w' := by
  have := C13 (e := e) hR hI hL
  rw [hk] at this; exact this
theorem C8k {A A2 : Nat → Prop} {w : World} {cv sv : Value} {e k : Int} {ms : List Mb} {zs : List Int} {x : Cm} (hR : MRow A w cv ms) (hI : IRow A2 w sv zs) (hk : (doF e ms zs x).1 = k) :
    Rt Try.prog 8 [.agg #[.int .i64 e, cv, sv], .agg (cellsC x).toArray] w fun r w' => (∃ e' ca' cn' cc' sa' sn' sc', r = .tuple #[.agg #[.int .i64 e', .slice ca' cn' cc', .slice sa' sn' sc'], .int .i64 k]) ∧ Ext w w' := by
  refine Rt.mono (C8 (x := x) hR hI) ?_
  rintro r w' ⟨⟨cv', sv', rfl, hM, hZ⟩, hx⟩
  obtain ⟨_, _, rfl, -⟩ := hM.form
  obtain ⟨_, _, rfl, -⟩ := hZ.form
  rw [hk]
  exact ⟨⟨_, _, _, _, _, _, _, rfl⟩, hx⟩
theorem C7 {w : World} : Rt Try.prog 7 [] w fun r w' => r = .bool true ∧ Ext w w' := by
  have hW := hWw
  have hFF := hFw
  have hE : Ext w w := Keep.refl _ _
  refine rt_body Try.func7 rfl Try.ntmps7 rfl ?_
  refine wc_seq ?_
  refine wc_region ?_
  refine wl_val hW rfl rfl (x_assign rfl) ?_
  refine wl_nil ?_
  refine nx_then ?_
  refine wc_seq ?_
  refine wc_region ?_
  refine wl_val hW rfl rfl (x_build27z) ?_
  refine wl_val hW rfl rfl (x_build32 (a := 1) (b := 3) rfl rfl) ?_
  refine wl_val hW rfl rfl (x_build32 (a := 1) (b := 4) rfl rfl) ?_
  refine wl_buildSlice (parts := [(0, .tmp 6), (1, .tmp 7)]) hW rfl rfl Try.underlying22 ag32.siz Try.zeroValue32 rfl rfl rfl (by omega) ?_
  intro b8 w8 hl8 hB8 hx8
  have g8 : w.heap.size ≤ b8 := Nat.le_trans hE.size hl8
  replace hE := hE.trans hx8
  refine wl_call hW rfl rfl (x_call en13 rfl) ((C13k (A := fun _ => True) (A2 := fun _ => True) (l := [⟨1, 3, 0, 0⟩, ⟨1, 4, 0, 0⟩]) grow_nil grow_nil (grow_blk cellsC_len hB8 rfl rfl (Nat.le_refl _) (by decide)) known1).inF hFF) ?_
  rintro _ wC ⟨⟨cv1, sv1, rfl, hM, hZ⟩, hxC⟩
  obtain ⟨ma, mc, rfl, -⟩ := hM.form
  obtain ⟨za, zc, rfl, -⟩ := hZ.form
  replace hB8 := hB8.ext hxC
  replace hE := hE.trans hxC
  refine wl_alloc (cs := [.int .i64 0, .slice none 0 0, .slice none 0 0]) hW rfl rfl Try.zeroValue27 rfl ?_
  intro b1 w1 hl1 hB1 hx1
  have g1 : w.heap.size ≤ b1 := Nat.le_trans hE.size hl1
  have n1_8 : b1 ≠ b8 := Nat.ne_of_gt (Nat.lt_of_lt_of_le hB8.lt hl1)
  replace hM := hM.ext hx1
  replace hZ := hZ.ext hx1
  replace hB8 := hB8.ext hx1
  replace hE := hE.trans hx1
  refine wl_storeA hW rfl ag27 rfl rfl rfl rfl hB1 rfl ?_
  intro wS hBS hkS
  replace hM := hM.keep hkS (fun b hb => hM.ne hb hB1 (by decide))
  replace hZ := hZ.keep hkS (fun b hb => hZ.ne hb hB1 (by decide))
  replace hB8 := hB8.keep hkS n1_8.symm
  replace hB1 := hBS
  clear hBS
  replace hE := hE.store hkS g1
  refine wl_nil ?_
  refine nx_then ?_
  refine wc_seq ?_
  refine wc_region ?_
  refine wl_val hW rfl rfl (x_loadA ag27 rfl hB1.cells rfl) ?_
  refine wl_val hW rfl rfl (x_build32 (a := 2) (b := 3) rfl rfl) ?_
  refine wl_call hW rfl rfl (x_call en8 rfl) ((C8k (hM.row cellsM_len (by decide)) (hZ.row cellsI_len (by decide)) known2).inF hFF) ?_
  rintro _ wC ⟨⟨e2, ca2, cn2, cc2, sa2, sn2, sc2, rfl⟩, hxC⟩
  replace hM := hM.ext hxC
  replace hZ := hZ.ext hxC
  replace hB8 := hB8.ext hxC
  replace hB1 := hB1.ext hxC
  replace hE := hE.trans hxC
  refine wl_val hW rfl rfl (x_move rfl) ?_
  refine wl_val hW rfl rfl (x_extract rfl rfl) ?_
  refine wl_val hW rfl rfl (x_extract rfl rfl) ?_
  refine wl_alloc (cs := [.int .i64 0, .slice none 0 0, .slice none 0 0]) hW rfl rfl Try.zeroValue27 rfl ?_
  intro b2 w2 hl2 hB2 hx2
  have g2 : w.heap.size ≤ b2 := Nat.le_trans hE.size hl2
  have n2_8 : b2 ≠ b8 := Nat.ne_of_gt (Nat.lt_of_lt_of_le hB8.lt hl2)
  replace hB8 := hB8.ext hx2
  have n2_1 : b2 ≠ b1 := Nat.ne_of_gt (Nat.lt_of_lt_of_le hB1.lt hl2)
  replace hM := hM.ext hx2
  replace hZ := hZ.ext hx2
  replace hB1 := hB1.ext hx2
  replace hE := hE.trans hx2
  refine wl_storeA hW rfl ag27 rfl rfl rfl rfl hB2 rfl ?_
  intro wS hBS hkS
  replace hM := hM.keep hkS (fun b hb => hM.ne hb hB2 (by decide))
  replace hZ := hZ.keep hkS (fun b hb => hZ.ne hb hB2 (by decide))
  replace hB8 := hB8.keep hkS n2_8.symm
  replace hB1 := hB1.keep hkS n2_1.symm
  replace hB2 := hBS
  clear hBS
  replace hE := hE.store hkS g2
  refine wl_val hW rfl rfl (x_assign rfl) ?_
  refine wl_nil ?_
  refine nx_then ?_
  refine wc_seq ?_
  refine wc_region ?_
  refine wl_val hW rfl rfl (x_loadA ag27 rfl hB1.cells rfl) ?_
  refine wl_val hW rfl rfl (x_build32b (a := 3) (b := 4) (c := 2) rfl rfl rfl) ?_
  refine wl_val hW rfl rfl (x_build32 (a := 2) (b := 3) rfl rfl) ?_
  refine wl_buildSlice (parts := [(0, .tmp 17), (1, .tmp 18)]) hW rfl rfl Try.underlying22 ag32.siz Try.zeroValue32 rfl rfl rfl (by omega) ?_
  intro b19 w19 hl19 hB19 hx19
  have g19 : w.heap.size ≤ b19 := Nat.le_trans hE.size hl19
  have n19_8 : b19 ≠ b8 := Nat.ne_of_gt (Nat.lt_of_lt_of_le hB8.lt hl19)
  replace hM := hM.ext hx19
  replace hZ := hZ.ext hx19
  replace hB8 := hB8.ext hx19
  have n19_1 : b19 ≠ b1 := Nat.ne_of_gt (Nat.lt_of_lt_of_le hB1.lt hl19)
  replace hB1 := hB1.ext hx19
  have n19_2 : b19 ≠ b2 := Nat.ne_of_gt (Nat.lt_of_lt_of_le hB2.lt hl19)
  replace hB2 := hB2.ext hx19
  replace hE := hE.trans hx19
  refine wl_call hW rfl rfl (x_call en13 rfl) ((C13k (l := [⟨3, 4, 0, 2⟩, ⟨2, 3, 0, 0⟩]) (hM.row cellsM_len (by decide)) (hZ.row cellsI_len (by decide)) (grow_blk cellsC_len hB19 rfl rfl (Nat.le_refl _) (by decide)) known3).inF hFF) ?_
  rintro _ wC ⟨⟨cv3, sv3, rfl, hM3, hZ3⟩, hxC⟩
  obtain ⟨ma3, mc3, rfl, -⟩ := hM3.form
  obtain ⟨za3, zc3, rfl, -⟩ := hZ3.form
  replace hM := hM.ext hxC
  replace hB8 := hB8.ext hxC
  replace hB1 := hB1.ext hxC
  replace hB2 := hB2.ext hxC
  replace hB19 := hB19.ext hxC
  replace hE := hE.trans hxC
  refine wl_alloc (cs := [.int .i64 0, .slice none 0 0, .slice none 0 0]) hW rfl rfl Try.zeroValue27 rfl ?_
  intro b4 w4 hl4 hB4 hx4
  have g4 : w.heap.size ≤ b4 := Nat.le_trans hE.size hl4
  have n4_8 : b4 ≠ b8 := Nat.ne_of_gt (Nat.lt_of_lt_of_le hB8.lt hl4)
  replace hM := hM.ext hx4
  replace hM3 := hM3.ext hx4
  replace hB8 := hB8.ext hx4
  have n4_1 : b4 ≠ b1 := Nat.ne_of_gt (Nat.lt_of_lt_of_le hB1.lt hl4)
  replace hB1 := hB1.ext hx4
  have n4_2 : b4 ≠ b2 := Nat.ne_of_gt (Nat.lt_of_lt_of_le hB2.lt hl4)
  replace hB2 := hB2.ext hx4
  have n4_19 : b4 ≠ b19 := Nat.ne_of_gt (Nat.lt_of_lt_of_le hB19.lt hl4)
  replace hB19 := hB19.ext hx4
  replace hE := hE.trans hx4
  refine wl_storeA hW rfl ag27 rfl rfl rfl rfl hB4 rfl ?_
  intro wS hBS hkS
  replace hM := hM.keep hkS (fun b hb => hM.ne hb hB4 (by decide))
  replace hM3 := hM3.keep hkS (fun b hb => hM3.ne hb hB4 (by decide))
  replace hB8 := hB8.keep hkS n4_8.symm
  replace hB1 := hB1.keep hkS n4_1.symm
  replace hB2 := hB2.keep hkS n4_2.symm
  replace hB19 := hB19.keep hkS n4_19.symm
  replace hB4 := hBS
  clear hBS
  replace hE := hE.store hkS g4
  refine wl_nil ?_
  refine nx_then ?_
  refine wc_seq ?_
  refine wc_cut [(0, .bool true)] (fun w' => Ext w w') ?_ ?_
  · refine wc_region ?_
    obtain ⟨ad, cap, e, -, -, hr⟩ := hM.row cellsM_len (by decide)
    obtain ⟨g, o, rfl, -, -, hr⟩ := hr (by simp)
    cases e
    obtain ⟨ad3, cap3, e, -, -, hr3⟩ := hM3.row cellsM_len (by decide)
    obtain ⟨g3, o3, rfl, -, -, hr3⟩ := hr3 (by simp)
    cases e
    have hC33 := hr 0 _ rfl
    have hC40 := hr 1 _ rfl
    have hC63 := hr3 0 _ rfl
    refine wl_val hW rfl rfl (x_fieldAddr Try.underlying27 rfl fl3.siz rfl) ?_
    refine wl_val hW rfl rfl (x_load fl3 rfl (hB1.cell (o := 0) rfl)) ?_
    refine wl_val hW rfl rfl (x_eqlT rfl rfl rfl) ?_
    refine wl_val hW rfl rfl (x_move rfl) ?_
    refine wl_val hW rfl rfl (x_fieldAddr Try.underlying27 rfl fl24.siz rfl) ?_
    refine wl_val hW rfl rfl (x_load fl24 rfl (hB1.cell (o := 1) rfl)) ?_
    refine wl_val hW rfl rfl (x_len Try.underlying24 rfl) ?_
    refine wl_val hW rfl rfl (x_eqlT rfl rfl rfl) ?_
    refine wl_val hW rfl rfl (x_pickT rfl rfl) ?_
    refine wl_val hW rfl rfl (x_move rfl) ?_
    refine wl_val hW rfl rfl (x_fieldAddr Try.underlying27 rfl fl24.siz rfl) ?_
    refine wl_val hW rfl rfl (x_load fl24 rfl (hB1.cell (o := 1) rfl)) ?_
    refine wl_val hW rfl rfl (x_indexAddr Try.underlying24 ag35.siz rfl rfl (by decide) (by decide)) ?_
    refine wl_val hW rfl rfl (x_fieldAddr Try.underlying35 rfl fl4.siz rfl) ?_
    refine wl_val hW rfl rfl (x_load fl4 rfl (hC33 2 _ rfl)) ?_
    refine wl_val hW rfl rfl (x_pickT rfl rfl) ?_
    refine wl_val hW rfl rfl (x_move rfl) ?_
    refine wl_val hW rfl rfl (x_fieldAddr Try.underlying27 rfl fl24.siz rfl) ?_
    refine wl_val hW rfl rfl (x_load fl24 rfl (hB1.cell (o := 1) rfl)) ?_
    refine wl_val hW rfl rfl (x_indexAddr Try.underlying24 ag35.siz rfl rfl (by decide) (by decide)) ?_
    refine wl_val hW rfl rfl (x_fieldAddr Try.underlying35 rfl fl4.siz rfl) ?_
    refine wl_val hW rfl rfl (x_load fl4 rfl (hC40 2 _ rfl)) ?_
    refine wl_val hW rfl rfl (x_not (b := false) rfl) ?_
    refine wl_val hW rfl rfl (x_pickT rfl rfl) ?_
    refine wl_val hW rfl rfl (x_move rfl) ?_
    refine wl_val hW rfl rfl (x_move rfl) ?_
    refine wl_val hW rfl rfl (x_eqlT rfl rfl rfl) ?_
    refine wl_val hW rfl rfl (x_pickT rfl rfl) ?_
    refine wl_val hW rfl rfl (x_move rfl) ?_
    refine wl_val hW rfl rfl (x_fieldAddr Try.underlying27 rfl fl3.siz rfl) ?_
    refine wl_val hW rfl rfl (x_load fl3 rfl (hB4.cell (o := 0) rfl)) ?_
    refine wl_val hW rfl rfl (x_eqlT rfl rfl rfl) ?_
    refine wl_val hW rfl rfl (x_pickT rfl rfl) ?_
    refine wl_val hW rfl rfl (x_move rfl) ?_
    refine wl_val hW rfl rfl (x_fieldAddr Try.underlying27 rfl fl24.siz rfl) ?_
    refine wl_val hW rfl rfl (x_load fl24 rfl (hB4.cell (o := 1) rfl)) ?_
    refine wl_val hW rfl rfl (x_len Try.underlying24 rfl) ?_
    refine wl_val hW rfl rfl (x_eqlT rfl rfl rfl) ?_
    refine wl_val hW rfl rfl (x_pickT rfl rfl) ?_
    refine wl_val hW rfl rfl (x_move rfl) ?_
    refine wl_val hW rfl rfl (x_fieldAddr Try.underlying27 rfl fl24.siz rfl) ?_
    refine wl_val hW rfl rfl (x_load fl24 rfl (hB4.cell (o := 1) rfl)) ?_
    refine wl_val hW rfl rfl (x_indexAddr Try.underlying24 ag35.siz rfl rfl (by decide) (by decide)) ?_
    refine wl_val hW rfl rfl (x_fieldAddr Try.underlying35 rfl fl3.siz rfl) ?_
    refine wl_val hW rfl rfl (x_load fl3 rfl (hC63 0 _ rfl)) ?_
    refine wl_val hW rfl rfl (x_eqlT rfl rfl rfl) ?_
    refine wl_val hW rfl rfl (x_pickT rfl rfl) ?_
    refine wl_val hW rfl rfl (x_assign rfl) ?_
    refine wl_nil ?_
    exact nx_cut (by repeat (first | exact sub_nil | refine sub_cons rfl ?_)) hE
  · intro w' hE
    refine nx_then ?_
    refine wc_ret ?_
    exact ends_ret (res_tmp Try.results7 rfl) ⟨rfl, hE⟩
end Go.Proofs.Ytiaikajibefieaa.K

