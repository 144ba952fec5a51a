import Derived.Test.YtblbddamebbgaaaY4
import Derived.Maps.RangeWalk
import Derived.Deep.Strs
/- Walk: edits applied. -/
namespace Go.Proofs.Ytblbddamebbgaaa.K
open Go Go.RowKit
set_option linter.unusedVariables false
set_option linter.unusedSimpArgs false
set_option linter.unusedSectionVars false

section
variable {F : Fence} {n : Nat} {P : Program} {Q : Exit → Act → World → Prop} {m : Nat} {D : List Deferred} {L : Env} {w w' w0 : World}
variable {ops tail : List Oper} {rest : List Oper} {d : Nat} {ty t e : TypeId} {pos : String} {af : Array Edge} {g : Option (Nat × Bool)} {y : Operand} {K : Env → List (Nat × VP) → Prop} {V : List (Nat × VP)} {z : Value} {cs : List Value}
/-- A block made since w0. -/
def NewB (w0 : World) (cs : List Value) (t : TypeId) : VP := fun v w => ∃ b, v = .pointer (some ⟨b, 0, none⟩) ∧ w0.heap.size ≤ b ∧ Blk w b cs t
theorem NewB.stable : Stable (NewB w0 cs t) := fun v w w' ⟨b, h1, h2, h3⟩ hx => ⟨b, h1, h2, h3.ext hx⟩
theorem q_allocZ (hg : wants L ops g = some true) (hd : Nat.blt d m = true) (hno : at' L d = none) (hz : ∀ w, (zeroValue t).run P w = .ok z w) (hcs : z.cells = cs.toArray)
    (k : QW F n P m D ops w0 K rest L ((d, NewB w0 cs t) :: V)) : QW F n P m D ops w0 K (⟨some d, .alloc t, ty, pos, af, g⟩ :: rest) L V :=
  q_valp NewB.stable hg hd hno (fun w' hw => by
    obtain ⟨b, w'', h1, h2, h3, h4⟩ := xv_alloc (P := P) (m := m) (D := D) (L := L) (w := w') (ty := ty) hz hcs
    exact ⟨_, w'', h1, ⟨b, rfl, Nat.le_trans hw.size h2, h3⟩, h4⟩) k
/-- A version of these tables. -/
def AggT (base : Nat) (ts : List Tb) : VP := fun v w => ∃ tv, v = .agg #[tv, .int .u64 0, .int .i64 0, .int .i64 0] ∧ TOwn base w tv ts
theorem AggT.stable {base : Nat} {ts : List Tb} : Stable (AggT base ts) := fun v w w' ⟨tv, h1, h2⟩ hx => ⟨tv, h1, h2.ext hx⟩
end
section
variable {X : Spx} {F : Fence} {n : Nat} {P : Program} {m : Nat} {D : List Deferred} {L : Env}
variable {ops : List Oper} {rest : List Oper} {i d : Nat} {ty : TypeId} {pos : String} {af : Array Edge} {g : Option (Nat × Bool)} {v : Value} {K : Env → List (Nat × PVP) → Prop} {V : List (Nat × PVP)}
theorem qx_valB {op : Op} (hn : noSpB X i = true) (hg : wants L ops g = some true) (hd : Nat.blt d m = true) (hx : ∀ ph w', Bef X ops i ph → X.J ph w' → Xv P m D L op ty w' v w') (k : QWX X F n P m D ops K (i + 1) rest ((d, v) :: L) V) :
    QWX X F n P m D ops K i (⟨some d, op, ty, pos, af, g⟩ :: rest) L V :=
  .inr ⟨d, rfl, hd, .c v, nofun, stabX_c, .inr ⟨noSp_of hn, fun ph w' _ hbf hJ a h _ => .inl ⟨h.wanted (o := ⟨some d, op, ty, pos, af, g⟩) hg, .val v w' ((hx ph w' hbf hJ).2 _ _ _ _ a h) ⟨rfl, Keep.refl _ _⟩⟩⟩, k⟩
end
def AJ (b6 base : Nat) (PP : List Tb) (wA : World) : Nat → World → Prop
  | 0, w' => Ext wA w'
  | _ + 1, w' => Keep (· ≠ b6) wA w' ∧ ∃ tv l, Blk w' b6 [tv, .int .u64 0, .int .i64 0, .int .i64 0] 82 ∧ TOwn base w' tv l ∧ l.Perm PP
/-- The region of `out, e = one(..)`: out lies in block b6. -/
def AX (b6 base : Nat) (PP : List Tb) (wA : World) : Spx := ⟨[9], AJ b6 base PP wA, fun _ w1 w2 => (∃ cs, Blk w1 b6 cs 82) ∧ Keep (· ≠ b6) w1 w2⟩
theorem ax_ext {b6 base : Nat} {PP : List Tb} {wA : World} : ∀ ph w w', (AX b6 base PP wA).J ph w → Ext w w' → (AX b6 base PP wA).J ph w'
  | 0, _, _, h, hx => Keep.trans h hx
  | _ + 1, _, _, ⟨h, tv, l, h1, h2, h3⟩, hx => ⟨h.trans (Keep.of_ext hx), tv, l, h1.ext hx, h2.ext hx, h3⟩
theorem ax_keep {b6 base : Nat} {PP : List Tb} {wA : World} : ∀ {ph : Nat} {w' : World}, (AX b6 base PP wA).J ph w' → Keep (· ≠ b6) wA w'
  | 0, _, h => Keep.of_ext h
  | _ + 1, _, h => h.1
def AP1 (base : Nat) (PP : List Tb) : PVP := fun _ v w2 => ∃ tv l, v = .tuple #[.agg #[tv, .int .u64 0, .int .i64 0, .int .i64 0], .int .i64 0] ∧ TOwn base w2 tv l ∧ l.Perm PP
def AP2 (base : Nat) (PP : List Tb) : PVP := fun _ v w2 => ∃ tv l, v = .agg #[tv, .int .u64 0, .int .i64 0, .int .i64 0] ∧ TOwn base w2 tv l ∧ l.Perm PP
theorem ap1_stab {b6 base base' : Nat} {PP : List Tb} {wA : World} {ops : List Oper} {j d : Nat} : StabX (AX b6 base' PP wA) ops j d (AP1 base PP) :=
  ⟨fun ph v w1 w2 ⟨tv, l, h1, h2, h3⟩ hx => ⟨tv, l, h1, h2.ext hx, h3⟩, fun k hk _ _ v w1 w2 ⟨tv, l, h1, h2, h3⟩ ⟨⟨cs, hB⟩, hg⟩ => ⟨tv, l, h1, h2.keep hg (fun b hb => h2.ne hb hB (by decide)), h3⟩⟩
theorem ap2_stab {b6 base base' : Nat} {PP : List Tb} {wA : World} {ops : List Oper} {j d : Nat} : StabX (AX b6 base' PP wA) ops j d (AP2 base PP) :=
  ⟨fun ph v w1 w2 ⟨tv, l, h1, h2, h3⟩ hx => ⟨tv, l, h1, h2.ext hx, h3⟩, fun k hk _ _ v w1 w2 ⟨tv, l, h1, h2, h3⟩ ⟨⟨cs, hB⟩, hg⟩ => ⟨tv, l, h1, h2.keep hg (fun b hb => h2.ne hb hB (by decide)), h3⟩⟩
theorem qx_stOut {F : Fence} {n m : Nat} {D : List Deferred} {L : Env} {ops rest : List Oper} {i : Nat} {ty : TypeId} {pos : String} {af : Array Edge} {g : Option (Nat × Bool)} {K : Env → List (Nat × PVP) → Prop} {V : List (Nat × PVP)} {b6 base p s : Nat} {PP : List Tb} {wr : World} {ov : Value} (hi : i = 9) (hg : wants L ops g = some true)
    (hp : ∀ u, ev ((s, u) :: L) (.tmp p) = some (.pointer (some ⟨b6, 0, none⟩))) (hB6 : Blk wr b6 [ov, .int .u64 0, .int .i64 0, .int .i64 0] 82) (hV : (s, AP2 base PP) ∈ V) (hlo : s ∈ looks ops ⟨none, .store 82 (.tmp p) (.tmp s), ty, pos, af, g⟩) (hone : ∀ q' ∈ V, q'.1 ∈ looks ops ⟨none, .store 82 (.tmp p) (.tmp s), ty, pos, af, g⟩ → q' = (s, AP2 base PP))
    (kk : QWX (AX b6 base PP wr) F n Try.prog m D ops K (i + 1) rest L V) : QWX (AX b6 base PP wr) F n Try.prog m D ops K i (⟨none, .store 82 (.tmp p) (.tmp s), ty, pos, af, g⟩ :: rest) L V := by
  subst hi
  refine qx_store1 (k := 0) Nat.zero_lt_one rfl hg hV hlo hone (fun w' u hJ hu => ?_) kk
  obtain ⟨tv3, l3, rfl, hO3, hp3⟩ := hu
  obtain ⟨a3, c3, rfl, hc3⟩ := hO3.form
  have hJ0 : Ext wr w' := hJ
  obtain ⟨w2, h8, h9, h10⟩ := xs_storeA (P := Try.prog) (m := m) (D := D) (L := (s, .agg #[.slice a3 l3.length c3, .int .u64 0, .int .i64 0, .int .i64 0]) :: L) (ty := ty) (x := .tmp p) (y := .tmp s) (o := 0) (new := [.slice a3 l3.length c3, .int .u64 0, .int .i64 0, .int .i64 0]) ag82 (hp _) (by show at' _ _ = _; rw [at_cons, if_pos rfl]) rfl rfl (hB6.ext hJ0) rfl
  have hO4 := hO3.keep h10 (fun b hb => hO3.ne hb (hB6.ext hJ0) (by decide))
  exact ⟨w2, h8, ⟨(Keep.of_ext hJ0).trans h10, _, l3, h9, hO4, hp3⟩, ⟨⟨_, hB6.ext hJ0⟩, h10⟩, ⟨_, l3, rfl, hO4, hp3⟩⟩
theorem C51 {A A1 A2 : Nat → Prop} {w : World} {tv av dv : Value} {ts adds : List Tb} {fs : List Int} {be : Nat} (hR : TRow A w tv ts) (hA : TRow A1 w av adds) (hI : IRow A2 w dv fs) (hBe : Blk w be [av, dv, .int .u64 0, .int .i64 0, .int .i64 0] 90) (hl : ts.length ≤ 30000) (hla : adds.length ≤ 30000) (hlf : fs.length ≤ 30000)
    (hn : (ts.map (·.f)).Nodup) (hf : fs.Nodup) (hin : ∀ f ∈ fs, ∃ t ∈ ts, t.f = f) (hn2 : ((adds ++ dropF ts fs).map (·.f)).Nodup) (hok : ∀ t ∈ adds, okTab t) (hP : PDm (adds ++ dropF ts fs)) (hI2 : ∀ k, A2 k → k < w.heap.size) :
    Rt Try.prog 51 [.agg #[tv, .int .u64 0, .int .i64 0, .int .i64 0], .slice (some ⟨be, 0, none⟩) 1 1] w fun r w' => (∃ ov l, r = .tuple #[.agg #[ov, .int .u64 0, .int .i64 0, .int .i64 0], .int .i64 0] ∧ TOwn w.heap.size w' ov l ∧ l.Perm (adds ++ dropF ts fs)) ∧ Ext w w' := by
  obtain ⟨ad, cap, rfl, hcap, hlen⟩ := hR.form
  obtain ⟨ad2, cap2, rfl, hcap2, hlen2⟩ := hA.form
  obtain ⟨ad3, cap3, rfl, hzl⟩ := hI.form
  replace hR := hR.mono (A' := fun k => k < w.heap.size) fun k hk _ => hk
  replace hA := hA.mono (A' := fun k => k < w.heap.size) fun k hk _ => hk
  have hbel := hBe.lt
  obtain ⟨PP, hPP⟩ : ∃ PP, PP = adds ++ dropF ts fs := ⟨_, rfl⟩
  have hW := hWw
  have hFF := hFw
  have hE : Ext w w := Keep.refl _ _
  refine rt_body Try.func51 rfl Try.ntmps51 rfl ?_
  refine wc_seq ?_
  refine wc_region ?_
  refine wl_box hW rfl rfl rfl rfl ?_
  intro b2 w2 hl2 hB2 hx2
  have g2 : w.heap.size ≤ b2 := Nat.le_trans hE.size hl2
  replace hE := hE.trans hx2
  refine wl_alloc (cs := [.slice none 0 0, .int .u64 0, .int .i64 0, .int .i64 0]) hW rfl rfl Try.zeroValue82 rfl ?_
  intro b4 w4 hl4 hB4 hx4
  have g4 : w.heap.size ≤ b4 := Nat.le_trans hE.size hl4
  have n4_2 : b4 ≠ b2 := Nat.ne_of_gt (Nat.lt_of_lt_of_le hB2.lt hl4)
  replace hB2 := hB2.ext hx4
  replace hE := hE.trans hx4
  refine wl_val hW rfl rfl (x_assign rfl) ?_
  refine wl_nil ?_
  refine nx_then ?_
  refine wc_seq ?_
  refine wc_draw' 12 hW mixed (by kernel_rfl) (fun w0 hx0 => ?_)
  replace hB2 := hB2.ext hx0
  replace hB4 := hB4.ext hx0
  replace hE := hE.trans hx0
  have hsr : Src w0 ad (ts.flatMap cellsT) := grow_src cellsT_len (by decide) (hR.ext hE)
  have hfl : (ts.flatMap cellsT).length = ts.length * 5 := gflat_len cellsT_len ts
  have hsw := hE.size
  refine q_buildEmp rfl rfl rfl Try.underlying80 ag87.siz Try.zeroValue87 ?_
  refine q_val rfl rfl (fun _ hx => x_fieldAddr Try.underlying82 rfl fl80.siz rfl) ?_
  refine q_val rfl rfl (fun _ hx => x_load fl80 rfl (hx.cell (hB2.cell (o := 0) rfl))) ?_
  refine q_appendE (s := 9) (k2 := ts.length) (news := ts.flatMap cellsT) Try.underlying80 info87 rfl (by decide) rfl rfl rfl (List.mem_cons_self ..) (List.mem_append_left _ (List.mem_filterMap.2 ⟨.tmp 9, by simp [Op.operands, Call.operands], rfl⟩)) (fun _ => rfl) hfl (fun w' hw => hsr.ext hw) (fun u hu => tflat_one u hu) (by omega) (by decide) ?_
  refine q_val rfl rfl (fun _ hx => x_fieldAddr Try.underlying82 rfl fl22.siz rfl) ?_
  refine q_val rfl rfl (fun _ hx => x_load fl22 rfl (hx.cell (hB2.cell (o := 1) rfl))) ?_
  refine q_val rfl rfl (fun _ hx => x_fieldAddr Try.underlying82 rfl fl3.siz rfl) ?_
  refine q_val rfl rfl (fun _ hx => x_load fl3 rfl (hx.cell (hB2.cell (o := 2) rfl))) ?_
  refine q_val rfl rfl (fun _ hx => x_fieldAddr Try.underlying82 rfl fl3.siz rfl) ?_
  refine q_val rfl rfl (fun _ hx => x_load fl3 rfl (hx.cell (hB2.cell (o := 3) rfl))) ?_
  refine q_valv (p := AggT w0.heap.size ts) (q := Own1 w0 87 5 ts.length (ts.flatMap cellsT)) (s := 12) AggT.stable rfl rfl rfl (List.mem_cons_self ..) (List.mem_append_left _ (List.mem_filterMap.2 ⟨.tmp 12, by simp [Op.operands], rfl⟩)) (fun w' u hx hu => by obtain ⟨a, c, rfl, hc⟩ := TOwn.form (base := w0.heap.size) hu; exact ⟨_, w', x_build82f rfl rfl rfl rfl, ⟨_, rfl, hu⟩, Keep.refl _ _⟩) ?_
  refine q_allocZ (cs := [.slice none 0 0, .int .u64 0, .int .i64 0, .int .i64 0]) rfl rfl rfl Try.zeroValue82 rfl ?_
  refine q_nil (tailm2 (d := 6) (d2 := 19) (List.mem_cons_self ..) (List.mem_cons_of_mem _ (List.mem_cons_self ..)) (fun wt v6 v19 hxt h6 h19 => ?_))
  obtain ⟨b6, rfl, hl6, hB6⟩ := h6
  obtain ⟨tv2, rfl, hO0⟩ := h19
  obtain ⟨a2, c2, rfl, hc2⟩ := hO0.form
  have g6 : w.heap.size ≤ b6 := Nat.le_trans hsw hl6
  have n6_2 : b6 ≠ b2 := by have := hB2.lt; omega
  have n6_4 : b6 ≠ b4 := by have := hB4.lt; omega
  replace hB2 := hB2.ext hxt
  replace hB4 := hB4.ext hxt
  replace hE := hE.trans hxt
  refine wl_storeA hW rfl ag82 rfl rfl rfl rfl hB6 rfl ?_
  intro wS hBS hkS
  have hOi : TOwn w.heap.size wS (.slice a2 ts.length c2) ts := ownsRow_base (hO0.keep hkS (fun b hb => hO0.ne hb hB6 (by decide))) (fun b hb => Nat.le_trans hsw (ownsRow_blk hO0 hb).1)
  replace hB2 := hB2.keep hkS n6_2.symm
  replace hB4 := hB4.keep hkS n6_4.symm
  replace hB6 := hBS
  clear hBS
  replace hE := hE.store hkS g6
  refine wl_nil ?_
  refine nx_then ?_
  refine wc_seq ?_
  refine wc_seq ?_
  refine wc_region ?_
  refine wl_val hW rfl rfl (x_assign rfl) ?_
  refine wl_nil ?_
  refine nx_then ?_
  refine wc_block ?_
  refine wc_loop (σ := Nat × Value) (fun q => [(1, .slice (some ⟨be, 0, none⟩) 1 1), (4, .pointer (some ⟨b4, 0, none⟩)), (6, .pointer (some ⟨b6, 0, none⟩)), (7, .int .i64 (q.1 : Nat))]) (fun q w' => (q.1 ≤ 1 ∧ ∃ l, TOwn w.heap.size w' q.2 l ∧ (q.1 = 0 → l = ts) ∧ (q.1 = 1 → l.Perm PP)) ∧ Ext w w' ∧ Blk w' b4 [.slice none 0 0, .int .u64 0, .int .i64 0, .int .i64 0] 82 ∧ Blk w' b6 [q.2, .int .u64 0, .int .i64 0, .int .i64 0] 82) (fun q => 1 - q.1) (0, .slice a2 ts.length c2) ?_ ?_ ?_
  · exact ⟨⟨Nat.zero_le _, ts, hOi, fun _ => rfl, fun h => by cases h⟩, hE, hB4, hB6⟩
  · repeat (first | exact sub_nil | refine sub_cons rfl ?_)
  · rintro ⟨s, ov⟩ wr ⟨⟨hs, l, hO, hl0, hl1⟩, hE, hB4, hB6⟩
    replace hs : s ≤ 1 := hs
    replace hO : TOwn w.heap.size wr ov l := hO
    replace hl0 : s = 0 → l = ts := hl0
    replace hl1 : s = 1 → l.Perm PP := hl1
    replace hB6 : Blk wr b6 [ov, .int .u64 0, .int .i64 0, .int .i64 0] 82 := hB6
    refine wc_seq ?_
    refine wc_seq ?_
    refine wc_region ?_
    refine wl_val hW rfl rfl (x_move rfl) ?_
    refine wl_val hW rfl rfl (x_move rfl) ?_
    refine wl_val hW rfl rfl (x_len Try.underlying91 rfl) ?_
    refine wl_val hW rfl rfl (x_lss rfl rfl) ?_
    refine wl_nil ?_
    refine nx_then ?_
    refine wc_dec rfl (fun hc => ?_) (fun hc => ?_)
    · replace hc : ((s : Nat) : Int) < 1 := hc
      obtain rfl : s = 0 := by omega
      rw [hl0 rfl] at hO
      obtain ⟨oa, oc, rfl, hoc⟩ := hO.form
      have hneB : be ≠ b6 := by omega
      have hRA := hA.ext hE
      have hRI := hI.ext hE
      have hBr := hBe.ext hE
      have hEsz := hE.size
      refine wc_skip ?_
      refine nx_then ?_
      refine wc_seq ?_
      refine wc_block ?_
      refine wc_seq ?_
      refine wc_region ?_
      refine wl_val hW rfl rfl (x_assign rfl) ?_
      refine wl_nil ?_
      refine nx_then ?_
      refine wc_seq ?_
      refine wc_drawX (AX b6 w.heap.size PP wr) 10 hW mixed (by kernel_rfl) (by kernel_rfl) ax_ext (fun w0 hx0 => hx0) ?_
      refine qx_valB (v := .agg #[.slice oa ts.length oc, .int .u64 0, .int .i64 0, .int .i64 0]) rfl rfl rfl (fun ph w' hbf hJ => by have h0 := hbf 0 Nat.zero_lt_one (fun o ho => by cases ho; decide); (obtain rfl : ph = 0 := by omega); exact x_loadA ag82 rfl (hB6.ext hJ).cells rfl) ?_
      refine qx_val rfl rfl rfl (fun _ _ _ => x_move rfl) ?_
      refine qx_val rfl rfl rfl (fun _ _ _ => x_move rfl) ?_
      refine qx_val rfl rfl rfl (fun _ _ _ => x_indexAddr Try.underlying91 ag90.siz rfl rfl (by omega) (by omega)) ?_
      refine qx_val rfl rfl rfl (fun _ _ hJ => x_loadA ag90 rfl (hBr.keep (ax_keep hJ) hneB).cells rfl) ?_
      refine qx_callp (p := AP1 w.heap.size PP) rfl ap1_stab rfl rfl rfl (fun _ => x_call en78 rfl) (fun ph w' hJ => ((C78 ((hO.keep (ax_keep hJ) (fun b hb => hO.ne hb hB6 (by decide))).row (by omega)) (hRA.keep (ax_keep hJ) (fun k hk h => by omega)) (hRI.ck (CK.of_keep (ax_keep hJ) fun k _ h => by have := hI2 k h; omega)) hl hla hlf hn hf hin hn2 hok hP).mono fun r w2 ⟨⟨ov2, l2, h1, h2, h3⟩, h4⟩ => ⟨⟨ov2, l2, h1, ownsRow_base h2 (fun b hb => Nat.le_trans (Nat.le_trans hEsz (ax_keep hJ).size) (ownsRow_blk h2 hb).1), by rw [hPP]; exact h3⟩, h4⟩).inF hFF) ?_
      refine qx_valv (p := AP1 w.heap.size PP) (q := AP1 w.heap.size PP) (s := 32) rfl ap1_stab rfl rfl rfl (List.mem_cons_self ..) (List.mem_append_left _ (List.mem_filterMap.2 ⟨.tmp 32, by simp [Op.operands], rfl⟩)) (fun ph w' u hJ hu => ⟨u, w', x_move (by show at' _ _ = _; rw [at_cons, if_pos rfl]), hu, Keep.refl _ _⟩) ?_
      refine qx_valv (p := AP2 w.heap.size PP) (q := AP1 w.heap.size PP) (s := 26) rfl ap2_stab rfl rfl rfl (List.mem_cons_self ..) (List.mem_append_left _ (List.mem_filterMap.2 ⟨.tmp 26, by simp [Op.operands], rfl⟩)) (fun ph w' u hJ hu => by obtain ⟨tv, l, rfl, h2, h3⟩ := hu; exact ⟨_, w', x_extract (vs := #[.agg #[tv, .int .u64 0, .int .i64 0, .int .i64 0], .int .i64 0]) (by show at' _ _ = _; rw [at_cons, if_pos rfl]) rfl, ⟨tv, l, rfl, h2, h3⟩, Keep.refl _ _⟩) ?_
      refine qx_valvc (v := .int .i64 0) (q := AP1 w.heap.size PP) (s := 26) rfl rfl rfl (List.mem_cons_of_mem _ (List.mem_cons_self ..)) (List.mem_append_left _ (List.mem_filterMap.2 ⟨.tmp 26, by simp [Op.operands], rfl⟩)) (fun ph w' u hJ hu => by obtain ⟨tv, l, rfl, h2, h3⟩ := hu; exact x_extract (vs := #[.agg #[tv, .int .u64 0, .int .i64 0, .int .i64 0], .int .i64 0]) (by show at' _ _ = _; rw [at_cons, if_pos rfl]) rfl) ?_
      refine qx_stOut rfl rfl (fun _ => rfl) hB6 (List.mem_cons_self ..) (List.mem_append_left _ (List.mem_filterMap.2 ⟨.tmp 33, by simp [Op.operands], rfl⟩)) (fun q' hq' hl' => ?_) ?_
      · have hl2 : q'.1 = 6 ∨ q'.1 = 33 := by simpa [looks, Op.operands, isTmp] using hl'
        simp only [List.mem_cons, List.not_mem_nil, or_false] at hq'
        rcases hq' with rfl | rfl | rfl
        · rfl
        · rcases hl2 with h | h <;> cases h
        · rcases hl2 with h | h <;> cases h
      refine qx_nil (tailxm (d := 33) (p := AP2 w.heap.size PP) (List.mem_cons_self ..) (fun wt v33 hJt _ => ?_))
      obtain ⟨hKt, tv4, l4, hB6n, hO4, hp4⟩ : Keep (· ≠ b6) wr wt ∧ ∃ tv l, Blk wt b6 [tv, .int .u64 0, .int .i64 0, .int .i64 0] 82 ∧ TOwn w.heap.size wt tv l ∧ l.Perm PP := hJt
      replace hB4 := hB4.keep hKt n6_4.symm
      replace hE := hE.store hKt g6
      refine wl_val hW rfl rfl (x_assign rfl) ?_
      refine wl_nil ?_
      refine nx_then ?_
      refine wc_seq ?_
      refine wc_region ?_
      refine wl_val hW rfl rfl (x_move rfl) ?_
      refine wl_val hW rfl rfl (x_neqF rfl rfl rfl) ?_
      refine wl_nil ?_
      refine nx_then ?_
      refine wc_false rfl ?_
      refine wc_skip ?_
      refine nx_block ?_
      refine nx_then ?_
      refine wc_region ?_
      refine wl_val hW rfl rfl (x_move rfl) ?_
      refine wl_val hW rfl rfl (x_inc (s := 0) rfl (by omega)) ?_
      refine wl_val hW rfl rfl (x_assign rfl) ?_
      refine wl_nil ?_
      exact nx_next (1, tv4) (by dsimp only; omega) ⟨⟨Nat.le_refl _, l4, hO4, (fun h => by cases h), fun _ => hp4⟩, hE, hB4, hB6n⟩ (by repeat (first | exact sub_nil | refine sub_cons rfl ?_))
    · have hs1 : s = 1 := by have h' : ¬ ((s : Nat) : Int) < 1 := hc; omega
      replace hl1 := hl1 hs1
      obtain ⟨oa, oc, rfl, hoc⟩ := hO.form
      refine wc_exit ?_
      refine nx_then_exit ?_
      refine nx_then_exit ?_
      refine nx_block_exit ?_
      refine nx_then ?_
      refine wc_seq ?_
      refine wc_region ?_
      refine wl_val hW rfl rfl (x_loadA ag82 rfl hB6.cells rfl) ?_
      refine wl_storeA hW rfl ag82 rfl rfl rfl rfl hB4 rfl ?_
      intro wS hBS hkS
      have hOf := hO.keep hkS (fun b hb => hO.ne hb hB4 (by decide))
      replace hB6 := hB6.keep hkS n6_4
      replace hB4 := hBS
      clear hBS
      replace hE := hE.store hkS g4
      refine wl_val hW rfl rfl (x_assign rfl) ?_
      refine wl_nil ?_
      refine nx_then ?_
      refine wc_ret ?_
      exact ends_ret (res_cell_tmp Try.results51 rfl (run_loadVar_cells ag82 hB4.cells rfl) rfl) ⟨⟨_, l, rfl, hOf, by rw [← hPP]; exact hl1⟩, hE⟩
end Go.Proofs.Ytblbddamebbgaaa.K


/- Walk: what the tables of a version let be seen. -/
namespace Go.Proofs.Ytblbddamebbgaaa.K
open Go Go.RowKit
set_option linter.unusedVariables false
set_option linter.unusedSimpArgs false

/-- Maps from numbers. -/
noncomputable def KI : KT Try.prog 3 Int where
  ok i := (Lit.int .i64 i).wf = true
  v i := .int .i64 i
  l i := .int .i64 i
  key k h := Go.Maps.keyOf_int_mk Try.underlying3 h
  inj a b h := by injection h
  inv val lit h := by
    obtain ⟨x, h1, h2, h3⟩ := Maps.keyOf_int_inv Try.underlying3 h
    exact ⟨x, h3, h1, h2⟩
  keyed := Go.Maps.int_keyed Try.underlying3
theorem ki_ok {i : Int} (h : 0 ≤ i) (h2 : i ≤ 1099511627776) : KI.ok i := by
  show (Lit.int .i64 i).wf = true
  simp only [Lit.wf, IntKind.min, IntKind.max, IntKind.signed, IntKind.bits, Bool.and_eq_true, decide_eq_true_eq, if_true]
  omega
/-- The files: what lists the map in block bm tells. -/
def FRel (w : World) (bm n : Nat) (G : Int → Option (List Ent)) : Prop := ∃ f, MapIs KI w bm n f ∧ ∀ i l, G i = some l → ∃ v, f i = some v ∧ Row (fun k => k ≠ bm ∧ k < w.heap.size) w v l
theorem FRel.ext {w w' : World} {bm n : Nat} {G : Int → Option (List Ent)} (h : FRel w bm n G) (hx : Ext w w') : FRel w' bm n G := by
  obtain ⟨f, h1, h2⟩ := h
  refine ⟨f, h1.ext hx, fun i l hi => ?_⟩
  obtain ⟨v, h3, h4⟩ := h2 i l hi
  exact ⟨v, h3, (h4.ext hx).mono fun k hk h => ⟨h.1, hk⟩⟩
theorem LOwn.lrow {A : Nat → Prop} {base : Nat} {w : World} {v : Value} {ls : List (List Ent)} (h : LOwn A base w v ls) : LRow (fun k => k < w.heap.size) w v ls := by
  obtain ⟨⟨vals, h1, h2, h3⟩, h4⟩ := h
  obtain ⟨ad, c, rfl, hc, hs, -⟩ := owns_src h2
  have hL : LRow (fun _ => True) w (.slice ad ls.length c) ls := by
    refine ⟨ad, c, rfl, hc, h4, fun hne => ?_⟩
    obtain ⟨b, o, e, hr⟩ := hs (fun e => hne (List.eq_nil_of_length_eq_zero (by rw [← h1, e]; rfl)))
    refine ⟨b, o, e, trivial, fun i l hi => ?_⟩
    have hlt := (List.getElem?_eq_some_iff.1 hi).1
    have hv : vals[i]? = some (vals[i]'(by omega)) := List.getElem?_eq_getElem _
    refine ⟨_, fun j u hj => ?_, (h3 i l _ hi hv).mono fun _ _ _ => trivial⟩
    have hj0 : j = 0 := by have := (List.getElem?_eq_some_iff.1 hj).1; simp at this; omega
    subst hj0
    have : u = vals[i]'(by omega) := by simpa using hj.symm
    rw [this, Nat.mul_one, Nat.add_zero]
    exact hr i _ hv
  exact hL.mono fun k hk _ => hk
/-- The lists of the tables. -/
def listsOf (G : Int → Option (List Ent)) (ts : List Tb) : List (List Ent) := ts.map fun t => (G t.f).getD []
theorem C53 {A : Nat → Prop} {w : World} {tv : Value} {ts : List Tb} {bm n : Nat} {G : Int → Option (List Ent)} {up : Int} (hR : TRow A w tv ts) (hG : FRel w bm n G) (hall : ∀ t ∈ ts, 0 ≤ t.f ∧ t.f ≤ 1099511627776 ∧ ∃ l, G t.f = some l) (hr : (listsOf G ts).all rightB = true) (htot : tot (listsOf G ts) ≤ 100000) (hl : ts.length ≤ 100000) :
    Rt Try.prog 53 [.agg #[tv, .int .u64 0, .int .i64 0, .int .i64 0], .map (some bm), .int .u64 up] w fun r w' => (∃ rv b, r = .tuple #[rv, .bool b] ∧ Row (fun k => k < w'.heap.size) w' rv (seenL up (mrg (listsOf G ts)))) ∧ Ext w w' := by
  obtain ⟨ad, cap, rfl, hcap, hlen⟩ := hR.form
  obtain ⟨LS, hLS⟩ : ∃ LS, LS = listsOf G ts := ⟨_, rfl⟩
  have hLl : LS.length = ts.length := by rw [hLS]; simp [listsOf]
  rw [← hLS] at hr htot
  rw [← hLS]
  replace hR := hR.mono (A' := fun k => k < w.heap.size) fun k hk _ => hk
  have hW := hWw
  have hFF := hFw
  have hE : Ext w w := Keep.refl _ _
  refine rt_body Try.func53 rfl Try.ntmps53 rfl ?_
  refine wc_seq ?_
  refine wc_region ?_
  refine wl_box hW rfl rfl rfl rfl ?_
  intro b3 w3 hl3 hB3 hx3
  have g3 : w.heap.size ≤ b3 := Nat.le_trans hE.size hl3
  replace hE := hE.trans hx3
  refine wl_val hW rfl rfl (x_assign rfl) ?_
  refine wl_val hW rfl rfl (x_assign rfl) ?_
  refine wl_nil ?_
  refine nx_then ?_
  refine wc_seq ?_
  refine wc_region ?_
  refine wl_val hW rfl rfl (x_assign rfl) ?_
  refine wl_nil ?_
  refine nx_then ?_
  refine wc_seq ?_
  refine wc_region ?_
  refine wl_val hW rfl rfl (x_assign rfl) ?_
  refine wl_nil ?_
  refine nx_then ?_
  refine wc_seq ?_
  refine wc_seq ?_
  refine wc_region ?_
  refine wl_val hW rfl rfl (x_assign rfl) ?_
  refine wl_nil ?_
  refine nx_then ?_
  refine wc_block ?_
  have hG3 := hG.ext hE
  have hE3 := hE
  have hs3 := hE.size
  have hB30 := hB3
  refine wc_loop (σ := Nat × Value) (fun q => [(1, .map (some bm)), (2, .int .u64 up), (3, .pointer (some ⟨b3, 0, none⟩)), (8, q.2), (9, .int .i64 (tot (LS.take q.1) : Nat)), (10, .int .i64 (q.1 : Nat))]) (fun q w' => (q.1 ≤ ts.length ∧ LOwn (fun k => k < w3.heap.size) w3.heap.size w' q.2 (LS.take q.1)) ∧ Ext w w' ∧ Keep (fun k => k < w3.heap.size) w3 w') (fun q => ts.length - q.1) (0, .slice none 0 0) ?_ ?_ ?_
  · exact ⟨⟨Nat.zero_le _, lown_nil _ _ _⟩, hE, Keep.refl _ _⟩
  · repeat (first | exact sub_nil | refine sub_cons rfl ?_)
  · rintro ⟨s, ov⟩ wr ⟨⟨hs, hO⟩, hE, hK⟩
    replace hs : s ≤ ts.length := hs
    replace hO : LOwn (fun k => k < w3.heap.size) w3.heap.size wr ov (LS.take s) := hO
    have hB3r := hB3.keep hK hB3.lt
    have hB3 := hB3r
    refine wc_seq ?_
    refine wc_seq ?_
    refine wc_region ?_
    refine wl_val hW rfl rfl (x_move rfl) ?_
    refine wl_val hW rfl rfl (x_fieldAddr Try.underlying82 rfl fl80.siz rfl) ?_
    refine wl_val hW rfl rfl (x_load fl80 rfl (hB3.cell (o := 0) rfl)) ?_
    refine wl_val hW rfl rfl (x_len Try.underlying80 rfl) ?_
    refine wl_val hW rfl rfl (x_lss rfl rfl) ?_
    refine wl_nil ?_
    refine nx_then ?_
    refine wc_dec rfl (fun hc => ?_) (fun hc => ?_)
    · replace hc : ((s : Nat) : Int) < ts.length := hc
      have hlt : s < ts.length := by omega
      obtain ⟨b, o, cap', e1, hAb, hC27⟩ := (hR.ext hE).at s hlt
      cases e1
      have hC38 := hC27
      obtain ⟨hf0, hf1, l, hGl⟩ := hall _ (List.getElem_mem hlt)
      have hltL : s < LS.length := by omega
      have hLs : LS[s] = l := by simp only [hLS, listsOf, List.getElem_map, hGl]; rfl
      obtain ⟨fm, hM3, hfm⟩ := hG3
      have hM := hM3.keep hK hM3.lt
      obtain ⟨fv, hfv, hR3⟩ := hfm _ _ hGl
      have hRl : Row (fun k => k < w3.heap.size) wr fv l := (hR3.ck (CK.of_keep hK fun k _ h => h.2)).mono fun k _ h => h.2
      obtain ⟨fa, fc, rfl, -, -⟩ := hRl.form
      have ht1 := tot_take_drop LS s
      have ht2 := tot_drop hltL
      have ht3 := tot_take_drop LS (s + 1)
      rw [hLs] at ht2
      refine wc_skip ?_
      refine nx_then ?_
      refine wc_seq ?_
      refine wc_block ?_
      refine wc_seq ?_
      refine wc_region ?_
      refine wl_val hW rfl rfl (x_move rfl) ?_
      refine wl_val hW rfl rfl (x_move rfl) ?_
      refine wl_val hW rfl rfl (x_fieldAddr Try.underlying82 rfl fl80.siz rfl) ?_
      refine wl_val hW rfl rfl (x_load fl80 rfl (hB3.cell (o := 0) rfl)) ?_
      refine wl_val hW rfl rfl (x_move rfl) ?_
      refine wl_val hW rfl rfl (x_indexAddr Try.underlying80 ag87.siz rfl rfl (by omega) (by omega)) ?_
      refine wl_val hW rfl rfl (x_fieldAddr Try.underlying87 rfl fl3.siz rfl) ?_
      refine wl_val hW rfl rfl (x_load fl3 rfl (hC27 0 _ rfl)) ?_
      refine wl_val hW rfl rfl (x_lookup1 (T := KI) (k := ts[s].f) hM Try.underlying83 Try.zeroValue26 rfl rfl (ki_ok hf0 hf1) (by rw [hfv])) ?_
      refine wl_buildSlice (parts := [(0, .tmp 30)]) hW rfl rfl Try.underlying65 fl26.siz Try.zeroValue26 rfl rfl rfl (by omega) ?_
      intro b31 w31 hl31 hB31 hx31
      have g31 : w.heap.size ≤ b31 := Nat.le_trans hE.size hl31
      have n31_3 : b31 ≠ b3 := Nat.ne_of_gt (Nat.lt_of_lt_of_le hB3.lt hl31)
      replace hB3 := hB3.ext hx31
      replace hE := hE.trans hx31
      have hu := (hRl.ext hx31).mono (A' := fun k => k < w3.heap.size ∧ some k ≠ ov.ownBlock) fun k _ h => ⟨h, fun e => by have := (hO.lt k e.symm).1; omega⟩
      refine wl_appendL hW rfl rfl rfl rfl (hO.ext hx31) hu hB31 (by simp; omega) (Nat.le_trans hK.size hx31.size) ?_
      intro ov2 wA hO2 hkA hcA
      have hKA : Keep (fun k => k < w3.heap.size) w3 wA := (hK.trans (Keep.of_ext hx31)).then hkA fun k hk h e => by have := (hO.lt k e.symm).1; omega
      have hEA : Ext w wA := Keep.after hE3 hKA (fun k hk => by omega)
      have hO3 : LOwn (fun k => k < w3.heap.size) w3.heap.size wA ov2 (LS.take (s + 1)) := by rw [← List.take_append_getElem hltL, hLs]; exact hO2
      replace hB3 := hB30.keep hKA hB30.lt
      replace hE := hEA
      have hMA := hM3.keep hKA hM3.lt
      refine wl_val hW rfl rfl (x_assign rfl) ?_
      refine wl_nil ?_
      refine nx_then ?_
      obtain ⟨b', o', cap'', e2, hAb2, hC38⟩ := (hR.ext hEA).at s hlt
      cases e2
      refine wc_region ?_
      refine wl_val hW rfl rfl (x_move rfl) ?_
      refine wl_val hW rfl rfl (x_move rfl) ?_
      refine wl_val hW rfl rfl (x_fieldAddr Try.underlying82 rfl fl80.siz rfl) ?_
      refine wl_val hW rfl rfl (x_load fl80 rfl (hB3.cell (o := 0) rfl)) ?_
      refine wl_val hW rfl rfl (x_move rfl) ?_
      refine wl_val hW rfl rfl (x_indexAddr Try.underlying80 ag87.siz rfl rfl (by omega) (by omega)) ?_
      refine wl_val hW rfl rfl (x_fieldAddr Try.underlying87 rfl fl3.siz rfl) ?_
      refine wl_val hW rfl rfl (x_load fl3 rfl (hC38 0 _ rfl)) ?_
      refine wl_val hW rfl rfl (x_lookup1 (T := KI) (k := ts[s].f) hMA Try.underlying83 Try.zeroValue26 rfl rfl (ki_ok hf0 hf1) (by rw [hfv])) ?_
      refine wl_val hW rfl rfl (x_len Try.underlying26 rfl) ?_
      refine wl_val hW rfl rfl (x_addn (i := tot (LS.take s)) (j := l.length) rfl rfl (by omega)) ?_
      refine wl_val hW rfl rfl (x_assign rfl) ?_
      refine wl_nil ?_
      refine nx_block ?_
      refine nx_then ?_
      refine wc_region ?_
      refine wl_val hW rfl rfl (x_move rfl) ?_
      refine wl_val hW rfl rfl (x_inc (s := s) rfl (by omega)) ?_
      refine wl_val hW rfl rfl (x_assign rfl) ?_
      refine wl_nil ?_
      exact nx_next (s + 1, ov2) (by dsimp only; omega) ⟨⟨hlt, hO3⟩, hEA, hKA⟩ (by rw [show tot (LS.take (s + 1)) = tot (LS.take s) + l.length from by omega]; repeat (first | exact sub_nil | refine sub_cons rfl ?_))
    · refine wc_exit ?_
      refine nx_then_exit ?_
      refine nx_then_exit ?_
      refine nx_block_exit ?_
      refine nx_then ?_
      have hse : s = LS.length := by have h' : ¬ ((s : Nat) : Int) < ts.length := hc; omega
      rw [hse, List.take_length] at hO
      refine wc_seq ?_
      refine wc_region ?_
      refine wl_val hW rfl rfl (x_move rfl) ?_
      refine wl_call hW rfl rfl (x_call en47 rfl) ((C47w (w0 := wr) hO.lrow htot hr (Nat.le_refl _)).inF hFF) ?_
      rintro _ wm ⟨⟨rv1, rfl, hR1⟩, hxC⟩
      obtain ⟨ma, mc, rfl, -, -⟩ := hR1.form
      replace hB3 := hB3.ext hxC
      replace hE := hE.trans hxC
      refine wl_val hW rfl rfl (x_move rfl) ?_
      refine wl_val hW rfl rfl (x_extract rfl rfl) ?_
      refine wl_val hW rfl rfl (x_extract rfl rfl) ?_
      refine wl_val hW rfl rfl (x_assign rfl) ?_
      refine wl_val hW rfl rfl (x_assign rfl) ?_
      refine wl_nil ?_
      refine nx_then ?_
      refine wc_seq ?_
      refine wc_region ?_
      refine wl_val hW rfl rfl (x_move rfl) ?_
      refine wl_val hW rfl rfl (x_move rfl) ?_
      refine wl_call hW rfl rfl (x_call en23 rfl) ((C23q (up := up) hR1 (mrg_right hr)).inF hFF) ?_
      rintro _ wn ⟨⟨rv2, rfl, hR2⟩, hxC⟩
      replace hB3 := hB3.ext hxC
      replace hE := hE.trans hxC
      refine wl_val hW rfl rfl (x_move rfl) ?_
      refine wl_val hW rfl rfl (x_extract rfl rfl) ?_
      refine wl_val hW rfl rfl (x_extract rfl rfl) ?_
      refine wl_val hW rfl rfl (x_assign rfl) ?_
      refine wl_val hW rfl rfl (x_assign rfl) ?_
      refine wl_nil ?_
      refine nx_then ?_
      refine wc_seq ?_
      refine wc_region ?_
      refine wl_val hW rfl rfl (x_move rfl) ?_
      refine wl_val hW rfl rfl (x_move rfl) ?_
      refine wl_val hW rfl rfl (x_len Try.underlying26 rfl) ?_
      refine wl_val hW rfl rfl (x_move rfl) ?_
      refine wl_val hW rfl rfl (x_eql rfl rfl) ?_
      refine wl_val hW rfl rfl (x_assign rfl) ?_
      refine wl_val hW rfl rfl (x_assign rfl) ?_
      refine wl_nil ?_
      refine nx_then ?_
      refine wc_ret ?_
      exact ends_ret (res_tmp2 Try.results53 rfl rfl) ⟨⟨_, _, rfl, hR2.mono fun k hk _ => hk⟩, hE⟩
end Go.Proofs.Ytblbddamebbgaaa.K


/- Plain law: compacting lets be seen what was seen. -/
namespace Go.Proofs.Ytblbddamebbgaaa.K
open Go Go.RowKit
set_option linter.unusedVariables false

/-- Each key lies in one list. -/
def KD (ls : List (List Ent)) : Prop := ls.Pairwise fun a b => ∀ x ∈ a, ∀ y ∈ b, x.k ≠ y.k
theorem KD.perm {ls ls' : List (List Ent)} (h : KD ls) (hp : ls'.Perm ls) : KD ls' := (hp.pairwise_iff (fun {a b} h x hx y hy e => h y hy x hx e.symm)).2 h
theorem pri_kd {ls : List (List Ent)} (h : KD ls) {x : Ent} : Pri ls x ↔ ∃ l ∈ ls, x ∈ l := by
  constructor
  · rintro ⟨i, l, hi, hx, -⟩
    exact ⟨l, List.mem_of_getElem? hi, hx⟩
  · rintro ⟨l, hl, hx⟩
    obtain ⟨i, hi, rfl⟩ := List.mem_iff_getElem.1 hl
    refine ⟨i, _, List.getElem?_eq_getElem hi, hx, fun j l' hj hl' y hy hs => ?_⟩
    have hjl := (List.getElem?_eq_some_iff.1 hl').1
    have := (List.pairwise_iff_getElem.1 h) j i hjl hi hj y (by have e := (List.getElem?_eq_some_iff.1 hl').2; rw [e]; exact hy) x hx
    exact this hs.1
theorem mrg_kd {ls : List (List Ent)} (hr : ls.all rightB = true) (h : KD ls) {x : Ent} : x ∈ mrg ls ↔ ∃ l ∈ ls, x ∈ l := by
  rw [mrg_mem (all_sorted hr), pri_kd h]
theorem mrg_sub {ls : List (List Ent)} (hr : ls.all rightB = true) {x : Ent} (h : x ∈ mrg ls) : ∃ l ∈ ls, x ∈ l := by
  rw [mrg_mem (all_sorted hr)] at h
  obtain ⟨i, l, hi, hx, -⟩ := h
  exact ⟨l, List.mem_of_getElem? hi, hx⟩
theorem seen_local {up : Int} {m m' : List Ent} (hs : Sorted m) (hs' : Sorted m') {e : Ent} (h : ∀ x, x.k = e.k → (x ∈ m ↔ x ∈ m')) : e ∈ seenL up m ↔ e ∈ seenL up m' := by
  rw [seen_mem hs, seen_mem hs', top_some hs, top_some hs']
  constructor
  · rintro ⟨⟨h1, h2, h3, h4⟩, h5⟩
    exact ⟨⟨(h e rfl).1 h1, h2, h3, fun x hx hk hu => h4 x ((h x hk).2 hx) hk hu⟩, h5⟩
  · rintro ⟨⟨h1, h2, h3, h4⟩, h5⟩
    exact ⟨⟨(h e rfl).2 h1, h2, h3, fun x hx hk hu => h4 x ((h x hk).1 hx) hk hu⟩, h5⟩
theorem seen_ext {up : Int} {m m' : List Ent} (hs : Sorted m) (hs' : Sorted m') (h : ∀ e, e ∈ seenL up m ↔ e ∈ seenL up m') : seenL up m = seenL up m' :=
  sorted_ext _ _ ((seen_keys hs).imp fun h => .inl h) ((seen_keys hs').imp fun h => .inl h) h
theorem grps_mem : ∀ (f o : Nat) (es : List Ent) (x : Nat × List Ent), x ∈ grps f o es → ∀ e ∈ x.2, e ∈ es := by
  intro f
  induction f with
  | zero => intro o es x hx; simp [grps] at hx
  | succ f ih =>
    intro o es x hx e he
    cases es with
    | nil => simp [grps] at hx
    | cons a es =>
      simp only [grps, List.mem_cons] at hx
      rcases hx with rfl | hx
      · rcases List.mem_cons.1 he with rfl | he
        · exact List.mem_cons_self ..
        · exact List.mem_cons_of_mem _ ((List.takeWhile_sublist _).subset he)
      · exact List.mem_cons_of_mem _ ((List.dropWhile_sublist _).subset (ih _ _ _ hx e he))
theorem left_sub {keep : Int} {bottom : Bool} {es : List Ent} {x : Ent} (h : x ∈ leftL keep bottom es) : x ∈ es := by
  unfold leftL at h
  obtain ⟨g, hg, hx⟩ := List.mem_flatMap.1 h
  exact grps_mem _ _ _ _ hg x (List.mem_of_mem_take hx)
/-- **A job lets be seen what was seen**: the lists a are compacted into c, the lists b stay. -/
theorem job_seen {keep up : Int} {bottom : Bool} {a b c l l' : List (List Ent)} (hk : keep ≤ up) (ha : a.all rightB = true) (hl : l.all rightB = true) (hl' : l'.all rightB = true) (hp : l.Perm (a ++ b)) (hp' : l'.Perm (c ++ b)) (hd : KD l) (hd' : KD l') (hc : c.flatten = leftL keep bottom (mrg a)) :
    seenL up (mrg l') = seenL up (mrg l) := by
  have hsl := (rightB_iff.1 (mrg_right hl)).2
  have hsl' := (rightB_iff.1 (mrg_right hl')).2
  have hsa := (rightB_iff.1 (mrg_right ha)).2
  have hsc := (rightB_iff.1 (left_right (keep := keep) (bottom := bottom) (mrg_right ha))).2
  have hda : KD a := (List.pairwise_append.1 (hd.perm hp.symm)).1
  have hm : ∀ x, x ∈ mrg l ↔ x ∈ mrg a ∨ ∃ y ∈ b, x ∈ y := fun x => by
    rw [mrg_kd hl hd, mrg_kd ha hda]
    constructor
    · rintro ⟨y, hy, hx⟩
      rcases List.mem_append.1 (hp.mem_iff.1 hy) with h | h
      · exact .inl ⟨y, h, hx⟩
      · exact .inr ⟨y, h, hx⟩
    · rintro (⟨y, hy, hx⟩ | ⟨y, hy, hx⟩)
      · exact ⟨y, hp.mem_iff.2 (List.mem_append_left _ hy), hx⟩
      · exact ⟨y, hp.mem_iff.2 (List.mem_append_right _ hy), hx⟩
  have hm' : ∀ x, x ∈ mrg l' ↔ x ∈ leftL keep bottom (mrg a) ∨ ∃ y ∈ b, x ∈ y := fun x => by
    rw [mrg_kd hl' hd', ← hc, List.mem_flatten]
    constructor
    · rintro ⟨y, hy, hx⟩
      rcases List.mem_append.1 (hp'.mem_iff.1 hy) with h | h
      · exact .inl ⟨y, h, hx⟩
      · exact .inr ⟨y, h, hx⟩
    · rintro (⟨y, hy, hx⟩ | ⟨y, hy, hx⟩)
      · exact ⟨y, hp'.mem_iff.2 (List.mem_append_left _ hy), hx⟩
      · exact ⟨y, hp'.mem_iff.2 (List.mem_append_right _ hy), hx⟩
  have hab : ∀ x ∈ mrg a, ∀ y ∈ b, ∀ z ∈ y, x.k ≠ z.k := fun x hx y hy z hz => by
    obtain ⟨u, hu, hxu⟩ := mrg_sub ha hx
    exact (List.pairwise_append.1 (hd.perm hp.symm)).2.2 u hu y hy x hxu z hz
  refine seen_ext hsl' hsl fun e => ?_
  by_cases hka : ∃ x ∈ mrg a, x.k = e.k
  · obtain ⟨x0, hx0, hxk⟩ := hka
    have hnb : ∀ x, x.k = e.k → ¬ ∃ y ∈ b, x ∈ y := fun x hx ⟨y, hy, hxy⟩ => hab x0 hx0 y hy x hxy (by rw [hxk, hx])
    have h1 : e ∈ seenL up (mrg l') ↔ e ∈ seenL up (leftL keep bottom (mrg a)) := seen_local hsl' hsc fun x hx => by rw [hm' x]; exact ⟨fun h => h.resolve_right (hnb x hx), .inl⟩
    have h2 : e ∈ seenL up (mrg l) ↔ e ∈ seenL up (mrg a) := seen_local hsl hsa fun x hx => by rw [hm x]; exact ⟨fun h => h.resolve_right (hnb x hx), .inl⟩
    rw [h1, h2, seen_left hk (mrg_right ha)]
  · refine seen_local hsl' hsl fun x hx => ?_
    have hna : x ∉ mrg a := fun h => hka ⟨x, h, hx⟩
    rw [hm, hm']
    exact ⟨fun h => .inr (h.resolve_left fun h => hna (left_sub h)), fun h => .inr (h.resolve_left hna)⟩
/-- The first job takes all there is. -/
theorem job_first {keep up : Int} {bottom : Bool} {a c l' : List (List Ent)} (hk : keep ≤ up) (ha : a.all rightB = true) (hl' : l'.all rightB = true) (hp' : l'.Perm c) (hd' : KD l') (hc : c.flatten = leftL keep bottom (mrg a)) : seenL up (mrg l') = seenL up (mrg a) := by
  have hsl' := (rightB_iff.1 (mrg_right hl')).2
  have hsc := (rightB_iff.1 (left_right (keep := keep) (bottom := bottom) (mrg_right ha))).2
  have e : mrg l' = leftL keep bottom (mrg a) := sorted_ext _ _ hsl' hsc fun x => by
    rw [mrg_kd hl' hd', ← hc, List.mem_flatten]
    exact ⟨fun ⟨y, hy, hx⟩ => ⟨y, hp'.mem_iff.1 hy, hx⟩, fun ⟨y, hy, hx⟩ => ⟨y, hp'.mem_iff.2 hy, hx⟩⟩
  rw [e, ← seen_left hk (mrg_right ha)]
end Go.Proofs.Ytblbddamebbgaaa.K

/- Plain law: a job's outputs; what a job keeps. -/
namespace Go.Proofs.Ytblbddamebbgaaa.K
open Go Go.RowKit
set_option linter.unusedVariables false

theorem sorted_le {es : List Ent} (hs : Sorted es) {i j : Nat} (hj : j < es.length) (hij : i ≤ j) : (es[i]'(by omega)).k = es[j].k ∨ bl (es[i]'(by omega)).k.toList es[j].k.toList = true := by
  rcases Nat.lt_or_ge i j with h | h
  · rcases (List.pairwise_iff_getElem.1 hs) i j (by omega) hj h with h | ⟨h, -⟩
    · exact .inr h
    · exact .inl h
  · obtain rfl : i = j := by omega
    exact .inl rfl
theorem bl_le_lt {a b c : ByteArray} (h1 : a = b ∨ bl a.toList b.toList = true) (h2 : bl b.toList c.toList = true) : bl a.toList c.toList = true := by
  rcases h1 with rfl | h1
  · exact h2
  · exact bl_trans _ _ _ h1 h2
theorem bl_lt_le {a b c : ByteArray} (h1 : bl a.toList b.toList = true) (h2 : b = c ∨ bl b.toList c.toList = true) : bl a.toList c.toList = true := by
  rcases h2 with rfl | h2
  · exact h1
  · exact bl_trans _ _ _ h1 h2
/-- The parts lie one behind the other. -/
theorem Cuts.apart {all : List Ent} {f : Nat} {out : List (List Ent)} (h : Cuts all f out) (hs : Sorted all) : out.Pairwise fun a b => ∀ x ∈ a, ∀ y ∈ b, bl x.k.toList y.k.toList = true := by
  induction h with
  | nil => exact List.Pairwise.nil
  | snoc h1 h2 h3 h4 ih =>
    rename_i f t out
    refine List.pairwise_append.2 ⟨ih, List.pairwise_singleton _ _, fun a ha b hb x hx y hy => ?_⟩
    rw [List.mem_singleton.1 hb] at hy
    have hx1 : x ∈ all.take f := by rw [← h1.flat]; exact List.mem_flatten.2 ⟨a, ha, hx⟩
    obtain ⟨p, hp, rfl⟩ := List.mem_iff_getElem.1 hx1
    obtain ⟨q, hq, rfl⟩ := List.mem_iff_getElem.1 hy
    simp only [List.length_take] at hp
    simp only [List.length_drop, List.length_take] at hq
    simp only [List.getElem_take, List.getElem_drop]
    have hb1 : f = all.length ∨ ∃ h : f < all.length, all[f].k ≠ all[f - 1].k := by
      cases h1 with
      | nil => cases ha
      | snoc _ _ _ h => exact h
    rcases hb1 with hb1 | ⟨hlt, hne⟩
    · omega
    have hkey : bl (all[f - 1]'(by omega)).k.toList all[f].k.toList = true := by
      rcases sorted_le hs (i := f - 1) (j := f) hlt (by omega) with h | h
      · exact absurd h.symm hne
      · exact h
    exact bl_lt_le (bl_le_lt (sorted_le hs (i := p) (j := f - 1) (by omega) (by omega)) hkey) (sorted_le hs (i := f) (j := f + q) (by omega) (by omega))
theorem bl_ne {a b : ByteArray} (h : bl a.toList b.toList = true) : a ≠ b := fun e => by rw [e, bl_irrefl] at h; cases h
theorem Cuts.kd {all : List Ent} {f : Nat} {out : List (List Ent)} (h : Cuts all f out) (hs : Sorted all) : KD out := (h.apart hs).imp fun h x hx y hy => bl_ne (h x hx y hy)
theorem Cuts.right {all : List Ent} {f : Nat} {out : List (List Ent)} (h : Cuts all f out) (hr : rightB all = true) : out.all rightB = true := by
  induction h with
  | nil => rfl
  | snoc h1 h2 h3 h4 ih =>
    rename_i f t out
    rw [List.all_append, ih]
    obtain ⟨h5, h6⟩ := rightB_iff.1 hr
    have hsub : ((all.take t).drop f).Sublist all := (List.drop_sublist _ _).trans (List.take_sublist _ _)
    simp only [List.all_cons, List.all_nil, Bool.and_true, Bool.true_and]
    exact rightB_iff.2 ⟨fun e he => h5 e (hsub.subset he), h6.sublist hsub⟩
theorem Cuts.ne {all : List Ent} {f : Nat} {out : List (List Ent)} (h : Cuts all f out) : ∀ l ∈ out, l ≠ [] := by
  obtain ⟨c, -, -, h3, -⟩ := h.parts
  intro l hl e
  obtain ⟨i, hi, rfl⟩ := List.mem_iff_getElem.1 hl
  obtain ⟨a, b, d⟩ := h3 i hi
  have := (List.getElem?_eq_some_iff.1 d).2
  rw [e] at this
  have h9 := congrArg List.length this
  simp at h9
  omega
end Go.Proofs.Ytblbddamebbgaaa.K

/- Plain law: which tables a job takes, which it leaves. -/
namespace Go.Proofs.Ytblbddamebbgaaa.K
open Go Go.RowKit
set_option linter.unusedVariables false

theorem nod_inj {ts : List Tb} (h : (ts.map (·.f)).Nodup) {a b : Tb} (ha : a ∈ ts) (hb : b ∈ ts) (e : a.f = b.f) : a = b := by
  obtain ⟨i, hi, rfl⟩ := List.mem_iff_getElem.1 ha
  obtain ⟨j, hj, rfl⟩ := List.mem_iff_getElem.1 hb
  have hp := List.pairwise_iff_getElem.1 (List.pairwise_map.1 h)
  rcases Nat.lt_trichotomy i j with hij | hij | hij
  · exact absurd e (hp i j hi hj hij)
  · subst hij; rfl
  · exact absurd e.symm (hp j i hj hi hij)
theorem nod_list {ts : List Tb} (h : (ts.map (·.f)).Nodup) : ts.Nodup := (List.pairwise_map.1 h).imp fun h e => h (by rw [e])
theorem sub_nod {ts A : List Tb} (hn : (ts.map (·.f)).Nodup) (hA : A.Nodup) (hs : ∀ t ∈ A, t ∈ ts) : (A.map (·.f)).Nodup :=
  List.pairwise_map.2 (hA.imp_of_mem fun ha hb hne e => hne (nod_inj hn (hs _ ha) (hs _ hb) e))
theorem mem_dropF {ts : List Tb} {fs : List Int} {t : Tb} : t ∈ dropF ts fs ↔ t ∈ ts ∧ t.f ∉ fs := by
  unfold dropF; rw [List.mem_filter, decide_eq_true_iff]
theorem split_perm {ts A : List Tb} (hn : (ts.map (·.f)).Nodup) (hA : A.Nodup) (hs : ∀ t ∈ A, t ∈ ts) : ts.Perm (A ++ dropF ts (A.map (·.f))) := by
  have hD : (dropF ts (A.map (·.f))).Nodup := (nod_list hn).sublist List.filter_sublist
  refine (List.perm_ext_iff_of_nodup (nod_list hn) (List.nodup_append.2 ⟨hA, hD, fun a ha b hb e => ?_⟩)).2 fun t => ?_
  · subst e; exact (mem_dropF.1 hb).2 (List.mem_map_of_mem (f := (·.f)) ha)
  · rw [List.mem_append, mem_dropF]
    constructor
    · intro ht
      by_cases h : t ∈ A
      · exact .inl h
      · refine .inr ⟨ht, fun hf => ?_⟩
        obtain ⟨u, hu, e⟩ := List.mem_map.1 hf
        exact h (by rw [← nod_inj hn (hs u hu) ht e]; exact hu)
    · rintro (h | ⟨h, -⟩)
      · exact hs t h
      · exact h
theorem mem_levelL {ts : List Tb} {n : Int} {t : Tb} : t ∈ levelL ts n ↔ t ∈ ts ∧ t.l = n := by unfold levelL; rw [List.mem_filter, decide_eq_true_iff]
theorem mem_overL {ts : List Tb} {n : Int} {a z : ByteArray} {t : Tb} : t ∈ overL ts n a z ↔ (t ∈ ts ∧ t.l = n) ∧ offB a z t = false := by
  unfold overL; rw [List.mem_filter, mem_levelL]; simp
theorem stretch_one (x : Tb) : stretchL x.a x.z [x] = (x.a, x.z) := by
  unfold stretchL
  simp only [List.foldl_cons, List.foldl_nil, minB, maxB, bl_irrefl]
  rfl
theorem job_one (ts : List Tb) (n : Int) (x : Tb) : jobAll ts n [x] = x :: overL ts (n + 1) x.a x.z := by
  show [x] ++ overL ts (n + 1) (stretchL x.a x.z [x]).1 (stretchL x.a x.z [x]).2 = _
  rw [stretch_one]
  rfl
theorem job_one_nod {ts : List Tb} {n : Int} {x : Tb} (hn : (ts.map (·.f)).Nodup) (hx : x ∈ levelL ts n) : (jobAll ts n [x]).Nodup ∧ ∀ t ∈ jobAll ts n [x], t ∈ ts := by
  rw [job_one]
  obtain ⟨h1, h2⟩ := mem_levelL.1 hx
  refine ⟨List.nodup_cons.2 ⟨fun h => ?_, (nod_list hn).sublist (List.filter_sublist.trans List.filter_sublist)⟩, fun t ht => ?_⟩
  · have := (mem_overL.1 h).1.2; omega
  · rcases List.mem_cons.1 ht with rfl | ht
    · exact h1
    · exact (mem_overL.1 ht).1.1
theorem level_all {ts : List Tb} (h : ∀ t ∈ ts, t.l = 0) : levelL ts 0 = ts := List.filter_eq_self.2 fun t ht => decide_eq_true (h t ht)
theorem job_all {ts : List Tb} (h : ∀ t ∈ ts, t.l = 0) (hne : ts ≠ []) : jobAll ts 0 ts = ts := by
  unfold jobAll
  cases ts with
  | nil => exact absurd rfl hne
  | cons t r =>
    show (t :: r) ++ overL (t :: r) (0 + 1) _ _ = t :: r
    have : ∀ a z, overL (t :: r) (0 + 1) a z = [] := fun a z => by
      refine List.eq_nil_iff_forall_not_mem.2 fun u hu => ?_
      have h1 := (mem_overL.1 hu).1
      have := h u h1.1
      omega
    rw [this, List.append_nil]
theorem drop_all (ts : List Tb) : dropF ts (ts.map (·.f)) = [] := List.eq_nil_iff_forall_not_mem.2 fun t ht => (mem_dropF.1 ht).2 (List.mem_map_of_mem (f := (·.f)) (mem_dropF.1 ht).1)
theorem ins_all' {ts : List Tb} {n : Int} {l : List Tb} : (jobOf ts n l).ins = (jobAll ts n l).map (·.f) := by
  unfold jobOf
  cases jobAll ts n l <;> rfl
end Go.Proofs.Ytblbddamebbgaaa.K

/- Plain law: levels stay parted. -/
namespace Go.Proofs.Ytblbddamebbgaaa.K
open Go Go.RowKit
set_option linter.unusedVariables false

/-- Not greater. -/
def le (a b : ByteArray) : Prop := a = b ∨ bl a.toList b.toList = true
/-- A table of the version: what its list is. -/
def TabOk (G : Int → Option (List Ent)) (nx : Int) (t : Tb) : Prop := ∃ l, G t.f = some l ∧ l ≠ [] ∧ rightB l = true ∧ t = tabOf t.f t.l l ∧ 0 ≤ t.l ∧ t.l ≤ 6 ∧ 0 ≤ t.f ∧ t.f < nx
theorem tab_bounds {f lv : Int} {l : List Ent} (hr : rightB l = true) : ∀ y ∈ l, le (tabOf f lv l).a y.k ∧ le y.k (tabOf f lv l).z := fun y hy => by
  have hs := (rightB_iff.1 hr).2
  obtain ⟨i, hi, rfl⟩ := List.mem_iff_getElem.1 hy
  have h0 : 0 < l.length := by omega
  have ha : (tabOf f lv l).a = l[0].k := by show (l.head?.map (·.k)).getD _ = _; rw [List.head?_eq_getElem?, List.getElem?_eq_getElem h0]; rfl
  have hz : (tabOf f lv l).z = (l[l.length - 1]'(by omega)).k := by show (l.getLast?.map (·.k)).getD _ = _; rw [List.getLast?_eq_getElem?, List.getElem?_eq_getElem (by omega)]; rfl
  rw [ha, hz]
  exact ⟨sorted_le hs hi (Nat.zero_le _), sorted_le hs (by omega) (by omega)⟩
theorem tab_ends {f lv : Int} {l : List Ent} (hne : l ≠ []) : (∃ x ∈ l, (tabOf f lv l).a = x.k) ∧ ∃ x ∈ l, (tabOf f lv l).z = x.k := by
  have h0 : 0 < l.length := List.length_pos_iff.2 hne
  refine ⟨⟨_, List.getElem_mem h0, ?_⟩, ⟨_, List.getElem_mem (n := l.length - 1) (by omega), ?_⟩⟩
  · show (l.head?.map (·.k)).getD _ = _; rw [List.head?_eq_getElem?, List.getElem?_eq_getElem h0]; rfl
  · show (l.getLast?.map (·.k)).getD _ = _; rw [List.getLast?_eq_getElem?, List.getElem?_eq_getElem (by omega)]; rfl
theorem tab_az {f lv : Int} {l : List Ent} (hne : l ≠ []) (hr : rightB l = true) : le (tabOf f lv l).a (tabOf f lv l).z := by
  obtain ⟨x, hx, e⟩ := (tab_ends (f := f) (lv := lv) hne).2
  rw [e]; exact (tab_bounds hr x hx).1
/-- The tables that a job adds. -/
def addsOf (nx lv : Int) (out : List (List Ent)) : List Tb := out.mapIdx fun i l => tabOf (nx + (i : Nat)) lv l
theorem mem_adds {nx lv : Int} {out : List (List Ent)} {t : Tb} (h : t ∈ addsOf nx lv out) : ∃ (i : Nat) (hi : i < out.length), t = tabOf (nx + (i : Nat)) lv out[i] := by
  unfold addsOf at h
  obtain ⟨i, hi, e⟩ := List.mem_mapIdx.1 h
  exact ⟨i, hi, e.symm⟩
theorem le_lt {a b c : ByteArray} (h1 : le a b) (h2 : bl b.toList c.toList = true) : bl a.toList c.toList = true := bl_le_lt h1 h2
theorem lt_le {a b c : ByteArray} (h1 : bl a.toList b.toList = true) (h2 : le b c) : bl a.toList c.toList = true := bl_lt_le h1 h2
/-- Added tables among themselves. -/
theorem adds_pd {nx lv : Int} {out : List (List Ent)} (hne : ∀ l ∈ out, l ≠ []) (hap : out.Pairwise fun a b => ∀ x ∈ a, ∀ y ∈ b, bl x.k.toList y.k.toList = true) : ∀ a ∈ addsOf nx lv out, ∀ b ∈ addsOf nx lv out, a.f ≠ b.f → bl b.z.toList a.a.toList = true ∨ bl a.z.toList b.a.toList = true := fun a ha b hb hf => by
  obtain ⟨i, hi, rfl⟩ := mem_adds ha
  obtain ⟨j, hj, rfl⟩ := mem_adds hb
  have hij : i ≠ j := fun e => hf (by subst e; rfl)
  have ends : ∀ p q (hp : p < out.length) (hq : q < out.length), p < q → bl (tabOf (nx + (p : Nat)) lv out[p]).z.toList (tabOf (nx + (q : Nat)) lv out[q]).a.toList = true := fun p q hp hq hpq => by
    obtain ⟨x, hx, e⟩ := (tab_ends (f := nx + (p : Nat)) (lv := lv) (hne _ (List.getElem_mem hp))).2
    obtain ⟨y, hy, e'⟩ := (tab_ends (f := nx + (q : Nat)) (lv := lv) (hne _ (List.getElem_mem hq))).1
    rw [e, e']
    exact (List.pairwise_iff_getElem.1 hap) p q hp hq hpq x hx y hy
  rcases Nat.lt_or_ge i j with h | h
  · exact .inr (ends i j hi hj h)
  · exact .inl (ends j i hj hi (by omega))
/-- What stays of the level below lies to one side of what a job takes. -/
theorem job_side {ts : List Tb} {n : Int} {x b : Tb} (hpd : PDm ts) (haz : ∀ t ∈ ts, le t.a t.z) (hn : 1 ≤ n) (hx : x ∈ levelL ts n) (hb : b ∈ ts) (hbl : b.l = n + 1) (hno : b ∉ jobAll ts n [x]) (hnod : (ts.map (·.f)).Nodup) :
    (∀ t ∈ jobAll ts n [x], bl t.z.toList b.a.toList = true) ∨ ∀ t ∈ jobAll ts n [x], bl b.z.toList t.a.toList = true := by
  rw [job_one] at hno ⊢
  have hoff : offB x.a x.z b = true := by
    cases h : offB x.a x.z b with
    | true => rfl
    | false => exact absurd (List.mem_cons_of_mem _ (mem_overL.2 ⟨⟨hb, hbl⟩, h⟩)) hno
  have hpair : ∀ t ∈ overL ts (n + 1) x.a x.z, bl b.z.toList t.a.toList = true ∨ bl t.z.toList b.a.toList = true := fun t ht => by
    obtain ⟨⟨h1, h2⟩, h3⟩ := mem_overL.1 ht
    refine hpd t h1 b hb (fun e => hno ?_) (by omega) (by omega)
    rw [← nod_inj hnod h1 hb e]
    exact List.mem_cons_of_mem _ ht
  have hover : ∀ t ∈ overL ts (n + 1) x.a x.z, bl x.z.toList t.a.toList = false ∧ bl t.z.toList x.a.toList = false := fun t ht => by
    have h3 := (mem_overL.1 ht).2
    unfold offB at h3
    exact (Bool.or_eq_false_iff.1 h3)
  unfold offB at hoff
  rcases (Bool.or_eq_true_iff.1 hoff) with h | h
  · refine .inl fun t ht => ?_
    rcases List.mem_cons.1 ht with rfl | ht
    · exact h
    · rcases hpair t ht with h2 | h2
      · have := bl_trans _ _ _ (lt_le h (haz b hb)) h2
        rw [(hover t ht).1] at this; cases this
      · exact h2
  · refine .inr fun t ht => ?_
    rcases List.mem_cons.1 ht with rfl | ht
    · exact h
    · rcases hpair t ht with h2 | h2
      · exact h2
      · have := bl_trans _ _ _ h2 (le_lt (haz b hb) h)
        rw [(hover t ht).2] at this; cases this
end Go.Proofs.Ytblbddamebbgaaa.K

/- Plain law: what the files tell, before and after a job. -/
namespace Go.Proofs.Ytblbddamebbgaaa.K
open Go Go.RowKit
set_option linter.unusedVariables false

def lst (G : Int → Option (List Ent)) (t : Tb) : List Ent := (G t.f).getD []
theorem listsOf_eq (G : Int → Option (List Ent)) (ts : List Tb) : listsOf G ts = ts.map (lst G) := rfl
/-- How much is left to be done. -/
def pot (G : Int → Option (List Ent)) (ts : List Tb) : Nat := (ts.map fun t => (lst G t).length * (6 - t.l).toNat).sum
/-- The files, new ones put from nx on. -/
def putG (G : Int → Option (List Ent)) (nx : Int) (out : List (List Ent)) : Int → Option (List Ent) := fun i => if nx ≤ i ∧ i < nx + (out.length : Nat) then out[(i - nx).toNat]? else G i
theorem putG_old {G : Int → Option (List Ent)} {nx i : Int} {out : List (List Ent)} (h : i < nx) : putG G nx out i = G i := by unfold putG; rw [if_neg (by omega)]
theorem putG_new {G : Int → Option (List Ent)} {nx : Int} {out : List (List Ent)} {i : Nat} (hi : i < out.length) : putG G nx out (nx + (i : Nat)) = some out[i] := by
  unfold putG
  rw [if_pos (by omega), show (nx + (i : Nat) - nx).toNat = i from by omega, List.getElem?_eq_getElem hi]
theorem lists_adds (G : Int → Option (List Ent)) (nx lv : Int) (out : List (List Ent)) : listsOf (putG G nx out) (addsOf nx lv out) = out := by
  refine List.ext_getElem (by simp [listsOf, addsOf]) fun i h1 h2 => ?_
  simp only [listsOf, addsOf, List.getElem_map, List.getElem_mapIdx]
  show (putG G nx out (nx + (i : Nat))).getD [] = out[i]
  rw [putG_new h2]; rfl
theorem lists_old {G : Int → Option (List Ent)} {nx : Int} {out : List (List Ent)} {B : List Tb} (h : ∀ t ∈ B, t.f < nx) : listsOf (putG G nx out) B = listsOf G B :=
  List.map_congr_left fun t ht => by rw [putG_old (h t ht)]
theorem tot_flat : ∀ ls : List (List Ent), tot ls = ls.flatten.length
  | [] => rfl
  | l :: ls => by simp [tot, tot_flat ls]
theorem tot_perm {a b : List (List Ent)} (h : a.Perm b) : tot a = tot b := by rw [tot_flat, tot_flat]; exact h.flatten.length_eq
theorem tot_app (a b : List (List Ent)) : tot (a ++ b) = tot a + tot b := by simp [tot_flat]
theorem mrg_len (ls : List (List Ent)) : (mrg ls).length ≤ tot ls := by have := foldTwo_len ls []; simp only [List.length_nil] at this; unfold mrg; omega
theorem pot_perm {G : Int → Option (List Ent)} {a b : List Tb} (h : a.Perm b) : pot G a = pot G b := (h.map _).sum_nat
theorem pot_app (G : Int → Option (List Ent)) (a b : List Tb) : pot G (a ++ b) = pot G a + pot G b := by simp [pot]
theorem pot_old {G : Int → Option (List Ent)} {nx : Int} {out : List (List Ent)} {B : List Tb} (h : ∀ t ∈ B, t.f < nx) : pot (putG G nx out) B = pot G B := by
  unfold pot
  refine congrArg List.sum (List.map_congr_left fun t ht => ?_)
  unfold lst; rw [putG_old (h t ht)]
theorem sum_const {α : Type} (f : α → Nat) (c : Nat) : ∀ l : List α, (l.map fun x => f x * c).sum = (l.map f).sum * c
  | [] => by simp
  | x :: l => by simp [sum_const f c l, Nat.add_mul]
theorem tot_sum : ∀ ls : List (List Ent), tot ls = (ls.map List.length).sum
  | [] => rfl
  | l :: ls => by simp [tot, tot_sum ls]
/-- What the new tables have yet to go. -/
theorem pot_adds (G : Int → Option (List Ent)) (nx lv : Int) (out : List (List Ent)) : pot (putG G nx out) (addsOf nx lv out) = tot out * (6 - lv).toNat := by
  unfold pot
  have h1 : (addsOf nx lv out).map (fun t => (lst (putG G nx out) t).length * (6 - t.l).toNat) = ((addsOf nx lv out).map (lst (putG G nx out))).map fun l => l.length * (6 - lv).toNat := by
    rw [List.map_map]
    refine List.map_congr_left fun t ht => ?_
    obtain ⟨i, hi, rfl⟩ := mem_adds ht
    rfl
  rw [h1, ← listsOf_eq, lists_adds, sum_const, ← tot_sum]
/-- What a job takes had more to go, by one entry at least. -/
theorem pot_taken {G : Int → Option (List Ent)} {n : Int} : ∀ {A : List Tb}, n ≤ 5 → (∀ t ∈ A, n ≤ t.l ∧ t.l ≤ n + 1) → tot (listsOf G A) * (5 - n).toNat ≤ pot G A
  | [], _, _ => by simp [listsOf, tot, pot]
  | t :: A, hn, h => by
    have ih := pot_taken (G := G) (A := A) hn fun u hu => h u (List.mem_cons_of_mem _ hu)
    have h1 := h t (List.mem_cons_self ..)
    have e1 : tot (listsOf G (t :: A)) = (lst G t).length + tot (listsOf G A) := rfl
    have e2 : pot G (t :: A) = (lst G t).length * (6 - t.l).toNat + pot G A := by simp [pot]
    have h2 : (5 - n).toNat ≤ (6 - t.l).toNat := by omega
    have h3 := Nat.mul_le_mul_left (lst G t).length h2
    rw [e1, e2, Nat.add_mul]
    omega
theorem pot_taken_lt {G : Int → Option (List Ent)} {n : Int} {A : List Tb} (hn : n ≤ 5) (h : ∀ t ∈ A, n ≤ t.l ∧ t.l ≤ n + 1) {x : Tb} (hx : x ∈ A) (hxl : x.l = n) (hne : lst G x ≠ []) : tot (listsOf G A) * (5 - n).toNat < pot G A := by
  obtain ⟨s, r, rfl⟩ := List.append_of_mem hx
  have hp : (s ++ x :: r).Perm (x :: (s ++ r)) := List.perm_middle
  rw [pot_perm hp, listsOf_eq, tot_perm (hp.map (lst G))]
  have ih := pot_taken (G := G) (A := s ++ r) hn fun u hu => h u (hp.mem_iff.2 (List.mem_cons_of_mem _ hu))
  have e1 : tot ((x :: (s ++ r)).map (lst G)) = (lst G x).length + tot (listsOf G (s ++ r)) := rfl
  have e2 : pot G (x :: (s ++ r)) = (lst G x).length * (6 - x.l).toNat + pot G (s ++ r) := by simp [pot]
  have h2 : (6 - x.l).toNat = (5 - n).toNat + 1 := by omega
  have h3 : 0 < (lst G x).length := List.length_pos_iff.2 hne
  rw [e1, e2, h2, Nat.add_mul, Nat.mul_add]
  omega
end Go.Proofs.Ytblbddamebbgaaa.K

/- Plain law: what holds between two jobs. -/
namespace Go.Proofs.Ytblbddamebbgaaa.K
open Go Go.RowKit
set_option linter.unusedVariables false

/-- What holds between two jobs. -/
structure St (ts : List Tb) (G : Int → Option (List Ent)) (nx : Int) : Prop where
  nod : (ts.map (·.f)).Nodup
  ok : ∀ t ∈ ts, TabOk G nx t
  pd : PDm ts
  tot : tot (listsOf G ts) ≤ 150
  alt : (∀ t ∈ ts, t.l = 0) ∨ ((∀ t ∈ ts, 1 ≤ t.l) ∧ KD (listsOf G ts))
  nx0 : 0 ≤ nx
  ent : ∀ t ∈ ts, ∀ e ∈ lst G t, EntOk e
theorem TabOk.lst {G : Int → Option (List Ent)} {nx : Int} {t : Tb} (h : TabOk G nx t) : G t.f = some (lst G t) ∧ lst G t ≠ [] ∧ rightB (lst G t) = true ∧ t = tabOf t.f t.l (lst G t) := by
  obtain ⟨l, h1, h2, h3, h4, -⟩ := h
  have e : K.lst G t = l := by unfold K.lst; rw [h1]; rfl
  rw [e]; exact ⟨h1, h2, h3, h4⟩
theorem TabOk.az {G : Int → Option (List Ent)} {nx : Int} {t : Tb} (h : TabOk G nx t) : le t.a t.z := by
  obtain ⟨h1, h2, h3, h4⟩ := h.lst
  rw [h4]; exact tab_az h2 h3
theorem TabOk.keys {G : Int → Option (List Ent)} {nx : Int} {t : Tb} (h : TabOk G nx t) : ∀ y ∈ K.lst G t, le t.a y.k ∧ le y.k t.z := by
  obtain ⟨h1, h2, h3, h4⟩ := h.lst
  intro y hy
  have := tab_bounds (f := t.f) (lv := t.l) h3 y hy
  rw [← h4] at this; exact this
theorem lists_right {G : Int → Option (List Ent)} {nx : Int} {ts : List Tb} (h : ∀ t ∈ ts, TabOk G nx t) : (listsOf G ts).all rightB = true := List.all_eq_true.2 fun l hl => by
  obtain ⟨t, ht, rfl⟩ := List.mem_map.1 hl
  exact (h t ht).lst.2.2.1
theorem ble_not {a b : ByteArray} (h : le a b) : bl b.toList a.toList = false := by
  rcases h with rfl | h
  · exact bl_irrefl _
  · exact bl_asymm _ _ h
/-- What a job turns the version into. -/
structure Job1 (ts : List Tb) (G : Int → Option (List Ent)) (nx n : Int) (A : List Tb) (all : List Ent) (out : List (List Ent)) : Prop where
  st : St ts G nx
  nod : A.Nodup
  sub : ∀ t ∈ A, t ∈ ts
  lev : ∀ t ∈ A, n ≤ t.l ∧ t.l ≤ n + 1
  n0 : 0 ≤ n
  n5 : n ≤ 5
  nxl : nx + (out.length : Nat) ≤ 1099511627776
  side : ∀ b ∈ dropF ts (A.map (·.f)), b.l = n + 1 → (∀ t ∈ A, bl t.z.toList b.a.toList = true) ∨ ∀ t ∈ A, bl b.z.toList t.a.toList = true
  low : ∀ b ∈ dropF ts (A.map (·.f)), 1 ≤ b.l
  cuts : Cuts all all.length out
  all : ∃ keep bottom, all = leftL keep bottom (mrg (listsOf G A))
section
variable {ts A : List Tb} {G : Int → Option (List Ent)} {nx n : Int} {all : List Ent} {out : List (List Ent)}
theorem Job1.right (h : Job1 ts G nx n A all out) : rightB all = true := by
  obtain ⟨keep, bottom, e⟩ := h.all
  rw [e]; exact left_right (mrg_right (lists_right fun t ht => h.st.ok t (h.sub t ht)))
theorem Job1.sorted (h : Job1 ts G nx n A all out) : Sorted all := (rightB_iff.1 h.right).2
/-- Each entry that is put out is one of the inputs'. -/
theorem Job1.from (h : Job1 ts G nx n A all out) {l : List Ent} (hl : l ∈ out) {x : Ent} (hx : x ∈ l) : ∃ t ∈ A, x ∈ lst G t := by
  have h1 : x ∈ out.flatten := List.mem_flatten.2 ⟨l, hl, hx⟩
  rw [h.cuts.flat, List.take_length] at h1
  obtain ⟨keep, bottom, e⟩ := h.all
  rw [e] at h1
  obtain ⟨y, hy, hxy⟩ := mrg_sub (lists_right fun t ht => h.st.ok t (h.sub t ht)) (left_sub h1)
  obtain ⟨t, ht, rfl⟩ := List.mem_map.1 hy
  exact ⟨t, ht, hxy⟩
theorem Job1.nodup (h : Job1 ts G nx n A all out) : ((addsOf nx (n + 1) out ++ dropF ts (A.map (·.f))).map (·.f)).Nodup := by
  rw [List.map_append]
  refine List.nodup_append.2 ⟨?_, dropF_nodup h.st.nod _, fun a ha b hb e => ?_⟩
  · refine List.pairwise_iff_getElem.2 fun i j hi hj hij => ?_
    simp only [addsOf, List.getElem_map, List.getElem_mapIdx]
    show nx + (i : Nat) ≠ nx + (j : Nat)
    omega
  · obtain ⟨t, ht, rfl⟩ := List.mem_map.1 ha
    obtain ⟨u, hu, rfl⟩ := List.mem_map.1 hb
    obtain ⟨i, hi, rfl⟩ := mem_adds ht
    obtain ⟨l, -, -, -, -, -, -, -, h9⟩ := h.st.ok u (mem_dropF.1 hu).1
    have e' : nx + (i : Nat) = u.f := e
    omega
theorem Job1.pdm (h : Job1 ts G nx n A all out) : PDm (addsOf nx (n + 1) out ++ dropF ts (A.map (·.f))) := by
  have hne := h.cuts.ne
  have cross : ∀ a ∈ addsOf nx (n + 1) out, ∀ b ∈ dropF ts (A.map (·.f)), b.l = n + 1 → bl b.z.toList a.a.toList = true ∨ bl a.z.toList b.a.toList = true := fun a ha b hb hbl => by
    obtain ⟨i, hi, rfl⟩ := mem_adds ha
    obtain ⟨⟨x, hx, ex⟩, y, hy, ey⟩ := tab_ends (f := nx + (i : Nat)) (lv := n + 1) (hne _ (List.getElem_mem hi))
    obtain ⟨t, ht, hxt⟩ := h.from (List.getElem_mem hi) hx
    obtain ⟨u, hu, hyu⟩ := h.from (List.getElem_mem hi) hy
    rw [ex, ey]
    rcases h.side b hb hbl with h1 | h1
    · exact .inr (le_lt ((h.st.ok u (h.sub u hu)).keys y hyu).2 (h1 u hu))
    · exact .inl (lt_le (h1 t ht) ((h.st.ok t (h.sub t ht)).keys x hxt).1)
  intro a ha b hb hf h1 h2
  rcases List.mem_append.1 ha with ha | ha <;> rcases List.mem_append.1 hb with hb | hb
  · exact adds_pd hne (h.cuts.apart h.sorted) a ha b hb hf
  · obtain ⟨i, hi, rfl⟩ := mem_adds ha
    exact cross _ ha b hb h2.symm
  · obtain ⟨i, hi, rfl⟩ := mem_adds hb
    exact (cross _ hb a ha h2).symm
  · exact h.st.pd a (mem_dropF.1 ha).1 b (mem_dropF.1 hb).1 hf h1 h2
end
end Go.Proofs.Ytblbddamebbgaaa.K

/- Plain law: what a job keeps. -/
namespace Go.Proofs.Ytblbddamebbgaaa.K
open Go Go.RowKit
set_option linter.unusedVariables false
section
variable {ts A ts' : List Tb} {G : Int → Option (List Ent)} {nx n : Int} {all : List Ent} {out : List (List Ent)}
theorem Job1.outEnt (h : Job1 ts G nx n A all out) {l : List Ent} (hl : l ∈ out) : ∀ e ∈ l, EntOk e := fun e he => by
  obtain ⟨t, ht, hx⟩ := h.from hl he
  exact h.st.ent t (h.sub t ht) e hx
theorem Job1.perm (h : Job1 ts G nx n A all out) : ts.Perm (A ++ dropF ts (A.map (·.f))) := split_perm h.st.nod h.nod h.sub
theorem Job1.totA (h : Job1 ts G nx n A all out) : tot (listsOf G A) + tot (listsOf G (dropF ts (A.map (·.f)))) = tot (listsOf G ts) := by
  rw [listsOf_eq G ts, tot_perm (h.perm.map (lst G)), List.map_append, tot_app]; rfl
theorem Job1.totOut (h : Job1 ts G nx n A all out) : tot out ≤ tot (listsOf G A) := by
  rw [tot_flat, h.cuts.flat, List.take_length]
  obtain ⟨keep, bottom, e⟩ := h.all
  rw [e]
  exact Nat.le_trans (leftL_le ..) (mrg_len _)
theorem Job1.oldf (h : Job1 ts G nx n A all out) : ∀ t ∈ dropF ts (A.map (·.f)), t.f < nx := fun t ht => by
  obtain ⟨l, -, -, -, -, -, -, -, h9⟩ := h.st.ok t (mem_dropF.1 ht).1
  exact h9
theorem Job1.pot (h : Job1 ts G nx n A all out) (hp : ts'.Perm (addsOf nx (n + 1) out ++ dropF ts (A.map (·.f)))) {x : Tb} (hx : x ∈ A) (hxl : x.l = n) : K.pot (putG G nx out) ts' < K.pot G ts := by
  rw [pot_perm hp, pot_app, pot_adds, pot_old h.oldf, pot_perm h.perm, pot_app]
  have h1 := pot_taken_lt (G := G) h.n5 h.lev hx hxl (h.st.ok x (h.sub x hx)).lst.2.1
  have h2 := Nat.mul_le_mul_right (5 - n).toNat h.totOut
  have e : (6 - (n + 1)).toNat = (5 - n).toNat := by omega
  rw [e]; omega
theorem Job1.lists (h : Job1 ts G nx n A all out) (hp : ts'.Perm (addsOf nx (n + 1) out ++ dropF ts (A.map (·.f)))) : (listsOf (putG G nx out) ts').Perm (out ++ listsOf G (dropF ts (A.map (·.f)))) := by
  have h1 := hp.map (lst (putG G nx out))
  rw [List.map_append] at h1
  have e1 : (addsOf nx (n + 1) out).map (lst (putG G nx out)) = out := lists_adds G nx (n + 1) out
  have e2 : (dropF ts (A.map (·.f))).map (lst (putG G nx out)) = listsOf G (dropF ts (A.map (·.f))) := lists_old h.oldf
  rw [e1, e2] at h1
  exact h1
/-- The keys stay apart. -/
theorem Job1.kd (h : Job1 ts G nx n A all out) (hp : ts'.Perm (addsOf nx (n + 1) out ++ dropF ts (A.map (·.f)))) (hk : dropF ts (A.map (·.f)) = [] ∨ KD (listsOf G ts)) : KD (listsOf (putG G nx out) ts') := by
  refine KD.perm ?_ (h.lists hp)
  rcases hk with hk | hk
  · rw [hk]
    show KD (out ++ [])
    rw [List.append_nil]; exact h.cuts.kd h.sorted
  · have h1 : KD (listsOf G A ++ listsOf G (dropF ts (A.map (·.f)))) := hk.perm (by have := (h.perm.map (lst G)).symm; rw [List.map_append] at this; exact this)
    obtain ⟨h2, h3, h4⟩ := List.pairwise_append.1 h1
    refine List.pairwise_append.2 ⟨h.cuts.kd h.sorted, h3, fun a ha b hb x hx y hy => ?_⟩
    obtain ⟨t, ht, hxt⟩ := h.from ha hx
    exact h4 _ (List.mem_map_of_mem (f := lst G) ht) b hb x hxt y hy
/-- What is seen stays. -/
theorem Job1.seen {keep up : Int} {bottom : Bool} (h : Job1 ts G nx n A all out) (hall : all = leftL keep bottom (mrg (listsOf G A))) (hku : keep ≤ up) (hp : ts'.Perm (addsOf nx (n + 1) out ++ dropF ts (A.map (·.f)))) (hk : A = ts ∨ KD (listsOf G ts)) :
    seenL up (mrg (listsOf (putG G nx out) ts')) = seenL up (mrg (listsOf G ts)) := by
  have hA := lists_right fun t ht => h.st.ok t (h.sub t ht)
  have hc : out.flatten = leftL keep bottom (mrg (listsOf G A)) := by rw [h.cuts.flat, List.take_length, hall]
  have hrt := lists_right h.st.ok
  have hl := h.lists hp
  have hr' : (listsOf (putG G nx out) ts').all rightB = true := List.all_eq_true.2 fun l hl' => by
    rcases List.mem_append.1 (hl.mem_iff.1 hl') with h1 | h1
    · exact List.all_eq_true.1 (h.cuts.right h.right) l h1
    · obtain ⟨t, ht, rfl⟩ := List.mem_map.1 h1
      exact (h.st.ok t (mem_dropF.1 ht).1).lst.2.2.1
  rcases hk with rfl | hk
  · have hd0 : dropF A (A.map (·.f)) = [] := drop_all A
    have hkd := h.kd hp (.inl hd0)
    rw [hd0] at hl
    exact job_first hku hA hr' (by have e : out ++ listsOf G [] = out := List.append_nil _; rw [e] at hl; exact hl) hkd hc
  · have h1 : (listsOf G ts).Perm (listsOf G A ++ listsOf G (dropF ts (A.map (·.f)))) := by have := h.perm.map (lst G); rw [List.map_append] at this; exact this
    exact job_seen hku hA hrt hr' h1 hl hk (h.kd hp (.inr hk)) hc
end
end Go.Proofs.Ytblbddamebbgaaa.K

/- Plain law: from job to job. -/
namespace Go.Proofs.Ytblbddamebbgaaa.K
open Go Go.RowKit
set_option linter.unusedVariables false
section
variable {ts A ts' : List Tb} {G : Int → Option (List Ent)} {nx n : Int} {all : List Ent} {out : List (List Ent)}
theorem Job1.okAdds (h : Job1 ts G nx n A all out) : ∀ t ∈ addsOf nx (n + 1) out, okTab t := fun t ht => by
  obtain ⟨i, hi, rfl⟩ := mem_adds ht
  have hm := List.getElem_mem hi
  have hr := List.all_eq_true.1 (h.cuts.right h.right) _ hm
  have h0 := h.st.nx0
  have hn0 := h.n0
  have hn5 := h.n5
  have hnx := h.nxl
  have h1 := sizeL_le out[i] (h.outEnt hm)
  have h2 := tot_mem hm
  have h3 := h.totOut
  have h4 := h.totA
  have h5 := h.st.tot
  have hf : (tabOf (nx + (i : Nat)) (n + 1) out[i]).f = nx + (i : Nat) := rfl
  have hl : (tabOf (nx + (i : Nat)) (n + 1) out[i]).l = n + 1 := rfl
  have hs : (tabOf (nx + (i : Nat)) (n + 1) out[i]).s = (sizeL out[i] : Nat) := rfl
  exact ⟨by omega, by omega, by omega, by omega, ble_not (tab_az (h.cuts.ne _ hm) hr), by omega, by omega⟩
theorem Job1.next (h : Job1 ts G nx n A all out) (hp : ts'.Perm (addsOf nx (n + 1) out ++ dropF ts (A.map (·.f)))) (hk : dropF ts (A.map (·.f)) = [] ∨ KD (listsOf G ts)) : St ts' (putG G nx out) (nx + (out.length : Nat)) where
  nod := (hp.map (·.f)).nodup_iff.2 h.nodup
  ok t ht := by
    have hn0 := h.n0
    have hn5 := h.n5
    have h0 := h.st.nx0
    rcases List.mem_append.1 (hp.mem_iff.1 ht) with h1 | h1
    · obtain ⟨i, hi, rfl⟩ := mem_adds h1
      have hm := List.getElem_mem hi
      exact ⟨out[i], putG_new hi, h.cuts.ne _ hm, List.all_eq_true.1 (h.cuts.right h.right) _ hm, rfl, by show 0 ≤ n + 1; omega, by show n + 1 ≤ 6; omega, by show 0 ≤ nx + (i : Nat); omega, by show nx + (i : Nat) < _; omega⟩
    · obtain ⟨l, h2, h3, h4, h5, h6, h7, h8, h9⟩ := h.st.ok t (mem_dropF.1 h1).1
      exact ⟨l, by rw [putG_old h9]; exact h2, h3, h4, h5, h6, h7, h8, by omega⟩
  pd := h.pdm.perm hp
  tot := by
    rw [tot_perm (h.lists hp), tot_app]
    have := h.totOut
    have := h.totA
    have := h.st.tot
    omega
  alt := .inr ⟨fun t ht => by
    have hn0 := h.n0
    rcases List.mem_append.1 (hp.mem_iff.1 ht) with h1 | h1
    · obtain ⟨i, hi, rfl⟩ := mem_adds h1
      show 1 ≤ n + 1; omega
    · exact h.low t h1, h.kd hp hk⟩
  nx0 := by have := h.st.nx0; omega
  ent t ht e he := by
    rcases List.mem_append.1 (hp.mem_iff.1 ht) with h1 | h1
    · obtain ⟨i, hi, rfl⟩ := mem_adds h1
      have e1 : lst (putG G nx out) (tabOf (nx + (i : Nat)) (n + 1) out[i]) = out[i] := by
        show (putG G nx out (nx + (i : Nat))).getD [] = _
        rw [putG_new hi]; rfl
      rw [e1] at he
      exact h.outEnt (List.getElem_mem hi) e he
    · have e1 : lst (putG G nx out) t = lst G t := by unfold lst; rw [putG_old (h.oldf t h1)]
      rw [e1] at he
      exact h.st.ent t (mem_dropF.1 h1).1 e he
/-- What is picked is such a job. -/
theorem picks_job {z b t : Int} {m : Nat} {l : List Tb} (hS : St ts G nx) (hp : Picks ts z b t true m l) : (m : Int) ≤ 5 ∧ (jobAll ts m l).Nodup ∧ (∀ t ∈ jobAll ts m l, t ∈ ts) ∧ (∀ t ∈ jobAll ts m l, (m : Int) ≤ t.l ∧ t.l ≤ m + 1) ∧
    (∀ b ∈ dropF ts ((jobAll ts m l).map (·.f)), b.l = (m : Int) + 1 → (∀ t ∈ jobAll ts m l, bl t.z.toList b.a.toList = true) ∨ ∀ t ∈ jobAll ts m l, bl b.z.toList t.a.toList = true) ∧ (∀ b ∈ dropF ts ((jobAll ts m l).map (·.f)), 1 ≤ b.l) ∧ (∃ x ∈ jobAll ts m l, x.l = (m : Int)) ∧
    (jobAll ts m l = ts ∨ KD (listsOf G ts)) := by
  rcases hp with ⟨h, -⟩ | ⟨-, hok, ⟨rfl, rfl, hz⟩ | ⟨h1, h5, -, x, hx, rfl⟩⟩
  · cases h
  · have hz1 := (of_decide_eq_true hok).1
    have hpos : 0 < (levelL ts 0).length := by omega
    obtain ⟨h1, h2⟩ := mem_levelL.1 (List.getElem_mem hpos)
    have h0 : ∀ t ∈ ts, t.l = 0 := by
      rcases hS.alt with h | ⟨h, -⟩
      · exact h
      · have := h _ h1; omega
    have hne : ts ≠ [] := fun e => List.ne_nil_of_mem h1 e
    have e0 : ((0 : Nat) : Int) = 0 := rfl
    rw [e0, level_all h0, job_all h0 hne, drop_all]
    refine ⟨by decide, nod_list hS.nod, fun t h => h, fun t h => by have := h0 t h; omega, fun b hb => (by cases hb), fun b hb => (by cases hb), ⟨_, h1, h2⟩, .inl rfl⟩
  · have hxl := (mem_levelL.1 hx).2
    obtain ⟨hlv, hkd⟩ : (∀ t ∈ ts, 1 ≤ t.l) ∧ KD (listsOf G ts) := by
      rcases hS.alt with h | h
      · have := h x (mem_levelL.1 hx).1; omega
      · exact h
    obtain ⟨hn1, hn2⟩ := job_one_nod hS.nod hx
    refine ⟨by omega, hn1, hn2, fun t ht => ?_, fun b hb hbl => ?_, fun b hb => hlv b (mem_dropF.1 hb).1, ⟨x, by rw [job_one]; exact List.mem_cons_self .., hxl⟩, .inr hkd⟩
    · rw [job_one] at ht
      rcases List.mem_cons.1 ht with rfl | ht
      · omega
      · have := (mem_overL.1 ht).1.2; omega
    · obtain ⟨hb1, hb2⟩ := mem_dropF.1 hb
      exact job_side hS.pd (fun t ht => (hS.ok t ht).az) (by omega) hx hb1 hbl (fun h => hb2 (List.mem_map_of_mem (f := (·.f)) h)) hS.nod
end
end Go.Proofs.Ytblbddamebbgaaa.K

/- Plain law: the version made of rows. -/
namespace Go.Proofs.Ytblbddamebbgaaa.K
open Go Go.RowKit
set_option linter.unusedVariables false
theorem St.start (G : Int → Option (List Ent)) : St [] G 0 := ⟨List.Pairwise.nil, (fun t h => by cases h), (fun a h => by cases h), Nat.zero_le _, .inl (fun t h => by cases h), by decide, (fun t h => by cases h)⟩
theorem St.up {ts : List Tb} {G : Int → Option (List Ent)} {nx nx' : Int} (h : St ts G nx) (hle : nx ≤ nx') : St ts G nx' :=
  ⟨h.nod, fun t ht => by obtain ⟨l, h1, h2, h3, h4, h5, h6, h7, h8⟩ := h.ok t ht; exact ⟨l, h1, h2, h3, h4, h5, h6, h7, by omega⟩, h.pd, h.tot, h.alt, by have := h.nx0; omega, h.ent⟩
/-- A table of level 0 more. -/
theorem St.add {ts ts' : List Tb} {G : Int → Option (List Ent)} {nx : Int} {l : List Ent} (h : St ts G nx) (h0 : ∀ t ∈ ts, t.l = 0) (hne : l ≠ []) (hr : rightB l = true) (hent : ∀ e ∈ l, EntOk e) (htot : K.tot (listsOf G ts) + l.length ≤ 150) (hp : ts'.Perm (tabOf nx 0 l :: ts)) :
    St ts' (putG G nx [l]) (nx + 1) ∧ (∀ t ∈ ts', t.l = 0) ∧ K.tot (listsOf (putG G nx [l]) ts') = K.tot (listsOf G ts) + l.length := by
  have hold : ∀ t ∈ ts, t.f < nx := fun t ht => by obtain ⟨_, -, -, -, -, -, -, -, h9⟩ := h.ok t ht; exact h9
  have hnew : putG G nx [l] nx = some l := by
    have := putG_new (G := G) (nx := nx) (out := [l]) (i := 0) (by simp)
    rwa [show nx + ((0 : Nat) : Int) = nx from by omega] at this
  have hz : ∀ t ∈ ts', t.l = 0 := fun t ht => by
    rcases List.mem_cons.1 (hp.mem_iff.1 ht) with rfl | h1
    · rfl
    · exact h0 t h1
  have htt : K.tot (listsOf (putG G nx [l]) ts') = K.tot (listsOf G ts) + l.length := by
    rw [listsOf_eq, tot_perm (hp.map (lst (putG G nx [l])))]
    show (lst (putG G nx [l]) (tabOf nx 0 l)).length + K.tot (listsOf (putG G nx [l]) ts) = _
    rw [lists_old hold]
    have e : lst (putG G nx [l]) (tabOf nx 0 l) = l := by show (putG G nx [l] nx).getD [] = l; rw [hnew]; rfl
    rw [e]; omega
  refine ⟨⟨?_, fun t ht => ?_, fun a ha b hb _ h1 => by have := hz a ha; omega, by rw [htt]; exact htot, .inl hz, by have := h.nx0; omega, fun t ht e he => ?_⟩, hz, htt⟩
  · refine (hp.map (·.f)).nodup_iff.2 ?_
    rw [List.map_cons, List.nodup_cons]
    refine ⟨fun hm => ?_, h.nod⟩
    obtain ⟨u, hu, e⟩ := List.mem_map.1 hm
    have h1 := hold u hu
    have e' : u.f = nx := e
    omega
  · have hx0 := h.nx0
    rcases List.mem_cons.1 (hp.mem_iff.1 ht) with rfl | h1
    · exact ⟨l, hnew, hne, hr, rfl, by show (0 : Int) ≤ 0; omega, by show (0 : Int) ≤ 6; omega, hx0, by show nx < nx + 1; omega⟩
    · obtain ⟨l', h2, h3, h4, h5, h6, h7, h8, h9⟩ := h.ok t h1
      exact ⟨l', by rw [putG_old h9]; exact h2, h3, h4, h5, h6, h7, h8, by omega⟩
  · rcases List.mem_cons.1 (hp.mem_iff.1 ht) with rfl | h1
    · have e1 : lst (putG G nx [l]) (tabOf nx 0 l) = l := by show (putG G nx [l] nx).getD [] = l; rw [hnew]; rfl
      rw [e1] at he; exact hent e he
    · have e1 : lst (putG G nx [l]) t = lst G t := by unfold lst; rw [putG_old (hold t h1)]
      rw [e1] at he; exact h.ent t h1 e he
/-- How much there is to do at most. -/
theorem St.pot {ts : List Tb} {G : Int → Option (List Ent)} {nx : Int} (h : St ts G nx) : K.pot G ts ≤ 900 := by
  have h1 : K.pot G ts ≤ K.tot (listsOf G ts) * 6 := by
    have : ∀ l : List Tb, (∀ t ∈ l, 0 ≤ t.l) → K.pot G l ≤ K.tot (listsOf G l) * 6 := fun l => by
      induction l with
      | nil => intro _; simp [K.pot, listsOf, K.tot]
      | cons t r ih =>
        intro hl
        have ih' := ih fun u hu => hl u (List.mem_cons_of_mem _ hu)
        have e1 : K.tot (listsOf G (t :: r)) = (lst G t).length + K.tot (listsOf G r) := rfl
        have e2 : K.pot G (t :: r) = (lst G t).length * (6 - t.l).toNat + K.pot G r := by simp [K.pot]
        have h2 : (6 - t.l).toNat ≤ 6 := by have := hl t (List.mem_cons_self ..); omega
        have h3 := Nat.mul_le_mul_left (lst G t).length h2
        rw [e1, e2, Nat.add_mul]; omega
    exact this ts fun t ht => by obtain ⟨_, -, -, -, -, h6, -⟩ := h.ok t ht; exact h6
  have h2 := h.tot
  omega
end Go.Proofs.Ytblbddamebbgaaa.K

/- A shape as an argument. -/
namespace Go.Proofs.Ytblbddamebbgaaa.K
open Go Go.RowKit Go.ChangeShapes Go.WideShapes Go.ChangeAt
set_option linter.unusedVariables false
theorem cellsOf78 : Try.prog.cellsOf 78 = 3 := by kernel_rfl

theorem list3 {α : Type} {l : List α} (h : l.length = 3) : ∃ a b c, l = [a, b, c] := by
  match l, h with
  | [a, b, c], _ => exact ⟨a, b, c, rfl⟩
set_option maxRecDepth 100000 in
theorem open_shape_arg {H : Type} {enc : TypeId × Value → H} {W : World} {r : Reach} {b0 : Nat} {v : Value} {d : DataW H} {p : List MemPlace} (h : DataW.Trod enc Try.prog W 0 (fun _ => true) true 78 v d p) (hval : Value.okWide Try.prog W r b0 78 v) : ∃ a b c : Int, v = .agg #[.int .i64 a, .int .i64 b, .int .i64 c] := by
  obtain ⟨cs, rfl, -⟩ := okWide_struct Try.underlying78 hval
  obtain ⟨n, hn⟩ := h
  obtain ⟨y0, y1, y2, m, -, hl, h0, h1, h2⟩ := Go.Deep.trod_struct3 Try.underlying78 hn
  rw [cellsOf78] at hl
  obtain ⟨c0, c1, c2, e⟩ := list3 hl
  rw [e] at h0 h1 h2
  replace h0 : DataW.trod enc Try.prog W 0 (fun _ => true) true m 3 ((([c0, c1, c2] : List Value).drop 0).take (Try.prog.cellsOf 3)) = some y0 := h0
  replace h1 : DataW.trod enc Try.prog W 0 (fun _ => true) true m 3 ((([c0, c1, c2] : List Value).drop 1).take (Try.prog.cellsOf 3)) = some y1 := h1
  replace h2 : DataW.trod enc Try.prog W 0 (fun _ => true) true m 3 ((([c0, c1, c2] : List Value).drop 2).take (Try.prog.cellsOf 3)) = some y2 := h2
  rw [cellsOf3] at h0 h1 h2
  obtain ⟨a, e0, -, -⟩ := DataW.trod_int Try.underlying3 h0
  obtain ⟨b, e1, -, -⟩ := DataW.trod_int Try.underlying3 h1
  obtain ⟨c, e2, -, -⟩ := DataW.trod_int Try.underlying3 h2
  simp at e0 e1 e2
  subst e0; subst e1; subst e2
  refine ⟨a, b, c, ?_⟩
  have e' : cs.toList = [.int .i64 a, .int .i64 b, .int .i64 c] := e
  rw [show cs = cs.toList.toArray from rfl, e']
end Go.Proofs.Ytblbddamebbgaaa.K

/- A call in a region whose order is drawn, one argument known up to a fact. -/
namespace Go.Proofs.Ytblbddamebbgaaa.K
open Go Go.RowKit
set_option linter.unusedVariables false
section
variable {X : Spx} {F : Fence} {n : Nat} {P : Program} {m : Nat} {D : List Deferred} {L : Env}
variable {ops : List Oper} {rest : List Oper} {i d : Nat} {ty : TypeId} {pos : String} {af : Array Edge} {g : Option (Nat × Bool)} {K : Env → List (Nat × PVP) → Prop} {V : List (Nat × PVP)}
theorem qx_callv {op : Op} {f : FuncId} {args : Value → Array Value} {p q : PVP} {s : Nat} (hn : noSpB X i = true) (hs : StabX X ops i d p) (hg : wants L ops g = some true) (hd : Nat.blt d m = true) (hno : at' L d = none) (hV : (s, q) ∈ V) (hlo : s ∈ looks ops ⟨some d, op, ty, pos, af, g⟩)
    (hx : ∀ w' u, Xc P m D ((s, u) :: L) op ty w' f (args u) w') (hc : ∀ ph w' u, X.J ph w' → q ph u w' → CallsIn F (n - 1) P f (args u) w' (ok1 fun v w'' => p ph v w'' ∧ Ext w' w'')) (k : QWX X F n P m D ops K (i + 1) rest L ((d, p) :: V)) :
    QWX X F n P m D ops K i (⟨some d, op, ty, pos, af, g⟩ :: rest) L V :=
  .inr ⟨d, rfl, hd, .p p, fun _ _ => hno, hs, .inr ⟨noSp_of hn, fun ph w' _ hbf hJ a h hf => by
    obtain ⟨u, hu, hq⟩ := hf _ hV hlo
    exact .inl ⟨h.wanted (o := ⟨some d, op, ty, pos, af, g⟩) hg, .call f (args u) w' ((hx w' u).2 _ _ _ _ a (fr_cons h hu)) (hc ph w' u hJ hq)⟩⟩, k⟩
end
end Go.Proofs.Ytblbddamebbgaaa.K

/- A file put. -/
namespace Go.Proofs.Ytblbddamebbgaaa.K
open Go Go.RowKit
set_option linter.unusedVariables false
theorem putG_snoc {G : Int → Option (List Ent)} {nx : Int} {out : List (List Ent)} {k : Nat} (hk : k < out.length) : putG G nx (out.take (k + 1)) = fun x => if x = nx + (k : Nat) then some out[k] else putG G nx (out.take k) x := by
  funext x
  unfold putG
  have e1 : (out.take (k + 1)).length = k + 1 := by simp; omega
  have e2 : (out.take k).length = k := by simp; omega
  rw [e1, e2]
  by_cases hx : x = nx + (k : Nat)
  · subst hx
    rw [if_pos (by omega), if_pos rfl, show (nx + (k : Nat) - nx).toNat = k from by omega, List.getElem?_take, if_pos (by omega), List.getElem?_eq_getElem hk]
  · rw [if_neg hx]
    by_cases h2 : nx ≤ x ∧ x < nx + (k : Nat)
    · rw [if_pos (by omega), if_pos h2, List.getElem?_take, List.getElem?_take, if_pos (by omega), if_pos (by omega)]
    · rw [if_neg (by omega), if_neg h2]
theorem putG_nil (G : Int → Option (List Ent)) (nx : Int) : putG G nx [] = G := by
  funext x
  unfold putG
  rw [if_neg (by simp only [List.length_nil]; omega)]
theorem FRel.put {w w' : World} {bm n : Nat} {G : Int → Option (List Ent)} {f : Int → Option Value} {i : Int} {l : List Ent} {v : Value} (hf : ∀ j l, G j = some l → ∃ v, f j = some v ∧ Row (fun k => k ≠ bm ∧ k < w.heap.size) w v l) (hM : MapIs KI w' bm (n + 1) (fun x => if x = i then some v else f x)) (hk : Keep (· ≠ bm) w w') (hv : Row (fun k => k ≠ bm) w v l) :
    FRel w' bm (n + 1) (fun x => if x = i then some l else G x) := by
  refine ⟨_, hM, fun j l' hj => ?_⟩
  replace hj : (if j = i then some l else G j) = some l' := hj
  by_cases e : j = i
  · subst e
    rw [if_pos rfl] at hj
    cases hj
    exact ⟨v, if_pos rfl, (hv.ck (CK.of_keep hk fun k _ h => h)).mono fun k hk h => ⟨h, hk⟩⟩
  · rw [if_neg e] at hj
    obtain ⟨u, h1, h2⟩ := hf j l' hj
    exact ⟨u, by rw [if_neg e]; exact h1, (h2.ck (CK.of_keep hk fun k _ h => h.1)).mono fun k hk h => ⟨h.1, hk⟩⟩
end Go.Proofs.Ytblbddamebbgaaa.K

/- The region `v, _ = Apply(..)`: the store is operation c. -/
namespace Go.Proofs.Ytblbddamebbgaaa.K
open Go Go.RowKit
set_option linter.unusedVariables false
/-- The region of `out, e = one(..)`: out lies in block b6. -/
def AXc (c b6 base : Nat) (PP : List Tb) (wA : World) : Spx := ⟨[c], AJ b6 base PP wA, fun _ w1 w2 => (∃ cs, Blk w1 b6 cs 82) ∧ Keep (· ≠ b6) w1 w2⟩
theorem axc_ext {c b6 base : Nat} {PP : List Tb} {wA : World} : ∀ ph w w', (AXc c b6 base PP wA).J ph w → Ext w w' → (AXc c b6 base PP wA).J ph w'
  | 0, _, _, h, hx => Keep.trans h hx
  | _ + 1, _, _, ⟨h, tv, l, h1, h2, h3⟩, hx => ⟨h.trans (Keep.of_ext hx), tv, l, h1.ext hx, h2.ext hx, h3⟩
theorem axc_keep {c b6 base : Nat} {PP : List Tb} {wA : World} : ∀ {ph : Nat} {w' : World}, (AXc c b6 base PP wA).J ph w' → Keep (· ≠ b6) wA w'
  | 0, _, h => Keep.of_ext h
  | _ + 1, _, h => h.1
theorem ap1c_stab {c b6 base base' : Nat} {PP : List Tb} {wA : World} {ops : List Oper} {j d : Nat} : StabX (AXc c b6 base' PP wA) ops j d (AP1 base PP) :=
  ⟨fun ph v w1 w2 ⟨tv, l, h1, h2, h3⟩ hx => ⟨tv, l, h1, h2.ext hx, h3⟩, fun k hk _ _ v w1 w2 ⟨tv, l, h1, h2, h3⟩ ⟨⟨cs, hB⟩, hg⟩ => ⟨tv, l, h1, h2.keep hg (fun b hb => h2.ne hb hB (by decide)), h3⟩⟩
theorem ap2c_stab {c b6 base base' : Nat} {PP : List Tb} {wA : World} {ops : List Oper} {j d : Nat} : StabX (AXc c b6 base' PP wA) ops j d (AP2 base PP) :=
  ⟨fun ph v w1 w2 ⟨tv, l, h1, h2, h3⟩ hx => ⟨tv, l, h1, h2.ext hx, h3⟩, fun k hk _ _ v w1 w2 ⟨tv, l, h1, h2, h3⟩ ⟨⟨cs, hB⟩, hg⟩ => ⟨tv, l, h1, h2.keep hg (fun b hb => h2.ne hb hB (by decide)), h3⟩⟩
theorem qx_stOutc {F : Fence} {n m : Nat} {D : List Deferred} {L : Env} {ops rest : List Oper} {i : Nat} {ty : TypeId} {pos : String} {af : Array Edge} {g : Option (Nat × Bool)} {K : Env → List (Nat × PVP) → Prop} {V : List (Nat × PVP)} {c b6 base p s : Nat} {PP : List Tb} {wr : World} {ov : Value} (hi : i = c) (hg : wants L ops g = some true)
    (hp : ∀ u, ev ((s, u) :: L) (.tmp p) = some (.pointer (some ⟨b6, 0, none⟩))) (hB6 : Blk wr b6 [ov, .int .u64 0, .int .i64 0, .int .i64 0] 82) (hV : (s, AP2 base PP) ∈ V) (hlo : s ∈ looks ops ⟨none, .store 82 (.tmp p) (.tmp s), ty, pos, af, g⟩) (hone : ∀ q' ∈ V, q'.1 ∈ looks ops ⟨none, .store 82 (.tmp p) (.tmp s), ty, pos, af, g⟩ → q' = (s, AP2 base PP))
    (kk : QWX (AXc c b6 base PP wr) F n Try.prog m D ops K (i + 1) rest L V) : QWX (AXc c b6 base PP wr) F n Try.prog m D ops K i (⟨none, .store 82 (.tmp p) (.tmp s), ty, pos, af, g⟩ :: rest) L V := by
  subst hi
  refine qx_store1 (k := 0) Nat.zero_lt_one rfl hg hV hlo hone (fun w' u hJ hu => ?_) kk
  obtain ⟨tv3, l3, rfl, hO3, hp3⟩ := hu
  obtain ⟨a3, c3, rfl, hc3⟩ := hO3.form
  have hJ0 : Ext wr w' := hJ
  obtain ⟨w2, h8, h9, h10⟩ := xs_storeA (P := Try.prog) (m := m) (D := D) (L := (s, .agg #[.slice a3 l3.length c3, .int .u64 0, .int .i64 0, .int .i64 0]) :: L) (ty := ty) (x := .tmp p) (y := .tmp s) (o := 0) (new := [.slice a3 l3.length c3, .int .u64 0, .int .i64 0, .int .i64 0]) ag82 (hp _) (by show at' _ _ = _; rw [at_cons, if_pos rfl]) rfl rfl (hB6.ext hJ0) rfl
  have hO4 := hO3.keep h10 (fun b hb => hO3.ne hb (hB6.ext hJ0) (by decide))
  exact ⟨w2, h8, ⟨(Keep.of_ext hJ0).trans h10, _, l3, h9, hO4, hp3⟩, ⟨⟨_, hB6.ext hJ0⟩, h10⟩, ⟨_, l3, rfl, hO4, hp3⟩⟩
end Go.Proofs.Ytblbddamebbgaaa.K

/- A row's blocks are none that hold neither strings nor bytes. -/
namespace Go.Proofs.Ytblbddamebbgaaa.K
open Go Go.RowKit
set_option linter.unusedVariables false
theorem Byts.avoid {A : Nat → Prop} {w : World} {v : Value} {l : List UInt8} {b9 : Nat} (h : Byts A w v l) (hn : ∀ o u, w.cell? ⟨b9, o, none⟩ = some u → ∀ x, u ≠ .int .u8 x) : Byts (fun k => A k ∧ k ≠ b9) w v l := by
  obtain ⟨ad, cap, rfl, h1, h2⟩ := h
  refine ⟨ad, cap, rfl, h1, fun hne => ?_⟩
  obtain ⟨b, o, e, hA, hc⟩ := h2 hne
  refine ⟨b, o, e, ⟨hA, fun hb => ?_⟩, hc⟩
  subst hb
  cases l with
  | nil => exact hne rfl
  | cons x t => exact hn _ _ (hc 0 x rfl) _ rfl
theorem Row.avoid {A : Nat → Prop} {w : World} {v : Value} {es : List Ent} {b9 : Nat} (h : Row A w v es) (hn : ∀ o u, w.cell? ⟨b9, o, none⟩ = some u → ∀ x, u ≠ .int .u8 x) (hs : ∀ o u, w.cell? ⟨b9, o, none⟩ = some u → ∀ x, u ≠ .string x) : Row (fun k => A k ∧ k ≠ b9) w v es := by
  obtain ⟨ad, cap, rfl, h1, h2, h3, h4⟩ := h
  refine ⟨ad, cap, rfl, h1, h2, h3, fun hne => ?_⟩
  obtain ⟨b, o, e, hA, hr⟩ := h4 hne
  refine ⟨b, o, e, ⟨hA, fun hb => ?_⟩, fun i x hi => ?_⟩
  · subst hb
    cases es with
    | nil => exact hne rfl
    | cons x t =>
      obtain ⟨bv, hc, hby⟩ := hr 0 x rfl
      exact hs _ _ (hc 0 _ rfl) _ rfl
  · obtain ⟨bv, hc, hby⟩ := hr i x hi
    exact ⟨bv, hc, hby.avoid hn⟩
end Go.Proofs.Ytblbddamebbgaaa.K

/- Boxes that a row does not lie in. -/
namespace Go.Proofs.Ytblbddamebbgaaa.K
open Go Go.RowKit
set_option linter.unusedVariables false
theorem blk_cell {w : World} {b o : Nat} {cs : List Value} {T : TypeId} {u : Value} (hB : Blk w b cs T) (h : w.cell? ⟨b, o, none⟩ = some u) : cs[o]? = some u := by
  by_cases ho : o < cs.length
  · have h1 := hB.cell (o := o) (List.getElem?_eq_getElem ho)
    rw [h1] at h
    rw [List.getElem?_eq_getElem ho]; exact h
  · unfold Blk at hB
    unfold World.cell? at h
    rw [hB] at h
    simp at h
    omega
/-- A row does not lie in a version's box. -/
theorem Row.noBox {A : Nat → Prop} {w : World} {v tv : Value} {es : List Ent} {b9 : Nat} {p q r : Int} (h : Row A w v es) (hB : Blk w b9 [tv, .int .u64 p, .int .i64 q, .int .i64 r] 82) (ht : ∃ a n c, tv = .slice a n c) : Row (fun k => A k ∧ k ≠ b9) w v es := by
  obtain ⟨a, n, c, rfl⟩ := ht
  have key : ∀ o u, w.cell? ⟨b9, o, none⟩ = some u → u = .slice a n c ∨ u = .int .u64 p ∨ u = .int .i64 q ∨ u = .int .i64 r := fun o u h => by
    have h1 := List.mem_of_getElem? (blk_cell hB h)
    simpa using h1
  refine h.avoid (fun o u hu x e => ?_) (fun o u hu x e => ?_) <;> subst e <;> rcases key o _ hu with h | h | h | h <;> cases h
theorem Row.noMap {A : Nat → Prop} {w : World} {v : Value} {es : List Ent} {bm n : Nat} {f : Int → Option Value} (h : Row A w v es) (hM : MapIs KI w bm n f) : Row (fun k => A k ∧ k ≠ bm) w v es := by
  have key : ∀ o u, ¬ w.cell? ⟨bm, o, none⟩ = some u := fun o u h => by
    obtain ⟨D, ⟨es, clock, hb, -⟩, -⟩ := hM
    unfold World.cell? at h
    rw [hb] at h
    simp at h
  exact h.avoid (fun o u hu => absurd hu (key o u)) (fun o u hu => absurd hu (key o u))
end Go.Proofs.Ytblbddamebbgaaa.K

/- Helpers of the walk C15: an edit that adds one table; what the files tell, kept. -/
namespace Go.Proofs.Ytblbddamebbgaaa.K
open Go Go.RowKit
set_option linter.unusedVariables false
set_option linter.unusedSimpArgs false
set_option linter.unusedSectionVars false
theorem build90a {a : Option Addr} {n c : Nat} (w : World) : (Instr.build 90 [(0, Value.slice a n c)].toArray).run Try.prog w = .ok (.agg #[.slice a n c, .slice none 0 0, .int .u64 0, .int .i64 0, .int .i64 0]) w := by
  simp [Instr.build, run_underlying Try.underlying90, Try.zeroValue90, fl80.siz w]
  rfl
theorem build90d {a : Option Addr} {n c : Nat} (w : World) : (Instr.build 90 [(1, Value.slice a n c)].toArray).run Try.prog w = .ok (.agg #[.slice none 0 0, .slice a n c, .int .u64 0, .int .i64 0, .int .i64 0]) w := by
  simp [Instr.build, run_underlying Try.underlying90, Try.zeroValue90, fl80.siz w, fl42.siz w]
  rfl
section
variable {m : Nat} {D : List Deferred} {L : Env} {w : World} {ty : TypeId} {x : Operand}
theorem x_build90a {a : Option Addr} {n c : Nat} (hx : ev L x = some (.slice a n c)) : Xv Try.prog m D L (.build 90 #[(0, x)]) ty w (.agg #[.slice a n c, .slice none 0 0, .int .u64 0, .int .i64 0, .int .i64 0]) w :=
  x_build (parts := [(0, x)]) Try.underlying90 Try.zeroValue90 (pv := [(0, .slice a n c)]) (fun a h => by show [(0, a.eval x)] = _; rw [h.ev hx]) build90a
theorem x_build90d {a : Option Addr} {n c : Nat} (hx : ev L x = some (.slice a n c)) : Xv Try.prog m D L (.build 90 #[(1, x)]) ty w (.agg #[.slice none 0 0, .slice a n c, .int .u64 0, .int .i64 0, .int .i64 0]) w :=
  x_build (parts := [(1, x)]) Try.underlying90 Try.zeroValue90 (pv := [(1, .slice a n c)]) (fun a h => by show [(1, a.eval x)] = _; rw [h.ev hx]) build90d
/-- One table, in a slice of its own. -/
def TP1 (t : Tb) : PVP := fun _ v w => ∃ b, v = .slice (some ⟨b, 0, none⟩) 1 1 ∧ Blk w b (cellsT t) 87
/-- The edit that adds it. -/
def EP1 (t : Tb) : PVP := fun _ v w => ∃ b, v = .agg #[.slice (some ⟨b, 0, none⟩) 1 1, .slice none 0 0, .int .u64 0, .int .i64 0, .int .i64 0] ∧ Blk w b (cellsT t) 87
/-- That edit, in a slice of its own. -/
def SP1 (t : Tb) : PVP := fun _ v w => ∃ be b, v = .slice (some ⟨be, 0, none⟩) 1 1 ∧ Blk w be [.slice (some ⟨b, 0, none⟩) 1 1, .slice none 0 0, .int .u64 0, .int .i64 0, .int .i64 0] 90 ∧ Blk w b (cellsT t) 87
theorem tp1_stab {c b6 base : Nat} {PP : List Tb} {wA : World} {ops : List Oper} {j d : Nat} {t : Tb} : StabX (AXc c b6 base PP wA) ops j d (TP1 t) :=
  ⟨fun ph v w1 w2 ⟨b, h1, h2⟩ hx => ⟨b, h1, h2.ext hx⟩, fun k hk _ _ v w1 w2 ⟨b, h1, h2⟩ ⟨⟨cs, hB⟩, hg⟩ => ⟨b, h1, h2.keep hg (h2.ne hB (by decide))⟩⟩
theorem ep1_stab {c b6 base : Nat} {PP : List Tb} {wA : World} {ops : List Oper} {j d : Nat} {t : Tb} : StabX (AXc c b6 base PP wA) ops j d (EP1 t) :=
  ⟨fun ph v w1 w2 ⟨b, h1, h2⟩ hx => ⟨b, h1, h2.ext hx⟩, fun k hk _ _ v w1 w2 ⟨b, h1, h2⟩ ⟨⟨cs, hB⟩, hg⟩ => ⟨b, h1, h2.keep hg (h2.ne hB (by decide))⟩⟩
theorem sp1_stab {c b6 base : Nat} {PP : List Tb} {wA : World} {ops : List Oper} {j d : Nat} {t : Tb} : StabX (AXc c b6 base PP wA) ops j d (SP1 t) :=
  ⟨fun ph v w1 w2 ⟨be, b, h1, h2, h3⟩ hx => ⟨be, b, h1, h2.ext hx, h3.ext hx⟩, fun k hk _ _ v w1 w2 ⟨be, b, h1, h2, h3⟩ ⟨⟨cs, hB⟩, hg⟩ => ⟨be, b, h1, h2.keep hg (h2.ne hB (by decide)), h3.keep hg (h3.ne hB (by decide))⟩⟩
theorem xv_tp1 {t : Tb} {ph : Nat} (hx : ev L x = some (.agg (cellsT t).toArray)) : ∃ v w', Xv Try.prog m D L (.buildSlice 80 1 #[(0, x)]) ty w v w' ∧ TP1 t ph v w' ∧ Ext w w' := by
  obtain ⟨b, w'', h1, h2, h3, h4⟩ := x_buildSlice (P := Try.prog) (m := m) (D := D) (L := L) (w := w) (ty := ty) (parts := [(0, x)]) (vs := [.agg (cellsT t).toArray]) (len := 1) Try.underlying80 ag87.siz Try.zeroValue87 (by simp [partsOk, hx]) rfl rfl (by omega)
  exact ⟨_, w'', h1, ⟨b, rfl, by simpa [allCells, Value.cells] using h3⟩, h4⟩
theorem xv_sp1 {t : Tb} {ph b : Nat} (hx : ev L x = some (.agg #[.slice (some ⟨b, 0, none⟩) 1 1, .slice none 0 0, .int .u64 0, .int .i64 0, .int .i64 0])) (hB : Blk w b (cellsT t) 87) : ∃ v w', Xv Try.prog m D L (.buildSlice 91 1 #[(0, x)]) ty w v w' ∧ SP1 t ph v w' ∧ Ext w w' := by
  obtain ⟨be, w'', h1, h2, h3, h4⟩ := x_buildSlice (P := Try.prog) (m := m) (D := D) (L := L) (w := w) (ty := ty) (parts := [(0, x)]) (vs := [.agg #[.slice (some ⟨b, 0, none⟩) 1 1, .slice none 0 0, .int .u64 0, .int .i64 0, .int .i64 0]]) (len := 1) Try.underlying91 ag90.siz Try.zeroValue90 (by simp [partsOk, hx]) rfl rfl (by omega)
  exact ⟨_, w'', h1, ⟨be, b, rfl, by simpa [allCells, Value.cells] using h3, hB.ext h4⟩, h4⟩
end
theorem Blk.row1 {w : World} {b : Nat} {t : Tb} (h : Blk w b (cellsT t) 87) : TRow (fun k => k < w.heap.size) w (.slice (some ⟨b, 0, none⟩) 1 1) [t] :=
  ⟨_, 1, rfl, Nat.le_refl _, by simp, fun _ => ⟨b, 0, rfl, h.lt, h.lt, fun i x hi => by
    have hi0 : i = 0 := by have := (List.getElem?_eq_some_iff.1 hi).1; simp at this; omega
    subst hi0
    cases hi
    exact fun j u hj => by simpa using h.cell (o := j) hj⟩⟩
theorem irow_nil (A : Nat → Prop) (w : World) : IRow A w (.slice none 0 0) [] := ⟨none, 0, rfl, by simp, fun h => absurd rfl h⟩
theorem putG_one (G : Int → Option (List Ent)) (nx : Int) (l : List Ent) : putG G nx [l] = fun x => if x = nx then some l else G x := by
  have h := putG_snoc (G := G) (nx := nx) (out := [l]) (k := 0) (by simp)
  have e1 : ([l] : List (List Ent)).take (0 + 1) = [l] := rfl
  have e2 : ([l] : List (List Ent)).take 0 = [] := rfl
  rw [e1, e2, putG_nil] at h
  rw [h]
  funext x
  have e3 : nx + ((0 : Nat) : Int) = nx := by omega
  rw [e3]; rfl
/-- The files, a version's box written. -/
theorem FRel.box {w w' : World} {bm n b9 : Nat} {G : Int → Option (List Ent)} {tv : Value} {p q r : Int} (h : FRel w bm n G) (hB : Blk w b9 [tv, .int .u64 p, .int .i64 q, .int .i64 r] 82) (ht : ∃ a n c, tv = .slice a n c) (hk : Keep (· ≠ b9) w w') : FRel w' bm n G := by
  obtain ⟨f, h1, h2⟩ := h
  have hne : b9 ≠ bm := h1.ne b9 ⟨_, hB, rfl⟩
  refine ⟨f, h1.keep hk hne.symm, fun i l hi => ?_⟩
  obtain ⟨v, h3, h4⟩ := h2 i l hi
  refine ⟨v, h3, ((h4.noBox hB ht).ck (CK.of_keep hk fun k _ h => h.2)).mono fun k hk' h => ⟨h.1.1, hk'⟩⟩
theorem St.len {ts : List Tb} {G : Int → Option (List Ent)} {nx : Int} (h : St ts G nx) : ts.length ≤ 150 := by
  have h1 : ∀ l : List Tb, (∀ t ∈ l, TabOk G nx t) → l.length ≤ K.tot (listsOf G l) := fun l => by
    induction l with
    | nil => intro _; exact Nat.le_refl _
    | cons t l ih =>
      intro hl
      have h2 := ih fun u hu => hl u (List.mem_cons_of_mem _ hu)
      have h3 := List.length_pos_iff.2 (hl t (List.mem_cons_self ..)).lst.2.1
      have e : K.tot (listsOf G (t :: l)) = (lst G t).length + K.tot (listsOf G l) := rfl
      rw [e, List.length_cons]; omega
  exact Nat.le_trans (h1 ts h.ok) h.tot
/-- What the table of a row is. -/
theorem okTab_row {i : Int} {lv : Int} {l : List Ent} (h0 : 0 ≤ i) (h1 : i ≤ 1099511627776) (hl0 : 0 ≤ lv) (hl6 : lv ≤ 6) (hne : l ≠ []) (hr : rightB l = true) (hent : ∀ e ∈ l, EntOk e) (hl : l.length ≤ 100000) : okTab (tabOf i lv l) := by
  have hs := sizeL_le l hent
  have e : (tabOf i lv l).s = (sizeL l : Nat) := rfl
  exact ⟨h0, h1, hl0, hl6, ble_not (tab_az hne hr), by omega, by omega⟩
/-- The tables' files, their sizes. -/
theorem St.files {ts : List Tb} {G : Int → Option (List Ent)} {nx : Int} (h : St ts G nx) (hn : nx ≤ 1099511627776) : ∀ t ∈ ts, 0 ≤ t.f ∧ t.f ≤ 1099511627776 ∧ ∃ l, G t.f = some l := fun t ht => by
  obtain ⟨l, h1, h2, h3, h4, h5, h6, h7, h8⟩ := h.ok t ht
  exact ⟨h7, by omega, l, h1⟩
theorem St.sizes {ts : List Tb} {G : Int → Option (List Ent)} {nx : Int} (h : St ts G nx) : ∀ t ∈ ts, 0 ≤ t.s ∧ t.s ≤ 1099511627776 := fun t ht => by
  have h1 := (h.ok t ht).lst.2.2.2
  have h2 := sizeL_le (lst G t) (h.ent t ht)
  have h3 := tot_mem (ls := listsOf G ts) (List.mem_map_of_mem (f := lst G) ht)
  have h4 := h.tot
  have e : t.s = (sizeL (lst G t) : Nat) := by rw [h1]; rfl
  rw [e]; omega
theorem tot_sub {ts A : List Tb} {G : Int → Option (List Ent)} (hn : (ts.map (·.f)).Nodup) (hA : A.Nodup) (hs : ∀ t ∈ A, t ∈ ts) : tot (listsOf G A) ≤ tot (listsOf G ts) := by
  rw [listsOf_eq G ts, tot_perm ((split_perm hn hA hs).map (lst G)), List.map_append, tot_app]
  exact Nat.le_add_right _ _
theorem LOwn.noMap {A : Nat → Prop} {base bm n : Nat} {w : World} {v : Value} {ls : List (List Ent)} {f : Int → Option Value} (h : LOwn A base w v ls) (hM : MapIs KI w bm n f) : LOwn (fun k => A k ∧ k ≠ bm) base w v ls := by
  obtain ⟨⟨vals, h1, h2, h3⟩, h4⟩ := h
  exact ⟨⟨vals, h1, h2, fun i l u hi hj => ((h3 i l u hi hj).noMap hM).mono fun k _ h => ⟨⟨h.1.1, h.2⟩, h.1.2⟩⟩, h4⟩
theorem IRow.noMap {A : Nat → Prop} {w : World} {v : Value} {zs : List Int} {bm n : Nat} {f : Int → Option Value} (h : IRow A w v zs) (hM : MapIs KI w bm n f) : IRow (fun k => A k ∧ k ≠ bm) w v zs := by
  obtain ⟨ad, cap, e, h1, h2⟩ := h
  refine ⟨ad, cap, e, h1, fun hne => ?_⟩
  obtain ⟨b, o, h3, h4, h5⟩ := h2 hne
  refine ⟨b, o, h3, ⟨h4, fun e => ?_⟩, h5⟩
  subst e
  cases zs with
  | nil => exact hne rfl
  | cons z t =>
    have h6 := h5 0 z rfl
    obtain ⟨D, ⟨es, clock, hb, -⟩, -⟩ := hM
    unfold World.cell? at h6
    rw [hb] at h6
    simp at h6
/-- The files, their rows below B. -/
def FBel (B : Nat) (w : World) (bm n : Nat) (G : Int → Option (List Ent)) : Prop := ∃ f, MapIs KI w bm n f ∧ ∀ i l, G i = some l → ∃ v, f i = some v ∧ Row (fun k => k ≠ bm ∧ k < B) w v l
theorem FBel.frel {B bm n : Nat} {w : World} {G : Int → Option (List Ent)} (h : FBel B w bm n G) : FRel w bm n G := by
  obtain ⟨f, h1, h2⟩ := h
  exact ⟨f, h1, fun i l hi => by obtain ⟨v, h3, h4⟩ := h2 i l hi; exact ⟨v, h3, h4.mono fun k hk h => ⟨h.1, hk⟩⟩⟩
theorem FBel.keep {B bm n : Nat} {w w' : World} {G : Int → Option (List Ent)} {S : Nat → Prop} (h : FBel B w bm n G) (hk : Keep S w w') (hb : S bm) (hS : ∀ k, k ≠ bm → k < B → S k) : FBel B w' bm n G := by
  obtain ⟨f, h1, h2⟩ := h
  exact ⟨f, h1.keep hk hb, fun i l hi => by obtain ⟨v, h3, h4⟩ := h2 i l hi; exact ⟨v, h3, h4.ck (CK.of_keep hk fun k _ h => hS k h.1 h.2)⟩⟩
theorem FBel.ext {B bm n : Nat} {w w' : World} {G : Int → Option (List Ent)} (h : FBel B w bm n G) (hx : Ext w w') : FBel B w' bm n G := h.keep hx trivial fun _ _ _ => trivial
theorem FBel.put {B : Nat} {w w' : World} {bm n : Nat} {G : Int → Option (List Ent)} {f : Int → Option Value} {i : Int} {l : List Ent} {v : Value} (hf : ∀ j l, G j = some l → ∃ v, f j = some v ∧ Row (fun k => k ≠ bm ∧ k < B) w v l) (hM : MapIs KI w' bm (n + 1) (fun x => if x = i then some v else f x)) (hk : Keep (· ≠ bm) w w') (hv : Row (fun k => k ≠ bm ∧ k < B) w v l) :
    FBel B w' bm (n + 1) (fun x => if x = i then some l else G x) := by
  refine ⟨_, hM, fun j l' hj => ?_⟩
  replace hj : (if j = i then some l else G j) = some l' := hj
  by_cases e : j = i
  · subst e
    rw [if_pos rfl] at hj
    cases hj
    exact ⟨v, if_pos rfl, hv.ck (CK.of_keep hk fun k _ h => h.1)⟩
  · rw [if_neg e] at hj
    obtain ⟨u, h1, h2⟩ := hf j l' hj
    exact ⟨u, by rw [if_neg e]; exact h1, h2.ck (CK.of_keep hk fun k _ h => h.1)⟩
theorem FRel.keepB {w w' : World} {bm n : Nat} {G : Int → Option (List Ent)} (h : FRel w bm n G) (hk : Keep (fun k => k < w.heap.size) w w') : FRel w' bm n G := by
  have h' : FBel w.heap.size w bm n G := h
  obtain ⟨f, h1, -⟩ := id h
  exact (h'.keep hk h1.lt fun k _ h => h).frel
theorem addsOf_snoc {nx lv : Int} {out : List (List Ent)} {k : Nat} (hk : k < out.length) : addsOf nx lv (out.take (k + 1)) = addsOf nx lv (out.take k) ++ [tabOf (nx + (k : Nat)) lv out[k]] := by
  unfold addsOf
  rw [← List.take_append_getElem hk, List.mapIdx_append]
  simp [Nat.min_eq_left (Nat.le_of_lt hk)]
theorem addsOf_len (nx lv : Int) (out : List (List Ent)) : (addsOf nx lv out).length = out.length := by simp [addsOf]
section
variable {F : Fence} {n : Nat} {Q : Exit → Act → World → Prop} {m : Nat} {D : List Deferred} {L : Env} {w w' : World} {ops rest : List Oper} {d : Nat} {ty : TypeId} {pos : String} {af : Array Edge} {g : Option (Nat × Bool)} {x y : Operand}
theorem wl_appT {base bt : Nat} {v : Value} {ts : List Tb} {t : Tb} (hW : Wd F) (hg : wants L ops g = some true) (hd : Nat.blt d m = true) (hx : ev L x = some v) (hy : ev L y = some (.slice (some ⟨bt, 0, none⟩) 1 1)) (h : TOwn base w v ts) (hB : Blk w bt (cellsT t) 87) (hl : ts.length < 1048576) (hbase : base ≤ w.heap.size)
    (k : ∀ v' w', TOwn base w' v' (ts ++ [t]) → Keep (fun k => some k ≠ v.ownBlock) w w' → WL F n Try.prog Q m D ops rest ((d, v') :: L) w') :
    WL F n Try.prog Q m D ops (⟨some d, .call ⟨.builtin .append, #[x, y], #[80, 80]⟩, ty, pos, af, g⟩ :: rest) L w :=
  wl_append Try.underlying80 info87 rfl (by decide) hW hg hd hx hy h (show (cellsT t).length = 1 * 5 from rfl) (src_blk hB) (List.all_eq_true.1 (cellsT_one t)) (by omega) (by decide) hbase fun v' w' h5 h6 _ =>
    k v' w' (by unfold TOwn; rw [List.length_append, List.flatMap_append, List.length_singleton, List.flatMap_singleton]; exact h5) h6
end
theorem tp_stable {t : Tb} : Stable (TP1 t 0) := fun v w w' ⟨b, h1, h2⟩ hx => ⟨b, h1, h2.ext hx⟩
/-- What loop 2 of CompactAll holds. -/
structure Lp2 (base bm : Nat) (up : Int) (SEEN : List Ent) (i nx : Nat) (tv : Value) (w' : World) : Prop where
  ex : ∃ ts G n, TOwn base w' tv ts ∧ St ts G (nx : Nat) ∧ FRel w' bm n G ∧ n ≤ 20 + 151 * i ∧ nx ≤ 20 + 150 * i ∧ seenL up (mrg (listsOf G ts)) = SEEN ∧ pot G ts + i ≤ 900
end Go.Proofs.Ytblbddamebbgaaa.K

/- Walk: the law CompactAll. -/
namespace Go.Proofs.Ytblbddamebbgaaa.K
open Go Go.RowKit
set_option linter.unusedVariables false
set_option linter.unusedSimpArgs false
theorem build82z (w : World) : (Instr.build 82 #[]).run Try.prog w = .ok (.agg #[.slice none 0 0, .int .u64 0, .int .i64 0, .int .i64 0]) w := by
  simp [Instr.build, run_underlying Try.underlying82, Try.zeroValue82]
  rfl
theorem x_build82z {m : Nat} {D : List Deferred} {L : Env} {w : World} {ty : TypeId} : Xv Try.prog m D L (.build 82 #[]) ty w (.agg #[.slice none 0 0, .int .u64 0, .int .i64 0, .int .i64 0]) w :=
  x_build (parts := []) Try.underlying82 Try.zeroValue82 (pv := []) (fun a h => rfl) (fun w => build82z w)
/-- What the first loop holds. -/
structure Lp1 (base : Nat) (rows : List (List Ent)) (bm i : Nat) (tv : Value) (w' : World) : Prop where
  le : i ≤ rows.length
  lists : ∀ l ∈ rows.take i, l.length ≤ 60 ∧ rightB l = true
  t150 : tot (rows.take i) ≤ 150
  ex : ∃ ts G n, TOwn base w' tv ts ∧ St ts G (i : Nat) ∧ (∀ t ∈ ts, t.l = 0) ∧ tot (listsOf G ts) = tot (rows.take i) ∧ FRel w' bm n G ∧ n ≤ i
theorem C15 {w : World} {v : Value} {rows : List (List Ent)} {sz sb st keep more : Int} (hL : LRow (fun k => k < w.heap.size) w v rows) :
    Rt Try.prog 15 [v, .agg #[.int .i64 sz, .int .i64 sb, .int .i64 st], .int .u64 keep, .int .u64 more] w fun r w' => r = .bool true ∧ Ext w w' := by
  obtain ⟨ad, cap, rfl, hcap, hlen⟩ := hL.form
  have hW := hWw
  have hFF := hFw
  have hE : Ext w w := Keep.refl _ _
  refine rt_body Try.func15 rfl Try.ntmps15 rfl ?_
  refine wc_seq ?_
  refine wc_region ?_
  refine wl_box hW rfl rfl rfl rfl ?_
  intro b5 w5 hl5 hB5 hx5
  have g5 : w.heap.size ≤ b5 := Nat.le_trans hE.size hl5
  replace hE := hE.trans hx5
  refine wl_val hW rfl rfl (x_assign rfl) ?_
  refine wl_nil ?_
  refine nx_then ?_
  refine wc_seq ?_
  refine wc_seq ?_
  refine wc_region ?_
  refine wl_call hW rfl rfl (x_call en48 rfl) ((C48).inF hFF) ?_
  rintro _ wC ⟨rfl, hxC⟩
  replace hB5 := hB5.ext hxC
  replace hE := hE.trans hxC
  refine wl_val hW rfl rfl (x_not rfl) ?_
  refine wl_nil ?_
  refine nx_then ?_
  refine wc_false rfl ?_
  refine wc_skip ?_
  refine nx_then ?_
  refine wc_seq ?_
  refine wc_seq ?_
  refine wc_cutE (σ := Bool) (fun u => [(0, .slice ad rows.length cap), (2, .int .u64 keep), (3, .int .u64 more), (5, .pointer (some ⟨b5, 0, none⟩)), (41, .bool u)]) (fun u w' => (Ext w w' ∧ (u = false → rows.length ≤ 12 ∧ okS sz sb st = true)) ∧ Blk w' b5 [.int .i64 sz, .int .i64 sb, .int .i64 st] 78) ?_ ?_
  · refine wc_region ?_
    refine wl_val hW rfl rfl (x_move rfl) ?_
    refine wl_val hW rfl rfl (x_len Try.underlying65 rfl) ?_
    refine wl_val hW rfl rfl (x_gtr rfl rfl) ?_
    refine wl_val hW rfl rfl (x_move rfl) ?_
    refine wl_dcases (d := 37) rfl (fun hg37 => ?_) (fun hg37 => ?_)
    · refine wl_off hW rfl rfl ?_
      refine wl_off hW rfl rfl ?_
      refine wl_off hW rfl rfl ?_
      refine wl_val hW rfl rfl (x_pickT rfl rfl) ?_
      refine wl_nil ?_
      exact nx_cutE true (by repeat (first | exact sub_nil | refine sub_cons rfl ?_)) ⟨⟨hE, fun h => by cases h⟩, hB5⟩
    · refine wl_val hW rfl rfl (x_loadA ag78 rfl hB5.cells rfl) ?_
      refine wl_call hW rfl rfl (x_call en50 rfl) ((C50).inF hFF) ?_
      rintro _ wC ⟨rfl, hxC⟩
      replace hB5 := hB5.ext hxC
      replace hE := hE.trans hxC
      refine wl_val hW rfl rfl (x_neq rfl rfl) ?_
      refine wl_val hW rfl rfl (x_pickF rfl rfl) ?_
      refine wl_nil ?_
      exact nx_cutE (decide ((if okS sz sb st then (0 : Int) else 1) ≠ 0)) (by repeat (first | exact sub_nil | refine sub_cons rfl ?_)) ⟨⟨hE, fun h => ⟨by omega, by cases ho : okS sz sb st; (rw [ho] at h; cases h); rfl⟩⟩, hB5⟩
  · rintro u w' ⟨⟨hE, hu⟩, hB5⟩
    refine nx_then ?_
    refine wc_bool rfl (fun hc => ?_) (fun hc => ?_)
    · refine wc_seq ?_
      refine wc_region ?_
      refine wl_val hW rfl rfl (x_assign rfl) ?_
      refine wl_nil ?_
      refine nx_then ?_
      refine wc_ret ?_
      refine nx_then_ret ?_
      exact ends_ret (res_tmp Try.results15 rfl) ⟨rfl, hE⟩
    · obtain ⟨hl12, hokS⟩ := hu hc
      refine wc_skip ?_
      refine nx_then ?_
      refine wc_seq ?_
      refine wc_region ?_
      refine wl_val hW rfl rfl x_build82z ?_
      refine wl_alloc (cs := [.slice none 0 0, .int .u64 0, .int .i64 0, .int .i64 0]) hW rfl rfl Try.zeroValue82 rfl ?_
      intro b9 w9 hl9 hB9 hx9
      have g9 : w.heap.size ≤ b9 := Nat.le_trans hE.size hl9
      have n9_5 : b9 ≠ b5 := Nat.ne_of_gt (Nat.lt_of_lt_of_le hB5.lt hl9)
      replace hB5 := hB5.ext hx9
      replace hE := hE.trans hx9
      refine wl_storeA hW rfl ag82 rfl rfl rfl rfl hB9 rfl ?_
      intro wS hBS hkS
      replace hB5 := hB5.keep hkS n9_5.symm
      replace hB9 := hBS
      clear hBS
      replace hE := hE.store hkS g9
      refine wl_nil ?_
      refine nx_then ?_
      refine wc_seq ?_
      refine wc_region ?_
      refine wl_makeMap KI hW rfl rfl ?_
      intro bm w43 hl43 hM43 hx43
      have gbm : w.heap.size ≤ bm := Nat.le_trans hE.size hl43
      replace hE := hE.trans hx43
      replace hB5 := hB5.ext hx43
      replace hB9 := hB9.ext hx43
      refine wl_val hW rfl rfl (x_assign rfl) ?_
      refine wl_nil ?_
      refine nx_then ?_
      refine wc_seq ?_
      refine wc_region ?_
      refine wl_val hW rfl rfl (x_assign rfl) ?_
      refine wl_nil ?_
      refine nx_then ?_
      refine wc_seq ?_
      refine wc_seq ?_
      refine wc_region ?_
      refine wl_val hW rfl rfl (x_assign rfl) ?_
      refine wl_nil ?_
      refine nx_then ?_
      refine wc_block ?_
      refine wc_loop (σ := Nat × Value) (fun q => [(0, .slice ad rows.length cap), (2, .int .u64 keep), (3, .int .u64 more), (5, .pointer (some ⟨b5, 0, none⟩)), (9, .pointer (some ⟨b9, 0, none⟩)), (10, .map (some bm)), (11, .int .i64 (tot (rows.take q.1) : Nat)), (12, .int .i64 (q.1 : Nat))]) (fun q w' => Lp1 w.heap.size rows bm q.1 q.2 w' ∧ Ext w w' ∧ Blk w' b5 [.int .i64 sz, .int .i64 sb, .int .i64 st] 78 ∧ Blk w' b9 [q.2, .int .u64 0, .int .i64 0, .int .i64 0] 82) (fun q => rows.length - q.1) (0, .slice none 0 0) ?_ ?_ ?_
      · exact ⟨⟨Nat.zero_le _, fun l h => (by simp at h), (by simp [tot]), [], fun _ => none, 0, town_nil, St.start _, fun t h => (by cases h), rfl, ⟨_, (hM43), fun i l h => by cases h⟩, Nat.le_refl _⟩, hE, hB5, hB9⟩
      · repeat (first | exact sub_nil | refine sub_cons rfl ?_)
      · rintro ⟨i, tv⟩ wr ⟨hP, hE, hB5, hB9⟩
        refine wc_seq ?_
        refine wc_seq ?_
        refine wc_region ?_
        refine wl_val hW rfl rfl (x_move rfl) ?_
        refine wl_val hW rfl rfl (x_move rfl) ?_
        refine wl_val hW rfl rfl (x_len Try.underlying65 rfl) ?_
        refine wl_val hW rfl rfl (x_lss rfl rfl) ?_
        refine wl_nil ?_
        refine nx_then ?_
        refine wc_dec rfl (fun hc => ?_) (fun hc => ?_)
        · replace hc : ((i : Nat) : Int) < rows.length := hc
          replace hP : Lp1 w.heap.size rows bm i tv wr := hP
          replace hB9 : Blk wr b9 [tv, .int .u64 0, .int .i64 0, .int .i64 0] 82 := hB9
          have hlt : i < rows.length := by omega
          obtain ⟨b, o, cap', rv, e1, hA, hC53, hRl⟩ := (hL.ext hE).at i hlt
          cases e1
          obtain ⟨ra, rc, rfl, -, hrlen⟩ := hRl.form
          have ht1 := tot_take_drop rows i
          have ht2 := tot_drop hlt
          have ht3 := tot_take_drop rows (i + 1)
          have hPt := hP.t150
          have hrl := hRl.ok
          refine wc_skip ?_
          refine nx_then ?_
          refine wc_seq ?_
          refine wc_block ?_
          refine wc_seq ?_
          refine wc_region ?_
          refine wl_val hW rfl rfl (x_move rfl) ?_
          refine wl_val hW rfl rfl (x_move rfl) ?_
          refine wl_val hW rfl rfl (x_move rfl) ?_
          refine wl_val hW rfl rfl (x_indexAddr Try.underlying65 fl26.siz rfl rfl (by omega) (by omega)) ?_
          refine wl_val hW rfl rfl (x_load fl26 rfl (hC53 0 _ rfl)) ?_
          refine wl_val hW rfl rfl (x_len Try.underlying26 rfl) ?_
          refine wl_val hW rfl rfl (x_addn (i := tot (rows.take i)) (j := rows[i].length) rfl rfl (by omega)) ?_
          refine wl_val hW rfl rfl (x_assign rfl) ?_
          refine wl_nil ?_
          refine nx_then ?_
          refine wc_seq ?_
          refine wc_seq ?_
          refine wc_cutE (σ := Bool) (fun u => [(0, .slice (some ⟨b, o, none⟩) rows.length cap), (2, .int .u64 keep), (3, .int .u64 more), (5, .pointer (some ⟨b5, 0, none⟩)), (9, .pointer (some ⟨b9, 0, none⟩)), (10, .map (some bm)), (11, .int .i64 ((tot (rows.take i) + rows[i].length : Nat))), (12, .int .i64 (i : Nat)), (74, .bool u)]) (fun u w' => (Ext wr w' ∧ (u = false → rows[i].length ≤ 60 ∧ rightB rows[i] = true ∧ tot (rows.take i) + rows[i].length ≤ 150)) ∧ Blk w' b5 [.int .i64 sz, .int .i64 sb, .int .i64 st] 78 ∧ Blk w' b9 [tv, .int .u64 0, .int .i64 0, .int .i64 0] 82) ?_ ?_
          · refine wc_region ?_
            have hC59 := hC53
            refine wl_val hW rfl rfl (x_move rfl) ?_
            refine wl_val hW rfl rfl (x_move rfl) ?_
            refine wl_val hW rfl rfl (x_indexAddr Try.underlying65 fl26.siz rfl rfl (by omega) (by omega)) ?_
            refine wl_val hW rfl rfl (x_load fl26 rfl (hC59 0 _ rfl)) ?_
            refine wl_call hW rfl rfl (x_call en17 rfl) ((C17 hRl).inF hFF) ?_
            rintro _ wC ⟨⟨bb, rfl, hfew⟩, hxC⟩
            replace hB5 := hB5.ext hxC
            replace hB9 := hB9.ext hxC
            replace hE := hE.trans hxC
            refine wl_val hW rfl rfl (x_not rfl) ?_
            refine wl_val hW rfl rfl (x_move rfl) ?_
            refine wl_bcases (d := 63) rfl (fun hg63 => ?_) (fun hg63 => ?_)
            · refine wl_off hW rfl rfl ?_
              refine wl_off hW rfl rfl ?_
              refine wl_off hW rfl rfl ?_
              refine wl_off hW rfl rfl ?_
              refine wl_off hW rfl rfl ?_
              refine wl_off hW rfl rfl ?_
              refine wl_val hW rfl rfl (x_pickT rfl rfl) ?_
              refine wl_val hW rfl rfl (x_move rfl) ?_
              refine wl_off hW rfl rfl ?_
              refine wl_off hW rfl rfl ?_
              refine wl_val hW rfl rfl (x_pickT rfl rfl) ?_
              refine wl_nil ?_
              exact nx_cutE true (by repeat (first | exact sub_nil | refine sub_cons rfl ?_)) ⟨⟨hxC, fun h => by cases h⟩, hB5, hB9⟩
            · have hfw : (rows[i].length : Int) ≤ 60 := hfew (by simpa using hg63)
              have hC66 := hC53.ext hxC
              have hx0 := hxC
              refine wl_val hW rfl rfl (x_move rfl) ?_
              refine wl_val hW rfl rfl (x_move rfl) ?_
              refine wl_val hW rfl rfl (x_indexAddr Try.underlying65 fl26.siz rfl rfl (by omega) (by omega)) ?_
              refine wl_val hW rfl rfl (x_load fl26 rfl (hC66 0 _ rfl)) ?_
              refine wl_call hW rfl rfl (x_call en21 rfl) ((C21 (hRl.ext hxC)).inF hFF) ?_
              rintro _ wC ⟨rfl, hxC⟩
              replace hB5 := hB5.ext hxC
              replace hB9 := hB9.ext hxC
              replace hE := hE.trans hxC
              refine wl_val hW rfl rfl (x_not rfl) ?_
              refine wl_val hW rfl rfl (x_pickF rfl rfl) ?_
              refine wl_val hW rfl rfl (x_move rfl) ?_
              refine wl_bcases (d := 71) rfl (fun hg71 => ?_) (fun hg71 => ?_)
              · refine wl_off hW rfl rfl ?_
                refine wl_off hW rfl rfl ?_
                refine wl_val hW rfl rfl (x_pickT rfl rfl) ?_
                refine wl_nil ?_
                exact nx_cutE true (by repeat (first | exact sub_nil | refine sub_cons rfl ?_)) ⟨⟨hx0.trans hxC, fun h => by cases h⟩, hB5, hB9⟩
              · refine wl_val hW rfl rfl (x_move rfl) ?_
                refine wl_val hW rfl rfl (x_gtr rfl rfl) ?_
                refine wl_val hW rfl rfl (x_pickF rfl rfl) ?_
                refine wl_nil ?_
                exact nx_cutE (decide ((150 : Int) < ((tot (rows.take i) + rows[i].length : Nat)))) (by repeat (first | exact sub_nil | refine sub_cons rfl ?_)) ⟨⟨hx0.trans hxC, fun h => ⟨by omega, by simpa using hg71, by have := of_decide_eq_false h; omega⟩⟩, hB5, hB9⟩
          · rintro u w' ⟨⟨hxu, hu⟩, hB5, hB9⟩
            replace hE := hE.trans hxu
            refine nx_then ?_
            refine wc_bool rfl (fun hc => ?_) (fun hc => ?_)
            · refine wc_seq ?_
              refine wc_region ?_
              refine wl_val hW rfl rfl (x_assign rfl) ?_
              refine wl_nil ?_
              refine nx_then ?_
              refine wc_ret ?_
              refine nx_then_ret ?_
              refine nx_block_ret ?_
              refine nx_then_ret ?_
              refine nx_then_ret ?_
              refine nx_block_ret ?_
              refine nx_then_ret ?_
              exact ends_ret (res_tmp Try.results15 rfl) ⟨rfl, hE⟩
            · obtain ⟨hu1, hu2, hu3⟩ := hu hc
              have hC77 := hC53.ext hxu
              have hC85 := hC77
              have htk : tot (rows.take (i + 1)) = tot (rows.take i) + rows[i].length := by omega
              obtain ⟨hPle, hPl, hPt2, ts, G, n, hO, hS, h0, hto, hF, hn⟩ := hP
              have hlists : ∀ l ∈ rows.take (i + 1), l.length ≤ 60 ∧ rightB l = true := fun l h => by rw [← List.take_append_getElem hlt] at h; rcases List.mem_append.1 h with h | h; exact hPl l h; rw [List.mem_singleton.1 h]; exact ⟨hu1, hu2⟩
              refine wc_skip ?_
              refine nx_then ?_
              refine wc_seq ?_
              refine wc_seq ?_
              refine wc_region ?_
              refine wl_val hW rfl rfl (x_move rfl) ?_
              refine wl_val hW rfl rfl (x_move rfl) ?_
              refine wl_val hW rfl rfl (x_indexAddr Try.underlying65 fl26.siz rfl rfl (by omega) (by omega)) ?_
              refine wl_val hW rfl rfl (x_load fl26 rfl (hC77 0 _ rfl)) ?_
              refine wl_val hW rfl rfl (x_len Try.underlying26 rfl) ?_
              refine wl_val hW rfl rfl (x_eql rfl rfl) ?_
              refine wl_nil ?_
              refine nx_then ?_
              refine wc_dec rfl (fun hc => ?_) (fun hc => ?_)
              · refine wc_exit ?_
                refine nx_then_exit ?_
                refine nx_block_exit ?_
                refine nx_then ?_
                refine wc_region ?_
                refine wl_val hW rfl rfl (x_move rfl) ?_
                refine wl_val hW rfl rfl (x_inc (s := i) rfl (by omega)) ?_
                refine wl_val hW rfl rfl (x_assign rfl) ?_
                refine wl_nil ?_
                have hl0 : rows[i].length = 0 := by have h' : ((rows[i].length : Nat) : Int) = 0 := hc; omega
                exact nx_next (i + 1, tv) (by dsimp only; omega) ⟨(⟨hlt, hlists, by omega, ts, G, n, hO.ext hxu, hS.up (by omega), h0, by omega, hF.ext hxu, by omega⟩ : Lp1 w.heap.size rows bm (i + 1) tv _), hE, hB5, hB9⟩ (by dsimp only; rw [htk]; repeat (first | exact sub_nil | refine sub_cons rfl ?_))
              · refine wc_skip ?_
                refine nx_then ?_
                refine wc_seq ?_
                have hne : rows[i] ≠ [] := fun e => by apply hc; rw [e]; rfl
                obtain ⟨f0, hM0, hf0⟩ := hF
                have hOx := hO.ext hxu
                have hMx := hM0.ext hxu
                have hRx := hRl.ext hxu
                have hszu := hE.size
                have hAS := hS.add (ts' := tabOf i 0 rows[i] :: ts) h0 hne hu2 hRl.ok (by omega) (List.Perm.refl _)
                have hok1 : okTab (tabOf i 0 rows[i]) := okTab_row (by omega) (by omega) (by decide) (by decide) hne hu2 hRl.ok (by omega)
                obtain ⟨oa, oc, rfl, hoc⟩ := hOx.form
                refine wc_region ?_
                refine wl_val hW rfl rfl (x_move rfl) ?_
                refine wl_val hW rfl rfl (x_move rfl) ?_
                refine wl_val hW rfl rfl (x_move rfl) ?_
                refine wl_val hW rfl rfl (x_move rfl) ?_
                refine wl_val hW rfl rfl (x_indexAddr Try.underlying65 fl26.siz rfl rfl (by omega) (by omega)) ?_
                refine wl_val hW rfl rfl (x_load fl26 rfl (hC85 0 _ rfl)) ?_
                refine wl_mapUpdate (T := KI) (k := (i : Int)) hW rfl hMx Try.underlying83 (by unfold maxLen; omega) rfl rfl rfl (ki_ok (by omega) (by omega)) ?_
                intro wM hM hkM
                replace hB5 := hB5.keep hkM (hMx.ne _ ⟨_, hB5, rfl⟩)
                replace hB9 := hB9.keep hkM (hMx.ne _ ⟨_, hB9, rfl⟩)
                replace hE := hE.store hkM gbm
                have hFm : FRel wM bm (n + 1) (putG G i [rows[i]]) := by
                  rw [putG_one]
                  exact FRel.put (f := f0) (fun j l hj => by obtain ⟨v, h1, h2⟩ := hf0 j l hj; exact ⟨v, h1, (h2.ext hxu).mono fun k hk h => ⟨h.1, hk⟩⟩) hM hkM ((hRx.mono fun k _ h => h).mono fun k _ h => by have : k < w.heap.size := h; omega)
                have hOm := hOx.keep hkM (fun b hb => by obtain ⟨-, cs, hBb⟩ := ownsRow_blk hOx hb; exact hMx.ne _ ⟨_, hBb, rfl⟩)
                have hRm : Row (fun k => k < w.heap.size) wM _ rows[i] := hRx.ck (CK.of_keep hkM fun k _ h => by have : k < w.heap.size := h; omega)
                have hC92 := hC85.ck (A := fun k => k < w.heap.size) hA (CK.of_keep hkM fun k _ h => by have : k < w.heap.size := h; omega)
                have hszm := hE.size
                have g9' : w.heap.size ≤ b9 := g9
                refine wl_nil ?_
                refine nx_then ?_
                refine wc_drawX (AXc 14 b9 w.heap.size (tabOf i 0 rows[i] :: ts) wM) 15 hW mixed (by kernel_rfl) (by kernel_rfl) axc_ext (fun w0 hx0 => hx0) ?_
                refine qx_valB (v := .agg #[.slice oa ts.length oc, .int .u64 0, .int .i64 0, .int .i64 0]) rfl rfl rfl (fun ph w' hbf hJ => by have h0 := hbf 0 Nat.zero_lt_one (fun o ho => by cases ho; decide); (obtain rfl : ph = 0 := by omega); exact x_loadA ag82 rfl (hB9.ext hJ).cells rfl) ?_
                refine qx_val rfl rfl rfl (fun _ _ _ => x_move rfl) ?_
                refine qx_val rfl rfl rfl (fun _ _ _ => x_move rfl) ?_
                refine qx_val rfl rfl rfl (fun _ _ _ => x_move rfl) ?_
                refine qx_val rfl rfl rfl (fun _ _ _ => x_indexAddr Try.underlying65 fl26.siz rfl rfl (by omega) (by omega)) ?_
                refine qx_val rfl rfl rfl (fun _ _ hJ => x_load fl26 rfl ((hC92.ck (A := fun k => k < w.heap.size) hA (CK.of_keep (axc_keep hJ) fun k _ h => by have : k < w.heap.size := h; omega)) 0 _ rfl)) ?_
                refine qx_callc rfl rfl rfl (fun _ => x_call en52 rfl) (fun ph w' hJ => (C52 (A := fun k => k < w.heap.size) (f := (i : Int)) (lv := 0) (hRm.ck (CK.of_keep (axc_keep hJ) fun k _ h => by have : k < w.heap.size := h; omega)) (List.length_pos_iff.2 hne) (by omega)).inF hFF) ?_
                refine qx_valp (p := TP1 (tabOf i 0 rows[i])) rfl tp1_stab rfl rfl rfl (fun ph w' hbf hJ => xv_tp1 rfl) ?_
                refine qx_valv (p := EP1 (tabOf i 0 rows[i])) (q := TP1 (tabOf i 0 rows[i])) (s := 95) rfl ep1_stab rfl rfl rfl (List.mem_cons_self ..) (List.mem_append_left _ (List.mem_filterMap.2 ⟨.tmp 95, by simp [Op.operands], rfl⟩)) (fun ph w' u hJ hu => by obtain ⟨b1, rfl, hb1⟩ := hu; exact ⟨_, w', x_build90a (by show at' _ _ = _; rw [at_cons, if_pos rfl]), ⟨b1, rfl, hb1⟩, Keep.refl _ _⟩) ?_
                refine qx_valv (p := SP1 (tabOf i 0 rows[i])) (q := EP1 (tabOf i 0 rows[i])) (s := 96) rfl sp1_stab rfl rfl rfl (List.mem_cons_self ..) (List.mem_append_left _ (List.mem_filterMap.2 ⟨.tmp 96, by simp [Op.operands], rfl⟩)) (fun ph w' u hJ hu => by obtain ⟨b1, rfl, hb1⟩ := hu; exact xv_sp1 (by show at' _ _ = _; rw [at_cons, if_pos rfl]) hb1) ?_
                refine qx_callv (p := AP1 w.heap.size (tabOf i 0 rows[i] :: ts)) (q := SP1 (tabOf i 0 rows[i])) (s := 97) (args := fun u => #[.agg #[.slice oa ts.length oc, .int .u64 0, .int .i64 0, .int .i64 0], u]) rfl ap1c_stab rfl rfl rfl (List.mem_cons_self ..) (List.mem_append_left _ (List.mem_filterMap.2 ⟨.tmp 97, by simp [Op.operands, Call.operands], rfl⟩)) (fun w' u => x_call (vs := [_, u]) en51 (by simp only [evs]; rw [show ev ((97, u) :: _) (.tmp 97) = some u from by show at' _ _ = _; rw [at_cons, if_pos rfl]]; rfl)) (fun ph w' u hJ hu => ?_) ?_
                · obtain ⟨be, b1, rfl, hBe, hB1⟩ := hu
                  have hO1 := hOm.keep (axc_keep hJ) (fun b hb => hOm.ne hb hB9 (by decide))
                  refine ((C51 (ts := ts) (adds := [tabOf i 0 rows[i]]) (fs := []) (hO1.row (by have := hS.len; omega)) hB1.row1 (irow_nil (fun _ => False) _) hBe (by have := hS.len; omega) (by simp) (by simp) hS.nod (by simp) (by simp) (by rw [dropF_nil]; exact hAS.1.nod) (fun t ht => by rw [List.mem_singleton.1 ht]; exact hok1) (by rw [dropF_nil]; exact hAS.1.pd) (fun k h => h.elim)).mono fun r w2 ⟨⟨ov2, l2, h1, h2, h3⟩, h4⟩ => ⟨⟨ov2, l2, h1, ownsRow_base h2 (fun b hb => Nat.le_trans (Nat.le_trans hszm (axc_keep hJ).size) (ownsRow_blk h2 hb).1), by rw [dropF_nil] at h3; exact h3⟩, h4⟩).inF hFF
                refine qx_valv (p := AP1 w.heap.size (tabOf i 0 rows[i] :: ts)) (q := AP1 w.heap.size (tabOf i 0 rows[i] :: ts)) (s := 98) rfl ap1c_stab rfl rfl rfl (List.mem_cons_self ..) (List.mem_append_left _ (List.mem_filterMap.2 ⟨.tmp 98, by simp [Op.operands], rfl⟩)) (fun ph w' u hJ hu => ⟨u, w', x_move (by show at' _ _ = _; rw [at_cons, if_pos rfl]), hu, Keep.refl _ _⟩) ?_
                refine qx_valv (p := AP2 w.heap.size (tabOf i 0 rows[i] :: ts)) (q := AP1 w.heap.size (tabOf i 0 rows[i] :: ts)) (s := 87) rfl ap2c_stab rfl rfl rfl (List.mem_cons_self ..) (List.mem_append_left _ (List.mem_filterMap.2 ⟨.tmp 87, by simp [Op.operands], rfl⟩)) (fun ph w' u hJ hu => by obtain ⟨tv, l, rfl, h2, h3⟩ := hu; exact ⟨_, w', x_extract (vs := #[.agg #[tv, .int .u64 0, .int .i64 0, .int .i64 0], .int .i64 0]) (by show at' _ _ = _; rw [at_cons, if_pos rfl]) rfl, ⟨tv, l, rfl, h2, h3⟩, Keep.refl _ _⟩) ?_
                refine qx_valvc (v := .int .i64 0) (q := AP1 w.heap.size (tabOf i 0 rows[i] :: ts)) (s := 87) rfl rfl rfl (List.mem_cons_of_mem _ (List.mem_cons_self ..)) (List.mem_append_left _ (List.mem_filterMap.2 ⟨.tmp 87, by simp [Op.operands], rfl⟩)) (fun ph w' u hJ hu => by obtain ⟨tv, l, rfl, h2, h3⟩ := hu; exact x_extract (vs := #[.agg #[tv, .int .u64 0, .int .i64 0, .int .i64 0], .int .i64 0]) (by show at' _ _ = _; rw [at_cons, if_pos rfl]) rfl) ?_
                refine qx_stOutc rfl rfl (fun _ => rfl) hB9 (List.mem_cons_self ..) (List.mem_append_left _ (List.mem_filterMap.2 ⟨.tmp 99, by simp [Op.operands], rfl⟩)) (fun q' hq' hl' => ?_) ?_
                · have hl2 : q'.1 = 9 ∨ q'.1 = 99 := by simpa [looks, Op.operands, isTmp] using hl'
                  simp only [List.mem_cons, List.not_mem_nil, or_false] at hq'
                  rcases hq' with rfl | rfl | rfl | rfl | rfl | rfl
                  · rfl
                  all_goals (rcases hl2 with h | h <;> cases h)
                refine qx_nil (tailxm (d := 99) (p := AP2 w.heap.size (tabOf i 0 rows[i] :: ts)) (List.mem_cons_self ..) (fun wt v99 hJt _ => ?_))
                obtain ⟨hKt, tv4, l4, hB9n, hO4, hp4⟩ : Keep (· ≠ b9) wM wt ∧ ∃ tv l, Blk wt b9 [tv, .int .u64 0, .int .i64 0, .int .i64 0] 82 ∧ TOwn w.heap.size wt tv l ∧ l.Perm (tabOf i 0 rows[i] :: ts) := hJt
                replace hB5 := hB5.keep hKt n9_5.symm
                replace hE := hE.store hKt g9
                have hFt := hFm.box hB9 ⟨_, _, _, rfl⟩ hKt
                obtain ⟨hA1, hA2, hA3⟩ := hS.add h0 hne hu2 hRl.ok (by omega) hp4
                refine wl_nil ?_
                refine nx_block ?_
                refine nx_then ?_
                refine wc_region ?_
                refine wl_val hW rfl rfl (x_move rfl) ?_
                refine wl_val hW rfl rfl (x_inc (s := i) rfl (by omega)) ?_
                refine wl_val hW rfl rfl (x_assign rfl) ?_
                refine wl_nil ?_
                exact nx_next (i + 1, tv4) (by dsimp only; omega) ⟨(⟨hlt, hlists, by omega, l4, _, n + 1, hO4, (by exact_mod_cast hA1), hA2, by omega, hFt, by omega⟩ : Lp1 w.heap.size rows bm (i + 1) tv4 _), hE, hB5, hB9n⟩ (by dsimp only; rw [htk]; repeat (first | exact sub_nil | refine sub_cons rfl ?_))
        · refine wc_exit ?_
          replace hc : ¬ ((i : Nat) : Int) < rows.length := hc
          replace hP : Lp1 w.heap.size rows bm i tv wr := hP
          replace hB9 : Blk wr b9 [tv, .int .u64 0, .int .i64 0, .int .i64 0] 82 := hB9
          obtain ⟨hPle, hPl, hPt2, ts, G, n, hO, hS, h0, hto, hF, hn⟩ := hP
          obtain rfl : i = rows.length := by omega
          obtain ⟨oa, oc, rfl, hoc⟩ := hO.form
          refine nx_then_exit ?_
          refine nx_then_exit ?_
          refine nx_block_exit ?_
          refine nx_then ?_
          refine wc_seq ?_
          refine wc_region ?_
          refine wl_val hW rfl rfl (x_move rfl) ?_
          refine wl_val hW rfl rfl (x_move rfl) ?_
          refine wl_val hW rfl rfl (x_add (r := IntKind.u64.wrap (keep + more)) rfl rfl rfl) ?_
          refine wl_val hW rfl rfl (x_assign rfl) ?_
          refine wl_nil ?_
          refine nx_then ?_
          refine wc_seq ?_
          refine wc_seq ?_
          refine wc_region ?_
          refine wl_val hW rfl rfl (x_move rfl) ?_
          refine wl_val hW rfl rfl (x_move rfl) ?_
          refine wl_val hW rfl rfl (x_lss rfl rfl) ?_
          refine wl_nil ?_
          refine nx_then ?_
          refine wc_cut [(0, .slice ad rows.length cap), (2, .int .u64 keep), (5, .pointer (some ⟨b5, 0, none⟩)), (9, .pointer (some ⟨b9, 0, none⟩)), (10, .map (some bm)), (13, .int .u64 (if IntKind.u64.wrap (keep + more) < keep then keep else IntKind.u64.wrap (keep + more)))] (fun w'' => w'' = wr) ?_ ?_
          · refine wc_dec rfl (fun hc => ?_) (fun hc => ?_)
            · refine wc_region ?_
              refine wl_val hW rfl rfl (x_move rfl) ?_
              refine wl_val hW rfl rfl (x_assign rfl) ?_
              refine wl_nil ?_
              exact nx_cut (by rw [if_pos hc]; repeat (first | exact sub_nil | refine sub_cons rfl ?_)) rfl
            · refine wc_skip ?_
              exact nx_cut (by rw [if_neg hc]; repeat (first | exact sub_nil | refine sub_cons rfl ?_)) rfl
          · intro wx hwx; rw [hwx]; clear hwx wx
            have hup : keep ≤ (if IntKind.u64.wrap (keep + more) < keep then keep else IntKind.u64.wrap (keep + more)) := by split <;> omega
            generalize (if IntKind.u64.wrap (keep + more) < keep then keep else IntKind.u64.wrap (keep + more)) = up at hup ⊢
            refine nx_then ?_
            refine wc_seq ?_
            refine wc_region ?_
            refine wl_val hW rfl rfl (x_loadA ag82 rfl hB9.cells rfl) ?_
            refine wl_val hW rfl rfl (x_move rfl) ?_
            refine wl_val hW rfl rfl (x_move rfl) ?_
            refine wl_call hW rfl rfl (x_call en53 rfl) ((C53 (up := up) (hO.row (by have := hS.len; omega)) hF (hS.files (by omega)) (lists_right hS.ok) (by have := hS.tot; omega) (by have := hS.len; omega)).inF hFF) ?_
            rintro _ w1 ⟨⟨wv, okb, rfl, hWas⟩, hxC⟩
            replace hB5 := hB5.ext hxC
            replace hB9 := hB9.ext hxC
            replace hE := hE.trans hxC
            refine wl_val hW rfl rfl (x_move rfl) ?_
            refine wl_val hW rfl rfl (x_extract rfl rfl) ?_
            refine wl_val hW rfl rfl (x_extract rfl rfl) ?_
            refine wl_val hW rfl rfl (x_assign rfl) ?_
            refine wl_val hW rfl rfl (x_assign rfl) ?_
            refine wl_nil ?_
            refine nx_then ?_
            refine wc_seq ?_
            refine wc_seq ?_
            refine wc_region ?_
            refine wl_val hW rfl rfl (x_move rfl) ?_
            refine wl_val hW rfl rfl (x_not rfl) ?_
            refine wl_nil ?_
            refine nx_then ?_
            refine wc_bool rfl (fun hc => ?_) (fun hc => ?_)
            · refine wc_seq ?_
              refine wc_region ?_
              refine wl_val hW rfl rfl (x_assign rfl) ?_
              refine wl_nil ?_
              refine nx_then ?_
              refine wc_ret ?_
              refine nx_then_ret ?_
              exact ends_ret (res_tmp Try.results15 rfl) ⟨rfl, hE⟩
            · refine wc_skip ?_
              refine nx_then ?_
              refine wc_seq ?_
              refine wc_region ?_
              refine wl_val hW rfl rfl (x_move rfl) ?_
              refine wl_val hW rfl rfl (x_len Try.underlying65 rfl) ?_
              refine wl_val hW rfl rfl (x_assign rfl) ?_
              refine wl_nil ?_
              refine nx_then ?_
              replace hO := hO.ext hxC
              replace hF := hF.ext hxC
              obtain ⟨SEEN, hSEEN⟩ : ∃ S, S = seenL up (mrg (listsOf G ts)) := ⟨_, rfl⟩
              rw [← hSEEN] at hWas
              obtain ⟨f1, hM1, -⟩ := id hF
              have hWas2 := (hWas.noBox hB9 ⟨_, _, _, rfl⟩).noMap hM1
              have hbm9 : b9 ≠ bm := hM1.ne b9 ⟨_, hB9, rfl⟩
              have hbm5 : b5 ≠ bm := hM1.ne b5 ⟨_, hB5, rfl⟩
              have hlt9 : b9 < w1.heap.size := hB9.lt
              have hltm : bm < w1.heap.size := hM1.lt
              have hE1 := hE
              refine wc_seq ?_
              refine wc_seq ?_
              refine wc_region ?_
              refine wl_val hW rfl rfl (x_assign rfl) ?_
              refine wl_nil ?_
              refine nx_then ?_
              refine wc_block ?_
              refine wc_loop (σ := Nat × Value × Nat) (fun q => [(2, .int .u64 keep), (5, .pointer (some ⟨b5, 0, none⟩)), (9, .pointer (some ⟨b9, 0, none⟩)), (10, .map (some bm)), (13, .int .u64 up), (14, wv), (16, .int .i64 (q.2.2 : Nat)), (17, .int .i64 (q.1 : Nat))]) (fun q w' => Lp2 w.heap.size bm up SEEN q.1 q.2.2 q.2.1 w' ∧ Ext w w' ∧ Keep (fun k => (k < w1.heap.size ∧ k ≠ b9) ∧ k ≠ bm) w1 w' ∧ Blk w' b5 [.int .i64 sz, .int .i64 sb, .int .i64 st] 78 ∧ Blk w' b9 [q.2.1, .int .u64 0, .int .i64 0, .int .i64 0] 82) (fun q => 2000 - q.1) (0, .slice oa ts.length oc, rows.length) ?_ ?_ ?_
              · exact ⟨⟨ts, G, n, hO, hS, hF, by omega, by dsimp only; omega, hSEEN.symm, hS.pot⟩, hE, Keep.refl _ _, hB5, hB9⟩
              · repeat (first | exact sub_nil | refine sub_cons rfl ?_)
              · rintro ⟨i, tv, nx⟩ wr ⟨hP, hE, hK, hB5, hB9⟩
                replace hP : Lp2 w.heap.size bm up SEEN i nx tv wr := hP
                replace hB9 : Blk wr b9 [tv, .int .u64 0, .int .i64 0, .int .i64 0] 82 := hB9
                obtain ⟨ts, G, n, hO, hS, hF, hn, hnx, hseen, hpot⟩ := hP
                obtain ⟨oa, oc, rfl, hoc⟩ := hO.form
                refine wc_seq ?_
                refine wc_seq ?_
                refine wc_region ?_
                refine wl_val hW rfl rfl (x_move rfl) ?_
                refine wl_val hW rfl rfl (x_lss rfl rfl) ?_
                refine wl_nil ?_
                refine nx_then ?_
                refine wc_dec rfl (fun hc => ?_) (fun hc => ?_)
                · replace hc : ((i : Nat) : Int) < 2000 := hc
                  have htsl := hS.len
                  refine wc_skip ?_
                  refine nx_then ?_
                  refine wc_seq ?_
                  refine wc_block ?_
                  refine wc_seq ?_
                  refine wc_region ?_
                  refine wl_val hW rfl rfl (x_loadA ag82 rfl hB9.cells rfl) ?_
                  refine wl_val hW rfl rfl (x_loadA ag78 rfl hB5.cells rfl) ?_
                  refine wl_call hW rfl rfl (x_call en54 rfl) ((C54 (z := sz) (b := sb) (t := st) (hO.row (by omega)) (by omega) hS.sizes).inF hFF) ?_
                  rintro _ wP ⟨⟨is, m, l, jl, iv, bot, rfl, hPk, hno, hyes⟩, hxC⟩
                  replace hB5 := hB5.ext hxC
                  replace hB9 := hB9.ext hxC
                  replace hE := hE.trans hxC
                  refine wl_val hW rfl rfl (x_move rfl) ?_
                  refine wl_val hW rfl rfl (x_extract rfl rfl) ?_
                  refine wl_val hW rfl rfl (x_extract rfl rfl) ?_
                  refine wl_alloc (cs := [.int .i64 0, .slice none 0 0, .bool false]) hW rfl rfl Try.zeroValue95 rfl ?_
                  intro b18 w18 hl18 hB18 hx18
                  have g18 : w.heap.size ≤ b18 := Nat.le_trans hE.size hl18
                  have n18_5 : b18 ≠ b5 := Nat.ne_of_gt (Nat.lt_of_lt_of_le hB5.lt hl18)
                  replace hB5 := hB5.ext hx18
                  have n18_9 : b18 ≠ b9 := Nat.ne_of_gt (Nat.lt_of_lt_of_le hB9.lt hl18)
                  replace hB9 := hB9.ext hx18
                  replace hE := hE.trans hx18
                  obtain ⟨ia, il, ic, rfl⟩ : ∃ a n c, iv = .slice a n c := by cases is; (exact ⟨_, _, _, (hno rfl).2.1⟩); (obtain ⟨a, c, h, -⟩ := (hyes rfl).2.2; exact ⟨_, _, _, h⟩)
                  refine wl_storeA hW rfl ag95 rfl rfl rfl rfl hB18 rfl ?_
                  intro w2 hBS hkS
                  replace hB5 := hB5.keep hkS n18_5.symm
                  replace hB9 := hB9.keep hkS n18_9.symm
                  replace hB18 := hBS
                  clear hBS
                  replace hE := hE.store hkS g18
                  have hxP : Ext wr w2 := Keep.store (hxC.trans hx18) hkS (Nat.le_trans hxC.size hl18)
                  have hO2 := hO.ext hxP
                  have hF2 := hF.ext hxP
                  have hK2 := hK.trans (Keep.of_ext hxP)
                  have hszw2 := hE.size
                  refine wl_val hW rfl rfl (x_assign rfl) ?_
                  refine wl_nil ?_
                  refine nx_then ?_
                  refine wc_seq ?_
                  refine wc_seq ?_
                  refine wc_region ?_
                  refine wl_val hW rfl rfl (x_move rfl) ?_
                  refine wl_val hW rfl rfl (x_not rfl) ?_
                  refine wl_nil ?_
                  refine nx_then ?_
                  refine wc_bool rfl (fun hc => ?_) (fun hc => ?_)
                  · refine wc_seq ?_
                    refine wc_region ?_
                    refine wl_val hW rfl rfl (x_loadA ag82 rfl hB9.cells rfl) ?_
                    refine wl_val hW rfl rfl (x_move rfl) ?_
                    refine wl_val hW rfl rfl (x_move rfl) ?_
                    refine wl_call hW rfl rfl (x_call en53 rfl) ((C53 (up := up) (hO2.row (by omega)) hF2 (hS.files (by omega)) (lists_right hS.ok) (by have := hS.tot; omega) (by omega)).inF hFF) ?_
                    rintro _ wC ⟨⟨nv, okb2, rfl, hNow⟩, hxC⟩
                    replace hB5 := hB5.ext hxC
                    replace hB9 := hB9.ext hxC
                    replace hB18 := hB18.ext hxC
                    replace hE := hE.trans hxC
                    refine wl_val hW rfl rfl (x_move rfl) ?_
                    refine wl_val hW rfl rfl (x_extract rfl rfl) ?_
                    refine wl_val hW rfl rfl (x_extract rfl rfl) ?_
                    refine wl_val hW rfl rfl (x_assign rfl) ?_
                    refine wl_val hW rfl rfl (x_assign rfl) ?_
                    refine wl_nil ?_
                    refine nx_then ?_
                    refine wc_seq ?_
                    refine wc_region ?_
                    refine wl_val hW rfl rfl (x_move rfl) ?_
                    refine wl_val hW rfl rfl (x_move rfl) ?_
                    refine wl_call hW rfl rfl (x_call en24 rfl) ((C24r (A := fun _ => True) (((hWas2.ck (CK.of_keep hK2 fun k _ h => h)).ext hxC).mono fun _ _ _ => trivial) (hNow.mono fun _ _ _ => trivial) hseen.symm).inF hFF) ?_
                    rintro _ wC ⟨rfl, hxC⟩
                    replace hB5 := hB5.ext hxC
                    replace hB9 := hB9.ext hxC
                    replace hB18 := hB18.ext hxC
                    replace hE := hE.trans hxC
                    refine wl_val hW rfl rfl (x_assign rfl) ?_
                    refine wl_nil ?_
                    refine nx_then ?_
                    refine wc_ret ?_
                    refine nx_then_ret ?_
                    refine nx_block_ret ?_
                    refine nx_then_ret ?_
                    refine nx_then_ret ?_
                    refine nx_block_ret ?_
                    refine nx_then_ret ?_
                    exact ends_ret (res_tmp Try.results15 rfl) ⟨rfl, hE⟩
                  · refine wc_skip ?_
                    have his : is = true := by simpa using hc
                    subst his
                    obtain ⟨rfl, rfl, hI⟩ := hyes rfl
                    obtain ⟨hm5, hAn, hAs, hAl, hside, hlow, ⟨x0, hx0A, hx0l⟩, hAK⟩ := picks_job hS hPk
                    rw [ins_all'] at hI
                    generalize hAdef : jobAll ts (m : Int) l = A at hI hAn hAs hAl hside hlow hx0A hAK
                    have hil : il = A.length := by obtain ⟨a', c', e', -⟩ := hI; injection e' with e1 e2 e3; rw [e2]; simp
                    subst hil
                    obtain ⟨bot, hbot⟩ : ∃ b, b = (jobOf ts (m : Int) l).bot := ⟨_, rfl⟩
                    rw [← hbot] at hB18
                    have hst1 : 1 ≤ st := by have := of_decide_eq_true hokS; omega
                    obtain ⟨LS, hLS⟩ : ∃ LS, LS = listsOf G A := ⟨_, rfl⟩
                    have hLSl : LS.length = A.length := by rw [hLS]; simp [listsOf]
                    have hAlen : A.length ≤ 150 := by have := (split_perm hS.nod hAn hAs).length_eq; rw [List.length_append] at this; omega
                    have hLStot : tot LS ≤ 150 := by rw [hLS]; exact Nat.le_trans (tot_sub hS.nod hAn hAs) hS.tot
                    have hLSr : LS.all rightB = true := by rw [hLS]; exact lists_right fun t ht => hS.ok t (hAs t ht)
                    obtain ⟨fm, hM2, hfm⟩ := id hF2
                    have hE2 := hE
                    have hI0 : IRow (fun k => k < w2.heap.size) w2 (.slice ia A.length ic) (A.map (·.f)) := (hI.ext (Keep.store hx18 hkS hl18)).mono fun k hk _ => hk
                    refine nx_then ?_
                    refine wc_seq ?_
                    refine wc_region ?_
                    refine wl_val hW rfl rfl (x_assign rfl) ?_
                    refine wl_nil ?_
                    refine nx_then ?_
                    refine wc_seq ?_
                    refine wc_seq ?_
                    refine wc_region ?_
                    refine wl_val hW rfl rfl (x_assign rfl) ?_
                    refine wl_nil ?_
                    refine nx_then ?_
                    refine wc_block ?_
                    refine wc_loop (σ := Nat × Value) (fun q => [(2, .int .u64 keep), (5, .pointer (some ⟨b5, 0, none⟩)), (9, .pointer (some ⟨b9, 0, none⟩)), (10, .map (some bm)), (13, .int .u64 up), (14, wv), (16, .int .i64 (nx : Nat)), (17, .int .i64 (i : Nat)), (18, .pointer (some ⟨b18, 0, none⟩)), (22, q.2), (23, .int .i64 (q.1 : Nat))]) (fun q w' => (q.1 ≤ A.length ∧ LOwn (fun k => k < w2.heap.size) w2.heap.size w' q.2 (LS.take q.1)) ∧ Ext w w' ∧ Keep (fun k => k < w2.heap.size) w2 w') (fun q => A.length - q.1) (0, .slice none 0 0) ?_ ?_ ?_
                    · exact ⟨⟨Nat.zero_le _, lown_nil _ _ _⟩, hE, Keep.refl _ _⟩
                    · repeat (first | exact sub_nil | refine sub_cons rfl ?_)
                    · rintro ⟨s, lv⟩ wl ⟨⟨hs, hLl⟩, hE, hK3⟩
                      replace hs : s ≤ A.length := hs
                      replace hLl : LOwn (fun k => k < w2.heap.size) w2.heap.size wl lv (LS.take s) := hLl
                      have hB5 := hB5.keep hK3 hB5.lt
                      have hB9 := hB9.keep hK3 hB9.lt
                      have hB18 := hB18.keep hK3 hB18.lt
                      refine wc_seq ?_
                      refine wc_seq ?_
                      refine wc_region ?_
                      refine wl_val hW rfl rfl (x_move rfl) ?_
                      refine wl_val hW rfl rfl (x_fieldAddr Try.underlying95 rfl fl42.siz rfl) ?_
                      refine wl_val hW rfl rfl (x_load fl42 rfl (hB18.cell (o := 1) rfl)) ?_
                      refine wl_val hW rfl rfl (x_len Try.underlying42 rfl) ?_
                      refine wl_val hW rfl rfl (x_lss rfl rfl) ?_
                      refine wl_nil ?_
                      refine nx_then ?_
                      refine wc_dec rfl (fun hc => ?_) (fun hc => ?_)
                      · replace hc : ((s : Nat) : Int) < A.length := hc
                        have hlt : s < A.length := by omega
                        have hltL : s < LS.length := by omega
                        have hIl := hI0.ck (CK.of_keep hK3 fun k _ h => h)
                        obtain ⟨ib, io, icap, e1, hC153⟩ := hIl.at s (by simpa using hlt)
                        rw [List.getElem_map] at hC153
                        rw [List.length_map] at e1
                        cases e1
                        have hAt := hAs _ (List.getElem_mem hlt)
                        obtain ⟨hf0, hf1, lx, hGl⟩ := hS.files (by omega) _ hAt
                        have hLs : LS[s] = lx := by simp only [hLS, listsOf, List.getElem_map, hGl]; rfl
                        have hM := hM2.keep hK3 hM2.lt
                        obtain ⟨fv, hfv, hR3⟩ := hfm _ _ hGl
                        have hRl : Row (fun k => k < w2.heap.size) wl fv lx := (hR3.ck (CK.of_keep hK3 fun k _ h => h.2)).mono fun k _ h => h.2
                        obtain ⟨fa, fc, rfl, -, -⟩ := hRl.form
                        refine wc_skip ?_
                        refine nx_then ?_
                        refine wc_seq ?_
                        refine wc_block ?_
                        refine wc_region ?_
                        refine wl_val hW rfl rfl (x_move rfl) ?_
                        refine wl_val hW rfl rfl (x_move rfl) ?_
                        refine wl_val hW rfl rfl (x_fieldAddr Try.underlying95 rfl fl42.siz rfl) ?_
                        refine wl_val hW rfl rfl (x_load fl42 rfl (hB18.cell (o := 1) rfl)) ?_
                        refine wl_val hW rfl rfl (x_move rfl) ?_
                        refine wl_val hW rfl rfl (x_indexAddr Try.underlying42 fl3.siz rfl rfl (by omega) (by omega)) ?_
                        refine wl_val hW rfl rfl (x_load fl3 rfl (hC153 0 _ rfl)) ?_
                        refine wl_val hW rfl rfl (x_lookup1 (T := KI) (k := A[s].f) hM Try.underlying83 Try.zeroValue26 rfl rfl (ki_ok hf0 hf1) (by rw [hfv])) ?_
                        refine wl_buildSlice (parts := [(0, .tmp 155)]) hW rfl rfl Try.underlying65 fl26.siz Try.zeroValue26 rfl rfl rfl (by omega) ?_
                        intro b156 w156 hl156 hB156 hx156
                        have g156 : w.heap.size ≤ b156 := Nat.le_trans hE.size hl156
                        have n156_5 : b156 ≠ b5 := Nat.ne_of_gt (Nat.lt_of_lt_of_le hB5.lt hl156)
                        replace hB5 := hB5.ext hx156
                        have n156_9 : b156 ≠ b9 := Nat.ne_of_gt (Nat.lt_of_lt_of_le hB9.lt hl156)
                        replace hB9 := hB9.ext hx156
                        have n156_18 : b156 ≠ b18 := Nat.ne_of_gt (Nat.lt_of_lt_of_le hB18.lt hl156)
                        replace hB18 := hB18.ext hx156
                        replace hE := hE.trans hx156
                        have hu := (hRl.ext hx156).mono (A' := fun k => k < w2.heap.size ∧ some k ≠ lv.ownBlock) fun k _ h => ⟨h, fun e => by have := (hLl.lt k e.symm).1; omega⟩
                        refine wl_appendL hW rfl rfl rfl rfl (hLl.ext hx156) hu hB156 (by simp; omega) (Nat.le_trans hK3.size hx156.size) ?_
                        intro lv2 wA hL2 hkA hcA
                        have hKA : Keep (fun k => k < w2.heap.size) w2 wA := (hK3.trans (Keep.of_ext hx156)).then hkA fun k hk h e => by have := (hLl.lt k e.symm).1; omega
                        have hEA : Ext w wA := Keep.after hE2 hKA (fun k hk => by omega)
                        have hL3 : LOwn (fun k => k < w2.heap.size) w2.heap.size wA lv2 (LS.take (s + 1)) := by rw [← List.take_append_getElem hltL, hLs]; exact hL2
                        refine wl_val hW rfl rfl (x_assign rfl) ?_
                        refine wl_nil ?_
                        refine nx_block ?_
                        refine nx_then ?_
                        refine wc_region ?_
                        refine wl_val hW rfl rfl (x_move rfl) ?_
                        refine wl_val hW rfl rfl (x_inc (s := s) rfl (by omega)) ?_
                        refine wl_val hW rfl rfl (x_assign rfl) ?_
                        refine wl_nil ?_
                        exact nx_next (s + 1, lv2) (by dsimp only; omega) ⟨⟨hlt, hL3⟩, hEA, hKA⟩ (by repeat (first | exact sub_nil | refine sub_cons rfl ?_))
                      · refine wc_exit ?_
                        replace hc : ¬ ((s : Nat) : Int) < A.length := hc
                        have hse : s = LS.length := by omega
                        rw [hse, List.take_length] at hLl
                        refine nx_then_exit ?_
                        refine nx_then_exit ?_
                        refine nx_block_exit ?_
                        refine nx_then ?_
                        refine wc_seq ?_
                        refine wc_region ?_
                        refine wl_val hW rfl rfl (x_move rfl) ?_
                        refine wl_val hW rfl rfl (x_fieldAddr Try.underlying95 rfl fl4.siz rfl) ?_
                        refine wl_val hW rfl rfl (x_load fl4 rfl (hB18.cell (o := 2) rfl)) ?_
                        refine wl_val hW rfl rfl (x_fieldAddr Try.underlying78 rfl fl3.siz rfl) ?_
                        refine wl_val hW rfl rfl (x_load fl3 rfl (hB5.cell (o := 2) rfl)) ?_
                        refine wl_val hW rfl rfl (x_move rfl) ?_
                        refine wl_call hW rfl rfl (x_call en49 rfl) ((C49 (size := st) (keep := keep) (bottom := bot) hLl.lrow (by omega) hLSr hst1).inF hFF) ?_
                        rintro _ wR ⟨⟨rv, out, rfl, hOut, hCu⟩, hxC⟩
                        replace hB5 := hB5.ext hxC
                        replace hB9 := hB9.ext hxC
                        replace hB18 := hB18.ext hxC
                        replace hE := hE.trans hxC
                        refine wl_val hW rfl rfl (x_move rfl) ?_
                        refine wl_val hW rfl rfl (x_extract rfl rfl) ?_
                        refine wl_val hW rfl rfl (x_extract rfl rfl) ?_
                        refine wl_val hW rfl rfl (x_assign rfl) ?_
                        refine wl_val hW rfl rfl (x_assign rfl) ?_
                        refine wl_nil ?_
                        refine nx_then ?_
                        refine wc_seq ?_
                        refine wc_seq ?_
                        refine wc_region ?_
                        refine wl_val hW rfl rfl (x_move rfl) ?_
                        refine wl_val hW rfl rfl (x_neqF rfl rfl rfl) ?_
                        refine wl_nil ?_
                        refine nx_then ?_
                        have hxRun := hxC
                        have hFl : FRel wl bm n G := hF2.keepB hK3
                        have hFR : FBel wR.heap.size wR bm n G := hFl.ext hxC
                        obtain ⟨fR, hMR, -⟩ := id hFR
                        obtain ⟨ra, rc, rfl⟩ := hOut.form
                        have hOutR : LOwn (fun j => j < wR.heap.size ∧ j ≠ bm) wl.heap.size wR (.slice ra out.length rc) out := (hOut.noMap hMR).monoA fun j hj h => ⟨hj, h.2⟩
                        have hob : ∀ b, (Value.slice ra out.length rc).ownBlock = some b → b < wR.heap.size ∧ b ≠ bm := fun b hb => by obtain ⟨cs, hBb⟩ := hOutR.blk b hb; exact ⟨hBb.lt, hMR.ne b ⟨_, hBb, rfl⟩⟩
                        have hbm18 : b18 ≠ bm := hMR.ne b18 ⟨_, hB18, rfl⟩
                        have hltm3 : bm < wR.heap.size := hMR.lt
                        have hlt18 : b18 < wR.heap.size := hB18.lt
                        have hlt9R : b9 < wR.heap.size := hB9.lt
                        have hlt5R : b5 < wR.heap.size := hB5.lt
                        have hsz3 := hK3.size
                        have hszR := hxRun.size
                        have hall : leftL keep bot (mrg LS) = leftL keep bot (mrg (listsOf G A)) := by rw [hLS]
                        have holen : out.length ≤ 150 := by have h1 := hCu.len; have h2 := leftL_le keep bot (mrg LS); have h3 := mrg_len LS; omega
                        have hJ : Job1 ts G nx m A (leftL keep bot (mrg LS)) out := ⟨hS, hAn, hAs, hAl, by omega, hm5, by omega, hside, hlow, hCu, ⟨keep, bot, hall⟩⟩
                        refine wc_false rfl ?_
                        refine wc_skip ?_
                        refine nx_then ?_
                        refine wc_seq ?_
                        refine wc_region ?_
                        refine wl_val hW rfl rfl (x_fieldAddr Try.underlying95 rfl fl42.siz rfl) ?_
                        refine wl_val hW rfl rfl (x_load fl42 rfl (hB18.cell (o := 1) rfl)) ?_
                        refine wl_val hW rfl rfl (x_build90d rfl) ?_
                        refine wl_alloc (cs := [.slice none 0 0, .slice none 0 0, .int .u64 0, .int .i64 0, .int .i64 0]) hW rfl rfl Try.zeroValue90 rfl ?_
                        intro b26 w26 hl26 hB26 hx26
                        have g26 : w.heap.size ≤ b26 := Nat.le_trans hE.size hl26
                        have n26_5 : b26 ≠ b5 := Nat.ne_of_gt (Nat.lt_of_lt_of_le hB5.lt hl26)
                        replace hB5 := hB5.ext hx26
                        have n26_9 : b26 ≠ b9 := Nat.ne_of_gt (Nat.lt_of_lt_of_le hB9.lt hl26)
                        replace hB9 := hB9.ext hx26
                        have n26_18 : b26 ≠ b18 := Nat.ne_of_gt (Nat.lt_of_lt_of_le hB18.lt hl26)
                        replace hB18 := hB18.ext hx26
                        replace hE := hE.trans hx26
                        refine wl_storeA hW rfl ag90 rfl rfl rfl rfl hB26 rfl ?_
                        intro w3 hBS hkS
                        replace hB5 := hB5.keep hkS n26_5.symm
                        replace hB9 := hB9.keep hkS n26_9.symm
                        replace hB18 := hB18.keep hkS n26_18.symm
                        replace hB26 := hBS
                        clear hBS
                        replace hE := hE.store hkS g26
                        have hxR3 : Ext wR w3 := Keep.store hx26 hkS hl26
                        have hF3 := hFR.ext hxR3
                        have hszR3 := hxR3.size
                        have hE3 := hE
                        have hszw3 := hE.size
                        have hltO : ∀ l' ∈ out, 0 < l'.length := fun l' h' => List.length_pos_iff.2 (hCu.ne l' h')
                        refine wl_nil ?_
                        refine nx_then ?_
                        refine wc_seq ?_
                        refine wc_seq ?_
                        refine wc_region ?_
                        refine wl_val hW rfl rfl (x_assign rfl) ?_
                        refine wl_nil ?_
                        refine nx_then ?_
                        refine wc_block ?_
                        refine wc_loop (σ := Nat × Value) (fun q => [(2, .int .u64 keep), (5, .pointer (some ⟨b5, 0, none⟩)), (9, .pointer (some ⟨b9, 0, none⟩)), (10, .map (some bm)), (13, .int .u64 up), (14, wv), (16, .int .i64 ((nx + q.1 : Nat) : Int)), (17, .int .i64 (i : Nat)), (18, .pointer (some ⟨b18, 0, none⟩)), (24, .slice ra out.length rc), (26, .pointer (some ⟨b26, 0, none⟩)), (27, .int .i64 (q.1 : Nat))]) (fun q w' => (q.1 ≤ out.length ∧ TOwn w3.heap.size w' q.2 (addsOf nx (m + 1) (out.take q.1)) ∧ FBel wR.heap.size w' bm (n + q.1) (putG G nx (out.take q.1))) ∧ Ext w w' ∧ Keep (fun j => (j < w3.heap.size ∧ j ≠ bm) ∧ j ≠ b26) w3 w' ∧ Blk w' b26 [q.2, .slice ia A.length ic, .int .u64 0, .int .i64 0, .int .i64 0] 90) (fun q => out.length - q.1) (0, .slice none 0 0) ?_ ?_ ?_
                        · exact ⟨⟨Nat.zero_le _, town_nil, by dsimp only; rw [List.take_zero, putG_nil]; exact hF3⟩, hE, Keep.refl _ _, hB26⟩
                        · repeat (first | exact sub_nil | refine sub_cons rfl ?_)
                        · rintro ⟨k, av⟩ wq ⟨⟨hk, hAv, hFq⟩, hE, hK4, hB26⟩
                          replace hk : k ≤ out.length := hk
                          replace hAv : TOwn w3.heap.size wq av (addsOf nx (m + 1) (out.take k)) := hAv
                          replace hFq : FBel wR.heap.size wq bm (n + k) (putG G nx (out.take k)) := hFq
                          replace hB26 : Blk wq b26 [av, .slice ia A.length ic, .int .u64 0, .int .i64 0, .int .i64 0] 90 := hB26
                          have hB5 := hB5.keep hK4 ⟨⟨hB5.lt, hbm5⟩, n26_5.symm⟩
                          have hB9 := hB9.keep hK4 ⟨⟨hB9.lt, hbm9⟩, n26_9.symm⟩
                          have hB18 := hB18.keep hK4 ⟨⟨hB18.lt, hbm18⟩, n26_18.symm⟩
                          have hszq := hK4.size
                          refine wc_seq ?_
                          refine wc_seq ?_
                          refine wc_region ?_
                          refine wl_val hW rfl rfl (x_move rfl) ?_
                          refine wl_val hW rfl rfl (x_move rfl) ?_
                          refine wl_val hW rfl rfl (x_len Try.underlying65 rfl) ?_
                          refine wl_val hW rfl rfl (x_lss rfl rfl) ?_
                          refine wl_nil ?_
                          refine nx_then ?_
                          refine wc_dec rfl (fun hc => ?_) (fun hc => ?_)
                          · replace hc : ((k : Nat) : Int) < out.length := hc
                            have hlt : k < out.length := by omega
                            have hKR : Keep (fun j => j < wR.heap.size ∧ j ≠ bm) wR wq := (Keep.of_ext hxR3).then hK4 fun j hj h => ⟨⟨Nat.lt_of_lt_of_le hj hxR3.size, h.2⟩, fun e => by omega⟩
                            have hOutq := hOutR.keep hKR hob (fun j _ h => h)
                            obtain ⟨ob, ocap, rvk, e1, hC183, hRk⟩ := hOutq.at k hlt
                            cases e1
                            have hobne : ob ≠ bm := (hob ob rfl).2
                            obtain ⟨ka, kc, rfl, -, hklen⟩ := hRk.form
                            have hkpos := hltO _ (List.getElem_mem hlt)
                            have hksm : out[k].length ≤ 150 := by have h1 := tot_mem (List.getElem_mem hlt); have h2 := hJ.totOut; have h3 := hJ.totA; have h4 := hS.tot; omega
                            obtain ⟨fq, hMq, hfq⟩ := id hFq
                            refine wc_skip ?_
                            refine nx_then ?_
                            refine wc_seq ?_
                            refine wc_block ?_
                            refine wc_seq ?_
                            refine wc_region ?_
                            refine wl_val hW rfl rfl (x_move rfl) ?_
                            refine wl_val hW rfl rfl (x_move rfl) ?_
                            refine wl_val hW rfl rfl (x_move rfl) ?_
                            refine wl_val hW rfl rfl (x_move rfl) ?_
                            refine wl_val hW rfl rfl (x_indexAddr Try.underlying65 fl26.siz rfl rfl (by omega) (by omega)) ?_
                            refine wl_val hW rfl rfl (x_load fl26 rfl (hC183 0 _ rfl)) ?_
                            refine wl_mapUpdate (T := KI) (k := ((nx + k : Nat) : Int)) hW rfl hMq Try.underlying83 (by unfold maxLen; omega) rfl rfl rfl (ki_ok (by omega) (by omega)) ?_
                            intro wM hM hkM
                            replace hB5 := hB5.keep hkM hbm5
                            replace hB9 := hB9.keep hkM hbm9
                            replace hB18 := hB18.keep hkM hbm18
                            have hbm26 : b26 ≠ bm := hMq.ne b26 ⟨_, hB26, rfl⟩
                            replace hB26 := hB26.keep hkM hbm26
                            replace hE := hE.store hkM gbm
                            have hFm : FBel wR.heap.size wM bm (n + k + 1) (putG G nx (out.take (k + 1))) := by
                              rw [putG_snoc hlt, show (nx : Int) + (k : Nat) = ((nx + k : Nat) : Int) from by omega]
                              exact FBel.put hfq hM hkM (hRk.mono fun j _ h => ⟨h.1.2, h.1.1⟩)
                            have hAvb : ∀ b, av.ownBlock = some b → b ≠ bm := fun b hb => by obtain ⟨-, cs, hBb⟩ := ownsRow_blk hAv hb; exact hMq.ne _ ⟨_, hBb, rfl⟩
                            have hAvm := hAv.keep hkM hAvb
                            have hRm : Row (fun _ => True) wM (.slice ka out[k].length kc) out[k] := (hRk.ck (CK.of_keep hkM fun j _ h => h.1.2)).mono fun j _ h => trivial
                            have hC193m := hC183.ck (A := (· ≠ bm)) hobne (CK.of_keep hkM fun j _ h => h)
                            refine wl_nil ?_
                            refine nx_then ?_
                            refine wc_seq ?_
                            refine wc_draw' 12 hW mixed (by kernel_rfl) (fun w0 hx0 => ?_)
                            have hC193 := hC193m.ext hx0
                            replace hB5 := hB5.ext hx0
                            replace hB9 := hB9.ext hx0
                            replace hB18 := hB18.ext hx0
                            replace hB26 := hB26.ext hx0
                            replace hE := hE.trans hx0
                            refine q_val rfl rfl (fun _ hx => x_fieldAddr Try.underlying90 rfl fl80.siz rfl) ?_
                            refine q_val rfl rfl (fun _ hx => x_load fl80 rfl (hx.cell (hB26.cell (o := 0) rfl))) ?_
                            refine q_val rfl rfl (fun _ hx => x_move rfl) ?_
                            refine q_val rfl rfl (fun _ hx => x_fieldAddr Try.underlying95 rfl fl3.siz rfl) ?_
                            refine q_val rfl rfl (fun _ hx => x_load fl3 rfl (hx.cell (hB18.cell (o := 0) rfl))) ?_
                            refine q_val rfl rfl (fun _ hx => x_inc (s := m) rfl (by omega)) ?_
                            refine q_val rfl rfl (fun _ hx => x_move rfl) ?_
                            refine q_val rfl rfl (fun _ hx => x_move rfl) ?_
                            refine q_val rfl rfl (fun _ hx => x_indexAddr Try.underlying65 fl26.siz rfl rfl (by omega) (by omega)) ?_
                            refine q_val rfl rfl (fun _ hx => x_load fl26 rfl (hx.cell (hC193 0 _ rfl))) ?_
                            refine q_call rfl rfl (fun _ => x_call en52 rfl) (fun w' hx => (C52 (A := fun _ => True) (f := ((nx + k : Nat) : Int)) (lv := ((m + 1 : Nat) : Int)) ((hRm.ext hx0).ext hx) hkpos (by omega)).inF hFF) ?_
                            refine q_valp (p := TP1 (tabOf ((nx + k : Nat) : Int) ((m + 1 : Nat) : Int) out[k]) 0) tp_stable rfl rfl rfl (fun w' hx => xv_tp1 rfl) ?_
                            refine q_nil (tail1 (fun wt v196 hxt h196 => ?_))
                            replace hB5 := hB5.ext hxt
                            replace hB9 := hB9.ext hxt
                            replace hB18 := hB18.ext hxt
                            replace hB26 := hB26.ext hxt
                            replace hE := hE.trans hxt
                            obtain ⟨b196, rfl, hB196⟩ := h196
                            have hAvt := (hAvm.ext hx0).ext hxt
                            have hszt := hxt.size
                            have hszx := hx0.size
                            have hszM := hkM.size
                            refine wl_appT hW rfl rfl rfl rfl hAvt hB196 (by rw [addsOf_len, List.length_take]; omega) (by omega) ?_
                            intro av2 wA hAv2 hkA
                            have hnA : ∀ {b' : Nat} {cs : List Value} {T : TypeId}, Blk wt b' cs T → T ≠ 87 → some b' ≠ av.ownBlock := fun hb hT e => hAvt.ne e.symm hb hT rfl
                            replace hB5 := hB5.keep hkA (hnA hB5 (by decide))
                            replace hB9 := hB9.keep hkA (hnA hB9 (by decide))
                            replace hB18 := hB18.keep hkA (hnA hB18 (by decide))
                            replace hB26 := hB26.keep hkA (hnA hB26 (by decide))
                            replace hE := hE.rowed hkA (fun b hb => Nat.le_trans hszw3 (hAvt.ge hb))
                            have hFA : FBel wR.heap.size wA bm (n + k + 1) (putG G nx (out.take (k + 1))) := ((hFm.ext hx0).ext hxt).keep hkA (fun e => hAvb _ e.symm rfl) (fun j _ hj e => by have := hAvt.ge e.symm; omega)
                            have hKA := ((((hK4.then hkM (fun j _ h => h.1.2)).trans (Keep.of_ext hx0)).trans (Keep.of_ext hxt)).then hkA (fun j _ h e => by have := hAvt.ge e.symm; have := h.1.1; omega))
                            obtain ⟨va, vc, rfl, -⟩ := hAv2.form
                            refine wl_val hW rfl rfl (x_fieldAddr Try.underlying90 rfl fl80.siz rfl) ?_
                            refine wl_store hW rfl fl80 rfl rfl rfl hB26 rfl ?_
                            intro w4 hBS hkS
                            have hAv4 := hAv2.keep hkS (fun b hb => hAv2.ne hb hB26 (by decide))
                            have hF4 := hFA.keep hkS hbm26.symm (fun j _ hj => by omega)
                            have hK44 := hKA.then hkS (fun j _ h => h.2)
                            replace hB5 := hB5.keep hkS n26_5.symm
                            replace hB9 := hB9.keep hkS n26_9.symm
                            replace hB18 := hB18.keep hkS n26_18.symm
                            replace hB26 := hBS
                            clear hBS
                            replace hE := hE.store hkS g26
                            refine wl_nil ?_
                            refine nx_then ?_
                            refine wc_region ?_
                            refine wl_val hW rfl rfl (x_move rfl) ?_
                            refine wl_val hW rfl rfl (x_inc (s := nx + k) rfl (by omega)) ?_
                            refine wl_val hW rfl rfl (x_assign rfl) ?_
                            refine wl_nil ?_
                            refine nx_block ?_
                            refine nx_then ?_
                            refine wc_region ?_
                            refine wl_val hW rfl rfl (x_move rfl) ?_
                            refine wl_val hW rfl rfl (x_inc (s := k) rfl (by omega)) ?_
                            refine wl_val hW rfl rfl (x_assign rfl) ?_
                            refine wl_nil ?_
                            exact nx_next (k + 1, _) (by dsimp only; omega) ⟨⟨hlt, by dsimp only; rw [addsOf_snoc hlt]; exact hAv4, hF4⟩, hE, hK44, hB26⟩ (by repeat (first | exact sub_nil | refine sub_cons rfl ?_))
                          · refine wc_exit ?_
                            replace hc : ¬ ((k : Nat) : Int) < out.length := hc
                            obtain rfl : k = out.length := by omega
                            rw [List.take_length] at hAv hFq
                            have hwq : Ext w wq := hE
                            have K2 : Keep (fun j => j < w2.heap.size ∧ j ≠ bm) w2 wq := ((hK3.mono (S' := fun j => j < w2.heap.size ∧ j ≠ bm) fun j _ h => h.1).trans (Keep.of_ext (hxRun.trans hxR3))).then hK4 (fun j hj h => ⟨⟨by omega, h.2⟩, fun e => by omega⟩)
                            have hOq := hO2.keep K2 (fun b hb => ⟨hO2.lt hb, by obtain ⟨-, cs, hBb⟩ := ownsRow_blk hO2 hb; exact hM2.ne _ ⟨_, hBb, rfl⟩⟩)
                            have hIq : IRow (fun j => j < w2.heap.size ∧ j ≠ bm) wq (.slice ia A.length ic) (A.map (·.f)) := (hI0.noMap hM2).ck (CK.of_keep K2 fun j _ h => h)
                            have hal : (addsOf nx (m + 1) out).length ≤ 150 := by rw [addsOf_len]; exact holen
                            refine nx_then_exit ?_
                            refine nx_then_exit ?_
                            refine nx_block_exit ?_
                            refine nx_then ?_
                            refine wc_seq ?_
                            refine wc_region ?_
                            refine wl_val hW rfl rfl (x_loadA ag82 rfl hB9.cells rfl) ?_
                            refine wl_val hW rfl rfl (x_loadA ag90 rfl hB26.cells rfl) ?_
                            refine wl_buildSlice (parts := [(0, .tmp 203)]) hW rfl rfl Try.underlying91 ag90.siz Try.zeroValue90 rfl rfl rfl (by omega) ?_
                            intro b204 w204 hl204 hB204 hx204
                            have g204 : w.heap.size ≤ b204 := Nat.le_trans hE.size hl204
                            have n204_5 : b204 ≠ b5 := Nat.ne_of_gt (Nat.lt_of_lt_of_le hB5.lt hl204)
                            replace hB5 := hB5.ext hx204
                            have n204_9 : b204 ≠ b9 := Nat.ne_of_gt (Nat.lt_of_lt_of_le hB9.lt hl204)
                            replace hB9 := hB9.ext hx204
                            have n204_18 : b204 ≠ b18 := Nat.ne_of_gt (Nat.lt_of_lt_of_le hB18.lt hl204)
                            replace hB18 := hB18.ext hx204
                            have n204_26 : b204 ≠ b26 := Nat.ne_of_gt (Nat.lt_of_lt_of_le hB26.lt hl204)
                            replace hB26 := hB26.ext hx204
                            replace hE := hE.trans hx204
                            refine wl_call hW rfl rfl (x_call en51 rfl) ((C51 (ts := ts) (adds := addsOf nx (m + 1) out) (fs := A.map (·.f)) ((hOq.ext hx204).row (by omega)) ((hAv.ext hx204).row (by omega)) (hIq.ext hx204) hB204 (by omega) (by omega) (by rw [List.length_map]; omega) hS.nod (sub_nod hS.nod hAn hAs) (fun f h => by obtain ⟨t, ht, rfl⟩ := List.mem_map.1 h; exact ⟨t, hAs t ht, rfl⟩) hJ.nodup hJ.okAdds hJ.pdm (fun j h => by have h1 : j < w2.heap.size := h.1; have := hx204.size; omega)).inF hFF) ?_
                            rintro _ wC ⟨⟨ov, l2, rfl, hOn, hpm⟩, hxC⟩
                            replace hB5 := hB5.ext hxC
                            replace hB9 := hB9.ext hxC
                            replace hB18 := hB18.ext hxC
                            replace hB26 := hB26.ext hxC
                            replace hB204 := hB204.ext hxC
                            replace hE := hE.trans hxC
                            refine wl_val hW rfl rfl (x_move rfl) ?_
                            refine wl_val hW rfl rfl (x_extract rfl rfl) ?_
                            refine wl_val hW rfl rfl (x_extract rfl rfl) ?_
                            refine wl_alloc (cs := [.slice none 0 0, .int .u64 0, .int .i64 0, .int .i64 0]) hW rfl rfl Try.zeroValue82 rfl ?_
                            intro b28 w28 hl28 hB28 hx28
                            have g28 : w.heap.size ≤ b28 := Nat.le_trans hE.size hl28
                            have n28_5 : b28 ≠ b5 := Nat.ne_of_gt (Nat.lt_of_lt_of_le hB5.lt hl28)
                            replace hB5 := hB5.ext hx28
                            have n28_9 : b28 ≠ b9 := Nat.ne_of_gt (Nat.lt_of_lt_of_le hB9.lt hl28)
                            replace hB9 := hB9.ext hx28
                            have n28_18 : b28 ≠ b18 := Nat.ne_of_gt (Nat.lt_of_lt_of_le hB18.lt hl28)
                            replace hB18 := hB18.ext hx28
                            have n28_26 : b28 ≠ b26 := Nat.ne_of_gt (Nat.lt_of_lt_of_le hB26.lt hl28)
                            replace hB26 := hB26.ext hx28
                            have n28_204 : b28 ≠ b204 := Nat.ne_of_gt (Nat.lt_of_lt_of_le hB204.lt hl28)
                            replace hB204 := hB204.ext hx28
                            replace hE := hE.trans hx28
                            obtain ⟨pa, pc, rfl, hpc⟩ := hOn.form
                            refine wl_storeA hW rfl ag82 rfl rfl rfl rfl hB28 rfl ?_
                            intro w6 hBS hkS
                            have hx46 : Ext wq w6 := Keep.store ((hx204.trans hxC).trans hx28) hkS (Nat.le_trans (Nat.le_trans hx204.size hxC.size) hl28)
                            have hO6 := (hOn.ext hx28).keep hkS (fun b hb => by have := hOn.lt hb; intro e; omega)
                            have hF6 : FRel w6 bm (n + out.length) (putG G nx out) := (hFq.ext hx46).frel
                            replace hB5 := hB5.keep hkS n28_5.symm
                            replace hB9 := hB9.keep hkS n28_9.symm
                            replace hB18 := hB18.keep hkS n28_18.symm
                            replace hB26 := hB26.keep hkS n28_26.symm
                            replace hB204 := hB204.keep hkS n28_204.symm
                            replace hB28 := hBS
                            clear hBS
                            replace hE := hE.store hkS g28
                            refine wl_val hW rfl rfl (x_assign rfl) ?_
                            refine wl_nil ?_
                            refine nx_then ?_
                            refine wc_seq ?_
                            refine wc_seq ?_
                            refine wc_region ?_
                            refine wl_val hW rfl rfl (x_move rfl) ?_
                            refine wl_val hW rfl rfl (x_neqF rfl rfl rfl) ?_
                            refine wl_nil ?_
                            refine nx_then ?_
                            refine wc_false rfl ?_
                            refine wc_skip ?_
                            refine nx_then ?_
                            refine wc_seq ?_
                            refine wc_region ?_
                            refine wl_val hW rfl rfl (x_loadA ag82 rfl hB28.cells rfl) ?_
                            refine wl_storeA hW rfl ag82 rfl rfl rfl rfl hB9 rfl ?_
                            intro w7 hBS hkS
                            have hF7 := hF6.box hB9 ⟨_, _, _, rfl⟩ hkS
                            have hO7 : TOwn w.heap.size w7 _ l2 := ownsRow_base (hO6.keep hkS (fun b hb => hO6.ne hb hB9 (by decide))) (fun b hb => by have h1 := hO6.ge hb; have h2 := hx204.size; have h3 := hwq.size; omega)
                            have hK7 : Keep (fun k => (k < w1.heap.size ∧ k ≠ b9) ∧ k ≠ bm) w1 w7 := ((hK2.then K2 (fun j hj h => ⟨Nat.lt_of_lt_of_le h.1.1 hK2.size, h.2⟩)).trans (Keep.of_ext hx46)).then hkS (fun j _ h => h.1.2)
                            have hkd : dropF ts (A.map (·.f)) = [] ∨ KD (listsOf G ts) := by rcases hAK with h | h; (rw [h]; exact .inl (drop_all ts)); (exact .inr h)
                            have hS7 := hJ.next hpm hkd
                            have hseen7 := hJ.seen hall hup hpm hAK
                            have hpot7 := hJ.pot hpm hx0A hx0l
                            have hl2 := hS7.len
                            replace hB5 := hB5.keep hkS n9_5.symm
                            replace hB18 := hB18.keep hkS n18_9
                            replace hB26 := hB26.keep hkS n26_9
                            replace hB204 := hB204.keep hkS n204_9
                            replace hB28 := hB28.keep hkS n28_9
                            replace hB9 := hBS
                            clear hBS
                            replace hE := hE.store hkS g9
                            refine wl_nil ?_
                            refine nx_then ?_
                            refine wc_seq ?_
                            refine wc_region ?_
                            refine wl_val hW rfl rfl (x_loadA ag82 rfl hB9.cells rfl) ?_
                            refine wl_val hW rfl rfl (x_move rfl) ?_
                            refine wl_val hW rfl rfl (x_move rfl) ?_
                            refine wl_call hW rfl rfl (x_call en53 rfl) ((C53 (up := up) (hO7.row (by omega)) hF7 (hS7.files (by omega)) (lists_right hS7.ok) (by have := hS7.tot; omega) (by omega)).inF hFF) ?_
                            rintro _ wC ⟨⟨nv, okb3, rfl, hNow⟩, hxC⟩
                            replace hB5 := hB5.ext hxC
                            replace hB9 := hB9.ext hxC
                            replace hB18 := hB18.ext hxC
                            replace hB26 := hB26.ext hxC
                            replace hB204 := hB204.ext hxC
                            replace hB28 := hB28.ext hxC
                            replace hE := hE.trans hxC
                            refine wl_val hW rfl rfl (x_move rfl) ?_
                            refine wl_val hW rfl rfl (x_extract rfl rfl) ?_
                            refine wl_val hW rfl rfl (x_extract rfl rfl) ?_
                            refine wl_val hW rfl rfl (x_assign rfl) ?_
                            refine wl_val hW rfl rfl (x_assign rfl) ?_
                            refine wl_nil ?_
                            refine nx_then ?_
                            refine wc_seq ?_
                            refine wc_region ?_
                            refine wl_val hW rfl rfl (x_move rfl) ?_
                            refine wl_val hW rfl rfl (x_move rfl) ?_
                            have hxA := hxC
                            refine wl_call hW rfl rfl (x_call en24 rfl) ((C24r (A := fun _ => True) (((hWas2.ck (CK.of_keep hK7 fun k _ h => h)).ext hxC).mono fun _ _ _ => trivial) (hNow.mono fun _ _ _ => trivial) (hseen7.trans hseen).symm).inF hFF) ?_
                            rintro _ wC ⟨rfl, hxC⟩
                            replace hB5 := hB5.ext hxC
                            replace hB9 := hB9.ext hxC
                            replace hB18 := hB18.ext hxC
                            replace hB26 := hB26.ext hxC
                            replace hB204 := hB204.ext hxC
                            replace hB28 := hB28.ext hxC
                            replace hE := hE.trans hxC
                            refine wl_val hW rfl rfl (x_not rfl) ?_
                            refine wl_nil ?_
                            refine nx_then ?_
                            refine wc_false rfl ?_
                            refine wc_skip ?_
                            refine nx_block ?_
                            refine nx_then ?_
                            refine wc_region ?_
                            refine wl_val hW rfl rfl (x_move rfl) ?_
                            refine wl_val hW rfl rfl (x_inc (s := i) rfl (by omega)) ?_
                            refine wl_val hW rfl rfl (x_assign rfl) ?_
                            refine wl_nil ?_
                            have hx8 := hxA.trans hxC
                            exact nx_next (i + 1, .slice pa l2.length pc, nx + out.length) (by dsimp only; omega) ⟨(⟨l2, putG G nx out, n + out.length, hO7.ext hx8, (by exact_mod_cast hS7), hF7.ext hx8, by omega, by omega, hseen7.trans hseen, by omega⟩ : Lp2 w.heap.size bm up SEEN (i + 1) (nx + out.length) _ _), hE, hK7.trans (Keep.of_ext hx8), hB5, hB9⟩ (by repeat (first | exact sub_nil | refine sub_cons rfl ?_))
                · exact absurd hc (by show ¬ ¬ ((i : Nat) : Int) < 2000; omega)
end Go.Proofs.Ytblbddamebbgaaa.K

