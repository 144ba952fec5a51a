/- Walks: Clone, Run. -/
import Derived.Test.YtblbddamebbgaaaOp
namespace Go.Proofs.Ytblbddamebbgaaa.K
open Go Go.RowKit
set_option linter.unusedVariables false
set_option linter.unusedSimpArgs false

theorem C77 {A : Nat → Prop} {w : World} {v : Value} {es : List Ent} (hR : Row A w v es) : Rt Try.prog 77 [v] w fun r w' => Row (fun k => A k ∨ w.heap.size ≤ k) w' r es ∧ Ext w w' := by
  obtain ⟨ad, cap, rfl, hcap, hlen⟩ := hR.form
  have hok := hR.ok
  have hR0 := hR
  replace hR := hR.mono (A' := fun k => A k ∧ k < w.heap.size) fun k hk h => ⟨h, hk⟩
  have hW := hWw
  have hFF := hFw
  have hE : Ext w w := Keep.refl _ _
  refine rt_body Try.func77 rfl Try.ntmps77 rfl ?_
  refine wc_seq ?_
  refine wc_region ?_
  refine wl_val hW rfl rfl (x_assign rfl) ?_
  refine wl_nil ?_
  refine nx_then ?_
  refine wc_seq ?_
  refine wc_seq ?_
  refine wc_region ?_
  refine wl_val hW rfl rfl (x_move rfl) ?_
  refine wl_val hW rfl rfl (x_nilEq Try.underlying26 rfl rfl) ?_
  refine wl_nil ?_
  refine nx_then ?_
  refine wc_bool rfl (fun hc => ?_) (fun hc => ?_)
  · refine wc_seq ?_
    have hes : es = [] := by
      obtain ⟨ad', cap', e, -, -, -, hh⟩ := hR0
      cases e
      exact Classical.byContradiction fun h => by obtain ⟨b, o, rfl, -⟩ := hh h; cases hc
    refine wc_region ?_
    refine wl_val hW rfl rfl (x_assign rfl) ?_
    refine wl_nil ?_
    refine nx_then ?_
    refine wc_ret ?_
    refine nx_then_ret ?_
    exact ends_ret (res_tmp Try.results77 rfl) ⟨by rw [hes]; exact row_nil _ _, hE⟩
  · refine wc_skip ?_
    refine nx_then ?_
    refine wc_seq ?_
    refine wc_region ?_
    refine wl_buildSlice (parts := []) hW rfl rfl Try.underlying26 ag25.siz Try.zeroValue25 rfl rfl rfl (by omega) ?_
    intro b5 w5 hl5 hB5 hx5
    have g5 : w.heap.size ≤ b5 := Nat.le_trans hE.size hl5
    replace hE := hE.trans hx5
    refine wl_val hW rfl rfl (x_move rfl) ?_
    obtain ⟨bvs, hbl, hsrc, hbb⟩ := row_flat (hR.ext hE)
    refine wl_append Try.underlying26 info25 rfl (by decide) hW rfl rfl rfl rfl (owns_empty hB5 (Nat.le_refl _)) (flat_len es bvs hbl) hsrc (flat_one (A := A) (w := w) es bvs (fun i e bv h1 h2 => (hbb i e bv h1 h2).one)) (by omega) (by decide) (Nat.le_of_lt hB5.lt) ?_
    intro v7 wA hO hkA hcA
    rw [Nat.zero_add, List.nil_append] at hO
    have hkA' : Keep (· ≠ b5) w5 wA := hkA.mono fun k _ h e => h (by cases e; rfl)
    have hsz5 := hE.size
    replace hE := hE.store hkA' g5
    have hOw : OwnE (fun k => A k ∧ k < w.heap.size) b5 wA v7 es := own_of_flat hO hbl (fun i e bv h1 h2 => (hbb i e bv h1 h2).ck (CK.of_keep hkA' fun k _ h => by omega)) (fun k _ hk => by rcases hcA with e | ⟨b, e, hb⟩; (rw [e]; intro e'; have h9 : k = b5 := Option.some.inj e'; omega); (rw [e]; intro e'; have h9 : k = b := Option.some.inj e'; omega)) hok
    refine wl_val hW rfl rfl (x_assign rfl) ?_
    refine wl_nil ?_
    refine nx_then ?_
    refine wc_ret ?_
    exact ends_ret (res_tmp Try.results77 rfl) ⟨(hOw.row hlen).mono fun k _ h => h.elim (fun h => .inl h.1) (fun h => .inr (by omega)), hE⟩
theorem C49 {w : World} {v : Value} {ls : List (List Ent)} {keep size : Int} {bottom : Bool} (hL : LRow (fun k => k < w.heap.size) w v ls) (htot : tot ls ≤ 100000) (hr : ls.all rightB = true) (hsz : 1 ≤ size) :
    Rt Try.prog 49 [.int .u64 keep, .bool bottom, .int .i64 size, v] w fun r w' => (∃ ov out, r = .tuple #[ov, .int .i64 0] ∧ LOwn (fun _ => True) w.heap.size w' ov out ∧ Cuts (leftL keep bottom (mrg ls)) (leftL keep bottom (mrg ls)).length out) ∧ Ext w w' := by
  obtain ⟨ad, cap, rfl, hcap, hlen⟩ := hL.form
  have hmr := mrg_right hr
  have hml : (mrg ls).length ≤ 100000 := by have := foldTwo_len ls []; simp only [List.length_nil] at this; unfold mrg; omega
  have hll := leftL_le keep bottom (mrg ls)
  have hW := hWw
  have hFF := hFw
  have hE : Ext w w := Keep.refl _ _
  refine rt_body Try.func49 rfl Try.ntmps49 rfl ?_
  refine wc_seq ?_
  refine wc_region ?_
  refine wl_val hW rfl rfl (x_assign rfl) ?_
  refine wl_val hW rfl rfl (x_assign rfl) ?_
  refine wl_nil ?_
  refine nx_then ?_
  refine wc_seq ?_
  refine wc_seq ?_
  refine wc_region ?_
  refine wl_val hW rfl rfl (x_move rfl) ?_
  refine wl_val hW rfl rfl (x_lssF rfl rfl (by omega)) ?_
  refine wl_nil ?_
  refine nx_then ?_
  refine wc_false rfl ?_
  refine wc_skip ?_
  refine nx_then ?_
  refine wc_seq ?_
  refine wc_region ?_
  refine wl_val hW rfl rfl (x_move rfl) ?_
  refine wl_call hW rfl rfl (x_call en46 rfl) ((C46w (hL.ext hE) htot hr hE.size).inF hFF) ?_
  rintro _ wC ⟨⟨rv1, rfl, hR1⟩, hxC⟩
  replace hE := hE.trans hxC
  refine wl_val hW rfl rfl (x_move rfl) ?_
  refine wl_val hW rfl rfl (x_extract rfl rfl) ?_
  refine wl_val hW rfl rfl (x_extract rfl rfl) ?_
  refine wl_val hW rfl rfl (x_assign rfl) ?_
  refine wl_val hW rfl rfl (x_assign rfl) ?_
  refine wl_nil ?_
  refine nx_then ?_
  refine wc_seq ?_
  refine wc_seq ?_
  refine wc_region ?_
  refine wl_val hW rfl rfl (x_move rfl) ?_
  refine wl_val hW rfl rfl (x_neqF rfl rfl rfl) ?_
  refine wl_nil ?_
  refine nx_then ?_
  refine wc_false rfl ?_
  refine wc_skip ?_
  refine nx_then ?_
  refine wc_seq ?_
  refine wc_region ?_
  refine wl_val hW rfl rfl (x_move rfl) ?_
  refine wl_val hW rfl rfl (x_move rfl) ?_
  refine wl_val hW rfl rfl (x_move rfl) ?_
  refine wl_call hW rfl rfl (x_call en25 rfl) ((C25r (w0 := wC) hR1 (by omega) hmr).inF hFF) ?_
  rintro _ wl ⟨⟨av0, rfl, hAll0⟩, hxC⟩
  replace hE := hE.trans hxC
  refine wl_val hW rfl rfl (x_move rfl) ?_
  refine wl_val hW rfl rfl (x_extract rfl rfl) ?_
  refine wl_val hW rfl rfl (x_extract rfl rfl) ?_
  refine wl_val hW rfl rfl (x_assign rfl) ?_
  refine wl_nil ?_
  refine nx_then ?_
  obtain ⟨all, hall⟩ : ∃ all, all = leftL keep bottom (mrg ls) := ⟨_, rfl⟩
  rw [← hall] at hAll0 hll
  rw [← hall]
  have hAll : Row (fun k => k < wl.heap.size) wl av0 all := hAll0
  obtain ⟨aa, ca, rfl, hca, -⟩ := hAll.form
  have hEl := hE
  have hszl := hEl.size
  refine wc_seq ?_
  refine wc_region ?_
  refine wl_val hW rfl rfl (x_assign rfl) ?_
  refine wl_nil ?_
  refine nx_then ?_
  refine wc_seq ?_
  refine wc_region ?_
  refine wl_val hW rfl rfl (x_assign rfl) ?_
  refine wl_nil ?_
  refine nx_then ?_
  refine wc_seq ?_
  refine wc_region ?_
  refine wl_val hW rfl rfl (x_assign rfl) ?_
  refine wl_nil ?_
  refine nx_then ?_
  refine wc_seq ?_
  refine wc_seq ?_
  refine wc_region ?_
  refine wl_val hW rfl rfl (x_move rfl) ?_
  refine wl_val hW rfl rfl (x_len Try.underlying26 rfl) ?_
  refine wl_val hW rfl rfl (x_move rfl) ?_
  refine wl_nil ?_
  refine nx_then ?_
  refine wc_block ?_
  refine wc_loop (σ := Nat × Value × Nat × Nat) (fun q => [(2, .int .i64 size), (10, .slice aa all.length ca), (12, q.2.1), (13, .int .i64 (q.2.2.1 : Nat)), (14, .int .i64 (q.2.2.2 : Nat)), (34, .slice aa all.length ca), (35, .int .i64 (all.length : Nat)), (36, .int .i64 (q.1 : Nat))]) (fun q w' => (q.1 ≤ all.length ∧ q.2.2.2 ≤ q.1 ∧ (q.1 = all.length → q.2.2.2 = all.length) ∧ q.2.2.1 ≤ q.1 * 4194304 ∧ ∃ out, LOwn (fun _ => True) wl.heap.size w' q.2.1 out ∧ Cuts all q.2.2.2 out) ∧ Keep (fun k => k < wl.heap.size) wl w') (fun q => all.length - q.1) (0, .slice none 0 0, 0, 0) ?_ ?_ ?_
  · exact ⟨⟨Nat.zero_le _, Nat.le_refl _, fun h => h, Nat.zero_le _, [], lown_nil _ _ _, Cuts.nil⟩, Keep.refl _ _⟩
  · repeat (first | exact sub_nil | refine sub_cons rfl ?_)
  · rintro ⟨i, ov, sum, from'⟩ wr ⟨⟨hi, hfi, hfe, hsum, out, hO, hCu⟩, hK⟩
    replace hi : i ≤ all.length := hi
    replace hfi : from' ≤ i := hfi
    replace hfe : i = all.length → from' = all.length := hfe
    replace hsum : sum ≤ i * 4194304 := hsum
    replace hO : LOwn (fun _ => True) wl.heap.size wr ov out := hO
    replace hCu : Cuts all from' out := hCu
    have hE : Ext w wr := Keep.after hEl hK (fun k hk => by omega)
    have hszK := hK.size
    refine wc_seq ?_
    refine wc_region ?_
    refine wl_val hW rfl rfl (x_lss rfl rfl) ?_
    refine wl_nil ?_
    refine nx_then ?_
    refine wc_seq ?_
    refine wc_dec rfl (fun hc => ?_) (fun hc => ?_)
    · refine wc_skip ?_
      refine nx_then ?_
      refine wc_seq ?_
      refine wc_block ?_
      refine wc_seq ?_
      replace hc : ((i : Nat) : Int) < all.length := hc
      have hlt : i < all.length := by omega
      have hAllr := hAll.ck (CK.of_keep hK fun k _ h => h)
      obtain ⟨b, o, cap', bv, e1, hA, hC39, hb1, hok1⟩ := hAllr.at i hlt
      cases e1
      refine wc_region ?_
      refine wl_val hW rfl rfl (x_move rfl) ?_
      refine wl_val hW rfl rfl (x_indexAddr Try.underlying26 ag25.siz rfl rfl (by omega) (by omega)) ?_
      refine wl_val hW rfl rfl (x_loadA ag25 rfl hC39 rfl) ?_
      refine wl_alloc (cs := [.string ⟨#[]⟩, .int .u64 0, .bool false, .slice none 0 0]) hW rfl rfl Try.zeroValue25 rfl ?_
      intro b16 w16 hl16 hB16 hx16
      have g16 : w.heap.size ≤ b16 := Nat.le_trans hE.size hl16
      replace hE := hE.trans hx16
      refine wl_val hW rfl rfl (x_assign rfl) ?_
      have hone := cells_one (e := all[i]) hb1.one
      refine wl_storeA hW rfl ag25 rfl rfl hone rfl hB16 rfl ?_
      intro wS hBS hkS
      have hKS : Keep (fun k => k < wl.heap.size) wl wS := (hK.trans (Keep.of_ext hx16)).then hkS fun k hk h => by omega
      have hOb : LOwn (fun k => k < wr.heap.size) wl.heap.size wr ov out := hO.monoA fun k hk _ => hk
      have hOS := (hOb.ext hx16).keep hkS (fun b hb => by have := (hO.lt b hb).2; omega) (fun k hk _ => by omega)
      replace hB16 := hBS
      clear hBS
      replace hE := hE.store hkS g16
      refine wl_nil ?_
      refine nx_then ?_
      refine wc_seq ?_
      refine wc_region ?_
      refine wl_val hW rfl rfl (x_move rfl) ?_
      refine wl_val hW rfl rfl (x_loadA ag25 rfl hB16.cells rfl) ?_
      refine wl_call hW rfl rfl (x_call en76 rfl) ((C76 ((hb1.ext hx16).ck (CK.of_keep hkS fun k _ h => by omega)) hok1).inF hFF) ?_
      rintro _ wC ⟨rfl, hxC⟩
      replace hB16 := hB16.ext hxC
      replace hE := hE.trans hxC
      have hcost := cost_le hok1
      refine wl_val hW rfl rfl (x_addn (i := sum) (j := costE all[i]) rfl rfl (by omega)) ?_
      refine wl_val hW rfl rfl (x_assign rfl) ?_
      refine wl_nil ?_
      refine nx_then ?_
      refine wc_seq ?_
      have hKC := hKS.trans (Keep.of_ext hxC)
      have hOC := (hOS.ext hxC).monoA (A' := fun _ => True) fun _ _ _ => trivial
      refine wc_cutE (σ := Bool) (fun u => [(2, .int .i64 size), (10, .slice (some ⟨b, o, none⟩) all.length ca), (12, ov), (13, .int .i64 ((sum + costE all[i] : Nat))), (14, .int .i64 (from' : Nat)), (15, .int .i64 (i : Nat)), (34, .slice (some ⟨b, o, none⟩) all.length ca), (35, .int .i64 (all.length : Nat)), (36, .int .i64 (i : Nat)), (65, .bool u)]) (fun u w' => Ext wC w' ∧ (u = true → i + 1 = all.length ∨ ∃ h : i + 1 < all.length, all[i + 1].k ≠ all[i + 1 - 1].k) ∧ (u = false → i + 1 ≠ all.length)) ?_ ?_
      · refine wc_draw' 18 hW mixed (by kernel_rfl) (fun w0 hx0 => ?_)
        replace hB16 := hB16.ext hx0
        replace hE := hE.trans hx0
        refine q_val rfl rfl (fun _ hx => x_move rfl) ?_
        refine q_val rfl rfl (fun _ hx => x_inc (s := i) rfl (by omega)) ?_
        refine q_val rfl rfl (fun _ hx => x_move rfl) ?_
        refine q_val rfl rfl (fun _ hx => x_len Try.underlying26 rfl) ?_
        refine q_val rfl rfl (fun _ hx => x_eql rfl rfl) ?_
        refine q_val rfl rfl (fun _ hx => x_move rfl) ?_
        refine q_dcases (d := 50) rfl (fun hg50 => ?_) (fun hg50 => ?_)
        · refine q_off rfl rfl ?_
          refine q_off rfl rfl ?_
          refine q_off rfl rfl ?_
          refine q_off rfl rfl ?_
          refine q_off rfl rfl ?_
          refine q_off rfl rfl ?_
          refine q_off rfl rfl ?_
          refine q_off rfl rfl ?_
          refine q_off rfl rfl ?_
          refine q_off rfl rfl ?_
          refine q_off rfl rfl ?_
          refine q_off rfl rfl ?_
          refine q_nil (tail0 (fun wt hxt => ?_))
          replace hB16 := hB16.ext hxt
          replace hE := hE.trans hxt
          refine wl_off hW rfl rfl ?_
          refine wl_off hW rfl rfl ?_
          refine wl_val hW rfl rfl (x_pickT rfl rfl) ?_
          refine wl_nil ?_
          exact nx_cutE true (by repeat (first | exact sub_nil | refine sub_cons rfl ?_)) ⟨hx0.trans hxt, fun _ => .inl (by omega), fun h => by cases h⟩
        · refine q_val rfl rfl (fun _ hx => x_move rfl) ?_
          refine q_val rfl rfl (fun _ hx => x_move rfl) ?_
          refine q_val rfl rfl (fun _ hx => x_geq rfl rfl) ?_
          refine q_val rfl rfl (fun _ hx => x_move rfl) ?_
          refine q_dcases (d := 54) rfl (fun hg54 => ?_) (fun hg54 => ?_)
          · have hi1 : i + 1 < all.length := by omega
            obtain ⟨b2, o2, cap2, bv2, e2, -, hC58, -, -⟩ := ((hAllr.ck (CK.of_keep ((Keep.of_ext hx16).trans ((hkS.mono fun k _ h => by omega).trans (Keep.of_ext hxC)) : Keep (fun k => k < wl.heap.size) wr wC) fun k _ h => h)).ext hx0).at (i + 1) hi1
            cases e2
            refine q_val rfl rfl (fun _ hx => x_move rfl) ?_
            refine q_val rfl rfl (fun _ hx => x_move rfl) ?_
            refine q_val rfl rfl (fun _ hx => x_inc (s := i) rfl (by omega)) ?_
            refine q_val rfl rfl (fun _ hx => x_indexAddr Try.underlying26 ag25.siz rfl rfl (by omega) (by omega)) ?_
            refine q_val rfl rfl (fun _ hx => x_fieldAddr Try.underlying25 rfl fl9.siz rfl) ?_
            refine q_val rfl rfl (fun _ hx => x_load fl9 rfl (hx.cell (hC58 0 _ rfl))) ?_
            refine q_val rfl rfl (fun _ hx => x_fieldAddr Try.underlying25 rfl fl9.siz rfl) ?_
            refine q_val rfl rfl (fun _ hx => x_load fl9 rfl (hx.cell (hB16.cell (o := 0) rfl))) ?_
            refine q_nil (tail0 (fun wt hxt => ?_))
            replace hB16 := hB16.ext hxt
            replace hE := hE.trans hxt
            refine wl_val hW rfl rfl (x_sneq rfl rfl) ?_
            refine wl_val hW rfl rfl (x_pickT rfl rfl) ?_
            refine wl_val hW rfl rfl (x_pickF rfl rfl) ?_
            refine wl_nil ?_
            exact nx_cutE (!(all[i + 1].k.toList == all[i].k.toList)) (by repeat (first | exact sub_nil | refine sub_cons rfl ?_)) ⟨hx0.trans hxt, fun h => .inr ⟨hi1, fun e => by have e' : all[i + 1].k = all[i].k := e; rw [e'] at h; simp at h⟩, fun _ => by omega⟩
          · refine q_off rfl rfl ?_
            refine q_off rfl rfl ?_
            refine q_off rfl rfl ?_
            refine q_off rfl rfl ?_
            refine q_off rfl rfl ?_
            refine q_off rfl rfl ?_
            refine q_off rfl rfl ?_
            refine q_off rfl rfl ?_
            refine q_nil (tail0 (fun wt hxt => ?_))
            replace hB16 := hB16.ext hxt
            replace hE := hE.trans hxt
            refine wl_off hW rfl rfl ?_
            refine wl_val hW rfl rfl (x_pickF rfl rfl) ?_
            refine wl_val hW rfl rfl (x_pickF rfl rfl) ?_
            refine wl_nil ?_
            exact nx_cutE false (by repeat (first | exact sub_nil | refine sub_cons rfl ?_)) ⟨hx0.trans hxt, fun h => (by cases h), fun _ => by omega⟩
      · rintro u w' ⟨hxu, hu1, hu2⟩
        have hKu := hKC.trans (Keep.of_ext hxu)
        have hOu := hOC.ext hxu
        replace hE : Ext w w' := Keep.after hEl hKu (fun k hk => by omega)
        replace hB16 := hB16.ext hxu
        have hAllu := hAll.ck (CK.of_keep hKu fun k _ h => h)
        have hszu := hKu.size
        refine nx_then ?_
        refine wc_bool rfl (fun hc => ?_) (fun hc => ?_)
        · refine wc_seq ?_
          refine wc_region ?_
          refine wl_val hW rfl rfl (x_move rfl) ?_
          refine wl_val hW rfl rfl (x_move rfl) ?_
          refine wl_val hW rfl rfl (x_move rfl) ?_
          refine wl_val hW rfl rfl (x_move rfl) ?_
          refine wl_val hW rfl rfl (x_inc (s := i) rfl (by omega)) ?_
          refine wl_val hW rfl rfl (x_slice2 (i := from') (j := i + 1) Try.underlying26 ag25.siz rfl rfl rfl (by omega) (by omega)) ?_
          refine wl_call hW rfl rfl (x_call en77 rfl) ((C77 (hAllu.slice2 (i := from') (j := i + 1) (by omega) (by omega))).inF hFF) ?_
          rintro cv wD ⟨hCl, hxC2⟩
          replace hB16 := hB16.ext hxC2
          replace hE := hE.trans hxC2
          obtain ⟨acl, ccl, rfl, -, -⟩ := hCl.form
          refine wl_buildSlice (parts := [(0, .tmp 72)]) hW rfl rfl Try.underlying65 fl26.siz Try.zeroValue26 rfl rfl rfl (by omega) ?_
          intro b73 w73 hl73 hB73 hx73
          have g73 : w.heap.size ≤ b73 := Nat.le_trans hE.size hl73
          have n73_16 : b73 ≠ b16 := Nat.ne_of_gt (Nat.lt_of_lt_of_le hB16.lt hl73)
          replace hB16 := hB16.ext hx73
          replace hE := hE.trans hx73
          have hO73 := (hOu.ext hxC2).ext hx73
          have hCl73 := (hCl.mono (A' := fun k => True ∧ some k ≠ ov.ownBlock) fun k hk h => ⟨trivial, fun e => by have h1 : wl.heap.size ≤ k ∧ k < w'.heap.size := hOu.lt k e.symm; have h2 : k < wl.heap.size ∨ w'.heap.size ≤ k := h; omega⟩).ext hx73
          have hlen' := hCu.len
          have hsz73 := hx73.size
          have hszC2 := hxC2.size
          refine wl_appendL hW rfl rfl rfl rfl hO73 hCl73 hB73 (by omega) (by omega) ?_
          intro ov2 wA hO2 hkA hcA
          have hKA : Keep (fun k => k < wl.heap.size) wl wA := ((hKu.trans (Keep.of_ext hxC2)).trans (Keep.of_ext hx73)).then hkA fun k hk h e => by have := (hOu.lt k e.symm).1; omega
          refine wl_val hW rfl rfl (x_assign rfl) ?_
          refine wl_nil ?_
          refine nx_then ?_
          refine wc_region ?_
          refine wl_val hW rfl rfl (x_move rfl) ?_
          refine wl_val hW rfl rfl (x_inc (s := i) rfl (by omega)) ?_
          refine wl_val hW rfl rfl (x_assign rfl) ?_
          refine wl_val hW rfl rfl (x_assign rfl) ?_
          refine wl_nil ?_
          refine nx_block ?_
          refine nx_then ?_
          refine wc_region ?_
          refine wl_val hW rfl rfl (x_inc (s := i) rfl (by omega)) ?_
          refine wl_val hW rfl rfl (x_move rfl) ?_
          refine wl_nil ?_
          exact nx_next (i + 1, ov2, 0, i + 1) (by dsimp only; omega) ⟨⟨hlt, Nat.le_refl _, fun h => h, Nat.zero_le _, out ++ [(all.take (i + 1)).drop from'], hO2, hCu.snoc (by dsimp only; omega) hlt (hu1 hc)⟩, hKA⟩ (by repeat (first | exact sub_nil | refine sub_cons rfl ?_))
        · refine wc_skip ?_
          refine nx_block ?_
          refine nx_then ?_
          refine wc_region ?_
          refine wl_val hW rfl rfl (x_inc (s := i) rfl (by omega)) ?_
          refine wl_val hW rfl rfl (x_move rfl) ?_
          refine wl_nil ?_
          exact nx_next (i + 1, ov, sum + costE all[i], from') (by dsimp only; omega) ⟨⟨hlt, by dsimp only; omega, fun h => absurd h (hu2 hc), by dsimp only; omega, out, hOu, hCu⟩, hKu⟩ (by repeat (first | exact sub_nil | refine sub_cons rfl ?_))
    · refine wc_exit ?_
      refine nx_then_exit ?_
      refine nx_then_exit ?_
      refine nx_block_exit ?_
      refine nx_then ?_
      refine wc_seq ?_
      refine wc_region ?_
      have hie : i = all.length := by have h' : ¬ ((i : Nat) : Int) < all.length := hc; omega
      rw [hfe hie] at hCu
      refine wl_val hW rfl rfl (x_move rfl) ?_
      refine wl_val hW rfl rfl (x_assign rfl) ?_
      refine wl_val hW rfl rfl (x_assign rfl) ?_
      refine wl_nil ?_
      refine nx_then ?_
      refine wc_ret ?_
      exact ends_ret (res_tmp2 Try.results49 rfl rfl) ⟨⟨ov, out, rfl, hO.rebase2 (fun b hb => by have := (hO.lt b hb).1; omega), hCu⟩, hE⟩
end Go.Proofs.Ytblbddamebbgaaa.K

