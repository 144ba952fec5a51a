/- Walk: Pick. -/
import Derived.Test.YtblbddamebbgaaaOl
namespace Go.Proofs.Ytblbddamebbgaaa.K
open Go Go.RowKit
set_option linter.unusedVariables false
set_option linter.unusedSimpArgs false

theorem C54 {A : Nat → Prop} {w : World} {tv : Value} {ts : List Tb} {sq nx wl z b t : Int} (hR : TRow A w tv ts) (hts : ts.length ≤ 100000) (hsz : ∀ x ∈ ts, 0 ≤ x.s ∧ x.s ≤ 1099511627776) :
    Rt Try.prog 54 [.agg #[tv, .int .u64 sq, .int .i64 nx, .int .i64 wl], .agg #[.int .i64 z, .int .i64 b, .int .i64 t]] w fun r w' => (∃ (is : Bool) (n : Nat) (l : List Tb) (jl : Int) (iv : Value) (bot : Bool), r = .tuple #[.agg [.int .i64 jl, iv, .bool bot].toArray, .bool is] ∧ Picks ts z b t is n l ∧ (is = false → jl = 0 ∧ iv = .slice none 0 0 ∧ bot = false) ∧ (is = true → jl = n ∧ bot = (jobOf ts n l).bot ∧ IRow (fun k => w.heap.size ≤ k) w' iv (jobOf ts n l).ins)) ∧ Ext w w' := by
  obtain ⟨ad, cap, rfl, hcap, hlen⟩ := hR.form
  replace hR := hR.mono (A' := fun k => k < w.heap.size) fun k hk _ => hk
  have hlev : ∀ n : Int, ∀ x ∈ levelL ts n, 0 ≤ x.s ∧ x.s ≤ 1099511627776 := fun n x hx => hsz x ((List.mem_filter.1 hx).1)
  have hW := hWw
  have hFF := hFw
  have hE : Ext w w := Keep.refl _ _
  refine rt_body Try.func54 rfl Try.ntmps54 rfl ?_
  refine wc_seq ?_
  refine wc_region ?_
  refine wl_box hW rfl rfl rfl rfl ?_
  intro b2 w2 hl2 hB2 hx2
  have g2 : w.heap.size ≤ b2 := Nat.le_trans hE.size hl2
  replace hE := hE.trans hx2
  refine wl_box hW rfl rfl rfl rfl ?_
  intro b3 w3 hl3 hB3 hx3
  have g3 : w.heap.size ≤ b3 := Nat.le_trans hE.size hl3
  have n3_2 : b3 ≠ b2 := Nat.ne_of_gt (Nat.lt_of_lt_of_le hB2.lt hl3)
  replace hB2 := hB2.ext hx3
  replace hE := hE.trans hx3
  refine wl_alloc (cs := [.int .i64 0, .slice none 0 0, .bool false]) hW rfl rfl Try.zeroValue95 rfl ?_
  intro b4 w4 hl4 hB4 hx4
  have g4 : w.heap.size ≤ b4 := Nat.le_trans hE.size hl4
  have n4_2 : b4 ≠ b2 := Nat.ne_of_gt (Nat.lt_of_lt_of_le hB2.lt hl4)
  replace hB2 := hB2.ext hx4
  have n4_3 : b4 ≠ b3 := Nat.ne_of_gt (Nat.lt_of_lt_of_le hB3.lt hl4)
  replace hB3 := hB3.ext hx4
  replace hE := hE.trans hx4
  refine wl_val hW rfl rfl (x_assign rfl) ?_
  refine wl_nil ?_
  refine nx_then ?_
  refine wc_scope ?_
  refine wc_seq ?_
  refine wc_seq ?_
  refine wc_region ?_
  refine wl_val hW rfl rfl (x_loadA ag78 rfl hB3.cells rfl) ?_
  refine wl_call hW rfl rfl (x_call en50 rfl) ((C50).inF hFF) ?_
  rintro _ wC ⟨rfl, hxC⟩
  replace hB2 := hB2.ext hxC
  replace hB3 := hB3.ext hxC
  replace hB4 := hB4.ext hxC
  replace hE := hE.trans hxC
  refine wl_val hW rfl rfl (x_neq rfl rfl) ?_
  refine wl_nil ?_
  refine nx_then ?_
  refine wc_dec rfl (fun hc => ?_) (fun hc => ?_)
  · refine wc_seq ?_
    refine wc_region ?_
    refine wl_val hW rfl rfl x_build95n ?_
    refine wl_storeA hW rfl ag95 rfl rfl rfl rfl hB4 rfl ?_
    intro wS hBS hkS
    replace hB2 := hB2.keep hkS n4_2.symm
    replace hB3 := hB3.keep hkS n4_3.symm
    replace hB4 := hBS
    clear hBS
    replace hE := hE.store hkS g4
    refine wl_val hW rfl rfl (x_assign rfl) ?_
    refine wl_nil ?_
    refine nx_then ?_
    refine wc_ret ?_
    refine nx_then_ret ?_
    refine nx_scope_ret ?_
    exact ends_ret (res_cell_tmp Try.results54 rfl (run_loadVar_cells ag95 hB4.cells rfl) rfl) ⟨⟨false, 0, [], 0, .slice none 0 0, false, rfl, .inl ⟨rfl, fun h => by rw [h] at hc; exact absurd rfl hc⟩, fun _ => ⟨rfl, rfl, rfl⟩, fun h => by cases h⟩, hE⟩
  · have hok : okS z b t = true := by cases h : okS z b t with | true => rfl | false => rw [h] at hc; exact absurd (by decide) hc
    have hok' := of_decide_eq_true hok
    refine wc_skip ?_
    refine nx_then ?_
    refine wc_seq ?_
    refine wc_seq ?_
    refine wc_region ?_
    refine wl_val hW rfl rfl (x_loadA ag82 rfl hB2.cells rfl) ?_
    refine wl_call hW rfl rfl (x_call en79 rfl) ((C79 (hR.ext hE)).inF hFF) ?_
    rintro lv wC ⟨hO0, hxC⟩
    replace hB2 := hB2.ext hxC
    replace hB3 := hB3.ext hxC
    replace hB4 := hB4.ext hxC
    replace hE := hE.trans hxC
    refine wl_val hW rfl rfl (x_assign rfl) ?_
    refine wl_nil ?_
    refine nx_then ?_
    have hL0 := hO0.row (by have := levelL_le ts 0; omega)
    obtain ⟨a0, c0, rfl, -⟩ := hO0.form
    have hll0 := levelL_le ts 0
    refine wc_seq ?_
    refine wc_region ?_
    refine wl_val hW rfl rfl (x_move rfl) ?_
    refine wl_val hW rfl rfl (x_len Try.underlying80 rfl) ?_
    refine wl_val hW rfl rfl (x_fieldAddr Try.underlying78 rfl fl3.siz rfl) ?_
    refine wl_val hW rfl rfl (x_load fl3 rfl (hB3.cell (o := 0) rfl)) ?_
    refine wl_val hW rfl rfl (x_geq rfl rfl) ?_
    refine wl_nil ?_
    refine nx_then ?_
    refine wc_dec rfl (fun hc => ?_) (fun hc => ?_)
    · refine wc_seq ?_
      have hz0 : z ≤ ((levelL ts 0).length : Int) := hc
      obtain ⟨t0, l', hl0⟩ : ∃ t0 l', levelL ts 0 = t0 :: l' := by cases h : levelL ts 0 with | nil => rw [h] at hz0; simp at hz0; omega | cons x xs => exact ⟨x, xs, rfl⟩
      obtain ⟨v0, hv0⟩ : ∃ v0, v0 = Value.slice a0 (levelL ts 0).length c0 := ⟨_, rfl⟩
      rw [← hv0] at hL0
      rw [hl0, hv0] at hL0
      refine wc_region ?_
      refine wl_val hW rfl rfl (x_loadA ag82 rfl hB2.cells rfl) ?_
      have hRj := hR.ext hE
      have hszc := hE.size
      have h4lt := hB4.lt
      refine wl_val hW rfl rfl (x_move rfl) ?_
      refine wl_call hW rfl rfl (x_call en80 rfl) ((C80z hRj hL0 hts (by rw [← hl0]; omega)).inF hFF) ?_
      rintro _ wJ ⟨⟨iv, rfl, hI⟩, hxC⟩
      replace hB2 := hB2.ext hxC
      replace hB3 := hB3.ext hxC
      replace hB4 := hB4.ext hxC
      replace hE := hE.trans hxC
      have hone : iv.oneCell' = true := by obtain ⟨a, c, rfl, -⟩ := hI.form; rfl
      have hszJ := hE.size
      refine wl_storeA hW rfl ag95 rfl rfl (by simp only [List.all_cons, hone]; rfl) rfl hB4 rfl ?_
      intro wS hBS hkS
      replace hB2 := hB2.keep hkS n4_2.symm
      replace hB3 := hB3.keep hkS n4_3.symm
      replace hB4 := hBS
      clear hBS
      replace hE := hE.store hkS g4
      refine wl_val hW rfl rfl (x_assign rfl) ?_
      refine wl_nil ?_
      refine nx_then ?_
      refine wc_ret ?_
      refine nx_then_ret ?_
      refine nx_scope_ret ?_
      exact ends_ret (res_cell_tmp Try.results54 rfl (run_loadVar_cells ag95 hB4.cells rfl) rfl) ⟨⟨true, 0, levelL ts 0, 0, iv, _, rfl, .inr ⟨rfl, hok, .inl ⟨rfl, rfl, hz0⟩⟩, fun h => (by cases h), fun _ => ⟨rfl, by rw [hl0]; rfl, by rw [hl0]; exact (hI.ck (CK.of_keep hkS fun k _ hk => by omega)).mono fun k _ hk => by omega⟩⟩, hE⟩
    · refine wc_skip ?_
      have hz0 : ((levelL ts 0).length : Int) < z := by have := hc; omega
      refine nx_then ?_
      refine wc_seq ?_
      refine wc_region ?_
      refine wl_val hW rfl rfl (x_fieldAddr Try.underlying78 rfl fl3.siz rfl) ?_
      refine wl_val hW rfl rfl (x_load fl3 rfl (hB3.cell (o := 1) rfl)) ?_
      refine wl_val hW rfl rfl (x_assign rfl) ?_
      refine wl_nil ?_
      refine nx_then ?_
      refine wc_seq ?_
      refine wc_label ?_
      refine nx_then ?_
      refine wc_seq ?_
      refine wc_seq ?_
      refine wc_region ?_
      refine wl_val hW rfl rfl (x_assign rfl) ?_
      refine wl_nil ?_
      refine nx_then ?_
      refine wc_block ?_
      refine wc_loop (σ := Nat × Int) (fun s => [(2, .pointer (some ⟨b2, 0, none⟩)), (4, .pointer (some ⟨b4, 0, none⟩)), (7, .int .i64 s.2), (8, .int .i64 (s.1 : Nat))]) (fun s w' => (1 ≤ s.1 ∧ s.1 ≤ 6 ∧ 1 ≤ s.2 ∧ s.2 ≤ capN s.1) ∧ Ext w w' ∧ Blk w' b2 [.slice ad ts.length cap, .int .u64 sq, .int .i64 nx, .int .i64 wl] 82 ∧ Blk w' b3 [.int .i64 z, .int .i64 b, .int .i64 t] 78 ∧ Blk w' b4 [.int .i64 0, .slice none 0 0, .bool false] 95) (fun s => 6 - s.1) (1, b) ?_ ?_ ?_
      · exact ⟨⟨Nat.le_refl _, by show 1 ≤ 6; omega, by show 1 ≤ b; omega, by show b ≤ capN 1; unfold capN; omega⟩, hE, hB2, hB3, hB4⟩
      · repeat (first | exact sub_nil | refine sub_cons rfl ?_)
      · rintro ⟨n, most⟩ wr ⟨⟨hn1, hn6, hm1, hmc⟩, hE, hB2, hB3, hB4⟩
        replace hn1 : 1 ≤ n := hn1
        replace hn6 : n ≤ 6 := hn6
        replace hm1 : 1 ≤ most := hm1
        replace hmc : most ≤ capN n := hmc
        have hcl := capN_le hn1 hn6
        refine wc_seq ?_
        refine wc_seq ?_
        refine wc_region ?_
        refine wl_val hW rfl rfl (x_move rfl) ?_
        refine wl_val hW rfl rfl (x_leq rfl rfl) ?_
        refine wl_nil ?_
        refine nx_then ?_
        refine wc_dec rfl (fun hc => ?_) (fun hc => ?_)
        · replace hc : ((n : Nat) : Int) ≤ 5 := hc
          refine wc_skip ?_
          refine nx_then ?_
          refine wc_seq ?_
          refine wc_block ?_
          refine wc_seq ?_
          refine wc_region ?_
          refine wl_val hW rfl rfl (x_loadA ag82 rfl hB2.cells rfl) ?_
          refine wl_val hW rfl rfl (x_move rfl) ?_
          refine wl_call hW rfl rfl (x_call en79 rfl) ((C79 (hR.ext hE)).inF hFF) ?_
          rintro lv wC ⟨hO1, hxC⟩
          replace hB2 := hB2.ext hxC
          replace hB3 := hB3.ext hxC
          replace hB4 := hB4.ext hxC
          replace hE := hE.trans hxC
          have hll := levelL_le ts ((n : Nat) : Int)
          have hL1 := hO1.row (Nat.le_trans hll (by omega))
          obtain ⟨a1, c1, rfl, hcc1⟩ := hO1.form
          obtain ⟨L1, hL1e⟩ : ∃ L1, L1 = levelL ts ((n : Nat) : Int) := ⟨_, rfl⟩
          have hLs : ∀ x ∈ L1, 0 ≤ x.s ∧ x.s ≤ 1099511627776 := fun x hx => hlev _ x (by rw [← hL1e]; exact hx)
          rw [← hL1e] at hL1 hll hcc1
          rw [← hL1e]
          refine wl_val hW rfl rfl (x_assign rfl) ?_
          refine wl_nil ?_
          refine nx_then ?_
          refine wc_seq ?_
          refine wc_region ?_
          refine wl_val hW rfl rfl (x_assign rfl) ?_
          refine wl_nil ?_
          refine nx_then ?_
          refine wc_seq ?_
          refine wc_region ?_
          refine wl_val hW rfl rfl (x_assign rfl) ?_
          refine wl_nil ?_
          refine nx_then ?_
          refine wc_seq ?_
          refine wc_seq ?_
          refine wc_region ?_
          refine wl_val hW rfl rfl (x_move rfl) ?_
          refine wl_val hW rfl rfl (x_len Try.underlying80 rfl) ?_
          refine wl_val hW rfl rfl (x_move rfl) ?_
          refine wl_nil ?_
          refine nx_then ?_
          have hszC := hE.size
          refine wc_block ?_
          refine wc_loop (σ := Nat × Int × Nat) (fun s => [(2, .pointer (some ⟨b2, 0, none⟩)), (4, .pointer (some ⟨b4, 0, none⟩)), (7, .int .i64 most), (8, .int .i64 (n : Nat)), (9, .slice a1 L1.length c1), (10, .int .i64 s.2.1), (11, .int .i64 (s.2.2 : Nat)), (37, .slice a1 L1.length c1), (38, .int .i64 (L1.length : Nat)), (39, .int .i64 (s.1 : Nat))]) (fun s w' => ((s.1 ≤ L1.length ∧ 0 ≤ s.2.1 ∧ s.2.1 ≤ most + 1 ∧ (s.1 = 0 → s.2.1 = 0) ∧ s.2.2 ≤ s.1 ∧ (0 < L1.length → s.2.2 < L1.length)) ∧ Ext wC w') ∧ Ext w w' ∧ Blk w' b2 [.slice ad ts.length cap, .int .u64 sq, .int .i64 nx, .int .i64 wl] 82 ∧ Blk w' b3 [.int .i64 z, .int .i64 b, .int .i64 t] 78 ∧ Blk w' b4 [.int .i64 0, .slice none 0 0, .bool false] 95) (fun s => L1.length - s.1) (0, 0, 0) ?_ ?_ ?_
          · exact ⟨⟨⟨Nat.zero_le _, Int.le_refl _, by show (0 : Int) ≤ _; omega, fun _ => rfl, Nat.le_refl _, fun h => h⟩, Keep.refl _ _⟩, hE, hB2, hB3, hB4⟩
          · repeat (first | exact sub_nil | refine sub_cons rfl ?_)
          · rintro ⟨s, sum, best⟩ wr2 ⟨⟨⟨hs, hs0, hs1, hsz0, hbs, hbl⟩, hEC⟩, hE, hB2, hB3, hB4⟩
            replace hs : s ≤ L1.length := hs
            replace hs0 : 0 ≤ sum := hs0
            replace hs1 : sum ≤ most + 1 := hs1
            replace hsz0 : s = 0 → sum = 0 := hsz0
            replace hbs : best ≤ s := hbs
            replace hbl : 0 < L1.length → best < L1.length := hbl
            refine wc_seq ?_
            refine wc_region ?_
            refine wl_val hW rfl rfl (x_lss rfl rfl) ?_
            refine wl_nil ?_
            refine nx_then ?_
            refine wc_seq ?_
            refine wc_dec rfl (fun hc => ?_) (fun hc => ?_)
            · refine wc_skip ?_
              refine nx_then ?_
              refine wc_seq ?_
              refine wc_block ?_
              refine wc_seq ?_
              refine wc_region ?_
              replace hc : ((s : Nat) : Int) < L1.length := hc
              have hlt : s < L1.length := by omega
              have hbl' := hbl (by omega)
              obtain ⟨bb, oo, cap', e1, hA, hC42⟩ := (hL1.ext hEC).at s hlt
              obtain ⟨bb2, oo2, cap2, e2, hA2, hC57⟩ := (hL1.ext hEC).at best hbl'
              rw [e1] at e2
              cases e2
              cases e1
              have hxs := hLs _ (List.getElem_mem hlt)
              have hEC0 := hEC
              refine wl_val hW rfl rfl (x_move rfl) ?_
              refine wl_val hW rfl rfl (x_indexAddr Try.underlying80 ag87.siz rfl rfl (by omega) (by omega)) ?_
              refine wl_val hW rfl rfl (x_loadA ag87 rfl hC42 rfl) ?_
              refine wl_alloc (cs := [.int .i64 0, .int .i64 0, .string ⟨#[]⟩, .string ⟨#[]⟩, .int .i64 0]) hW rfl rfl Try.zeroValue87 rfl ?_
              intro b13 w13 hl13 hB13 hx13
              have g13 : w.heap.size ≤ b13 := Nat.le_trans hE.size hl13
              have n13_2 : b13 ≠ b2 := Nat.ne_of_gt (Nat.lt_of_lt_of_le hB2.lt hl13)
              replace hB2 := hB2.ext hx13
              have n13_3 : b13 ≠ b3 := Nat.ne_of_gt (Nat.lt_of_lt_of_le hB3.lt hl13)
              replace hB3 := hB3.ext hx13
              have n13_4 : b13 ≠ b4 := Nat.ne_of_gt (Nat.lt_of_lt_of_le hB4.lt hl13)
              replace hB4 := hB4.ext hx13
              replace hE := hE.trans hx13
              refine wl_val hW rfl rfl (x_assign rfl) ?_
              refine wl_storeA hW rfl ag87 rfl rfl (cellsT_one _) rfl hB13 rfl ?_
              intro wS hBS hkS
              have hECS : Ext wC wS := Keep.store (hEC.trans hx13) hkS (by have := hEC.size; omega)
              replace hB2 := hB2.keep hkS n13_2.symm
              replace hB3 := hB3.keep hkS n13_3.symm
              replace hB4 := hB4.keep hkS n13_4.symm
              replace hB13 := hBS
              clear hBS
              replace hE := hE.store hkS g13
              refine wl_nil ?_
              refine nx_then ?_
              refine wc_seq ?_
              refine wc_region ?_
              refine wl_val hW rfl rfl (x_move rfl) ?_
              refine wl_val hW rfl rfl (x_fieldAddr Try.underlying87 rfl fl3.siz rfl) ?_
              refine wl_val hW rfl rfl (x_load fl3 rfl (hB13.cell (o := 4) rfl)) ?_
              refine wl_val hW rfl rfl (x_move rfl) ?_
              refine wl_val hW rfl rfl (x_add (i := most) (j := 1) (r := most + 1) rfl rfl (by rw [IntWalk.i64_in _ (by omega)])) ?_
              refine wl_val hW rfl rfl (x_move rfl) ?_
              refine wl_val hW rfl rfl (x_sub (i := most + 1) (j := sum) (r := most + 1 - sum) rfl rfl (by rw [IntWalk.i64_in _ (by omega)])) ?_
              refine wl_val hW rfl rfl (x_min (i := L1[s].s) (j := most + 1 - sum) rfl rfl) ?_
              have hmin : 0 ≤ (if most + 1 - sum < L1[s].s then most + 1 - sum else L1[s].s) ∧ (if most + 1 - sum < L1[s].s then most + 1 - sum else L1[s].s) ≤ most + 1 - sum := by split <;> omega
              refine wl_val hW rfl rfl (x_add (i := sum) (j := if most + 1 - sum < L1[s].s then most + 1 - sum else L1[s].s) (r := sum + (if most + 1 - sum < L1[s].s then most + 1 - sum else L1[s].s)) rfl rfl (by rw [IntWalk.i64_in _ (by omega)])) ?_
              refine wl_val hW rfl rfl (x_assign rfl) ?_
              refine wl_nil ?_
              refine nx_then ?_
              refine wc_seq ?_
              refine wc_draw' 7 hW mixed (by kernel_rfl) (fun w0 hx0 => ?_)
              replace hB2 := hB2.ext hx0
              replace hB3 := hB3.ext hx0
              replace hB4 := hB4.ext hx0
              replace hB13 := hB13.ext hx0
              replace hE := hE.trans hx0
              have hbb2 : bb < wr2.heap.size := World.block_lt_of_cell? _ _ (hC57 0 _ rfl)
              have hC57S := ((hC57.ext hx13).ck (A := (· ≠ b13)) (by intro e; omega) (CK.of_keep hkS fun k _ h => h)).ext hx0
              refine q_val rfl rfl (fun _ hx => x_fieldAddr Try.underlying87 rfl fl3.siz rfl) ?_
              refine q_val rfl rfl (fun _ hx => x_load fl3 rfl (hx.cell (hB13.cell (o := 4) rfl))) ?_
              refine q_val rfl rfl (fun _ hx => x_move rfl) ?_
              refine q_val rfl rfl (fun _ hx => x_move rfl) ?_
              refine q_val rfl rfl (fun _ hx => x_indexAddr (i := ((best : Nat) : Int)) Try.underlying80 ag87.siz rfl rfl (by omega) (by omega)) ?_
              refine q_val rfl rfl (fun _ hx => x_fieldAddr Try.underlying87 rfl fl3.siz rfl) ?_
              refine q_val rfl rfl (fun _ hx => x_load fl3 rfl (hx.cell (hC57S 4 _ rfl))) ?_
              refine q_nil (tail0 (fun wt hxt => ?_))
              replace hB2 := hB2.ext hxt
              replace hB3 := hB3.ext hxt
              replace hB4 := hB4.ext hxt
              replace hB13 := hB13.ext hxt
              replace hE := hE.trans hxt
              refine wl_val hW rfl rfl (x_gtr rfl rfl) ?_
              refine wl_nil ?_
              refine nx_then ?_
              refine wc_dec rfl (fun hc => ?_) (fun hc => ?_)
              · refine wc_region ?_
                refine wl_val hW rfl rfl (x_move rfl) ?_
                have hE9 := hECS.trans (hx0.trans hxt)
                refine wl_val hW rfl rfl (x_assign rfl) ?_
                refine wl_nil ?_
                refine nx_block ?_
                refine nx_then ?_
                refine wc_region ?_
                refine wl_val hW rfl rfl (x_inc (s := s) rfl (by omega)) ?_
                refine wl_val hW rfl rfl (x_move rfl) ?_
                refine wl_nil ?_
                exact nx_next (s + 1, sum + (if most + 1 - sum < L1[s].s then most + 1 - sum else L1[s].s), s) (by dsimp only; omega) ⟨⟨⟨hlt, by dsimp only; omega, by dsimp only; omega, fun h => absurd h (Nat.succ_ne_zero _), by dsimp only; omega, fun _ => hlt⟩, hE9⟩, hE, hB2, hB3, hB4⟩ (by repeat (first | exact sub_nil | refine sub_cons rfl ?_))
              · refine wc_skip ?_
                refine nx_block ?_
                refine nx_then ?_
                refine wc_region ?_
                refine wl_val hW rfl rfl (x_inc (s := s) rfl (by omega)) ?_
                refine wl_val hW rfl rfl (x_move rfl) ?_
                have hE9 := hECS.trans (hx0.trans hxt)
                refine wl_nil ?_
                exact nx_next (s + 1, sum + (if most + 1 - sum < L1[s].s then most + 1 - sum else L1[s].s), best) (by dsimp only; omega) ⟨⟨⟨hlt, by dsimp only; omega, by dsimp only; omega, fun h => absurd h (Nat.succ_ne_zero _), by dsimp only; omega, fun _ => hbl'⟩, hE9⟩, hE, hB2, hB3, hB4⟩ (by repeat (first | exact sub_nil | refine sub_cons rfl ?_))
            · refine wc_exit ?_
              refine nx_then_exit ?_
              refine nx_then_exit ?_
              refine nx_block_exit ?_
              refine nx_then ?_
              refine wc_seq ?_
              refine wc_seq ?_
              replace hc : ¬ ((s : Nat) : Int) < L1.length := hc
              have hsl : s = L1.length := by omega
              refine wc_region ?_
              refine wl_val hW rfl rfl (x_move rfl) ?_
              refine wl_val hW rfl rfl (x_move rfl) ?_
              refine wl_val hW rfl rfl (x_leq rfl rfl) ?_
              refine wl_nil ?_
              refine nx_then ?_
              refine wc_dec rfl (fun hc => ?_) (fun hc => ?_)
              · refine wc_seq ?_
                refine wc_region ?_
                refine wl_val hW rfl rfl (x_move rfl) ?_
                refine wl_val hW rfl rfl (x_mul (i := most) (j := 10) (r := most * 10) rfl rfl (by rw [IntWalk.i64_in _ (by omega)])) ?_
                refine wl_val hW rfl rfl (x_assign rfl) ?_
                refine wl_nil ?_
                refine nx_then ?_
                refine wc_exit ?_
                refine nx_then_exit ?_
                refine nx_block_exit ?_
                refine nx_then ?_
                refine wc_region ?_
                refine wl_val hW rfl rfl (x_move rfl) ?_
                refine wl_val hW rfl rfl (x_inc (s := n) rfl (by omega)) ?_
                refine wl_val hW rfl rfl (x_assign rfl) ?_
                refine wl_nil ?_
                exact nx_next (n + 1, most * 10) (by dsimp only; omega) ⟨⟨by dsimp only; omega, by dsimp only; omega, by dsimp only; omega, by dsimp only; rw [capN_succ hn1]; omega⟩, hE, hB2, hB3, hB4⟩ (by repeat (first | exact sub_nil | refine sub_cons rfl ?_))
              · refine wc_skip ?_
                replace hc : ¬ sum ≤ most := hc
                have hne : 0 < L1.length := by rcases Nat.eq_zero_or_pos L1.length with h | h; have := hsz0 (by omega); omega; exact h
                have hb := hbl hne
                have hRb := hR.ext hE
                refine nx_then ?_
                refine wc_seq ?_
                refine wc_draw' 9 hW mixed (by kernel_rfl) (fun w0 hx0 => ?_)
                replace hB2 := hB2.ext hx0
                replace hB3 := hB3.ext hx0
                replace hB4 := hB4.ext hx0
                replace hE := hE.trans hx0
                refine q_val rfl rfl (fun _ hx => x_loadA ag82 rfl (hB2.ext hx).cells rfl) ?_
                refine q_val rfl rfl (fun _ hx => x_move rfl) ?_
                refine q_val rfl rfl (fun _ hx => x_move rfl) ?_
                refine q_val rfl rfl (fun _ hx => x_move rfl) ?_
                refine q_val rfl rfl (fun _ hx => x_move rfl) ?_
                refine q_val rfl rfl (fun _ hx => x_inc (s := best) rfl (by omega)) ?_
                refine q_val rfl rfl (fun _ hx => x_move rfl) ?_
                refine q_val rfl rfl (fun _ hx => x_inc (s := best) rfl (by omega)) ?_
                refine q_val rfl rfl (fun _ hx => x_slice3 (i := best) (j := best + 1) Try.underlying80 ag87.siz rfl rfl rfl rfl (by omega) (by omega)) ?_
                refine q_nil (tail0 (fun wt hxt => ?_))
                replace hB2 := hB2.ext hxt
                replace hB3 := hB3.ext hxt
                replace hB4 := hB4.ext hxt
                replace hE := hE.trans hxt
                have hLx := (((hL1.ext hEC).ext hx0).ext hxt).slice (i := best) (j := best + 1) (c' := best + 1 - best) (by omega) (by omega) (Nat.le_refl _) (ad' := if best + 1 = best then a1 else a1.map (·.add (best * 5))) (fun _ => if_neg (by omega))
                rw [take_drop_one hb] at hLx
                have hRj := (hRb.ext hx0).ext hxt
                have hszc := hE.size
                have h4lt := hB4.lt
                refine wl_call hW rfl rfl (x_call en80 rfl) ((C80 (n := n) hRj hLx (by omega) hts (by simp)).inF hFF) ?_
                rintro _ wJ ⟨⟨iv, rfl, hI⟩, hxC⟩
                replace hB2 := hB2.ext hxC
                replace hB3 := hB3.ext hxC
                replace hB4 := hB4.ext hxC
                replace hE := hE.trans hxC
                have hone : iv.oneCell' = true := by obtain ⟨a, c, rfl, -⟩ := hI.form; rfl
                have hszJ := hE.size
                refine wl_storeA hW rfl ag95 rfl rfl (by simp only [List.all_cons, hone]; rfl) rfl hB4 rfl ?_
                intro wS hBS hkS
                replace hB2 := hB2.keep hkS n4_2.symm
                replace hB3 := hB3.keep hkS n4_3.symm
                replace hB4 := hBS
                clear hBS
                replace hE := hE.store hkS g4
                refine wl_val hW rfl rfl (x_assign rfl) ?_
                refine wl_nil ?_
                refine nx_then ?_
                refine wc_ret ?_
                refine nx_block_ret ?_
                refine nx_then_ret ?_
                refine nx_then_ret ?_
                refine nx_block_ret ?_
                refine nx_then_ret ?_
                refine nx_scope_ret ?_
                exact ends_ret (res_cell_tmp Try.results54 rfl (run_loadVar_cells ag95 hB4.cells rfl) rfl) ⟨⟨true, n, [L1[best]], n, iv, _, rfl, .inr ⟨rfl, hok, .inr ⟨hn1, by omega, hz0, L1[best], by rw [← hL1e]; exact List.getElem_mem hb, rfl⟩⟩, fun h => (by cases h), fun _ => ⟨rfl, rfl, (hI.ck (CK.of_keep hkS fun k _ hk => by omega)).mono fun k _ hk => by omega⟩⟩, hE⟩
        · refine wc_exit ?_
          refine nx_then_exit ?_
          refine nx_then_exit ?_
          refine nx_block_exit ?_
          refine nx_then ?_
          refine wc_seq ?_
          refine wc_region ?_
          refine wl_val hW rfl rfl x_build95n ?_
          refine wl_storeA hW rfl ag95 rfl rfl rfl rfl hB4 rfl ?_
          intro wS hBS hkS
          replace hB2 := hB2.keep hkS n4_2.symm
          replace hB3 := hB3.keep hkS n4_3.symm
          replace hB4 := hBS
          clear hBS
          replace hE := hE.store hkS g4
          refine wl_val hW rfl rfl (x_assign rfl) ?_
          refine wl_nil ?_
          refine nx_then ?_
          refine wc_ret ?_
          refine nx_scope_ret ?_
          exact ends_ret (res_cell_tmp Try.results54 rfl (run_loadVar_cells ag95 hB4.cells rfl) rfl) ⟨⟨false, 0, [], 0, .slice none 0 0, false, rfl, .inl ⟨rfl, fun _ => hz0⟩, fun _ => ⟨rfl, rfl, rfl⟩, fun h => by cases h⟩, hE⟩
end Go.Proofs.Ytblbddamebbgaaa.K

