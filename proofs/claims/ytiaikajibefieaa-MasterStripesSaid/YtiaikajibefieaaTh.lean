/- Walks: numbers searched; members and numbers deleted. -/
import Derived.Test.YtiaikajibefieaaTg
namespace Go.Proofs.Ytiaikajibefieaa.K
open Go Go.RowKit
set_option linter.unusedVariables false
set_option linter.unusedSimpArgs false
theorem C23 {A : Nat → Prop} {w : World} {sv : Value} {zs : List Int} {x : Int} (hI : IRow A w sv zs) (hs : zs.Pairwise (· < ·)) :
    Rt Try.prog 23 [sv, .int .i64 x] w fun r w' => (∃ p : Nat, p ≤ zs.length ∧ r = .tuple #[.int .i64 p, .bool (decide (x ∈ zs))] ∧ (∀ (i : Nat) (h : i < zs.length), i < p → zs[i] < x) ∧ ∀ (i : Nat) (h : i < zs.length), p ≤ i → x ≤ zs[i]) ∧ Ext w w' := by
  obtain ⟨sa, sc, rfl, -, hlz⟩ := hI.form
  have hmono : ∀ (i j : Nat) (hi : i < zs.length) (hj : j < zs.length), i ≤ j → zs[i] ≤ zs[j] := fun i j hi hj hij => by
    rcases Nat.lt_or_ge i j with h | h
    · exact Int.le_of_lt ((List.pairwise_iff_getElem.1 hs) i j hi hj h)
    · obtain rfl : i = j := by omega
      exact Int.le_refl _
  have hW := hWw
  have hFF := hFw
  have hE : Ext w w := Keep.refl _ _
  refine rt_body Try.func23 rfl Try.ntmps23 rfl ?_
  refine wc_seq ?_
  refine wc_region ?_
  refine wl_val hW rfl rfl (x_assign rfl) ?_
  refine wl_val hW rfl rfl (x_assign rfl) ?_
  refine wl_nil ?_
  refine nx_then ?_
  refine wc_seq ?_
  refine wc_region ?_
  refine wl_val hW rfl rfl (x_move rfl) ?_
  refine wl_val hW rfl rfl (x_len Try.underlying25 rfl) ?_
  refine wl_val hW rfl rfl (x_assign rfl) ?_
  refine wl_nil ?_
  refine nx_then ?_
  refine wc_seq ?_
  refine wc_region ?_
  refine wl_val hW rfl rfl (x_move rfl) ?_
  refine wl_val hW rfl rfl (x_assign rfl) ?_
  refine wl_val hW rfl rfl (x_assign rfl) ?_
  refine wl_nil ?_
  refine nx_then ?_
  refine wc_seq ?_
  refine wc_block ?_
  refine wc_loop (σ := Nat × Nat) (fun s => [(0, .slice sa zs.length sc), (1, .int .i64 x), (6, .int .i64 (zs.length : Nat)), (7, .int .i64 (s.1 : Nat)), (8, .int .i64 (s.2 : Nat))]) (fun s w' => (s.1 ≤ s.2 ∧ s.2 ≤ zs.length ∧ (∀ (i : Nat) (h : i < zs.length), i < s.1 → zs[i] < x) ∧ ∀ (i : Nat) (h : i < zs.length), s.2 ≤ i → x ≤ zs[i]) ∧ Ext w w') (fun s => s.2 - s.1) (0, zs.length) ?_ ?_ ?_
  · exact ⟨⟨Nat.zero_le _, Nat.le_refl _, fun i h hi => (by cases hi), fun i h hi => (by dsimp only at hi; omega)⟩, hE⟩
  · repeat (first | exact sub_nil | refine sub_cons rfl ?_)
  · rintro ⟨i, j⟩ wr ⟨⟨hij, hjn, hlo, hhi⟩, hE⟩
    replace hij : i ≤ j := hij
    replace hjn : j ≤ zs.length := hjn
    refine wc_seq ?_
    refine wc_seq ?_
    refine wc_region ?_
    refine wl_val hW rfl rfl (x_move rfl) ?_
    refine wl_val hW rfl rfl (x_move rfl) ?_
    refine wl_val hW rfl rfl (x_lss rfl rfl) ?_
    refine wl_nil ?_
    refine nx_then ?_
    refine wc_dec rfl (fun hc => ?_) (fun hc => ?_)
    · refine wc_skip ?_
      refine nx_then ?_
      replace hc : ((i : Nat) : Int) < j := hc
      have hlt : (i + j) / 2 < zs.length := by omega
      obtain ⟨b, o, cap', e1, -, hC24⟩ := (hI.ext hE).at ((i + j) / 2) hlt
      cases e1
      refine wc_block ?_
      refine wc_seq ?_
      refine wc_region ?_
      refine wl_val hW rfl rfl (x_move rfl) ?_
      refine wl_val hW rfl rfl (x_move rfl) ?_
      refine wl_val hW rfl rfl (x_addn (i := i) (j := j) rfl rfl (by omega)) ?_
      refine wl_val hW rfl rfl (x_convU (s := i + j) Try.underlying3 Try.underlying64 rfl (by omega)) ?_
      refine wl_val hW rfl rfl (x_half rfl) ?_
      refine wl_val hW rfl rfl (x_convI (s := (i + j) / 2) Try.underlying64 Try.underlying3 rfl (by omega)) ?_
      refine wl_val hW rfl rfl (x_assign rfl) ?_
      refine wl_nil ?_
      refine nx_then ?_
      refine wc_seq ?_
      refine wc_region ?_
      refine wl_val hW rfl rfl (x_move rfl) ?_
      refine wl_val hW rfl rfl (x_move rfl) ?_
      refine wl_val hW rfl rfl (x_indexAddr Try.underlying25 fl3.siz rfl rfl (by omega) (by omega)) ?_
      refine wl_val hW rfl rfl (x_load fl3 rfl (hC24 0 _ rfl)) ?_
      refine wl_val hW rfl rfl (x_move rfl) ?_
      refine wl_call hW rfl rfl (x_call en36 rfl) ((C36).inF hFF) ?_
      rintro _ wC ⟨rfl, hxC⟩
      replace hE := hE.trans hxC
      refine wl_nil ?_
      refine nx_then ?_
      refine wc_bool rfl (fun hc => ?_) (fun hc => ?_)
      · have hcz : zs[(i + j) / 2] < x := of_decide_eq_true hc
        refine wc_region ?_
        refine wl_val hW rfl rfl (x_move rfl) ?_
        refine wl_val hW rfl rfl (x_inc (s := (i + j) / 2) rfl (by omega)) ?_
        refine wl_val hW rfl rfl (x_assign rfl) ?_
        refine wl_nil ?_
        refine nx_block ?_
        exact nx_next ((i + j) / 2 + 1, j) (by dsimp only; omega) ⟨⟨by dsimp only; omega, hjn, fun k h hk => by dsimp only at hk; exact Int.lt_of_le_of_lt (hmono k _ h hlt (by omega)) hcz, hhi⟩, hE⟩ (by repeat (first | exact sub_nil | refine sub_cons rfl ?_))
      · have hcz : ¬ zs[(i + j) / 2] < x := of_decide_eq_false hc
        refine wc_region ?_
        refine wl_val hW rfl rfl (x_move rfl) ?_
        refine wl_val hW rfl rfl (x_assign rfl) ?_
        refine wl_nil ?_
        refine nx_block ?_
        exact nx_next (i, (i + j) / 2) (by dsimp only; omega) ⟨⟨by dsimp only; omega, by dsimp only; omega, hlo, fun k h hk => by dsimp only at hk; exact Int.le_trans (by omega) (hmono _ k hlt h hk)⟩, hE⟩ (by repeat (first | exact sub_nil | refine sub_cons rfl ?_))
    · refine wc_exit ?_
      replace hc : ¬ ((i : Nat) : Int) < j := hc
      obtain rfl : i = j := by omega
      refine nx_then_exit ?_
      refine nx_then_exit ?_
      refine nx_block_exit ?_
      refine nx_then ?_
      refine wc_seq ?_
      refine wc_cut [(4, .int .i64 (i : Nat)), (5, .bool (decide (x ∈ zs)))] (fun w' => Ext w w') ?_ ?_
      · refine wc_region ?_
        refine wl_val hW rfl rfl (x_move rfl) ?_
        refine wl_val hW rfl rfl (x_move rfl) ?_
        refine wl_val hW rfl rfl (x_move rfl) ?_
        refine wl_val hW rfl rfl (x_lss rfl rfl) ?_
        refine wl_val hW rfl rfl (x_move rfl) ?_
        refine wl_dcases (d := 35) rfl (fun hg35 => ?_) (fun hg35 => ?_)
        · have hlt : i < zs.length := by omega
          obtain ⟨b, o, cap', e1, -, hC38⟩ := (hI.ext hE).at i hlt
          cases e1
          have hC45 := hC38
          refine wl_val hW rfl rfl (x_move rfl) ?_
          refine wl_val hW rfl rfl (x_move rfl) ?_
          refine wl_val hW rfl rfl (x_indexAddr Try.underlying25 fl3.siz rfl rfl (by omega) (by omega)) ?_
          refine wl_val hW rfl rfl (x_load fl3 rfl (hC38 0 _ rfl)) ?_
          refine wl_val hW rfl rfl (x_move rfl) ?_
          refine wl_val hW rfl rfl (x_eql rfl rfl) ?_
          refine wl_val hW rfl rfl (x_move rfl) ?_
          refine wl_dcases (d := 42) rfl (fun hg42 => ?_) (fun hg42 => ?_)
          · refine wl_off hW rfl rfl ?_
            refine wl_off hW rfl rfl ?_
            refine wl_off hW rfl rfl ?_
            refine wl_off hW rfl rfl ?_
            refine wl_off hW rfl rfl ?_
            refine wl_off hW rfl rfl ?_
            refine wl_off hW rfl rfl ?_
            refine wl_off hW rfl rfl ?_
            refine wl_off hW rfl rfl ?_
            refine wl_val hW rfl rfl (x_pickT rfl rfl) ?_
            refine wl_val hW rfl rfl (x_pickT rfl rfl) ?_
            refine wl_val hW rfl rfl (x_assign rfl) ?_
            refine wl_val hW rfl rfl (x_assign rfl) ?_
            refine wl_nil ?_
            exact nx_cut (by rw [decide_eq_true (show x ∈ zs from by rw [← show zs[i] = x from hg42]; exact List.getElem_mem hlt)]; repeat (first | exact sub_nil | refine sub_cons rfl ?_)) hE
          · refine wl_val hW rfl rfl (x_move rfl) ?_
            refine wl_val hW rfl rfl (x_move rfl) ?_
            refine wl_val hW rfl rfl (x_indexAddr Try.underlying25 fl3.siz rfl rfl (by omega) (by omega)) ?_
            refine wl_val hW rfl rfl (x_load fl3 rfl (hC45 0 _ rfl)) ?_
            refine wl_call hW rfl rfl (x_call en37 rfl) ((C37).inF hFF) ?_
            rintro _ wC ⟨rfl, hxC⟩
            replace hE := hE.trans hxC
            refine wl_val hW rfl rfl (x_move rfl) ?_
            refine wl_off hW rfl rfl ?_
            refine wl_off hW rfl rfl ?_
            refine wl_val hW rfl rfl (x_pickF rfl rfl) ?_
            refine wl_val hW rfl rfl (x_pickF rfl rfl) ?_
            refine wl_val hW rfl rfl (x_pickT rfl rfl) ?_
            refine wl_val hW rfl rfl (x_assign rfl) ?_
            refine wl_val hW rfl rfl (x_assign rfl) ?_
            refine wl_nil ?_
            exact nx_cut (by rw [decide_eq_false (show ¬ x ∈ zs from fun hm => by obtain ⟨k, hk, e⟩ := List.mem_iff_getElem.1 hm; rcases Nat.lt_or_ge k i with h | h; (have := hlo k hk h; omega); rcases Nat.lt_or_ge i k with h' | h'; (have h1 := (List.pairwise_iff_getElem.1 hs) i k hlt hk h'; have h2 := hhi i hlt (Nat.le_refl _); omega); (obtain rfl : k = i := by omega); exact hg42 e)]; repeat (first | exact sub_nil | refine sub_cons rfl ?_)) hE
        · refine wl_off hW rfl rfl ?_
          refine wl_off hW rfl rfl ?_
          refine wl_off hW rfl rfl ?_
          refine wl_off hW rfl rfl ?_
          refine wl_off hW rfl rfl ?_
          refine wl_off hW rfl rfl ?_
          refine wl_off hW rfl rfl ?_
          refine wl_off hW rfl rfl ?_
          refine wl_off hW rfl rfl ?_
          refine wl_off hW rfl rfl ?_
          refine wl_off hW rfl rfl ?_
          refine wl_off hW rfl rfl ?_
          refine wl_off hW rfl rfl ?_
          refine wl_off hW rfl rfl ?_
          refine wl_off hW rfl rfl ?_
          refine wl_off hW rfl rfl ?_
          refine wl_off hW rfl rfl ?_
          refine wl_val hW rfl rfl (x_pickF rfl rfl) ?_
          refine wl_val hW rfl rfl (x_assign rfl) ?_
          refine wl_val hW rfl rfl (x_assign rfl) ?_
          refine wl_nil ?_
          exact nx_cut (by rw [decide_eq_false (show ¬ x ∈ zs from fun hm => by obtain ⟨k, hk, e⟩ := List.mem_iff_getElem.1 hm; have := hlo k hk (by omega); omega)]; repeat (first | exact sub_nil | refine sub_cons rfl ?_)) hE
      · rintro w' hE
        refine nx_then ?_
        refine wc_ret ?_
        exact ends_ret (res_tmp2 Try.results23 rfl rfl) ⟨⟨i, by omega, rfl, hlo, hhi⟩, hE⟩
theorem C24 {w : World} {g c base i : Nat} {ms : List Mb} (hO : MOwn base w (.slice (some ⟨g, 0, none⟩) ms.length c) ms) (hi : i < ms.length) (hl : ms.length ≤ 1099511627776) :
    Rt Try.prog 24 [.slice (some ⟨g, 0, none⟩) ms.length c, .int .i64 i, .int .i64 ((i + 1 : Nat) : Int)] w fun r w' => (r = .slice (some ⟨g, 0, none⟩) (ms.length - 1) c ∧ MOwn base w' r (ms.take i ++ ms.drop (i + 1))) ∧ Keep (· ≠ g) w w' := by
  obtain ⟨g', cs, eg, -, hcn, hcm, hB, hcl, hbg, hct⟩ := hO.blk cellsM_len (by omega)
  cases eg
  have hW := hWw
  have hFF := hFw
  have hE : Ext w w := Keep.refl _ _
  refine rt_body Try.func24 rfl Try.ntmps24 rfl ?_
  refine wc_seq ?_
  refine wc_region ?_
  refine wl_val hW rfl rfl (x_assign rfl) ?_
  refine wl_nil ?_
  refine nx_then ?_
  refine wc_seq ?_
  refine wc_region ?_
  refine wl_val hW rfl rfl (x_move rfl) ?_
  refine wl_val hW rfl rfl (x_move rfl) ?_
  refine wl_val hW rfl rfl (x_move rfl) ?_
  refine wl_val hW rfl rfl (x_move rfl) ?_
  refine wl_val hW rfl rfl (x_len Try.underlying24 rfl) ?_
  refine wl_val hW rfl rfl (x_slice3g (i := i) (j := i + 1) (k := ms.length) Try.underlying24 ag35.siz rfl rfl rfl rfl (by omega) (by omega) hcn) ?_
  refine wl_nil ?_
  refine nx_then ?_
  refine wc_seq ?_
  refine wc_seq ?_
  refine wc_region ?_
  refine wl_val hW rfl rfl (x_move rfl) ?_
  refine wl_val hW rfl rfl (x_move rfl) ?_
  refine wl_val hW rfl rfl (x_eql rfl rfl) ?_
  refine wl_nil ?_
  refine nx_then ?_
  refine wc_dec rfl (fun hc => ?_) (fun hc => ?_)
  · exact absurd hc (by omega)
  · refine wc_skip ?_
    refine nx_then ?_
    refine wc_seq ?_
    refine wc_region ?_
    refine wl_val hW rfl rfl (x_move rfl) ?_
    refine wl_val hW rfl rfl (x_len Try.underlying24 rfl) ?_
    refine wl_val hW rfl rfl (x_assign rfl) ?_
    refine wl_nil ?_
    refine nx_then ?_
    refine wc_seq ?_
    refine wc_draw' 6 hW mixed (by kernel_rfl) (fun w0 hx0 => ?_)
    replace hE := hE.trans hx0
    refine q_val rfl rfl (fun _ hx => x_move rfl) ?_
    refine q_val rfl rfl (fun _ hx => x_move rfl) ?_
    refine q_val rfl rfl (fun _ hx => x_slicehr (j := i) Try.underlying24 ag35.siz rfl rfl (by omega)) ?_
    refine q_val rfl rfl (fun _ hx => x_move rfl) ?_
    refine q_val rfl rfl (fun _ hx => x_move rfl) ?_
    refine q_val rfl rfl (fun _ hx => x_slicel (i := i + 1) Try.underlying24 ag35.siz rfl rfl (by omega)) ?_
    refine q_nil (tail0 (fun wt hxt => ?_))
    replace hE := hE.trans hxt
    have hO1 := hO.ext hE
    have hB1 := hB.ext hE
    have hsr : Src wt (some ⟨g, 0, none⟩) (ms.flatMap cellsM) := grow_src cellsM_len (by decide) (hO1.row cellsM_len hl)
    have hfl : (ms.flatMap cellsM).length = ms.length * 3 := gflat_len cellsM_len ms
    refine wl_appRoom (k := i) (k2 := ms.length - (i + 1)) (news := (ms.flatMap cellsM).drop ((i + 1) * 3)) Try.underlying24 ag35.siz hW rfl rfl rfl rfl hB1 (by omega) (by rw [List.length_drop, hfl]; omega) (hsr.drop (fun h => List.drop_eq_nil_of_le (by rw [hfl]; omega))) (fun u hu => mflat_one u (List.mem_of_mem_drop hu)) (by rw [List.length_drop, hfl]; omega) ?_
    intro wA hB2 hkA
    rw [gflat_drop cellsM_len, Nat.zero_add] at hB2
    refine wl_val hW rfl rfl (x_assign rfl) ?_
    refine wl_nil ?_
    refine nx_then ?_
    refine wc_seq ?_
    refine wc_region ?_
    refine wl_val hW rfl rfl (x_move rfl) ?_
    refine wl_val hW rfl rfl (x_move rfl) ?_
    refine wl_val hW rfl rfl (x_len Try.underlying24 rfl) ?_
    refine wl_val hW rfl rfl (x_move rfl) ?_
    refine wl_val hW rfl rfl (x_slice2r (i := i + (ms.length - (i + 1))) (j := ms.length) Try.underlying24 ag35.siz rfl rfl rfl (by omega) (by omega) (by omega)) ?_
    refine wl_clear (sz := 3) hW rfl Try.underlying24 Try.zeroValue35 rfl (by decide) rfl hB2 (by simp only [List.length_append, List.length_take, List.length_drop, gflat_len cellsM_len, hcl]; omega) ?_
    intro w5 new hnew hB5 hk5
    obtain ⟨hd1, hd2⟩ := del_cells (new := new) (o := 0 + (i + (ms.length - (i + 1))) * 3) (q := 0 + (i + (ms.length - (i + 1))) * 3 + (ms.length - (i + (ms.length - (i + 1)))) * 3) cellsM_len hi hct hcl hcn (by omega) (by omega) (by omega)
    have hkf : Keep (· ≠ g) w w5 := ((Keep.of_ext hE).trans hkA).trans hk5
    have hxl : (ms.take i ++ ms.drop (i + 1)).length = ms.length - 1 := by simp; omega
    have hfin := gown_of_blk (xs := ms.take i ++ ms.drop (i + 1)) cellsM_len hB5 hbg (by rw [hxl]; omega) hd1 hcm hd2
    rw [hxl] at hfin
    refine wl_nil ?_
    refine nx_then ?_
    refine wc_seq ?_
    refine wc_region ?_
    refine wl_val hW rfl rfl (x_move rfl) ?_
    refine wl_val hW rfl rfl (x_assign rfl) ?_
    refine wl_nil ?_
    refine nx_then ?_
    refine wc_ret ?_
    exact ends_ret (res_tmp Try.results24 rfl) (by rw [show i + (ms.length - (i + 1)) = ms.length - 1 from by omega]; exact ⟨⟨rfl, hfin⟩, hkf⟩)
theorem C27 {w : World} {g c base i : Nat} {ms : List Int} (hO : IOwn base w (.slice (some ⟨g, 0, none⟩) ms.length c) ms) (hi : i < ms.length) (hl : ms.length ≤ 1099511627776) :
    Rt Try.prog 27 [.slice (some ⟨g, 0, none⟩) ms.length c, .int .i64 i, .int .i64 ((i + 1 : Nat) : Int)] w fun r w' => (r = .slice (some ⟨g, 0, none⟩) (ms.length - 1) c ∧ IOwn base w' r (ms.take i ++ ms.drop (i + 1))) ∧ Keep (· ≠ g) w w' := by
  obtain ⟨g', cs, eg, -, hcn, hcm, hB, hcl, hbg, hct⟩ := hO.blk cellsI_len (by omega)
  cases eg
  have hW := hWw
  have hFF := hFw
  have hE : Ext w w := Keep.refl _ _
  refine rt_body Try.func27 rfl Try.ntmps27 rfl ?_
  refine wc_seq ?_
  refine wc_region ?_
  refine wl_val hW rfl rfl (x_assign rfl) ?_
  refine wl_nil ?_
  refine nx_then ?_
  refine wc_seq ?_
  refine wc_region ?_
  refine wl_val hW rfl rfl (x_move rfl) ?_
  refine wl_val hW rfl rfl (x_move rfl) ?_
  refine wl_val hW rfl rfl (x_move rfl) ?_
  refine wl_val hW rfl rfl (x_move rfl) ?_
  refine wl_val hW rfl rfl (x_len Try.underlying25 rfl) ?_
  refine wl_val hW rfl rfl (x_slice3g (i := i) (j := i + 1) (k := ms.length) Try.underlying25 fl3.siz rfl rfl rfl rfl (by omega) (by omega) hcn) ?_
  refine wl_nil ?_
  refine nx_then ?_
  refine wc_seq ?_
  refine wc_seq ?_
  refine wc_region ?_
  refine wl_val hW rfl rfl (x_move rfl) ?_
  refine wl_val hW rfl rfl (x_move rfl) ?_
  refine wl_val hW rfl rfl (x_eql rfl rfl) ?_
  refine wl_nil ?_
  refine nx_then ?_
  refine wc_dec rfl (fun hc => ?_) (fun hc => ?_)
  · exact absurd hc (by omega)
  · refine wc_skip ?_
    refine nx_then ?_
    refine wc_seq ?_
    refine wc_region ?_
    refine wl_val hW rfl rfl (x_move rfl) ?_
    refine wl_val hW rfl rfl (x_len Try.underlying25 rfl) ?_
    refine wl_val hW rfl rfl (x_assign rfl) ?_
    refine wl_nil ?_
    refine nx_then ?_
    refine wc_seq ?_
    refine wc_draw' 6 hW mixed (by kernel_rfl) (fun w0 hx0 => ?_)
    replace hE := hE.trans hx0
    refine q_val rfl rfl (fun _ hx => x_move rfl) ?_
    refine q_val rfl rfl (fun _ hx => x_move rfl) ?_
    refine q_val rfl rfl (fun _ hx => x_slicehr (j := i) Try.underlying25 fl3.siz rfl rfl (by omega)) ?_
    refine q_val rfl rfl (fun _ hx => x_move rfl) ?_
    refine q_val rfl rfl (fun _ hx => x_move rfl) ?_
    refine q_val rfl rfl (fun _ hx => x_slicel (i := i + 1) Try.underlying25 fl3.siz rfl rfl (by omega)) ?_
    refine q_nil (tail0 (fun wt hxt => ?_))
    replace hE := hE.trans hxt
    have hO1 := hO.ext hE
    have hB1 := hB.ext hE
    have hsr : Src wt (some ⟨g, 0, none⟩) (ms.flatMap cellsI) := grow_src cellsI_len (by decide) (hO1.row cellsI_len hl)
    have hfl : (ms.flatMap cellsI).length = ms.length * 1 := gflat_len cellsI_len ms
    refine wl_appRoom (k := i) (k2 := ms.length - (i + 1)) (news := (ms.flatMap cellsI).drop ((i + 1) * 1)) Try.underlying25 fl3.siz hW rfl rfl rfl rfl hB1 (by omega) (by rw [List.length_drop, hfl]; omega) (hsr.drop (fun h => List.drop_eq_nil_of_le (by rw [hfl]; omega))) (fun u hu => iflat_one u (List.mem_of_mem_drop hu)) (by rw [List.length_drop, hfl]; omega) ?_
    intro wA hB2 hkA
    rw [gflat_drop cellsI_len, Nat.zero_add] at hB2
    refine wl_val hW rfl rfl (x_assign rfl) ?_
    refine wl_nil ?_
    refine nx_then ?_
    refine wc_seq ?_
    refine wc_region ?_
    refine wl_val hW rfl rfl (x_move rfl) ?_
    refine wl_val hW rfl rfl (x_move rfl) ?_
    refine wl_val hW rfl rfl (x_len Try.underlying25 rfl) ?_
    refine wl_val hW rfl rfl (x_move rfl) ?_
    refine wl_val hW rfl rfl (x_slice2r (i := i + (ms.length - (i + 1))) (j := ms.length) Try.underlying25 fl3.siz rfl rfl rfl (by omega) (by omega) (by omega)) ?_
    refine wl_clear (sz := 1) hW rfl Try.underlying25 Try.zeroValue3 rfl (by decide) rfl hB2 (by simp only [List.length_append, List.length_take, List.length_drop, gflat_len cellsI_len, hcl]; omega) ?_
    intro w5 new hnew hB5 hk5
    obtain ⟨hd1, hd2⟩ := del_cells (new := new) (o := 0 + (i + (ms.length - (i + 1))) * 1) (q := 0 + (i + (ms.length - (i + 1))) * 1 + (ms.length - (i + (ms.length - (i + 1)))) * 1) cellsI_len hi hct hcl hcn (by omega) (by omega) (by omega)
    have hkf : Keep (· ≠ g) w w5 := ((Keep.of_ext hE).trans hkA).trans hk5
    have hxl : (ms.take i ++ ms.drop (i + 1)).length = ms.length - 1 := by simp; omega
    have hfin := gown_of_blk (xs := ms.take i ++ ms.drop (i + 1)) cellsI_len hB5 hbg (by rw [hxl]; omega) hd1 hcm hd2
    rw [hxl] at hfin
    refine wl_nil ?_
    refine nx_then ?_
    refine wc_seq ?_
    refine wc_region ?_
    refine wl_val hW rfl rfl (x_move rfl) ?_
    refine wl_val hW rfl rfl (x_assign rfl) ?_
    refine wl_nil ?_
    refine nx_then ?_
    refine wc_ret ?_
    exact ends_ret (res_tmp Try.results27 rfl) (by rw [show i + (ms.length - (i + 1)) = ms.length - 1 from by omega]; exact ⟨⟨rfl, hfin⟩, hkf⟩)
end Go.Proofs.Ytiaikajibefieaa.K

