/- Walk: Grow, Concat, Stripe. -/
import Derived.Test.YtiaikajibefieaaTy
namespace Go.Proofs.Ytiaikajibefieaa.K
open Go Go.RowKit
set_option linter.unusedVariables false
set_option linter.unusedSimpArgs false
theorem C41 {w : World} {n : Nat} (hn : n ≤ 1099511627776) : Rt Try.prog 41 [.slice none 0 0, .int .i64 (n : Nat)] w fun r w' => IOwn w.heap.size w' r [] ∧ Ext w w' := by
  have hW := hWw
  have hFF := hFw
  have hE : Ext w w := Keep.refl _ _
  refine rt_body Try.func41 rfl Try.ntmps41 rfl ?_
  refine wc_seq ?_
  refine wc_region ?_
  refine wl_val hW rfl rfl (x_assign rfl) ?_
  refine wl_nil ?_
  refine nx_then ?_
  refine wc_seq ?_
  refine wc_seq ?_
  refine wc_region ?_
  refine wl_val hW rfl rfl (x_move rfl) ?_
  refine wl_val hW rfl rfl (x_lssF rfl rfl (by omega)) ?_
  refine wl_nil ?_
  refine nx_then ?_
  refine wc_false rfl ?_
  refine wc_skip ?_
  refine nx_then ?_
  refine wc_seq ?_
  refine wc_seq ?_
  refine wc_region ?_
  refine wl_val hW rfl rfl (x_move rfl) ?_
  refine wl_val hW rfl rfl (x_move rfl) ?_
  refine wl_val hW rfl rfl (x_cap rfl Try.underlying25 rfl) ?_
  refine wl_val hW rfl rfl (x_move rfl) ?_
  refine wl_val hW rfl rfl (x_len Try.underlying25 rfl) ?_
  refine wl_val hW rfl rfl (x_subn (i := 0) (j := 0) rfl rfl (by omega) (by omega)) ?_
  refine wl_val hW rfl rfl (x_subn (i := n) (j := 0) rfl rfl (by omega) (by omega)) ?_
  refine wl_val hW rfl rfl (x_assign rfl) ?_
  refine wl_nil ?_
  refine nx_then ?_
  refine wc_seq ?_
  refine wc_region ?_
  refine wl_val hW rfl rfl (x_move rfl) ?_
  refine wl_val hW rfl rfl (x_gtr rfl rfl) ?_
  refine wl_nil ?_
  refine nx_then ?_
  refine wc_dec rfl (fun hc => ?_) (fun hc => ?_)
  · have hc' : 0 < n := by have h' : ((0 : Nat) : Int) < ((n - 0 : Nat) : Int) := hc; omega
    refine wc_region ?_
    refine wl_val hW rfl rfl (x_move rfl) ?_
    refine wl_val hW rfl rfl (x_move rfl) ?_
    refine wl_val hW rfl rfl (x_cap rfl Try.underlying25 rfl) ?_
    refine wl_val hW rfl rfl (x_sliceh (j := 0) Try.underlying25 fl3.siz rfl rfl (Nat.le_refl _)) ?_
    refine wl_val hW rfl rfl (x_move rfl) ?_
    refine wl_appZ0 (k := n) hW rfl rfl rfl rfl hc' hn (fun b2 c2 cs2 wZ hl2 hB2 hcl hkc hcm hxZ => ?_)
    refine wl_val hW rfl rfl (x_move rfl) ?_
    refine wl_val hW rfl rfl (x_len Try.underlying25 rfl) ?_
    refine wl_val hW rfl rfl (x_slicehr (j := 0) Try.underlying25 fl3.siz rfl rfl (Nat.zero_le _)) ?_
    refine wl_val hW rfl rfl (x_assign rfl) ?_
    refine wl_nil ?_
    refine nx_then ?_
    refine wc_seq ?_
    refine wc_region ?_
    refine wl_val hW rfl rfl (x_move rfl) ?_
    refine wl_val hW rfl rfl (x_assign rfl) ?_
    refine wl_nil ?_
    refine nx_then ?_
    refine wc_ret ?_
    exact ends_ret (res_tmp Try.results41 rfl) ⟨gown_of_blk cellsI_len hB2 hl2 (Nat.zero_le _) (by rw [Nat.mul_one]; exact hcl) hcm rfl, hE.trans hxZ⟩
  · refine wc_skip ?_
    refine nx_then ?_
    refine wc_seq ?_
    refine wc_region ?_
    refine wl_val hW rfl rfl (x_move rfl) ?_
    refine wl_val hW rfl rfl (x_assign rfl) ?_
    refine wl_nil ?_
    refine nx_then ?_
    refine wc_ret ?_
    exact ends_ret (res_tmp Try.results41 rfl) ⟨gown_nil, hE⟩
theorem C33 {A A2 : Nat → Prop} {w : World} {b : Nat} {v1 v2 : Value} {xs ys : List Int} (hB : Blk w b [v1, v2] 25) (h1 : IRow A w v1 xs) (h2 : IRow A2 w v2 ys) (hl : xs.length + ys.length ≤ 100000) :
    Rt Try.prog 33 [.slice (some ⟨b, 0, none⟩) 2 2] w fun r w' => IOwn w.heap.size w' r (xs ++ ys) ∧ Ext w w' := by
  have hW := hWw
  have hFF := hFw
  have hE : Ext w w := Keep.refl _ _
  refine rt_body Try.func33 rfl Try.ntmps33 rfl ?_
  refine wc_seq ?_
  refine wc_region ?_
  refine wl_val hW rfl rfl (x_assign rfl) ?_
  refine wl_nil ?_
  refine nx_then ?_
  refine wc_seq ?_
  refine wc_region ?_
  refine wl_val hW rfl rfl (x_assign rfl) ?_
  refine wl_nil ?_
  refine nx_then ?_
  refine wc_seq ?_
  refine wc_seq ?_
  refine wc_region ?_
  refine wl_val hW rfl rfl (x_move rfl) ?_
  refine wl_val hW rfl rfl (x_len Try.underlying68 rfl) ?_
  refine wl_val hW rfl rfl (x_move rfl) ?_
  refine wl_nil ?_
  refine nx_then ?_
  refine wc_block ?_
  refine wc_loop (σ := Nat) (fun s => [(0, .slice (some ⟨b, 0, none⟩) 2 2), (3, .int .i64 ((catF xs ys s).length : Nat)), (9, .slice (some ⟨b, 0, none⟩) 2 2), (10, .int .i64 ((2 : Nat) : Int)), (11, .int .i64 (s : Nat))]) (fun s w' => s ≤ 2 ∧ Ext w w') (fun s => 2 - s) 0 ?_ ?_ ?_
  · exact ⟨Nat.zero_le _, hE⟩
  · repeat (first | exact sub_nil | refine sub_cons rfl ?_)
  · rintro s wr ⟨hs, hE⟩
    replace hs : s ≤ 2 := hs
    refine wc_seq ?_
    refine wc_region ?_
    refine wl_val hW rfl rfl (x_lss rfl rfl) ?_
    refine wl_nil ?_
    refine nx_then ?_
    refine wc_seq ?_
    refine wc_dec rfl (fun hc => ?_) (fun hc => ?_)
    · replace hc : ((s : Nat) : Int) < ((2 : Nat) : Int) := hc
      have hs2 : s < 2 := by omega
      obtain ⟨v, zs, e1, e2, hz⟩ := two_at h1 h2 hs2
      have hcs := cat_succ e2
      have hle1 := cat_le xs ys (s + 1)
      rw [hcs, List.length_append] at hle1
      obtain ⟨za, zc, rfl, -, hzl⟩ := hz.form
      refine wc_skip ?_
      refine nx_then ?_
      refine wc_seq ?_
      refine wc_block ?_
      refine wc_seq ?_
      refine wc_region ?_
      refine wl_val hW rfl rfl (x_indexAddr Try.underlying68 fl25.siz rfl rfl (by omega) (by omega)) ?_
      refine wl_val hW rfl rfl (x_load fl25 rfl (by rw [Int.toNat_natCast, Nat.zero_add, Nat.mul_one]; exact (hB.ext hE).cell e1)) ?_
      refine wl_val hW rfl rfl (x_assign rfl) ?_
      refine wl_nil ?_
      refine nx_then ?_
      refine wc_seq ?_
      refine wc_region ?_
      refine wl_val hW rfl rfl (x_move rfl) ?_
      refine wl_val hW rfl rfl (x_move rfl) ?_
      refine wl_val hW rfl rfl (x_len Try.underlying25 rfl) ?_
      refine wl_val hW rfl rfl (x_addn (i := (catF xs ys s).length) (j := zs.length) rfl rfl (by omega)) ?_
      refine wl_val hW rfl rfl (x_assign rfl) ?_
      refine wl_nil ?_
      refine nx_then ?_
      refine wc_seq ?_
      refine wc_region ?_
      refine wl_val hW rfl rfl (x_move rfl) ?_
      refine wl_val hW rfl rfl (x_lssF rfl rfl (by omega)) ?_
      refine wl_nil ?_
      refine nx_then ?_
      refine wc_false rfl ?_
      refine wc_skip ?_
      refine nx_block ?_
      refine nx_then ?_
      refine wc_region ?_
      refine wl_val hW rfl rfl (x_inc (s := s) rfl (by omega)) ?_
      refine wl_val hW rfl rfl (x_move rfl) ?_
      refine wl_nil ?_
      exact nx_next (s + 1) (by omega) ⟨hs2, hE⟩ (by rw [hcs, List.length_append]; repeat (first | exact sub_nil | refine sub_cons rfl ?_))
    · have hs2 : s = 2 := by have h' : ¬ ((s : Nat) : Int) < ((2 : Nat) : Int) := hc; omega
      subst hs2
      refine wc_exit ?_
      refine nx_then_exit ?_
      refine nx_then_exit ?_
      refine nx_block_exit ?_
      refine nx_then ?_
      refine wc_seq ?_
      refine wc_region ?_
      refine wl_val hW rfl rfl (x_move rfl) ?_
      refine wl_call hW rfl rfl (x_call en41 rfl) ((C41 (n := (catF xs ys 2).length) (by have := cat_le xs ys 2; omega)).inF hFF) ?_
      have hsz := hE.size
      rintro r0 wC ⟨hO, hxC⟩
      replace hO : IOwn w.heap.size wC r0 [] := hO.rebase fun b' hb => Nat.le_trans hsz (hO.ge hb)
      replace hE := hE.trans hxC
      refine wl_val hW rfl rfl (x_assign rfl) ?_
      refine wl_nil ?_
      refine nx_then ?_
      refine wc_seq ?_
      refine wc_seq ?_
      refine wc_region ?_
      refine wl_val hW rfl rfl (x_move rfl) ?_
      refine wl_val hW rfl rfl (x_len Try.underlying68 rfl) ?_
      refine wl_val hW rfl rfl (x_move rfl) ?_
      refine wl_nil ?_
      refine nx_then ?_
      refine wc_block ?_
      refine wc_loop (σ := Nat × Value) (fun s => [(6, s.2), (25, .slice (some ⟨b, 0, none⟩) 2 2), (26, .int .i64 ((2 : Nat) : Int)), (27, .int .i64 (s.1 : Nat))]) (fun s w' => (s.1 ≤ 2 ∧ IOwn w.heap.size w' s.2 (catF xs ys s.1)) ∧ Ext w w') (fun s => 2 - s.1) (0, r0) ?_ ?_ ?_
      · exact ⟨⟨Nat.zero_le _, hO⟩, hE⟩
      · repeat (first | exact sub_nil | refine sub_cons rfl ?_)
      · rintro ⟨s, v6⟩ wr ⟨⟨hs, hO⟩, hE⟩
        replace hs : s ≤ 2 := hs
        replace hO : IOwn w.heap.size wr v6 (catF xs ys s) := hO
        refine wc_seq ?_
        refine wc_region ?_
        refine wl_val hW rfl rfl (x_lss rfl rfl) ?_
        refine wl_nil ?_
        refine nx_then ?_
        refine wc_seq ?_
        refine wc_dec rfl (fun hc => ?_) (fun hc => ?_)
        · replace hc : ((s : Nat) : Int) < ((2 : Nat) : Int) := hc
          have hs2 : s < 2 := by omega
          obtain ⟨v, zs, e1, e2, hz⟩ := two_at h1 h2 hs2
          have hcs := cat_succ e2
          have hle1 := cat_le xs ys (s + 1)
          rw [hcs, List.length_append] at hle1
          obtain ⟨za, zc, rfl, -, hzl⟩ := hz.form
          refine wc_skip ?_
          refine nx_then ?_
          refine wc_seq ?_
          refine wc_block ?_
          refine wc_seq ?_
          refine wc_region ?_
          refine wl_val hW rfl rfl (x_indexAddr Try.underlying68 fl25.siz rfl rfl (by omega) (by omega)) ?_
          refine wl_val hW rfl rfl (x_load fl25 rfl (by rw [Int.toNat_natCast, Nat.zero_add, Nat.mul_one]; exact (hB.ext hE).cell e1)) ?_
          refine wl_val hW rfl rfl (x_assign rfl) ?_
          refine wl_nil ?_
          refine nx_then ?_
          refine wc_region ?_
          refine wl_val hW rfl rfl (x_move rfl) ?_
          refine wl_val hW rfl rfl (x_move rfl) ?_
          refine wl_appG (ys := zs) Try.underlying25 info3 rfl (by decide) cellsI_len one_I hW rfl rfl rfl rfl hO rfl (grow_src cellsI_len (by decide) (hz.ext hE)) (by omega) (by decide) hE.size (fun v' wA hO' hk hv' => ?_)
          replace hE : Ext w wA := Keep.after hE hk (fun k hk' e => by have := hO.ge e.symm; omega)
          refine wl_val hW rfl rfl (x_assign rfl) ?_
          refine wl_nil ?_
          refine nx_block ?_
          refine nx_then ?_
          refine wc_region ?_
          refine wl_val hW rfl rfl (x_inc (s := s) rfl (by omega)) ?_
          refine wl_val hW rfl rfl (x_move rfl) ?_
          refine wl_nil ?_
          exact nx_next (s + 1, v') (by dsimp only; omega) ⟨⟨hs2, by dsimp only; rw [hcs]; exact hO'⟩, hE⟩ (by repeat (first | exact sub_nil | refine sub_cons rfl ?_))
        · have hs2 : s = 2 := by have h' : ¬ ((s : Nat) : Int) < ((2 : Nat) : Int) := hc; omega
          subst hs2
          rw [cat_two] at hO
          refine wc_exit ?_
          refine nx_then_exit ?_
          refine nx_then_exit ?_
          refine nx_block_exit ?_
          refine nx_then ?_
          refine wc_seq ?_
          refine wc_region ?_
          refine wl_val hW rfl rfl (x_move rfl) ?_
          refine wl_val hW rfl rfl (x_assign rfl) ?_
          refine wl_nil ?_
          refine nx_then ?_
          refine wc_ret ?_
          exact ends_ret (res_tmp Try.results33 rfl) ⟨hO, hE⟩
end Go.Proofs.Ytiaikajibefieaa.K

