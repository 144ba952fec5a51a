/- Walk: Stripe. -/
import Derived.Test.YtiaikajibefieaaTz
namespace Go.Proofs.Ytiaikajibefieaa.K
open Go Go.RowKit
set_option linter.unusedVariables false
set_option linter.unusedSimpArgs false
theorem C19 {A : Nat → Prop} {w : World} {ca : Option Addr} {cn cc : Nat} {sv : Value} {e : Int} {st : Nat} {n : Int} {zs : List Int} (hI : IRow A w sv zs) (hz : zs.length ≤ 16) :
    Rt Try.prog 19 [.agg #[.int .i64 e, .slice ca cn cc, sv], .int .u64 (st : Nat), .int .i64 n] w fun r w' => (∃ v, r = .tuple #[v, .int .i64 (stripeE zs n)] ∧ (stripeE zs n = 0 → IRow (fun k => w.heap.size ≤ k) w' v ((rot zs (st % zs.length)).take n.toNat))) ∧ Ext w w' := by
  obtain ⟨sa, sc, rfl, hsc, hsl⟩ := hI.form
  have hW := hWw
  have hFF := hFw
  have hE : Ext w w := Keep.refl _ _
  refine rt_body Try.func19 rfl Try.ntmps19 rfl ?_
  refine wc_seq ?_
  refine wc_region ?_
  refine wl_box hW rfl rfl rfl rfl ?_
  intro b3 w3 hl3 hB3 hx3
  have g3 : w.heap.size ≤ b3 := Nat.le_trans hE.size hl3
  replace hE := hE.trans hx3
  refine wl_val hW rfl rfl (x_assign rfl) ?_
  refine wl_val hW rfl rfl (x_assign rfl) ?_
  refine wl_nil ?_
  refine nx_then ?_
  refine wc_seq ?_
  refine wc_block ?_
  refine wc_seq ?_
  refine wc_cut [(1, .int .u64 (st : Nat)), (2, .int .i64 n), (3, .pointer (some ⟨b3, 0, none⟩)), (9, .bool (decide (n < 1 ∨ 255 < n)))] (fun w' => w' = w3) ?_ ?_
  · refine wc_region ?_
    refine wl_val hW rfl rfl (x_move rfl) ?_
    refine wl_val hW rfl rfl (x_lss rfl rfl) ?_
    refine wl_val hW rfl rfl (x_move rfl) ?_
    refine wl_dcases (d := 12) rfl (fun hg12 => ?_) (fun hg12 => ?_)
    · refine wl_off hW rfl rfl ?_
      refine wl_off hW rfl rfl ?_
      refine wl_val hW rfl rfl (x_pickT rfl rfl) ?_
      refine wl_val hW rfl rfl (x_assign rfl) ?_
      refine wl_nil ?_
      exact nx_cut (by rw [show decide (n < 1 ∨ 255 < n) = true from decide_eq_true (.inl hg12)]; repeat (first | exact sub_nil | refine sub_cons rfl ?_)) rfl
    · refine wl_val hW rfl rfl (x_move rfl) ?_
      refine wl_val hW rfl rfl (x_gtr rfl rfl) ?_
      refine wl_val hW rfl rfl (x_pickF rfl rfl) ?_
      refine wl_val hW rfl rfl (x_assign rfl) ?_
      refine wl_nil ?_
      exact nx_cut (by rw [show decide (n < 1 ∨ 255 < n) = decide (255 < n) from decide_eq_decide.2 ⟨fun h => h.resolve_left hg12, .inr⟩]; repeat (first | exact sub_nil | refine sub_cons rfl ?_)) rfl
  · intro wX hwX
    obtain rfl : w3 = wX := hwX.symm
    refine nx_then ?_
    refine wc_bool rfl (fun hc => ?_) (fun hc => ?_)
    · have hS : stripeE zs n = 1 := by unfold stripeE; rw [if_pos (of_decide_eq_true hc)]
      refine wc_seq ?_
      refine wc_region ?_
      refine wl_val hW rfl rfl (x_assign rfl) ?_
      refine wl_val hW rfl rfl (x_assign rfl) ?_
      refine wl_nil ?_
      refine nx_then ?_
      refine wc_ret ?_
      refine nx_block_ret ?_
      refine nx_then_ret ?_
      exact ends_ret (res_tmp2 Try.results19 rfl rfl) ⟨⟨_, by rw [hS], fun h => by rw [hS] at h; exact absurd h (by decide)⟩, hE⟩
    · have hn0 : ¬ (n < 1 ∨ 255 < n) := of_decide_eq_false hc
      refine wc_seq ?_
      refine wc_region ?_
      refine wl_val hW rfl rfl (x_fieldAddr Try.underlying27 rfl fl25.siz rfl) ?_
      refine wl_val hW rfl rfl (x_load fl25 rfl (hB3.cell (o := 2) rfl)) ?_
      refine wl_val hW rfl rfl (x_len Try.underlying25 rfl) ?_
      refine wl_val hW rfl rfl (x_move rfl) ?_
      refine wl_val hW rfl rfl (x_lss rfl rfl) ?_
      refine wl_val hW rfl rfl (x_assign rfl) ?_
      refine wl_nil ?_
      refine nx_then ?_
      refine wc_dec rfl (fun hc => ?_) (fun hc => ?_)
      · have hS : stripeE zs n = 23 := by unfold stripeE; rw [if_neg hn0, if_pos hc]
        refine wc_seq ?_
        refine wc_region ?_
        refine wl_val hW rfl rfl (x_assign rfl) ?_
        refine wl_val hW rfl rfl (x_assign rfl) ?_
        refine wl_nil ?_
        refine nx_then ?_
        refine wc_ret ?_
        refine nx_block_ret ?_
        refine nx_then_ret ?_
        exact ends_ret (res_tmp2 Try.results19 rfl rfl) ⟨⟨_, by rw [hS], fun h => by rw [hS] at h; exact absurd h (by decide)⟩, hE⟩
      · have hn2 : ¬ (zs.length : Int) < n := hc
        have hS : stripeE zs n = 0 := by unfold stripeE; rw [if_neg hn0, if_neg hn2]
        obtain ⟨k, rfl⟩ : ∃ k : Nat, n = k := ⟨n.toNat, by omega⟩
        have hzp : 0 < zs.length := by omega
        have hat : st % zs.length < zs.length := Nat.mod_lt _ hzp
        obtain ⟨at0, hatd⟩ : ∃ a, a = st % zs.length := ⟨_, rfl⟩
        rw [← hatd] at hat
        refine wc_skip ?_
        refine nx_block ?_
        refine nx_then ?_
        refine wc_seq ?_
        refine wc_region ?_
        refine wl_val hW rfl rfl (x_move rfl) ?_
        refine wl_val hW rfl rfl (x_fieldAddr Try.underlying27 rfl fl25.siz rfl) ?_
        refine wl_val hW rfl rfl (x_load fl25 rfl (hB3.cell (o := 2) rfl)) ?_
        refine wl_val hW rfl rfl (x_len Try.underlying25 rfl) ?_
        refine wl_val hW rfl rfl (x_convU Try.underlying3 Try.underlying46 rfl (by omega)) ?_
        refine wl_val hW rfl rfl (x_remn (i := st) (j := zs.length) rfl rfl hzp) ?_
        rw [← hatd]
        refine wl_val hW rfl rfl (x_convI Try.underlying46 Try.underlying3 rfl (by omega)) ?_
        refine wl_val hW rfl rfl (x_assign rfl) ?_
        refine wl_nil ?_
        refine nx_then ?_
        refine wc_seq ?_
        refine wc_draw' 12 hW mixed (by kernel_rfl) (fun w0 hx0 => ?_)
        replace hB3 := hB3.ext hx0
        replace hE := hE.trans hx0
        have hI0 := hI.ext hE
        have hS1 : IRow A w0 (.slice (if sc = at0 then sa else sa.map (·.add (at0 * 1))) (zs.length - at0) (sc - at0)) (zs.drop at0) := by have := hI0.slice (i := at0) (j := zs.length) (c' := sc - at0) (Nat.le_refl _) (by omega) (by omega) (ad' := if sc = at0 then sa else sa.map (·.add (at0 * 1))) (fun _ => by rw [if_neg (by omega)]); rwa [List.take_length] at this
        have hS2 : IRow A w0 (.slice (if sc = 0 then sa else sa.map (·.add (0 * 1))) (at0 - 0) (sc - 0)) (zs.take at0) := hI0.slice (i := 0) (j := at0) (c' := sc - 0) (by omega) (by omega) (by omega) (ad' := if sc = 0 then sa else sa.map (·.add (0 * 1))) (fun _ => by rw [if_neg (by omega)])
        refine q_val rfl rfl (fun _ hx => x_fieldAddr Try.underlying27 rfl fl25.siz rfl) ?_
        refine q_val rfl rfl (fun _ hx => x_load fl25 rfl (hx.cell (hB3.cell (o := 2) rfl))) ?_
        refine q_val rfl rfl (fun _ hx => x_move rfl) ?_
        refine q_val rfl rfl (fun _ hx => x_slicel (i := at0) Try.underlying25 fl3.siz rfl rfl (by omega)) ?_
        refine q_val rfl rfl (fun _ hx => x_fieldAddr Try.underlying27 rfl fl25.siz rfl) ?_
        refine q_val rfl rfl (fun _ hx => x_load fl25 rfl (hx.cell (hB3.cell (o := 2) rfl))) ?_
        refine q_val rfl rfl (fun _ hx => x_move rfl) ?_
        refine q_val rfl rfl (fun _ hx => x_sliceh (j := at0) Try.underlying25 fl3.siz rfl rfl (by omega)) ?_
        refine q_buildV (parts := [(0, .tmp 32), (1, .tmp 36)]) rfl rfl rfl Try.underlying68 fl25.siz Try.zeroValue25 rfl rfl rfl (by decide) ?_
        refine q_callvp (args := fun u => #[u]) (p := fun v w' => IOwn w.heap.size w' v (rot zs at0)) (fun v w1 w2 h hx => h.ext hx) rfl rfl rfl (List.mem_cons_self ..) (List.mem_append_left _ (List.mem_filterMap.2 ⟨.tmp 37, by simp [Op.operands, Call.operands], rfl⟩)) (fun w' u => x_call en33 rfl) (fun w' u hw ⟨b', h1, h2⟩ => ?_) ?_
        · subst h1
          refine Rt.inF hFF (Rt.mono (C33 h2 (hS1.ext hw) (hS2.ext hw) (by rw [List.length_drop, List.length_take]; omega)) ?_)
          rintro r w2 ⟨h3, h4⟩
          exact ⟨h3.rebase fun b hb => Nat.le_trans (Nat.le_trans hE.size hw.size) (h3.ge hb), h4⟩
        refine q_val rfl rfl (fun _ hx => x_move rfl) ?_
        refine q_val rfl rfl (fun _ hx => x_move rfl) ?_
        refine q_nil (tailm (List.mem_cons_self ..) (fun wt vr hxt hO => ?_))
        replace hB3 := hB3.ext hxt
        replace hE := hE.trans hxt
        replace hO : IOwn w.heap.size wt vr (rot zs at0) := hO
        have hrl : (rot zs at0).length = zs.length := by unfold rot; rw [List.length_append, List.length_drop, List.length_take]; omega
        have hR := hO.row cellsI_len (by omega)
        obtain ⟨ra, rc, rfl, hrc, -⟩ := hR.form
        refine wl_val hW rfl rfl (x_slicehm (k := k) Try.underlying25 fl3.siz rfl rfl rfl (by omega)) ?_
        refine wl_val hW rfl rfl (x_assign rfl) ?_
        refine wl_val hW rfl rfl (x_assign rfl) ?_
        refine wl_nil ?_
        refine nx_then ?_
        refine wc_ret ?_
        exact ends_ret (res_tmp2 Try.results19 rfl rfl) ⟨⟨_, by rw [hS], fun _ => by rw [Int.toNat_natCast]; exact hR.slice (i := 0) (j := k) (c' := k - 0) (by omega) (by omega) (by omega) (fun _ => by rw [if_neg (by omega)])⟩, hE⟩
end Go.Proofs.Ytiaikajibefieaa.K

