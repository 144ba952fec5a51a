/- Walk: MemOrders. -/
import Derived.Test.YtblbddamebbgaaaOd
namespace Go.Proofs.Ytblbddamebbgaaa.K
open Go Go.RowKit
set_option linter.unusedVariables false
set_option linter.unusedSimpArgs false

theorem C6 {w : World} {v1 v2 vl : Value} {z1 z2 : List Int} {es : List Ent} {tn : Int} (h1 : IRow (fun k => k < w.heap.size) w v1 z1) (h2 : IRow (fun k => k < w.heap.size) w v2 z2) (hl : Row (fun k => k < w.heap.size) w vl es) :
    Rt Try.prog 6 [v1, v2, vl, .int .i64 tn] w fun r w' => r = .bool true ∧ Ext w w' := by
  obtain ⟨a1, c1, rfl, -⟩ := h1.form
  obtain ⟨a2, c2, rfl, -⟩ := h2.form
  obtain ⟨ad, cap, rfl, hcap, hlen⟩ := hl.form
  have hW := hWw
  have hFF := hFw
  have hE : Ext w w := Keep.refl _ _
  refine rt_body Try.func6 rfl Try.ntmps6 rfl ?_
  refine wc_seq ?_
  refine wc_region ?_
  refine wl_val hW rfl rfl (x_assign rfl) ?_
  refine wl_nil ?_
  refine nx_then ?_
  refine wc_seq ?_
  refine wc_seq ?_
  refine wc_region ?_
  refine wl_call hW rfl rfl (x_call en27 rfl) (C27.inF hFF) ?_
  rintro _ wC ⟨rfl, hxC⟩
  replace hE := hE.trans hxC
  refine wl_val hW rfl rfl (x_not rfl) ?_
  refine wl_nil ?_
  refine nx_then ?_
  refine wc_false rfl ?_
  refine wc_skip ?_
  refine nx_then ?_
  refine wc_seq ?_
  refine wc_seq ?_
  refine wc_cutE (σ := Bool) (fun s => [(0, .slice a1 z1.length c1), (1, .slice a2 z2.length c2), (2, .slice ad es.length cap), (3, .int .i64 tn), (35, .bool s)]) (fun s w' => Ext w w' ∧ (s = false → es.length ≤ 300 ∧ 0 < es.length)) ?_ ?_
  · refine wc_region ?_
    refine wl_val hW rfl rfl (x_move rfl) ?_
    refine wl_call hW rfl rfl (x_call en17 rfl) ((C17 (hl.ext hE)).inF hFF) ?_
    rintro _ wC ⟨⟨bb, rfl, hfew⟩, hxC⟩
    replace hE := hE.trans hxC
    refine wl_val hW rfl rfl (x_not rfl) ?_
    refine wl_val hW rfl rfl (x_move rfl) ?_
    refine wl_bcases (d := 21) rfl (fun hg21 => ?_) (fun hg21 => ?_)
    · refine wl_off hW rfl rfl ?_
      refine wl_off hW rfl rfl ?_
      refine wl_off hW rfl rfl ?_
      refine wl_val hW rfl rfl (x_pickT rfl rfl) ?_
      refine wl_val hW rfl rfl (x_move rfl) ?_
      refine wl_off hW rfl rfl ?_
      refine wl_off hW rfl rfl ?_
      refine wl_off hW rfl rfl ?_
      refine wl_val hW rfl rfl (x_pickT rfl rfl) ?_
      refine wl_val hW rfl rfl (x_move rfl) ?_
      refine wl_off hW rfl rfl ?_
      refine wl_off hW rfl rfl ?_
      refine wl_off hW rfl rfl ?_
      refine wl_val hW rfl rfl (x_pickT rfl rfl) ?_
      refine wl_nil ?_
      exact nx_cutE true (by repeat (first | exact sub_nil | refine sub_cons rfl ?_)) ⟨hE, fun h => by cases h⟩
    · refine wl_val hW rfl rfl (x_move rfl) ?_
      refine wl_val hW rfl rfl (x_len Try.underlying42 rfl) ?_
      refine wl_val hW rfl rfl (x_gtr rfl rfl) ?_
      refine wl_val hW rfl rfl (x_pickF rfl rfl) ?_
      refine wl_val hW rfl rfl (x_move rfl) ?_
      refine wl_dcases (d := 26) rfl (fun hg26 => ?_) (fun hg26 => ?_)
      · refine wl_off hW rfl rfl ?_
        refine wl_off hW rfl rfl ?_
        refine wl_off hW rfl rfl ?_
        refine wl_val hW rfl rfl (x_pickT rfl rfl) ?_
        refine wl_val hW rfl rfl (x_move rfl) ?_
        refine wl_off hW rfl rfl ?_
        refine wl_off hW rfl rfl ?_
        refine wl_off hW rfl rfl ?_
        refine wl_val hW rfl rfl (x_pickT rfl rfl) ?_
        refine wl_nil ?_
        exact nx_cutE true (by repeat (first | exact sub_nil | refine sub_cons rfl ?_)) ⟨hE, fun h => by cases h⟩
      · refine wl_val hW rfl rfl (x_move rfl) ?_
        refine wl_val hW rfl rfl (x_len Try.underlying42 rfl) ?_
        refine wl_val hW rfl rfl (x_gtr rfl rfl) ?_
        refine wl_val hW rfl rfl (x_pickF rfl rfl) ?_
        refine wl_val hW rfl rfl (x_move rfl) ?_
        refine wl_dcases (d := 31) rfl (fun hg31 => ?_) (fun hg31 => ?_)
        · refine wl_off hW rfl rfl ?_
          refine wl_off hW rfl rfl ?_
          refine wl_off hW rfl rfl ?_
          refine wl_val hW rfl rfl (x_pickT rfl rfl) ?_
          refine wl_nil ?_
          exact nx_cutE true (by repeat (first | exact sub_nil | refine sub_cons rfl ?_)) ⟨hE, fun h => by cases h⟩
        · refine wl_val hW rfl rfl (x_move rfl) ?_
          refine wl_val hW rfl rfl (x_len Try.underlying26 rfl) ?_
          refine wl_val hW rfl rfl (x_eql rfl rfl) ?_
          refine wl_val hW rfl rfl (x_pickF rfl rfl) ?_
          refine wl_nil ?_
          exact nx_cutE (decide (((es.length : Nat) : Int) = 0)) (by repeat (first | exact sub_nil | refine sub_cons rfl ?_)) ⟨hE, fun h => by have h3 := of_decide_eq_false h; have := hfew (by simpa using hg21); omega⟩
  · rintro s w' ⟨hE, hs⟩
    refine nx_then ?_
    refine wc_bool rfl (fun hc => ?_) (fun hc => ?_)
    · refine wc_seq ?_
      refine wc_region ?_
      refine wl_val hW rfl rfl (x_assign rfl) ?_
      refine wl_nil ?_
      refine nx_then ?_
      refine wc_ret ?_
      refine nx_then_ret ?_
      exact ends_ret (res_tmp Try.results6 rfl) ⟨rfl, hE⟩
    · refine wc_skip ?_
      refine nx_then ?_
      obtain ⟨hn, hpos⟩ := hs hc
      have htl : tn.tmod (es.length : Int) < es.length := Int.tmod_lt_of_pos _ (by omega)
      have htg : -(es.length : Int) < tn.tmod (es.length : Int) := Int.lt_tmod_of_pos _ (by omega)
      refine wc_seq ?_
      refine wc_region ?_
      refine wl_val hW rfl rfl (x_move rfl) ?_
      refine wl_val hW rfl rfl (x_move rfl) ?_
      refine wl_val hW rfl rfl (x_len Try.underlying26 rfl) ?_
      refine wl_val hW rfl rfl (x_rem (i := tn) (j := (es.length : Int)) rfl rfl (by omega)) ?_
      refine wl_val hW rfl rfl (x_assign rfl) ?_
      refine wl_nil ?_
      refine nx_then ?_
      refine wc_seq ?_
      refine wc_seq ?_
      refine wc_region ?_
      refine wl_val hW rfl rfl (x_move rfl) ?_
      refine wl_val hW rfl rfl (x_lss rfl rfl) ?_
      refine wl_nil ?_
      refine nx_then ?_
      refine wc_cutE (σ := Nat) (fun u => [(0, .slice a1 z1.length c1), (1, .slice a2 z2.length c2), (2, .slice ad es.length cap), (3, .int .i64 (u : Nat))]) (fun u w' => Ext w w' ∧ u < es.length) ?_ ?_
      · refine wc_dec rfl (fun hc => ?_) (fun hc => ?_)
        · refine wc_region ?_
          refine wl_val hW rfl rfl (x_move rfl) ?_
          refine wl_val hW rfl rfl (x_move rfl) ?_
          refine wl_val hW rfl rfl (x_len Try.underlying26 rfl) ?_
          obtain ⟨u, hu⟩ : ∃ u : Nat, tn.tmod (es.length : Int) + es.length = (u : Int) := ⟨(tn.tmod (es.length : Int) + es.length).toNat, by omega⟩
          refine wl_val hW rfl rfl (x_add (r := (u : Int)) rfl rfl (by rw [IntWalk.i64_in _ (by omega)]; exact hu)) ?_
          refine wl_val hW rfl rfl (x_assign rfl) ?_
          refine wl_nil ?_
          exact nx_cutE u (by repeat (first | exact sub_nil | refine sub_cons rfl ?_)) ⟨hE, by omega⟩
        · refine wc_skip ?_
          obtain ⟨u, hu⟩ : ∃ u : Nat, tn.tmod (es.length : Int) = (u : Int) := ⟨(tn.tmod (es.length : Int)).toNat, by omega⟩
          rw [hu]
          exact nx_cutE u (by repeat (first | exact sub_nil | refine sub_cons rfl ?_)) ⟨hE, by omega⟩
      · rintro u w' ⟨hE, hun⟩
        refine nx_then ?_
        refine wc_seq ?_
        refine wc_region ?_
        refine wl_val hW rfl rfl (x_assign rfl) ?_
        refine wl_nil ?_
        refine nx_then ?_
        refine wc_seq ?_
        refine wc_seq ?_
        refine wc_region ?_
        refine wl_val hW rfl rfl (x_assign rfl) ?_
        refine wl_nil ?_
        refine nx_then ?_
        refine wc_block ?_
        refine wc_loop (σ := Nat × Value) (fun s => [(0, .slice a1 z1.length c1), (1, .slice a2 z2.length c2), (2, .slice ad es.length cap), (3, .int .i64 (u : Nat)), (9, s.2), (10, .int .i64 (s.1 : Nat))]) (fun s w' => (s.1 ≤ es.length ∧ ∃ xs, OwnE (fun k => k < w.heap.size) w.heap.size w' s.2 xs ∧ xs.length ≤ s.1 ∧ Dist xs) ∧ Ext w w') (fun s => es.length - s.1) (0, .slice none 0 0) ?_ ?_ ?_
        · exact ⟨⟨Nat.zero_le _, [], own_nil _ _ _, Nat.le_refl _, List.Pairwise.nil⟩, hE⟩
        · repeat (first | exact sub_nil | refine sub_cons rfl ?_)
        · rintro ⟨s, ov⟩ wr ⟨⟨hs, xs, hO, hxl, hdi⟩, hE⟩
          replace hs : s ≤ es.length := hs
          replace hxl : xs.length ≤ s := hxl
          replace hO : OwnE (fun k => k < w.heap.size) w.heap.size wr ov xs := hO
          obtain ⟨ax, cx, rfl⟩ := hO.form
          refine wc_seq ?_
          refine wc_seq ?_
          refine wc_region ?_
          refine wl_val hW rfl rfl (x_move rfl) ?_
          refine wl_val hW rfl rfl (x_move rfl) ?_
          refine wl_val hW rfl rfl (x_len Try.underlying26 rfl) ?_
          refine wl_val hW rfl rfl (x_lss rfl rfl) ?_
          refine wl_nil ?_
          refine nx_then ?_
          refine wc_dec rfl (fun hc => ?_) (fun hc => ?_)
          · refine wc_skip ?_
            refine nx_then ?_
            refine wc_seq ?_
            refine wc_block ?_
            replace hc : ((s : Nat) : Int) < es.length := hc
            have hlt : s < es.length := by omega
            have hEr : Ext wr wr := Keep.refl _ _
            have hRx := hO.row (by omega)
            obtain ⟨b, o, cap', bv, e1, hA, hCl, hb1, hok1⟩ := (hl.ext hE).at s hlt
            cases e1
            refine wc_seq ?_
            refine wc_region ?_
            refine wl_val hW rfl rfl (x_assign rfl) ?_
            refine wl_nil ?_
            refine nx_then ?_
            refine wc_seq ?_
            refine wc_seq ?_
            refine wc_region ?_
            refine wl_val hW rfl rfl (x_assign rfl) ?_
            refine wl_nil ?_
            refine nx_then ?_
            refine wc_block ?_
            refine wc_loop (σ := Nat × Bool) (fun q => [(0, .slice a1 z1.length c1), (1, .slice a2 z2.length c2), (2, .slice (some ⟨b, o, none⟩) es.length cap), (3, .int .i64 (u : Nat)), (9, .slice ax xs.length cx), (10, .int .i64 (s : Nat)), (11, .bool q.2), (12, .int .i64 (q.1 : Nat))]) (fun q w' => (q.1 ≤ xs.length ∧ (q.2 = false → ∀ (j : Nat) (h : j < xs.length), j < q.1 → ¬ sameE xs[j] es[s])) ∧ Ext wr w') (fun q => xs.length - q.1) (0, false) ?_ ?_ ?_
            · exact ⟨⟨Nat.zero_le _, fun _ j _ h => absurd h (Nat.not_lt_zero _)⟩, hEr⟩
            · repeat (first | exact sub_nil | refine sub_cons rfl ?_)
            · rintro ⟨k, has⟩ w3 ⟨⟨hk, hno⟩, hE3⟩
              replace hk : k ≤ xs.length := hk
              replace hno : has = false → ∀ (j : Nat) (h : j < xs.length), j < k → ¬ sameE xs[j] es[s] := hno
              refine wc_seq ?_
              refine wc_seq ?_
              refine wc_region ?_
              refine wl_val hW rfl rfl (x_move rfl) ?_
              refine wl_val hW rfl rfl (x_move rfl) ?_
              refine wl_val hW rfl rfl (x_len Try.underlying26 rfl) ?_
              refine wl_val hW rfl rfl (x_lss rfl rfl) ?_
              refine wl_nil ?_
              refine nx_then ?_
              refine wc_dec rfl (fun hc => ?_) (fun hc => ?_)
              · refine wc_skip ?_
                refine nx_then ?_
                refine wc_seq ?_
                refine wc_block ?_
                replace hc : ((k : Nat) : Int) < xs.length := hc
                have hkl : k < xs.length := by omega
                refine wc_cutE (σ := Bool) (fun q => [(0, .slice a1 z1.length c1), (1, .slice a2 z2.length c2), (2, .slice (some ⟨b, o, none⟩) es.length cap), (3, .int .i64 (u : Nat)), (9, .slice ax xs.length cx), (10, .int .i64 (s : Nat)), (11, .bool q), (12, .int .i64 (k : Nat))]) (fun q w' => Ext wr w' ∧ (q = false → ∀ (j : Nat) (h : j < xs.length), j < k + 1 → ¬ sameE xs[j] es[s])) ?_ ?_
                · refine wc_draw' 10 hW mixed (by kernel_rfl) (fun w0 hx0 => ?_)
                  replace hE3 := hE3.trans hx0
                  refine q_val rfl rfl (fun _ hx => x_move rfl) ?_
                  refine q_val rfl rfl (fun _ hx => x_move rfl) ?_
                  refine q_bcases (d := 59) rfl (fun hg59 => ?_) (fun hg59 => ?_)
                  · refine q_off rfl rfl ?_
                    refine q_off rfl rfl ?_
                    refine q_off rfl rfl ?_
                    refine q_off rfl rfl ?_
                    refine q_off rfl rfl ?_
                    refine q_off rfl rfl ?_
                    refine q_off rfl rfl ?_
                    refine q_off rfl rfl ?_
                    refine q_nil (tail0 (fun wt hxt => ?_))
                    replace hE3 := hE3.trans hxt
                    refine wl_off hW rfl rfl ?_
                    refine wl_off hW rfl rfl ?_
                    refine wl_val hW rfl rfl (x_pickT rfl rfl) ?_
                    refine wl_val hW rfl rfl (x_assign rfl) ?_
                    refine wl_nil ?_
                    exact nx_cutE true (by repeat (first | exact sub_nil | refine sub_cons rfl ?_)) ⟨hE3, fun h => by cases h⟩
                  · obtain ⟨b3, o3, cap3, bv3, e3, -, hC62, -, -⟩ := (hRx.ext hE3).at k hkl
                    cases e3
                    have hC66 := hCl.ext hE3
                    refine q_val rfl rfl (fun _ hx => x_move rfl) ?_
                    refine q_val rfl rfl (fun _ hx => x_move rfl) ?_
                    refine q_val rfl rfl (fun _ hx => x_indexAddr Try.underlying26 ag25.siz rfl rfl (by omega) (by omega)) ?_
                    refine q_val rfl rfl (fun _ hx => x_loadA ag25 rfl (hC62.ext hx) rfl) ?_
                    refine q_val rfl rfl (fun _ hx => x_move rfl) ?_
                    refine q_val rfl rfl (fun _ hx => x_move rfl) ?_
                    refine q_val rfl rfl (fun _ hx => x_indexAddr Try.underlying26 ag25.siz rfl rfl (by omega) (by omega)) ?_
                    refine q_val rfl rfl (fun _ hx => x_loadA ag25 rfl (hC66.ext hx) rfl) ?_
                    refine q_nil (tail0 (fun wt hxt => ?_))
                    replace hE3 := hE3.trans hxt
                    refine wl_call hW rfl rfl (x_call en19 rfl) (C19.inF hFF) ?_
                    rintro _ wC ⟨rfl, hxC⟩
                    replace hE3 := hE3.trans hxC
                    refine wl_val hW rfl rfl (x_eql rfl rfl) ?_
                    refine wl_val hW rfl rfl (x_pickF rfl rfl) ?_
                    refine wl_val hW rfl rfl (x_assign rfl) ?_
                    refine wl_nil ?_
                    exact nx_cutE (decide (cmpE xs[k] es[s] = 0)) (by repeat (first | exact sub_nil | refine sub_cons rfl ?_)) ⟨hE3, fun h j hj hjk => by rcases Nat.lt_succ_iff_lt_or_eq.1 hjk with hjk | rfl; exact hno hg59 j hj hjk; exact fun hs => of_decide_eq_false h (cmpE_zero.2 hs)⟩
                · rintro has2 w' ⟨hE3, hno2⟩
                  refine nx_block ?_
                  refine nx_then ?_
                  refine wc_region ?_
                  refine wl_val hW rfl rfl (x_move rfl) ?_
                  refine wl_val hW rfl rfl (x_inc (s := k) rfl (by omega)) ?_
                  refine wl_val hW rfl rfl (x_assign rfl) ?_
                  refine wl_nil ?_
                  exact nx_next (k + 1, has2) (by dsimp only; omega) ⟨⟨hkl, hno2⟩, hE3⟩ (by repeat (first | exact sub_nil | refine sub_cons rfl ?_))
              · refine wc_exit ?_
                refine nx_then_exit ?_
                refine nx_then_exit ?_
                refine nx_block_exit ?_
                refine nx_then ?_
                replace hc : ¬ ((k : Nat) : Int) < xs.length := hc
                have hkx : k = xs.length := by omega
                replace hE := hE.trans hE3
                refine wc_seq ?_
                refine wc_region ?_
                refine wl_val hW rfl rfl (x_move rfl) ?_
                refine wl_val hW rfl rfl (x_not rfl) ?_
                refine wl_nil ?_
                refine nx_then ?_
                refine wc_bool rfl (fun hc => ?_) (fun hc => ?_)
                · have hnot : ∀ x ∈ xs, ¬ sameE x es[s] := fun x hx => by obtain ⟨j, hj, rfl⟩ := List.getElem_of_mem hx; exact hno (by simpa using hc) j hj (by omega)
                  refine wc_region ?_
                  refine wl_val hW rfl rfl (x_move rfl) ?_
                  refine wl_val hW rfl rfl (x_move rfl) ?_
                  refine wl_val hW rfl rfl (x_move rfl) ?_
                  refine wl_val hW rfl rfl (x_indexAddr Try.underlying26 ag25.siz rfl rfl (by omega) (by omega)) ?_
                  have hC76 := hCl.ext hE3
                  refine wl_val hW rfl rfl (x_loadA ag25 rfl hC76 rfl) ?_
                  refine wl_buildSlice (parts := [(0, .tmp 77)]) hW rfl rfl Try.underlying26 ag25.siz Try.zeroValue25 rfl rfl rfl (by omega) ?_
                  intro b78 w78 hl78 hB78 hx78
                  have g78 : w.heap.size ≤ b78 := Nat.le_trans hE.size hl78
                  replace hE := hE.trans hx78
                  have hsz := hE.size
                  have hO78 := hO.ext (hE3.trans hx78)
                  have hb78 := (hb1.ext hE3).ext hx78
                  refine wl_append1 hW rfl rfl rfl rfl hO78 (by omega) (show Blk _ _ (cellsOf es[s] bv) 25 from hB78) (hb78.mono (fun k _ h => ⟨h, fun e => by have := hO78.lt _ e.symm; omega⟩)) hok1 hsz ?_
                  intro v79 wA hO2 hkA hcA
                  replace hE := Keep.rowed hE hkA (fun b h => (hO78.lt b h).1)
                  refine wl_val hW rfl rfl (x_assign rfl) ?_
                  refine wl_nil ?_
                  refine nx_block ?_
                  refine nx_then ?_
                  refine wc_region ?_
                  refine wl_val hW rfl rfl (x_move rfl) ?_
                  refine wl_val hW rfl rfl (x_inc (s := s) rfl (by omega)) ?_
                  refine wl_val hW rfl rfl (x_assign rfl) ?_
                  refine wl_nil ?_
                  exact nx_next (s + 1, v79) (by dsimp only; omega) ⟨⟨hlt, xs ++ [es[s]], hO2, by simp only [List.length_append, List.length_cons, List.length_nil]; omega, List.pairwise_append.2 ⟨hdi, List.pairwise_singleton _ _, fun x hx y hy => by simp at hy; subst hy; exact hnot x hx⟩⟩, hE⟩ (by repeat (first | exact sub_nil | refine sub_cons rfl ?_))
                · refine wc_skip ?_
                  refine nx_block ?_
                  refine nx_then ?_
                  refine wc_region ?_
                  refine wl_val hW rfl rfl (x_move rfl) ?_
                  refine wl_val hW rfl rfl (x_inc (s := s) rfl (by omega)) ?_
                  refine wl_val hW rfl rfl (x_assign rfl) ?_
                  refine wl_nil ?_
                  exact nx_next (s + 1, .slice ax xs.length cx) (by dsimp only; omega) ⟨⟨hlt, xs, hO.ext hE3, by dsimp only; omega, hdi⟩, hE⟩ (by repeat (first | exact sub_nil | refine sub_cons rfl ?_))
          · refine wc_exit ?_
            have hE0 := hE
            have hsz0 := hE0.size
            have hRx := (hO.row (by omega)).mono (A' := fun k => k < wr.heap.size) fun k hk _ => hk
            replace h1 := h1.ext hE0
            replace h2 := h2.ext hE0
            replace hE : Ext wr wr := Keep.refl _ _
            refine nx_then_exit ?_
            refine nx_then_exit ?_
            refine nx_block_exit ?_
            refine nx_then ?_
            refine wc_seq ?_
            refine wc_region ?_
            refine wl_val hW rfl rfl (x_move rfl) ?_
            refine wl_call hW rfl rfl (x_call en28 rfl) ((C28 (h1.ext hE)).inF hFF) ?_
            rintro _ wC ⟨⟨ba, ha, da, rfl, hTa0⟩, hxC⟩
            replace hE := hE.trans hxC
            have hTa1 := hTa0.bound
            have hszC := hxC.size
            refine wl_val hW rfl rfl (x_assign rfl) ?_
            refine wl_nil ?_
            refine nx_then ?_
            refine wc_seq ?_
            refine wc_region ?_
            refine wl_val hW rfl rfl (x_move rfl) ?_
            refine wl_call hW rfl rfl (x_call en28 rfl) ((C28 (h2.ext hE)).inF hFF) ?_
            rintro _ wD ⟨⟨bb', hb', db, rfl, hTb0⟩, hxD⟩
            replace hE := hE.trans hxD
            have hTw0 : Two wr.heap.size wD ba bb' ⟨ba, ha, [], 0, 0, da, z1, 0⟩ ⟨bb', hb', [], 0, 0, db, z2, 0⟩ := two_new hTa1 hxD hTb0 hszC
            refine wl_val hW rfl rfl (x_assign rfl) ?_
            refine wl_nil ?_
            refine nx_then ?_
            refine wc_seq ?_
            refine wc_seq ?_
            refine wc_cut [(3, .int .i64 (u : Nat)), (9, .slice ax xs.length cx), (13, .pointer (some ⟨ba, 0, none⟩)), (14, .pointer (some ⟨bb', 0, none⟩)), (89, .bool false)] (fun w' => w' = wD) ?_ ?_
            · refine wc_region ?_
              refine wl_val hW rfl rfl (x_move rfl) ?_
              refine wl_val hW rfl rfl (x_peq Try.underlying43 some114 rfl rfl) ?_
              refine wl_val hW rfl rfl (x_move rfl) ?_
              refine wl_val hW rfl rfl (x_move rfl) ?_
              refine wl_val hW rfl rfl (x_peq Try.underlying43 some114 rfl rfl) ?_
              refine wl_val hW rfl rfl (x_pickF rfl rfl) ?_
              refine wl_nil ?_
              exact nx_cut (by repeat (first | exact sub_nil | refine sub_cons rfl ?_)) rfl
            · rintro w' rfl
              refine nx_then ?_
              refine wc_false rfl ?_
              refine wc_skip ?_
              refine nx_then ?_
              refine wc_seq ?_
              refine wc_seq ?_
              refine wc_region ?_
              refine wl_val hW rfl rfl (x_assign rfl) ?_
              refine wl_nil ?_
              refine nx_then ?_
              refine wc_block ?_
              refine wc_loop (σ := Nat) (fun i => [(3, .int .i64 (u : Nat)), (9, .slice ax xs.length cx), (13, .pointer (some ⟨ba, 0, none⟩)), (14, .pointer (some ⟨bb', 0, none⟩)), (15, .int .i64 (i : Nat))]) (fun i w' => (i ≤ xs.length ∧ ∃ ta tb, Two wr.heap.size w' ba bb' ta tb ∧ ta.E = insAll (xs.take i) ∧ tb.E = insAll ((rot xs u).take i) ∧ ta.ns.length ≤ i ∧ tb.ns.length ≤ i) ∧ Ext wr w') (fun i => xs.length - i) 0 ?_ ?_ ?_
              · exact ⟨⟨Nat.zero_le _, _, _, hTw0, rfl, rfl, Nat.le_refl _, Nat.le_refl _⟩, hE⟩
              · repeat (first | exact sub_nil | refine sub_cons rfl ?_)
              · rintro i w4 ⟨⟨hi, ta, tb, hTw, hEa, hEb, hla, hlb⟩, hE⟩
                refine wc_seq ?_
                refine wc_seq ?_
                refine wc_region ?_
                refine wl_val hW rfl rfl (x_move rfl) ?_
                refine wl_val hW rfl rfl (x_move rfl) ?_
                refine wl_val hW rfl rfl (x_len Try.underlying26 rfl) ?_
                refine wl_val hW rfl rfl (x_lss rfl rfl) ?_
                refine wl_nil ?_
                refine nx_then ?_
                refine wc_dec rfl (fun hc => ?_) (fun hc => ?_)
                · refine wc_skip ?_
                  refine nx_then ?_
                  refine wc_seq ?_
                  refine wc_block ?_
                  refine wc_seq ?_
                  refine wc_region ?_
                  have hil : i < xs.length := by omega
                  obtain ⟨b5, o5, cap5, bv5, e5, hA5, hC99, hb5, hok5⟩ := (hRx.ext hE).at i hil
                  cases e5
                  refine wl_val hW rfl rfl (x_move rfl) ?_
                  refine wl_val hW rfl rfl (x_move rfl) ?_
                  refine wl_val hW rfl rfl (x_move rfl) ?_
                  refine wl_val hW rfl rfl (x_indexAddr Try.underlying26 ag25.siz rfl rfl (by omega) (by omega)) ?_
                  refine wl_val hW rfl rfl (x_loadA ag25 rfl hC99 rfl) ?_
                  refine wl_call hW rfl rfl (x_call en29 rfl) ((hTw.put hb5 hok5 (by omega) hE.size).inF hFF) ?_
                  rintro _ wE ⟨ta2, hTw2, hEa2, hla2, hk2⟩
                  replace hE := Keep.after hE hk2 (fun k h => h)
                  refine wl_nil ?_
                  refine nx_then ?_
                  refine wc_region ?_
                  have hml : (i + u) % xs.length < xs.length := Nat.mod_lt _ (by omega)
                  obtain ⟨b6, o6, cap6, bv6, e6, hA6, hC110, hb6, hok6⟩ := (hRx.ext hE).at ((i + u) % xs.length) hml
                  cases e6
                  refine wl_val hW rfl rfl (x_move rfl) ?_
                  refine wl_val hW rfl rfl (x_move rfl) ?_
                  refine wl_val hW rfl rfl (x_move rfl) ?_
                  refine wl_val hW rfl rfl (x_move rfl) ?_
                  refine wl_val hW rfl rfl (x_addn (i := i) (j := u) rfl rfl (by omega)) ?_
                  refine wl_val hW rfl rfl (x_move rfl) ?_
                  refine wl_val hW rfl rfl (x_len Try.underlying26 rfl) ?_
                  refine wl_val hW rfl rfl (x_rem (i := ((i + u : Nat) : Int)) (j := (xs.length : Int)) rfl rfl (by omega)) ?_
                  refine wl_val hW rfl rfl (x_indexAddr Try.underlying26 ag25.siz rfl rfl (by rw [← Int.ofNat_tmod]; omega) (by rw [← Int.ofNat_tmod]; omega)) ?_
                  refine wl_val hW rfl rfl (x_loadA ag25 rfl (by rw [← Int.ofNat_tmod, Int.toNat_natCast]; exact hC110) rfl) ?_
                  refine wl_call hW rfl rfl (x_call en29 rfl) ((hTw2.swap.put hb6 hok6 (by omega) hE.size).inF hFF) ?_
                  rintro _ wF ⟨tb2, hTw3, hEb2, hlb2, hk3⟩
                  replace hE := Keep.after hE hk3 (fun k h => h)
                  refine wl_nil ?_
                  refine nx_block ?_
                  refine nx_then ?_
                  refine wc_region ?_
                  refine wl_val hW rfl rfl (x_move rfl) ?_
                  refine wl_val hW rfl rfl (x_inc (s := i) rfl (by omega)) ?_
                  refine wl_val hW rfl rfl (x_assign rfl) ?_
                  refine wl_nil ?_
                  have hrl := rot_len xs u
                  exact nx_next (i + 1) (by omega) ⟨⟨hil, ta2, tb2, hTw3.swap, by rw [hEa2, hEa, insAll_take hil], by rw [hEb2, hEb, insAll_take (by omega), rot_get (by omega) hml], by omega, by omega⟩, hE⟩ (by repeat (first | exact sub_nil | refine sub_cons rfl ?_))
                · refine wc_exit ?_
                  refine nx_then_exit ?_
                  refine nx_then_exit ?_
                  refine nx_block_exit ?_
                  refine nx_then ?_
                  refine wc_seq ?_
                  have hix : i = xs.length := by omega
                  have hrl := rot_len xs u
                  have hab : ta.E = tb.E := rot_same hdi (by rw [hEa, hix, List.take_length]) (by rw [hEb, hix, ← hrl, List.take_length]) hTw.a.sorted hTw.b.sorted
                  refine wc_cut [(8, .bool true)] (fun w' => Ext wr w') ?_ ?_
                  · refine wc_region ?_
                    refine wl_val hW rfl rfl (x_move rfl) ?_
                    refine wl_call hW rfl rfl (x_call en30 rfl) ((hTw.a.all (by omega)).inF hFF) ?_
                    rintro ra wG ⟨hRa, hxG⟩
                    replace hE := hE.trans hxG
                    refine wl_val hW rfl rfl (x_move rfl) ?_
                    refine wl_call hW rfl rfl (x_call en30 rfl) (((hTw.b.ext hxG).all (by omega)).inF hFF) ?_
                    rintro rb wH ⟨hRb, hxH⟩
                    replace hE := hE.trans hxH
                    have hxX := hxG.trans hxH
                    refine wl_call hW rfl rfl (x_call en24 rfl) ((C24r (A := fun _ => True) ((hRa.ext hxH).mono fun _ _ _ => trivial) (hRb.mono fun _ _ _ => trivial) hab).inF hFF) ?_
                    rintro _ wC ⟨rfl, hxC⟩
                    replace hE := hE.trans hxC
                    replace hxX := hxX.trans hxC
                    refine wl_val hW rfl rfl (x_move rfl) ?_
                    refine wl_val hW rfl rfl (x_move rfl) ?_
                    refine wl_call hW rfl rfl (x_call en31 rfl) (((hTw.a.ext hxX).len).inF hFF) ?_
                    rintro _ wC ⟨rfl, hxC⟩
                    replace hE := hE.trans hxC
                    replace hxX := hxX.trans hxC
                    refine wl_val hW rfl rfl (x_move rfl) ?_
                    refine wl_call hW rfl rfl (x_call en31 rfl) (((hTw.b.ext hxX).len).inF hFF) ?_
                    rintro _ wC ⟨rfl, hxC⟩
                    replace hE := hE.trans hxC
                    replace hxX := hxX.trans hxC
                    refine wl_val hW rfl rfl (x_eqlT rfl rfl (by rw [hab])) ?_
                    refine wl_val hW rfl rfl (x_pickT rfl rfl) ?_
                    refine wl_val hW rfl rfl (x_move rfl) ?_
                    refine wl_val hW rfl rfl (x_move rfl) ?_
                    refine wl_call hW rfl rfl (x_call en32 rfl) (((hTw.a.ext hxX).size).inF hFF) ?_
                    rintro _ wC ⟨rfl, hxC⟩
                    replace hE := hE.trans hxC
                    replace hxX := hxX.trans hxC
                    refine wl_val hW rfl rfl (x_move rfl) ?_
                    refine wl_call hW rfl rfl (x_call en32 rfl) (((hTw.b.ext hxX).size).inF hFF) ?_
                    rintro _ wC ⟨rfl, hxC⟩
                    replace hE := hE.trans hxC
                    replace hxX := hxX.trans hxC
                    refine wl_val hW rfl rfl (x_eqlT rfl rfl (by rw [hab])) ?_
                    refine wl_val hW rfl rfl (x_pickT rfl rfl) ?_
                    refine wl_val hW rfl rfl (x_move rfl) ?_
                    refine wl_val hW rfl rfl (x_move rfl) ?_
                    refine wl_call hW rfl rfl (x_call en30 rfl) (((hTw.a.ext hxX).all (by omega)).inF hFF) ?_
                    rintro rr wI ⟨hRr, hxI⟩
                    replace hE := hE.trans hxI
                    refine wl_call hW rfl rfl (x_call en21 rfl) ((C21t hRr hTw.a.right).inF hFF) ?_
                    rintro _ wC ⟨rfl, hxC⟩
                    replace hE := hE.trans hxC
                    refine wl_val hW rfl rfl (x_pickT rfl rfl) ?_
                    refine wl_val hW rfl rfl (x_assign rfl) ?_
                    refine wl_nil ?_
                    exact nx_cut (by repeat (first | exact sub_nil | refine sub_cons rfl ?_)) hE
                  · rintro w' hE
                    refine nx_then ?_
                    refine wc_ret ?_
                    exact ends_ret (res_tmp Try.results6 rfl) ⟨rfl, hE0.trans hE⟩
end Go.Proofs.Ytblbddamebbgaaa.K

