/- Walks: the document's merging; Merge; the law MergeLists. -/
import Derived.Test.YtblbddamebbgaaaHa
import Derived.Test.YtblbddamebbgaaaKn
namespace Go.Proofs.Ytblbddamebbgaaa.K
open Go Go.RowKit
set_option linter.unusedVariables false
set_option linter.unusedSimpArgs false

theorem C75 {w : World} {v u : Value} {a b : List Ent} (hR : Row (fun k => k < w.heap.size) w v a) (hS : Row (fun k => k < w.heap.size) w u b) (hab : a.length + b.length ≤ 1099511627000) :
    Rt Try.prog 75 [v, u] w fun r w' => Row (fun _ => True) w' r (twoF (a.length + b.length) a b) ∧ Ext w w' := by
  obtain ⟨ad, cap, rfl, hcap, hlen⟩ := hR.form
  obtain ⟨ad2, cap2, rfl, hcap2, hlen2⟩ := hS.form
  have hW := hWw
  have hFF := hFw
  have hE : Ext w w := Keep.refl _ _
  refine rt_body Try.func75 rfl Try.ntmps75 rfl ?_
  refine wc_seq ?_
  refine wc_region ?_
  refine wl_val hW rfl rfl (x_assign rfl) ?_
  refine wl_nil ?_
  refine nx_then ?_
  refine wc_seq ?_
  refine wc_region ?_
  refine wl_val hW rfl rfl (x_assign rfl) ?_
  refine wl_nil ?_
  refine nx_then ?_
  refine wc_seq ?_
  refine wc_region ?_
  refine wl_val hW rfl rfl (x_assign rfl) ?_
  refine wl_nil ?_
  refine nx_then ?_
  refine wc_seq ?_
  refine wc_region ?_
  refine wl_val hW rfl rfl (x_assign rfl) ?_
  refine wl_nil ?_
  refine nx_then ?_
  refine wc_seq ?_
  refine wc_block ?_
  refine wc_loop (σ := Value × Nat × Nat) (fun s => [(0, .slice ad a.length cap), (1, .slice ad2 b.length cap2), (5, s.1), (6, .int .i64 s.2.1), (7, .int .i64 s.2.2)]) (fun s w' => (s.2.1 ≤ a.length ∧ s.2.2 ≤ b.length ∧ ∃ coll n, OwnE (fun k => k < w.heap.size) w.heap.size w' s.1 coll ∧ coll.length ≤ s.2.1 + s.2.2 ∧ (a.length - s.2.1) + (b.length - s.2.2) ≤ n ∧ coll ++ twoF n (a.drop s.2.1) (b.drop s.2.2) = twoF (a.length + b.length) a b) ∧ Ext w w') (fun s => (a.length - s.2.1) + (b.length - s.2.2)) (.slice none 0 0, 0, 0) ?_ ?_ ?_
  · exact ⟨⟨Nat.zero_le _, Nat.zero_le _, [], _, own_nil _ _ _, by simp, Nat.le_refl _, by simp⟩, hE⟩
  · repeat (first | exact sub_nil | refine sub_cons rfl ?_)
  · rintro ⟨ov, i, k⟩ wr ⟨⟨hi, hk, coll, n, hO, hcl, hn, hco⟩, hEw⟩
    dsimp only at hi hk hO hcl hn hco
    have hE : Ext wr wr := Keep.refl _ _
    have hszw := hEw.size
    refine wc_seq ?_
    refine wc_seq ?_
    refine wc_cut [(0, .slice ad a.length cap), (1, .slice ad2 b.length cap2), (5, ov), (6, .int .i64 i), (7, .int .i64 k), (18, .bool (decide (((i : Nat) : Int) < a.length) || decide (((k : Nat) : Int) < b.length)))] (fun w' => w' = wr) ?_ ?_
    · refine wc_region ?_
      refine wl_val hW rfl rfl (x_move rfl) ?_
      refine wl_val hW rfl rfl (x_move rfl) ?_
      refine wl_val hW rfl rfl (x_len Try.underlying26 rfl) ?_
      refine wl_val hW rfl rfl (x_lss rfl rfl) ?_
      refine wl_val hW rfl rfl (x_move rfl) ?_
      refine wl_dcases (d := 13) rfl (fun hg13 => ?_) (fun hg13 => ?_)
      · refine wl_off hW rfl rfl ?_
        refine wl_off hW rfl rfl ?_
        refine wl_off hW rfl rfl ?_
        refine wl_off hW rfl rfl ?_
        refine wl_val hW rfl rfl (x_pickT rfl rfl) ?_
        refine wl_nil ?_
        exact nx_cut (by rw [decide_eq_true (show ((i : Nat) : Int) < a.length from hg13), Bool.true_or]; repeat (first | exact sub_nil | refine sub_cons rfl ?_)) rfl
      · refine wl_val hW rfl rfl (x_move rfl) ?_
        refine wl_val hW rfl rfl (x_move rfl) ?_
        refine wl_val hW rfl rfl (x_len Try.underlying26 rfl) ?_
        refine wl_val hW rfl rfl (x_lss rfl rfl) ?_
        refine wl_val hW rfl rfl (x_pickF rfl rfl) ?_
        refine wl_nil ?_
        exact nx_cut (by rw [decide_eq_false (show ¬ ((i : Nat) : Int) < a.length from hg13), Bool.false_or]; repeat (first | exact sub_nil | refine sub_cons rfl ?_)) rfl
    · rintro w' rfl
      refine nx_then ?_
      refine wc_bool rfl (fun hc => ?_) (fun hc => ?_)
      · replace hc : i < a.length ∨ k < b.length := by simp only [Bool.or_eq_true, decide_eq_true_eq] at hc; omega
        refine wc_skip ?_
        refine nx_then ?_
        refine wc_block ?_
        refine wc_seq ?_
        refine wc_region ?_
        refine wl_val hW rfl rfl (x_assign rfl) ?_
        refine wl_nil ?_
        refine nx_then ?_
        refine wc_seq ?_
        refine wc_seq ?_
        refine wc_region ?_
        refine wl_val hW rfl rfl (x_move rfl) ?_
        refine wl_val hW rfl rfl (x_move rfl) ?_
        refine wl_val hW rfl rfl (x_len Try.underlying26 rfl) ?_
        refine wl_val hW rfl rfl (x_eql rfl rfl) ?_
        refine wl_nil ?_
        refine nx_then ?_
        refine wc_cut [(0, .slice ad a.length cap), (1, .slice ad2 b.length cap2), (5, ov), (6, .int .i64 i), (7, .int .i64 k), (8, .int .i64 (twoC a b i k))] (fun w'' => Ext w' w'') ?_ ?_
        · refine wc_dec rfl (fun hc => ?_) (fun hc => ?_)
          · rename_i hc0 hcI
            replace hc : ((i : Nat) : Int) = a.length := hc
            refine wc_region ?_
            refine wl_val hW rfl rfl (x_assign rfl) ?_
            refine wl_nil ?_
            exact nx_cut (by rw [show twoC a b i k = 1 from if_pos (by omega)]; repeat (first | exact sub_nil | refine sub_cons rfl ?_)) hE
          · have hci : ¬ ((i : Nat) : Int) = a.length := hc
            refine wc_seq ?_
            refine wc_region ?_
            refine wl_val hW rfl rfl (x_move rfl) ?_
            refine wl_val hW rfl rfl (x_move rfl) ?_
            refine wl_val hW rfl rfl (x_len Try.underlying26 rfl) ?_
            refine wl_val hW rfl rfl (x_eql rfl rfl) ?_
            refine wl_nil ?_
            refine nx_then ?_
            refine wc_dec rfl (fun hc => ?_) (fun hc => ?_)
            · replace hc : ((k : Nat) : Int) = b.length := hc
              refine wc_region ?_
              refine wl_val hW rfl rfl (x_assign rfl) ?_
              refine wl_nil ?_
              exact nx_cut (by rw [show twoC a b i k = -1 from by unfold twoC; rw [if_neg (by omega), if_pos (by omega)]]; repeat (first | exact sub_nil | refine sub_cons rfl ?_)) hE
            · have hck : ¬ ((k : Nat) : Int) = b.length := hc
              refine wc_draw' 10 hW mixed (by kernel_rfl) (fun w0 hx0 => ?_)
              replace hE := hE.trans hx0
              have hil : i < a.length := by omega
              have hkl : k < b.length := by omega
              obtain ⟨b1, o1, c1, v1, e1, hA1, hC29, hb1, hok1⟩ := ((hR.ext hEw).ext hE).at i hil
              cases e1
              obtain ⟨b2, o2, c2, v2, e2, hA2, hC33, hb2, hok2⟩ := ((hS.ext hEw).ext hE).at k hkl
              cases e2
              refine q_val rfl rfl (fun _ hx => x_move rfl) ?_
              refine q_val rfl rfl (fun _ hx => x_move rfl) ?_
              refine q_val rfl rfl (fun _ hx => x_indexAddr Try.underlying26 ag25.siz rfl rfl (by omega) (by omega)) ?_
              refine q_val rfl rfl (fun _ hx => x_loadA ag25 rfl (hC29.ext hx) rfl) ?_
              refine q_val rfl rfl (fun _ hx => x_move rfl) ?_
              refine q_val rfl rfl (fun _ hx => x_move rfl) ?_
              refine q_val rfl rfl (fun _ hx => x_indexAddr Try.underlying26 ag25.siz rfl rfl (by omega) (by omega)) ?_
              refine q_val rfl rfl (fun _ hx => x_loadA ag25 rfl (hC33.ext hx) rfl) ?_
              refine q_call rfl rfl (fun _ => x_call en19 rfl) (fun w' hx => C19.inF hFF) ?_
              refine q_val rfl rfl (fun _ hx => x_assign rfl) ?_
              refine q_nil (tail0 (fun wt hxt => ?_))
              replace hE := hE.trans hxt
              refine wl_nil ?_
              exact nx_cut (by rw [show twoC a b i k = cmpE a[i] b[k] from by unfold twoC; rw [if_neg (by omega), if_neg (by omega), getD_eq hil, getD_eq hkl]]; repeat (first | exact sub_nil | refine sub_cons rfl ?_)) hE
        · rintro w2 hE
          refine nx_then ?_
          refine wc_seq ?_
          refine wc_region ?_
          refine wl_val hW rfl rfl (x_move rfl) ?_
          refine wl_val hW rfl rfl (x_leq rfl rfl) ?_
          refine wl_nil ?_
          refine nx_then ?_
          refine wc_dec rfl (fun hc => ?_) (fun hc => ?_)
          · replace hc : twoC a b i k ≤ 0 := hc
            have hil := twoC_le hi hc
            obtain ⟨n, rfl⟩ : ∃ m, n = m + 1 := ⟨n - 1, by omega⟩
            refine wc_seq ?_
            refine wc_region ?_
            obtain ⟨b1, o1, c1, v1, e1, hA1, hC41, hb1, hok1⟩ := ((hR.ext hEw).ext hE).at i hil
            cases e1
            refine wl_val hW rfl rfl (x_move rfl) ?_
            refine wl_val hW rfl rfl (x_move rfl) ?_
            refine wl_val hW rfl rfl (x_move rfl) ?_
            refine wl_val hW rfl rfl (x_indexAddr Try.underlying26 ag25.siz rfl rfl (by omega) (by omega)) ?_
            refine wl_val hW rfl rfl (x_loadA ag25 rfl hC41 rfl) ?_
            refine wl_buildSlice (parts := [(0, .tmp 42)]) hW rfl rfl Try.underlying26 ag25.siz Try.zeroValue25 rfl rfl rfl (by omega) ?_
            intro b43 w43 hl43 hB43 hx43
            replace hE := hE.trans hx43
            have hsz := hE.size
            refine wl_append1 hW rfl rfl rfl rfl (hO.ext hE) (by omega) (show Blk _ _ (cellsOf a[i] v1) 25 from hB43) ((hb1.ext hx43).mono (fun k _ h => ⟨h, fun e => by have := hO.lt _ e.symm; omega⟩)) hok1 (by omega) ?_
            intro v44 wA hO2 hkA hcA
            refine wl_val hW rfl rfl (x_assign rfl) ?_
            refine wl_nil ?_
            refine nx_then ?_
            refine wc_seq ?_
            refine wc_region ?_
            refine wl_val hW rfl rfl (x_move rfl) ?_
            refine wl_val hW rfl rfl (x_inc (s := i) rfl (by omega)) ?_
            refine wl_val hW rfl rfl (x_assign rfl) ?_
            refine wl_nil ?_
            refine nx_then ?_
            refine wc_seq ?_
            refine wc_region ?_
            refine wl_val hW rfl rfl (x_move rfl) ?_
            refine wl_val hW rfl rfl (x_eql rfl rfl) ?_
            refine wl_nil ?_
            refine nx_then ?_
            refine wc_dec rfl (fun hc => ?_) (fun hc => ?_)
            · replace hc : twoC a b i k = 0 := hc
              obtain ⟨hkl, h2⟩ := two_both (n := n) hil hk hc
              refine wc_region ?_
              refine wl_val hW rfl rfl (x_move rfl) ?_
              refine wl_val hW rfl rfl (x_inc (s := k) rfl (by omega)) ?_
              refine wl_val hW rfl rfl (x_assign rfl) ?_
              refine wl_nil ?_
              refine nx_block ?_
              exact nx_next (v44, i + 1, k + 1) (by dsimp only; omega) ⟨⟨by dsimp only; omega, by dsimp only; omega, coll ++ [a[i]], n, hO2, by simp only [List.length_append, List.length_cons, List.length_nil]; omega, by dsimp only; omega, by dsimp only; rw [← hco, h2, List.append_assoc]; rfl⟩, Keep.rowed (hEw.trans hE) hkA (fun b h => (hO.lt b h).1)⟩ (by repeat (first | exact sub_nil | refine sub_cons rfl ?_))
            · have hne : twoC a b i k ≠ 0 := hc
              refine wc_skip ?_
              refine nx_block ?_
              exact nx_next (v44, i + 1, k) (by dsimp only; omega) ⟨⟨by dsimp only; omega, hk, coll ++ [a[i]], n, hO2, by simp only [List.length_append, List.length_cons, List.length_nil]; omega, by dsimp only; omega, by dsimp only; rw [← hco, two_less hil hk ‹twoC a b i k ≤ 0› hne, List.append_assoc]; rfl⟩, Keep.rowed (hEw.trans hE) hkA (fun b h => (hO.lt b h).1)⟩ (by repeat (first | exact sub_nil | refine sub_cons rfl ?_))
          · replace hc : ¬ twoC a b i k ≤ 0 := hc
            have hkl := twoC_gt hk (by assumption) hc
            obtain ⟨n, rfl⟩ : ∃ m, n = m + 1 := ⟨n - 1, by omega⟩
            refine wc_seq ?_
            refine wc_region ?_
            obtain ⟨b1, o1, c1, v1, e1, hA1, hC54, hb1, hok1⟩ := ((hS.ext hEw).ext hE).at k hkl
            cases e1
            refine wl_val hW rfl rfl (x_move rfl) ?_
            refine wl_val hW rfl rfl (x_move rfl) ?_
            refine wl_val hW rfl rfl (x_move rfl) ?_
            refine wl_val hW rfl rfl (x_indexAddr Try.underlying26 ag25.siz rfl rfl (by omega) (by omega)) ?_
            refine wl_val hW rfl rfl (x_loadA ag25 rfl hC54 rfl) ?_
            refine wl_buildSlice (parts := [(0, .tmp 55)]) hW rfl rfl Try.underlying26 ag25.siz Try.zeroValue25 rfl rfl rfl (by omega) ?_
            intro b56 w56 hl56 hB56 hx56
            replace hE := hE.trans hx56
            have hsz := hE.size
            refine wl_append1 hW rfl rfl rfl rfl (hO.ext hE) (by omega) (show Blk _ _ (cellsOf b[k] v1) 25 from hB56) ((hb1.ext hx56).mono (fun k _ h => ⟨h, fun e => by have := hO.lt _ e.symm; omega⟩)) hok1 (by omega) ?_
            intro v57 wA hO2 hkA hcA
            refine wl_val hW rfl rfl (x_assign rfl) ?_
            refine wl_nil ?_
            refine nx_then ?_
            refine wc_region ?_
            refine wl_val hW rfl rfl (x_move rfl) ?_
            refine wl_val hW rfl rfl (x_inc (s := k) rfl (by omega)) ?_
            refine wl_val hW rfl rfl (x_assign rfl) ?_
            refine wl_nil ?_
            refine nx_block ?_
            exact nx_next (v57, i, k + 1) (by dsimp only; omega) ⟨⟨hi, by dsimp only; omega, coll ++ [b[k]], n, hO2, by simp only [List.length_append, List.length_cons, List.length_nil]; omega, by dsimp only; omega, by dsimp only; rw [← hco, two_more hi hkl hc, List.append_assoc]; rfl⟩, Keep.rowed (hEw.trans hE) hkA (fun b h => (hO.lt b h).1)⟩ (by repeat (first | exact sub_nil | refine sub_cons rfl ?_))
      · refine wc_exit ?_
        refine nx_then_exit ?_
        refine nx_then_exit ?_
        refine nx_block_exit ?_
        refine nx_then ?_
        refine wc_seq ?_
        replace hc : ¬ (i < a.length ∨ k < b.length) := by intro h; simp only [Bool.or_eq_false_iff, decide_eq_false_iff_not] at hc; omega
        rw [two_end n (by omega) (by omega), List.append_nil] at hco
        subst hco
        refine wc_region ?_
        refine wl_val hW rfl rfl (x_move rfl) ?_
        refine wl_val hW rfl rfl (x_assign rfl) ?_
        refine wl_nil ?_
        refine nx_then ?_
        refine wc_ret ?_
        exact ends_ret (res_tmp Try.results75 rfl) ⟨(hO.row (by omega)).mono (fun _ _ _ => trivial), hEw⟩
theorem C47 {w : World} {v : Value} {ls : List (List Ent)} (hL : LRow (fun k => k < w.heap.size) w v ls) (htot : tot ls ≤ 1099511627000) : Rt Try.prog 47 [v] w fun r w' => (∃ rv, r = .tuple #[rv, .int .i64 (if ls.all rightB then 0 else 15)] ∧ Row (fun _ => True) w' rv (if ls.all rightB then foldTwo [] ls else [])) ∧ Ext w w' := by
  obtain ⟨ad, cap, rfl, hcap, hlen⟩ := hL.form
  have hW := hWw
  have hFF := hFw
  have hE : Ext w w := Keep.refl _ _
  refine rt_body Try.func47 rfl Try.ntmps47 rfl ?_
  refine wc_seq ?_
  refine wc_region ?_
  refine wl_val hW rfl rfl (x_assign rfl) ?_
  refine wl_val hW rfl rfl (x_assign rfl) ?_
  refine wl_nil ?_
  refine nx_then ?_
  refine wc_seq ?_
  refine wc_region ?_
  refine wl_val hW rfl rfl (x_assign rfl) ?_
  refine wl_nil ?_
  refine nx_then ?_
  refine wc_seq ?_
  refine wc_seq ?_
  refine wc_region ?_
  refine wl_val hW rfl rfl (x_assign rfl) ?_
  refine wl_nil ?_
  refine nx_then ?_
  refine wc_block ?_
  refine wc_loop (σ := Nat) (fun s => [(0, .slice ad ls.length cap), (4, .slice none 0 0), (5, .int .i64 s)]) (fun s w' => (s ≤ ls.length ∧ ∀ (j : Nat) (hj : j < ls.length), j < s → rightB ls[j] = true) ∧ Ext w w') (fun s => ls.length - s) 0 ?_ ?_ ?_
  · exact ⟨⟨Nat.zero_le _, fun j _ h => absurd h (Nat.not_lt_zero _)⟩, hE⟩
  · repeat (first | exact sub_nil | refine sub_cons rfl ?_)
  · rintro s wr ⟨hs, hE⟩
    refine wc_seq ?_
    refine wc_seq ?_
    refine wc_region ?_
    refine wl_val hW rfl rfl (x_move rfl) ?_
    refine wl_val hW rfl rfl (x_move rfl) ?_
    refine wl_val hW rfl rfl (x_len Try.underlying65 rfl) ?_
    refine wl_val hW rfl rfl (x_lss rfl rfl) ?_
    refine wl_nil ?_
    refine nx_then ?_
    refine wc_dec rfl (fun hc => ?_) (fun hc => ?_)
    · replace hc : ((s : Nat) : Int) < ls.length := hc
      have hlt : s < ls.length := by omega
      refine wc_skip ?_
      refine nx_then ?_
      refine wc_seq ?_
      refine wc_block ?_
      refine wc_seq ?_
      refine wc_region ?_
      refine wl_val hW rfl rfl (x_move rfl) ?_
      refine wl_val hW rfl rfl (x_move rfl) ?_
      obtain ⟨b1, o1, c1, rv, e1, hA1, hC15, hRl⟩ := (hL.ext hE).at s hlt
      cases e1
      refine wl_val hW rfl rfl (x_indexAddr Try.underlying65 fl26.siz rfl rfl (by omega) (by omega)) ?_
      refine wl_val hW rfl rfl (x_load fl26 rfl (hC15 0 _ rfl)) ?_
      refine wl_call hW rfl rfl (x_call en21 rfl) ((C21 hRl).inF hFF) ?_
      rintro _ wC ⟨rfl, hxC⟩
      replace hE := hE.trans hxC
      refine wl_val hW rfl rfl (x_not rfl) ?_
      refine wl_nil ?_
      refine nx_then ?_
      refine wc_bool rfl (fun hc => ?_) (fun hc => ?_)
      · have hal : ls.all rightB = false := all_at hlt (by simpa using hc)
        refine wc_seq ?_
        refine wc_region ?_
        refine wl_val hW rfl rfl (x_assign rfl) ?_
        refine wl_val hW rfl rfl (x_assign rfl) ?_
        refine wl_nil ?_
        refine nx_then ?_
        refine wc_ret ?_
        refine nx_block_ret ?_
        refine nx_then_ret ?_
        refine nx_then_ret ?_
        refine nx_block_ret ?_
        refine nx_then_ret ?_
        exact ends_ret (res_tmp2 Try.results47 rfl rfl) ⟨⟨_, by rw [hal]; rfl, by rw [hal]; exact row_nil _ _⟩, hE⟩
      · refine wc_skip ?_
        refine nx_block ?_
        refine nx_then ?_
        refine wc_region ?_
        refine wl_val hW rfl rfl (x_move rfl) ?_
        refine wl_val hW rfl rfl (x_inc (s := s) rfl (by omega)) ?_
        refine wl_val hW rfl rfl (x_assign rfl) ?_
        refine wl_nil ?_
        exact nx_next (s + 1) (by omega) ⟨⟨hlt, fun j hj h => by rcases Nat.lt_succ_iff_lt_or_eq.1 h with h | rfl; exact hs.2 j hj h; simpa using hc⟩, hE⟩ (by repeat (first | exact sub_nil | refine sub_cons rfl ?_))
    · refine wc_exit ?_
      refine nx_then_exit ?_
      refine nx_then_exit ?_
      refine nx_block_exit ?_
      refine nx_then ?_
      replace hc : ¬ ((s : Nat) : Int) < ls.length := hc
      have hal : ls.all rightB = true := all_of fun j hj => hs.2 j hj (by omega)
      refine wc_seq ?_
      refine wc_seq ?_
      refine wc_region ?_
      refine wl_val hW rfl rfl (x_assign rfl) ?_
      refine wl_nil ?_
      refine nx_then ?_
      refine wc_block ?_
      refine wc_loop (σ := Value × Nat) (fun u => [(0, .slice ad ls.length cap), (4, u.1), (6, .int .i64 u.2)]) (fun u w' => (u.2 ≤ ls.length ∧ ∃ acc, Row (fun _ => True) w' u.1 acc ∧ acc.length + tot (ls.drop u.2) ≤ tot ls ∧ foldTwo acc (ls.drop u.2) = foldTwo [] ls) ∧ Ext w w') (fun u => ls.length - u.2) (.slice none 0 0, 0) ?_ ?_ ?_
      · exact ⟨⟨Nat.zero_le _, [], row_nil _ _, by simp, by rw [List.drop_zero]⟩, hE⟩
      · repeat (first | exact sub_nil | refine sub_cons rfl ?_)
      · rintro ⟨ov, t⟩ w2 ⟨⟨htl, acc, hRa, hat, hf⟩, hE⟩
        dsimp only at htl hRa hat hf
        refine wc_seq ?_
        refine wc_seq ?_
        refine wc_region ?_
        refine wl_val hW rfl rfl (x_move rfl) ?_
        refine wl_val hW rfl rfl (x_move rfl) ?_
        refine wl_val hW rfl rfl (x_len Try.underlying65 rfl) ?_
        refine wl_val hW rfl rfl (x_lss rfl rfl) ?_
        refine wl_nil ?_
        refine nx_then ?_
        refine wc_dec rfl (fun hc => ?_) (fun hc => ?_)
        · replace hc : ((t : Nat) : Int) < ls.length := hc
          have hlt : t < ls.length := by omega
          refine wc_skip ?_
          refine nx_then ?_
          refine wc_seq ?_
          refine wc_block ?_
          refine wc_region ?_
          refine wl_val hW rfl rfl (x_move rfl) ?_
          refine wl_val hW rfl rfl (x_move rfl) ?_
          refine wl_val hW rfl rfl (x_move rfl) ?_
          obtain ⟨b1, o1, c1, rv, e1, hA1, hC28, hRl⟩ := (hL.ext hE).at t hlt
          cases e1
          have htd := tot_drop hlt
          refine wl_val hW rfl rfl (x_indexAddr Try.underlying65 fl26.siz rfl rfl (by omega) (by omega)) ?_
          refine wl_val hW rfl rfl (x_load fl26 rfl (hC28 0 _ rfl)) ?_
          refine wl_call hW rfl rfl (x_call en75 rfl) ((C75 (hRa.mono (fun k h _ => h)) (hRl.mono (fun k h _ => h)) (by omega)).inF hFF) ?_
          rintro rv2 wC ⟨hR2, hxC⟩
          replace hE := hE.trans hxC
          refine wl_val hW rfl rfl (x_assign rfl) ?_
          refine wl_nil ?_
          refine nx_block ?_
          refine nx_then ?_
          refine wc_region ?_
          refine wl_val hW rfl rfl (x_move rfl) ?_
          refine wl_val hW rfl rfl (x_inc (s := t) rfl (by omega)) ?_
          refine wl_val hW rfl rfl (x_assign rfl) ?_
          refine wl_nil ?_
          exact nx_next (rv2, t + 1) (by dsimp only; omega) ⟨⟨hlt, _, hR2, by have := twoF_len (acc.length + ls[t].length) acc ls[t]; dsimp only; omega, by dsimp only; rw [← foldTwo_drop hlt]; exact hf⟩, hE⟩ (by repeat (first | exact sub_nil | refine sub_cons rfl ?_))
        · refine wc_exit ?_
          refine nx_then_exit ?_
          refine nx_then_exit ?_
          refine nx_block_exit ?_
          refine nx_then ?_
          refine wc_seq ?_
          replace hc : ¬ ((t : Nat) : Int) < ls.length := hc
          rw [List.drop_eq_nil_of_le (show ls.length ≤ t by omega)] at hf
          refine wc_region ?_
          refine wl_val hW rfl rfl (x_move rfl) ?_
          refine wl_val hW rfl rfl (x_assign rfl) ?_
          refine wl_val hW rfl rfl (x_assign rfl) ?_
          refine wl_nil ?_
          refine nx_then ?_
          refine wc_ret ?_
          exact ends_ret (res_tmp2 Try.results47 rfl rfl) ⟨⟨_, by rw [hal]; rfl, by rw [hal, if_pos rfl, ← hf]; exact hRa⟩, hE⟩
theorem C46 {w : World} {v : Value} {ls : List (List Ent)} (hL : LRow (fun k => k < w.heap.size) w v ls) (htot : tot ls ≤ 1099511627000) : Rt Try.prog 46 [v] w fun r w' => (∃ rv, r = .tuple #[rv, .int .i64 (if ls.all rightB then 0 else 15)] ∧ Row (fun k => w.heap.size ≤ k) w' rv (if ls.all rightB then foldTwo [] ls else [])) ∧ Ext w w' := by
  obtain ⟨ad, cap, rfl, hcap, hlen⟩ := hL.form
  have hW := hWw
  have hFF := hFw
  have hE : Ext w w := Keep.refl _ _
  refine rt_body Try.func46 rfl Try.ntmps46 rfl ?_
  refine wc_seq ?_
  refine wc_region ?_
  refine wl_val hW rfl rfl (x_assign rfl) ?_
  refine wl_val hW rfl rfl (x_assign rfl) ?_
  refine wl_nil ?_
  refine nx_then ?_
  refine wc_seq ?_
  refine wc_seq ?_
  refine wc_region ?_
  refine wl_val hW rfl rfl (x_move rfl) ?_
  refine wl_val hW rfl rfl (x_len Try.underlying65 rfl) ?_
  refine wl_val hW rfl rfl (x_move rfl) ?_
  refine wl_nil ?_
  refine nx_then ?_
  refine wc_block ?_
  refine wc_loop (σ := Nat) (fun s => [(0, .slice ad ls.length cap), (6, .slice ad ls.length cap), (7, .int .i64 ls.length), (8, .int .i64 s)]) (fun s w' => (s ≤ ls.length ∧ ∀ (j : Nat) (hj : j < ls.length), j < s → rightB ls[j] = true) ∧ Ext w w') (fun s => ls.length - s) 0 ?_ ?_ ?_
  · exact ⟨⟨Nat.zero_le _, fun j _ h => absurd h (Nat.not_lt_zero _)⟩, hE⟩
  · repeat (first | exact sub_nil | refine sub_cons rfl ?_)
  · rintro s wr ⟨hs, hE⟩
    refine wc_seq ?_
    refine wc_region ?_
    refine wl_val hW rfl rfl (x_lss rfl rfl) ?_
    refine wl_nil ?_
    refine nx_then ?_
    refine wc_seq ?_
    refine wc_dec rfl (fun hc => ?_) (fun hc => ?_)
    · replace hc : ((s : Nat) : Int) < ls.length := hc
      have hlt : s < ls.length := by omega
      refine wc_skip ?_
      refine nx_then ?_
      refine wc_seq ?_
      refine wc_block ?_
      refine wc_seq ?_
      refine wc_region ?_
      obtain ⟨b1, o1, c1, rv, e1, hA1, hC10, hRl⟩ := (hL.ext hE).at s hlt
      cases e1
      refine wl_val hW rfl rfl (x_indexAddr Try.underlying65 fl26.siz rfl rfl (by omega) (by omega)) ?_
      refine wl_val hW rfl rfl (x_load fl26 rfl (hC10 0 _ rfl)) ?_
      refine wl_val hW rfl rfl (x_assign rfl) ?_
      refine wl_nil ?_
      refine nx_then ?_
      refine wc_seq ?_
      refine wc_region ?_
      refine wl_val hW rfl rfl (x_move rfl) ?_
      refine wl_call hW rfl rfl (x_call en20 rfl) ((C20 hRl).inF hFF) ?_
      rintro _ wC ⟨rfl, hxC⟩
      replace hE := hE.trans hxC
      refine wl_val hW rfl rfl (x_not rfl) ?_
      refine wl_nil ?_
      refine nx_then ?_
      refine wc_bool rfl (fun hc => ?_) (fun hc => ?_)
      · have hal : ls.all rightB = false := all_at hlt (by simpa using hc)
        refine wc_seq ?_
        refine wc_region ?_
        refine wl_val hW rfl rfl (x_assign rfl) ?_
        refine wl_val hW rfl rfl (x_assign rfl) ?_
        refine wl_nil ?_
        refine nx_then ?_
        refine wc_ret ?_
        refine nx_block_ret ?_
        refine nx_then_ret ?_
        refine nx_then_ret ?_
        refine nx_block_ret ?_
        refine nx_then_ret ?_
        exact ends_ret (res_tmp2 Try.results46 rfl rfl) ⟨⟨_, by rw [hal]; rfl, by rw [hal]; exact row_nil _ _⟩, hE⟩
      · refine wc_skip ?_
        refine nx_block ?_
        refine nx_then ?_
        refine wc_region ?_
        refine wl_val hW rfl rfl (x_inc (s := s) rfl (by omega)) ?_
        refine wl_val hW rfl rfl (x_move rfl) ?_
        refine wl_nil ?_
        exact nx_next (s + 1) (by omega) ⟨⟨hlt, fun j hj h => by rcases Nat.lt_succ_iff_lt_or_eq.1 h with h | rfl; exact hs.2 j hj h; simpa using hc⟩, hE⟩ (by repeat (first | exact sub_nil | refine sub_cons rfl ?_))
    · refine wc_exit ?_
      refine nx_then_exit ?_
      refine nx_then_exit ?_
      refine nx_block_exit ?_
      replace hc : ¬ ((s : Nat) : Int) < ls.length := hc
      have hal : ls.all rightB = true := all_of fun j hj => hs.2 j hj (by omega)
      refine nx_then ?_
      refine wc_seq ?_
      refine wc_region ?_
      have hEw := hE
      have hsz0 := hE.size
      refine wl_val hW rfl rfl (x_move rfl) ?_
      refine wl_call hW rfl rfl (x_call en74 rfl) ((C74 (hL.ext hE) (fun k h => Nat.lt_of_lt_of_le h hE.size)).inF hFF) ?_
      rintro cv wC ⟨hLo, hxC⟩
      replace hE := hE.trans hxC
      have hsz := hE.size
      refine wl_call hW rfl rfl (x_call en73 rfl) ((C73 hLo (fun k h => by omega) htot).inF hFF) ?_
      rintro rv wT ⟨⟨M, hM, hRM⟩, hkT⟩
      have hET : Ext w wT := Keep.after hE hkT (fun k hk e => by have := (hLo.lt k e.symm).1; omega)
      have hMf := merge_is hM (all_sorted hal)
      refine wl_val hW rfl rfl (x_assign rfl) ?_
      refine wl_val hW rfl rfl (x_assign rfl) ?_
      refine wl_nil ?_
      refine nx_then ?_
      refine wc_ret ?_
      exact ends_ret (res_tmp2 Try.results46 rfl rfl) ⟨⟨_, by rw [hal]; rfl, by rw [hal, if_pos rfl, ← hMf]; exact hRM.mono (fun k _ h => by omega)⟩, hET⟩
theorem C45 {A : Nat → Prop} {w : World} {v : Value} {ls : List (List Ent)} (hL : LRow A w v ls) : Rt Try.prog 45 [v] w fun r w' => (∃ b, r = .bool b ∧ (b = true → tot ls ≤ 3000)) ∧ Ext w w' := by
  obtain ⟨ad, cap, rfl, hcap, hlen⟩ := hL.form
  have hW := hWw
  have hFF := hFw
  have hE : Ext w w := Keep.refl _ _
  refine rt_body Try.func45 rfl Try.ntmps45 rfl ?_
  refine wc_seq ?_
  refine wc_region ?_
  refine wl_val hW rfl rfl (x_assign rfl) ?_
  refine wl_nil ?_
  refine nx_then ?_
  refine wc_seq ?_
  refine wc_seq ?_
  refine wc_region ?_
  refine wl_val hW rfl rfl (x_move rfl) ?_
  refine wl_val hW rfl rfl (x_len Try.underlying65 rfl) ?_
  refine wl_val hW rfl rfl (x_gtr rfl rfl) ?_
  refine wl_nil ?_
  refine nx_then ?_
  refine wc_dec rfl (fun hc => ?_) (fun hc => ?_)
  · refine wc_seq ?_
    refine wc_region ?_
    refine wl_val hW rfl rfl (x_assign rfl) ?_
    refine wl_nil ?_
    refine nx_then ?_
    refine wc_ret ?_
    refine nx_then_ret ?_
    exact ends_ret (res_tmp Try.results45 rfl) ⟨⟨false, rfl, fun h => by cases h⟩, hE⟩
  · have hl30 : ls.length ≤ 30 := by have hc' : ¬ (30 : Int) < ls.length := hc; omega
    refine wc_skip ?_
    refine nx_then ?_
    refine wc_seq ?_
    refine wc_region ?_
    refine wl_val hW rfl rfl (x_assign rfl) ?_
    refine wl_nil ?_
    refine nx_then ?_
    refine wc_seq ?_
    refine wc_seq ?_
    refine wc_region ?_
    refine wl_val hW rfl rfl (x_assign rfl) ?_
    refine wl_nil ?_
    refine nx_then ?_
    refine wc_block ?_
    refine wc_loop (σ := Nat) (fun s => [(0, .slice ad ls.length cap), (3, .int .i64 ((tot (ls.take s) : Nat) : Int)), (4, .int .i64 s)]) (fun s w' => (s ≤ ls.length ∧ tot (ls.take s) ≤ s * 1000) ∧ Ext w w') (fun s => ls.length - s) 0 ?_ ?_ ?_
    · exact ⟨⟨Nat.zero_le _, by simp [tot]⟩, hE⟩
    · repeat (first | exact sub_nil | refine sub_cons rfl ?_)
    · rintro s wr ⟨hs, hE⟩
      refine wc_seq ?_
      refine wc_seq ?_
      refine wc_region ?_
      refine wl_val hW rfl rfl (x_move rfl) ?_
      refine wl_val hW rfl rfl (x_move rfl) ?_
      refine wl_val hW rfl rfl (x_len Try.underlying65 rfl) ?_
      refine wl_val hW rfl rfl (x_lss rfl rfl) ?_
      refine wl_nil ?_
      refine nx_then ?_
      refine wc_dec rfl (fun hc => ?_) (fun hc => ?_)
      · replace hc : ((s : Nat) : Int) < ls.length := hc
        have hlt : s < ls.length := by omega
        refine wc_skip ?_
        refine nx_then ?_
        refine wc_seq ?_
        refine wc_block ?_
        refine wc_seq ?_
        refine wc_seq ?_
        refine wc_region ?_
        refine wl_val hW rfl rfl (x_move rfl) ?_
        refine wl_val hW rfl rfl (x_move rfl) ?_
        obtain ⟨b1, o1, c1, rv, e1, hA1, hC16, hRl⟩ := (hL.ext hE).at s hlt
        cases e1
        obtain ⟨la, lc, rfl, hlc, hll⟩ := hRl.form
        refine wl_val hW rfl rfl (x_indexAddr Try.underlying65 fl26.siz rfl rfl (by omega) (by omega)) ?_
        refine wl_val hW rfl rfl (x_load fl26 rfl (hC16 0 _ rfl)) ?_
        refine wl_call hW rfl rfl (x_call en17 rfl) ((C17 hRl).inF hFF) ?_
        rintro _ wC ⟨⟨bb, rfl, hfew⟩, hxC⟩
        replace hE := hE.trans hxC
        refine wl_val hW rfl rfl (x_not rfl) ?_
        refine wl_nil ?_
        refine nx_then ?_
        refine wc_bool rfl (fun hc => ?_) (fun hc => ?_)
        · refine wc_seq ?_
          refine wc_region ?_
          refine wl_val hW rfl rfl (x_assign rfl) ?_
          refine wl_nil ?_
          refine nx_then ?_
          refine wc_ret ?_
          refine nx_then_ret ?_
          refine nx_block_ret ?_
          refine nx_then_ret ?_
          refine nx_then_ret ?_
          refine nx_block_ret ?_
          refine nx_then_ret ?_
          exact ends_ret (res_tmp Try.results45 rfl) ⟨⟨false, rfl, fun h => by cases h⟩, hE⟩
        · refine wc_skip ?_
          refine nx_then ?_
          have hl1 : (ls[s].length : Int) ≤ 1000 := hfew (by simpa using hc)
          have hC23 := hC16.ext hxC
          have htk : tot (ls.take (s + 1)) = tot (ls.take s) + ls[s].length := by have h1 := tot_take_drop ls s; have h2 := tot_take_drop ls (s + 1); have h3 := tot_drop hlt; omega
          refine wc_region ?_
          refine wl_val hW rfl rfl (x_move rfl) ?_
          refine wl_val hW rfl rfl (x_move rfl) ?_
          refine wl_val hW rfl rfl (x_move rfl) ?_
          refine wl_val hW rfl rfl (x_indexAddr Try.underlying65 fl26.siz rfl rfl (by omega) (by omega)) ?_
          refine wl_val hW rfl rfl (x_load fl26 rfl (hC23 0 _ rfl)) ?_
          refine wl_val hW rfl rfl (x_len Try.underlying26 rfl) ?_
          refine wl_val hW rfl rfl (x_addn (i := tot (ls.take s)) (j := ls[s].length) rfl rfl (by omega)) ?_
          refine wl_val hW rfl rfl (x_assign rfl) ?_
          refine wl_nil ?_
          refine nx_block ?_
          refine nx_then ?_
          refine wc_region ?_
          refine wl_val hW rfl rfl (x_move rfl) ?_
          refine wl_val hW rfl rfl (x_inc (s := s) rfl (by omega)) ?_
          refine wl_val hW rfl rfl (x_assign rfl) ?_
          refine wl_nil ?_
          exact nx_next (s + 1) (by omega) ⟨⟨hlt, by omega⟩, hE⟩ (by rw [htk]; repeat (first | exact sub_nil | refine sub_cons rfl ?_))
      · refine wc_exit ?_
        refine nx_then_exit ?_
        refine nx_then_exit ?_
        refine nx_block_exit ?_
        refine nx_then ?_
        refine wc_seq ?_
        replace hc : ¬ ((s : Nat) : Int) < ls.length := hc
        have htk : tot (ls.take s) = tot ls := by rw [List.take_of_length_le (by omega)]
        refine wc_region ?_
        refine wl_val hW rfl rfl (x_move rfl) ?_
        refine wl_val hW rfl rfl (x_leq rfl rfl) ?_
        refine wl_val hW rfl rfl (x_assign rfl) ?_
        refine wl_nil ?_
        refine nx_then ?_
        refine wc_ret ?_
        exact ends_ret (res_tmp Try.results45 rfl) ⟨⟨_, rfl, fun h => by have h' := of_decide_eq_true h; omega⟩, hE⟩
theorem C10 {w : World} {v : Value} {ls : List (List Ent)} (hL : LRow (fun k => k < w.heap.size) w v ls) : Rt Try.prog 10 [v] w fun r w' => r = .bool true ∧ Ext w w' := by
  obtain ⟨ad, cap, rfl, hcap, hlen⟩ := hL.form
  have hW := hWw
  have hFF := hFw
  have hE : Ext w w := Keep.refl _ _
  refine rt_body Try.func10 rfl Try.ntmps10 rfl ?_
  refine wc_seq ?_
  refine wc_region ?_
  refine wl_val hW rfl rfl (x_assign rfl) ?_
  refine wl_nil ?_
  refine nx_then ?_
  refine wc_seq ?_
  refine wc_seq ?_
  refine wc_region ?_
  refine wl_call hW rfl rfl (x_call en16 rfl) (C16.inF hFF) ?_
  rintro _ wC ⟨rfl, hxC⟩
  replace hE := hE.trans hxC
  refine wl_val hW rfl rfl (x_not rfl) ?_
  refine wl_nil ?_
  refine nx_then ?_
  refine wc_false rfl ?_
  refine wc_skip ?_
  refine nx_then ?_
  refine wc_seq ?_
  refine wc_seq ?_
  refine wc_region ?_
  refine wl_val hW rfl rfl (x_move rfl) ?_
  refine wl_call hW rfl rfl (x_call en45 rfl) ((C45 (hL.ext hE)).inF hFF) ?_
  rintro _ wC ⟨⟨bb, rfl, hfew⟩, hxC⟩
  replace hE := hE.trans hxC
  refine wl_val hW rfl rfl (x_not rfl) ?_
  refine wl_nil ?_
  refine nx_then ?_
  refine wc_bool rfl (fun hc => ?_) (fun hc => ?_)
  · refine wc_seq ?_
    refine wc_region ?_
    refine wl_val hW rfl rfl (x_assign rfl) ?_
    refine wl_nil ?_
    refine nx_then ?_
    refine wc_ret ?_
    refine nx_then_ret ?_
    exact ends_ret (res_tmp Try.results10 rfl) ⟨rfl, hE⟩
  · have htot : tot ls ≤ 3000 := hfew (by simpa using hc)
    clear hfew
    refine wc_skip ?_
    refine nx_then ?_
    refine wc_seq ?_
    refine wc_region ?_
    refine wl_val hW rfl rfl (x_move rfl) ?_
    refine wl_call hW rfl rfl (x_call en46 rfl) ((C46 ((hL.ext hE).mono (fun k h _ => h)) (by omega)).inF hFF) ?_
    rintro _ wS ⟨⟨rv1, rfl, hR1⟩, hxC⟩
    replace hE := hE.trans hxC
    refine wl_val hW rfl rfl (x_move rfl) ?_
    refine wl_val hW rfl rfl (x_extract rfl rfl) ?_
    refine wl_val hW rfl rfl (x_extract rfl rfl) ?_
    refine wl_val hW rfl rfl (x_assign rfl) ?_
    refine wl_val hW rfl rfl (x_assign rfl) ?_
    refine wl_nil ?_
    refine nx_then ?_
    refine wc_seq ?_
    refine wc_region ?_
    refine wl_val hW rfl rfl (x_move rfl) ?_
    refine wl_call hW rfl rfl (x_call en47 rfl) ((C47 ((hL.ext hE).mono (fun k h _ => h)) (by omega)).inF hFF) ?_
    rintro _ wT ⟨⟨rv2, rfl, hR2⟩, hxC⟩
    replace hE := hE.trans hxC
    refine wl_val hW rfl rfl (x_move rfl) ?_
    refine wl_val hW rfl rfl (x_extract rfl rfl) ?_
    refine wl_val hW rfl rfl (x_extract rfl rfl) ?_
    refine wl_val hW rfl rfl (x_assign rfl) ?_
    refine wl_val hW rfl rfl (x_assign rfl) ?_
    refine wl_nil ?_
    refine nx_then ?_
    refine wc_seq ?_
    refine wc_cut [(2, .bool true)] (fun w' => Ext w w') ?_ ?_
    · refine wc_region ?_
      refine wl_val hW rfl rfl (x_move rfl) ?_
      refine wl_val hW rfl rfl (x_move rfl) ?_
      refine wl_call hW rfl rfl (x_call en24 rfl) ((C24 ((hR1.ext hxC).mono (A' := fun _ => True) (fun _ _ _ => trivial)) hR2).inF hFF) ?_
      rintro _ wC2 ⟨⟨b2, rfl, hb2⟩, hxC⟩
      obtain rfl : b2 = true := hb2.2 rfl
      replace hE := hE.trans hxC
      refine wl_val hW rfl rfl (x_move rfl) ?_
      refine wl_val hW rfl rfl (x_move rfl) ?_
      refine wl_val hW rfl rfl (x_move rfl) ?_
      refine wl_val hW rfl rfl (x_eqlT rfl rfl rfl) ?_
      refine wl_val hW rfl rfl (x_pickT rfl rfl) ?_
      refine wl_val hW rfl rfl (x_assign rfl) ?_
      refine wl_nil ?_
      exact nx_cut (by repeat (first | exact sub_nil | refine sub_cons rfl ?_)) hE
    · rintro w' hE
      refine nx_then ?_
      refine wc_ret ?_
      exact ends_ret (res_tmp Try.results10 rfl) ⟨rfl, hE⟩
end Go.Proofs.Ytblbddamebbgaaa.K

