/- Walks: the tables of a level; their stretch; Clip. -/
import Derived.Test.YtblbddamebbgaaaOh
namespace Go.Proofs.Ytblbddamebbgaaa.K
open Go Go.RowKit
set_option linter.unusedVariables false
set_option linter.unusedSimpArgs false

theorem C79 {A : Nat → Prop} {w : World} {tv : Value} {ts : List Tb} {sq nx wl n : Int} (hR : TRow A w tv ts) : Rt Try.prog 79 [.agg #[tv, .int .u64 sq, .int .i64 nx, .int .i64 wl], .int .i64 n] w fun r w' => TOwn w.heap.size w' r (levelL ts n) ∧ Ext w w' := by
  obtain ⟨ad, cap, rfl, hcap, hlen⟩ := hR.form
  replace hR := hR.mono (A' := fun k => k < w.heap.size) fun k hk _ => hk
  have hW := hWw
  have hFF := hFw
  have hE : Ext w w := Keep.refl _ _
  refine rt_body Try.func79 rfl Try.ntmps79 rfl ?_
  refine wc_seq ?_
  refine wc_region ?_
  refine wl_box hW rfl rfl rfl rfl ?_
  intro b2 w2 hl2 hB2 hx2
  have g2 : w.heap.size ≤ b2 := Nat.le_trans hE.size hl2
  replace hE := hE.trans hx2
  refine wl_val hW rfl rfl (x_assign rfl) ?_
  refine wl_nil ?_
  refine nx_then ?_
  refine wc_seq ?_
  refine wc_region ?_
  refine wl_val hW rfl rfl (x_assign rfl) ?_
  refine wl_nil ?_
  refine nx_then ?_
  refine wc_seq ?_
  refine wc_seq ?_
  refine wc_region ?_
  refine wl_val hW rfl rfl (x_fieldAddr Try.underlying82 rfl fl80.siz rfl) ?_
  refine wl_val hW rfl rfl (x_load fl80 rfl (hB2.cell (o := 0) rfl)) ?_
  refine wl_val hW rfl rfl (x_len Try.underlying80 rfl) ?_
  refine wl_val hW rfl rfl (x_move rfl) ?_
  refine wl_nil ?_
  refine nx_then ?_
  refine wc_block ?_
  refine wc_loop (σ := Nat × Value) (fun s => [(1, .int .i64 n), (5, s.2), (9, .slice ad ts.length cap), (10, .int .i64 (ts.length : Nat)), (11, .int .i64 (s.1 : Nat))]) (fun s w' => (s.1 ≤ ts.length ∧ TOwn w.heap.size w' s.2 (levelL (ts.take s.1) n)) ∧ Ext w w') (fun s => ts.length - s.1) (0, .slice none 0 0) ?_ ?_ ?_
  · exact ⟨⟨Nat.zero_le _, town_nil⟩, hE⟩
  · repeat (first | exact sub_nil | refine sub_cons rfl ?_)
  · rintro ⟨s, ov⟩ wr ⟨⟨hs, hO⟩, hE⟩
    replace hs : s ≤ ts.length := hs
    replace hO : TOwn w.heap.size wr ov (levelL (ts.take s) n) := hO
    refine wc_seq ?_
    refine wc_region ?_
    refine wl_val hW rfl rfl (x_lss rfl rfl) ?_
    refine wl_nil ?_
    refine nx_then ?_
    refine wc_seq ?_
    refine wc_dec rfl (fun hc => ?_) (fun hc => ?_)
    · refine wc_skip ?_
      refine nx_then ?_
      refine wc_seq ?_
      refine wc_block ?_
      refine wc_seq ?_
      replace hc : ((s : Nat) : Int) < ts.length := hc
      have hlt : s < ts.length := by omega
      obtain ⟨b, o, cap', e1, hA, hC13⟩ := (hR.ext hE).at s hlt
      cases e1
      refine wc_region ?_
      refine wl_val hW rfl rfl (x_indexAddr Try.underlying80 ag87.siz rfl rfl (by omega) (by omega)) ?_
      refine wl_val hW rfl rfl (x_loadA ag87 rfl hC13 rfl) ?_
      refine wl_alloc (cs := [.int .i64 0, .int .i64 0, .string ⟨#[]⟩, .string ⟨#[]⟩, .int .i64 0]) hW rfl rfl Try.zeroValue87 rfl ?_
      intro b7 w7 hl7 hB7 hx7
      have g7 : w.heap.size ≤ b7 := Nat.le_trans hE.size hl7
      replace hE := hE.trans hx7
      refine wl_storeA hW rfl ag87 rfl rfl (cellsT_one _) rfl hB7 rfl ?_
      intro wS hBS hkS
      replace hO := (hO.ext hx7).keep hkS (fun b hb => (by have := hO.lt hb; omega))
      replace hB7 := hBS
      clear hBS
      replace hE := hE.store hkS g7
      refine wl_nil ?_
      refine nx_then ?_
      refine wc_seq ?_
      refine wc_region ?_
      refine wl_val hW rfl rfl (x_fieldAddr Try.underlying87 rfl fl3.siz rfl) ?_
      refine wl_val hW rfl rfl (x_load fl3 rfl (hB7.cell (o := 1) rfl)) ?_
      refine wl_val hW rfl rfl (x_move rfl) ?_
      refine wl_val hW rfl rfl (x_eql rfl rfl) ?_
      refine wl_nil ?_
      refine nx_then ?_
      refine wc_dec rfl (fun hc => ?_) (fun hc => ?_)
      · have hlv := levelL_take (n := n) hlt
        rw [if_pos hc] at hlv
        refine wc_region ?_
        refine wl_val hW rfl rfl (x_move rfl) ?_
        refine wl_val hW rfl rfl (x_loadA ag87 rfl hB7.cells rfl) ?_
        refine wl_buildSlice (parts := [(0, .tmp 20)]) hW rfl rfl Try.underlying80 ag87.siz Try.zeroValue87 rfl rfl rfl (by omega) ?_
        intro b21 w21 hl21 hB21 hx21
        have g21 : w.heap.size ≤ b21 := Nat.le_trans hE.size hl21
        have n21_7 : b21 ≠ b7 := Nat.ne_of_gt (Nat.lt_of_lt_of_le hB7.lt hl21)
        replace hB7 := hB7.ext hx21
        replace hE := hE.trans hx21
        have hO21 := hO.ext hx21
        have hsz := hE.size
        have hll := levelL_le (ts.take s) n
        have htl : (ts.take s).length = s := by simp; omega
        refine wl_append Try.underlying80 info87 rfl (by decide) hW rfl rfl rfl rfl hO21 (show (cellsT ts[s]).length = 1 * 5 from rfl) (src_blk (show Blk _ _ (cellsT ts[s]) 87 from hB21)) (List.all_eq_true.1 (cellsT_one _)) (by omega) (by decide) hsz ?_
        intro v22 wA hO2 hkA hcA
        have hE2 := Keep.rowed hE hkA (fun b h => hO21.ge h)
        refine wl_val hW rfl rfl (x_assign rfl) ?_
        refine wl_nil ?_
        refine nx_block ?_
        refine nx_then ?_
        refine wc_region ?_
        refine wl_val hW rfl rfl (x_inc (s := s) rfl (by omega)) ?_
        refine wl_val hW rfl rfl (x_move rfl) ?_
        refine wl_nil ?_
        exact nx_next (s + 1, v22) (by dsimp only; omega) ⟨⟨hlt, by show TOwn _ _ v22 _; rw [hlv]; unfold TOwn; rw [List.length_append, List.flatMap_append, List.length_singleton, List.flatMap_singleton]; exact hO2⟩, hE2⟩ (by repeat (first | exact sub_nil | refine sub_cons rfl ?_))
      · refine wc_skip ?_
        refine nx_block ?_
        refine nx_then ?_
        have hlv := levelL_take (n := n) hlt
        rw [if_neg hc, List.append_nil] at hlv
        refine wc_region ?_
        refine wl_val hW rfl rfl (x_inc (s := s) rfl (by omega)) ?_
        refine wl_val hW rfl rfl (x_move rfl) ?_
        refine wl_nil ?_
        exact nx_next (s + 1, ov) (by dsimp only; omega) ⟨⟨hlt, by show TOwn _ _ ov _; rw [hlv]; exact hO⟩, hE⟩ (by repeat (first | exact sub_nil | refine sub_cons rfl ?_))
    · refine wc_exit ?_
      refine nx_then_exit ?_
      refine nx_then_exit ?_
      refine nx_block_exit ?_
      refine nx_then ?_
      refine wc_seq ?_
      replace hc : ¬ ((s : Nat) : Int) < ts.length := hc
      have hsl : s = ts.length := by omega
      rw [hsl, List.take_length] at hO
      refine wc_region ?_
      refine wl_val hW rfl rfl (x_move rfl) ?_
      refine wl_val hW rfl rfl (x_assign rfl) ?_
      refine wl_nil ?_
      refine nx_then ?_
      refine wc_ret ?_
      exact ends_ret (res_tmp Try.results79 rfl) ⟨hO, hE⟩
theorem C92 {A : Nat → Prop} {w : World} {v : Value} {ts : List Tb} (hR : TRow A w v ts) (h0 : 0 < ts.length) : Rt Try.prog 92 [v] w fun r w' => r = .tuple #[.string (stretchL ts[0].a ts[0].z ts).1, .string (stretchL ts[0].a ts[0].z ts).2] ∧ Ext w w' := by
  obtain ⟨ad, cap, rfl, hcap, hlen⟩ := hR.form
  replace hR := hR.mono (A' := fun k => k < w.heap.size) fun k hk _ => hk
  have hW := hWw
  have hFF := hFw
  have hE : Ext w w := Keep.refl _ _
  refine rt_body Try.func92 rfl Try.ntmps92 rfl ?_
  refine wc_seq ?_
  refine wc_region ?_
  refine wl_val hW rfl rfl (x_assign rfl) ?_
  refine wl_val hW rfl rfl (x_assign rfl) ?_
  refine wl_nil ?_
  refine nx_then ?_
  refine wc_seq ?_
  obtain ⟨b0, o0, cap0, e0, hA0, hC7⟩ := (hR.ext hE).at 0 h0
  cases e0
  refine wc_draw' 9 hW mixed (by kernel_rfl) (fun w0 hx0 => ?_)
  replace hE := hE.trans hx0
  replace hC7 := hC7.ext hx0
  refine q_val rfl rfl (fun _ hx => x_move rfl) ?_
  refine q_val rfl rfl (fun _ hx => x_indexAddr Try.underlying80 ag87.siz rfl rfl (by omega) (by omega)) ?_
  refine q_val rfl rfl (fun _ hx => x_fieldAddr Try.underlying87 rfl fl9.siz rfl) ?_
  refine q_val rfl rfl (fun _ hx => x_load fl9 rfl (hx.cell (hC7 2 _ rfl))) ?_
  refine q_val rfl rfl (fun _ hx => x_move rfl) ?_
  refine q_val rfl rfl (fun _ hx => x_indexAddr Try.underlying80 ag87.siz rfl rfl (by omega) (by omega)) ?_
  refine q_val rfl rfl (fun _ hx => x_fieldAddr Try.underlying87 rfl fl9.siz rfl) ?_
  refine q_val rfl rfl (fun _ hx => x_load fl9 rfl (hx.cell (hC7 3 _ rfl))) ?_
  refine q_val rfl rfl (fun _ hx => x_assign rfl) ?_
  refine q_nil (tail0 (fun wt hxt => ?_))
  replace hE := hE.trans hxt
  refine wl_val hW rfl rfl (x_assign rfl) ?_
  refine wl_nil ?_
  refine nx_then ?_
  refine wc_seq ?_
  refine wc_seq ?_
  refine wc_region ?_
  refine wl_val hW rfl rfl (x_move rfl) ?_
  refine wl_val hW rfl rfl (x_len Try.underlying80 rfl) ?_
  refine wl_val hW rfl rfl (x_move rfl) ?_
  refine wl_nil ?_
  refine nx_then ?_
  refine wc_block ?_
  refine wc_loop (σ := Nat) (fun s => [(2, .string (stretchL ts[0].a ts[0].z (ts.take s)).1), (3, .string (stretchL ts[0].a ts[0].z (ts.take s)).2), (14, .slice (some ⟨b0, o0, none⟩) ts.length cap), (15, .int .i64 (ts.length : Nat)), (16, .int .i64 (s : Nat))]) (fun s w' => s ≤ ts.length ∧ Ext w w') (fun s => ts.length - s) 0 ?_ ?_ ?_
  · exact ⟨Nat.zero_le _, hE⟩
  · repeat (first | exact sub_nil | refine sub_cons rfl ?_)
  · rintro s wr ⟨hs, hE⟩
    refine wc_seq ?_
    refine wc_region ?_
    refine wl_val hW rfl rfl (x_lss rfl rfl) ?_
    refine wl_nil ?_
    refine nx_then ?_
    refine wc_seq ?_
    refine wc_dec rfl (fun hc => ?_) (fun hc => ?_)
    · refine wc_skip ?_
      refine nx_then ?_
      refine wc_seq ?_
      refine wc_block ?_
      refine wc_seq ?_
      have hlt : s < ts.length := by omega
      obtain ⟨b, o, cap', e1, hA, hC18⟩ := (hR.ext hE).at s hlt
      cases e1
      refine wc_region ?_
      refine wl_val hW rfl rfl (x_indexAddr Try.underlying80 ag87.siz rfl rfl (by omega) (by omega)) ?_
      refine wl_val hW rfl rfl (x_loadA ag87 rfl hC18 rfl) ?_
      refine wl_alloc (cs := [.int .i64 0, .int .i64 0, .string ⟨#[]⟩, .string ⟨#[]⟩, .int .i64 0]) hW rfl rfl Try.zeroValue87 rfl ?_
      intro b5 w5 hl5 hB5 hx5
      have g5 : w.heap.size ≤ b5 := Nat.le_trans hE.size hl5
      replace hE := hE.trans hx5
      refine wl_storeA hW rfl ag87 rfl rfl (cellsT_one _) rfl hB5 rfl ?_
      intro wS hBS hkS
      replace hB5 := hBS
      clear hBS
      replace hE := hE.store hkS g5
      refine wl_nil ?_
      refine nx_then ?_
      refine wc_draw' 9 hW mixed (by kernel_rfl) (fun w0 hx0 => ?_)
      replace hB5 := hB5.ext hx0
      replace hE := hE.trans hx0
      refine q_val rfl rfl (fun _ hx => x_move rfl) ?_
      refine q_val rfl rfl (fun _ hx => x_fieldAddr Try.underlying87 rfl fl9.siz rfl) ?_
      refine q_val rfl rfl (fun _ hx => x_load fl9 rfl (hx.cell (hB5.cell (o := 2) rfl))) ?_
      refine q_val rfl rfl (fun _ hx => x_smin rfl rfl) ?_
      refine q_val rfl rfl (fun _ hx => x_move rfl) ?_
      refine q_val rfl rfl (fun _ hx => x_fieldAddr Try.underlying87 rfl fl9.siz rfl) ?_
      refine q_val rfl rfl (fun _ hx => x_load fl9 rfl (hx.cell (hB5.cell (o := 3) rfl))) ?_
      refine q_val rfl rfl (fun _ hx => x_smax rfl rfl) ?_
      refine q_val rfl rfl (fun _ hx => x_assign rfl) ?_
      refine q_nil (tail0 (fun wt hxt => ?_))
      replace hB5 := hB5.ext hxt
      replace hE := hE.trans hxt
      refine wl_val hW rfl rfl (x_assign rfl) ?_
      refine wl_nil ?_
      refine nx_block ?_
      refine nx_then ?_
      refine wc_region ?_
      refine wl_val hW rfl rfl (x_inc (s := s) rfl (by omega)) ?_
      refine wl_val hW rfl rfl (x_move rfl) ?_
      refine wl_nil ?_
      exact nx_next (s + 1) (by omega) ⟨hlt, hE⟩ (by dsimp only; rw [stretchL_take hlt]; repeat (first | exact sub_nil | refine sub_cons rfl ?_))
    · refine wc_exit ?_
      refine nx_then_exit ?_
      refine nx_then_exit ?_
      refine nx_block_exit ?_
      refine nx_then ?_
      refine wc_seq ?_
      have hsl : s = ts.length := by omega
      refine wc_region ?_
      refine wl_val hW rfl rfl (x_move rfl) ?_
      refine wl_val hW rfl rfl (x_move rfl) ?_
      refine wl_val hW rfl rfl (x_assign rfl) ?_
      refine wl_val hW rfl rfl (x_assign rfl) ?_
      refine wl_nil ?_
      refine nx_then ?_
      refine wc_ret ?_
      exact ends_ret (res_tmp2 Try.results92 rfl rfl) ⟨by rw [hsl, List.take_length], hE⟩
theorem C93 {A : Nat → Prop} {w : World} {ad : Option Addr} {n c : Nat} {ts : List Tb} (hR : TRow A w (.slice ad n c) ts) : Rt Try.prog 93 [.slice ad n c] w fun r w' => r = .slice (if n = 0 then ad else ad.map (·.add (0 * 5))) (n - 0) (n - 0) ∧ Ext w w' := by
  obtain ⟨ad', cap, e, hcap, hlen⟩ := hR.form
  cases e
  have hW := hWw
  have hFF := hFw
  have hE : Ext w w := Keep.refl _ _
  refine rt_body Try.func93 rfl Try.ntmps93 rfl ?_
  refine wc_seq ?_
  refine wc_region ?_
  refine wl_val hW rfl rfl (x_assign rfl) ?_
  refine wl_nil ?_
  refine nx_then ?_
  refine wc_seq ?_
  refine wc_region ?_
  refine wl_val hW rfl rfl (x_move rfl) ?_
  refine wl_val hW rfl rfl (x_move rfl) ?_
  refine wl_val hW rfl rfl (x_len Try.underlying80 rfl) ?_
  refine wl_val hW rfl rfl (x_move rfl) ?_
  refine wl_val hW rfl rfl (x_len Try.underlying80 rfl) ?_
  refine wl_val hW rfl rfl (x_slice (q1 := .i64) (q2 := .i64) (q3 := .i64) (l := 0) (h' := ts.length) (m' := ts.length) Try.underlying80 ag87.siz rfl (fun a h => rfl) (fun a h => by simp only [Option.map_some]; rw [h.ev rfl]) (fun a h => by simp only [Option.map_some]; rw [h.ev rfl]) (sbhm hcap)) ?_
  refine wl_val hW rfl rfl (x_assign rfl) ?_
  refine wl_nil ?_
  refine nx_then ?_
  refine wc_ret ?_
  exact ends_ret (res_tmp Try.results93 rfl) ⟨rfl, hE⟩
theorem C98 {w : World} {t : Tb} {b7 b6 : Nat} {first last : ByteArray} (h7 : Blk w b7 [.string last] 9) (h6 : Blk w b6 [.string first] 9) : Rt Try.prog 98 [.agg (cellsT t).toArray, .pointer (some ⟨b7, 0, none⟩), .pointer (some ⟨b6, 0, none⟩)] w fun r w' => r = .bool (offB first last t) ∧ Ext w w' := by
  have hW := hWw
  have hFF := hFw
  have hE : Ext w w := Keep.refl _ _
  refine rt_body Try.func98 rfl Try.ntmps98 rfl ?_
  refine wc_seq ?_
  refine wc_region ?_
  refine wl_box hW rfl rfl rfl rfl ?_
  intro b3 w3 hl3 hB3 hx3
  have g3 : w.heap.size ≤ b3 := Nat.le_trans hE.size hl3
  replace hE := hE.trans hx3
  refine wl_val hW rfl rfl (x_assign rfl) ?_
  refine wl_nil ?_
  refine nx_then ?_
  refine wc_seq ?_
  refine wc_cut [(4, .bool (offB first last t))] (fun w' => w' = w3) ?_ ?_
  · refine wc_region ?_
    refine wl_val hW rfl rfl (x_fieldAddr Try.underlying87 rfl fl9.siz rfl) ?_
    refine wl_val hW rfl rfl (x_load fl9 rfl (hB3.cell (o := 2) rfl)) ?_
    refine wl_val hW rfl rfl (x_load fl9 rfl ((h7.ext hE).cell rfl)) ?_
    refine wl_val hW rfl rfl (x_sgt rfl rfl) ?_
    refine wl_val hW rfl rfl (x_move rfl) ?_
    refine wl_bcases (d := 9) rfl (fun hg9 => ?_) (fun hg9 => ?_)
    · refine wl_off hW rfl rfl ?_
      refine wl_off hW rfl rfl ?_
      refine wl_off hW rfl rfl ?_
      refine wl_off hW rfl rfl ?_
      refine wl_val hW rfl rfl (x_pickT rfl rfl) ?_
      refine wl_val hW rfl rfl (x_assign rfl) ?_
      refine wl_nil ?_
      exact nx_cut (by unfold offB; rw [hg9, Bool.true_or]; repeat (first | exact sub_nil | refine sub_cons rfl ?_)) rfl
    · refine wl_val hW rfl rfl (x_fieldAddr Try.underlying87 rfl fl9.siz rfl) ?_
      refine wl_val hW rfl rfl (x_load fl9 rfl (hB3.cell (o := 3) rfl)) ?_
      refine wl_val hW rfl rfl (x_load fl9 rfl ((h6.ext hE).cell rfl)) ?_
      refine wl_val hW rfl rfl (x_slss rfl rfl) ?_
      refine wl_val hW rfl rfl (x_pickF rfl rfl) ?_
      refine wl_val hW rfl rfl (x_assign rfl) ?_
      refine wl_nil ?_
      exact nx_cut (by unfold offB; rw [hg9, Bool.false_or]; repeat (first | exact sub_nil | refine sub_cons rfl ?_)) rfl
  · rintro w' rfl
    refine nx_then ?_
    refine wc_ret ?_
    exact ends_ret (res_tmp Try.results98 rfl) ⟨rfl, hE⟩
theorem C99 {A : Nat → Prop} {w : World} {v : Value} {ts : List Tb} {b7 b6 : Nat} {first last : ByteArray} (hR : TRow A w v ts) (h7 : Blk w b7 [.string last] 9) (h6 : Blk w b6 [.string first] 9) :
    Rt Try.prog 99 [v, .func (.func 98) #[] #[.pointer (some ⟨b7, 0, none⟩), .pointer (some ⟨b6, 0, none⟩)]] w fun r w' => ((r = .int .i64 (-1) ∧ ∀ t ∈ ts, offB first last t = false) ∨ ∃ i : Nat, ∃ h : i < ts.length, r = .int .i64 i ∧ offB first last ts[i] = true ∧ ∀ (j : Nat) (h : j < ts.length), j < i → offB first last ts[j] = false) ∧ Ext w w' := by
  obtain ⟨ad, cap, rfl, hcap, hlen⟩ := hR.form
  replace hR := hR.mono (A' := fun k => k < w.heap.size) fun k hk _ => hk
  have hW := hWw
  have hFF := hFw
  have hE : Ext w w := Keep.refl _ _
  refine rt_body Try.func99 rfl Try.ntmps99 rfl ?_
  refine wc_seq ?_
  refine wc_region ?_
  refine wl_val hW rfl rfl (x_assign rfl) ?_
  refine wl_nil ?_
  refine nx_then ?_
  refine wc_seq ?_
  refine wc_seq ?_
  refine wc_region ?_
  refine wl_val hW rfl rfl (x_move rfl) ?_
  refine wl_val hW rfl rfl (x_len Try.underlying80 rfl) ?_
  refine wl_val hW rfl rfl (x_move rfl) ?_
  refine wl_nil ?_
  refine nx_then ?_
  refine wc_block ?_
  refine wc_loop (σ := Nat) (fun s => [(0, .slice ad ts.length cap), (1, .func (.func 98) #[] #[.pointer (some ⟨b7, 0, none⟩), .pointer (some ⟨b6, 0, none⟩)]), (7, .int .i64 (ts.length : Nat)), (8, .int .i64 (s : Nat))]) (fun s w' => (s ≤ ts.length ∧ ∀ (j : Nat) (h : j < ts.length), j < s → offB first last ts[j] = false) ∧ Ext w w') (fun s => ts.length - s) 0 ?_ ?_ ?_
  · exact ⟨⟨Nat.zero_le _, fun j _ h => absurd h (Nat.not_lt_zero _)⟩, hE⟩
  · repeat (first | exact sub_nil | refine sub_cons rfl ?_)
  · rintro s wr ⟨⟨hs, hno⟩, hE⟩
    refine wc_seq ?_
    refine wc_region ?_
    refine wl_val hW rfl rfl (x_lss rfl rfl) ?_
    refine wl_nil ?_
    refine nx_then ?_
    refine wc_seq ?_
    refine wc_dec rfl (fun hc => ?_) (fun hc => ?_)
    · refine wc_skip ?_
      refine nx_then ?_
      refine wc_seq ?_
      refine wc_block ?_
      refine wc_seq ?_
      refine wc_region ?_
      refine wl_val hW rfl rfl (x_move rfl) ?_
      refine wl_val hW rfl rfl (x_assign rfl) ?_
      refine wl_nil ?_
      refine nx_then ?_
      refine wc_seq ?_
      refine wc_region ?_
      have hlt : s < ts.length := by omega
      obtain ⟨b, o, cap', e1, hA, hC14⟩ := (hR.ext hE).at s hlt
      cases e1
      refine wl_val hW rfl rfl (x_move rfl) ?_
      refine wl_val hW rfl rfl (x_move rfl) ?_
      refine wl_val hW rfl rfl (x_move rfl) ?_
      refine wl_val hW rfl rfl (x_indexAddr Try.underlying80 ag87.siz rfl rfl (by omega) (by omega)) ?_
      refine wl_val hW rfl rfl (x_loadA ag87 rfl hC14 rfl) ?_
      refine wl_call hW rfl rfl (x_callv (cap := [.pointer (some ⟨b7, 0, none⟩), .pointer (some ⟨b6, 0, none⟩)]) en98 rfl rfl) ((C98 (h7.ext hE) (h6.ext hE)).inF hFF) ?_
      rintro _ wC ⟨rfl, hxC⟩
      replace hE := hE.trans hxC
      refine wl_nil ?_
      refine nx_then ?_
      refine wc_bool rfl (fun hc => ?_) (fun hc => ?_)
      · refine wc_seq ?_
        refine wc_region ?_
        refine wl_val hW rfl rfl (x_move rfl) ?_
        refine wl_val hW rfl rfl (x_assign rfl) ?_
        refine wl_nil ?_
        refine nx_then ?_
        refine wc_ret ?_
        refine nx_block_ret ?_
        refine nx_then_ret ?_
        refine nx_then_ret ?_
        refine nx_block_ret ?_
        refine nx_then_ret ?_
        exact ends_ret (res_tmp Try.results99 rfl) ⟨.inr ⟨s, hlt, rfl, hc, hno⟩, hE⟩
      · refine wc_skip ?_
        refine nx_block ?_
        refine nx_then ?_
        refine wc_region ?_
        refine wl_val hW rfl rfl (x_inc (s := s) rfl (by omega)) ?_
        refine wl_val hW rfl rfl (x_move rfl) ?_
        refine wl_nil ?_
        exact nx_next (s + 1) (by omega) ⟨⟨hlt, fun j h hj => by rcases Nat.lt_succ_iff_lt_or_eq.1 hj with hj | rfl; exact hno j h hj; exact hc⟩, hE⟩ (by repeat (first | exact sub_nil | refine sub_cons rfl ?_))
    · refine wc_exit ?_
      refine nx_then_exit ?_
      refine nx_then_exit ?_
      refine nx_block_exit ?_
      refine nx_then ?_
      refine wc_seq ?_
      refine wc_region ?_
      refine wl_val hW rfl rfl (x_assign rfl) ?_
      refine wl_nil ?_
      refine nx_then ?_
      refine wc_ret ?_
      exact ends_ret (res_tmp Try.results99 rfl) ⟨.inl ⟨rfl, fun t ht => by obtain ⟨j, hj, rfl⟩ := List.getElem_of_mem ht; exact hno j hj (by omega)⟩, hE⟩
end Go.Proofs.Ytblbddamebbgaaa.K

