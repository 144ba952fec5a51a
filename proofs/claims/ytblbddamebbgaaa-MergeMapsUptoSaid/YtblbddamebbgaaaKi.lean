/- Walks: copies, groups, newest. -/
import Derived.Test.YtblbddamebbgaaaKg
import Derived.Test.YtblbddamebbgaaaKh
namespace Go.Proofs.Ytblbddamebbgaaa.K
open Go Go.RowKit
set_option linter.unusedVariables false
set_option linter.unusedSimpArgs false

theorem C65 {A : Nat → Prop} {w : World} {v : Value} {l : List UInt8} (hv : Byts A w v l) (hl : l.length ≤ 70368744177664) : Rt Try.prog 65 [v] w fun r w' => Byts (fun k => w.heap.size ≤ k) w' r l ∧ Ext w w' := by
  obtain ⟨ad, cap, rfl, hcap⟩ := hv.form
  have hW := hWw
  have hFF := hFw
  have hE : Ext w w := Keep.refl _ _
  refine rt_body Try.func65 rfl Try.ntmps65 rfl ?_
  refine wc_seq ?_
  refine wc_region ?_
  refine wl_val hW rfl rfl (x_assign rfl) ?_
  refine wl_nil ?_
  refine nx_then ?_
  refine wc_seq ?_
  refine wc_seq ?_
  refine wc_region ?_
  refine wl_val hW rfl rfl (x_move rfl) ?_
  refine wl_val hW rfl rfl (x_nilEq Try.underlying23 rfl rfl) ?_
  refine wl_nil ?_
  refine nx_then ?_
  refine wc_bool rfl (fun hc => ?_) (fun hc => ?_)
  · refine wc_seq ?_
    refine wc_region ?_
    refine wl_val hW rfl rfl (x_assign rfl) ?_
    refine wl_nil ?_
    refine nx_then ?_
    refine wc_ret ?_
    refine nx_then_ret ?_
    have hl0 : l = [] := by
      obtain ⟨ad', cap', e, -, h⟩ := hv
      cases e
      cases l with
      | nil => rfl
      | cons u l => obtain ⟨b, o, h, -⟩ := h (by simp); subst h; simp at hc
    exact ends_ret (res_tmp Try.results65 rfl) ⟨by rw [hl0]; exact byts_nil _ _, hE⟩
  · refine wc_skip ?_
    refine nx_then ?_
    refine wc_seq ?_
    refine wc_region ?_
    refine wl_buildSlice (parts := []) hW rfl rfl Try.underlying23 fl5.siz Try.zeroValue5 rfl rfl rfl (by omega) ?_
    intro b5 w5 hl5 hB5 hx5
    have g5 : w.heap.size ≤ b5 := Nat.le_trans hE.size hl5
    replace hE := hE.trans hx5
    refine wl_val hW rfl rfl (x_move rfl) ?_
    have hxw := hE
    refine wl_cloneB hW rfl rfl rfl rfl hB5 (hv.ext hE) hl ?_
    intro v7 w7 hv7 hk7
    replace hE := hE.store hk7 g5
    refine wl_val hW rfl rfl (x_assign rfl) ?_
    refine wl_nil ?_
    refine nx_then ?_
    refine wc_ret ?_
    exact ends_ret (res_tmp Try.results65 rfl) ⟨hv7.mono (fun k _ h => by rcases h with h | h; omega; exact Nat.le_trans hxw.size h), hE⟩
theorem C62 {A : Nat → Prop} {w : World} {bv : Value} {e : Ent} (hv : Byts A w bv e.v) (hok : EntOk e) : Rt Try.prog 62 [.agg (cellsOf e bv).toArray] w fun r w' => (∃ bv', r = .agg (cellsOf e bv').toArray ∧ Byts (fun k => w.heap.size ≤ k) w' bv' e.v) ∧ Ext w w' := by
  obtain ⟨ad, cap, rfl, hcap⟩ := hv.form
  have hW := hWw
  have hFF := hFw
  have hE : Ext w w := Keep.refl _ _
  refine rt_body Try.func62 rfl Try.ntmps62 rfl ?_
  refine wc_seq ?_
  refine wc_region ?_
  refine wl_box hW rfl rfl rfl rfl ?_
  intro b1 w1 hl1 hB1 hx1
  have g1 : w.heap.size ≤ b1 := Nat.le_trans hE.size hl1
  replace hE := hE.trans hx1
  refine wl_alloc (cs := [.string ⟨#[]⟩, .int .u64 0, .bool false, .slice none 0 0]) hW rfl rfl Try.zeroValue25 rfl ?_
  intro b2 w2 hl2 hB2 hx2
  have g2 : w.heap.size ≤ b2 := Nat.le_trans hE.size hl2
  have n2_1 : b2 ≠ b1 := Nat.ne_of_gt (Nat.lt_of_lt_of_le hB1.lt hl2)
  replace hB1 := hB1.ext hx2
  replace hE := hE.trans hx2
  refine wl_nil ?_
  refine nx_then ?_
  refine wc_seq ?_
  refine wc_region ?_
  refine wl_val hW rfl rfl (x_fieldAddr Try.underlying25 rfl fl23.siz rfl) ?_
  refine wl_val hW rfl rfl (x_load fl23 rfl (hB1.cell (o := 3) rfl)) ?_
  have hx0 := hE.size
  have hlt1 := hB1.lt
  have hlt2 := hB2.lt
  refine wl_call hW rfl rfl (x_call en65 rfl) ((C65 (hv.ext hE) (by have := hok.v; omega)).inF hFF) ?_
  rintro v5 wC ⟨hv5, hxC⟩
  obtain ⟨a5, c5, e5, -⟩ := hv5.form
  subst e5
  replace hB1 := hB1.ext hxC
  replace hB2 := hB2.ext hxC
  replace hE := hE.trans hxC
  refine wl_val hW rfl rfl (x_fieldAddr Try.underlying25 rfl fl23.siz rfl) ?_
  refine wl_store hW rfl fl23 rfl rfl rfl hB1 rfl ?_
  intro wS hBS hkS
  replace hv5 := hv5.ck (CK.of_keep hkS (fun k _ h => by intro e; omega))
  replace hB2 := hB2.keep hkS n2_1
  replace hB1 := hBS
  clear hBS
  replace hE := hE.store hkS g1
  refine wl_nil ?_
  refine nx_then ?_
  refine wc_seq ?_
  refine wc_region ?_
  refine wl_val hW rfl rfl (x_loadA ag25 rfl hB1.cells rfl) ?_
  refine wl_storeA hW rfl ag25 rfl rfl rfl rfl hB2 rfl ?_
  intro wS hBS hkS
  replace hv5 := hv5.ck (CK.of_keep hkS (fun k _ h => by intro e; omega))
  replace hB1 := hB1.keep hkS n2_1.symm
  replace hB2 := hBS
  clear hBS
  replace hE := hE.store hkS g2
  refine wl_nil ?_
  refine nx_then ?_
  refine wc_ret ?_
  exact ends_ret (res_cell Try.results62 rfl (run_loadVar_cells ag25 hB2.cells rfl)) ⟨⟨_, rfl, hv5.mono (fun k _ h => by omega)⟩, hE⟩
theorem C60 {w : World} {ad : Option Addr} {n c : Nat} : Rt Try.prog 60 [.slice ad n c] w fun r w' => (∃ b, r = .func (.func 83) #[] #[.pointer (some ⟨b, 0, none⟩)] ∧ w.heap.size ≤ b ∧ Blk w' b [.slice ad n c] 26) ∧ Ext w w' := by
  have hW := hWw
  have hFF := hFw
  have hE : Ext w w := Keep.refl _ _
  refine rt_body Try.func60 rfl Try.ntmps60 rfl ?_
  refine wc_seq ?_
  refine wc_region ?_
  refine wl_box hW rfl rfl rfl rfl ?_
  intro b1 w1 hl1 hB1 hx1
  have g1 : w.heap.size ≤ b1 := Nat.le_trans hE.size hl1
  replace hE := hE.trans hx1
  refine wl_val hW rfl rfl (x_assign rfl) ?_
  refine wl_nil ?_
  refine nx_then ?_
  refine wc_seq ?_
  refine wc_region ?_
  refine wl_val hW rfl rfl (x_makeFunc (xs := [.tmp 1]) rfl) ?_
  refine wl_val hW rfl rfl (x_assign rfl) ?_
  refine wl_nil ?_
  refine nx_then ?_
  refine wc_ret ?_
  exact ends_ret (res_tmp Try.results60 rfl) ⟨⟨b1, rfl, g1, hB1⟩, hE⟩
theorem C61 {A : Nat → Prop} {w : World} {v : Value} {es : List Ent} {up : Int} (hR : Row A w v es) : Rt Try.prog 61 [v, .int .u64 up] w fun r w' => r = .int .i64 (newestN up es) ∧ Ext w w' := by
  obtain ⟨ad, cap, rfl, hcap, hlen⟩ := hR.form
  have hW := hWw
  have hFF := hFw
  have hE : Ext w w := Keep.refl _ _
  refine rt_body Try.func61 rfl Try.ntmps61 rfl ?_
  refine wc_seq ?_
  refine wc_region ?_
  refine wl_val hW rfl rfl (x_assign rfl) ?_
  refine wl_nil ?_
  refine nx_then ?_
  refine wc_seq ?_
  refine wc_seq ?_
  refine wc_region ?_
  refine wl_val hW rfl rfl (x_move rfl) ?_
  refine wl_val hW rfl rfl (x_len Try.underlying26 rfl) ?_
  refine wl_val hW rfl rfl (x_move rfl) ?_
  refine wl_nil ?_
  refine nx_then ?_
  refine wc_block ?_
  refine wc_loop (σ := Nat) (fun s => [(0, .slice ad es.length cap), (1, .int .u64 up), (7, .slice ad es.length cap), (8, .int .i64 es.length), (9, .int .i64 s)]) (fun s w' => (s ≤ es.length ∧ (∀ j (hj : j < es.length), j < s → ¬ es[j].s ≤ up)) ∧ Ext w w') (fun s => es.length - s) 0 ?_ ?_ ?_
  · exact ⟨⟨Nat.zero_le _, fun j _ h => absurd h (Nat.not_lt_zero _)⟩, hE⟩
  · repeat (first | exact sub_nil | refine sub_cons rfl ?_)
  · rintro s wr ⟨hs, hE⟩
    refine wc_seq ?_
    refine wc_region ?_
    refine wl_val hW rfl rfl (x_lss rfl rfl) ?_
    refine wl_nil ?_
    refine nx_then ?_
    refine wc_seq ?_
    refine wc_dec rfl (fun hc => ?_) (fun hc => ?_)
    · have hlt : s < es.length := by omega
      obtain ⟨b, o, cap', bv, e1, hA, hC12, hb1, hok1⟩ := (hR.ext hE).at s hlt
      cases e1
      obtain ⟨av, cv, hbv, hcv⟩ := hb1.form
      subst hbv
      refine wc_skip ?_
      refine nx_then ?_
      refine wc_seq ?_
      refine wc_block ?_
      refine wc_seq ?_
      refine wc_region ?_
      refine wl_val hW rfl rfl (x_move rfl) ?_
      refine wl_val hW rfl rfl (x_indexAddr Try.underlying26 ag25.siz rfl rfl (by omega) (by omega)) ?_
      refine wl_val hW rfl rfl (x_loadA ag25 rfl hC12 rfl) ?_
      refine wl_alloc (cs := [.string ⟨#[]⟩, .int .u64 0, .bool false, .slice none 0 0]) hW rfl rfl Try.zeroValue25 rfl ?_
      intro b6 w6 hl6 hB6 hx6
      have g6 : w.heap.size ≤ b6 := Nat.le_trans hE.size hl6
      replace hE := hE.trans hx6
      refine wl_val hW rfl rfl (x_assign rfl) ?_
      refine wl_storeA hW rfl ag25 rfl rfl rfl rfl hB6 rfl ?_
      intro wS hBS hkS
      replace hB6 := hBS
      clear hBS
      replace hE := hE.store hkS g6
      refine wl_nil ?_
      refine nx_then ?_
      refine wc_seq ?_
      refine wc_region ?_
      refine wl_val hW rfl rfl (x_fieldAddr Try.underlying25 rfl fl22.siz rfl) ?_
      refine wl_val hW rfl rfl (x_load fl22 rfl (hB6.cell (o := 1) rfl)) ?_
      refine wl_val hW rfl rfl (x_move rfl) ?_
      refine wl_val hW rfl rfl (x_leq rfl rfl) ?_
      refine wl_nil ?_
      refine nx_then ?_
      refine wc_dec rfl (fun hc => ?_) (fun hc => ?_)
      · refine wc_seq ?_
        refine wc_region ?_
        refine wl_val hW rfl rfl (x_move rfl) ?_
        refine wl_val hW rfl rfl (x_assign rfl) ?_
        refine wl_nil ?_
        refine nx_then ?_
        refine wc_ret ?_
        refine nx_block_ret ?_
        refine nx_then_ret ?_
        refine nx_then_ret ?_
        refine nx_block_ret ?_
        refine nx_then_ret ?_
        exact ends_ret (res_tmp Try.results61 rfl) ⟨by rw [newestN_at es s hlt (fun j hj => hs.2 j (by omega) hj) hc], hE⟩
      · refine wc_skip ?_
        refine nx_block ?_
        refine nx_then ?_
        refine wc_region ?_
        refine wl_val hW rfl rfl (x_inc rfl (by omega)) ?_
        refine wl_val hW rfl rfl (x_move rfl) ?_
        refine wl_nil ?_
        exact nx_next (s + 1) (by omega) ⟨⟨hlt, fun j hj h => by rcases Nat.lt_succ_iff_lt_or_eq.1 h with h | rfl; exact hs.2 j hj h; exact hc⟩, hE⟩ (by repeat (first | exact sub_nil | refine sub_cons rfl ?_))
    · refine wc_exit ?_
      refine nx_then_exit ?_
      refine nx_then_exit ?_
      refine nx_block_exit ?_
      refine nx_then ?_
      refine wc_seq ?_
      refine wc_region ?_
      refine wl_val hW rfl rfl (x_move rfl) ?_
      refine wl_val hW rfl rfl (x_len Try.underlying26 rfl) ?_
      refine wl_val hW rfl rfl (x_assign rfl) ?_
      refine wl_nil ?_
      refine nx_then ?_
      refine wc_ret ?_
      exact ends_ret (res_tmp Try.results61 rfl) ⟨by rw [newestN_none es (fun j hj => hs.2 j hj (by omega))], hE⟩
theorem grps_step (f o : Nat) (e : Ent) (tl : List Ent) (n : Nat) (hn : n ≤ tl.length) (h1 : ∀ j (h : j < tl.length), j < n → tl[j].k = e.k) (h2 : ∀ h : n < tl.length, tl[n].k ≠ e.k) :
    grps (f + 1) o (e :: tl) = (o, e :: tl.take n) :: grps f (o + 1 + n) (tl.drop n) := by
  obtain ⟨i1, i2⟩ := take_drop_while (p := fun x => decide (x.k = e.k)) tl n hn (fun j h hj => decide_eq_true (h1 j h hj)) (fun h => decide_eq_false (h2 h))
  simp only [grps, i1, i2, List.length_take, Nat.min_eq_left hn]
theorem grps_nil (f o : Nat) : grps f o [] = [] := by cases f <;> rfl
/-- A group that lies in es. -/
def IsGrp (es : List Ent) (x : Nat × List Ent) : Prop := ∃ p s, es = p ++ x.2 ++ s ∧ p.length = x.1
abbrev Grp (es : List Ent) := {x : Nat × List Ent // IsGrp es x}
theorem C83 {A S : Nat → Prop} {w : World} {ad : Option Addr} {cap b13 : Nat} {es : List Ent} (hR : Row A w (.slice ad es.length cap) es) (hA : ∀ k, A k → S k) (hS : S b13) (hB : Blk w b13 [.slice ad es.length cap] 26) :
    SeqStopsK (α := {x : Nat × List Ent // IsGrp es x}) Fence.wide 8 Try.prog 83 #[.pointer (some ⟨b13, 0, none⟩)] (fun x => #[gval ad x.1]) (Keep S) (fun xs => xs.map (·.1) = grps es.length 0 es) (fun pre => pre.map (·.1) <+: grps es.length 0 es) (es.length + 1) w := by
  intro l J Jx W hW' hJ hJx hY hJ0
  have hRW := hR.ext (Ext.of_below hW')
  have hBW := hB.ext (Ext.of_below hW')
  have hcapl : es.length ≤ cap ∧ es.length ≤ 1099511627776 := by obtain ⟨_, _, e, h1, h2⟩ := hR.form; cases e; exact ⟨h1, h2⟩
  clear hR hB hW'
  have hJd : ∀ pre w1 w2, J pre w1 → Ext w1 w2 → J pre w2 := fun pre w1 w2 h he => hJ pre w1 w2 none h he.grown (fun r e => by cases e)
  have hJxd : ∀ pre w1 w2, Jx pre w1 → Ext w1 w2 → Jx pre w2 := fun pre w1 w2 h he => hJx pre w1 w2 none h he.grown (fun r e => by cases e)
  refine CallsIn.mono (R := ok1 fun v W' => (∃ ys : List {x : Nat × List Ent // IsGrp es x}, ys.map (·.1) = grps es.length 0 es ∧ J ys W') ∨ (∃ pre : List {x : Nat × List Ent // IsGrp es x}, pre.map (·.1) <+: grps es.length 0 es ∧ Jx pre W')) ?_ (fun e w' ⟨v, he, h⟩ => ⟨⟨v, he⟩, h⟩)
  rw [show (#[Value.func (.yield l) #[] #[]] ++ #[Value.pointer (some ⟨b13, 0, none⟩)] : Array Value) = [Value.func (.yield l) #[] #[], Value.pointer (some ⟨b13, 0, none⟩)].toArray from by simp]
  have hW := hWw
  have hFF := hFw
  refine rt_bodyn Try.func83 rfl Try.ntmps83 rfl ?_
  refine wc_seq ?_
  refine wc_region ?_
  refine wl_val hW rfl rfl (x_assign rfl) ?_
  refine wl_nil ?_
  refine nx_then ?_
  refine wc_block ?_
  refine wc_loop (σ := List {x : Nat × List Ent // IsGrp es x} × List Ent × List Ent) (fun s => [(0, .func (.yield l) #[] #[]), (1, .pointer (some ⟨b13, 0, none⟩)), (3, .int .i64 (s.2.1.length : Nat))]) (fun s w' => (es = s.2.1 ++ s.2.2 ∧ (∃ f, s.2.2.length ≤ f ∧ grps es.length 0 es = s.1.map (·.1) ++ grps f s.2.1.length s.2.2) ∧ s.1.length ≤ s.2.1.length ∧ J s.1 w') ∧ Keep S W w') (fun s => s.2.2.length) ([], [], es) ?_ ?_ ?_
  · exact ⟨⟨rfl, ⟨es.length, Nat.le_refl _, rfl⟩, Nat.le_refl _, hJ0⟩, Keep.refl _ _⟩
  · repeat (first | exact sub_nil | refine sub_cons rfl ?_)
  · rintro ⟨pre, done, rest⟩ wr ⟨⟨he, ⟨f, hf, hg⟩, hpl, hj⟩, hK⟩
    dsimp only at he hf hg hpl hj
    have hBr := hBW.keep hK hS
    refine wc_seq ?_
    refine wc_seq ?_
    refine wc_region ?_
    refine wl_val hW rfl rfl (x_move rfl) ?_
    refine wl_val hW rfl rfl (x_load fl26 rfl (hBr.cell (o := 0) rfl)) ?_
    refine wl_val hW rfl rfl (x_len Try.underlying26 rfl) ?_
    refine wl_val hW rfl rfl (x_lss rfl rfl) ?_
    refine wl_nil ?_
    refine nx_then ?_
    refine wc_dec rfl (fun hc => ?_) (fun hc => ?_)
    · replace hc : ((done.length : Nat) : Int) < es.length := hc
      obtain ⟨e, tl, rfl⟩ : ∃ e tl, rest = e :: tl := by
        cases rest with
        | nil => exfalso; rw [List.append_nil] at he; rw [he] at hc; omega
        | cons e tl => exact ⟨e, tl, rfl⟩
      have hlen : es.length = done.length + 1 + tl.length := by rw [he]; simp; omega
      have hat0 : ∀ h : done.length < es.length, es[done.length] = e := fun h => by subst he; simp
      have hatn : ∀ n (h : done.length + 1 + n < es.length) (h' : n < tl.length), es[done.length + 1 + n] = tl[n] := fun n h h' => by
        subst he
        rw [List.getElem_append_right (by omega)]
        simp only [show done.length + 1 + n - done.length = n + 1 from by omega, List.getElem_cons_succ]
      refine wc_skip ?_
      refine nx_then ?_
      refine wc_block ?_
      refine wc_seq ?_
      refine wc_region ?_
      refine wl_val hW rfl rfl (x_move rfl) ?_
      refine wl_val hW rfl rfl (x_inc (s := done.length) rfl (by omega)) ?_
      refine wl_val hW rfl rfl (x_assign rfl) ?_
      refine wl_nil ?_
      refine nx_then ?_
      refine wc_seq ?_
      refine wc_block ?_
      refine wc_loop (σ := Nat) (fun n => [(0, .func (.yield l) #[] #[]), (1, .pointer (some ⟨b13, 0, none⟩)), (3, .int .i64 (done.length : Nat)), (4, .int .i64 ((done.length + 1 + n : Nat) : Int))]) (fun n w' => (n ≤ tl.length ∧ (∀ j (h : j < tl.length), j < n → tl[j].k = e.k) ∧ J pre w') ∧ Keep S W w') (fun n => tl.length - n) 0 ?_ ?_ ?_
      · exact ⟨⟨Nat.zero_le _, fun j _ h => absurd h (Nat.not_lt_zero _), hj⟩, hK⟩
      · repeat (first | exact sub_nil | refine sub_cons rfl ?_)
      · rintro n wr2 ⟨⟨hn, hk, hj2⟩, hK2⟩
        refine wc_seq ?_
        refine wc_seq ?_
        refine wc_cut [(0, .func (.yield l) #[] #[]), (1, .pointer (some ⟨b13, 0, none⟩)), (3, .int .i64 (done.length : Nat)), (4, .int .i64 ((done.length + 1 + n : Nat) : Int)), (27, .bool (if h : n < tl.length then tl[n].k.toList == e.k.toList else false))] (fun w' => Ext wr2 w') ?_ ?_
        · refine wc_draw' 17 hW mixed (by kernel_rfl) (fun w0 hx0 => ?_)
          have hB0 := (hBW.keep hK2 hS).ext hx0
          have hR0 := (hRW.ck (CK.of_keep hK2 (fun k _ h => hA k h))).ext hx0
          refine q_val rfl rfl (fun _ hx => x_move rfl) ?_
          refine q_val rfl rfl (fun _ hx => x_load fl26 rfl (hx.cell (hB0.cell (o := 0) rfl))) ?_
          refine q_val rfl rfl (fun _ hx => x_len Try.underlying26 rfl) ?_
          refine q_val rfl rfl (fun _ hx => x_lss rfl rfl) ?_
          refine q_val rfl rfl (fun _ hx => x_move rfl) ?_
          refine q_dcases (d := 15) rfl (fun hg15 => ?_) (fun hg15 => ?_)
          · obtain ⟨b, o, cap', v1, e1, hA1, hC18, hb1, hok1⟩ := hR0.at (done.length + 1 + n) (by omega)
            cases e1
            obtain ⟨b', o', cap'', v2, e2, hA2, hC23, hb2, hok2⟩ := hR0.at done.length (by omega)
            cases e2
            refine q_val rfl rfl (fun _ hx => x_load fl26 rfl (hx.cell (hB0.cell (o := 0) rfl))) ?_
            refine q_val rfl rfl (fun _ hx => x_move rfl) ?_
            refine q_val rfl rfl (fun _ hx => x_indexAddr Try.underlying26 ag25.siz rfl rfl (by omega) (by omega)) ?_
            refine q_val rfl rfl (fun _ hx => x_fieldAddr Try.underlying25 rfl fl9.siz rfl) ?_
            refine q_val rfl rfl (fun _ hx => x_load fl9 rfl (hx.cell (hC18 0 _ rfl))) ?_
            refine q_val rfl rfl (fun _ hx => x_load fl26 rfl (hx.cell (hB0.cell (o := 0) rfl))) ?_
            refine q_val rfl rfl (fun _ hx => x_move rfl) ?_
            refine q_val rfl rfl (fun _ hx => x_indexAddr Try.underlying26 ag25.siz rfl rfl (by omega) (by omega)) ?_
            refine q_val rfl rfl (fun _ hx => x_fieldAddr Try.underlying25 rfl fl9.siz rfl) ?_
            refine q_val rfl rfl (fun _ hx => x_load fl9 rfl (hx.cell (hC23 0 _ rfl))) ?_
            refine q_val rfl rfl (fun _ hx => x_seql rfl rfl) ?_
            refine q_val rfl rfl (fun _ hx => x_pickT rfl rfl) ?_
            refine q_nil (tail0 (fun wt hxt => ?_))
            refine wl_nil ?_
            have e27 : (if h : n < tl.length then tl[n].k.toList == e.k.toList else false) = (es[done.length + 1 + n].k.toList == es[done.length].k.toList) := by rw [dif_pos (by omega), hatn n (by omega) (by omega), hat0 (by omega)]
            rw [e27]
            exact nx_cut (by repeat (first | exact sub_nil | refine sub_cons rfl ?_)) (hx0.trans hxt)
          · refine q_off rfl rfl ?_
            refine q_off rfl rfl ?_
            refine q_off rfl rfl ?_
            refine q_off rfl rfl ?_
            refine q_off rfl rfl ?_
            refine q_off rfl rfl ?_
            refine q_off rfl rfl ?_
            refine q_off rfl rfl ?_
            refine q_off rfl rfl ?_
            refine q_off rfl rfl ?_
            refine q_off rfl rfl ?_
            refine q_val rfl rfl (fun _ hx => x_pickF rfl rfl) ?_
            refine q_nil (tail0 (fun wt hxt => ?_))
            refine wl_nil ?_
            rw [show (if h : n < tl.length then tl[n].k.toList == e.k.toList else false) = false from dif_neg (by omega)]
            exact nx_cut (by repeat (first | exact sub_nil | refine sub_cons rfl ?_)) (hx0.trans hxt)
        · intro w2 hE2
          have hj3 := hJd _ _ _ hj2 hE2
          have hK3 := hK2.trans (Keep.of_ext hE2)
          refine nx_then ?_
          refine wc_bool rfl (fun hc => ?_) (fun hc => ?_)
          · have hn1 : n < tl.length := by refine Decidable.byContradiction fun h => ?_; rw [dif_neg h] at hc; cases hc
            have hk1 : tl[n].k = e.k := by rw [dif_pos hn1] at hc; exact ba_ext (by simpa using hc)
            refine wc_skip ?_
            refine nx_then ?_
            refine wc_block ?_
            refine wc_region ?_
            refine wl_val hW rfl rfl (x_move rfl) ?_
            refine wl_val hW rfl rfl (x_inc rfl (by omega)) ?_
            refine wl_val hW rfl rfl (x_assign rfl) ?_
            refine wl_nil ?_
            refine nx_block ?_
            exact nx_next (n + 1) (by omega) ⟨⟨hn1, fun j h hj => by rcases Nat.lt_succ_iff_lt_or_eq.1 hj with hj | rfl; exact hk j h hj; exact hk1, hj3⟩, hK3⟩ (by repeat (first | exact sub_nil | refine sub_cons rfl ?_))
          · have h2 : ∀ h : n < tl.length, tl[n].k ≠ e.k := fun h heq => by rw [dif_pos h, heq] at hc; simp at hc
            obtain ⟨f', rfl⟩ : ∃ f', f = f' + 1 := ⟨f - 1, by simp at hf; omega⟩
            have hstep := grps_step f' done.length e tl n hn hk h2
            have hB2r := hBW.keep hK3 hS
            have elen : (done ++ e :: tl.take n).length = done.length + 1 + n := by simp; omega
            have egv : gval ad (done.length, e :: tl.take n) = .slice (if done.length + 1 + n = done.length then ad else ad.map (·.add (done.length * 4))) (done.length + 1 + n - done.length) (done.length + 1 + n - done.length) := by
              have e1 : (e :: tl.take n).length = done.length + 1 + n - done.length := by simp; omega
              unfold gval; rw [if_neg (by omega), e1]
            have hxg : IsGrp es (done.length, e :: tl.take n) := ⟨done, tl.drop n, by rw [he]; simp, rfl⟩
            have hYa := hY pre ⟨_, hxg⟩ w2 hj3 (by omega)
            refine wc_exit ?_
            refine nx_then_exit ?_
            refine nx_then_exit ?_
            refine nx_block_exit ?_
            refine nx_then ?_
            refine wc_seq ?_
            refine wc_seq ?_
            refine wc_region ?_
            refine wl_val hW rfl rfl (x_move rfl) ?_
            refine wl_val hW rfl rfl (x_load fl26 rfl (hB2r.cell (o := 0) rfl)) ?_
            refine wl_val hW rfl rfl (x_move rfl) ?_
            refine wl_val hW rfl rfl (x_move rfl) ?_
            refine wl_val hW rfl rfl (x_move rfl) ?_
            refine wl_val hW rfl rfl (x_slice3 Try.underlying26 ag25.siz rfl rfl rfl rfl (by omega) (by omega)) ?_
            refine wl_yield (R := fun v W' => ∃ b, v = .bool b ∧ (b = true → J (pre ++ [⟨_, hxg⟩]) W' ∧ Keep S w2 W') ∧ (b = false → Jx (pre ++ [⟨_, hxg⟩]) W')) hW rfl rfl rfl rfl (by rw [← egv]; exact hYa.mono (fun e' W' h => by rcases h with ⟨rfl, h⟩ | ⟨rfl, h⟩; exact ⟨_, rfl, true, rfl, (fun _ => h), (fun h => by cases h)⟩; exact ⟨_, rfl, false, rfl, (fun h => by cases h), (fun _ => h)⟩)) ?_
            rintro v W2 ⟨bb, rfl, hbt, hbf⟩
            refine wl_val hW rfl rfl (x_not rfl) ?_
            refine wl_nil ?_
            refine nx_then ?_
            refine wc_bool rfl (fun hc => ?_) (fun hc => ?_)
            · refine wc_ret ?_
              refine nx_then_ret ?_
              refine nx_block_ret ?_
              refine nx_then_ret ?_
              refine nx_block_ret ?_
              exact ends_ret (res_none Try.results83) (.inr ⟨_, ⟨grps f' (done.length + 1 + n) (tl.drop n), by rw [hg, hstep]; simp⟩, hbf (by simpa using hc)⟩)
            · refine wc_skip ?_
              refine nx_then ?_
              refine wc_region ?_
              refine wl_val hW rfl rfl (x_move rfl) ?_
              refine wl_val hW rfl rfl (x_assign rfl) ?_
              refine wl_nil ?_
              refine nx_block ?_
              have hb1 := hbt (by simpa using hc)
              exact nx_next (pre ++ [⟨_, hxg⟩], done ++ e :: tl.take n, tl.drop n) (by simp; omega) ⟨⟨by simp [he], ⟨f', by simp at hf ⊢; omega, by show _ = (pre ++ [⟨_, hxg⟩] : List {x : Nat × List Ent // IsGrp es x}).map (·.1) ++ grps f' (done ++ e :: tl.take n).length (tl.drop n); rw [elen, hg, hstep]; simp⟩, by show (pre ++ _).length ≤ (done ++ e :: tl.take n).length; rw [elen]; simp; omega, hb1.1⟩, hK3.trans hb1.2⟩ (by show Sub [(0, _), (1, _), (3, .int .i64 (((done ++ e :: tl.take n).length : Nat) : Int))] _; rw [elen]; repeat (first | exact sub_nil | refine sub_cons rfl ?_))
    · refine wc_exit ?_
      refine nx_then_exit ?_
      refine nx_then_exit ?_
      refine nx_block_exit ?_
      replace hc : ¬ ((done.length : Nat) : Int) < es.length := hc
      have hr0 : rest = [] := by cases rest with | nil => rfl | cons e tl => exfalso; rw [he] at hc; simp at hc; omega
      subst hr0
      exact ends_normal (res_none Try.results83) (.inl ⟨pre, by rw [hg, grps_nil, List.append_nil], hj⟩)
end Go.Proofs.Ytblbddamebbgaaa.K

