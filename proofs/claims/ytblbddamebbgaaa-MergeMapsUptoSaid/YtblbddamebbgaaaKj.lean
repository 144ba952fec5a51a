/- Walks: Seen, Prune. -/
import Derived.Test.YtblbddamebbgaaaKi
import Derived.Test.YtblbddamebbgaaaKr
namespace Go.Proofs.Ytblbddamebbgaaa.K
open Go Go.RowKit
set_option linter.unusedVariables false
set_option linter.unusedSimpArgs false

theorem C22 {w : World} {v : Value} {es : List Ent} {up : Int} (hR : Row (fun k => k < w.heap.size) w v es) (hl : es.length ≤ 1048000) :
    Rt Try.prog 22 [v, .int .u64 up] w fun r w' => (∃ rv, r = .tuple #[rv, .int .i64 (if rightB es then 0 else 15)] ∧ Row (fun k => w.heap.size ≤ k) w' rv (if rightB es then seenL up es else [])) ∧ Ext w w' := by
  obtain ⟨ad, cap, rfl, hcap, hlen⟩ := hR.form
  have hW := hWw
  have hFF := hFw
  have hE : Ext w w := Keep.refl _ _
  refine rt_body Try.func22 rfl Try.ntmps22 rfl ?_
  refine wc_seq ?_
  refine wc_region ?_
  refine wl_box hW rfl rfl rfl rfl ?_
  intro b3 w3 hl3 hB3 hx3
  have g3 : w.heap.size ≤ b3 := Nat.le_trans hE.size hl3
  replace hE := hE.trans hx3
  refine wl_val hW rfl rfl (x_assign rfl) ?_
  refine wl_val hW rfl rfl (x_assign rfl) ?_
  refine wl_nil ?_
  refine nx_then ?_
  refine wc_seq ?_
  refine wc_seq ?_
  refine wc_region ?_
  refine wl_val hW rfl rfl (x_move rfl) ?_
  refine wl_call hW rfl rfl (x_call en20 rfl) ((C20 (hR.ext hE)).inF hFF) ?_
  rintro _ wC ⟨rfl, hxC⟩
  replace hB3 := hB3.ext hxC
  replace hE := hE.trans hxC
  refine wl_val hW rfl rfl (x_not rfl) ?_
  refine wl_nil ?_
  refine nx_then ?_
  refine wc_bool rfl (fun hc => ?_) (fun hc => ?_)
  · have hrt : rightB es = false := by simpa using hc
    refine wc_seq ?_
    refine wc_region ?_
    refine wl_val hW rfl rfl (x_assign rfl) ?_
    refine wl_val hW rfl rfl (x_assign rfl) ?_
    refine wl_nil ?_
    refine nx_then ?_
    refine wc_ret ?_
    refine nx_then_ret ?_
    exact ends_ret (res_tmp2 Try.results22 rfl rfl) ⟨⟨_, by rw [hrt]; rfl, by rw [hrt]; exact row_nil _ _⟩, hE⟩
  · refine wc_skip ?_
    refine nx_then ?_
    have hrt : rightB es = true := by simpa using hc
    refine wc_seq ?_
    refine wc_region ?_
    refine wl_alloc (cs := [.slice none 0 0]) hW rfl rfl Try.zeroValue26 rfl ?_
    intro b6 w6 hl6 hB6 hx6
    have g6 : w.heap.size ≤ b6 := Nat.le_trans hE.size hl6
    have n6_3 : b6 ≠ b3 := Nat.ne_of_gt (Nat.lt_of_lt_of_le hB3.lt hl6)
    replace hB3 := hB3.ext hx6
    replace hE := hE.trans hx6
    refine wl_nil ?_
    refine nx_then ?_
    refine wc_seq ?_
    refine wc_seq ?_
    refine wc_region ?_
    refine wl_val hW rfl rfl (x_move rfl) ?_
    refine wl_call hW rfl rfl (x_call en60 rfl) (C60.inF hFF) ?_
    rintro _ wG ⟨⟨bg, rfl, hbg, hBg⟩, hxC⟩
    have nbg : bg ≠ b6 := Nat.ne_of_gt (Nat.lt_of_lt_of_le hB6.lt hbg)
    replace hB3 := hB3.ext hxC
    replace hB6 := hB6.ext hxC
    replace hE := hE.trans hxC
    refine wl_nil ?_
    refine nx_then ?_
    refine wc_block ?_
    have hRG := hR.ext hE
    have hb6lt := hB6.lt
    have hb3lt := hB3.lt
    have hEG := hE
    refine wc_range (α := Grp es) (fun x => gval ad x.1) (fun k => k < wG.heap.size ∧ k ≠ b6) (fun xs => xs.map (·.1) = grps es.length 0 es) (fun pre => pre.map (·.1) <+: grps es.length 0 es) (es.length + 1) rfl en83 rfl (C83 hRG (fun k h => ⟨Nat.lt_of_lt_of_le h hE.size, by omega⟩) ⟨hBg.lt, nbg⟩ hBg) (fun k h => h.1) (fun pre W => Coll wG b6 (fun k => wG.heap.size ≤ k) (pre.flatMap fun x : Grp es => seenG up x.1.2) W) (fun _ _ _ => False) (fun s W W' h hn => h.nc hn) (fun c s W W' h _ => h) (Coll.start hB6) (fun x => [(3, .pointer (some ⟨b3, 0, none⟩)), (6, .pointer (some ⟨b6, 0, none⟩)), (7, gval ad x.1)]) ?_ ?_ ?_ ?_
    · intro l x W K hK
      have hW := hWw.round l
      -- assign
      refine wc_region ?_
      refine wl_val hW rfl rfl (x_assign rfl) ?_
      refine wl_nil ?_
      exact fun a ha => hK a (ha.sub (by repeat (first | exact sub_nil | refine sub_cons rfl ?_)))
    · rintro l pre ⟨x, hx⟩ W hI hpl
      -- body
      obtain ⟨⟨ov, hBo, hO⟩, hK⟩ := hI
      have hG := hRG.ck (CK.of_keep hK (fun k _ h => ⟨Nat.lt_of_lt_of_le h hEG.size, by omega⟩))
      have hcx : ∀ x' : Grp es, (pre ++ [x']).flatMap (fun x : Grp es => seenG up x.1.2) = pre.flatMap (fun x : Grp es => seenG up x.1.2) ++ seenG up x'.1.2 := fun x' => by simp
      have hcx := hcx ⟨x, hx⟩
      have hcl := flat_len_le (fun x : Grp es => seenG up x.1.2) 1 pre (fun x _ => seenG_len _ _)
      dsimp only at hcx
      obtain ⟨px, sx, hex, hpx⟩ := hx
      obtain ⟨x1, g⟩ := x
      dsimp only at hex hpx hcx
      subst hpx
      replace hG := gval_row hG hex
      show WC _ _ _ _ _ _ _ [(3, _), (6, _), (7, gval ad (px.length, g))] _
      generalize gval ad (px.length, g) = gv at hG ⊢
      obtain ⟨ga, gc, rfl, hgc, hgl⟩ := hG.form
      replace hB3 := hB3.keep hK ⟨hb3lt, n6_3.symm⟩
      replace hB6 := hBo
      replace hE : Ext W W := Keep.refl _ _
      have hW := hWw.round l
      have hFF := hFr l
      refine wc_block ?_
      refine wc_seq ?_
      refine wc_region ?_
      refine wl_val hW rfl rfl (x_move rfl) ?_
      refine wl_val hW rfl rfl (x_load fl22 rfl (hB3.cell (o := 0) rfl)) ?_
      refine wl_call hW rfl rfl (x_call en61 rfl) ((C61 hG).inF hFF) ?_
      rintro _ wC ⟨rfl, hxC⟩
      replace hG := hG.ext hxC
      replace hB3 := hB3.ext hxC
      replace hB6 := hB6.ext hxC
      replace hE := hE.trans hxC
      refine wl_val hW rfl rfl (x_assign rfl) ?_
      refine wl_nil ?_
      refine nx_then ?_
      refine wc_seq ?_
      refine wc_cut [(3, .pointer (some ⟨b3, 0, none⟩)), (6, .pointer (some ⟨b6, 0, none⟩)), (7, .slice ga g.length gc), (8, .int .i64 (newestN up g)), (29, .bool (!(seenG up g).isEmpty))] (fun w' => w' = wC) ?_ ?_
      · refine wc_region ?_
        refine wl_val hW rfl rfl (x_move rfl) ?_
        refine wl_val hW rfl rfl (x_move rfl) ?_
        refine wl_val hW rfl rfl (x_len Try.underlying26 rfl) ?_
        refine wl_val hW rfl rfl (x_lss rfl rfl) ?_
        refine wl_val hW rfl rfl (x_move rfl) ?_
        refine wl_dcases (d := 22) rfl (fun hg22 => ?_) (fun hg22 => ?_)
        · have hi : newestN up g < g.length := by omega
          obtain ⟨b, o, cap', bv, e1, hA, hC25, hb1, hok1⟩ := hG.at _ hi
          cases e1
          refine wl_val hW rfl rfl (x_move rfl) ?_
          refine wl_val hW rfl rfl (x_move rfl) ?_
          refine wl_val hW rfl rfl (x_indexAddr Try.underlying26 ag25.siz rfl rfl (by omega) (by omega)) ?_
          refine wl_val hW rfl rfl (x_fieldAddr Try.underlying25 rfl fl4.siz rfl) ?_
          refine wl_val hW rfl rfl (x_load fl4 rfl (hC25 2 _ rfl)) ?_
          refine wl_val hW rfl rfl (x_not rfl) ?_
          refine wl_val hW rfl rfl (x_pickT rfl rfl) ?_
          refine wl_nil ?_
          exact nx_cut (by rw [show (!(seenG up g).isEmpty) = !g[newestN up g].g from by cases h : g[newestN up g].g; rw [seenG_some hi h]; rfl; rw [seenG_gone hi h]; rfl]; repeat (first | exact sub_nil | refine sub_cons rfl ?_)) rfl
        · refine wl_off hW rfl rfl ?_
          refine wl_off hW rfl rfl ?_
          refine wl_off hW rfl rfl ?_
          refine wl_off hW rfl rfl ?_
          refine wl_off hW rfl rfl ?_
          refine wl_off hW rfl rfl ?_
          refine wl_val hW rfl rfl (x_pickF rfl rfl) ?_
          refine wl_nil ?_
          exact nx_cut (by rw [show (!(seenG up g).isEmpty) = false from by rw [seenG_none (by omega)]; rfl]; repeat (first | exact sub_nil | refine sub_cons rfl ?_)) rfl
      · rintro w' rfl
        refine nx_then ?_
        refine wc_bool rfl (fun hc => ?_) (fun hc => ?_)
        · have hi : newestN up g < g.length := Decidable.byContradiction fun h => by rw [seenG_none h] at hc; cases hc
          have hse : seenG up g = [g[newestN up g]] := by cases h : g[newestN up g].g; exact seenG_some hi h; rw [seenG_gone hi h] at hc; cases hc
          refine wc_draw' 7 hW mixed (by kernel_rfl) (fun w0 hx0 => ?_)
          replace hB3 := hB3.ext hx0
          replace hB6 := hB6.ext hx0
          replace hE := hE.trans hx0
          obtain ⟨b, o, cap', bv, e1, hA, hC33, hb1, hok1⟩ := (hG.ext hx0).at _ hi
          cases e1
          have hsz := hE.size
          have hKs := hK.size
          refine q_val rfl rfl (fun _ hx => x_load fl26 rfl (hx.cell (hB6.cell (o := 0) rfl))) ?_
          refine q_val rfl rfl (fun _ hx => x_move rfl) ?_
          refine q_val rfl rfl (fun _ hx => x_move rfl) ?_
          refine q_val rfl rfl (fun _ hx => x_indexAddr Try.underlying26 ag25.siz rfl rfl (by omega) (by omega)) ?_
          refine q_val rfl rfl (fun _ hx => x_loadA ag25 rfl (hC33.ext hx) rfl) ?_
          refine q_apart (e := g[newestN up g]) rfl rfl rfl rfl en62 (fun _ hx => (C62 (hb1.ext hx) hok1).inF hFF) ?_
          refine q_build1 rfl rfl (List.mem_cons_self ..) ?_
          refine q_nil (tail2 (fun wt v36 v35 hxt h36 h35 => ?_))
          replace hB3 := hB3.ext hxt
          replace hB6 := hB6.ext hxt
          replace hE := hE.trans hxt
          obtain ⟨b36, bv36, rfl, g36, hB36, hb36⟩ := h36
          have hsz2 := hE.size
          refine wl_append1 hW rfl rfl rfl rfl (hO.ext hE) (by omega) hB36 (hb36.mono (fun k _ h => ⟨by omega, fun e => by have := hO.lt _ e.symm; omega⟩)) hok1 (by omega) ?_
          intro v37 wA hO2 hkA hcA
          have hB6A := hB6.keep hkA (fun e => hO.ne hBo (by decide) _ e.symm rfl)
          refine wl_store hW rfl fl26 rfl rfl hO2.one hB6A rfl ?_
          intro wS hBS hkS
          refine wl_nil ?_
          refine nx_block ?_
          exact round_coll (fun _ h => h) hBo ⟨_, hO⟩ hK (((KeepR.of_ext hE).trans (hkA.mono fun k _ h => h.2)).trans (hkS.mono fun k _ h => h.1)) ⟨_, hBS, by rw [hcx, hse]; exact hO2.keep hkS (hO2.ne hB6A (by decide)) (fun k _ h => by omega)⟩
        · refine wc_skip ?_
          refine nx_block ?_
          exact round_coll (fun _ h => h) hBo ⟨_, hO⟩ hK (KeepR.of_ext hE) ⟨_, hB6, by rw [hcx, show seenG up g = [] from by simpa using hc, List.append_nil]; exact hO.ext hE⟩
    · intro B xs W hBB hs hi hk
      -- done
      obtain ⟨⟨ov, hBo, hO⟩, hK⟩ := hi
      replace hB6 := hBo
      refine nx_block ?_
      refine nx_then ?_
      refine wc_seq ?_
      refine wc_region ?_
      refine wl_val hW rfl rfl (x_load fl26 rfl (hB6.cell (o := 0) rfl)) ?_
      refine wl_val hW rfl rfl (x_assign rfl) ?_
      refine wl_val hW rfl rfl (x_assign rfl) ?_
      refine wl_nil ?_
      refine nx_then ?_
      refine wc_ret ?_
      obtain ⟨hdr, hde⟩ := coll_done hEG g6 hK hO hBB hk (es := seenL up es) (by unfold seenL; rw [← hs, List.flatMap_map]) (by have := seenL_le up es; omega)
      exact ends_ret_mark hk (res_tmp2 Try.results22 rfl rfl) ⟨⟨_, by rw [hrt]; rfl, by rw [hrt]; exact hdr⟩, hde⟩
    · exact fun B c pre W _ _ h _ => h.elim
theorem C25 {w : World} {v : Value} {es : List Ent} {keep : Int} {bottom : Bool} (hR : Row (fun k => k < w.heap.size) w v es) (hl : es.length ≤ 1048000) :
    Rt Try.prog 25 [v, .int .u64 keep, .bool bottom] w fun r w' => (∃ rv, r = .tuple #[rv, .int .i64 (if rightB es then 0 else 15)] ∧ Row (fun k => w.heap.size ≤ k) w' rv (if rightB es then leftL keep bottom es else [])) ∧ Ext w w' := by
  obtain ⟨ad, cap, rfl, hcap, hlen⟩ := hR.form
  have hW := hWw
  have hFF := hFw
  have hE : Ext w w := Keep.refl _ _
  refine rt_body Try.func25 rfl Try.ntmps25 rfl ?_
  refine wc_seq ?_
  refine wc_region ?_
  refine wl_box hW rfl rfl rfl rfl ?_
  intro b4 w4 hl4 hB4 hx4
  have g4 : w.heap.size ≤ b4 := Nat.le_trans hE.size hl4
  replace hE := hE.trans hx4
  refine wl_box hW rfl rfl rfl rfl ?_
  intro b5 w5 hl5 hB5 hx5
  have g5 : w.heap.size ≤ b5 := Nat.le_trans hE.size hl5
  have n5_4 : b5 ≠ b4 := Nat.ne_of_gt (Nat.lt_of_lt_of_le hB4.lt hl5)
  replace hB4 := hB4.ext hx5
  replace hE := hE.trans hx5
  refine wl_val hW rfl rfl (x_assign rfl) ?_
  refine wl_val hW rfl rfl (x_assign rfl) ?_
  refine wl_nil ?_
  refine nx_then ?_
  refine wc_seq ?_
  refine wc_seq ?_
  refine wc_region ?_
  refine wl_val hW rfl rfl (x_move rfl) ?_
  refine wl_call hW rfl rfl (x_call en20 rfl) ((C20 (hR.ext hE)).inF hFF) ?_
  rintro _ wC ⟨rfl, hxC⟩
  replace hB4 := hB4.ext hxC
  replace hB5 := hB5.ext hxC
  replace hE := hE.trans hxC
  refine wl_val hW rfl rfl (x_not rfl) ?_
  refine wl_nil ?_
  refine nx_then ?_
  refine wc_bool rfl (fun hc => ?_) (fun hc => ?_)
  · have hrt : rightB es = false := by simpa using hc
    refine wc_seq ?_
    refine wc_region ?_
    refine wl_val hW rfl rfl (x_assign rfl) ?_
    refine wl_val hW rfl rfl (x_assign rfl) ?_
    refine wl_nil ?_
    refine nx_then ?_
    refine wc_ret ?_
    refine nx_then_ret ?_
    exact ends_ret (res_tmp2 Try.results25 rfl rfl) ⟨⟨_, by rw [hrt]; rfl, by rw [hrt]; exact row_nil _ _⟩, hE⟩
  · refine wc_skip ?_
    refine nx_then ?_
    have hrt : rightB es = true := by simpa using hc
    refine wc_seq ?_
    refine wc_region ?_
    refine wl_alloc (cs := [.slice none 0 0]) hW rfl rfl Try.zeroValue26 rfl ?_
    intro b8 w8 hl8 hB8 hx8
    have g8 : w.heap.size ≤ b8 := Nat.le_trans hE.size hl8
    have n8_4 : b8 ≠ b4 := Nat.ne_of_gt (Nat.lt_of_lt_of_le hB4.lt hl8)
    replace hB4 := hB4.ext hx8
    have n8_5 : b8 ≠ b5 := Nat.ne_of_gt (Nat.lt_of_lt_of_le hB5.lt hl8)
    replace hB5 := hB5.ext hx8
    replace hE := hE.trans hx8
    refine wl_nil ?_
    refine nx_then ?_
    refine wc_seq ?_
    refine wc_seq ?_
    refine wc_region ?_
    refine wl_val hW rfl rfl (x_move rfl) ?_
    refine wl_call hW rfl rfl (x_call en60 rfl) (C60.inF hFF) ?_
    rintro _ wG ⟨⟨bg, rfl, hbg, hBg⟩, hxC⟩
    have nbg : bg ≠ b8 := Nat.ne_of_gt (Nat.lt_of_lt_of_le hB8.lt hbg)
    replace hB4 := hB4.ext hxC
    replace hB5 := hB5.ext hxC
    replace hB8 := hB8.ext hxC
    replace hE := hE.trans hxC
    refine wl_nil ?_
    refine nx_then ?_
    refine wc_block ?_
    have hRG := hR.ext hE
    have hb8lt := hB8.lt
    have hb4lt := hB4.lt
    have hb5lt := hB5.lt
    have hEG := hE
    refine wc_range (α := Grp es) (fun x => gval ad x.1) (fun k => k < wG.heap.size ∧ k ≠ b8) (fun xs => xs.map (·.1) = grps es.length 0 es) (fun pre => pre.map (·.1) <+: grps es.length 0 es) (es.length + 1) rfl en83 rfl (C83 hRG (fun k h => ⟨Nat.lt_of_lt_of_le h hE.size, by omega⟩) ⟨hBg.lt, nbg⟩ hBg) (fun k h => h.1) (fun pre W => Coll wG b8 (fun k => wG.heap.size ≤ k) (pre.flatMap fun x : Grp es => x.1.2.take (leftN keep bottom x.1.2)) W) (fun _ _ _ => False) (fun s W W' h hn => h.nc hn) (fun c s W W' h _ => h) (Coll.start hB8) (fun x => [(4, .pointer (some ⟨b4, 0, none⟩)), (5, .pointer (some ⟨b5, 0, none⟩)), (8, .pointer (some ⟨b8, 0, none⟩)), (9, gval ad x.1)]) ?_ ?_ ?_ ?_
    · intro l x W K hK
      have hW := hWw.round l
      -- assign
      refine wc_region ?_
      refine wl_val hW rfl rfl (x_assign rfl) ?_
      refine wl_nil ?_
      exact fun a ha => hK a (ha.sub (by repeat (first | exact sub_nil | refine sub_cons rfl ?_)))
    · rintro l pre ⟨x, hx⟩ W hI hpl
      -- body
      obtain ⟨⟨ov, hBo, hO⟩, hK⟩ := hI
      have hGW := hRG.ck (CK.of_keep hK (fun k _ h => ⟨Nat.lt_of_lt_of_le h hEG.size, by omega⟩))
      have hcx : ∀ x' : Grp es, (pre ++ [x']).flatMap (fun x : Grp es => x.1.2.take (leftN keep bottom x.1.2)) = pre.flatMap (fun x : Grp es => x.1.2.take (leftN keep bottom x.1.2)) ++ x'.1.2.take (leftN keep bottom x'.1.2) := fun x' => by simp
      have hcx := hcx ⟨x, hx⟩
      have hgle : ∀ x : Grp es, x.1.2.length ≤ es.length := fun x => by obtain ⟨p, s, e, -⟩ := x.2; have := congrArg List.length e; simp only [List.length_append] at this; omega
      have hcl := flat_len_le (fun x : Grp es => x.1.2.take (leftN keep bottom x.1.2)) es.length pre (fun x _ => by have := hgle x; simp; omega)
      have hgl0 := hgle ⟨x, hx⟩
      have hmul : pre.length * es.length ≤ 1048000 * 1048000 := Nat.mul_le_mul (by omega) hl
      dsimp only at hcx hgl0
      obtain ⟨px, sx, hex, hpx⟩ := hx
      obtain ⟨x1, g⟩ := x
      dsimp only at hex hpx hcx hgl0
      subst hpx
      replace hGW := gval_row hGW hex
      show WC _ _ _ _ _ _ _ [(4, _), (5, _), (8, _), (9, gval ad (px.length, g))] _
      generalize gval ad (px.length, g) = gv at hGW ⊢
      obtain ⟨ga, gc, rfl, hgc, hgl⟩ := hGW.form
      have hG := hGW
      have hnl := leftN_le keep bottom g
      replace hB4 := hB4.keep hK ⟨hb4lt, n8_4.symm⟩
      replace hB5 := hB5.keep hK ⟨hb5lt, n8_5.symm⟩
      replace hB8 := hBo
      replace hE : Ext W W := Keep.refl _ _
      have hW := hWw.round l
      have hFF := hFr l
      refine wc_block ?_
      refine wc_seq ?_
      refine wc_region ?_
      refine wl_val hW rfl rfl (x_move rfl) ?_
      refine wl_val hW rfl rfl (x_load fl22 rfl (hB4.cell (o := 0) rfl)) ?_
      refine wl_call hW rfl rfl (x_call en61 rfl) ((C61 hG).inF hFF) ?_
      rintro _ wC ⟨rfl, hxC⟩
      replace hG := hG.ext hxC
      replace hB4 := hB4.ext hxC
      replace hB5 := hB5.ext hxC
      replace hB8 := hB8.ext hxC
      replace hE := hE.trans hxC
      refine wl_val hW rfl rfl (x_assign rfl) ?_
      refine wl_nil ?_
      refine nx_then ?_
      refine wc_seq ?_
      refine wc_seq ?_
      refine wc_cut [(8, .pointer (some ⟨b8, 0, none⟩)), (9, .slice ga g.length gc), (10, .int .i64 (newestN keep g)), (36, .bool (decide (newestN keep g < leftN keep bottom g)))] (fun w' => w' = wC) ?_ ?_
      · refine wc_region ?_
        refine wl_val hW rfl rfl (x_move rfl) ?_
        refine wl_val hW rfl rfl (x_move rfl) ?_
        refine wl_val hW rfl rfl (x_len Try.underlying26 rfl) ?_
        refine wl_val hW rfl rfl (x_lss rfl rfl) ?_
        refine wl_val hW rfl rfl (x_move rfl) ?_
        refine wl_dcases (d := 26) rfl (fun hg26 => ?_) (fun hg26 => ?_)
        · have hi : newestN keep g < g.length := by omega
          have hls := leftN_some (keep := keep) (bottom := bottom) hi
          obtain ⟨b, o, cap', bv, e1, hA, hC29, hb1, hok1⟩ := hG.at _ hi
          cases e1
          refine wl_val hW rfl rfl (x_move rfl) ?_
          refine wl_val hW rfl rfl (x_move rfl) ?_
          refine wl_val hW rfl rfl (x_indexAddr Try.underlying26 ag25.siz rfl rfl (by omega) (by omega)) ?_
          refine wl_val hW rfl rfl (x_fieldAddr Try.underlying25 rfl fl4.siz rfl) ?_
          refine wl_val hW rfl rfl (x_load fl4 rfl (hC29 2 _ rfl)) ?_
          refine wl_val hW rfl rfl (x_move rfl) ?_
          refine wl_bcases (d := 32) rfl (fun hg32 => ?_) (fun hg32 => ?_)
          · refine wl_val hW rfl rfl (x_load fl4 rfl (hB5.cell (o := 0) rfl)) ?_
            refine wl_val hW rfl rfl (x_pickT rfl rfl) ?_
            refine wl_val hW rfl rfl (x_not rfl) ?_
            refine wl_val hW rfl rfl (x_pickT rfl rfl) ?_
            refine wl_nil ?_
            exact nx_cut (by rw [show decide (newestN keep g < leftN keep bottom g) = !bottom from by rw [hls, show g[newestN keep g].g = true from hg32]; cases bottom <;> simp]; repeat (first | exact sub_nil | refine sub_cons rfl ?_)) rfl
          · refine wl_off hW rfl rfl ?_
            refine wl_val hW rfl rfl (x_pickF rfl rfl) ?_
            refine wl_val hW rfl rfl (x_not rfl) ?_
            refine wl_val hW rfl rfl (x_pickT rfl rfl) ?_
            refine wl_nil ?_
            exact nx_cut (by rw [show decide (newestN keep g < leftN keep bottom g) = true from by rw [hls, show g[newestN keep g].g = false from hg32]; simp]; repeat (first | exact sub_nil | refine sub_cons rfl ?_)) rfl
        · refine wl_off hW rfl rfl ?_
          refine wl_off hW rfl rfl ?_
          refine wl_off hW rfl rfl ?_
          refine wl_off hW rfl rfl ?_
          refine wl_off hW rfl rfl ?_
          refine wl_off hW rfl rfl ?_
          refine wl_off hW rfl rfl ?_
          refine wl_off hW rfl rfl ?_
          refine wl_off hW rfl rfl ?_
          refine wl_val hW rfl rfl (x_pickF rfl rfl) ?_
          refine wl_nil ?_
          exact nx_cut (by rw [show decide (newestN keep g < leftN keep bottom g) = false from by rw [leftN_none (by omega)]; simp]; repeat (first | exact sub_nil | refine sub_cons rfl ?_)) rfl
      · rintro w' rfl
        refine nx_then ?_
        refine wc_cut [(8, .pointer (some ⟨b8, 0, none⟩)), (9, .slice ga g.length gc), (10, .int .i64 (leftN keep bottom g))] (fun w'' => w'' = w') ?_ ?_
        · refine wc_bool rfl (fun hc => ?_) (fun hc => ?_)
          · replace hc := of_decide_eq_true hc
            refine wc_region ?_
            refine wl_val hW rfl rfl (x_move rfl) ?_
            refine wl_val hW rfl rfl (x_inc (s := newestN keep g) rfl (by omega)) ?_
            refine wl_val hW rfl rfl (x_assign rfl) ?_
            refine wl_nil ?_
            exact nx_cut (by rw [show leftN keep bottom g = newestN keep g + 1 from by omega]; repeat (first | exact sub_nil | refine sub_cons rfl ?_)) rfl
          · replace hc := of_decide_eq_false hc
            refine wc_skip ?_
            exact nx_cut (by rw [show leftN keep bottom g = newestN keep g from by omega]; repeat (first | exact sub_nil | refine sub_cons rfl ?_)) rfl
        · rintro w' rfl
          refine nx_then ?_
          refine wc_seq ?_
          refine wc_region ?_
          refine wl_val hW rfl rfl (x_move rfl) ?_
          refine wl_val hW rfl rfl (x_move rfl) ?_
          refine wl_val hW rfl rfl (x_sliceh Try.underlying26 ag25.siz rfl rfl (by omega)) ?_
          have hT := hGW.sliceh hnl.2.2
          generalize (if gc = 0 then ga else ga.map (·.add (0 * 4))) = ta at hT ⊢
          refine wl_val hW rfl rfl (x_len Try.underlying26 rfl) ?_
          refine wl_val hW rfl rfl (x_move rfl) ?_
          refine wl_nil ?_
          refine nx_then ?_
          refine wc_block ?_
          refine wc_loop (σ := Nat) (fun s => [(8, .pointer (some ⟨b8, 0, none⟩)), (41, .slice ta (leftN keep bottom g - 0) (gc - 0)), (42, .int .i64 ((leftN keep bottom g - 0 : Nat) : Int)), (43, .int .i64 s)]) (fun s w' => s ≤ leftN keep bottom g ∧ Col2 wG W b8 (fun k => wG.heap.size ≤ k) ov (pre.flatMap (fun x : Grp es => x.1.2.take (leftN keep bottom x.1.2)) ++ g.take s) w') (fun s => leftN keep bottom g - s) 0 ?_ ?_ ?_
          · exact ⟨Nat.zero_le _, ⟨ov, hB8, by rw [List.take_zero, List.append_nil]; exact hO.ext hE, fun b h => .inl h⟩, KeepR.of_ext hE⟩
          · repeat (first | exact sub_nil | refine sub_cons rfl ?_)
          · rintro s wr ⟨hs, ⟨ov', hB8, hO', hob⟩, hKr⟩
            replace hE : Ext wr wr := Keep.refl _ _
            have hTr := hT.ck (CK.of_keep hKr (fun k _ h => ⟨by have := hEG.size; omega, fun e => by have := (hO.lt _ e.symm).1; have := hEG.size; omega⟩))
            refine wc_seq ?_
            refine wc_region ?_
            refine wl_val hW rfl rfl (x_lss rfl rfl) ?_
            refine wl_nil ?_
            refine nx_then ?_
            refine wc_seq ?_
            refine wc_dec rfl (fun hc => ?_) (fun hc => ?_)
            · replace hc : ((s : Nat) : Int) < ((leftN keep bottom g - 0 : Nat) : Int) := hc
              refine wc_skip ?_
              refine nx_then ?_
              refine wc_seq ?_
              refine wc_block ?_
              refine wc_seq ?_
              refine wc_region ?_
              have hslt : s < (g.take (leftN keep bottom g)).length := by simp; omega
              obtain ⟨b, o, cap', bv, e1, hA, hC45, hb1, hok1⟩ := hTr.at s hslt
              injection e1 with e1 e1b e1c
              subst e1
              obtain ⟨av, cv, hbv, hcv⟩ := hb1.form
              subst hbv
              refine wl_val hW rfl rfl (x_indexAddr Try.underlying26 ag25.siz rfl rfl (by omega) (by omega)) ?_
              refine wl_val hW rfl rfl (x_loadA ag25 rfl hC45 rfl) ?_
              refine wl_alloc (cs := [.string ⟨#[]⟩, .int .u64 0, .bool false, .slice none 0 0]) hW rfl rfl Try.zeroValue25 rfl ?_
              intro b12 w12 hl12 hB12 hx12
              have g12 : wr.heap.size ≤ b12 := Nat.le_trans hE.size hl12
              have n12_8 : b12 ≠ b8 := Nat.ne_of_gt (Nat.lt_of_lt_of_le hB8.lt hl12)
              replace hB8 := hB8.ext hx12
              replace hE := hE.trans hx12
              refine wl_storeA hW rfl ag25 rfl rfl rfl rfl hB12 rfl ?_
              intro wS hBS hkS
              replace hB8 := hB8.keep hkS n12_8.symm
              replace hB12 := hBS
              clear hBS
              replace hE := hE.store hkS g12
              refine wl_nil ?_
              refine nx_then ?_
              refine wc_draw' 4 hW mixed (by kernel_rfl) (fun w0 hx0 => ?_)
              replace hB8 := hB8.ext hx0
              replace hB12 := hB12.ext hx0
              replace hE := hE.trans hx0
              refine q_val rfl rfl (fun _ hx => x_load fl26 rfl (hx.cell (hB8.cell (o := 0) rfl))) ?_
              refine q_val rfl rfl (fun _ hx => x_loadA ag25 rfl (hB12.ext hx).cells rfl) ?_
              have hsz := hE.size
              have hKs := hK.size
              have hKrs := hKr.size
              refine q_apart (e := (g.take (leftN keep bottom g))[s]) rfl rfl rfl rfl en62 (fun _ hx => (C62 ((hb1.ext hE).ext hx) hok1).inF hFF) ?_
              refine q_build1 rfl rfl (List.mem_cons_self ..) ?_
              refine q_nil (tail2 (fun wt v50 v49 hxt h50 h49 => ?_))
              replace hB8 := hB8.ext hxt
              replace hB12 := hB12.ext hxt
              replace hE := hE.trans hxt
              obtain ⟨b50, bv50, rfl, g50, hB50, hb50⟩ := h50
              have hsz2 := hE.size
              refine wl_append1 hW rfl rfl rfl rfl (hO'.ext hE) (by simp only [List.length_append, List.length_take]; omega) hB50 (hb50.mono (fun k _ h => ⟨by omega, fun e => by have := hO'.lt _ e.symm; omega⟩)) hok1 (by omega) ?_
              intro v51 wA hO2 hkA hcA
              have hB8A := hB8.keep hkA (fun e => (hO'.ext hE).ne hB8 (by decide) _ e.symm rfl)
              refine wl_store hW rfl fl26 rfl rfl hO2.one hB8A rfl ?_
              intro wS hBS hkS
              refine wl_nil ?_
              refine nx_block ?_
              refine nx_then ?_
              refine wc_region ?_
              refine wl_val hW rfl rfl (x_inc (s := s) rfl (by omega)) ?_
              refine wl_val hW rfl rfl (x_move rfl) ?_
              refine wl_nil ?_
              exact nx_next (s + 1) (by omega) ⟨by omega, ⟨_, hBS, by rw [take_snoc hslt, ← List.append_assoc]; exact hO2.keep hkS (hO2.ne hB8A (by decide)) (fun k _ h => by omega), fun b hb => by rcases hcA with h | ⟨b', h, h'⟩; rw [h] at hb; exact hob b hb; rw [h] at hb; cases hb; right; omega⟩, ((hKr.trans (KeepR.of_ext hE)).then hkA (fun k hk h e => by rcases hob k e.symm with h' | h'; exact h.2 h'.symm; omega)).then hkS (fun k _ h => h.1)⟩ (by repeat (first | exact sub_nil | refine sub_cons rfl ?_))
            · replace hc : ¬ ((s : Nat) : Int) < ((leftN keep bottom g - 0 : Nat) : Int) := hc
              refine wc_exit ?_
              refine nx_then_exit ?_
              refine nx_then_exit ?_
              refine nx_block_exit ?_
              refine nx_block ?_
              exact round_coll (fun _ h => h) hBo ⟨_, hO⟩ hK hKr ⟨_, hB8, by rw [hcx]; rw [show s = leftN keep bottom g from by omega] at hO'; exact hO'⟩
    · intro B xs W hBB hs hi hk
      -- done
      obtain ⟨⟨ov, hBo, hO⟩, hK⟩ := hi
      replace hB8 := hBo
      refine nx_block ?_
      refine nx_then ?_
      refine wc_seq ?_
      refine wc_region ?_
      refine wl_val hW rfl rfl (x_load fl26 rfl (hB8.cell (o := 0) rfl)) ?_
      refine wl_val hW rfl rfl (x_assign rfl) ?_
      refine wl_val hW rfl rfl (x_assign rfl) ?_
      refine wl_nil ?_
      refine nx_then ?_
      refine wc_ret ?_
      obtain ⟨hdr, hde⟩ := coll_done hEG g8 hK hO hBB hk (es := leftL keep bottom es) (by unfold leftL; rw [← hs, List.flatMap_map]) (by have := leftL_le keep bottom es; omega)
      exact ends_ret_mark hk (res_tmp2 Try.results25 rfl rfl) ⟨⟨_, by rw [hrt]; rfl, by rw [hrt]; exact hdr⟩, hde⟩
    · exact fun B c pre W _ _ h _ => h.elim
end Go.Proofs.Ytblbddamebbgaaa.K

