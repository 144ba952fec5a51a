import Derived.Test.YtblbddamebbgaaaZ2
import Derived.Laws.IdiomStrings
import Derived.Laws.BytesArg
import Derived.Lib.SlBytesConst
import Derived.Test.YtblbddamebbgaaaRows
import Derived.WalkKit
import Derived.ProofKit
import Derived.OpenShut
import Derived.JoinedCond
import Derived.Lib.SmallJoins
import Derived.Deep.Slices
/- Walks: Seen, Prune. -/
namespace Go.Proofs.Ytblbddamebbgaaa.K
open Go Go.RowKit
set_option linter.unusedVariables false
set_option linter.unusedSimpArgs false

theorem C22 {w : World} {v : Value} {es : List Ent} {up : Int} (hR : Row (fun k => k < w.heap.size) w v es) (hl : es.length ≤ 1048000) :
    Rt Try.prog 22 [v, .int .u64 up] w fun r w' => (∃ rv, r = .tuple #[rv, .int .i64 (if rightB es then 0 else 15)] ∧ Row (fun k => w.heap.size ≤ k) w' rv (if rightB es then seenL up es else [])) ∧ Ext w w' := by
  obtain ⟨ad, cap, rfl, hcap, hlen⟩ := hR.form
  have hW := hWw
  have hFF := hFw
  have hE : Ext w w := Keep.refl _ _
  refine rt_body Try.func22 rfl Try.ntmps22 rfl ?_
  refine wc_seq ?_
  refine wc_region ?_
  refine wl_box hW rfl rfl rfl rfl ?_
  intro b3 w3 hl3 hB3 hx3
  have g3 : w.heap.size ≤ b3 := Nat.le_trans hE.size hl3
  replace hE := hE.trans hx3
  refine wl_val hW rfl rfl (x_assign rfl) ?_
  refine wl_val hW rfl rfl (x_assign rfl) ?_
  refine wl_nil ?_
  refine nx_then ?_
  refine wc_seq ?_
  refine wc_seq ?_
  refine wc_region ?_
  refine wl_val hW rfl rfl (x_move rfl) ?_
  refine wl_call hW rfl rfl (x_call en20 rfl) ((C20 (hR.ext hE)).inF hFF) ?_
  rintro _ wC ⟨rfl, hxC⟩
  replace hB3 := hB3.ext hxC
  replace hE := hE.trans hxC
  refine wl_val hW rfl rfl (x_not rfl) ?_
  refine wl_nil ?_
  refine nx_then ?_
  refine wc_bool rfl (fun hc => ?_) (fun hc => ?_)
  · have hrt : rightB es = false := by simpa using hc
    refine wc_seq ?_
    refine wc_region ?_
    refine wl_val hW rfl rfl (x_assign rfl) ?_
    refine wl_val hW rfl rfl (x_assign rfl) ?_
    refine wl_nil ?_
    refine nx_then ?_
    refine wc_ret ?_
    refine nx_then_ret ?_
    exact ends_ret (res_tmp2 Try.results22 rfl rfl) ⟨⟨_, by rw [hrt]; rfl, by rw [hrt]; exact row_nil _ _⟩, hE⟩
  · refine wc_skip ?_
    refine nx_then ?_
    have hrt : rightB es = true := by simpa using hc
    refine wc_seq ?_
    refine wc_region ?_
    refine wl_alloc (cs := [.slice none 0 0]) hW rfl rfl Try.zeroValue26 rfl ?_
    intro b6 w6 hl6 hB6 hx6
    have g6 : w.heap.size ≤ b6 := Nat.le_trans hE.size hl6
    have n6_3 : b6 ≠ b3 := Nat.ne_of_gt (Nat.lt_of_lt_of_le hB3.lt hl6)
    replace hB3 := hB3.ext hx6
    replace hE := hE.trans hx6
    refine wl_nil ?_
    refine nx_then ?_
    refine wc_seq ?_
    refine wc_seq ?_
    refine wc_region ?_
    refine wl_val hW rfl rfl (x_move rfl) ?_
    refine wl_call hW rfl rfl (x_call en60 rfl) (C60.inF hFF) ?_
    rintro _ wG ⟨⟨bg, rfl, hbg, hBg⟩, hxC⟩
    have nbg : bg ≠ b6 := Nat.ne_of_gt (Nat.lt_of_lt_of_le hB6.lt hbg)
    replace hB3 := hB3.ext hxC
    replace hB6 := hB6.ext hxC
    replace hE := hE.trans hxC
    refine wl_nil ?_
    refine nx_then ?_
    refine wc_block ?_
    have hRG := hR.ext hE
    have hb6lt := hB6.lt
    have hb3lt := hB3.lt
    have hEG := hE
    refine wc_range (α := Grp es) (fun x => gval ad x.1) (fun k => k < wG.heap.size ∧ k ≠ b6) (fun xs => xs.map (·.1) = grps es.length 0 es) (fun pre => pre.map (·.1) <+: grps es.length 0 es) (es.length + 1) rfl en83 rfl (C83 hRG (fun k h => ⟨Nat.lt_of_lt_of_le h hE.size, by omega⟩) ⟨hBg.lt, nbg⟩ hBg) (fun k h => h.1) (fun pre W => Coll wG b6 (fun k => wG.heap.size ≤ k) (pre.flatMap fun x : Grp es => seenG up x.1.2) W) (fun _ _ _ => False) (fun s W W' h hn => h.nc hn) (fun c s W W' h _ => h) (Coll.start hB6) (fun x => [(3, .pointer (some ⟨b3, 0, none⟩)), (6, .pointer (some ⟨b6, 0, none⟩)), (7, gval ad x.1)]) ?_ ?_ ?_ ?_
    · intro l x W K hK
      have hW := hWw.round l
      -- assign
      refine wc_region ?_
      refine wl_val hW rfl rfl (x_assign rfl) ?_
      refine wl_nil ?_
      exact fun a ha => hK a (ha.sub (by repeat (first | exact sub_nil | refine sub_cons rfl ?_)))
    · rintro l pre ⟨x, hx⟩ W hI hpl
      -- body
      obtain ⟨⟨ov, hBo, hO⟩, hK⟩ := hI
      have hG := hRG.ck (CK.of_keep hK (fun k _ h => ⟨Nat.lt_of_lt_of_le h hEG.size, by omega⟩))
      have hcx : ∀ x' : Grp es, (pre ++ [x']).flatMap (fun x : Grp es => seenG up x.1.2) = pre.flatMap (fun x : Grp es => seenG up x.1.2) ++ seenG up x'.1.2 := fun x' => by simp
      have hcx := hcx ⟨x, hx⟩
      have hcl := flat_len_le (fun x : Grp es => seenG up x.1.2) 1 pre (fun x _ => seenG_len _ _)
      dsimp only at hcx
      obtain ⟨px, sx, hex, hpx⟩ := hx
      obtain ⟨x1, g⟩ := x
      dsimp only at hex hpx hcx
      subst hpx
      replace hG := gval_row hG hex
      show WC _ _ _ _ _ _ _ [(3, _), (6, _), (7, gval ad (px.length, g))] _
      generalize gval ad (px.length, g) = gv at hG ⊢
      obtain ⟨ga, gc, rfl, hgc, hgl⟩ := hG.form
      replace hB3 := hB3.keep hK ⟨hb3lt, n6_3.symm⟩
      replace hB6 := hBo
      replace hE : Ext W W := Keep.refl _ _
      have hW := hWw.round l
      have hFF := hFr l
      refine wc_block ?_
      refine wc_seq ?_
      refine wc_region ?_
      refine wl_val hW rfl rfl (x_move rfl) ?_
      refine wl_val hW rfl rfl (x_load fl22 rfl (hB3.cell (o := 0) rfl)) ?_
      refine wl_call hW rfl rfl (x_call en61 rfl) ((C61 hG).inF hFF) ?_
      rintro _ wC ⟨rfl, hxC⟩
      replace hG := hG.ext hxC
      replace hB3 := hB3.ext hxC
      replace hB6 := hB6.ext hxC
      replace hE := hE.trans hxC
      refine wl_val hW rfl rfl (x_assign rfl) ?_
      refine wl_nil ?_
      refine nx_then ?_
      refine wc_seq ?_
      refine wc_cut [(3, .pointer (some ⟨b3, 0, none⟩)), (6, .pointer (some ⟨b6, 0, none⟩)), (7, .slice ga g.length gc), (8, .int .i64 (newestN up g)), (29, .bool (!(seenG up g).isEmpty))] (fun w' => w' = wC) ?_ ?_
      · refine wc_region ?_
        refine wl_val hW rfl rfl (x_move rfl) ?_
        refine wl_val hW rfl rfl (x_move rfl) ?_
        refine wl_val hW rfl rfl (x_len Try.underlying26 rfl) ?_
        refine wl_val hW rfl rfl (x_lss rfl rfl) ?_
        refine wl_val hW rfl rfl (x_move rfl) ?_
        refine wl_dcases (d := 22) rfl (fun hg22 => ?_) (fun hg22 => ?_)
        · have hi : newestN up g < g.length := by omega
          obtain ⟨b, o, cap', bv, e1, hA, hC25, hb1, hok1⟩ := hG.at _ hi
          cases e1
          refine wl_val hW rfl rfl (x_move rfl) ?_
          refine wl_val hW rfl rfl (x_move rfl) ?_
          refine wl_val hW rfl rfl (x_indexAddr Try.underlying26 ag25.siz rfl rfl (by omega) (by omega)) ?_
          refine wl_val hW rfl rfl (x_fieldAddr Try.underlying25 rfl fl4.siz rfl) ?_
          refine wl_val hW rfl rfl (x_load fl4 rfl (hC25 2 _ rfl)) ?_
          refine wl_val hW rfl rfl (x_not rfl) ?_
          refine wl_val hW rfl rfl (x_pickT rfl rfl) ?_
          refine wl_nil ?_
          exact nx_cut (by rw [show (!(seenG up g).isEmpty) = !g[newestN up g].g from by cases h : g[newestN up g].g; rw [seenG_some hi h]; rfl; rw [seenG_gone hi h]; rfl]; repeat (first | exact sub_nil | refine sub_cons rfl ?_)) rfl
        · refine wl_off hW rfl rfl ?_
          refine wl_off hW rfl rfl ?_
          refine wl_off hW rfl rfl ?_
          refine wl_off hW rfl rfl ?_
          refine wl_off hW rfl rfl ?_
          refine wl_off hW rfl rfl ?_
          refine wl_val hW rfl rfl (x_pickF rfl rfl) ?_
          refine wl_nil ?_
          exact nx_cut (by rw [show (!(seenG up g).isEmpty) = false from by rw [seenG_none (by omega)]; rfl]; repeat (first | exact sub_nil | refine sub_cons rfl ?_)) rfl
      · rintro w' rfl
        refine nx_then ?_
        refine wc_bool rfl (fun hc => ?_) (fun hc => ?_)
        · have hi : newestN up g < g.length := Decidable.byContradiction fun h => by rw [seenG_none h] at hc; cases hc
          have hse : seenG up g = [g[newestN up g]] := by cases h : g[newestN up g].g; exact seenG_some hi h; rw [seenG_gone hi h] at hc; cases hc
          refine wc_draw' 7 hW mixed (by kernel_rfl) (fun w0 hx0 => ?_)
          replace hB3 := hB3.ext hx0
          replace hB6 := hB6.ext hx0
          replace hE := hE.trans hx0
          obtain ⟨b, o, cap', bv, e1, hA, hC33, hb1, hok1⟩ := (hG.ext hx0).at _ hi
          cases e1
          have hsz := hE.size
          have hKs := hK.size
          refine q_val rfl rfl (fun _ hx => x_load fl26 rfl (hx.cell (hB6.cell (o := 0) rfl))) ?_
          refine q_val rfl rfl (fun _ hx => x_move rfl) ?_
          refine q_val rfl rfl (fun _ hx => x_move rfl) ?_
          refine q_val rfl rfl (fun _ hx => x_indexAddr Try.underlying26 ag25.siz rfl rfl (by omega) (by omega)) ?_
          refine q_val rfl rfl (fun _ hx => x_loadA ag25 rfl (hC33.ext hx) rfl) ?_
          refine q_apart (e := g[newestN up g]) rfl rfl rfl rfl en62 (fun _ hx => (C62 (hb1.ext hx) hok1).inF hFF) ?_
          refine q_build1 rfl rfl (List.mem_cons_self ..) ?_
          refine q_nil (tail2 (fun wt v36 v35 hxt h36 h35 => ?_))
          replace hB3 := hB3.ext hxt
          replace hB6 := hB6.ext hxt
          replace hE := hE.trans hxt
          obtain ⟨b36, bv36, rfl, g36, hB36, hb36⟩ := h36
          have hsz2 := hE.size
          refine wl_append1 hW rfl rfl rfl rfl (hO.ext hE) (by omega) hB36 (hb36.mono (fun k _ h => ⟨by omega, fun e => by have := hO.lt _ e.symm; omega⟩)) hok1 (by omega) ?_
          intro v37 wA hO2 hkA hcA
          have hB6A := hB6.keep hkA (fun e => hO.ne hBo (by decide) _ e.symm rfl)
          refine wl_store hW rfl fl26 rfl rfl hO2.one hB6A rfl ?_
          intro wS hBS hkS
          refine wl_nil ?_
          refine nx_block ?_
          exact round_coll (fun _ h => h) hBo ⟨_, hO⟩ hK (((KeepR.of_ext hE).trans (hkA.mono fun k _ h => h.2)).trans (hkS.mono fun k _ h => h.1)) ⟨_, hBS, by rw [hcx, hse]; exact hO2.keep hkS (hO2.ne hB6A (by decide)) (fun k _ h => by omega)⟩
        · refine wc_skip ?_
          refine nx_block ?_
          exact round_coll (fun _ h => h) hBo ⟨_, hO⟩ hK (KeepR.of_ext hE) ⟨_, hB6, by rw [hcx, show seenG up g = [] from by simpa using hc, List.append_nil]; exact hO.ext hE⟩
    · intro B xs W hBB hs hi hk
      -- done
      obtain ⟨⟨ov, hBo, hO⟩, hK⟩ := hi
      replace hB6 := hBo
      refine nx_block ?_
      refine nx_then ?_
      refine wc_seq ?_
      refine wc_region ?_
      refine wl_val hW rfl rfl (x_load fl26 rfl (hB6.cell (o := 0) rfl)) ?_
      refine wl_val hW rfl rfl (x_assign rfl) ?_
      refine wl_val hW rfl rfl (x_assign rfl) ?_
      refine wl_nil ?_
      refine nx_then ?_
      refine wc_ret ?_
      obtain ⟨hdr, hde⟩ := coll_done hEG g6 hK hO hBB hk (es := seenL up es) (by unfold seenL; rw [← hs, List.flatMap_map]) (by have := seenL_le up es; omega)
      exact ends_ret_mark hk (res_tmp2 Try.results22 rfl rfl) ⟨⟨_, by rw [hrt]; rfl, by rw [hrt]; exact hdr⟩, hde⟩
    · exact fun B c pre W _ _ h _ => h.elim
theorem C25 {w : World} {v : Value} {es : List Ent} {keep : Int} {bottom : Bool} (hR : Row (fun k => k < w.heap.size) w v es) (hl : es.length ≤ 1048000) :
    Rt Try.prog 25 [v, .int .u64 keep, .bool bottom] w fun r w' => (∃ rv, r = .tuple #[rv, .int .i64 (if rightB es then 0 else 15)] ∧ Row (fun k => w.heap.size ≤ k) w' rv (if rightB es then leftL keep bottom es else [])) ∧ Ext w w' := by
  obtain ⟨ad, cap, rfl, hcap, hlen⟩ := hR.form
  have hW := hWw
  have hFF := hFw
  have hE : Ext w w := Keep.refl _ _
  refine rt_body Try.func25 rfl Try.ntmps25 rfl ?_
  refine wc_seq ?_
  refine wc_region ?_
  refine wl_box hW rfl rfl rfl rfl ?_
  intro b4 w4 hl4 hB4 hx4
  have g4 : w.heap.size ≤ b4 := Nat.le_trans hE.size hl4
  replace hE := hE.trans hx4
  refine wl_box hW rfl rfl rfl rfl ?_
  intro b5 w5 hl5 hB5 hx5
  have g5 : w.heap.size ≤ b5 := Nat.le_trans hE.size hl5
  have n5_4 : b5 ≠ b4 := Nat.ne_of_gt (Nat.lt_of_lt_of_le hB4.lt hl5)
  replace hB4 := hB4.ext hx5
  replace hE := hE.trans hx5
  refine wl_val hW rfl rfl (x_assign rfl) ?_
  refine wl_val hW rfl rfl (x_assign rfl) ?_
  refine wl_nil ?_
  refine nx_then ?_
  refine wc_seq ?_
  refine wc_seq ?_
  refine wc_region ?_
  refine wl_val hW rfl rfl (x_move rfl) ?_
  refine wl_call hW rfl rfl (x_call en20 rfl) ((C20 (hR.ext hE)).inF hFF) ?_
  rintro _ wC ⟨rfl, hxC⟩
  replace hB4 := hB4.ext hxC
  replace hB5 := hB5.ext hxC
  replace hE := hE.trans hxC
  refine wl_val hW rfl rfl (x_not rfl) ?_
  refine wl_nil ?_
  refine nx_then ?_
  refine wc_bool rfl (fun hc => ?_) (fun hc => ?_)
  · have hrt : rightB es = false := by simpa using hc
    refine wc_seq ?_
    refine wc_region ?_
    refine wl_val hW rfl rfl (x_assign rfl) ?_
    refine wl_val hW rfl rfl (x_assign rfl) ?_
    refine wl_nil ?_
    refine nx_then ?_
    refine wc_ret ?_
    refine nx_then_ret ?_
    exact ends_ret (res_tmp2 Try.results25 rfl rfl) ⟨⟨_, by rw [hrt]; rfl, by rw [hrt]; exact row_nil _ _⟩, hE⟩
  · refine wc_skip ?_
    refine nx_then ?_
    have hrt : rightB es = true := by simpa using hc
    refine wc_seq ?_
    refine wc_region ?_
    refine wl_alloc (cs := [.slice none 0 0]) hW rfl rfl Try.zeroValue26 rfl ?_
    intro b8 w8 hl8 hB8 hx8
    have g8 : w.heap.size ≤ b8 := Nat.le_trans hE.size hl8
    have n8_4 : b8 ≠ b4 := Nat.ne_of_gt (Nat.lt_of_lt_of_le hB4.lt hl8)
    replace hB4 := hB4.ext hx8
    have n8_5 : b8 ≠ b5 := Nat.ne_of_gt (Nat.lt_of_lt_of_le hB5.lt hl8)
    replace hB5 := hB5.ext hx8
    replace hE := hE.trans hx8
    refine wl_nil ?_
    refine nx_then ?_
    refine wc_seq ?_
    refine wc_seq ?_
    refine wc_region ?_
    refine wl_val hW rfl rfl (x_move rfl) ?_
    refine wl_call hW rfl rfl (x_call en60 rfl) (C60.inF hFF) ?_
    rintro _ wG ⟨⟨bg, rfl, hbg, hBg⟩, hxC⟩
    have nbg : bg ≠ b8 := Nat.ne_of_gt (Nat.lt_of_lt_of_le hB8.lt hbg)
    replace hB4 := hB4.ext hxC
    replace hB5 := hB5.ext hxC
    replace hB8 := hB8.ext hxC
    replace hE := hE.trans hxC
    refine wl_nil ?_
    refine nx_then ?_
    refine wc_block ?_
    have hRG := hR.ext hE
    have hb8lt := hB8.lt
    have hb4lt := hB4.lt
    have hb5lt := hB5.lt
    have hEG := hE
    refine wc_range (α := Grp es) (fun x => gval ad x.1) (fun k => k < wG.heap.size ∧ k ≠ b8) (fun xs => xs.map (·.1) = grps es.length 0 es) (fun pre => pre.map (·.1) <+: grps es.length 0 es) (es.length + 1) rfl en83 rfl (C83 hRG (fun k h => ⟨Nat.lt_of_lt_of_le h hE.size, by omega⟩) ⟨hBg.lt, nbg⟩ hBg) (fun k h => h.1) (fun pre W => Coll wG b8 (fun k => wG.heap.size ≤ k) (pre.flatMap fun x : Grp es => x.1.2.take (leftN keep bottom x.1.2)) W) (fun _ _ _ => False) (fun s W W' h hn => h.nc hn) (fun c s W W' h _ => h) (Coll.start hB8) (fun x => [(4, .pointer (some ⟨b4, 0, none⟩)), (5, .pointer (some ⟨b5, 0, none⟩)), (8, .pointer (some ⟨b8, 0, none⟩)), (9, gval ad x.1)]) ?_ ?_ ?_ ?_
    · intro l x W K hK
      have hW := hWw.round l
      -- assign
      refine wc_region ?_
      refine wl_val hW rfl rfl (x_assign rfl) ?_
      refine wl_nil ?_
      exact fun a ha => hK a (ha.sub (by repeat (first | exact sub_nil | refine sub_cons rfl ?_)))
    · rintro l pre ⟨x, hx⟩ W hI hpl
      -- body
      obtain ⟨⟨ov, hBo, hO⟩, hK⟩ := hI
      have hGW := hRG.ck (CK.of_keep hK (fun k _ h => ⟨Nat.lt_of_lt_of_le h hEG.size, by omega⟩))
      have hcx : ∀ x' : Grp es, (pre ++ [x']).flatMap (fun x : Grp es => x.1.2.take (leftN keep bottom x.1.2)) = pre.flatMap (fun x : Grp es => x.1.2.take (leftN keep bottom x.1.2)) ++ x'.1.2.take (leftN keep bottom x'.1.2) := fun x' => by simp
      have hcx := hcx ⟨x, hx⟩
      have hgle : ∀ x : Grp es, x.1.2.length ≤ es.length := fun x => by obtain ⟨p, s, e, -⟩ := x.2; have := congrArg List.length e; simp only [List.length_append] at this; omega
      have hcl := flat_len_le (fun x : Grp es => x.1.2.take (leftN keep bottom x.1.2)) es.length pre (fun x _ => by have := hgle x; simp; omega)
      have hgl0 := hgle ⟨x, hx⟩
      have hmul : pre.length * es.length ≤ 1048000 * 1048000 := Nat.mul_le_mul (by omega) hl
      dsimp only at hcx hgl0
      obtain ⟨px, sx, hex, hpx⟩ := hx
      obtain ⟨x1, g⟩ := x
      dsimp only at hex hpx hcx hgl0
      subst hpx
      replace hGW := gval_row hGW hex
      show WC _ _ _ _ _ _ _ [(4, _), (5, _), (8, _), (9, gval ad (px.length, g))] _
      generalize gval ad (px.length, g) = gv at hGW ⊢
      obtain ⟨ga, gc, rfl, hgc, hgl⟩ := hGW.form
      have hG := hGW
      have hnl := leftN_le keep bottom g
      replace hB4 := hB4.keep hK ⟨hb4lt, n8_4.symm⟩
      replace hB5 := hB5.keep hK ⟨hb5lt, n8_5.symm⟩
      replace hB8 := hBo
      replace hE : Ext W W := Keep.refl _ _
      have hW := hWw.round l
      have hFF := hFr l
      refine wc_block ?_
      refine wc_seq ?_
      refine wc_region ?_
      refine wl_val hW rfl rfl (x_move rfl) ?_
      refine wl_val hW rfl rfl (x_load fl22 rfl (hB4.cell (o := 0) rfl)) ?_
      refine wl_call hW rfl rfl (x_call en61 rfl) ((C61 hG).inF hFF) ?_
      rintro _ wC ⟨rfl, hxC⟩
      replace hG := hG.ext hxC
      replace hB4 := hB4.ext hxC
      replace hB5 := hB5.ext hxC
      replace hB8 := hB8.ext hxC
      replace hE := hE.trans hxC
      refine wl_val hW rfl rfl (x_assign rfl) ?_
      refine wl_nil ?_
      refine nx_then ?_
      refine wc_seq ?_
      refine wc_seq ?_
      refine wc_cut [(8, .pointer (some ⟨b8, 0, none⟩)), (9, .slice ga g.length gc), (10, .int .i64 (newestN keep g)), (36, .bool (decide (newestN keep g < leftN keep bottom g)))] (fun w' => w' = wC) ?_ ?_
      · refine wc_region ?_
        refine wl_val hW rfl rfl (x_move rfl) ?_
        refine wl_val hW rfl rfl (x_move rfl) ?_
        refine wl_val hW rfl rfl (x_len Try.underlying26 rfl) ?_
        refine wl_val hW rfl rfl (x_lss rfl rfl) ?_
        refine wl_val hW rfl rfl (x_move rfl) ?_
        refine wl_dcases (d := 26) rfl (fun hg26 => ?_) (fun hg26 => ?_)
        · have hi : newestN keep g < g.length := by omega
          have hls := leftN_some (keep := keep) (bottom := bottom) hi
          obtain ⟨b, o, cap', bv, e1, hA, hC29, hb1, hok1⟩ := hG.at _ hi
          cases e1
          refine wl_val hW rfl rfl (x_move rfl) ?_
          refine wl_val hW rfl rfl (x_move rfl) ?_
          refine wl_val hW rfl rfl (x_indexAddr Try.underlying26 ag25.siz rfl rfl (by omega) (by omega)) ?_
          refine wl_val hW rfl rfl (x_fieldAddr Try.underlying25 rfl fl4.siz rfl) ?_
          refine wl_val hW rfl rfl (x_load fl4 rfl (hC29 2 _ rfl)) ?_
          refine wl_val hW rfl rfl (x_move rfl) ?_
          refine wl_bcases (d := 32) rfl (fun hg32 => ?_) (fun hg32 => ?_)
          · refine wl_val hW rfl rfl (x_load fl4 rfl (hB5.cell (o := 0) rfl)) ?_
            refine wl_val hW rfl rfl (x_pickT rfl rfl) ?_
            refine wl_val hW rfl rfl (x_not rfl) ?_
            refine wl_val hW rfl rfl (x_pickT rfl rfl) ?_
            refine wl_nil ?_
            exact nx_cut (by rw [show decide (newestN keep g < leftN keep bottom g) = !bottom from by rw [hls, show g[newestN keep g].g = true from hg32]; cases bottom <;> simp]; repeat (first | exact sub_nil | refine sub_cons rfl ?_)) rfl
          · refine wl_off hW rfl rfl ?_
            refine wl_val hW rfl rfl (x_pickF rfl rfl) ?_
            refine wl_val hW rfl rfl (x_not rfl) ?_
            refine wl_val hW rfl rfl (x_pickT rfl rfl) ?_
            refine wl_nil ?_
            exact nx_cut (by rw [show decide (newestN keep g < leftN keep bottom g) = true from by rw [hls, show g[newestN keep g].g = false from hg32]; simp]; repeat (first | exact sub_nil | refine sub_cons rfl ?_)) rfl
        · refine wl_off hW rfl rfl ?_
          refine wl_off hW rfl rfl ?_
          refine wl_off hW rfl rfl ?_
          refine wl_off hW rfl rfl ?_
          refine wl_off hW rfl rfl ?_
          refine wl_off hW rfl rfl ?_
          refine wl_off hW rfl rfl ?_
          refine wl_off hW rfl rfl ?_
          refine wl_off hW rfl rfl ?_
          refine wl_val hW rfl rfl (x_pickF rfl rfl) ?_
          refine wl_nil ?_
          exact nx_cut (by rw [show decide (newestN keep g < leftN keep bottom g) = false from by rw [leftN_none (by omega)]; simp]; repeat (first | exact sub_nil | refine sub_cons rfl ?_)) rfl
      · rintro w' rfl
        refine nx_then ?_
        refine wc_cut [(8, .pointer (some ⟨b8, 0, none⟩)), (9, .slice ga g.length gc), (10, .int .i64 (leftN keep bottom g))] (fun w'' => w'' = w') ?_ ?_
        · refine wc_bool rfl (fun hc => ?_) (fun hc => ?_)
          · replace hc := of_decide_eq_true hc
            refine wc_region ?_
            refine wl_val hW rfl rfl (x_move rfl) ?_
            refine wl_val hW rfl rfl (x_inc (s := newestN keep g) rfl (by omega)) ?_
            refine wl_val hW rfl rfl (x_assign rfl) ?_
            refine wl_nil ?_
            exact nx_cut (by rw [show leftN keep bottom g = newestN keep g + 1 from by omega]; repeat (first | exact sub_nil | refine sub_cons rfl ?_)) rfl
          · replace hc := of_decide_eq_false hc
            refine wc_skip ?_
            exact nx_cut (by rw [show leftN keep bottom g = newestN keep g from by omega]; repeat (first | exact sub_nil | refine sub_cons rfl ?_)) rfl
        · rintro w' rfl
          refine nx_then ?_
          refine wc_seq ?_
          refine wc_region ?_
          refine wl_val hW rfl rfl (x_move rfl) ?_
          refine wl_val hW rfl rfl (x_move rfl) ?_
          refine wl_val hW rfl rfl (x_sliceh Try.underlying26 ag25.siz rfl rfl (by omega)) ?_
          have hT := hGW.sliceh hnl.2.2
          generalize (if gc = 0 then ga else ga.map (·.add (0 * 4))) = ta at hT ⊢
          refine wl_val hW rfl rfl (x_len Try.underlying26 rfl) ?_
          refine wl_val hW rfl rfl (x_move rfl) ?_
          refine wl_nil ?_
          refine nx_then ?_
          refine wc_block ?_
          refine wc_loop (σ := Nat) (fun s => [(8, .pointer (some ⟨b8, 0, none⟩)), (41, .slice ta (leftN keep bottom g - 0) (gc - 0)), (42, .int .i64 ((leftN keep bottom g - 0 : Nat) : Int)), (43, .int .i64 s)]) (fun s w' => s ≤ leftN keep bottom g ∧ Col2 wG W b8 (fun k => wG.heap.size ≤ k) ov (pre.flatMap (fun x : Grp es => x.1.2.take (leftN keep bottom x.1.2)) ++ g.take s) w') (fun s => leftN keep bottom g - s) 0 ?_ ?_ ?_
          · exact ⟨Nat.zero_le _, ⟨ov, hB8, by rw [List.take_zero, List.append_nil]; exact hO.ext hE, fun b h => .inl h⟩, KeepR.of_ext hE⟩
          · repeat (first | exact sub_nil | refine sub_cons rfl ?_)
          · rintro s wr ⟨hs, ⟨ov', hB8, hO', hob⟩, hKr⟩
            replace hE : Ext wr wr := Keep.refl _ _
            have hTr := hT.ck (CK.of_keep hKr (fun k _ h => ⟨by have := hEG.size; omega, fun e => by have := (hO.lt _ e.symm).1; have := hEG.size; omega⟩))
            refine wc_seq ?_
            refine wc_region ?_
            refine wl_val hW rfl rfl (x_lss rfl rfl) ?_
            refine wl_nil ?_
            refine nx_then ?_
            refine wc_seq ?_
            refine wc_dec rfl (fun hc => ?_) (fun hc => ?_)
            · replace hc : ((s : Nat) : Int) < ((leftN keep bottom g - 0 : Nat) : Int) := hc
              refine wc_skip ?_
              refine nx_then ?_
              refine wc_seq ?_
              refine wc_block ?_
              refine wc_seq ?_
              refine wc_region ?_
              have hslt : s < (g.take (leftN keep bottom g)).length := by simp; omega
              obtain ⟨b, o, cap', bv, e1, hA, hC45, hb1, hok1⟩ := hTr.at s hslt
              injection e1 with e1 e1b e1c
              subst e1
              obtain ⟨av, cv, hbv, hcv⟩ := hb1.form
              subst hbv
              refine wl_val hW rfl rfl (x_indexAddr Try.underlying26 ag25.siz rfl rfl (by omega) (by omega)) ?_
              refine wl_val hW rfl rfl (x_loadA ag25 rfl hC45 rfl) ?_
              refine wl_alloc (cs := [.string ⟨#[]⟩, .int .u64 0, .bool false, .slice none 0 0]) hW rfl rfl Try.zeroValue25 rfl ?_
              intro b12 w12 hl12 hB12 hx12
              have g12 : wr.heap.size ≤ b12 := Nat.le_trans hE.size hl12
              have n12_8 : b12 ≠ b8 := Nat.ne_of_gt (Nat.lt_of_lt_of_le hB8.lt hl12)
              replace hB8 := hB8.ext hx12
              replace hE := hE.trans hx12
              refine wl_storeA hW rfl ag25 rfl rfl rfl rfl hB12 rfl ?_
              intro wS hBS hkS
              replace hB8 := hB8.keep hkS n12_8.symm
              replace hB12 := hBS
              clear hBS
              replace hE := hE.store hkS g12
              refine wl_nil ?_
              refine nx_then ?_
              refine wc_draw' 4 hW mixed (by kernel_rfl) (fun w0 hx0 => ?_)
              replace hB8 := hB8.ext hx0
              replace hB12 := hB12.ext hx0
              replace hE := hE.trans hx0
              refine q_val rfl rfl (fun _ hx => x_load fl26 rfl (hx.cell (hB8.cell (o := 0) rfl))) ?_
              refine q_val rfl rfl (fun _ hx => x_loadA ag25 rfl (hB12.ext hx).cells rfl) ?_
              have hsz := hE.size
              have hKs := hK.size
              have hKrs := hKr.size
              refine q_apart (e := (g.take (leftN keep bottom g))[s]) rfl rfl rfl rfl en62 (fun _ hx => (C62 ((hb1.ext hE).ext hx) hok1).inF hFF) ?_
              refine q_build1 rfl rfl (List.mem_cons_self ..) ?_
              refine q_nil (tail2 (fun wt v50 v49 hxt h50 h49 => ?_))
              replace hB8 := hB8.ext hxt
              replace hB12 := hB12.ext hxt
              replace hE := hE.trans hxt
              obtain ⟨b50, bv50, rfl, g50, hB50, hb50⟩ := h50
              have hsz2 := hE.size
              refine wl_append1 hW rfl rfl rfl rfl (hO'.ext hE) (by simp only [List.length_append, List.length_take]; omega) hB50 (hb50.mono (fun k _ h => ⟨by omega, fun e => by have := hO'.lt _ e.symm; omega⟩)) hok1 (by omega) ?_
              intro v51 wA hO2 hkA hcA
              have hB8A := hB8.keep hkA (fun e => (hO'.ext hE).ne hB8 (by decide) _ e.symm rfl)
              refine wl_store hW rfl fl26 rfl rfl hO2.one hB8A rfl ?_
              intro wS hBS hkS
              refine wl_nil ?_
              refine nx_block ?_
              refine nx_then ?_
              refine wc_region ?_
              refine wl_val hW rfl rfl (x_inc (s := s) rfl (by omega)) ?_
              refine wl_val hW rfl rfl (x_move rfl) ?_
              refine wl_nil ?_
              exact nx_next (s + 1) (by omega) ⟨by omega, ⟨_, hBS, by rw [take_snoc hslt, ← List.append_assoc]; exact hO2.keep hkS (hO2.ne hB8A (by decide)) (fun k _ h => by omega), fun b hb => by rcases hcA with h | ⟨b', h, h'⟩; rw [h] at hb; exact hob b hb; rw [h] at hb; cases hb; right; omega⟩, ((hKr.trans (KeepR.of_ext hE)).then hkA (fun k hk h e => by rcases hob k e.symm with h' | h'; exact h.2 h'.symm; omega)).then hkS (fun k _ h => h.1)⟩ (by repeat (first | exact sub_nil | refine sub_cons rfl ?_))
            · replace hc : ¬ ((s : Nat) : Int) < ((leftN keep bottom g - 0 : Nat) : Int) := hc
              refine wc_exit ?_
              refine nx_then_exit ?_
              refine nx_then_exit ?_
              refine nx_block_exit ?_
              refine nx_block ?_
              exact round_coll (fun _ h => h) hBo ⟨_, hO⟩ hK hKr ⟨_, hB8, by rw [hcx]; rw [show s = leftN keep bottom g from by omega] at hO'; exact hO'⟩
    · intro B xs W hBB hs hi hk
      -- done
      obtain ⟨⟨ov, hBo, hO⟩, hK⟩ := hi
      replace hB8 := hBo
      refine nx_block ?_
      refine nx_then ?_
      refine wc_seq ?_
      refine wc_region ?_
      refine wl_val hW rfl rfl (x_load fl26 rfl (hB8.cell (o := 0) rfl)) ?_
      refine wl_val hW rfl rfl (x_assign rfl) ?_
      refine wl_val hW rfl rfl (x_assign rfl) ?_
      refine wl_nil ?_
      refine nx_then ?_
      refine wc_ret ?_
      obtain ⟨hdr, hde⟩ := coll_done hEG g8 hK hO hBB hk (es := leftL keep bottom es) (by unfold leftL; rw [← hs, List.flatMap_map]) (by have := leftL_le keep bottom es; omega)
      exact ends_ret_mark hk (res_tmp2 Try.results25 rfl rfl) ⟨⟨_, by rw [hrt]; rfl, by rw [hrt]; exact hdr⟩, hde⟩
    · exact fun B c pre W _ _ h _ => h.elim
end Go.Proofs.Ytblbddamebbgaaa.K


/- Bytes and strings converted; what the document's functions tell, plain. -/
namespace Go.Proofs.Ytblbddamebbgaaa.K
open Go Go.RowKit
set_option linter.unusedVariables false
set_option linter.unusedSectionVars false
set_option linter.unusedSimpArgs false

section
variable {m : Nat} {D : List Deferred} {L : Env} {w : World} {ty : TypeId} {x : Operand} {v : Value} {A : Nat → Prop} {l : List UInt8}
theorem run_convB (h : Byts A w v l) : (convert 23 9 v).run Try.prog w = .ok (.string ⟨l.toArray⟩) w := by
  obtain ⟨ad, cap, rfl, hcap, hc⟩ := h
  cases ad with
  | none =>
    have hl0 : l = [] := by
      cases l with
      | nil => rfl
      | cons u l => obtain ⟨b, o, h, -⟩ := hc (by simp); cases h
    subst hl0
    exact run_convert_bytes_nil (P := Try.prog) (w := w) 23 5 Try.underlying23 Try.underlying5 _ _ 9 Try.underlying9
  | some a =>
    refine run_convert_bytes_back (P := Try.prog) w 23 9 5 a cap l Try.underlying23 Try.underlying5 Try.underlying9 (fun j hj => ?_)
    obtain ⟨b, o, h, -, hcell⟩ := hc (by rintro rfl; simp at hj)
    cases h
    rw [add_mk]
    exact hcell j _ (List.getElem?_eq_getElem hj)
theorem x_convB (hx : ev L x = some v) (h : Byts A w v l) : Xv Try.prog m D L (.convert 23 9 x) ty w (.string ⟨l.toArray⟩) w :=
  ⟨nofun, fun _ _ _ _ a ha => by simp [execOp, ha.ev hx, run_convB h]⟩
end
theorem toList_mk (l : List UInt8) : (ByteArray.mk l.toArray).toList = l := by
  have h : ∀ (b : ByteArray), b.toList = b.data.toList := fun b => by simp [ByteArray.toList_eq]
  rw [h]

/-! ### entries compared -/
def sameB (a b : Ent) : Bool := a.k.toList == b.k.toList && (decide (a.s = b.s) && ((a.g == b.g) && ((ByteArray.mk a.v.toArray).toList == (ByteArray.mk b.v.toArray).toList)))
theorem sameB_iff {a b : Ent} : sameB a b = true ↔ a = b := by
  constructor
  · intro h
    simp only [sameB, Bool.and_eq_true, beq_iff_eq, decide_eq_true_eq, toList_mk] at h
    obtain ⟨ak, as_, ag, av⟩ := a
    obtain ⟨bk, bs, bg, bv⟩ := b
    obtain ⟨h1, h2, h3, h4⟩ := h
    simp only at h1 h2 h3 h4
    rw [ba_ext h1, h2, h3, h4]
  · rintro rfl; simp [sameB]

theorem cmpE_1 {a b : Ent} (h : Op.bytesLess a.k.toList b.k.toList = true) : cmpE a b = -1 := by unfold cmpE; rw [cmpS_1 h]; rfl
theorem cmpE_2 {a b : Ent} (h1 : Op.bytesLess a.k.toList b.k.toList = false) (h : (!(Op.bytesLess a.k.toList b.k.toList || a.k.toList == b.k.toList)) = true) : cmpE a b = 1 := by unfold cmpE; rw [cmpS_2 h1 h]; rfl
theorem cmpE_3 {a b : Ent} (h1 : Op.bytesLess a.k.toList b.k.toList = false) (h : (!(Op.bytesLess a.k.toList b.k.toList || a.k.toList == b.k.toList)) = false) : cmpE a b = cmpI b.s a.s := by unfold cmpE; rw [cmpS_3 h1 h]; rfl
/-- Is something wrong with element s? -/
def badB (es : List Ent) (s : Nat) : Bool := !okB (es.getD s z0) || (decide (0 < s) && decide (0 ≤ cmpE (es.getD (s - 1) z0) (es.getD s z0)))
theorem getD_eq {es : List Ent} {s : Nat} (h : s < es.length) : es.getD s z0 = es[s] := by rw [List.getD_eq_getElem?_getD, List.getElem?_eq_getElem h]; rfl
theorem badB_true {es : List Ent} {s : Nat} (hs : s < es.length) (h : badB es s = true) : rightB es = false := by
  cases hr : rightB es with
  | false => rfl
  | true =>
    obtain ⟨h1, h2⟩ := rightB_iff.1 hr
    have h3 := adj_of_sorted h2
    unfold badB at h
    rw [Bool.or_eq_true] at h
    rcases h with h | h
    · rw [getD_eq hs, okB_iff.2 (h1 _ (List.getElem_mem hs))] at h; cases h
    · rw [Bool.and_eq_true, decide_eq_true_eq, decide_eq_true_eq] at h
      obtain ⟨t, rfl⟩ : ∃ t, s = t + 1 := ⟨s - 1, by omega⟩
      rw [getD_eq hs, Nat.add_sub_cancel, getD_eq (by omega)] at h
      have := cmpE_neg.2 (h3 t hs)
      omega
theorem badB_false {es : List Ent} (h : ∀ s, s < es.length → badB es s = false) : rightB es = true := by
  have h0 : ∀ s, s < es.length → okB (es.getD s z0) = true ∧ (0 < s → cmpE (es.getD (s - 1) z0) (es.getD s z0) < 0) := fun s hs => by
    have := h s hs
    unfold badB at this
    rw [Bool.or_eq_false_iff] at this
    refine ⟨by simpa using this.1, fun hs => ?_⟩
    have h2 := this.2
    rw [decide_eq_true hs, Bool.true_and, decide_eq_false_iff_not] at h2
    omega
  refine rightB_iff.2 ⟨fun e he => ?_, sorted_of_adj _ fun i hi => ?_⟩
  · obtain ⟨i, hi, rfl⟩ := List.getElem_of_mem he
    have := (h0 i hi).1
    rw [getD_eq hi] at this
    exact okB_iff.1 this
  · have := (h0 (i + 1) hi).2 (by omega)
    rw [getD_eq hi, Nat.add_sub_cancel, getD_eq (by omega)] at this
    exact cmpE_neg.1 this

theorem badB_1 {es : List Ent} {s : Nat} (hs : s < es.length) (h : okB es[s] = false) : badB es s = true := by unfold badB; rw [getD_eq hs, h]; rfl
theorem badB_2 {es : List Ent} {s : Nat} (hs : s < es.length) (h : okB es[s] = true) (hp : 0 < s) : badB es s = decide (0 ≤ cmpE es[s - 1] es[s]) := by unfold badB; rw [getD_eq hs, getD_eq (show s - 1 < es.length by omega), h, decide_eq_true hp]; simp
theorem badB_3 {es : List Ent} {s : Nat} (hs : s < es.length) (h : okB es[s] = true) (hp : ¬ 0 < s) : badB es s = false := by unfold badB; rw [getD_eq hs, h, decide_eq_false hp]; rfl
theorem okB_1 {e : Ent} (h1 : e.g = true) (h2 : (0 : Int) < (e.v.length : Int)) : okB e = false := by unfold okB; rw [h1, decide_eq_true h2]; rfl
theorem okB_2 {e : Ent} (h2 : ¬ (0 : Int) < (e.v.length : Int)) : okB e = true := by unfold okB; rw [decide_eq_false h2, Bool.and_false]; rfl
theorem okB_3 {e : Ent} (h1 : e.g = false) : okB e = true := by unfold okB; rw [h1]; rfl

/-! ### the document's Seen and Prune -/
def freshB (pk : Option ByteArray) (e : Ent) : Bool := match pk with
  | some k => !(e.k.toList == k.toList)
  | none => false
def doneB (pk : Option ByteArray) (d : Bool) (e : Ent) : Bool := if freshB pk e then false else d
def rSeen (up : Int) : Option ByteArray → Bool → List Ent → List Ent
  | _, _, [] => []
  | pk, d, e :: es => if doneB pk d e || decide (up < e.s) then rSeen up (some e.k) (doneB pk d e) es else (if e.g then [] else [e]) ++ rSeen up (some e.k) true es
def rLeft (keep : Int) (bottom : Bool) : Option ByteArray → Bool → List Ent → List Ent
  | _, _, [] => []
  | pk, d, e :: es => if keep < e.s then e :: rLeft keep bottom (some e.k) (doneB pk d e) es else (if !doneB pk d e && !(e.g && bottom) then [e] else []) ++ rLeft keep bottom (some e.k) true es
theorem doneB_same {k : ByteArray} {d : Bool} {e : Ent} (h : e.k = k) : doneB (some k) d e = d := by simp [doneB, freshB, h]
theorem doneB_new {k : ByteArray} {d : Bool} {e : Ent} (h : e.k ≠ k) : doneB (some k) d e = false := by
  have : (e.k.toList == k.toList) = false := by
    cases hb : e.k.toList == k.toList with
    | false => rfl
    | true => exact absurd (ba_ext (by simpa using hb)) h
  simp [doneB, freshB, this]
theorem rSeen_done (up : Int) (k : ByteArray) (rest : List Ent) : ∀ g : List Ent, (∀ e ∈ g, e.k = k) → rSeen up (some k) true (g ++ rest) = rSeen up (some k) true rest
  | [], _ => rfl
  | e :: g, h => by
    have hk := h e (by simp)
    simp only [List.cons_append, rSeen, doneB_same hk, Bool.true_or, if_true]
    rw [hk]; exact rSeen_done up k rest g fun x hx => h x (by simp [hx])
theorem rSeen_grp (up : Int) (k : ByteArray) (rest : List Ent) : ∀ g : List Ent, (∀ e ∈ g, e.k = k) → rSeen up (some k) false (g ++ rest) = seenG up g ++ rSeen up (some k) (decide (newestN up g < g.length)) rest
  | [], _ => by simp [seenG, newestN]
  | e :: g, h => by
    have hk := h e (by simp)
    have hg : ∀ x ∈ g, x.k = k := fun x hx => h x (by simp [hx])
    simp only [List.cons_append, rSeen, doneB_same hk, Bool.false_or]
    by_cases hs : e.s ≤ up
    · have h0 : newestN up (e :: g) = 0 := by simp [newestN, hs]
      rw [if_neg (by simpa using hs), hk, rSeen_done up k rest g hg]
      simp only [seenG, h0, List.getElem?_cons_zero, List.length_cons]
      cases e.g <;> simp
    · have h1 : newestN up (e :: g) = newestN up g + 1 := by simp [newestN, hs]
      rw [if_pos (by simp; omega), hk, rSeen_grp up k rest g hg]
      simp only [seenG, h1, List.getElem?_cons_succ, List.length_cons]
      congr 2
      simp
theorem rSeen_fresh (up : Int) (k : ByteArray) (d : Bool) : ∀ rest : List Ent, (∀ e, rest.head? = some e → e.k ≠ k) → rSeen up (some k) d rest = rSeen up none false rest
  | [], _ => rfl
  | e :: rest, h => by
    have := h e rfl
    simp only [rSeen, doneB_new this]
    rfl
theorem rSeen_start (up : Int) (e : Ent) (tl : List Ent) : rSeen up none false (e :: tl) = rSeen up (some e.k) false (e :: tl) := by
  simp only [rSeen, doneB_same rfl]; rfl
theorem head_drop {p : Ent → Bool} {e : Ent} : ∀ l : List Ent, (l.dropWhile p).head? = some e → p e = false
  | [], h => by simp at h
  | x :: l, h => by
    by_cases hp : p x = true
    · simp [hp] at h; exact head_drop l (by simpa using h)
    · simp [hp] at h; subst h; simpa using hp
theorem grps_all {k : ByteArray} {l : List Ent} : ∀ e ∈ l.takeWhile (fun x => decide (x.k = k)), e.k = k := fun e he => by
  induction l with
  | nil => simp at he
  | cons x l ih =>
    simp only [List.takeWhile_cons] at he
    split at he
    · rename_i hx
      rcases List.mem_cons.1 he with rfl | he
      · simpa using hx
      · exact ih he
    · simp at he
theorem rSeen_eq (up : Int) : ∀ (f o : Nat) (es : List Ent), es.length ≤ f → rSeen up none false es = (grps f o es).flatMap fun x => seenG up x.2
  | _, _, [], _ => by rename_i f o _; cases f <;> rfl
  | 0, _, e :: es, h => by simp at h
  | f + 1, o, e :: es, h => by
    have happ := List.takeWhile_append_dropWhile (p := fun x : Ent => decide (x.k = e.k)) (l := es)
    have hl : (es.dropWhile fun x => decide (x.k = e.k)).length ≤ f := by
      have := congrArg List.length happ
      simp only [List.length_append, List.length_cons] at this h
      omega
    have hall : ∀ x ∈ e :: es.takeWhile (fun x => decide (x.k = e.k)), x.k = e.k := fun x hx => by
      rcases List.mem_cons.1 hx with rfl | hx
      · rfl
      · exact grps_all x hx
    rw [rSeen_start]
    conv => lhs; rw [← happ, ← List.cons_append]
    rw [rSeen_grp up e.k _ _ hall, rSeen_fresh up e.k _ _ (fun x hx => by simpa using head_drop es hx), rSeen_eq up f _ _ hl]
    rfl
theorem rSeen_is (up : Int) (es : List Ent) : rSeen up none false es = seenL up es := rSeen_eq up _ 0 es (Nat.le_refl _)

/-- Numbers fall. -/
def Fall (g : List Ent) : Prop := g.Pairwise fun a b => b.s < a.s
theorem rLeft_done (keep : Int) (bottom : Bool) (k : ByteArray) (rest : List Ent) : ∀ g : List Ent, (∀ e ∈ g, e.k = k) → (∀ e ∈ g, e.s ≤ keep) → rLeft keep bottom (some k) true (g ++ rest) = rLeft keep bottom (some k) true rest
  | [], _, _ => rfl
  | e :: g, h, hs => by
    have hk := h e (by simp)
    have h1 := hs e (by simp)
    simp only [List.cons_append, rLeft, doneB_same hk]
    rw [if_neg (by omega), hk]
    simp only [Bool.not_true, Bool.false_and, Bool.false_eq_true, if_false, List.nil_append]
    exact rLeft_done keep bottom k rest g (fun x hx => h x (by simp [hx])) (fun x hx => hs x (by simp [hx]))
theorem rLeft_grp (keep : Int) (bottom : Bool) (k : ByteArray) (rest : List Ent) : ∀ g : List Ent, (∀ e ∈ g, e.k = k) → Fall g → ∃ d, rLeft keep bottom (some k) false (g ++ rest) = g.take (leftN keep bottom g) ++ rLeft keep bottom (some k) d rest
  | [], _, _ => ⟨false, by simp⟩
  | e :: g, h, hf => by
    have hk := h e (by simp)
    have hg : ∀ x ∈ g, x.k = k := fun x hx => h x (by simp [hx])
    have hf1 := (List.pairwise_cons.1 hf).1
    have hf2 := (List.pairwise_cons.1 hf).2
    by_cases hs : e.s ≤ keep
    · have h0 : newestN keep (e :: g) = 0 := by simp [newestN, hs]
      refine ⟨true, ?_⟩
      simp only [List.cons_append, rLeft, doneB_same hk]
      rw [if_neg (by omega), hk, rLeft_done keep bottom k rest g hg (fun x hx => by have := hf1 x hx; omega)]
      simp only [leftN, h0, List.getElem?_cons_zero]
      cases e.g <;> cases bottom <;> simp
    · have h1 : newestN keep (e :: g) = newestN keep g + 1 := by simp [newestN, hs]
      have h2 : leftN keep bottom (e :: g) = leftN keep bottom g + 1 := by
        simp only [leftN, h1, List.getElem?_cons_succ]
        split
        · split <;> rfl
        · rfl
      obtain ⟨d, hd⟩ := rLeft_grp keep bottom k rest g hg hf2
      refine ⟨d, ?_⟩
      simp only [List.cons_append, rLeft, doneB_same hk]
      rw [if_pos (by omega), hk, hd, h2]
      rfl
theorem rLeft_fresh (keep : Int) (bottom : Bool) (k : ByteArray) (d : Bool) : ∀ rest : List Ent, (∀ e, rest.head? = some e → e.k ≠ k) → rLeft keep bottom (some k) d rest = rLeft keep bottom none false rest
  | [], _ => rfl
  | e :: rest, h => by
    have := h e rfl
    simp only [rLeft, doneB_new this]
    rfl
theorem rLeft_start (keep : Int) (bottom : Bool) (e : Ent) (tl : List Ent) : rLeft keep bottom none false (e :: tl) = rLeft keep bottom (some e.k) false (e :: tl) := by
  simp only [rLeft, doneB_same rfl]; rfl
theorem fall_of {k : ByteArray} {g : List Ent} (h : ∀ e ∈ g, e.k = k) (hs : Sorted g) : Fall g := by
  refine List.Pairwise.imp_of_mem (fun {a b} ha hb h' => ?_) hs
  rcases h' with h' | ⟨-, h'⟩
  · rw [h a ha, h b hb, bl_irrefl] at h'; cases h'
  · exact h'
theorem rLeft_eq (keep : Int) (bottom : Bool) : ∀ (f o : Nat) (es : List Ent), es.length ≤ f → Sorted es → rLeft keep bottom none false es = (grps f o es).flatMap fun x => x.2.take (leftN keep bottom x.2)
  | _, _, [], _, _ => by rename_i f o _ _; cases f <;> rfl
  | 0, _, e :: es, h, _ => by simp at h
  | f + 1, o, e :: es, h, hso => by
    have happ := List.takeWhile_append_dropWhile (p := fun x : Ent => decide (x.k = e.k)) (l := es)
    have hl : (es.dropWhile fun x => decide (x.k = e.k)).length ≤ f := by
      have := congrArg List.length happ
      simp only [List.length_append, List.length_cons] at this h
      omega
    have hall : ∀ x ∈ e :: es.takeWhile (fun x => decide (x.k = e.k)), x.k = e.k := fun x hx => by
      rcases List.mem_cons.1 hx with rfl | hx
      · rfl
      · exact grps_all x hx
    have hso2 : Sorted ((e :: es.takeWhile fun x => decide (x.k = e.k)) ++ es.dropWhile fun x => decide (x.k = e.k)) := by rw [List.cons_append, happ]; exact hso
    obtain ⟨hs1, hs2, -⟩ := List.pairwise_append.1 hso2
    rw [rLeft_start]
    conv => lhs; rw [← happ, ← List.cons_append]
    obtain ⟨d, hd⟩ := rLeft_grp keep bottom e.k (es.dropWhile fun x => decide (x.k = e.k)) _ hall (fall_of hall hs1)
    rw [hd, rLeft_fresh keep bottom e.k _ _ (fun x hx => by simpa using head_drop es hx), rLeft_eq keep bottom f (o + 1 + (es.takeWhile fun x => decide (x.k = e.k)).length) _ hl hs2]
    rfl
theorem rLeft_is (keep : Int) (bottom : Bool) (es : List Ent) (h : Sorted es) : rLeft keep bottom none false es = leftL keep bottom es := rLeft_eq keep bottom _ 0 es (Nat.le_refl _) h

/-! ### the loops of the document's Seen and Prune -/
def pkOf (es : List Ent) (s : Nat) : Option ByteArray := if s = 0 then none else some (es.getD (s - 1) z0).k
theorem pkOf_succ {es : List Ent} {s : Nat} (h : s < es.length) : pkOf es (s + 1) = some es[s].k := by unfold pkOf; rw [if_neg (by omega), Nat.add_sub_cancel, getD_eq h]
theorem fresh_pos {es : List Ent} {s : Nat} {e : Ent} (h0 : 0 < s) (h : s - 1 < es.length) : freshB (pkOf es s) e = !(e.k.toList == es[s - 1].k.toList) := by unfold pkOf; rw [if_neg (by omega), getD_eq h]; rfl
theorem fresh_zero {es : List Ent} {s : Nat} {e : Ent} (h0 : ¬ 0 < s) : freshB (pkOf es s) e = false := by unfold pkOf; rw [if_pos (by omega)]; rfl
theorem doneB_fresh {pk : Option ByteArray} {d : Bool} {e : Ent} (h : freshB pk e = true) : doneB pk d e = false := by unfold doneB; rw [h]; rfl
theorem doneB_stale {pk : Option ByteArray} {d : Bool} {e : Ent} (h : freshB pk e = false) : doneB pk d e = d := by unfold doneB; rw [h]; rfl
theorem drop_at {es : List Ent} {s : Nat} (h : s < es.length) : es.drop s = es[s] :: es.drop (s + 1) := List.drop_eq_getElem_cons h
theorem rSeen_skip {up : Int} {pk : Option ByteArray} {d : Bool} {e : Ent} {es : List Ent} (h : (doneB pk d e || decide (up < e.s)) = true) : rSeen up pk d (e :: es) = rSeen up (some e.k) (doneB pk d e) es := by simp only [rSeen, h, if_true]
theorem rSeen_take {up : Int} {pk : Option ByteArray} {d : Bool} {e : Ent} {es : List Ent} (h : (doneB pk d e || decide (up < e.s)) = false) : rSeen up pk d (e :: es) = (if e.g then [] else [e]) ++ rSeen up (some e.k) true es := by simp [rSeen, h]
theorem rLeft_keep {keep : Int} {bottom : Bool} {pk : Option ByteArray} {d : Bool} {e : Ent} {es : List Ent} (h : keep < e.s) : rLeft keep bottom pk d (e :: es) = e :: rLeft keep bottom (some e.k) (doneB pk d e) es := by simp only [rLeft, h, if_true]
theorem rLeft_old {keep : Int} {bottom : Bool} {pk : Option ByteArray} {d : Bool} {e : Ent} {es : List Ent} (h : ¬ keep < e.s) : rLeft keep bottom pk d (e :: es) = (if !doneB pk d e && !(e.g && bottom) then [e] else []) ++ rLeft keep bottom (some e.k) true es := by simp only [rLeft, if_neg h]
/-- What is collected in ov, and what is still to come. -/
def OutIs (w w' : World) (ov : Value) (n : Nat) (rest all : List Ent) : Prop := ∃ coll, OwnE (fun k => k < w.heap.size) w.heap.size w' ov coll ∧ coll.length ≤ n ∧ coll ++ rest = all
theorem OutIs.row {w w' : World} {ov : Value} {n : Nat} {all : List Ent} (h : OutIs w w' ov n [] all) (hn : n ≤ 1099511627776) : Row (fun _ => True) w' ov all := by
  obtain ⟨coll, h1, h2, h3⟩ := h
  rw [List.append_nil] at h3
  subst h3
  exact (h1.row (by omega)).mono fun _ _ _ => trivial
end Go.Proofs.Ytblbddamebbgaaa.K

/- Walks: the document's own functions on entries, and the laws' helpers. -/
namespace Go.Proofs.Ytblbddamebbgaaa.K
open Go Go.RowKit
set_option linter.unusedVariables false
set_option linter.unusedSimpArgs false

theorem C17 {A : Nat → Prop} {w : World} {v : Value} {es : List Ent} {m : Int} (hR : Row A w v es) : Rt Try.prog 17 [v, .int .i64 m] w fun r w' => (∃ b, r = .bool b ∧ (b = true → (es.length : Int) ≤ m)) ∧ Ext w w' := by
  obtain ⟨ad, cap, rfl, hcap, hlen⟩ := hR.form
  have hW := hWw
  have hFF := hFw
  have hE : Ext w w := Keep.refl _ _
  refine rt_body Try.func17 rfl Try.ntmps17 rfl ?_
  refine wc_seq ?_
  refine wc_region ?_
  refine wl_val hW rfl rfl (x_assign rfl) ?_
  refine wl_nil ?_
  refine nx_then ?_
  refine wc_seq ?_
  refine wc_region ?_
  refine wl_val hW rfl rfl (x_assign rfl) ?_
  refine wl_nil ?_
  refine nx_then ?_
  refine wc_seq ?_
  refine wc_seq ?_
  refine wc_region ?_
  refine wl_val hW rfl rfl (x_assign rfl) ?_
  refine wl_nil ?_
  refine nx_then ?_
  refine wc_block ?_
  refine wc_loop (σ := Nat × Nat) (fun s => [(0, .slice ad es.length cap), (1, .int .i64 m), (5, .int .i64 s.2), (6, .int .i64 s.1)]) (fun s w' => (s.1 ≤ es.length ∧ s.2 ≤ s.1 * 2097152) ∧ Ext w w') (fun s => es.length - s.1) (0, 0) ?_ ?_ ?_
  · exact ⟨⟨Nat.zero_le _, Nat.zero_le _⟩, hE⟩
  · repeat (first | exact sub_nil | refine sub_cons rfl ?_)
  · rintro ⟨s, t⟩ wr ⟨hs, hE⟩
    dsimp only at hs
    refine wc_seq ?_
    refine wc_seq ?_
    refine wc_region ?_
    refine wl_val hW rfl rfl (x_move rfl) ?_
    refine wl_val hW rfl rfl (x_move rfl) ?_
    refine wl_val hW rfl rfl (x_len Try.underlying26 rfl) ?_
    refine wl_val hW rfl rfl (x_lss rfl rfl) ?_
    refine wl_nil ?_
    refine nx_then ?_
    refine wc_dec rfl (fun hc => ?_) (fun hc => ?_)
    · replace hc : ((s : Nat) : Int) < es.length := hc
      refine wc_skip ?_
      refine nx_then ?_
      refine wc_seq ?_
      refine wc_block ?_
      refine wc_draw' 15 hW mixed (by kernel_rfl) (fun w0 hx0 => ?_)
      replace hE := hE.trans hx0
      have hlt : s < es.length := by omega
      obtain ⟨b, o, cap', bv, e1, hA, hC16, hb1, hok1⟩ := (hR.ext hE).at s hlt
      cases e1
      obtain ⟨av, cv, hbv, hcv⟩ := hb1.form
      subst hbv
      have hC23 := hC16
      have hok2 := hok1.k
      have hok3 := hok1.v
      refine q_val rfl rfl (fun _ hx => x_move rfl) ?_
      refine q_val rfl rfl (fun _ hx => x_move rfl) ?_
      refine q_val rfl rfl (fun _ hx => x_move rfl) ?_
      refine q_val rfl rfl (fun _ hx => x_indexAddr Try.underlying26 ag25.siz rfl rfl (by omega) (by omega)) ?_
      refine q_val rfl rfl (fun _ hx => x_fieldAddr Try.underlying25 rfl fl9.siz rfl) ?_
      refine q_val rfl rfl (fun _ hx => x_load fl9 rfl (hx.cell (hC16 0 _ rfl))) ?_
      refine q_val rfl rfl (fun _ hx => x_lens Try.underlying9 rfl) ?_
      refine q_val rfl rfl (fun _ hx => x_addn (i := t) (j := es[s].k.size) rfl rfl (by omega)) ?_
      refine q_val rfl rfl (fun _ hx => x_move rfl) ?_
      refine q_val rfl rfl (fun _ hx => x_move rfl) ?_
      refine q_val rfl rfl (fun _ hx => x_indexAddr Try.underlying26 ag25.siz rfl rfl (by omega) (by omega)) ?_
      refine q_val rfl rfl (fun _ hx => x_fieldAddr Try.underlying25 rfl fl23.siz rfl) ?_
      refine q_val rfl rfl (fun _ hx => x_load fl23 rfl (hx.cell (hC23 3 _ rfl))) ?_
      refine q_val rfl rfl (fun _ hx => x_len Try.underlying23 rfl) ?_
      refine q_val rfl rfl (fun _ hx => x_addn (i := t + es[s].k.size) (j := es[s].v.length) rfl rfl (by omega)) ?_
      refine q_nil (tail0 (fun wt hxt => ?_))
      replace hE := hE.trans hxt
      refine wl_val hW rfl rfl (x_assign rfl) ?_
      refine wl_nil ?_
      refine nx_block ?_
      refine nx_then ?_
      refine wc_region ?_
      refine wl_val hW rfl rfl (x_move rfl) ?_
      refine wl_val hW rfl rfl (x_inc (s := s) rfl (by omega)) ?_
      refine wl_val hW rfl rfl (x_assign rfl) ?_
      refine wl_nil ?_
      exact nx_next (s + 1, t + es[s].k.size + es[s].v.length) (by dsimp only; omega) ⟨⟨by dsimp only; omega, by dsimp only; omega⟩, hE⟩ (by repeat (first | exact sub_nil | refine sub_cons rfl ?_))
    · refine wc_exit ?_
      refine nx_then_exit ?_
      refine nx_then_exit ?_
      refine nx_block_exit ?_
      refine nx_then ?_
      refine wc_seq ?_
      refine wc_cut [(4, .bool (decide ((es.length : Int) ≤ m) && decide ((t : Int) ≤ 131072)))] (fun w' => w' = wr) ?_ ?_
      · refine wc_region ?_
        refine wl_val hW rfl rfl (x_move rfl) ?_
        refine wl_val hW rfl rfl (x_len Try.underlying26 rfl) ?_
        refine wl_val hW rfl rfl (x_move rfl) ?_
        refine wl_val hW rfl rfl (x_leq rfl rfl) ?_
        refine wl_val hW rfl rfl (x_move rfl) ?_
        refine wl_dcases (d := 32) rfl (fun hg32 => ?_) (fun hg32 => ?_)
        · refine wl_val hW rfl rfl (x_move rfl) ?_
          refine wl_val hW rfl rfl (x_leq rfl rfl) ?_
          refine wl_val hW rfl rfl (x_pickT rfl rfl) ?_
          refine wl_val hW rfl rfl (x_assign rfl) ?_
          refine wl_nil ?_
          exact nx_cut (by rw [decide_eq_true hg32, Bool.true_and]; repeat (first | exact sub_nil | refine sub_cons rfl ?_)) rfl
        · refine wl_off hW rfl rfl ?_
          refine wl_off hW rfl rfl ?_
          refine wl_val hW rfl rfl (x_pickF rfl rfl) ?_
          refine wl_val hW rfl rfl (x_assign rfl) ?_
          refine wl_nil ?_
          exact nx_cut (by rw [decide_eq_false hg32, Bool.false_and]; repeat (first | exact sub_nil | refine sub_cons rfl ?_)) rfl
      · rintro w' rfl
        refine nx_then ?_
        refine wc_ret ?_
        exact ends_ret (res_tmp Try.results17 rfl) ⟨⟨_, rfl, fun h => by simp only [Bool.and_eq_true, decide_eq_true_eq] at h; exact h.1⟩, hE⟩
theorem C19 {w : World} {av bv : Value} {a b : Ent} : Rt Try.prog 19 [.agg (cellsOf a av).toArray, .agg (cellsOf b bv).toArray] w fun r w' => r = .int .i64 (cmpE a b) ∧ Ext w w' := by
  have hW := hWw
  have hFF := hFw
  have hE : Ext w w := Keep.refl _ _
  refine rt_body Try.func19 rfl Try.ntmps19 rfl ?_
  refine wc_seq ?_
  refine wc_region ?_
  refine wl_box hW rfl rfl rfl rfl ?_
  intro b2 w2 hl2 hB2 hx2
  have g2 : w.heap.size ≤ b2 := Nat.le_trans hE.size hl2
  replace hE := hE.trans hx2
  refine wl_box hW rfl rfl rfl rfl ?_
  intro b3 w3 hl3 hB3 hx3
  have g3 : w.heap.size ≤ b3 := Nat.le_trans hE.size hl3
  have n3_2 : b3 ≠ b2 := Nat.ne_of_gt (Nat.lt_of_lt_of_le hB2.lt hl3)
  replace hB2 := hB2.ext hx3
  replace hE := hE.trans hx3
  refine wl_val hW rfl rfl (x_assign rfl) ?_
  refine wl_nil ?_
  refine nx_then ?_
  refine wc_seq ?_
  refine wc_seq ?_
  refine wc_region ?_
  refine wl_val hW rfl rfl (x_fieldAddr Try.underlying25 rfl fl9.siz rfl) ?_
  refine wl_val hW rfl rfl (x_load fl9 rfl (hB2.cell (o := 0) rfl)) ?_
  refine wl_val hW rfl rfl (x_fieldAddr Try.underlying25 rfl fl9.siz rfl) ?_
  refine wl_val hW rfl rfl (x_load fl9 rfl (hB3.cell (o := 0) rfl)) ?_
  refine wl_val hW rfl rfl (x_slss rfl rfl) ?_
  refine wl_nil ?_
  refine nx_then ?_
  refine wc_bool rfl (fun hc => ?_) (fun hc => ?_)
  · refine wc_seq ?_
    refine wc_region ?_
    refine wl_val hW rfl rfl (x_assign rfl) ?_
    refine wl_nil ?_
    refine nx_then ?_
    refine wc_ret ?_
    refine nx_then_ret ?_
    exact ends_ret (res_tmp Try.results19 rfl) ⟨by rw [cmpE_1 hc], hE⟩
  · have hc1 := hc
    refine wc_skip ?_
    refine nx_then ?_
    refine wc_seq ?_
    refine wc_seq ?_
    refine wc_region ?_
    refine wl_val hW rfl rfl (x_fieldAddr Try.underlying25 rfl fl9.siz rfl) ?_
    refine wl_val hW rfl rfl (x_load fl9 rfl (hB2.cell (o := 0) rfl)) ?_
    refine wl_val hW rfl rfl (x_fieldAddr Try.underlying25 rfl fl9.siz rfl) ?_
    refine wl_val hW rfl rfl (x_load fl9 rfl (hB3.cell (o := 0) rfl)) ?_
    refine wl_val hW rfl rfl (x_sgtr rfl rfl) ?_
    refine wl_nil ?_
    refine nx_then ?_
    refine wc_bool rfl (fun hc => ?_) (fun hc => ?_)
    · refine wc_seq ?_
      refine wc_region ?_
      refine wl_val hW rfl rfl (x_assign rfl) ?_
      refine wl_nil ?_
      refine nx_then ?_
      refine wc_ret ?_
      refine nx_then_ret ?_
      exact ends_ret (res_tmp Try.results19 rfl) ⟨by rw [cmpE_2 hc1 hc], hE⟩
    · have hc2 := hc
      refine wc_skip ?_
      refine nx_then ?_
      refine wc_seq ?_
      refine wc_seq ?_
      refine wc_region ?_
      refine wl_val hW rfl rfl (x_fieldAddr Try.underlying25 rfl fl22.siz rfl) ?_
      refine wl_val hW rfl rfl (x_load fl22 rfl (hB2.cell (o := 1) rfl)) ?_
      refine wl_val hW rfl rfl (x_fieldAddr Try.underlying25 rfl fl22.siz rfl) ?_
      refine wl_val hW rfl rfl (x_load fl22 rfl (hB3.cell (o := 1) rfl)) ?_
      refine wl_val hW rfl rfl (x_gtr rfl rfl) ?_
      refine wl_nil ?_
      refine nx_then ?_
      refine wc_dec rfl (fun hc => ?_) (fun hc => ?_)
      · refine wc_seq ?_
        refine wc_region ?_
        refine wl_val hW rfl rfl (x_assign rfl) ?_
        refine wl_nil ?_
        refine nx_then ?_
        refine wc_ret ?_
        refine nx_then_ret ?_
        exact ends_ret (res_tmp Try.results19 rfl) ⟨by rw [cmpE_3 hc1 hc2]; unfold cmpI; rw [if_pos hc], hE⟩
      · have hc3 := hc
        refine wc_skip ?_
        refine nx_then ?_
        refine wc_seq ?_
        refine wc_seq ?_
        refine wc_region ?_
        refine wl_val hW rfl rfl (x_fieldAddr Try.underlying25 rfl fl22.siz rfl) ?_
        refine wl_val hW rfl rfl (x_load fl22 rfl (hB2.cell (o := 1) rfl)) ?_
        refine wl_val hW rfl rfl (x_fieldAddr Try.underlying25 rfl fl22.siz rfl) ?_
        refine wl_val hW rfl rfl (x_load fl22 rfl (hB3.cell (o := 1) rfl)) ?_
        refine wl_val hW rfl rfl (x_lss rfl rfl) ?_
        refine wl_nil ?_
        refine nx_then ?_
        refine wc_dec rfl (fun hc => ?_) (fun hc => ?_)
        · refine wc_seq ?_
          refine wc_region ?_
          refine wl_val hW rfl rfl (x_assign rfl) ?_
          refine wl_nil ?_
          refine nx_then ?_
          refine wc_ret ?_
          refine nx_then_ret ?_
          exact ends_ret (res_tmp Try.results19 rfl) ⟨by rw [cmpE_3 hc1 hc2]; unfold cmpI; rw [if_neg hc3, if_pos hc], hE⟩
        · refine wc_skip ?_
          refine nx_then ?_
          refine wc_seq ?_
          refine wc_region ?_
          refine wl_val hW rfl rfl (x_assign rfl) ?_
          refine wl_nil ?_
          refine nx_then ?_
          refine wc_ret ?_
          exact ends_ret (res_tmp Try.results19 rfl) ⟨by rw [cmpE_3 hc1 hc2]; unfold cmpI; rw [if_neg hc3, if_neg hc], hE⟩
theorem C38 {A : Nat → Prop} {w : World} {av bv : Value} {a b : Ent} (ha : Byts A w av a.v) (hb : Byts A w bv b.v) : Rt Try.prog 38 [.agg (cellsOf a av).toArray, .agg (cellsOf b bv).toArray] w fun r w' => r = .bool (sameB a b) ∧ Ext w w' := by
  have hW := hWw
  have hFF := hFw
  have hE : Ext w w := Keep.refl _ _
  refine rt_body Try.func38 rfl Try.ntmps38 rfl ?_
  refine wc_seq ?_
  refine wc_region ?_
  refine wl_box hW rfl rfl rfl rfl ?_
  intro b2 w2 hl2 hB2 hx2
  have g2 : w.heap.size ≤ b2 := Nat.le_trans hE.size hl2
  replace hE := hE.trans hx2
  refine wl_box hW rfl rfl rfl rfl ?_
  intro b3 w3 hl3 hB3 hx3
  have g3 : w.heap.size ≤ b3 := Nat.le_trans hE.size hl3
  have n3_2 : b3 ≠ b2 := Nat.ne_of_gt (Nat.lt_of_lt_of_le hB2.lt hl3)
  replace hB2 := hB2.ext hx3
  replace hE := hE.trans hx3
  refine wl_val hW rfl rfl (x_assign rfl) ?_
  refine wl_nil ?_
  refine nx_then ?_
  refine wc_seq ?_
  have hE1 := hE
  refine wc_cut [(4, .bool (sameB a b))] (fun w' => w' = w3) ?_ ?_
  · refine wc_region ?_
    refine wl_val hW rfl rfl (x_fieldAddr Try.underlying25 rfl fl9.siz rfl) ?_
    refine wl_val hW rfl rfl (x_load fl9 rfl (hB2.cell (o := 0) rfl)) ?_
    refine wl_val hW rfl rfl (x_fieldAddr Try.underlying25 rfl fl9.siz rfl) ?_
    refine wl_val hW rfl rfl (x_load fl9 rfl (hB3.cell (o := 0) rfl)) ?_
    refine wl_val hW rfl rfl (x_seql rfl rfl) ?_
    refine wl_val hW rfl rfl (x_move rfl) ?_
    refine wl_bcases (d := 10) rfl (fun hg10 => ?_) (fun hg10 => ?_)
    · refine wl_val hW rfl rfl (x_fieldAddr Try.underlying25 rfl fl22.siz rfl) ?_
      refine wl_val hW rfl rfl (x_load fl22 rfl (hB2.cell (o := 1) rfl)) ?_
      refine wl_val hW rfl rfl (x_fieldAddr Try.underlying25 rfl fl22.siz rfl) ?_
      refine wl_val hW rfl rfl (x_load fl22 rfl (hB3.cell (o := 1) rfl)) ?_
      refine wl_val hW rfl rfl (x_eql rfl rfl) ?_
      refine wl_val hW rfl rfl (x_pickT rfl rfl) ?_
      refine wl_val hW rfl rfl (x_move rfl) ?_
      refine wl_dcases (d := 17) rfl (fun hg17 => ?_) (fun hg17 => ?_)
      · refine wl_val hW rfl rfl (x_fieldAddr Try.underlying25 rfl fl4.siz rfl) ?_
        refine wl_val hW rfl rfl (x_load fl4 rfl (hB2.cell (o := 2) rfl)) ?_
        refine wl_val hW rfl rfl (x_fieldAddr Try.underlying25 rfl fl4.siz rfl) ?_
        refine wl_val hW rfl rfl (x_load fl4 rfl (hB3.cell (o := 2) rfl)) ?_
        refine wl_val hW rfl rfl (x_beql rfl rfl Try.underlying4) ?_
        refine wl_val hW rfl rfl (x_pickT rfl rfl) ?_
        refine wl_val hW rfl rfl (x_move rfl) ?_
        refine wl_bcases (d := 24) rfl (fun hg24 => ?_) (fun hg24 => ?_)
        · refine wl_val hW rfl rfl (x_fieldAddr Try.underlying25 rfl fl23.siz rfl) ?_
          refine wl_val hW rfl rfl (x_load fl23 rfl (hB2.cell (o := 3) rfl)) ?_
          refine wl_val hW rfl rfl (x_convB rfl (ha.ext hE)) ?_
          refine wl_val hW rfl rfl (x_fieldAddr Try.underlying25 rfl fl23.siz rfl) ?_
          refine wl_val hW rfl rfl (x_load fl23 rfl (hB3.cell (o := 3) rfl)) ?_
          refine wl_val hW rfl rfl (x_convB rfl (hb.ext hE)) ?_
          refine wl_val hW rfl rfl (x_seql rfl rfl) ?_
          refine wl_val hW rfl rfl (x_pickT rfl rfl) ?_
          refine wl_val hW rfl rfl (x_assign rfl) ?_
          refine wl_nil ?_
          exact nx_cut (by unfold sameB; rw [hg10, decide_eq_true hg17, hg24]; repeat (first | exact sub_nil | refine sub_cons rfl ?_)) rfl
        · refine wl_off hW rfl rfl ?_
          refine wl_off hW rfl rfl ?_
          refine wl_off hW rfl rfl ?_
          refine wl_off hW rfl rfl ?_
          refine wl_off hW rfl rfl ?_
          refine wl_off hW rfl rfl ?_
          refine wl_off hW rfl rfl ?_
          refine wl_val hW rfl rfl (x_pickF rfl rfl) ?_
          refine wl_val hW rfl rfl (x_assign rfl) ?_
          refine wl_nil ?_
          exact nx_cut (by unfold sameB; rw [hg10, decide_eq_true hg17, hg24]; repeat (first | exact sub_nil | refine sub_cons rfl ?_)) rfl
      · refine wl_off hW rfl rfl ?_
        refine wl_off hW rfl rfl ?_
        refine wl_off hW rfl rfl ?_
        refine wl_off hW rfl rfl ?_
        refine wl_off hW rfl rfl ?_
        refine wl_val hW rfl rfl (x_pickF rfl rfl) ?_
        refine wl_val hW rfl rfl (x_move rfl) ?_
        refine wl_off hW rfl rfl ?_
        refine wl_off hW rfl rfl ?_
        refine wl_off hW rfl rfl ?_
        refine wl_off hW rfl rfl ?_
        refine wl_off hW rfl rfl ?_
        refine wl_off hW rfl rfl ?_
        refine wl_off hW rfl rfl ?_
        refine wl_val hW rfl rfl (x_pickF rfl rfl) ?_
        refine wl_val hW rfl rfl (x_assign rfl) ?_
        refine wl_nil ?_
        exact nx_cut (by unfold sameB; rw [hg10, decide_eq_false hg17]; repeat (first | exact sub_nil | refine sub_cons rfl ?_)) rfl
    · refine wl_off hW rfl rfl ?_
      refine wl_off hW rfl rfl ?_
      refine wl_off hW rfl rfl ?_
      refine wl_off hW rfl rfl ?_
      refine wl_off hW rfl rfl ?_
      refine wl_val hW rfl rfl (x_pickF rfl rfl) ?_
      refine wl_val hW rfl rfl (x_move rfl) ?_
      refine wl_off hW rfl rfl ?_
      refine wl_off hW rfl rfl ?_
      refine wl_off hW rfl rfl ?_
      refine wl_off hW rfl rfl ?_
      refine wl_off hW rfl rfl ?_
      refine wl_val hW rfl rfl (x_pickF rfl rfl) ?_
      refine wl_val hW rfl rfl (x_move rfl) ?_
      refine wl_off hW rfl rfl ?_
      refine wl_off hW rfl rfl ?_
      refine wl_off hW rfl rfl ?_
      refine wl_off hW rfl rfl ?_
      refine wl_off hW rfl rfl ?_
      refine wl_off hW rfl rfl ?_
      refine wl_off hW rfl rfl ?_
      refine wl_val hW rfl rfl (x_pickF rfl rfl) ?_
      refine wl_val hW rfl rfl (x_assign rfl) ?_
      refine wl_nil ?_
      exact nx_cut (by unfold sameB; rw [hg10]; repeat (first | exact sub_nil | refine sub_cons rfl ?_)) rfl
  · rintro w' rfl
    refine nx_then ?_
    refine wc_ret ?_
    exact ends_ret (res_tmp Try.results38 rfl) ⟨rfl, hE⟩
theorem C24 {A : Nat → Prop} {w : World} {v u : Value} {as_ bs : List Ent} (hR : Row A w v as_) (hS : Row A w u bs) : Rt Try.prog 24 [v, u] w fun r w' => (∃ b, r = .bool b ∧ (b = true ↔ as_ = bs)) ∧ Ext w w' := by
  obtain ⟨ad, cap, rfl, hcap, hlen⟩ := hR.form
  obtain ⟨ad2, cap2, rfl, hcap2, hlen2⟩ := hS.form
  have hW := hWw
  have hFF := hFw
  have hE : Ext w w := Keep.refl _ _
  refine rt_body Try.func24 rfl Try.ntmps24 rfl ?_
  refine wc_seq ?_
  refine wc_region ?_
  refine wl_val hW rfl rfl (x_assign rfl) ?_
  refine wl_nil ?_
  refine nx_then ?_
  refine wc_seq ?_
  refine wc_seq ?_
  refine wc_region ?_
  refine wl_val hW rfl rfl (x_move rfl) ?_
  refine wl_val hW rfl rfl (x_len Try.underlying26 rfl) ?_
  refine wl_val hW rfl rfl (x_move rfl) ?_
  refine wl_val hW rfl rfl (x_len Try.underlying26 rfl) ?_
  refine wl_val hW rfl rfl (x_neq rfl rfl) ?_
  refine wl_nil ?_
  refine nx_then ?_
  refine wc_dec rfl (fun hc => ?_) (fun hc => ?_)
  · refine wc_seq ?_
    refine wc_region ?_
    refine wl_val hW rfl rfl (x_assign rfl) ?_
    refine wl_nil ?_
    refine nx_then ?_
    refine wc_ret ?_
    refine nx_then_ret ?_
    exact ends_ret (res_tmp Try.results24 rfl) ⟨⟨false, rfl, by constructor; intro h; cases h; rintro rfl; exact absurd rfl hc⟩, hE⟩
  · have hl : as_.length = bs.length := by have hc' : ¬ ¬ ((as_.length : Int) = bs.length) := hc; omega
    refine wc_skip ?_
    refine nx_then ?_
    refine wc_seq ?_
    refine wc_seq ?_
    refine wc_region ?_
    refine wl_val hW rfl rfl (x_assign rfl) ?_
    refine wl_nil ?_
    refine nx_then ?_
    refine wc_block ?_
    refine wc_loop (σ := Nat) (fun s => [(0, .slice ad as_.length cap), (1, .slice ad2 bs.length cap2), (5, .int .i64 s)]) (fun s w' => (s ≤ as_.length ∧ ∀ j (h : j < as_.length) (h' : j < bs.length), j < s → as_[j] = bs[j]) ∧ Ext w w') (fun s => as_.length - s) 0 ?_ ?_ ?_
    · exact ⟨⟨Nat.zero_le _, fun j _ _ h => absurd h (Nat.not_lt_zero _)⟩, hE⟩
    · repeat (first | exact sub_nil | refine sub_cons rfl ?_)
    · rintro s wr ⟨hs, hE⟩
      refine wc_seq ?_
      refine wc_seq ?_
      refine wc_region ?_
      refine wl_val hW rfl rfl (x_move rfl) ?_
      refine wl_val hW rfl rfl (x_move rfl) ?_
      refine wl_val hW rfl rfl (x_len Try.underlying26 rfl) ?_
      refine wl_val hW rfl rfl (x_lss rfl rfl) ?_
      refine wl_nil ?_
      refine nx_then ?_
      refine wc_dec rfl (fun hc => ?_) (fun hc => ?_)
      · replace hc : ((s : Nat) : Int) < as_.length := hc
        refine wc_skip ?_
        refine nx_then ?_
        refine wc_seq ?_
        refine wc_block ?_
        refine wc_seq ?_
        refine wc_draw' 10 hW mixed (by kernel_rfl) (fun w0 hx0 => ?_)
        replace hE := hE.trans hx0
        have hlt : s < as_.length := by omega
        have hlt2 : s < bs.length := by omega
        obtain ⟨b, o, cap', bv, e1, hA, hC19, hb1, hok1⟩ := (hR.ext hE).at s hlt
        cases e1
        obtain ⟨b', o', cap'', bv', e2, hA', hC23, hb2, hok2⟩ := (hS.ext hE).at s hlt2
        cases e2
        refine q_val rfl rfl (fun _ hx => x_move rfl) ?_
        refine q_val rfl rfl (fun _ hx => x_move rfl) ?_
        refine q_val rfl rfl (fun _ hx => x_indexAddr Try.underlying26 ag25.siz rfl rfl (by omega) (by omega)) ?_
        refine q_val rfl rfl (fun _ hx => x_loadA ag25 rfl (hC19.ext hx) rfl) ?_
        refine q_val rfl rfl (fun _ hx => x_move rfl) ?_
        refine q_val rfl rfl (fun _ hx => x_move rfl) ?_
        refine q_val rfl rfl (fun _ hx => x_indexAddr Try.underlying26 ag25.siz rfl rfl (by omega) (by omega)) ?_
        refine q_val rfl rfl (fun _ hx => x_loadA ag25 rfl (hC23.ext hx) rfl) ?_
        refine q_call rfl rfl (fun _ => x_call en38 rfl) (fun w' hx => (C38 (hb1.ext hx) (hb2.ext hx)).inF hFF) ?_
        refine q_val rfl rfl (fun _ hx => x_not rfl) ?_
        refine q_nil (tail0 (fun wt hxt => ?_))
        replace hE := hE.trans hxt
        refine wl_nil ?_
        refine nx_then ?_
        refine wc_bool rfl (fun hc => ?_) (fun hc => ?_)
        · have hne : as_[s] ≠ bs[s] := fun h => by rw [sameB_iff.2 h] at hc; cases hc
          refine wc_seq ?_
          refine wc_region ?_
          refine wl_val hW rfl rfl (x_assign rfl) ?_
          refine wl_nil ?_
          refine nx_then ?_
          refine wc_ret ?_
          refine nx_block_ret ?_
          refine nx_then_ret ?_
          refine nx_then_ret ?_
          refine nx_block_ret ?_
          refine nx_then_ret ?_
          exact ends_ret (res_tmp Try.results24 rfl) ⟨⟨false, rfl, by constructor; intro h; cases h; rintro rfl; exact absurd rfl hne⟩, hE⟩
        · refine wc_skip ?_
          refine nx_block ?_
          refine nx_then ?_
          refine wc_region ?_
          refine wl_val hW rfl rfl (x_move rfl) ?_
          refine wl_val hW rfl rfl (x_inc (s := s) rfl (by omega)) ?_
          refine wl_val hW rfl rfl (x_assign rfl) ?_
          refine wl_nil ?_
          have heq : as_[s] = bs[s] := sameB_iff.1 (by simpa using hc)
          exact nx_next (s + 1) (by omega) ⟨⟨hlt, fun j h h' hj => by rcases Nat.lt_succ_iff_lt_or_eq.1 hj with hj | rfl; exact hs.2 j h h' hj; exact heq⟩, hE⟩ (by repeat (first | exact sub_nil | refine sub_cons rfl ?_))
      · refine wc_exit ?_
        refine nx_then_exit ?_
        refine nx_then_exit ?_
        refine nx_block_exit ?_
        refine nx_then ?_
        refine wc_seq ?_
        refine wc_region ?_
        refine wl_val hW rfl rfl (x_assign rfl) ?_
        refine wl_nil ?_
        refine nx_then ?_
        refine wc_ret ?_
        exact ends_ret (res_tmp Try.results24 rfl) ⟨⟨true, rfl, ⟨fun _ => List.ext_getElem hl fun j h h' => hs.2 j h h' (by have hc' : ¬ ((s : Nat) : Int) < as_.length := hc; omega), fun _ => rfl⟩⟩, hE⟩
end Go.Proofs.Ytblbddamebbgaaa.K


/- Walks: the document's Right, Seen, Prune. -/
namespace Go.Proofs.Ytblbddamebbgaaa.K
open Go Go.RowKit
set_option linter.unusedVariables false
set_option linter.unusedSimpArgs false

theorem C21 {A : Nat → Prop} {w : World} {v : Value} {es : List Ent} (hR : Row A w v es) : Rt Try.prog 21 [v] w fun r w' => r = .bool (rightB es) ∧ Ext w w' := by
  obtain ⟨ad, cap, rfl, hcap, hlen⟩ := hR.form
  have hW := hWw
  have hFF := hFw
  have hE : Ext w w := Keep.refl _ _
  refine rt_body Try.func21 rfl Try.ntmps21 rfl ?_
  refine wc_seq ?_
  refine wc_region ?_
  refine wl_val hW rfl rfl (x_assign rfl) ?_
  refine wl_nil ?_
  refine nx_then ?_
  refine wc_seq ?_
  refine wc_seq ?_
  refine wc_region ?_
  refine wl_val hW rfl rfl (x_assign rfl) ?_
  refine wl_nil ?_
  refine nx_then ?_
  refine wc_block ?_
  refine wc_loop (σ := Nat) (fun s => [(0, .slice ad es.length cap), (3, .int .i64 s)]) (fun s w' => (s ≤ es.length ∧ ∀ j, j < s → j < es.length → badB es j = false) ∧ Ext w w') (fun s => es.length - s) 0 ?_ ?_ ?_
  · exact ⟨⟨Nat.zero_le _, fun j h => absurd h (Nat.not_lt_zero _)⟩, hE⟩
  · repeat (first | exact sub_nil | refine sub_cons rfl ?_)
  · rintro s wr ⟨hs, hE⟩
    refine wc_seq ?_
    refine wc_seq ?_
    refine wc_region ?_
    refine wl_val hW rfl rfl (x_move rfl) ?_
    refine wl_val hW rfl rfl (x_move rfl) ?_
    refine wl_val hW rfl rfl (x_len Try.underlying26 rfl) ?_
    refine wl_val hW rfl rfl (x_lss rfl rfl) ?_
    refine wl_nil ?_
    refine nx_then ?_
    refine wc_dec rfl (fun hc => ?_) (fun hc => ?_)
    · replace hc : ((s : Nat) : Int) < es.length := hc
      have hlt : s < es.length := by omega
      refine wc_skip ?_
      refine nx_then ?_
      refine wc_seq ?_
      refine wc_block ?_
      refine wc_seq ?_
      refine wc_cut [(0, .slice ad es.length cap), (3, .int .i64 s), (40, .bool (badB es s))] (fun w' => Ext w w') ?_ ?_
      · refine wc_draw' 31 hW mixed (by kernel_rfl) (fun w0 hx0 => ?_)
        replace hE := hE.trans hx0
        have hRn := hR.ext hE
        obtain ⟨b, o, cap', bv, e1, hA, hC12, hb1, hok1⟩ := hRn.at s hlt
        cases e1
        obtain ⟨av, cv, hbv, hcv⟩ := hb1.form
        subst hbv
        have hC18 := hC12
        have hC35 := hC12
        refine q_val rfl rfl (fun _ hx => x_move rfl) ?_
        refine q_val rfl rfl (fun _ hx => x_move rfl) ?_
        refine q_val rfl rfl (fun _ hx => x_indexAddr Try.underlying26 ag25.siz rfl rfl (by omega) (by omega)) ?_
        refine q_val rfl rfl (fun _ hx => x_fieldAddr Try.underlying25 rfl fl4.siz rfl) ?_
        refine q_val rfl rfl (fun _ hx => x_load fl4 rfl (hx.cell (hC12 2 _ rfl))) ?_
        refine q_val rfl rfl (fun _ hx => x_move rfl) ?_
        refine q_bcases (d := 15) rfl (fun hg15 => ?_) (fun hg15 => ?_)
        · refine q_val rfl rfl (fun _ hx => x_move rfl) ?_
          refine q_val rfl rfl (fun _ hx => x_move rfl) ?_
          refine q_val rfl rfl (fun _ hx => x_indexAddr Try.underlying26 ag25.siz rfl rfl (by omega) (by omega)) ?_
          refine q_val rfl rfl (fun _ hx => x_fieldAddr Try.underlying25 rfl fl23.siz rfl) ?_
          refine q_val rfl rfl (fun _ hx => x_load fl23 rfl (hx.cell (hC18 3 _ rfl))) ?_
          refine q_val rfl rfl (fun _ hx => x_len Try.underlying23 rfl) ?_
          refine q_val rfl rfl (fun _ hx => x_gtr rfl rfl) ?_
          refine q_val rfl rfl (fun _ hx => x_pickT rfl rfl) ?_
          refine q_val rfl rfl (fun _ hx => x_move rfl) ?_
          refine q_dcases (d := 24) rfl (fun hg24 => ?_) (fun hg24 => ?_)
          · refine q_off rfl rfl ?_
            refine q_off rfl rfl ?_
            refine q_off rfl rfl ?_
            refine q_off rfl rfl ?_
            refine q_off rfl rfl ?_
            refine q_off rfl rfl ?_
            refine q_off rfl rfl ?_
            refine q_off rfl rfl ?_
            refine q_off rfl rfl ?_
            refine q_off rfl rfl ?_
            refine q_off rfl rfl ?_
            refine q_off rfl rfl ?_
            refine q_off rfl rfl ?_
            refine q_off rfl rfl ?_
            refine q_off rfl rfl ?_
            refine q_val rfl rfl (fun _ hx => x_pickT rfl rfl) ?_
            refine q_nil (tail0 (fun wt hxt => ?_))
            replace hE := hE.trans hxt
            refine wl_nil ?_
            exact nx_cut (by rw [badB_1 hlt (okB_1 hg15 hg24)]; repeat (first | exact sub_nil | refine sub_cons rfl ?_)) hE
          · refine q_val rfl rfl (fun _ hx => x_move rfl) ?_
            refine q_val rfl rfl (fun _ hx => x_gtr rfl rfl) ?_
            refine q_val rfl rfl (fun _ hx => x_move rfl) ?_
            refine q_dcases (d := 27) rfl (fun hg27 => ?_) (fun hg27 => ?_)
            · obtain ⟨b', o', cap'', bv', e2, hA', hC31, hb2, hok2⟩ := hRn.at (s - 1) (by omega)
              cases e2
              refine q_val rfl rfl (fun _ hx => x_move rfl) ?_
              refine q_val rfl rfl (fun _ hx => x_move rfl) ?_
              refine q_val rfl rfl (fun _ hx => x_subn (i := s) (j := 1) rfl rfl (by omega) (by omega)) ?_
              refine q_val rfl rfl (fun _ hx => x_indexAddr Try.underlying26 ag25.siz rfl rfl (by omega) (by omega)) ?_
              refine q_val rfl rfl (fun _ hx => x_loadA ag25 rfl (hC31.ext hx) rfl) ?_
              refine q_val rfl rfl (fun _ hx => x_move rfl) ?_
              refine q_val rfl rfl (fun _ hx => x_move rfl) ?_
              refine q_val rfl rfl (fun _ hx => x_indexAddr Try.underlying26 ag25.siz rfl rfl (by omega) (by omega)) ?_
              refine q_val rfl rfl (fun _ hx => x_loadA ag25 rfl (hC35.ext hx) rfl) ?_
              refine q_call rfl rfl (fun _ => x_call en19 rfl) (fun w' hx => C19.inF hFF) ?_
              refine q_val rfl rfl (fun _ hx => x_geq rfl rfl) ?_
              refine q_val rfl rfl (fun _ hx => x_pickT rfl rfl) ?_
              refine q_val rfl rfl (fun _ hx => x_pickF rfl rfl) ?_
              refine q_nil (tail0 (fun wt hxt => ?_))
              replace hE := hE.trans hxt
              refine wl_nil ?_
              exact nx_cut (by rw [badB_2 hlt (okB_2 hg24) (by omega)]; repeat (first | exact sub_nil | refine sub_cons rfl ?_)) hE
            · refine q_off rfl rfl ?_
              refine q_off rfl rfl ?_
              refine q_off rfl rfl ?_
              refine q_off rfl rfl ?_
              refine q_off rfl rfl ?_
              refine q_off rfl rfl ?_
              refine q_off rfl rfl ?_
              refine q_off rfl rfl ?_
              refine q_off rfl rfl ?_
              refine q_off rfl rfl ?_
              refine q_off rfl rfl ?_
              refine q_val rfl rfl (fun _ hx => x_pickF rfl rfl) ?_
              refine q_val rfl rfl (fun _ hx => x_pickF rfl rfl) ?_
              refine q_nil (tail0 (fun wt hxt => ?_))
              replace hE := hE.trans hxt
              refine wl_nil ?_
              exact nx_cut (by rw [badB_3 hlt (okB_2 hg24) (by omega)]; repeat (first | exact sub_nil | refine sub_cons rfl ?_)) hE
        · refine q_off rfl rfl ?_
          refine q_off rfl rfl ?_
          refine q_off rfl rfl ?_
          refine q_off rfl rfl ?_
          refine q_off rfl rfl ?_
          refine q_off rfl rfl ?_
          refine q_off rfl rfl ?_
          refine q_val rfl rfl (fun _ hx => x_pickF rfl rfl) ?_
          refine q_val rfl rfl (fun _ hx => x_move rfl) ?_
          refine q_val rfl rfl (fun _ hx => x_move rfl) ?_
          refine q_val rfl rfl (fun _ hx => x_gtr rfl rfl) ?_
          refine q_val rfl rfl (fun _ hx => x_move rfl) ?_
          refine q_dcases (d := 27) rfl (fun hg27 => ?_) (fun hg27 => ?_)
          · obtain ⟨b', o', cap'', bv', e2, hA', hC31, hb2, hok2⟩ := hRn.at (s - 1) (by omega)
            cases e2
            refine q_val rfl rfl (fun _ hx => x_move rfl) ?_
            refine q_val rfl rfl (fun _ hx => x_move rfl) ?_
            refine q_val rfl rfl (fun _ hx => x_subn (i := s) (j := 1) rfl rfl (by omega) (by omega)) ?_
            refine q_val rfl rfl (fun _ hx => x_indexAddr Try.underlying26 ag25.siz rfl rfl (by omega) (by omega)) ?_
            refine q_val rfl rfl (fun _ hx => x_loadA ag25 rfl (hC31.ext hx) rfl) ?_
            refine q_val rfl rfl (fun _ hx => x_move rfl) ?_
            refine q_val rfl rfl (fun _ hx => x_move rfl) ?_
            refine q_val rfl rfl (fun _ hx => x_indexAddr Try.underlying26 ag25.siz rfl rfl (by omega) (by omega)) ?_
            refine q_val rfl rfl (fun _ hx => x_loadA ag25 rfl (hC35.ext hx) rfl) ?_
            refine q_call rfl rfl (fun _ => x_call en19 rfl) (fun w' hx => C19.inF hFF) ?_
            refine q_val rfl rfl (fun _ hx => x_geq rfl rfl) ?_
            refine q_val rfl rfl (fun _ hx => x_pickT rfl rfl) ?_
            refine q_val rfl rfl (fun _ hx => x_pickF rfl rfl) ?_
            refine q_nil (tail0 (fun wt hxt => ?_))
            replace hE := hE.trans hxt
            refine wl_nil ?_
            exact nx_cut (by rw [badB_2 hlt (okB_3 hg15) (by omega)]; repeat (first | exact sub_nil | refine sub_cons rfl ?_)) hE
          · refine q_off rfl rfl ?_
            refine q_off rfl rfl ?_
            refine q_off rfl rfl ?_
            refine q_off rfl rfl ?_
            refine q_off rfl rfl ?_
            refine q_off rfl rfl ?_
            refine q_off rfl rfl ?_
            refine q_off rfl rfl ?_
            refine q_off rfl rfl ?_
            refine q_off rfl rfl ?_
            refine q_off rfl rfl ?_
            refine q_val rfl rfl (fun _ hx => x_pickF rfl rfl) ?_
            refine q_val rfl rfl (fun _ hx => x_pickF rfl rfl) ?_
            refine q_nil (tail0 (fun wt hxt => ?_))
            replace hE := hE.trans hxt
            refine wl_nil ?_
            exact nx_cut (by rw [badB_3 hlt (okB_3 hg15) (by omega)]; repeat (first | exact sub_nil | refine sub_cons rfl ?_)) hE
      · rintro w' hE
        refine nx_then ?_
        refine wc_bool rfl (fun hc => ?_) (fun hc => ?_)
        · refine wc_seq ?_
          refine wc_region ?_
          refine wl_val hW rfl rfl (x_assign rfl) ?_
          refine wl_nil ?_
          refine nx_then ?_
          refine wc_ret ?_
          refine nx_block_ret ?_
          refine nx_then_ret ?_
          refine nx_then_ret ?_
          refine nx_block_ret ?_
          refine nx_then_ret ?_
          exact ends_ret (res_tmp Try.results21 rfl) ⟨by rw [badB_true hlt hc], hE⟩
        · refine wc_skip ?_
          refine nx_block ?_
          refine nx_then ?_
          refine wc_region ?_
          refine wl_val hW rfl rfl (x_move rfl) ?_
          refine wl_val hW rfl rfl (x_inc (s := s) rfl (by omega)) ?_
          refine wl_val hW rfl rfl (x_assign rfl) ?_
          refine wl_nil ?_
          exact nx_next (s + 1) (by omega) ⟨⟨hlt, fun j hj h => by rcases Nat.lt_succ_iff_lt_or_eq.1 hj with hj | rfl; exact hs.2 j hj h; exact hc⟩, hE⟩ (by repeat (first | exact sub_nil | refine sub_cons rfl ?_))
    · refine wc_exit ?_
      refine nx_then_exit ?_
      refine nx_then_exit ?_
      refine nx_block_exit ?_
      refine nx_then ?_
      refine wc_seq ?_
      refine wc_region ?_
      refine wl_val hW rfl rfl (x_assign rfl) ?_
      refine wl_nil ?_
      refine nx_then ?_
      refine wc_ret ?_
      exact ends_ret (res_tmp Try.results21 rfl) ⟨by rw [badB_false (fun j hj => hs.2 j (by have hc' : ¬ ((s : Nat) : Int) < es.length := hc; omega) hj)], hE⟩
theorem C23 {w : World} {v : Value} {es : List Ent} {up : Int} (hR : Row (fun k => k < w.heap.size) w v es) :
    Rt Try.prog 23 [v, .int .u64 up] w fun r w' => (∃ rv, r = .tuple #[rv, .int .i64 (if rightB es then 0 else 15)] ∧ Row (fun _ => True) w' rv (if rightB es then rSeen up none false es else [])) ∧ Ext w w' := by
  obtain ⟨ad, cap, rfl, hcap, hlen⟩ := hR.form
  have hW := hWw
  have hFF := hFw
  have hE : Ext w w := Keep.refl _ _
  refine rt_body Try.func23 rfl Try.ntmps23 rfl ?_
  refine wc_seq ?_
  refine wc_region ?_
  refine wl_val hW rfl rfl (x_assign rfl) ?_
  refine wl_val hW rfl rfl (x_assign rfl) ?_
  refine wl_nil ?_
  refine nx_then ?_
  refine wc_seq ?_
  refine wc_seq ?_
  refine wc_region ?_
  refine wl_val hW rfl rfl (x_move rfl) ?_
  refine wl_call hW rfl rfl (x_call en21 rfl) ((C21 (hR.ext hE)).inF hFF) ?_
  rintro _ wC ⟨rfl, hxC⟩
  replace hE := hE.trans hxC
  refine wl_val hW rfl rfl (x_not rfl) ?_
  refine wl_nil ?_
  refine nx_then ?_
  refine wc_bool rfl (fun hc => ?_) (fun hc => ?_)
  · have hrt : rightB es = false := by simpa using hc
    refine wc_seq ?_
    refine wc_region ?_
    refine wl_val hW rfl rfl (x_assign rfl) ?_
    refine wl_val hW rfl rfl (x_assign rfl) ?_
    refine wl_nil ?_
    refine nx_then ?_
    refine wc_ret ?_
    refine nx_then_ret ?_
    exact ends_ret (res_tmp2 Try.results23 rfl rfl) ⟨⟨_, by rw [hrt]; rfl, by rw [hrt]; exact row_nil _ _⟩, hE⟩
  · have hrt : rightB es = true := by simpa using hc
    refine wc_skip ?_
    refine nx_then ?_
    refine wc_seq ?_
    refine wc_region ?_
    refine wl_val hW rfl rfl (x_assign rfl) ?_
    refine wl_nil ?_
    refine nx_then ?_
    refine wc_seq ?_
    refine wc_region ?_
    refine wl_val hW rfl rfl (x_assign rfl) ?_
    refine wl_nil ?_
    refine nx_then ?_
    refine wc_seq ?_
    refine wc_seq ?_
    refine wc_region ?_
    refine wl_val hW rfl rfl (x_assign rfl) ?_
    refine wl_nil ?_
    refine nx_then ?_
    refine wc_block ?_
    refine wc_loop (σ := Nat × Value × Bool) (fun s => [(0, .slice ad es.length cap), (1, .int .u64 up), (6, s.2.1), (7, .bool s.2.2), (8, .int .i64 s.1)]) (fun s w' => (s.1 ≤ es.length ∧ OutIs w w' s.2.1 s.1 (rSeen up (pkOf es s.1) s.2.2 (es.drop s.1)) (rSeen up none false es)) ∧ Ext w w') (fun s => es.length - s.1) (0, .slice none 0 0, false) ?_ ?_ ?_
    · exact ⟨⟨Nat.zero_le _, [], own_nil _ _ _, by simp, by rw [List.drop_zero]; rfl⟩, hE⟩
    · repeat (first | exact sub_nil | refine sub_cons rfl ?_)
    · rintro ⟨s, ov, dn⟩ wr ⟨⟨hsl, coll, hO, hcl, hco⟩, hEw⟩
      dsimp only at hsl hO hcl hco
      have hE : Ext wr wr := Keep.refl _ _
      have hRw := hR.ext hEw
      refine wc_seq ?_
      refine wc_seq ?_
      refine wc_region ?_
      refine wl_val hW rfl rfl (x_move rfl) ?_
      refine wl_val hW rfl rfl (x_move rfl) ?_
      refine wl_val hW rfl rfl (x_len Try.underlying26 rfl) ?_
      refine wl_val hW rfl rfl (x_lss rfl rfl) ?_
      refine wl_nil ?_
      refine nx_then ?_
      refine wc_dec rfl (fun hc => ?_) (fun hc => ?_)
      · replace hc : ((s : Nat) : Int) < es.length := hc
        have hlt : s < es.length := by omega
        refine wc_skip ?_
        refine nx_then ?_
        refine wc_seq ?_
        refine wc_block ?_
        refine wc_seq ?_
        refine wc_seq ?_
        refine wc_cut [(0, .slice ad es.length cap), (1, .int .u64 up), (6, ov), (7, .bool dn), (8, .int .i64 s), (33, .bool (freshB (pkOf es s) es[s]))] (fun w' => Ext wr w') ?_ ?_
        · refine wc_draw' 16 hW mixed (by kernel_rfl) (fun w0 hx0 => ?_)
          replace hE := hE.trans hx0
          refine q_val rfl rfl (fun _ hx => x_move rfl) ?_
          refine q_val rfl rfl (fun _ hx => x_gtr rfl rfl) ?_
          refine q_val rfl rfl (fun _ hx => x_move rfl) ?_
          refine q_dcases (d := 20) rfl (fun hg20 => ?_) (fun hg20 => ?_)
          · have hRn := hRw.ext hE
            obtain ⟨b, o, cap', bv, e1, hA, hC23, hb1, hok1⟩ := hRn.at s hlt
            cases e1
            obtain ⟨b', o', cap'', bv', e2, hA', hC29, hb2, hok2⟩ := hRn.at (s - 1) (by omega)
            cases e2
            refine q_val rfl rfl (fun _ hx => x_move rfl) ?_
            refine q_val rfl rfl (fun _ hx => x_move rfl) ?_
            refine q_val rfl rfl (fun _ hx => x_indexAddr Try.underlying26 ag25.siz rfl rfl (by omega) (by omega)) ?_
            refine q_val rfl rfl (fun _ hx => x_fieldAddr Try.underlying25 rfl fl9.siz rfl) ?_
            refine q_val rfl rfl (fun _ hx => x_load fl9 rfl (hx.cell (hC23 0 _ rfl))) ?_
            refine q_val rfl rfl (fun _ hx => x_move rfl) ?_
            refine q_val rfl rfl (fun _ hx => x_move rfl) ?_
            refine q_val rfl rfl (fun _ hx => x_subn (i := s) (j := 1) rfl rfl (by omega) (by omega)) ?_
            refine q_val rfl rfl (fun _ hx => x_indexAddr Try.underlying26 ag25.siz rfl rfl (by omega) (by omega)) ?_
            refine q_val rfl rfl (fun _ hx => x_fieldAddr Try.underlying25 rfl fl9.siz rfl) ?_
            refine q_val rfl rfl (fun _ hx => x_load fl9 rfl (hx.cell (hC29 0 _ rfl))) ?_
            refine q_val rfl rfl (fun _ hx => x_sneq rfl rfl) ?_
            refine q_val rfl rfl (fun _ hx => x_pickT rfl rfl) ?_
            refine q_nil (tail0 (fun wt hxt => ?_))
            replace hE := hE.trans hxt
            refine wl_nil ?_
            exact nx_cut (by rw [fresh_pos (by omega) (show s - 1 < es.length by omega)]; repeat (first | exact sub_nil | refine sub_cons rfl ?_)) hE
          · refine q_off rfl rfl ?_
            refine q_off rfl rfl ?_
            refine q_off rfl rfl ?_
            refine q_off rfl rfl ?_
            refine q_off rfl rfl ?_
            refine q_off rfl rfl ?_
            refine q_off rfl rfl ?_
            refine q_off rfl rfl ?_
            refine q_off rfl rfl ?_
            refine q_off rfl rfl ?_
            refine q_off rfl rfl ?_
            refine q_off rfl rfl ?_
            refine q_val rfl rfl (fun _ hx => x_pickF rfl rfl) ?_
            refine q_nil (tail0 (fun wt hxt => ?_))
            replace hE := hE.trans hxt
            refine wl_nil ?_
            exact nx_cut (by rw [fresh_zero (by omega)]; repeat (first | exact sub_nil | refine sub_cons rfl ?_)) hE
        · rintro w' hE
          refine nx_then ?_
          refine wc_cut [(0, .slice ad es.length cap), (1, .int .u64 up), (6, ov), (7, .bool (doneB (pkOf es s) dn es[s])), (8, .int .i64 s)] (fun w'' => w'' = w') ?_ ?_
          · refine wc_bool rfl (fun hc => ?_) (fun hc => ?_)
            · refine wc_region ?_
              refine wl_val hW rfl rfl (x_assign rfl) ?_
              refine wl_nil ?_
              exact nx_cut (by rw [doneB_fresh hc]; repeat (first | exact sub_nil | refine sub_cons rfl ?_)) rfl
            · refine wc_skip ?_
              exact nx_cut (by rw [doneB_stale hc]; repeat (first | exact sub_nil | refine sub_cons rfl ?_)) rfl
          · rintro w' rfl
            refine nx_then ?_
            refine wc_seq ?_
            refine wc_seq ?_
            refine wc_cut [(0, .slice ad es.length cap), (1, .int .u64 up), (6, ov), (7, .bool (doneB (pkOf es s) dn es[s])), (8, .int .i64 s), (43, .bool (doneB (pkOf es s) dn es[s] || decide (up < es[s].s)))] (fun w'' => w'' = w') ?_ ?_
            · refine wc_region ?_
              refine wl_val hW rfl rfl (x_move rfl) ?_
              refine wl_val hW rfl rfl (x_move rfl) ?_
              refine wl_bcases (d := 35) rfl (fun hg35 => ?_) (fun hg35 => ?_)
              · refine wl_off hW rfl rfl ?_
                refine wl_off hW rfl rfl ?_
                refine wl_off hW rfl rfl ?_
                refine wl_off hW rfl rfl ?_
                refine wl_off hW rfl rfl ?_
                refine wl_off hW rfl rfl ?_
                refine wl_off hW rfl rfl ?_
                refine wl_val hW rfl rfl (x_pickT rfl rfl) ?_
                refine wl_nil ?_
                exact nx_cut (by rw [hg35, Bool.true_or]; repeat (first | exact sub_nil | refine sub_cons rfl ?_)) rfl
              · obtain ⟨b, o, cap', bv, e1, hA, hC38, hb1, hok1⟩ := (hRw.ext hE).at s hlt
                cases e1
                refine wl_val hW rfl rfl (x_move rfl) ?_
                refine wl_val hW rfl rfl (x_move rfl) ?_
                refine wl_val hW rfl rfl (x_indexAddr Try.underlying26 ag25.siz rfl rfl (by omega) (by omega)) ?_
                refine wl_val hW rfl rfl (x_fieldAddr Try.underlying25 rfl fl22.siz rfl) ?_
                refine wl_val hW rfl rfl (x_load fl22 rfl (hC38 1 _ rfl)) ?_
                refine wl_val hW rfl rfl (x_move rfl) ?_
                refine wl_val hW rfl rfl (x_gtr rfl rfl) ?_
                refine wl_val hW rfl rfl (x_pickF rfl rfl) ?_
                refine wl_nil ?_
                exact nx_cut (by rw [hg35, Bool.false_or]; repeat (first | exact sub_nil | refine sub_cons rfl ?_)) rfl
            · rintro w' rfl
              refine nx_then ?_
              refine wc_bool rfl (fun hc => ?_) (fun hc => ?_)
              · refine wc_exit ?_
                refine nx_then_exit ?_
                refine nx_block_exit ?_
                refine nx_then ?_
                refine wc_region ?_
                refine wl_val hW rfl rfl (x_move rfl) ?_
                refine wl_val hW rfl rfl (x_inc (s := s) rfl (by omega)) ?_
                refine wl_val hW rfl rfl (x_assign rfl) ?_
                refine wl_nil ?_
                exact nx_next (s + 1, ov, doneB (pkOf es s) dn es[s]) (by dsimp only; omega) ⟨⟨hlt, coll, hO.ext hE, by dsimp only; omega, by dsimp only; rw [← hco, drop_at hlt, rSeen_skip hc, pkOf_succ hlt]⟩, hEw.trans hE⟩ (by repeat (first | exact sub_nil | refine sub_cons rfl ?_))
              · have hc0 := hc
                refine wc_skip ?_
                refine nx_then ?_
                refine wc_seq ?_
                refine wc_region ?_
                refine wl_val hW rfl rfl (x_assign rfl) ?_
                refine wl_nil ?_
                refine nx_then ?_
                refine wc_seq ?_
                refine wc_region ?_
                obtain ⟨b, o, cap', bv, e1, hA, hC46, hb1, hok1⟩ := (hRw.ext hE).at s hlt
                cases e1
                refine wl_val hW rfl rfl (x_move rfl) ?_
                refine wl_val hW rfl rfl (x_move rfl) ?_
                refine wl_val hW rfl rfl (x_indexAddr Try.underlying26 ag25.siz rfl rfl (by omega) (by omega)) ?_
                refine wl_val hW rfl rfl (x_fieldAddr Try.underlying25 rfl fl4.siz rfl) ?_
                refine wl_val hW rfl rfl (x_load fl4 rfl (hC46 2 _ rfl)) ?_
                refine wl_val hW rfl rfl (x_not rfl) ?_
                refine wl_nil ?_
                refine nx_then ?_
                refine wc_bool rfl (fun hc => ?_) (fun hc => ?_)
                · refine wc_region ?_
                  have hC53 := hC46
                  refine wl_val hW rfl rfl (x_move rfl) ?_
                  refine wl_val hW rfl rfl (x_move rfl) ?_
                  refine wl_val hW rfl rfl (x_move rfl) ?_
                  refine wl_val hW rfl rfl (x_indexAddr Try.underlying26 ag25.siz rfl rfl (by omega) (by omega)) ?_
                  refine wl_val hW rfl rfl (x_loadA ag25 rfl hC53 rfl) ?_
                  refine wl_buildSlice (parts := [(0, .tmp 54)]) hW rfl rfl Try.underlying26 ag25.siz Try.zeroValue25 rfl rfl rfl (by omega) ?_
                  intro b55 w55 hl55 hB55 hx55
                  replace hE := hE.trans hx55
                  have hsz := hE.size
                  have hszw := hEw.size
                  refine wl_append1 hW rfl rfl rfl rfl (hO.ext hE) (by omega) (show Blk _ _ (cellsOf es[s] bv) 25 from hB55) ((hb1.ext hx55).mono (fun k _ h => ⟨h, fun e => by have := hO.lt _ e.symm; omega⟩)) hok1 (by omega) ?_
                  intro v56 wA hO2 hkA hcA
                  refine wl_val hW rfl rfl (x_assign rfl) ?_
                  refine wl_nil ?_
                  refine nx_block ?_
                  refine nx_then ?_
                  refine wc_region ?_
                  refine wl_val hW rfl rfl (x_move rfl) ?_
                  refine wl_val hW rfl rfl (x_inc (s := s) rfl (by omega)) ?_
                  refine wl_val hW rfl rfl (x_assign rfl) ?_
                  refine wl_nil ?_
                  exact nx_next (s + 1, v56, true) (by dsimp only; omega) ⟨⟨hlt, coll ++ [es[s]], hO2, by simp only [List.length_append, List.length_cons, List.length_nil]; omega, by dsimp only; rw [← hco, drop_at hlt, rSeen_take hc0, pkOf_succ hlt, if_neg (by simpa using hc), List.append_assoc]⟩, Keep.rowed (hEw.trans hE) hkA (fun b h => (hO.lt b h).1)⟩ (by repeat (first | exact sub_nil | refine sub_cons rfl ?_))
                · refine wc_skip ?_
                  refine nx_block ?_
                  refine nx_then ?_
                  refine wc_region ?_
                  refine wl_val hW rfl rfl (x_move rfl) ?_
                  refine wl_val hW rfl rfl (x_inc (s := s) rfl (by omega)) ?_
                  refine wl_val hW rfl rfl (x_assign rfl) ?_
                  refine wl_nil ?_
                  exact nx_next (s + 1, ov, true) (by dsimp only; omega) ⟨⟨hlt, coll, hO.ext hE, by dsimp only; omega, by dsimp only; rw [← hco, drop_at hlt, rSeen_take hc0, pkOf_succ hlt, if_pos (by simpa using hc), List.nil_append]⟩, hEw.trans hE⟩ (by repeat (first | exact sub_nil | refine sub_cons rfl ?_))
      · refine wc_exit ?_
        refine nx_then_exit ?_
        refine nx_then_exit ?_
        refine nx_block_exit ?_
        refine nx_then ?_
        refine wc_seq ?_
        replace hc : ¬ ((s : Nat) : Int) < es.length := hc
        have hdr : es.drop s = [] := List.drop_eq_nil_of_le (by omega)
        rw [hdr] at hco
        refine wc_region ?_
        refine wl_val hW rfl rfl (x_move rfl) ?_
        refine wl_val hW rfl rfl (x_assign rfl) ?_
        refine wl_val hW rfl rfl (x_assign rfl) ?_
        refine wl_nil ?_
        refine nx_then ?_
        refine wc_ret ?_
        exact ends_ret (res_tmp2 Try.results23 rfl rfl) ⟨⟨_, by rw [hrt]; rfl, by rw [hrt]; exact OutIs.row ⟨coll, hO, hcl, hco⟩ (by omega)⟩, hEw⟩
theorem C26 {w : World} {v : Value} {es : List Ent} {keep : Int} {bottom : Bool} (hR : Row (fun k => k < w.heap.size) w v es) :
    Rt Try.prog 26 [v, .int .u64 keep, .bool bottom] w fun r w' => (∃ rv, r = .tuple #[rv, .int .i64 (if rightB es then 0 else 15)] ∧ Row (fun _ => True) w' rv (if rightB es then rLeft keep bottom none false es else [])) ∧ Ext w w' := by
  obtain ⟨ad, cap, rfl, hcap, hlen⟩ := hR.form
  have hW := hWw
  have hFF := hFw
  have hE : Ext w w := Keep.refl _ _
  refine rt_body Try.func26 rfl Try.ntmps26 rfl ?_
  refine wc_seq ?_
  refine wc_region ?_
  refine wl_val hW rfl rfl (x_assign rfl) ?_
  refine wl_val hW rfl rfl (x_assign rfl) ?_
  refine wl_nil ?_
  refine nx_then ?_
  refine wc_seq ?_
  refine wc_seq ?_
  refine wc_region ?_
  refine wl_val hW rfl rfl (x_move rfl) ?_
  refine wl_call hW rfl rfl (x_call en21 rfl) ((C21 (hR.ext hE)).inF hFF) ?_
  rintro _ wC ⟨rfl, hxC⟩
  replace hE := hE.trans hxC
  refine wl_val hW rfl rfl (x_not rfl) ?_
  refine wl_nil ?_
  refine nx_then ?_
  refine wc_bool rfl (fun hc => ?_) (fun hc => ?_)
  · have hrt : rightB es = false := by simpa using hc
    refine wc_seq ?_
    refine wc_region ?_
    refine wl_val hW rfl rfl (x_assign rfl) ?_
    refine wl_val hW rfl rfl (x_assign rfl) ?_
    refine wl_nil ?_
    refine nx_then ?_
    refine wc_ret ?_
    refine nx_then_ret ?_
    exact ends_ret (res_tmp2 Try.results26 rfl rfl) ⟨⟨_, by rw [hrt]; rfl, by rw [hrt]; exact row_nil _ _⟩, hE⟩
  · have hrt : rightB es = true := by simpa using hc
    refine wc_skip ?_
    refine nx_then ?_
    refine wc_seq ?_
    refine wc_region ?_
    refine wl_val hW rfl rfl (x_assign rfl) ?_
    refine wl_nil ?_
    refine nx_then ?_
    refine wc_seq ?_
    refine wc_region ?_
    refine wl_val hW rfl rfl (x_assign rfl) ?_
    refine wl_nil ?_
    refine nx_then ?_
    refine wc_seq ?_
    refine wc_seq ?_
    refine wc_region ?_
    refine wl_val hW rfl rfl (x_assign rfl) ?_
    refine wl_nil ?_
    refine nx_then ?_
    refine wc_block ?_
    refine wc_loop (σ := Nat × Value × Bool) (fun s => [(0, .slice ad es.length cap), (1, .int .u64 keep), (2, .bool bottom), (8, s.2.1), (9, .bool s.2.2), (10, .int .i64 s.1)]) (fun s w' => (s.1 ≤ es.length ∧ OutIs w w' s.2.1 s.1 (rLeft keep bottom (pkOf es s.1) s.2.2 (es.drop s.1)) (rLeft keep bottom none false es)) ∧ Ext w w') (fun s => es.length - s.1) (0, .slice none 0 0, false) ?_ ?_ ?_
    · exact ⟨⟨Nat.zero_le _, [], own_nil _ _ _, by simp, by rw [List.drop_zero]; rfl⟩, hE⟩
    · repeat (first | exact sub_nil | refine sub_cons rfl ?_)
    · rintro ⟨s, ov, dn⟩ wr ⟨⟨hsl, coll, hO, hcl, hco⟩, hEw⟩
      dsimp only at hsl hO hcl hco
      have hE : Ext wr wr := Keep.refl _ _
      have hRw := hR.ext hEw
      refine wc_seq ?_
      refine wc_seq ?_
      refine wc_region ?_
      refine wl_val hW rfl rfl (x_move rfl) ?_
      refine wl_val hW rfl rfl (x_move rfl) ?_
      refine wl_val hW rfl rfl (x_len Try.underlying26 rfl) ?_
      refine wl_val hW rfl rfl (x_lss rfl rfl) ?_
      refine wl_nil ?_
      refine nx_then ?_
      refine wc_dec rfl (fun hc => ?_) (fun hc => ?_)
      · replace hc : ((s : Nat) : Int) < es.length := hc
        have hlt : s < es.length := by omega
        refine wc_skip ?_
        refine nx_then ?_
        refine wc_seq ?_
        refine wc_block ?_
        refine wc_seq ?_
        refine wc_seq ?_
        refine wc_cut [(0, .slice ad es.length cap), (1, .int .u64 keep), (2, .bool bottom), (8, ov), (9, .bool dn), (10, .int .i64 s), (35, .bool (freshB (pkOf es s) es[s]))] (fun w' => Ext wr w') ?_ ?_
        · refine wc_draw' 16 hW mixed (by kernel_rfl) (fun w0 hx0 => ?_)
          replace hE := hE.trans hx0
          refine q_val rfl rfl (fun _ hx => x_move rfl) ?_
          refine q_val rfl rfl (fun _ hx => x_gtr rfl rfl) ?_
          refine q_val rfl rfl (fun _ hx => x_move rfl) ?_
          refine q_dcases (d := 22) rfl (fun hg22 => ?_) (fun hg22 => ?_)
          · have hRn := hRw.ext hE
            obtain ⟨b, o, cap', bv, e1, hA, hC25, hb1, hok1⟩ := hRn.at s hlt
            cases e1
            obtain ⟨b', o', cap'', bv', e2, hA', hC31, hb2, hok2⟩ := hRn.at (s - 1) (by omega)
            cases e2
            refine q_val rfl rfl (fun _ hx => x_move rfl) ?_
            refine q_val rfl rfl (fun _ hx => x_move rfl) ?_
            refine q_val rfl rfl (fun _ hx => x_indexAddr Try.underlying26 ag25.siz rfl rfl (by omega) (by omega)) ?_
            refine q_val rfl rfl (fun _ hx => x_fieldAddr Try.underlying25 rfl fl9.siz rfl) ?_
            refine q_val rfl rfl (fun _ hx => x_load fl9 rfl (hx.cell (hC25 0 _ rfl))) ?_
            refine q_val rfl rfl (fun _ hx => x_move rfl) ?_
            refine q_val rfl rfl (fun _ hx => x_move rfl) ?_
            refine q_val rfl rfl (fun _ hx => x_subn (i := s) (j := 1) rfl rfl (by omega) (by omega)) ?_
            refine q_val rfl rfl (fun _ hx => x_indexAddr Try.underlying26 ag25.siz rfl rfl (by omega) (by omega)) ?_
            refine q_val rfl rfl (fun _ hx => x_fieldAddr Try.underlying25 rfl fl9.siz rfl) ?_
            refine q_val rfl rfl (fun _ hx => x_load fl9 rfl (hx.cell (hC31 0 _ rfl))) ?_
            refine q_val rfl rfl (fun _ hx => x_sneq rfl rfl) ?_
            refine q_val rfl rfl (fun _ hx => x_pickT rfl rfl) ?_
            refine q_nil (tail0 (fun wt hxt => ?_))
            replace hE := hE.trans hxt
            refine wl_nil ?_
            exact nx_cut (by rw [fresh_pos (by omega) (show s - 1 < es.length by omega)]; repeat (first | exact sub_nil | refine sub_cons rfl ?_)) hE
          · refine q_off rfl rfl ?_
            refine q_off rfl rfl ?_
            refine q_off rfl rfl ?_
            refine q_off rfl rfl ?_
            refine q_off rfl rfl ?_
            refine q_off rfl rfl ?_
            refine q_off rfl rfl ?_
            refine q_off rfl rfl ?_
            refine q_off rfl rfl ?_
            refine q_off rfl rfl ?_
            refine q_off rfl rfl ?_
            refine q_off rfl rfl ?_
            refine q_val rfl rfl (fun _ hx => x_pickF rfl rfl) ?_
            refine q_nil (tail0 (fun wt hxt => ?_))
            replace hE := hE.trans hxt
            refine wl_nil ?_
            exact nx_cut (by rw [fresh_zero (by omega)]; repeat (first | exact sub_nil | refine sub_cons rfl ?_)) hE
        · rintro w' hE
          refine nx_then ?_
          refine wc_cut [(0, .slice ad es.length cap), (1, .int .u64 keep), (2, .bool bottom), (8, ov), (9, .bool (doneB (pkOf es s) dn es[s])), (10, .int .i64 s)] (fun w'' => w'' = w') ?_ ?_
          · refine wc_bool rfl (fun hc => ?_) (fun hc => ?_)
            · refine wc_region ?_
              refine wl_val hW rfl rfl (x_assign rfl) ?_
              refine wl_nil ?_
              exact nx_cut (by rw [doneB_fresh hc]; repeat (first | exact sub_nil | refine sub_cons rfl ?_)) rfl
            · refine wc_skip ?_
              exact nx_cut (by rw [doneB_stale hc]; repeat (first | exact sub_nil | refine sub_cons rfl ?_)) rfl
          · rintro w' rfl
            refine nx_then ?_
            refine wc_seq ?_
            refine wc_seq ?_
            refine wc_region ?_
            obtain ⟨b, o, cap', bv, e1, hA, hC38, hb1, hok1⟩ := (hRw.ext hE).at s hlt
            cases e1
            refine wl_val hW rfl rfl (x_move rfl) ?_
            refine wl_val hW rfl rfl (x_move rfl) ?_
            refine wl_val hW rfl rfl (x_indexAddr Try.underlying26 ag25.siz rfl rfl (by omega) (by omega)) ?_
            refine wl_val hW rfl rfl (x_fieldAddr Try.underlying25 rfl fl22.siz rfl) ?_
            refine wl_val hW rfl rfl (x_load fl22 rfl (hC38 1 _ rfl)) ?_
            refine wl_val hW rfl rfl (x_move rfl) ?_
            refine wl_val hW rfl rfl (x_gtr rfl rfl) ?_
            refine wl_nil ?_
            refine nx_then ?_
            refine wc_dec rfl (fun hc => ?_) (fun hc => ?_)
            · refine wc_seq ?_
              refine wc_region ?_
              have hC46 := hC38
              refine wl_val hW rfl rfl (x_move rfl) ?_
              refine wl_val hW rfl rfl (x_move rfl) ?_
              refine wl_val hW rfl rfl (x_move rfl) ?_
              refine wl_val hW rfl rfl (x_indexAddr Try.underlying26 ag25.siz rfl rfl (by omega) (by omega)) ?_
              refine wl_val hW rfl rfl (x_loadA ag25 rfl hC46 rfl) ?_
              refine wl_buildSlice (parts := [(0, .tmp 47)]) hW rfl rfl Try.underlying26 ag25.siz Try.zeroValue25 rfl rfl rfl (by omega) ?_
              intro b48 w48 hl48 hB48 hx48
              replace hE := hE.trans hx48
              have hsz := hE.size
              have hszw := hEw.size
              refine wl_append1 hW rfl rfl rfl rfl (hO.ext hE) (by omega) (show Blk _ _ (cellsOf es[s] bv) 25 from hB48) ((hb1.ext hx48).mono (fun k _ h => ⟨h, fun e => by have := hO.lt _ e.symm; omega⟩)) hok1 (by omega) ?_
              intro v49 wA hO2 hkA hcA
              refine wl_val hW rfl rfl (x_assign rfl) ?_
              refine wl_nil ?_
              refine nx_then ?_
              refine wc_exit ?_
              refine nx_then_exit ?_
              refine nx_block_exit ?_
              refine nx_then ?_
              refine wc_region ?_
              refine wl_val hW rfl rfl (x_move rfl) ?_
              refine wl_val hW rfl rfl (x_inc (s := s) rfl (by omega)) ?_
              refine wl_val hW rfl rfl (x_assign rfl) ?_
              refine wl_nil ?_
              exact nx_next (s + 1, v49, doneB (pkOf es s) dn es[s]) (by dsimp only; omega) ⟨⟨hlt, coll ++ [es[s]], hO2, by simp only [List.length_append, List.length_cons, List.length_nil]; omega, by dsimp only; rw [← hco, drop_at hlt, rLeft_keep hc, pkOf_succ hlt, List.append_assoc]; rfl⟩, Keep.rowed (hEw.trans hE) hkA (fun b h => (hO.lt b h).1)⟩ (by repeat (first | exact sub_nil | refine sub_cons rfl ?_))
            · have hc0 := hc
              refine wc_skip ?_
              refine nx_then ?_
              refine wc_seq ?_
              refine wc_seq ?_
              refine wc_cut [(0, .slice (some ⟨b, o, none⟩) es.length cap), (1, .int .u64 keep), (2, .bool bottom), (8, ov), (10, .int .i64 s), (62, .bool (!doneB (pkOf es s) dn es[s] && !(es[s].g && bottom)))] (fun w'' => w'' = w') ?_ ?_
              · refine wc_region ?_
                refine wl_val hW rfl rfl (x_move rfl) ?_
                refine wl_val hW rfl rfl (x_not rfl) ?_
                refine wl_val hW rfl rfl (x_move rfl) ?_
                refine wl_bcases (d := 52) rfl (fun hg52 => ?_) (fun hg52 => ?_)
                · have hC55 := hC38
                  refine wl_val hW rfl rfl (x_move rfl) ?_
                  refine wl_val hW rfl rfl (x_move rfl) ?_
                  refine wl_val hW rfl rfl (x_indexAddr Try.underlying26 ag25.siz rfl rfl (by omega) (by omega)) ?_
                  refine wl_val hW rfl rfl (x_fieldAddr Try.underlying25 rfl fl4.siz rfl) ?_
                  refine wl_val hW rfl rfl (x_load fl4 rfl (hC55 2 _ rfl)) ?_
                  refine wl_val hW rfl rfl (x_move rfl) ?_
                  refine wl_bcases (d := 58) rfl (fun hg58 => ?_) (fun hg58 => ?_)
                  · refine wl_val hW rfl rfl (x_move rfl) ?_
                    refine wl_val hW rfl rfl (x_pickT rfl rfl) ?_
                    refine wl_val hW rfl rfl (x_not rfl) ?_
                    refine wl_val hW rfl rfl (x_pickT rfl rfl) ?_
                    refine wl_nil ?_
                    exact nx_cut (by rw [hg52, show es[s].g = true from hg58, Bool.true_and, Bool.true_and]; repeat (first | exact sub_nil | refine sub_cons rfl ?_)) rfl
                  · refine wl_off hW rfl rfl ?_
                    refine wl_val hW rfl rfl (x_pickF rfl rfl) ?_
                    refine wl_val hW rfl rfl (x_not rfl) ?_
                    refine wl_val hW rfl rfl (x_pickT rfl rfl) ?_
                    refine wl_nil ?_
                    exact nx_cut (by rw [hg52, show es[s].g = false from hg58, Bool.false_and, Bool.true_and]; repeat (first | exact sub_nil | refine sub_cons rfl ?_)) rfl
                · refine wl_off hW rfl rfl ?_
                  refine wl_off hW rfl rfl ?_
                  refine wl_off hW rfl rfl ?_
                  refine wl_off hW rfl rfl ?_
                  refine wl_off hW rfl rfl ?_
                  refine wl_off hW rfl rfl ?_
                  refine wl_off hW rfl rfl ?_
                  refine wl_off hW rfl rfl ?_
                  refine wl_off hW rfl rfl ?_
                  refine wl_val hW rfl rfl (x_pickF rfl rfl) ?_
                  refine wl_nil ?_
                  exact nx_cut (by rw [hg52, Bool.false_and]; repeat (first | exact sub_nil | refine sub_cons rfl ?_)) rfl
              · rintro w' rfl
                refine nx_then ?_
                refine wc_bool rfl (fun hc => ?_) (fun hc => ?_)
                · refine wc_region ?_
                  have hC66 := hC38
                  refine wl_val hW rfl rfl (x_move rfl) ?_
                  refine wl_val hW rfl rfl (x_move rfl) ?_
                  refine wl_val hW rfl rfl (x_move rfl) ?_
                  refine wl_val hW rfl rfl (x_indexAddr Try.underlying26 ag25.siz rfl rfl (by omega) (by omega)) ?_
                  refine wl_val hW rfl rfl (x_loadA ag25 rfl hC66 rfl) ?_
                  refine wl_buildSlice (parts := [(0, .tmp 67)]) hW rfl rfl Try.underlying26 ag25.siz Try.zeroValue25 rfl rfl rfl (by omega) ?_
                  intro b68 w68 hl68 hB68 hx68
                  replace hE := hE.trans hx68
                  have hsz := hE.size
                  have hszw := hEw.size
                  refine wl_append1 hW rfl rfl rfl rfl (hO.ext hE) (by omega) (show Blk _ _ (cellsOf es[s] bv) 25 from hB68) ((hb1.ext hx68).mono (fun k _ h => ⟨h, fun e => by have := hO.lt _ e.symm; omega⟩)) hok1 (by omega) ?_
                  intro v69 wA hO2 hkA hcA
                  refine wl_val hW rfl rfl (x_assign rfl) ?_
                  refine wl_nil ?_
                  refine nx_then ?_
                  refine wc_region ?_
                  refine wl_val hW rfl rfl (x_assign rfl) ?_
                  refine wl_nil ?_
                  refine nx_block ?_
                  refine nx_then ?_
                  refine wc_region ?_
                  refine wl_val hW rfl rfl (x_move rfl) ?_
                  refine wl_val hW rfl rfl (x_inc (s := s) rfl (by omega)) ?_
                  refine wl_val hW rfl rfl (x_assign rfl) ?_
                  refine wl_nil ?_
                  exact nx_next (s + 1, v69, true) (by dsimp only; omega) ⟨⟨hlt, coll ++ [es[s]], hO2, by simp only [List.length_append, List.length_cons, List.length_nil]; omega, by dsimp only; rw [← hco, drop_at hlt, rLeft_old hc0, pkOf_succ hlt, if_pos hc, List.append_assoc]⟩, Keep.rowed (hEw.trans hE) hkA (fun b h => (hO.lt b h).1)⟩ (by repeat (first | exact sub_nil | refine sub_cons rfl ?_))
                · refine wc_skip ?_
                  refine nx_then ?_
                  refine wc_region ?_
                  refine wl_val hW rfl rfl (x_assign rfl) ?_
                  refine wl_nil ?_
                  refine nx_block ?_
                  refine nx_then ?_
                  refine wc_region ?_
                  refine wl_val hW rfl rfl (x_move rfl) ?_
                  refine wl_val hW rfl rfl (x_inc (s := s) rfl (by omega)) ?_
                  refine wl_val hW rfl rfl (x_assign rfl) ?_
                  refine wl_nil ?_
                  exact nx_next (s + 1, ov, true) (by dsimp only; omega) ⟨⟨hlt, coll, hO.ext hE, by dsimp only; omega, by dsimp only; rw [← hco, drop_at hlt, rLeft_old hc0, pkOf_succ hlt, if_neg (by rw [hc]; simp), List.nil_append]⟩, hEw.trans hE⟩ (by repeat (first | exact sub_nil | refine sub_cons rfl ?_))
      · refine wc_exit ?_
        refine nx_then_exit ?_
        refine nx_then_exit ?_
        refine nx_block_exit ?_
        refine nx_then ?_
        refine wc_seq ?_
        replace hc : ¬ ((s : Nat) : Int) < es.length := hc
        have hdr : es.drop s = [] := List.drop_eq_nil_of_le (by omega)
        rw [hdr] at hco
        refine wc_region ?_
        refine wl_val hW rfl rfl (x_move rfl) ?_
        refine wl_val hW rfl rfl (x_assign rfl) ?_
        refine wl_val hW rfl rfl (x_assign rfl) ?_
        refine wl_nil ?_
        refine nx_then ?_
        refine wc_ret ?_
        exact ends_ret (res_tmp2 Try.results26 rfl rfl) ⟨⟨_, by rw [hrt]; rfl, by rw [hrt]; exact OutIs.row ⟨coll, hO, hcl, hco⟩ (by omega)⟩, hEw⟩
end Go.Proofs.Ytblbddamebbgaaa.K


/- Entries and lists made by the program itself. -/
namespace Go.Proofs.Ytblbddamebbgaaa.K
open Go Go.RowKit
set_option linter.unusedVariables false
set_option linter.unusedSectionVars false
set_option linter.unusedSimpArgs false

theorem frozen_keep {w : World} {b : Nat} {cs : List Value} {t : TypeId} {k : Nat} (hB : Blk w b cs t) : Cells (w.freeze ⟨b, k, none⟩ 1) b 0 cs ∧ Keep (· ≠ b) w (w.freeze ⟨b, k, none⟩ 1) := by
  have hb : (w.freeze ⟨b, k, none⟩ 1).heap[b]? = some (.cells cs.toArray t (k, k + 1)) := by
    unfold Blk at hB
    unfold World.freeze
    rw [if_neg (by decide)]
    show (w.heap.modify b _)[b]? = _
    rw [Array.getElem?_modify, if_pos rfl, hB]; rfl
  refine ⟨fun j v hv => ?_, ⟨?_, ?_, ?_, ?_, fun k' hk hs => ?_⟩⟩
  · rw [cell_of_row _ b _ _ t _ hb, Nat.zero_add]; simpa using hv
  · unfold World.freeze; rw [if_neg (by decide)]
  · unfold World.freeze; rw [if_neg (by decide)]
  · unfold World.freeze; rw [if_neg (by decide)]
  · unfold World.freeze; rw [if_neg (by decide)]; show _ ≤ (w.heap.modify b _).size; rw [Array.size_modify]; exact Nat.le_refl _
  · unfold World.freeze; rw [if_neg (by decide)]; show (w.heap.modify b _)[k']? = _; rw [Array.getElem?_modify, if_neg (Ne.symm hs)]
theorem conv_same {w : World} {b n c : Nat} {cs : List Value} (hB : Blk w b cs 5) : ∃ w', (convert 23 23 (.slice (some ⟨b, 0, none⟩) n c)).run Try.prog w = .ok (.slice (some ⟨b, 0, none⟩) n c) w' ∧ Cells w' b 0 cs ∧ Keep (· ≠ b) w w' := by
  have hsh : w.shape? b = some (5, cs.length) := by unfold World.shape?; rw [hB]; simp
  refine ⟨w.freeze ⟨b, cs.length, none⟩ 1, ?_, frozen_keep hB⟩
  simp [convert, run_underlying Try.underlying23, run_underlying Try.underlying5, markStringish, hsh]
theorem build25 {k : ByteArray} {s : Int} {av : Option Addr} {n c : Nat} (w : World) : (Instr.build 25 [(0, Value.string k), (1, Value.int .u64 s), (3, .slice av n c)].toArray).run Try.prog w = .ok (.agg (cellsOf ⟨k, s, false, []⟩ (.slice av n c)).toArray) w := by
  simp [Instr.build, run_underlying Try.underlying25, Try.zeroValue25, fl9.siz w, fl22.siz w, fl4.siz w, fl23.siz w]
  rfl
theorem build25g {k : ByteArray} {s : Int} {g : Bool} (w : World) : (Instr.build 25 [(0, Value.string k), (1, Value.int .u64 s), (2, .bool g)].toArray).run Try.prog w = .ok (.agg (cellsOf ⟨k, s, g, []⟩ (.slice none 0 0)).toArray) w := by
  simp [Instr.build, run_underlying Try.underlying25, Try.zeroValue25, fl9.siz w, fl22.siz w, fl4.siz w, fl23.siz w]
  rfl
section
variable {F : Fence} {n : Nat} {Q : Exit → Act → World → Prop} {m : Nat} {D : List Deferred} {L : Env} {w : World} {ops rest : List Oper} {d : Nat} {ty : TypeId} {pos : String} {af : Array Edge} {g : Option (Nat × Bool)} {x : Operand}
theorem wl_convSame {b k c : Nat} {cs : List Value} (hW : Wd F) (hg : wants L ops g = some true) (hd : Nat.blt d m = true) (hx : ev L x = some (.slice (some ⟨b, 0, none⟩) k c)) (hB : Blk w b cs 5)
    (kk : ∀ w', Cells w' b 0 cs → Keep (· ≠ b) w w' → WL F n Try.prog Q m D ops rest ((d, .slice (some ⟨b, 0, none⟩) k c) :: L) w') : WL F n Try.prog Q m D ops (⟨some d, .convert 23 23 x, ty, pos, af, g⟩ :: rest) L w := by
  obtain ⟨w', hr, hC, hk⟩ := conv_same (n := k) (c := c) hB
  refine wl_val hW hg hd ⟨nofun, fun _ _ _ _ a h => ?_⟩ (kk w' hC hk)
  simp [execOp, h.ev hx, hr]
theorem x_buildE {k : ByteArray} {s : Int} {av : Option Addr} {n' c : Nat} (hx : ev L x = some (.slice av n' c)) : Xv Try.prog m D L (.build 25 #[(0, .const (.string k)), (1, .const (.int .u64 s)), (3, x)]) ty w (.agg (cellsOf ⟨k, s, false, []⟩ (.slice av n' c)).toArray) w :=
  x_build (parts := [(0, .const (.string k)), (1, .const (.int .u64 s)), (3, x)]) Try.underlying25 Try.zeroValue25 (pv := [(0, .string k), (1, .int .u64 s), (3, .slice av n' c)]) (fun a h => by show [(0, _), (1, _), (3, a.eval x)] = _; rw [h.ev hx]; rfl) build25
theorem x_buildG {k : ByteArray} {s : Int} {g : Bool} : Xv Try.prog m D L (.build 25 #[(0, .const (.string k)), (1, .const (.int .u64 s)), (2, .const (.bool g))]) ty w (.agg (cellsOf ⟨k, s, g, []⟩ (.slice none 0 0)).toArray) w :=
  x_build (parts := [(0, .const (.string k)), (1, .const (.int .u64 s)), (2, .const (.bool g))]) Try.underlying25 Try.zeroValue25 (pv := [(0, .string k), (1, .int .u64 s), (2, .bool g)]) (fun a h => by simp [Act.eval]) build25g
end
/-- One byte in cells of its own. -/
theorem byts_one {A : Nat → Prop} {w : World} {b : Nat} {u : UInt8} (hC : Cells w b 0 [.int .u8 u.toNat]) (hA : A b) : Byts A w (.slice (some ⟨b, 0, none⟩) 1 1) [u] :=
  ⟨_, 1, rfl, Nat.le_refl _, fun _ => ⟨b, 0, rfl, hA, fun i v hi => by
    have : i = 0 := by have := (List.getElem?_eq_some_iff.1 hi).1; simp at this; omega
    subst this
    simp at hi
    subst hi
    exact hC 0 _ rfl⟩⟩
/-- A list that lies in one block. -/
theorem row_of_blk {A : Nat → Prop} {w : World} {b : Nat} {es : List Ent} {bvs : List Value} (hl : bvs.length = es.length) (hB : Blk w b (flat es bvs) 25) (hA : A b) (hby : ∀ (i : Nat) (e : Ent) (bv : Value), es[i]? = some e → bvs[i]? = some bv → Byts A w bv e.v) (hok : ∀ e ∈ es, EntOk e) (hn : es.length ≤ 1099511627776) :
    Row A w (.slice (some ⟨b, 0, none⟩) es.length es.length) es :=
  ⟨_, _, rfl, Nat.le_refl _, hn, hok, fun _ => ⟨b, 0, rfl, hA, fun i e hi => by
    have hlt := (List.getElem?_eq_some_iff.1 hi).1
    have hbv : bvs[i]? = some (bvs[i]'(by omega)) := List.getElem?_eq_getElem _
    refine ⟨_, fun j u hj => ?_, hby i e _ hi hbv⟩
    have := flat_at es bvs i e _ hl hi hbv j u hj
    rw [Nat.zero_add]
    exact hB.cell this⟩⟩
/-- The chapter's example. -/
def kn : List Ent := [⟨⟨#[97]⟩, 5, false, [120]⟩, ⟨⟨#[97]⟩, 3, false, [121]⟩, ⟨⟨#[97]⟩, 1, false, [122]⟩, ⟨⟨#[98]⟩, 2, true, []⟩]
theorem k97 : (ByteArray.mk #[97]).toList = [97] := by rw [ByteArray.toList_eq]
theorem k98 : (ByteArray.mk #[98]).toList = [98] := by rw [ByteArray.toList_eq]
theorem bl_97_98 : bl [97] [98] = true := by decide
theorem kn_right : rightB kn = true := by
  rw [rightB_iff]
  refine ⟨by simp [kn, okE], ?_⟩
  simp [kn, Sorted, ltE, k97, k98, bl_97_98]
theorem kn_grps : grps 4 0 kn = [(0, [⟨⟨#[97]⟩, 5, false, [120]⟩, ⟨⟨#[97]⟩, 3, false, [121]⟩, ⟨⟨#[97]⟩, 1, false, [122]⟩]), (3, [⟨⟨#[98]⟩, 2, true, []⟩])] := by
  simp [kn, grps]
theorem kn_seen : seenL 4 kn = [⟨⟨#[97]⟩, 3, false, [121]⟩] := by unfold seenL; rw [show kn.length = 4 from rfl, kn_grps]; simp [seenG, newestN]
theorem kn_left0 : (leftL 3 false kn).length = 3 := by unfold leftL; rw [show kn.length = 4 from rfl, kn_grps]; simp [leftN, newestN]
theorem kn_left1 : (leftL 3 true kn).length = 2 := by unfold leftL; rw [show kn.length = 4 from rfl, kn_grps]; simp [leftN, newestN]
theorem kn_ok : ∀ e ∈ kn, EntOk e := by
  intro e he
  simp only [kn, List.mem_cons, List.not_mem_nil, or_false] at he
  rcases he with rfl | rfl | rfl | rfl <;> exact ⟨by decide, by decide, by decide, by decide⟩
end Go.Proofs.Ytblbddamebbgaaa.K

/- Walk: law 6's example. -/
namespace Go.Proofs.Ytblbddamebbgaaa.K
open Go Go.RowKit
set_option linter.unusedVariables false
set_option linter.unusedSimpArgs false

theorem C16 {w : World} : Rt Try.prog 16 [] w fun r w' => r = .bool true ∧ Ext w w' := by
  have hW := hWw
  have hFF := hFw
  have hE : Ext w w := Keep.refl _ _
  refine rt_body Try.func16 rfl Try.ntmps16 rfl ?_
  refine wc_seq ?_
  refine wc_region ?_
  refine wl_val hW rfl rfl (x_assign rfl) ?_
  refine wl_nil ?_
  refine nx_then ?_
  refine wc_seq ?_
  refine wc_region ?_
  refine wl_buildSlice (parts := [(0, .const (.int .u8 120))]) hW rfl rfl Try.underlying23 fl5.siz Try.zeroValue5 rfl rfl rfl (by omega) ?_
  intro b8 w8 hl8 hB8 hx8
  have g8 : w.heap.size ≤ b8 := Nat.le_trans hE.size hl8
  replace hE := hE.trans hx8
  refine wl_convSame hW rfl rfl rfl hB8 ?_
  intro v8 hC8 hk8
  replace hE := hE.store hk8 g8
  have hy8 : Byts (· = b8) v8 (.slice (some ⟨b8, 0, none⟩) 1 1) [120] := byts_one (u := 120) hC8 rfl
  have hlt8 : b8 < v8.heap.size := Nat.lt_of_lt_of_le hB8.lt hk8.size
  refine wl_val hW rfl rfl (x_buildE rfl) ?_
  refine wl_buildSlice (parts := [(0, .const (.int .u8 121))]) hW rfl rfl Try.underlying23 fl5.siz Try.zeroValue5 rfl rfl rfl (by omega) ?_
  intro b11 w11 hl11 hB11 hx11
  have g11 : w.heap.size ≤ b11 := Nat.le_trans hE.size hl11
  have n11_8 : b11 ≠ b8 := Nat.ne_of_gt (Nat.lt_of_lt_of_le hlt8 hl11)
  replace hy8 := hy8.ext hx11
  replace hE := hE.trans hx11
  refine wl_convSame hW rfl rfl rfl hB11 ?_
  intro v11 hC11 hk11
  replace hE := hE.store hk11 g11
  have hy11 : Byts (· = b11) v11 (.slice (some ⟨b11, 0, none⟩) 1 1) [121] := byts_one (u := 121) hC11 rfl
  have hlt11 : b11 < v11.heap.size := Nat.lt_of_lt_of_le hB11.lt hk11.size
  replace hy8 := hy8.ck (CK.of_keep hk11 (fun k _ h => by rw [h]; exact n11_8.symm))
  replace hlt8 : b8 < v11.heap.size := Nat.lt_of_lt_of_le hlt8 (Nat.le_trans hx11.size hk11.size)
  refine wl_val hW rfl rfl (x_buildE rfl) ?_
  refine wl_buildSlice (parts := [(0, .const (.int .u8 122))]) hW rfl rfl Try.underlying23 fl5.siz Try.zeroValue5 rfl rfl rfl (by omega) ?_
  intro b14 w14 hl14 hB14 hx14
  have g14 : w.heap.size ≤ b14 := Nat.le_trans hE.size hl14
  have n14_8 : b14 ≠ b8 := Nat.ne_of_gt (Nat.lt_of_lt_of_le hlt8 hl14)
  replace hy8 := hy8.ext hx14
  have n14_11 : b14 ≠ b11 := Nat.ne_of_gt (Nat.lt_of_lt_of_le hlt11 hl14)
  replace hy11 := hy11.ext hx14
  replace hE := hE.trans hx14
  refine wl_convSame hW rfl rfl rfl hB14 ?_
  intro v14 hC14 hk14
  replace hE := hE.store hk14 g14
  have hy14 : Byts (· = b14) v14 (.slice (some ⟨b14, 0, none⟩) 1 1) [122] := byts_one (u := 122) hC14 rfl
  replace hy8 := hy8.ck (CK.of_keep hk14 (fun k _ h => by rw [h]; exact n14_8.symm))
  replace hy11 := hy11.ck (CK.of_keep hk14 (fun k _ h => by rw [h]; exact n14_11.symm))
  clear hB8 hB11 hB14
  refine wl_val hW rfl rfl (x_buildE rfl) ?_
  refine wl_val hW rfl rfl x_buildG ?_
  refine wl_buildSlice (parts := [(0, .tmp 10), (1, .tmp 13), (2, .tmp 16), (3, .tmp 17)]) hW rfl rfl Try.underlying26 ag25.siz Try.zeroValue25 rfl rfl rfl (by omega) ?_
  intro b18 w18 hl18 hB18 hx18
  have g18 : w.heap.size ≤ b18 := Nat.le_trans hE.size hl18
  replace hE := hE.trans hx18
  have hK : Row (fun k => k < w18.heap.size) w18 (.slice (some ⟨b18, 0, none⟩) 4 4) kn := row_of_blk (es := kn) (bvs := [.slice (some ⟨b8, 0, none⟩) 1 1, .slice (some ⟨b11, 0, none⟩) 1 1, .slice (some ⟨b14, 0, none⟩) 1 1, .slice none 0 0]) rfl hB18 hB18.lt (fun i e bv hi hj => by
    match i, hi, hj with
    | 0, hi, hj => cases hi; cases hj; exact (hy8.ext hx18).mono (fun k h _ => h)
    | 1, hi, hj => cases hi; cases hj; exact (hy11.ext hx18).mono (fun k h _ => h)
    | 2, hi, hj => cases hi; cases hj; exact (hy14.ext hx18).mono (fun k h _ => h)
    | 3, hi, hj => cases hi; cases hj; exact byts_nil _ _) kn_ok (by decide)
  refine wl_val hW rfl rfl (x_assign rfl) ?_
  refine wl_nil ?_
  refine nx_then ?_
  refine wc_seq ?_
  refine wc_region ?_
  refine wl_val hW rfl rfl (x_move rfl) ?_
  refine wl_call hW rfl rfl (x_call en22 rfl) ((C22 hK (by decide)).inF hFF) ?_
  rintro _ wC ⟨⟨rv1, hr, hR1⟩, hxC⟩
  simp only [kn_right, if_true, kn_seen] at hr hR1
  subst hr
  replace hE := hE.trans hxC
  replace hK := (hK.ext hxC).mono (A' := fun k => k < wC.heap.size) (fun k h _ => h)
  refine wl_val hW rfl rfl (x_move rfl) ?_
  refine wl_val hW rfl rfl (x_extract rfl rfl) ?_
  refine wl_val hW rfl rfl (x_extract rfl rfl) ?_
  refine wl_val hW rfl rfl (x_assign rfl) ?_
  refine wl_val hW rfl rfl (x_assign rfl) ?_
  refine wl_nil ?_
  refine nx_then ?_
  refine wc_seq ?_
  refine wc_region ?_
  refine wl_val hW rfl rfl (x_move rfl) ?_
  refine wl_call hW rfl rfl (x_call en25 rfl) ((C25 hK (by decide)).inF hFF) ?_
  rintro _ wC2 ⟨⟨rv2, hr, hR2⟩, hxC⟩
  simp only [kn_right, if_true] at hr hR2
  subst hr
  replace hE := hE.trans hxC
  replace hK := (hK.ext hxC).mono (A' := fun k => k < wC2.heap.size) (fun k h _ => h)
  replace hR1 := hR1.ext hxC
  refine wl_val hW rfl rfl (x_move rfl) ?_
  refine wl_val hW rfl rfl (x_extract rfl rfl) ?_
  refine wl_val hW rfl rfl (x_extract rfl rfl) ?_
  refine wl_val hW rfl rfl (x_assign rfl) ?_
  refine wl_val hW rfl rfl (x_assign rfl) ?_
  refine wl_nil ?_
  refine nx_then ?_
  refine wc_seq ?_
  refine wc_region ?_
  refine wl_val hW rfl rfl (x_move rfl) ?_
  refine wl_call hW rfl rfl (x_call en25 rfl) ((C25 hK (by decide)).inF hFF) ?_
  rintro _ wC3 ⟨⟨rv3, hr, hR3⟩, hxC⟩
  simp only [kn_right, if_true] at hr hR3
  subst hr
  replace hE := hE.trans hxC
  replace hK := (hK.ext hxC).mono (A' := fun k => k < wC3.heap.size) (fun k h _ => h)
  replace hR1 := hR1.ext hxC
  obtain ⟨ad2, cap2, rfl, -⟩ := hR2.form
  obtain ⟨ad3, cap3, rfl, -⟩ := hR3.form
  obtain ⟨b, o, cap', bv, rfl, hA, hC47, hb1, hok1⟩ := hR1.at 0 (by decide)
  refine wl_val hW rfl rfl (x_move rfl) ?_
  refine wl_val hW rfl rfl (x_extract rfl rfl) ?_
  refine wl_val hW rfl rfl (x_extract rfl rfl) ?_
  refine wl_val hW rfl rfl (x_assign rfl) ?_
  refine wl_val hW rfl rfl (x_assign rfl) ?_
  refine wl_nil ?_
  refine nx_then ?_
  refine wc_seq ?_
  refine wc_cut [(0, .bool true)] (fun w' => Ext w w') ?_ ?_
  · refine wc_region ?_
    refine wl_val hW rfl rfl (x_move rfl) ?_
    refine wl_val hW rfl rfl (x_move rfl) ?_
    refine wl_val hW rfl rfl (x_add (r := 0) rfl rfl rfl) ?_
    refine wl_val hW rfl rfl (x_move rfl) ?_
    refine wl_val hW rfl rfl (x_add (r := 0) rfl rfl rfl) ?_
    refine wl_val hW rfl rfl (x_eqlT rfl rfl rfl) ?_
    refine wl_val hW rfl rfl (x_move rfl) ?_
    refine wl_val hW rfl rfl (x_move rfl) ?_
    refine wl_val hW rfl rfl (x_len Try.underlying26 rfl) ?_
    refine wl_val hW rfl rfl (x_eqlT rfl rfl rfl) ?_
    refine wl_val hW rfl rfl (x_pickT rfl rfl) ?_
    refine wl_val hW rfl rfl (x_move rfl) ?_
    refine wl_val hW rfl rfl (x_move rfl) ?_
    refine wl_val hW rfl rfl (x_indexAddr Try.underlying26 ag25.siz rfl rfl (by decide) (by decide)) ?_
    refine wl_val hW rfl rfl (x_fieldAddr Try.underlying25 rfl fl22.siz rfl) ?_
    refine wl_val hW rfl rfl (x_load fl22 rfl (hC47 1 _ rfl)) ?_
    refine wl_val hW rfl rfl (x_eqlT rfl rfl rfl) ?_
    refine wl_val hW rfl rfl (x_pickT rfl rfl) ?_
    refine wl_val hW rfl rfl (x_move rfl) ?_
    refine wl_val hW rfl rfl (x_move rfl) ?_
    refine wl_val hW rfl rfl (x_len Try.underlying26 rfl) ?_
    refine wl_val hW rfl rfl (x_eqlT rfl rfl (by rw [kn_left0]; rfl)) ?_
    refine wl_val hW rfl rfl (x_pickT rfl rfl) ?_
    refine wl_val hW rfl rfl (x_move rfl) ?_
    refine wl_val hW rfl rfl (x_move rfl) ?_
    refine wl_val hW rfl rfl (x_len Try.underlying26 rfl) ?_
    refine wl_val hW rfl rfl (x_eqlT rfl rfl (by rw [kn_left1]; rfl)) ?_
    refine wl_val hW rfl rfl (x_pickT rfl rfl) ?_
    refine wl_val hW rfl rfl (x_move rfl) ?_
    refine wl_val hW rfl rfl (x_move rfl) ?_
    refine wl_call hW rfl rfl (x_call en20 rfl) ((C20 hK).inF hFF) ?_
    rintro _ wC ⟨hr, hxC⟩
    rw [kn_right] at hr
    subst hr
    replace hE := hE.trans hxC
    refine wl_val hW rfl rfl (x_pickT rfl rfl) ?_
    refine wl_val hW rfl rfl (x_assign rfl) ?_
    refine wl_nil ?_
    exact nx_cut (by repeat (first | exact sub_nil | refine sub_cons rfl ?_)) hE
  · rintro w' hE
    refine nx_then ?_
    refine wc_ret ?_
    exact ends_ret (res_tmp Try.results16 rfl) ⟨rfl, hE⟩
end Go.Proofs.Ytblbddamebbgaaa.K


/- Arguments read: what a list of entries is; the row of a law that holds. -/
namespace Go.Proofs.Ytblbddamebbgaaa.K
open Go Go.RowKit Go.ChangeShapes Go.WideShapes Go.ChangeAt
set_option linter.unusedVariables false
set_option linter.unusedSectionVars false
set_option linter.unusedSimpArgs false

section
variable {H : Type}
theorem bulk_pos (d : DataW H) : 1 ≤ Rows.uptoBulk d := by
  cases d with
  | lit l => cases l <;> simp [Rows.uptoBulk]
  | _ => simp [Rows.uptoBulk]
theorem bulkAll_len : ∀ l : List (DataW H), l.length ≤ Rows.uptoBulkAll l
  | [] => by simp
  | d :: l => by have := bulk_pos d; have := bulkAll_len l; simp only [Rows.uptoBulkAll, List.length_cons]; omega
theorem bulkAll_mem : ∀ (l : List (DataW H)) (d : DataW H), d ∈ l → Rows.uptoBulk d ≤ Rows.uptoBulkAll l
  | [], d, h => by simp at h
  | x :: l, d, h => by
    simp only [Rows.uptoBulkAll]
    rcases List.mem_cons.1 h with rfl | h
    · omega
    · have := bulkAll_mem l d h; omega
theorem bulkAll_append : ∀ (l m : List (DataW H)), Rows.uptoBulkAll (l ++ m) = Rows.uptoBulkAll l + Rows.uptoBulkAll m
  | [], m => by simp [Rows.uptoBulkAll]
  | x :: l, m => by simp only [List.cons_append, Rows.uptoBulkAll, bulkAll_append l m]; omega

variable {enc : TypeId × Value → H} {w : World} {spare : Nat → Bool} {held : Bool} {fuel : Nat} {cs : List Value} {x : DataW H × List MemPlace}
theorem cellsOf5 : Try.prog.cellsOf 5 = 1 := by kernel_rfl
theorem cellsOf25 : Try.prog.cellsOf 25 = 4 := by kernel_rfl
theorem cellsOf9 : Try.prog.cellsOf 9 = 1 := by kernel_rfl
theorem cellsOf22 : Try.prog.cellsOf 22 = 1 := by kernel_rfl
theorem cellsOf4 : Try.prog.cellsOf 4 = 1 := by kernel_rfl
theorem cellsOf23 : Try.prog.cellsOf 23 = 1 := by kernel_rfl
theorem cellsOf26 : Try.prog.cellsOf 26 = 1 := by kernel_rfl
theorem addr_add0 (a : Addr) : a.add 0 = a := by cases a; simp [Addr.add]
theorem cell_spot {w : World} {a : Addr} {v : Value} (h : w.cell? a = some v) : a.spot = none := by
  unfold World.cell? at h
  split at h
  · cases hs : a.spot with
    | none => rfl
    | some s => rw [hs] at h; simp at h
  · cases h
theorem cells_at {a : Addr} {n : Nat} {cs : List Value} (h : w.cells? 0 a n = some cs) (h0 : 0 < n) : a.spot = none ∧ a.block < w.heap.size ∧ cs.length = n ∧ Cells w a.block a.off cs := by
  obtain ⟨-, hl, hg⟩ := World.cells?_some h
  have h1 := hg 0 h0
  rw [addr_add0] at h1
  have hv : cs[0]? = some (cs[0]'(by omega)) := List.getElem?_eq_getElem _
  rw [hv] at h1
  refine ⟨cell_spot h1, World.block_lt_of_cell? w _ h1, hl, fun j v hj => ?_⟩
  have hlt := (List.getElem?_eq_some_iff.1 hj).1
  have := hg j (by omega)
  rw [hj] at this
  obtain ⟨b, o, sp⟩ := a
  have hsp : sp = none := cell_spot h1
  subst hsp
  rw [add_mk] at this
  exact this
theorem open_bytes (h : DataW.trod enc Try.prog w 0 spare held fuel 23 cs = some x) : ∃ v l, cs = [v] ∧ Byts (fun k => k < w.heap.size) w v l ∧ l.length + 1 ≤ Rows.uptoBulk x.1 := by
  rcases Go.Deep.open_slice Try.underlying23 h with ⟨rfl, rfl⟩ | ⟨a, len, cap, m, n, D, Pl, rfl, -, hl, -, hm, rfl, hel⟩
  · exact ⟨_, [], rfl, byts_nil _ _, by simp [Rows.uptoBulk]⟩
  · have hle : len ≤ m := by rw [hm]; split <;> omega
    have hcell : ∀ i, i < len → ∃ u : UInt8, w.cell? (a.add i) = some (.int .u8 u.toNat) := fun i hi => by
      obtain ⟨cs', h1, h2⟩ := hel i (by omega)
      obtain ⟨z, rfl, -, hw⟩ := DataW.trod_int Try.underlying5 h2
      rw [cellsOf5, Nat.mul_one] at h1
      have hb := bounds_u8 hw
      refine ⟨UInt8.ofNat z.toNat, ?_⟩
      rw [cell_of_cells?_one h1]
      congr 2
      simp
      omega
    refine ⟨_, (List.range len).map fun i => if hi : i < len then (hcell i hi).choose else 0, rfl, ⟨some a, cap, by simp, by simpa using hl, fun hne => ?_⟩, ?_⟩
    · have h0 : 0 < len := by
        rcases Nat.eq_zero_or_pos len with h | h
        · subst h; simp at hne
        · exact h
      obtain ⟨u0, h1⟩ := hcell 0 h0
      rw [addr_add0] at h1
      obtain ⟨b, o, sp⟩ := a
      have hsp : sp = none := cell_spot h1
      subst hsp
      refine ⟨b, o, rfl, World.block_lt_of_cell? w _ h1, fun i u hi => ?_⟩
      have hlt : i < len := by have := (List.getElem?_eq_some_iff.1 hi).1; simpa using this
      rw [List.getElem?_map, List.getElem?_range hlt] at hi
      simp only [Option.map_some, Option.some.injEq, dif_pos hlt] at hi
      have := (hcell i hlt).choose_spec
      rw [hi, add_mk] at this
      exact this
    · have := bulkAll_len ((List.range len).map D)
      simp only [List.length_map, List.length_range] at this
      simp only [List.length_map, List.length_range, Rows.uptoBulk]
      omega
theorem list4 {α : Type} : ∀ {l : List α}, l.length = 4 → ∃ a b c d, l = [a, b, c, d]
  | [a, b, c, d], _ => ⟨a, b, c, d, rfl⟩
theorem open_ent (h : DataW.trod enc Try.prog w 0 spare held fuel 25 cs = some x) (hb : Rows.uptoBulk x.1 ≤ 1048576) : ∃ e bv, cs = cellsOf e bv ∧ Byts (fun k => k < w.heap.size) w bv e.v ∧ EntOk e := by
  obtain ⟨y0, y1, y2, y3, n, rfl, hl, h0, h1, h2, h3⟩ := Go.Joins.trod_struct4 Try.underlying25 h
  rw [cellsOf25] at hl
  obtain ⟨c0, c1, c2, c3, rfl⟩ := list4 hl
  replace h0 : DataW.trod enc Try.prog w 0 spare held n 9 ((([c0, c1, c2, c3] : List Value).drop 0).take (Try.prog.cellsOf 9)) = some y0 := h0
  replace h1 : DataW.trod enc Try.prog w 0 spare held n 22 ((([c0, c1, c2, c3] : List Value).drop 1).take (Try.prog.cellsOf 22)) = some y1 := h1
  replace h2 : DataW.trod enc Try.prog w 0 spare held n 4 ((([c0, c1, c2, c3] : List Value).drop 2).take (Try.prog.cellsOf 4)) = some y2 := h2
  replace h3 : DataW.trod enc Try.prog w 0 spare held n 23 ((([c0, c1, c2, c3] : List Value).drop 3).take (Try.prog.cellsOf 23)) = some y3 := h3
  rw [cellsOf9] at h0; rw [cellsOf22] at h1; rw [cellsOf4] at h2; rw [cellsOf23] at h3
  obtain ⟨k, e0, rfl, -⟩ := DataW.trod_string Try.underlying9 h0
  obtain ⟨s, e1, rfl, hs⟩ := DataW.trod_int Try.underlying22 h1
  obtain ⟨g, e2, rfl⟩ := DataW.trod_bool Try.underlying4 h2
  obtain ⟨bv, l, e3, hby, hlen⟩ := open_bytes h3
  simp at e0 e1 e2 e3
  subst e0; subst e1; subst e2; subst e3
  have hsb := bounds_u64 hs
  have hk : k.data.toList.length = k.size := by simp
  simp only [Rows.uptoBulk, Rows.uptoBulkAll] at hb
  exact ⟨⟨k, s, g, l⟩, c3, rfl, hby, ⟨hsb.1, hsb.2, by simp only; omega, by simp only; omega⟩⟩
theorem open_row {v : Value} (h : DataW.trod enc Try.prog w 0 spare held fuel 26 cs = some x) (hcs : cs = [v]) (hb : Rows.uptoBulk x.1 ≤ 1048576) : ∃ es, Row (fun k => k < w.heap.size) w v es ∧ es.length ≤ 1048576 := by
  rcases Go.Deep.open_slice Try.underlying26 h with ⟨rfl, rfl⟩ | ⟨a, len, cap, m, n, D, Pl, rfl, -, hl, -, hm, rfl, hel⟩
  · cases hcs; exact ⟨[], row_nil _ _, by simp⟩
  · cases hcs
    have hle : len ≤ m := by rw [hm]; split <;> omega
    simp only [Rows.uptoBulk] at hb
    have hlen : len ≤ 1048576 := by have := bulkAll_len ((List.range len).map D); simp at this; omega
    have hent : ∀ i, i < len → ∃ e : Ent, ∃ bv, w.cells? 0 (a.add (i * 4)) 4 = some (cellsOf e bv) ∧ Byts (fun k => k < w.heap.size) w bv e.v ∧ EntOk e := fun i hi => by
      obtain ⟨cs', h1, h2⟩ := hel i (by omega)
      rw [cellsOf25] at h1
      have := bulkAll_mem ((List.range len).map D) (D i) (List.mem_map.2 ⟨i, List.mem_range.2 hi, rfl⟩)
      obtain ⟨e, bv, rfl, h3, h4⟩ := open_ent h2 (by simp only; omega)
      exact ⟨e, bv, h1, h3, h4⟩
    refine ⟨(List.range len).map fun i => if hi : i < len then (hent i hi).choose else z0, ⟨some a, cap, by simp, by simpa using hl, by simp; omega, fun e he => ?_, fun hne => ?_⟩, by simpa using hlen⟩
    · obtain ⟨i, hi, rfl⟩ := List.mem_map.1 he
      have hlt := List.mem_range.1 hi
      rw [dif_pos hlt]
      exact (hent i hlt).choose_spec.choose_spec.2.2
    · have h0 : 0 < len := by
        rcases Nat.eq_zero_or_pos len with h | h
        · subst h; simp at hne
        · exact h
      obtain ⟨e0, bv0, h1, -⟩ := hent 0 h0
      rw [Nat.zero_mul, addr_add0] at h1
      obtain ⟨hsp, hlt, -, -⟩ := cells_at h1 (by omega)
      obtain ⟨b, o, sp⟩ := a
      simp only at hsp hlt
      subst hsp
      refine ⟨b, o, rfl, hlt, fun i e hi => ?_⟩
      have hil : i < len := by have := (List.getElem?_eq_some_iff.1 hi).1; simpa using this
      rw [List.getElem?_map, List.getElem?_range hil] at hi
      simp only [Option.map_some, Option.some.injEq, dif_pos hil] at hi
      subst hi
      have h2 := (hent i hil).choose_spec
      generalize (hent i hil).choose = e1 at h2 ⊢
      obtain ⟨bv1, h3, h4, -⟩ := h2
      obtain ⟨-, -, -, hC⟩ := cells_at h3 (by omega)
      rw [add_mk] at hC
      exact ⟨_, hC, h4⟩
end

/-! ### the row of a law that holds -/
section
variable {H : Type} {enc : TypeId × Value → H} {P : Program} {W W' : World}
theorem trodAll_stays (hl : laidOutB P = true) (hb : Below W.heap.size W W') {sp : Nat → Bool} : ∀ (ts : List TypeId) (vs : List Value) (ds : List (DataW H)) (p : List MemPlace), (∀ t ∈ ts, P.readableRec t = true ∧ t < P.types.size) → (∀ x ∈ p, x.block < W.heap.size) → (∀ x ∈ p, sp x.block = true) →
    DataW.TrodAll enc P W 0 (fun _ => true) true ts vs ds p → DataW.TrodAll enc P W' 0 sp true ts vs ds p
  | [], vs, ds, p, _, _, _, h => by
    obtain ⟨rfl, rfl, rfl⟩ := trodAll_nil h
    exact trodAll_mk0
  | t :: ts, vs, ds, p, ht, hlt, hsp, h => by
    obtain ⟨v, vs', d, ds', p1, q, rfl, rfl, rfl, h1, h2⟩ := trodAll_cons h
    exact trodAll_cons_mk (WideElems.Trod_stays hl (ht t (by simp)).1 (ht t (by simp)).2 h1 (fun x hx => hb.same (hlt x (by simp [hx]))) (fun x hx => hsp x (by simp [hx])))
      (trodAll_stays hl hb ts vs' ds' q (fun t h => ht t (by simp [h])) (fun x hx => hlt x (by simp [hx])) (fun x hx => hsp x (by simp [hx])) h2)
end
end Go.Proofs.Ytblbddamebbgaaa.K

/- Lists of lists of entries: how they lie in memory. -/
namespace Go.Proofs.Ytblbddamebbgaaa.K
open Go Go.RowKit
set_option linter.unusedVariables false
set_option linter.unusedSectionVars false
set_option linter.unusedSimpArgs false

/-- The slice v holds the lists ls. -/
def LRow (A : Nat → Prop) (w : World) (v : Value) (ls : List (List Ent)) : Prop :=
  ∃ ad cap, v = .slice ad ls.length cap ∧ ls.length ≤ cap ∧ ls.length ≤ 1099511627776 ∧ (ls ≠ [] → ∃ b o, ad = some ⟨b, o, none⟩ ∧ A b ∧ ∀ (i : Nat) (l : List Ent), ls[i]? = some l → ∃ rv, Cells w b (o + i * 1) [rv] ∧ Row A w rv l)
/-- .. in a block of the call's own. -/
structure LOwn (A : Nat → Prop) (base : Nat) (w : World) (v : Value) (ls : List (List Ent)) : Prop where
  ex : ∃ vals, vals.length = ls.length ∧ w.ownsRow base 26 1 v ls.length vals ∧ ∀ (i : Nat) (l : List Ent) (u : Value), ls[i]? = some l → vals[i]? = some u → Row (fun k => A k ∧ some k ≠ v.ownBlock) w u l
  len : ls.length ≤ 1099511627776
section
variable {A A' : Nat → Prop} {base : Nat} {w w' : World} {v : Value} {ls : List (List Ent)}
theorem LRow.ck (h : LRow A w v ls) (hk : CK A w w') : LRow A w' v ls := by
  obtain ⟨ad, cap, rfl, h1, h2, h⟩ := h
  refine ⟨ad, cap, rfl, h1, h2, fun hne => ?_⟩
  obtain ⟨b, o, rfl, hA, hr⟩ := h hne
  exact ⟨b, o, rfl, hA, fun i l hi => by obtain ⟨rv, h3, h4⟩ := hr i l hi; exact ⟨rv, h3.ck hA hk, h4.ck hk⟩⟩
theorem LRow.ext (h : LRow A w v ls) (hk : Ext w w') : LRow A w' v ls := h.ck (CK.of_ext hk)
theorem LRow.mono (h : LRow A w v ls) (hA : ∀ k, k < w.heap.size → A k → A' k) : LRow A' w v ls := by
  obtain ⟨ad, cap, rfl, h1, h2, h⟩ := h
  refine ⟨ad, cap, rfl, h1, h2, fun hne => ?_⟩
  obtain ⟨b, o, rfl, hAb, hr⟩ := h hne
  have hb : b < w.heap.size := by
    cases ls with
    | nil => exact absurd rfl hne
    | cons e es =>
      obtain ⟨rv, hc, -⟩ := hr 0 e rfl
      exact World.block_lt_of_cell? w _ (hc 0 _ rfl)
  exact ⟨b, o, rfl, hA b hb hAb, fun i l hi => by obtain ⟨rv, h3, h4⟩ := hr i l hi; exact ⟨rv, h3, h4.mono hA⟩⟩
theorem LRow.form (h : LRow A w v ls) : ∃ ad cap, v = .slice ad ls.length cap ∧ ls.length ≤ cap ∧ ls.length ≤ 1099511627776 := by
  obtain ⟨ad, cap, rfl, h1, h2, -⟩ := h
  exact ⟨ad, cap, rfl, h1, h2⟩
theorem LRow.at (h : LRow A w v ls) (i : Nat) (hi : i < ls.length) : ∃ b o cap rv, v = .slice (some ⟨b, o, none⟩) ls.length cap ∧ A b ∧ Cells w b (o + i * 1) [rv] ∧ Row A w rv ls[i] := by
  obtain ⟨ad, cap, rfl, h1, h2, h⟩ := h
  obtain ⟨b, o, rfl, hA, hr⟩ := h (by intro e; rw [e] at hi; simp at hi)
  obtain ⟨rv, h4, h5⟩ := hr i ls[i] (List.getElem?_eq_getElem hi)
  exact ⟨b, o, cap, rv, rfl, hA, h4, h5⟩
theorem Row.one {es : List Ent} (h : Row A w v es) : v.oneCell' = true := by obtain ⟨ad, cap, rfl, -⟩ := h; rfl
theorem info26 : (Try.prog.info? 26).map (fun i => (i.zero, i.size, i.bytes)) = some (some (.slice none 0 0), 1, 24) := by kernel_rfl
theorem run_cloneL {b5 : Nat} {y : Value} {ty : TypeId} (hB : Blk w b5 [] 26) (hy : LRow A w y ls) (hA : ∀ k, A k → k ≠ b5) :
    ∃ v' w', (Builtin.append_ #[65, 65] ty #[.slice (some ⟨b5, 0, none⟩) 0 0, y]).run Try.prog w = .ok v' w' ∧ LOwn A b5 w' v' ls ∧ Keep (· ≠ b5) w w' ∧ (v'.ownBlock = some b5 ∨ ∃ b, v'.ownBlock = some b ∧ w.heap.size ≤ b) := by
  obtain ⟨i0, hi, hz0, hz1, hz2⟩ := info_parts info26
  obtain ⟨ad, cap, rfl, hcap, hlen, hcell⟩ := hy
  have hown : w.ownsRow b5 26 1 (.slice (some ⟨b5, 0, none⟩) 0 0) 0 [] := ⟨rfl, .inr ⟨b5, 0, #[], rfl, Nat.le_refl _, hB, Nat.le_refl _, Nat.zero_le _, rfl, rfl⟩⟩
  cases ad with
  | none =>
    have hl0 : ls = [] := by
      cases ls with
      | nil => rfl
      | cons u l => obtain ⟨b, o, h, -⟩ := hcell (by simp); cases h
    subst hl0
    refine ⟨.slice (some ⟨b5, 0, none⟩) 0 0, w, ?_, ⟨⟨[], rfl, hown, fun i l u h => by simp at h⟩, by simp⟩, Keep.refl _ _, .inl rfl⟩
    simp [Builtin.append_, run_underlying Try.underlying65, sizeOf, typeInfo, hi, Builtin.lenOf, Builtin.firstCells, storeCells]
  | some a0 =>
    have hv : ∀ i, i < ls.length → ∃ rv, w.cell? (a0.add i) = some rv ∧ ∀ l, ls[i]? = some l → Row A w rv l := fun i hlt => by
      obtain ⟨b, o, h, -, hc⟩ := hcell (by rintro rfl; simp at hlt)
      cases h
      obtain ⟨rv, h1, h2⟩ := hc i ls[i] (List.getElem?_eq_getElem hlt)
      refine ⟨rv, ?_, fun l hl => ?_⟩
      · have := h1 0 rv rfl
        rw [Nat.mul_one, Nat.add_zero] at this
        rw [add_mk]; exact this
      · rw [List.getElem?_eq_getElem hlt] at hl; cases hl; exact h2
    let vals := (List.range ls.length).map fun i => if h : i < ls.length then (hv i h).choose else undef
    have hvl : vals.length = ls.length := by simp [vals]
    have hvat : ∀ i u, vals[i]? = some u → w.cell? (a0.add i) = some u ∧ ∀ l, ls[i]? = some l → Row A w u l := fun i u hu => by
      have hlt : i < ls.length := by have := (List.getElem?_eq_some_iff.1 hu).1; omega
      simp only [vals, List.getElem?_map, List.getElem?_range hlt, Option.map_some, Option.some.injEq, dif_pos hlt] at hu
      have := (hv i hlt).choose_spec
      rw [hu] at this
      exact this
    have hone : ∀ u ∈ vals, u.oneCell' = true := fun u hu => by
      obtain ⟨i, hi'⟩ := List.getElem?_of_mem hu
      have hlt : i < ls.length := by have := (List.getElem?_eq_some_iff.1 hi').1; omega
      exact ((hvat i u hi').2 _ (List.getElem?_eq_getElem hlt)).one
    obtain ⟨v', w', hr, ho, hg, -, hat⟩ := run_append_own_at (P := Try.prog) w b5 65 ty 26 i0 _ 1 24 Try.underlying65 hi hz0 hz1 hz2 rfl (by decide) _ 0 [] hown a0 ls.length cap vals (by rw [hvl]; omega) (fun j u hj => (hvat j u hj).1)
      hone (by unfold maxLen; omega) (by omega) (Nat.le_of_lt hB.lt)
    rw [Nat.zero_add, List.nil_append] at ho
    have hk : Keep (· ≠ b5) w w' := (Keep.grown hg).mono fun k _ h => by intro e; cases e; exact h rfl
    have hcase : v'.ownBlock = some b5 ∨ ∃ b, v'.ownBlock = some b ∧ w.heap.size ≤ b := by
      rcases hat with e | e
      · exact .inl e
      · exact .inr ⟨_, e, Nat.le_refl _⟩
    refine ⟨v', w', hr, ⟨⟨vals, hvl, ho, fun i l u hi' hu => ?_⟩, hlen⟩, hk, hcase⟩
    have h0 := ((hvat i u hu).2 l hi').mono (A' := fun k => A k ∧ k < w.heap.size) (fun k hk h => ⟨h, hk⟩)
    refine (h0.ck (CK.of_keep hk fun k _ h => hA k h.1)).mono fun k _ h => ⟨h.1, ?_⟩
    rcases hcase with e | ⟨b, e, hb⟩
    · rw [e]; intro he; cases he; exact hA _ h.1 rfl
    · rw [e]; intro he; cases he; omega
theorem lown_nil (A : Nat → Prop) (base : Nat) (w : World) : LOwn A base w (.slice none 0 0) [] := ⟨⟨[], rfl, World.ownsRow_nil w base 26 1, fun i l u h => by simp at h⟩, by simp⟩
theorem lownsRow_ck {n : Nat} {xs : List Value} (h : w.ownsRow base 26 1 v n xs) (hk : ∀ b cs, v.ownBlock = some b → w.heap[b]? = some (.cells cs 26 (0, 0)) → w'.heap[b]? = some (.cells cs 26 (0, 0))) : w'.ownsRow base 26 1 v n xs := by
  refine ⟨h.1, ?_⟩
  rcases h.2 with ⟨h1, h2⟩ | ⟨g, cap, cur, rfl, hb, hg, h1⟩
  · exact .inl ⟨h1, h2⟩
  · exact .inr ⟨g, cap, cur, rfl, hb, hk g cur rfl hg, h1⟩
theorem LOwn.keep {S : Nat → Prop} (h : LOwn A base w v ls) (hk : Keep S w w') (hv : ∀ b, v.ownBlock = some b → S b) (hA : ∀ k, k < w.heap.size → A k → S k) : LOwn A base w' v ls := by
  obtain ⟨⟨vals, h1, h2, h3⟩, h4⟩ := h
  exact ⟨⟨vals, h1, lownsRow_ck h2 (fun b cs hb hc => (hk.block b (Array.getElem?_eq_some_iff.1 hc).1 (hv b hb)).trans hc), fun i l u hi hj => (h3 i l u hi hj).ck (CK.of_keep hk (fun k hk' h => hA k hk' h.1))⟩, h4⟩
theorem LOwn.ext (h : LOwn A base w v ls) (hk : Ext w w') : LOwn A base w' v ls := h.keep hk (fun _ _ => trivial) (fun _ _ _ => trivial)
theorem LOwn.lt (h : LOwn A base w v ls) : ∀ b, v.ownBlock = some b → base ≤ b ∧ b < w.heap.size := by obtain ⟨⟨vals, h1, h2, h3⟩, h4⟩ := h; exact h2.lt
theorem LOwn.form (h : LOwn A base w v ls) : ∃ ad cap, v = .slice ad ls.length cap := by
  obtain ⟨⟨vals, h1, h2, h3⟩, h4⟩ := h
  rcases h2.2 with ⟨rfl, h⟩ | ⟨g, cap, cur, rfl, -⟩
  · exact ⟨none, 0, by rw [h]⟩
  · exact ⟨_, cap, rfl⟩
/-- Element i. -/
theorem LOwn.at (h : LOwn A base w v ls) (i : Nat) (hi : i < ls.length) : ∃ b cap rv, v = .slice (some ⟨b, 0, none⟩) ls.length cap ∧ Cells w b (0 + i * 1) [rv] ∧ Row (fun k => A k ∧ some k ≠ v.ownBlock) w rv ls[i] := by
  obtain ⟨⟨vals, h1, h2, h3⟩, h4⟩ := h
  have hc := fun g => h2.cells (g := g)
  rcases h2.2 with ⟨rfl, h⟩ | ⟨g, cap, cur, rfl, hb, hg, -⟩
  · omega
  · have hvi : vals[i]? = some (vals[i]'(by omega)) := List.getElem?_eq_getElem _
    refine ⟨g, cap, _, rfl, fun j u hj => ?_, h3 i _ _ (List.getElem?_eq_getElem hi) hvi⟩
    have : j = 0 := by have := (List.getElem?_eq_some_iff.1 hj).1; simp at this; omega
    subst this
    simp at hj
    have h5 := hc g rfl i _ hvi
    rw [add_mk] at h5
    rw [Nat.mul_one, Nat.add_zero, h5]
    exact congrArg some hj
theorem lrow_of_blk {b : Nat} {vals : List Value} (hl : vals.length = ls.length) (hB : Blk w b vals 26) (hA : A b) (hr : ∀ (i : Nat) (l : List Ent) (u : Value), ls[i]? = some l → vals[i]? = some u → Row A w u l) (hn : ls.length ≤ 1099511627776) : LRow A w (.slice (some ⟨b, 0, none⟩) ls.length ls.length) ls :=
  ⟨_, _, rfl, Nat.le_refl _, hn, fun _ => ⟨b, 0, rfl, hA, fun i l hi => by
    have hlt := (List.getElem?_eq_some_iff.1 hi).1
    have hv : vals[i]? = some (vals[i]'(by omega)) := List.getElem?_eq_getElem _
    refine ⟨_, fun j u hj => ?_, hr i l _ hi hv⟩
    have : j = 0 := by have := (List.getElem?_eq_some_iff.1 hj).1; simp at this; omega
    subst this
    simp at hj
    subst hj
    rw [Nat.zero_add, Nat.mul_one, Nat.add_zero]
    exact hB.cell hv⟩⟩
def gOf (ad : Option Addr) : Nat := (ad.map (·.block)).getD 0
theorem LOwn.at2 {ad : Option Addr} {n cap : Nat} (h : LOwn A base w (.slice ad n cap) ls) (i : Nat) (hi : i < ls.length) : ∃ rv, ad = some ⟨gOf ad, 0, none⟩ ∧ Cells w (gOf ad) (0 + i * 1) [rv] ∧ Row (fun k => A k ∧ k ≠ gOf ad) w rv ls[i] := by
  obtain ⟨b, c, rv, e, h1, h2⟩ := h.at i hi
  cases e
  exact ⟨rv, rfl, h1, h2.mono fun k _ h => ⟨h.1, fun e => h.2 (by rw [e]; rfl)⟩⟩
theorem LOwn.blk (h : LOwn A base w v ls) : ∀ b, v.ownBlock = some b → ∃ cs, Blk w b cs 26 := by
  obtain ⟨⟨vals, h1, h2, h3⟩, h4⟩ := h
  intro b hb
  rcases h2.2 with ⟨rfl, _⟩ | ⟨g, cap, cur, rfl, -, hg, -⟩
  · cases hb
  · cases hb; exact ⟨cur.toList, by simpa [Blk] using hg⟩
/-- A list is put at place i. -/
theorem LOwn.put {ad : Option Addr} {n cap : Nat} (h : LOwn A base w (.slice ad n cap) ls) (i : Nat) (hi : i < ls.length) : ∃ cs, Blk w (gOf ad) cs 26 ∧ Nat.blt (0 + i * 1) cs.length = true ∧
    ∀ w' u l, Blk w' (gOf ad) (cs.set (0 + i * 1) u) 26 → Keep (· ≠ gOf ad) w w' → Row (fun k => A k ∧ k ≠ gOf ad) w' u l → LOwn A base w' (.slice ad n cap) (ls.set i l) := by
  obtain ⟨⟨vals, h1, h2, h3⟩, h4⟩ := h
  rcases h2.2 with ⟨he, h⟩ | ⟨g, c, cur, he, hb, hg, hc1, hc2, hc3, hc4⟩
  · omega
  · cases he
    refine ⟨cur.toList, by simpa [Blk, gOf] using hg, by simp; omega, fun w' u l hB hk hr => ⟨⟨vals.set i u, by simpa using h1, ⟨by simpa using h2.1, .inr ⟨g, cap, cur.setIfInBounds i u, by simp, hb, ?_, by simpa using hc1, hc2, by simpa using hc3, ?_⟩⟩, fun j l' u' hj hu => ?_⟩, by simpa using h4⟩⟩
    · have : (0 + i * 1) = i := by omega
      rw [this] at hB
      unfold Blk at hB
      show w'.heap[g]? = _
      rw [show gOf (some ⟨g, 0, none⟩) = g from rfl] at hB
      rw [hB, show (cur.toList.set i u).toArray = cur.setIfInBounds i u from by rw [← Array.toList_inj]; simp]
    · simp only [Array.toList_setIfInBounds, List.length_set]
      rw [List.take_set, hc4]
    · by_cases e : i = j
      · subst e
        rw [List.getElem?_set_self (by omega)] at hj hu
        cases hj; cases hu
        exact hr.mono fun k _ h => ⟨h.1, fun e => h.2 (by cases e; rfl)⟩
      · rw [List.getElem?_set_ne e] at hj hu
        exact ((h3 j l' u' hj hu).ck (CK.of_keep hk fun k _ h e => h.2 (by rw [e]; rfl)))
end
theorem Row.tail {A : Nat → Prop} {w : World} {a : Option Addr} {n c : Nat} {x : Ent} {t : List Ent} (h : Row A w (.slice a n c) (x :: t)) : Row A w (.slice (if c = 1 then a else a.map (·.add (1 * 4))) (n - 1) (c - 1)) t := by
  obtain ⟨ad', cap', e, h1, h2, h3, h⟩ := h
  cases e
  simp only [List.length_cons] at h1 h2
  refine ⟨_, _, by rw [List.length_cons, Nat.add_sub_cancel], by omega, by omega, fun y hy => h3 y (by simp [hy]), fun hne => ?_⟩
  obtain ⟨b, o, rfl, hA, hr⟩ := h (by simp)
  have ht : 0 < t.length := List.length_pos_iff.2 hne
  refine ⟨b, o + 1 * 4, by rw [if_neg (by omega)]; simp [add_mk], hA, fun i y hi => ?_⟩
  obtain ⟨bv, h4, h5⟩ := hr (i + 1) y (by simpa using hi)
  exact ⟨bv, by rw [show o + 1 * 4 + i * 4 = o + (i + 1) * 4 from by omega]; exact h4, h5⟩
section
variable {F : Fence} {n : Nat} {Q : Exit → Act → World → Prop} {m : Nat} {D : List Deferred} {L : Env} {w w' : World} {ops rest : List Oper} {d : Nat} {ty : TypeId} {pos : String} {af : Array Edge} {g : Option (Nat × Bool)} {x y : Operand}
theorem wl_cloneL {b5 : Nat} {v : Value} {ls : List (List Ent)} {A : Nat → Prop} (hW : Wd F) (hg : wants L ops g = some true) (hd : Nat.blt d m = true) (hx : ev L x = some (.slice (some ⟨b5, 0, none⟩) 0 0)) (hy : ev L y = some v)
    (hB : Blk w b5 [] 26) (hv : LRow A w v ls) (hA : ∀ k, A k → k ≠ b5) (k : ∀ v' w', LOwn A b5 w' v' ls → Keep (· ≠ b5) w w' → (v'.ownBlock = some b5 ∨ ∃ b, v'.ownBlock = some b ∧ w.heap.size ≤ b) → WL F n Try.prog Q m D ops rest ((d, v') :: L) w') :
    WL F n Try.prog Q m D ops (⟨some d, .call ⟨.builtin .append, #[x, y], #[65, 65]⟩, ty, pos, af, g⟩ :: rest) L w := by
  obtain ⟨v', w', hr, ho, hk, hc⟩ := run_cloneL (ty := ty) hB hv hA
  refine wl_val hW hg hd ⟨nofun, fun _ _ _ _ a h => ?_⟩ (k v' w' ho hk hc)
  simp [execOp, resolve, h.ev hx, h.ev hy, invoke, builtin, hr]
end
end Go.Proofs.Ytblbddamebbgaaa.K

/- The plain law of pruning: pruned again it stays; nothing changes of what may be seen. -/
namespace Go.Proofs.Ytblbddamebbgaaa.K
open Go Go.RowKit
set_option linter.unusedVariables false
set_option linter.unusedSectionVars false
set_option linter.unusedSimpArgs false

theorem seenG_cons_hit {up : Int} {e : Ent} {g : List Ent} (h : e.s ≤ up) : seenG up (e :: g) = if e.g then [] else [e] := by
  have : newestN up (e :: g) = 0 := by simp [newestN, h]
  simp [seenG, this]
theorem seenG_cons_miss {up : Int} {e : Ent} {g : List Ent} (h : ¬ e.s ≤ up) : seenG up (e :: g) = seenG up g := by
  have : newestN up (e :: g) = newestN up g + 1 := by simp [newestN, h]
  simp [seenG, this]
theorem leftN_cons_hit {keep : Int} {bottom : Bool} {e : Ent} {g : List Ent} (h : e.s ≤ keep) : leftN keep bottom (e :: g) = if e.g && bottom then 0 else 1 := by
  have : newestN keep (e :: g) = 0 := by simp [newestN, h]
  simp [leftN, this]
theorem leftN_cons_miss {keep : Int} {bottom : Bool} {e : Ent} {g : List Ent} (h : ¬ e.s ≤ keep) : leftN keep bottom (e :: g) = leftN keep bottom g + 1 := by
  have : newestN keep (e :: g) = newestN keep g + 1 := by simp [newestN, h]
  simp only [leftN, this, List.getElem?_cons_succ]
  split
  · split <;> rfl
  · rfl
theorem seenG_left {keep up : Int} {bottom : Bool} (hk : keep ≤ up) : ∀ g : List Ent, seenG up (g.take (leftN keep bottom g)) = seenG up g
  | [] => by simp
  | e :: g => by
    by_cases h : e.s ≤ keep
    · rw [leftN_cons_hit h, seenG_cons_hit (show e.s ≤ up by omega)]
      by_cases hg : (e.g && bottom) = true
      · rw [if_pos hg]
        have : e.g = true := by revert hg; cases e.g <;> simp
        simp [this, seenG]
      · rw [if_neg hg]
        simp only [List.take_succ_cons, List.take_zero]
        exact seenG_cons_hit (by omega)
    · rw [leftN_cons_miss h, List.take_succ_cons]
      by_cases h2 : e.s ≤ up
      · rw [seenG_cons_hit h2, seenG_cons_hit h2]
      · rw [seenG_cons_miss h2, seenG_cons_miss h2, seenG_left hk g]
theorem left_left {keep : Int} {bottom : Bool} : ∀ g : List Ent, (g.take (leftN keep bottom g)).take (leftN keep bottom (g.take (leftN keep bottom g))) = g.take (leftN keep bottom g)
  | [] => by simp
  | e :: g => by
    by_cases h : e.s ≤ keep
    · rw [leftN_cons_hit h]
      by_cases hg : (e.g && bottom) = true
      · rw [if_pos hg]; simp
      · rw [if_neg hg]
        simp only [List.take_succ_cons, List.take_zero]
        rw [leftN_cons_hit h, if_neg hg]
        simp
    · rw [leftN_cons_miss h, List.take_succ_cons, leftN_cons_miss h, List.take_succ_cons, left_left g]
theorem rLeft_sub (keep : Int) (bottom : Bool) : ∀ (pk : Option ByteArray) (d : Bool) (es : List Ent), (rLeft keep bottom pk d es).Sublist es
  | _, _, [] => by simp [rLeft]
  | pk, d, e :: es => by
    simp only [rLeft]
    split
    · exact (rLeft_sub keep bottom _ _ es).cons_cons e
    · split
      · exact (rLeft_sub keep bottom _ _ es).cons_cons e
      · exact (rLeft_sub keep bottom _ _ es).cons e
theorem rLeft_join (keep : Int) (bottom : Bool) {k : ByteArray} {h r : List Ent} (hk : ∀ e ∈ h, e.k = k) (hf : Fall h) (hr : ∀ e, r.head? = some e → e.k ≠ k) : rLeft keep bottom none false (h ++ r) = h.take (leftN keep bottom h) ++ rLeft keep bottom none false r := by
  cases h with
  | nil => simp
  | cons e h =>
    have he := hk e (by simp)
    rw [List.cons_append, rLeft_start, ← List.cons_append, he]
    obtain ⟨d, hd⟩ := rLeft_grp keep bottom k r (e :: h) hk hf
    rw [hd, rLeft_fresh keep bottom k d r hr]
theorem rSeen_join (up : Int) {k : ByteArray} {h r : List Ent} (hk : ∀ e ∈ h, e.k = k) (hr : ∀ e, r.head? = some e → e.k ≠ k) : rSeen up none false (h ++ r) = seenG up h ++ rSeen up none false r := by
  cases h with
  | nil => simp [seenG]
  | cons e h =>
    have he := hk e (by simp)
    rw [List.cons_append, rSeen_start, ← List.cons_append, he, rSeen_grp up k r (e :: h) hk, rSeen_fresh up k _ r hr]
/-- A sorted list: its first group, and the rest, which is of other keys. -/
theorem sorted_split {e : Ent} {es : List Ent} (hs : Sorted (e :: es)) : ∃ g r, e :: es = g ++ r ∧ g ≠ [] ∧ (∀ x ∈ g, x.k = e.k) ∧ (∀ x ∈ r, x.k ≠ e.k) ∧ Fall g ∧ Sorted r := by
  have happ := List.takeWhile_append_dropWhile (p := fun x : Ent => decide (x.k = e.k)) (l := es)
  have hall : ∀ x ∈ e :: es.takeWhile (fun x => decide (x.k = e.k)), x.k = e.k := fun x hx => by
    rcases List.mem_cons.1 hx with rfl | hx
    · rfl
    · exact grps_all x hx
  have hso2 : Sorted ((e :: es.takeWhile fun x => decide (x.k = e.k)) ++ es.dropWhile fun x => decide (x.k = e.k)) := by rw [List.cons_append, happ]; exact hs
  obtain ⟨hs1, hs2, hs3⟩ := List.pairwise_append.1 hso2
  refine ⟨_, _, by rw [List.cons_append, happ], by simp, hall, fun x hx hxk => ?_, fall_of hall hs1, hs2⟩
  cases hr : es.dropWhile (fun x => decide (x.k = e.k)) with
  | nil => rw [hr] at hx; simp at hx
  | cons y r =>
    have hy : y.k ≠ e.k := by simpa using head_drop (p := fun x => decide (x.k = e.k)) (e := y) es (by rw [hr]; rfl)
    rw [hr] at hx hs2
    have h1 := hs3 e (by simp) y (by rw [hr]; simp)
    have h2 : bl e.k.toList y.k.toList = true := by
      rcases h1 with h | ⟨h, -⟩
      · exact h
      · exact absurd h.symm hy
    rcases List.mem_cons.1 hx with rfl | hx
    · exact hy hxk
    · rcases (List.pairwise_cons.1 hs2).1 x hx with h | ⟨h, -⟩
      · have := bl_trans _ _ _ h2 h
        rw [hxk, bl_irrefl] at this; cases this
      · exact hy (by rw [h, hxk])
theorem head_mem {r : List Ent} {e : Ent} (h : r.head? = some e) : e ∈ r := List.mem_of_head? h
theorem prune_law {keep up : Int} {bottom : Bool} (hk : keep ≤ up) : ∀ (n : Nat) (es : List Ent), es.length ≤ n → Sorted es →
    rSeen up none false (rLeft keep bottom none false es) = rSeen up none false es ∧ rLeft keep bottom none false (rLeft keep bottom none false es) = rLeft keep bottom none false es
  | _, [], _, _ => ⟨rfl, rfl⟩
  | 0, e :: es, h, _ => by simp at h
  | n + 1, e :: es, h, hs => by
    obtain ⟨g, r, he, hg, hgk, hrk, hf, hsr⟩ := sorted_split hs
    have hl : r.length ≤ n := by
      have h1 := congrArg List.length he
      have h2 : 0 < g.length := List.length_pos_iff.2 hg
      simp only [List.length_cons, List.length_append] at h1 h
      omega
    obtain ⟨i1, i2⟩ := prune_law hk n r hl hsr
    have hrh : ∀ x, r.head? = some x → x.k ≠ e.k := fun x hx => hrk x (head_mem hx)
    have hrh' : ∀ x, (rLeft keep bottom none false r).head? = some x → x.k ≠ e.k := fun x hx => hrk x ((rLeft_sub keep bottom none false r).subset (head_mem hx))
    have hhk : ∀ x ∈ g.take (leftN keep bottom g), x.k = e.k := fun x hx => hgk x (List.mem_of_mem_take hx)
    have hhf : Fall (g.take (leftN keep bottom g)) := hf.sublist (List.take_sublist _ _)
    rw [he, rLeft_join keep bottom hgk hf hrh]
    constructor
    · rw [rSeen_join up hhk hrh', rSeen_join up hgk hrh, seenG_left hk, i1]
    · rw [rLeft_join keep bottom hhk hhf hrh', left_left, i2]
theorem left_right {keep : Int} {bottom : Bool} {es : List Ent} (h : rightB es = true) : rightB (leftL keep bottom es) = true := by
  obtain ⟨h1, h2⟩ := rightB_iff.1 h
  rw [← rLeft_is keep bottom es h2]
  have hs := rLeft_sub keep bottom none false es
  exact rightB_iff.2 ⟨fun e he => h1 e (hs.subset he), List.Pairwise.sublist hs h2⟩
theorem left_again {keep : Int} {bottom : Bool} {es : List Ent} (h : rightB es = true) : leftL keep bottom (leftL keep bottom es) = leftL keep bottom es := by
  have h2 := (rightB_iff.1 h).2
  have h3 := (rightB_iff.1 (left_right (keep := keep) (bottom := bottom) h)).2
  have := (prune_law (bottom := bottom) (Int.le_refl keep) es.length es (Nat.le_refl _) h2).2
  rw [rLeft_is keep bottom es h2, rLeft_is keep bottom _ h3] at this
  exact this
theorem seen_left {keep up : Int} {bottom : Bool} {es : List Ent} (hk : keep ≤ up) (h : rightB es = true) : seenL up es = seenL up (leftL keep bottom es) := by
  have h2 := (rightB_iff.1 h).2
  have := (prune_law (bottom := bottom) hk es.length es (Nat.le_refl _) h2).1
  rw [rLeft_is keep bottom es h2, rSeen_is, rSeen_is] at this
  exact this.symm
end Go.Proofs.Ytblbddamebbgaaa.K

/- The plain law of merging: what is merged is sorted, and of the same the first list's. -/
namespace Go.Proofs.Ytblbddamebbgaaa.K
open Go Go.RowKit
set_option linter.unusedVariables false
set_option linter.unusedSectionVars false
set_option linter.unusedSimpArgs false

theorem ltE_not_same {a b : Ent} (h : ltE a b) : ¬ sameE a b := by
  rintro ⟨h1, h2⟩
  rcases h with h | ⟨-, h⟩
  · rw [h1, bl_irrefl] at h; cases h
  · omega
theorem same_symm {a b : Ent} (h : sameE a b) : sameE b a := ⟨h.1.symm, h.2.symm⟩
theorem same_trans {a b c : Ent} (h : sameE a b) (h' : sameE b c) : sameE a c := ⟨h.1.trans h'.1, h.2.trans h'.2⟩
theorem ltE_same {a b c : Ent} (h : ltE a b) (h' : sameE b c) : ltE a c := by
  rcases h with h | ⟨h1, h2⟩
  · exact .inl (by rw [← h'.1]; exact h)
  · exact .inr ⟨h1.trans h'.1, by rw [← h'.2]; exact h2⟩
theorem same_ltE {a b c : Ent} (h : sameE a b) (h' : ltE b c) : ltE a c := by
  rcases h' with h' | ⟨h1, h2⟩
  · exact .inl (by rw [h.1]; exact h')
  · exact .inr ⟨h.1.trans h1, by rw [h.2]; exact h2⟩
theorem ltE_asymm {a b : Ent} (h : ltE a b) : ¬ ltE b a := fun h' => ltE_irrefl a (ltE_trans h h')
/-- A sorted list is known by its members. -/
theorem sorted_ext : ∀ (a b : List Ent), Sorted a → Sorted b → (∀ x, x ∈ a ↔ x ∈ b) → a = b
  | [], [], _, _, _ => rfl
  | [], y :: b, _, _, h => by have := (h y).2 (by simp); simp at this
  | x :: a, [], _, _, h => by have := (h x).1 (by simp); simp at this
  | x :: a, y :: b, ha, hb, h => by
    obtain ⟨ha1, ha2⟩ := List.pairwise_cons.1 ha
    obtain ⟨hb1, hb2⟩ := List.pairwise_cons.1 hb
    have hxy : x = y := by
      have h1 := (h x).1 (by simp)
      have h2 := (h y).2 (by simp)
      rcases List.mem_cons.1 h1 with h1 | h1
      · exact h1
      · rcases List.mem_cons.1 h2 with h2 | h2
        · exact h2.symm
        · exact absurd (hb1 x h1) (ltE_asymm (ha1 y h2))
    subst hxy
    congr 1
    refine sorted_ext a b ha2 hb2 fun z => ⟨fun hz => ?_, fun hz => ?_⟩
    · rcases List.mem_cons.1 ((h z).1 (List.mem_cons_of_mem _ hz)) with rfl | h'
      · exact absurd (ha1 z hz) (ltE_irrefl z)
      · exact h'
    · rcases List.mem_cons.1 ((h z).2 (List.mem_cons_of_mem _ hz)) with rfl | h'
      · exact absurd (hb1 z hz) (ltE_irrefl z)
      · exact h'
/-- x comes up in a list, and none before holds the same. -/
def Pri (ls : List (List Ent)) (x : Ent) : Prop := ∃ (i : Nat) (l : List Ent), ls[i]? = some l ∧ x ∈ l ∧ ∀ (j : Nat) (l' : List Ent), j < i → ls[j]? = some l' → ∀ y ∈ l', ¬ sameE y x
/-- The first list of those whose head is least: number bi, head e. -/
def FirstMin (ls : List (List Ent)) (bi : Nat) (e : Ent) : Prop := (∃ t, ls[bi]? = some (e :: t)) ∧ ∀ (j : Nat) (x : Ent) (t : List Ent), ls[j]? = some (x :: t) → ¬ ltE x e ∧ (j < bi → ¬ sameE x e)
def dropS (e : Ent) (l : List Ent) : List Ent := l.dropWhile fun x => decide (cmpE x e = 0)
inductive MRel : List (List Ent) → List Ent → Prop
  | done (ls : List (List Ent)) (h : ∀ l ∈ ls, l = []) : MRel ls []
  | step (ls : List (List Ent)) (bi : Nat) (e : Ent) (M : List Ent) (h : FirstMin ls bi e) (h' : MRel (ls.map (dropS e)) M) : MRel ls (e :: M)
theorem dropS_nil (e : Ent) : dropS e [] = [] := rfl
theorem dropS_same {e x : Ent} {t : List Ent} (h : sameE x e) : dropS e (x :: t) = dropS e t := by simp [dropS, cmpE_zero.2 h]
theorem dropS_diff {e x : Ent} {t : List Ent} (h : ¬ sameE x e) : dropS e (x :: t) = x :: t := by
  have : ¬ cmpE x e = 0 := fun h' => h (cmpE_zero.1 h')
  simp [dropS, this]
/-- In a sorted list whose head isn't less than e: what is left is what is more than e. -/
theorem dropS_sorted {e : Ent} {l : List Ent} (hs : Sorted l) (hm : ∀ x t, l = x :: t → ¬ ltE x e) : Sorted (dropS e l) ∧ (∀ x, x ∈ dropS e l ↔ x ∈ l ∧ ltE e x) ∧ (∀ x ∈ l, sameE x e → ∃ t, l = x :: t) := by
  cases l with
  | nil => exact ⟨by rw [dropS_nil]; exact List.Pairwise.nil, by simp [dropS_nil], by simp⟩
  | cons y t =>
    obtain ⟨h1, h2⟩ := List.pairwise_cons.1 hs
    have hy := hm y t rfl
    by_cases hsm : sameE y e
    · have hgt : ∀ x ∈ t, ltE e x := fun x hx => same_ltE (same_symm hsm) (h1 x hx)
      have hd : dropS e (y :: t) = t := by
        rw [dropS_same hsm]
        cases t with
        | nil => rfl
        | cons z t => exact dropS_diff fun h => ltE_not_same (hgt z (by simp)) (same_symm h)
      rw [hd]
      refine ⟨h2, fun x => ⟨fun hx => ⟨by simp [hx], hgt x hx⟩, fun ⟨hx, hlt⟩ => ?_⟩, fun x hx hxe => ?_⟩
      · rcases List.mem_cons.1 hx with rfl | hx
        · exact absurd (same_symm hsm) (ltE_not_same hlt)
        · exact hx
      · rcases List.mem_cons.1 hx with rfl | hx
        · exact ⟨t, rfl⟩
        · exact absurd (same_symm hxe) (ltE_not_same (hgt x hx))
    · have hgt : ltE e y := by
        rcases ltE_total y e with h | h | h
        · exact absurd h hy
        · exact absurd h hsm
        · exact h
      rw [dropS_diff hsm]
      have hall : ∀ x ∈ y :: t, ltE e x := fun x hx => by
        rcases List.mem_cons.1 hx with rfl | hx
        · exact hgt
        · exact ltE_trans hgt (h1 x hx)
      exact ⟨hs, fun x => ⟨fun hx => ⟨hx, hall x hx⟩, fun h => h.1⟩, fun x hx hxe => absurd (same_symm hxe) (ltE_not_same (hall x hx))⟩
theorem mrel_law {ls : List (List Ent)} {M : List Ent} (h : MRel ls M) : (∀ l ∈ ls, Sorted l) → Sorted M ∧ ∀ x, x ∈ M ↔ Pri ls x := by
  induction h with
  | done ls h =>
    intro _
    refine ⟨List.Pairwise.nil, fun x => ⟨fun hx => by simp at hx, fun ⟨i, l, hl, hx, _⟩ => ?_⟩⟩
    rw [h l (List.mem_of_getElem? hl)] at hx
    simp at hx
  | step ls bi e M hf hr ih =>
    intro hs
    obtain ⟨⟨tb, hb⟩, hmin⟩ := hf
    have hd : ∀ (i : Nat) (l : List Ent), ls[i]? = some l → Sorted (dropS e l) ∧ (∀ x, x ∈ dropS e l ↔ x ∈ l ∧ ltE e x) ∧ (∀ x ∈ l, sameE x e → ∃ t, l = x :: t) := fun i l hl =>
      dropS_sorted (hs l (List.mem_of_getElem? hl)) fun x t e' => (hmin i x t (by rw [hl, e'])).1
    obtain ⟨i1, i2⟩ := ih (fun l hl => by
      obtain ⟨l0, hl0, rfl⟩ := List.mem_map.1 hl
      obtain ⟨i, hi⟩ := List.getElem?_of_mem hl0
      exact (hd i l0 hi).1)
    have hgt : ∀ x, x ∈ M → ltE e x := fun x hx => by
      obtain ⟨i, l, hl, hxl, -⟩ := (i2 x).1 hx
      rw [List.getElem?_map] at hl
      cases hli : ls[i]? with
      | none => rw [hli] at hl; simp at hl
      | some l0 =>
        rw [hli] at hl
        simp at hl
        subst hl
        exact (((hd i l0 hli).2.1 x).1 hxl).2
    have hpe : Pri ls e := ⟨bi, _, hb, by simp, fun j l' hj hl' y hy hye => by
      obtain ⟨t, ht⟩ := (hd j l' hl').2.2 y hy hye
      exact (hmin j y t (by rw [hl', ht])).2 hj hye⟩
    refine ⟨List.pairwise_cons.2 ⟨hgt, i1⟩, fun x => ⟨fun hx => ?_, fun hx => ?_⟩⟩
    · rcases List.mem_cons.1 hx with rfl | hx
      · exact hpe
      · have hlt := hgt x hx
        obtain ⟨i, l, hl, hxl, hno⟩ := (i2 x).1 hx
        rw [List.getElem?_map] at hl
        cases hli : ls[i]? with
        | none => rw [hli] at hl; simp at hl
        | some l0 =>
          rw [hli] at hl
          simp at hl
          subst hl
          refine ⟨i, l0, hli, (((hd i l0 hli).2.1 x).1 hxl).1, fun j l' hj hl' y hy hyx => ?_⟩
          refine hno j (dropS e l') hj (by rw [List.getElem?_map, hl']; rfl) y (((hd j l' hl').2.1 y).2 ⟨hy, ltE_same hlt (same_symm hyx)⟩) hyx
    · obtain ⟨i, l, hl, hxl, hno⟩ := hx
      by_cases hxe : sameE x e
      · have hij : i = bi := by
          rcases Nat.lt_trichotomy i bi with h | h | h
          · obtain ⟨t, ht⟩ := (hd i l hl).2.2 x hxl hxe
            exact absurd hxe ((hmin i x t (by rw [hl, ht])).2 h)
          · exact h
          · exact absurd (same_symm hxe) (hno bi _ h hb e (by simp))
        subst hij
        rw [hb] at hl
        cases hl
        obtain ⟨t, ht⟩ := (hd i _ hb).2.2 x hxl hxe
        cases ht
        simp
      · refine List.mem_cons_of_mem _ ((i2 x).2 ⟨i, dropS e l, by rw [List.getElem?_map, hl]; rfl, ?_, fun j l' hj hl' y hy hyx => ?_⟩)
        · refine ((hd i l hl).2.1 x).2 ⟨hxl, ?_⟩
          cases hlc : l with
          | nil => rw [hlc] at hxl; simp at hxl
          | cons z t =>
            have hz := (hmin i z t (by rw [hl, hlc])).1
            have hxz : x = z ∨ ltE z x := by
              rw [hlc] at hxl
              rcases List.mem_cons.1 hxl with h | h
              · exact .inl h
              · have := hs l (List.mem_of_getElem? hl)
                rw [hlc] at this
                exact .inr ((List.pairwise_cons.1 this).1 x h)
            rcases ltE_total x e with h | h | h
            · rcases hxz with rfl | hzx
              · exact absurd h hz
              · exact absurd (ltE_trans hzx h) hz
            · exact absurd h hxe
            · exact h
        · rw [List.getElem?_map] at hl'
          cases hlj : ls[j]? with
          | none => rw [hlj] at hl'; simp at hl'
          | some l0 =>
            rw [hlj] at hl'
            simp at hl'
            subst hl'
            exact hno j l0 hj hlj y (((hd j l0 hlj).2.1 y).1 hy).1 hyx

/-! ### the document's: two lists as one, of the same the first one's -/
def twoF : Nat → List Ent → List Ent → List Ent
  | 0, _, _ => []
  | _ + 1, [], [] => []
  | n + 1, [], y :: b => y :: twoF n [] b
  | n + 1, x :: a, [] => x :: twoF n a []
  | n + 1, x :: a, y :: b => if cmpE x y ≤ 0 then x :: twoF n a (if cmpE x y = 0 then b else y :: b) else y :: twoF n (x :: a) b
theorem twoF_nil_left : ∀ (n : Nat) (b : List Ent), b.length ≤ n → twoF n [] b = b
  | 0, [], _ => rfl
  | 0, y :: b, h => by simp at h
  | n + 1, [], _ => rfl
  | n + 1, y :: b, h => by simp only [twoF]; rw [twoF_nil_left n b (by simpa using h)]
theorem twoF_nil_right : ∀ (n : Nat) (a : List Ent), a.length ≤ n → twoF n a [] = a
  | 0, [], _ => rfl
  | 0, y :: b, h => by simp at h
  | n + 1, [], _ => rfl
  | n + 1, y :: b, h => by simp only [twoF]; rw [twoF_nil_right n b (by simpa using h)]
theorem cmpE_le {x y : Ent} : cmpE x y ≤ 0 ↔ ltE x y ∨ sameE x y := by
  rw [← cmpE_neg, ← cmpE_zero]; omega
theorem two_law : ∀ (n : Nat) (a b : List Ent), a.length + b.length ≤ n → Sorted a → Sorted b → Sorted (twoF n a b) ∧ ∀ x, x ∈ twoF n a b ↔ x ∈ a ∨ (x ∈ b ∧ ∀ y ∈ a, ¬ sameE y x)
  | 0, [], [], _, _, _ => by simp [twoF, Sorted]
  | 0, x :: a, _, h, _, _ => by simp at h
  | 0, [], y :: b, h, _, _ => by simp at h
  | n + 1, [], b, h, _, hb => by rw [twoF_nil_left _ _ (by simpa using h)]; exact ⟨hb, by simp⟩
  | n + 1, x :: a, [], h, ha, _ => by rw [twoF_nil_right _ _ (by simpa using h)]; exact ⟨ha, by simp⟩
  | n + 1, x :: a, y :: b, h, ha, hb => by
    obtain ⟨ha1, ha2⟩ := List.pairwise_cons.1 ha
    obtain ⟨hb1, hb2⟩ := List.pairwise_cons.1 hb
    simp only [List.length_cons] at h
    simp only [twoF]
    by_cases hle : cmpE x y ≤ 0
    · rw [if_pos hle]
      by_cases heq : cmpE x y = 0
      · rw [if_pos heq]
        have hxy := cmpE_zero.1 heq
        obtain ⟨i1, i2⟩ := two_law n a b (by omega) ha2 hb2
        refine ⟨List.pairwise_cons.2 ⟨fun z hz => ?_, i1⟩, fun z => ?_⟩
        · rcases (i2 z).1 hz with h' | ⟨h', -⟩
          · exact ha1 z h'
          · exact same_ltE hxy (hb1 z h')
        · rw [List.mem_cons, i2, List.mem_cons]
          constructor
          · rintro (rfl | h' | ⟨h', hn⟩)
            · exact .inl (.inl rfl)
            · exact .inl (.inr h')
            · refine .inr ⟨List.mem_cons_of_mem _ h', fun w hw => ?_⟩
              rcases List.mem_cons.1 hw with rfl | hw
              · exact fun hwz => ltE_not_same (hb1 z h') (same_trans (same_symm hxy) hwz)
              · exact hn w hw
          · rintro ((rfl | h') | ⟨h', hn⟩)
            · exact .inl rfl
            · exact .inr (.inl h')
            · rcases List.mem_cons.1 h' with rfl | h'
              · exact absurd hxy (hn x (by simp))
              · exact .inr (.inr ⟨h', fun w hw => hn w (List.mem_cons_of_mem _ hw)⟩)
      · rw [if_neg heq]
        have hxy : ltE x y := by rcases cmpE_le.1 hle with h' | h'; exact h'; exact absurd (cmpE_zero.2 h') heq
        obtain ⟨i1, i2⟩ := two_law n a (y :: b) (by simp only [List.length_cons]; omega) ha2 hb
        have hgt : ∀ z ∈ y :: b, ltE x z := fun z hz => by
          rcases List.mem_cons.1 hz with rfl | hz
          · exact hxy
          · exact ltE_trans hxy (hb1 z hz)
        refine ⟨List.pairwise_cons.2 ⟨fun z hz => ?_, i1⟩, fun z => ?_⟩
        · rcases (i2 z).1 hz with h' | ⟨h', -⟩
          · exact ha1 z h'
          · exact hgt z h'
        · rw [List.mem_cons, i2, List.mem_cons (a := z) (b := x)]
          constructor
          · rintro (rfl | h' | ⟨h', hn⟩)
            · exact .inl (.inl rfl)
            · exact .inl (.inr h')
            · refine .inr ⟨h', fun w hw => ?_⟩
              rcases List.mem_cons.1 hw with rfl | hw
              · exact ltE_not_same (hgt z h')
              · exact hn w hw
          · rintro ((rfl | h') | ⟨h', hn⟩)
            · exact .inl rfl
            · exact .inr (.inl h')
            · exact .inr (.inr ⟨h', fun w hw => hn w (List.mem_cons_of_mem _ hw)⟩)
    · rw [if_neg hle]
      have hyx : ltE y x := by
        rcases ltE_total x y with h' | h' | h'
        · exact absurd (cmpE_le.2 (.inl h')) hle
        · exact absurd (cmpE_le.2 (.inr h')) hle
        · exact h'
      obtain ⟨i1, i2⟩ := two_law n (x :: a) b (by simp only [List.length_cons]; omega) ha hb2
      have hgt : ∀ z ∈ x :: a, ltE y z := fun z hz => by
        rcases List.mem_cons.1 hz with rfl | hz
        · exact hyx
        · exact ltE_trans hyx (ha1 z hz)
      refine ⟨List.pairwise_cons.2 ⟨fun z hz => ?_, i1⟩, fun z => ?_⟩
      · rcases (i2 z).1 hz with h' | ⟨h', -⟩
        · exact hgt z h'
        · exact hb1 z h'
      · rw [List.mem_cons, i2, List.mem_cons (a := z) (b := y)]
        constructor
        · rintro (rfl | h' | ⟨h', hn⟩)
          · exact .inr ⟨.inl rfl, fun w hw hwz => ltE_not_same (hgt w hw) (same_symm hwz)⟩
          · exact .inl h'
          · exact .inr ⟨.inr h', hn⟩
        · rintro (h' | ⟨rfl | h', hn⟩)
          · exact .inr (.inl h')
          · exact .inl rfl
          · exact .inr (.inr ⟨h', hn⟩)
theorem pri_cons {l : List Ent} {ls : List (List Ent)} {x : Ent} : Pri (l :: ls) x ↔ x ∈ l ∨ ((∀ y ∈ l, ¬ sameE y x) ∧ Pri ls x) := by
  constructor
  · rintro ⟨i, l', hl, hx, hno⟩
    cases i with
    | zero => simp at hl; subst hl; exact .inl hx
    | succ i => exact .inr ⟨hno 0 l (by omega) rfl, i, l', by simpa using hl, hx, fun j l'' hj hl'' => hno (j + 1) l'' (by omega) (by simpa using hl'')⟩
  · rintro (h | ⟨h, i, l', hl, hx, hno⟩)
    · exact ⟨0, l, rfl, h, fun j l' hj => absurd hj (Nat.not_lt_zero _)⟩
    · refine ⟨i + 1, l', by simpa using hl, hx, fun j l'' hj hl'' => ?_⟩
      cases j with
      | zero => simp at hl''; subst hl''; exact h
      | succ j => exact hno j l'' (by omega) (by simpa using hl'')
theorem pri_nil {x : Ent} : ¬ Pri [] x := by rintro ⟨i, l, h, -⟩; simp at h
def foldTwo : List Ent → List (List Ent) → List Ent
  | acc, [] => acc
  | acc, l :: ls => foldTwo (twoF (acc.length + l.length) acc l) ls
theorem fold_law : ∀ (ls : List (List Ent)) (acc : List Ent), Sorted acc → (∀ l ∈ ls, Sorted l) → Sorted (foldTwo acc ls) ∧ ∀ x, x ∈ foldTwo acc ls ↔ Pri (acc :: ls) x
  | [], acc, ha, _ => ⟨ha, fun x => by rw [pri_cons]; simp [foldTwo, pri_nil]⟩
  | l :: ls, acc, ha, h => by
    obtain ⟨t1, t2⟩ := two_law _ acc l (Nat.le_refl _) ha (h l (by simp))
    obtain ⟨i1, i2⟩ := fold_law ls _ t1 fun l' hl' => h l' (by simp [hl'])
    refine ⟨i1, fun x => ?_⟩
    show x ∈ foldTwo _ ls ↔ _
    rw [i2, pri_cons, pri_cons, pri_cons, t2]
    constructor
    · rintro ((h' | ⟨h', hn⟩) | ⟨hn, hp⟩)
      · exact .inl h'
      · exact .inr ⟨hn, .inl h'⟩
      · have h1 : ∀ y ∈ acc, ¬ sameE y x := fun y hy => hn y ((t2 y).2 (.inl hy))
        refine .inr ⟨h1, .inr ⟨fun y hy hyx => ?_, hp⟩⟩
        refine hn y ((t2 y).2 (.inr ⟨hy, fun z hz hzy => h1 z hz (same_trans hzy hyx)⟩)) hyx
    · rintro (h' | ⟨hn, h' | ⟨hn2, hp⟩⟩)
      · exact .inl (.inl h')
      · exact .inl (.inr ⟨h', hn⟩)
      · refine .inr ⟨fun y hy => ?_, hp⟩
        rcases (t2 y).1 hy with h' | ⟨h', -⟩
        · exact hn y h'
        · exact hn2 y h'
theorem merge_is {ls : List (List Ent)} {M : List Ent} (h : MRel ls M) (hs : ∀ l ∈ ls, Sorted l) : M = foldTwo [] ls := by
  obtain ⟨h1, h2⟩ := mrel_law h hs
  obtain ⟨h3, h4⟩ := fold_law ls [] List.Pairwise.nil hs
  refine sorted_ext _ _ h1 h3 fun x => ?_
  rw [h2, h4, pri_cons]
  simp

theorem twoF_len : ∀ (n : Nat) (a b : List Ent), (twoF n a b).length ≤ n
  | 0, _, _ => by simp [twoF]
  | n + 1, [], [] => by simp [twoF]
  | n + 1, [], y :: b => by simp only [twoF, List.length_cons]; have := twoF_len n [] b; omega
  | n + 1, x :: a, [] => by simp only [twoF, List.length_cons]; have := twoF_len n a []; omega
  | n + 1, x :: a, y :: b => by
    simp only [twoF]
    split
    · simp only [List.length_cons]; have := twoF_len n a (if cmpE x y = 0 then b else y :: b); omega
    · simp only [List.length_cons]; have := twoF_len n (x :: a) b; omega
/-- What two compares at places i and k. -/
def twoC (a b : List Ent) (i k : Nat) : Int := if i = a.length then 1 else if k = b.length then -1 else cmpE (a.getD i z0) (b.getD k z0)
theorem twoC_le {a b : List Ent} {i k : Nat} (hi : i ≤ a.length) (h : twoC a b i k ≤ 0) : i < a.length := by
  by_cases e : i = a.length
  · unfold twoC at h; rw [if_pos e] at h; omega
  · omega
theorem twoC_gt {a b : List Ent} {i k : Nat} (hk : k ≤ b.length) (hc : i < a.length ∨ k < b.length) (h : ¬ twoC a b i k ≤ 0) : k < b.length := by
  by_cases e : k = b.length
  · by_cases e2 : i = a.length
    · omega
    · unfold twoC at h; rw [if_neg e2, if_pos e] at h; omega
  · omega
theorem two_less {a b : List Ent} {i k n : Nat} (hi : i < a.length) (hk : k ≤ b.length) (h : twoC a b i k ≤ 0) (h0 : twoC a b i k ≠ 0) : twoF (n + 1) (a.drop i) (b.drop k) = a[i] :: twoF n (a.drop (i + 1)) (b.drop k) := by
  unfold twoC at h h0
  rw [if_neg (by omega)] at h h0
  rw [drop_at hi]
  by_cases e : k = b.length
  · rw [List.drop_eq_nil_of_le (show b.length ≤ k by omega)]; simp only [twoF]
  · have hk' : k < b.length := by omega
    rw [if_neg e, getD_eq hi, getD_eq hk'] at h h0
    rw [drop_at hk']
    simp only [twoF]
    rw [if_pos h, if_neg h0]
theorem two_both {a b : List Ent} {i k n : Nat} (hi : i < a.length) (hk : k ≤ b.length) (h0 : twoC a b i k = 0) : k < b.length ∧ twoF (n + 1) (a.drop i) (b.drop k) = a[i] :: twoF n (a.drop (i + 1)) (b.drop (k + 1)) := by
  unfold twoC at h0
  rw [if_neg (by omega)] at h0
  by_cases e : k = b.length
  · rw [if_pos e] at h0; omega
  · have hk' : k < b.length := by omega
    rw [if_neg e, getD_eq hi, getD_eq hk'] at h0
    rw [drop_at hi, drop_at hk']
    simp only [twoF]
    rw [if_pos (by omega), if_pos h0]
    exact ⟨hk', rfl⟩
theorem two_more {a b : List Ent} {i k n : Nat} (hi : i ≤ a.length) (hk : k < b.length) (h : ¬ twoC a b i k ≤ 0) : twoF (n + 1) (a.drop i) (b.drop k) = b[k] :: twoF n (a.drop i) (b.drop (k + 1)) := by
  unfold twoC at h
  rw [drop_at hk]
  by_cases e : i = a.length
  · rw [List.drop_eq_nil_of_le (show a.length ≤ i by omega)]; simp only [twoF]
  · have hi' : i < a.length := by omega
    rw [if_neg e, if_neg (by omega), getD_eq hi', getD_eq hk] at h
    rw [drop_at hi']
    simp only [twoF]
    rw [if_neg h]
theorem two_end (n : Nat) {a b : List Ent} {i k : Nat} (hi : ¬ i < a.length) (hk : ¬ k < b.length) : twoF n (a.drop i) (b.drop k) = [] := by
  rw [List.drop_eq_nil_of_le (by omega), List.drop_eq_nil_of_le (by omega)]
  cases n <;> rfl

/-! ### what the loops of together hold -/
def tot : List (List Ent) → Nat
  | [] => 0
  | l :: ls => l.length + tot ls
theorem tot_le {ls ms : List (List Ent)} : ∀ (f : List Ent → List Ent), (∀ l, (f l).length ≤ l.length) → tot (ls.map f) ≤ tot ls := fun f hf => by
  induction ls with
  | nil => simp [tot]
  | cons l ls ih => simp only [List.map_cons, tot]; have := hf l; omega
theorem dropS_len (e : Ent) (l : List Ent) : (dropS e l).length ≤ l.length := by
  have := congrArg List.length (List.takeWhile_append_dropWhile (p := fun x : Ent => decide (cmpE x e = 0)) (l := l))
  simp only [List.length_append] at this
  unfold dropS; omega
theorem tot_lt {e : Ent} {t : List Ent} : ∀ {ls : List (List Ent)} {i : Nat}, ls[i]? = some (e :: t) → tot (ls.map (dropS e)) < tot ls
  | [], i, h => by simp at h
  | l :: ls, 0, h => by
    simp at h; subst h
    simp only [List.map_cons, tot]
    rw [dropS_same ⟨rfl, rfl⟩]
    have h1 := dropS_len e t
    have h2 := tot_le (ls := ls) (ms := []) (dropS e) (dropS_len e)
    simp only [List.length_cons]; omega
  | l :: ls, i + 1, h => by
    simp only [List.map_cons, tot]
    have h1 := dropS_len e l
    have h2 := tot_lt (ls := ls) (i := i) (by simpa using h)
    omega
/-- The best of the first s lists: b = -1: none. -/
def BestI (cur : List (List Ent)) (s : Nat) (b : Int) : Prop :=
  (b = -1 ∧ ∀ (j : Nat) (l : List Ent), j < s → cur[j]? = some l → l = []) ∨ ∃ (bi : Nat) (e : Ent) (t : List Ent), b = bi ∧ bi < s ∧ cur[bi]? = some (e :: t) ∧ ∀ (j : Nat) (x : Ent) (t' : List Ent), j < s → cur[j]? = some (x :: t') → ¬ ltE x e ∧ (j < bi → ¬ sameE x e)
/-- Is list s better? -/
def takeB (cur : List (List Ent)) (s : Nat) (b : Int) : Bool := match cur.getD s [] with
  | [] => false
  | x :: _ => decide (b < 0) || (match cur.getD b.toNat [] with
    | [] => false
    | e :: _ => decide (cmpE x e < 0))
theorem getD_l {cur : List (List Ent)} {s : Nat} (h : s < cur.length) : cur.getD s [] = cur[s] := by rw [List.getD_eq_getElem?_getD, List.getElem?_eq_getElem h]; rfl
theorem takeB_nil {cur : List (List Ent)} {s : Nat} {b : Int} (h : s < cur.length) (hn : cur[s] = []) : takeB cur s b = false := by unfold takeB; rw [getD_l h, hn]
theorem takeB_first {cur : List (List Ent)} {s : Nat} {b : Int} (h : s < cur.length) (hn : 0 < cur[s].length) (hb : b < 0) : takeB cur s b = true := by
  unfold takeB; rw [getD_l h]
  cases hc : cur[s] with
  | nil => rw [hc] at hn; simp at hn
  | cons x t => simp [hb]
theorem takeB_cmp {cur : List (List Ent)} {s bi : Nat} {x e : Ent} {t t' : List Ent} (h : s < cur.length) (h2 : bi < cur.length) (hx : cur[s] = x :: t) (he : cur[bi] = e :: t') : takeB cur s (bi : Int) = decide (cmpE x e < 0) := by
  unfold takeB; rw [getD_l h, Int.toNat_natCast, getD_l h2, hx, he]
  have : ¬ ((bi : Int) < 0) := by omega
  simp [this]
theorem takeB_cmp' {cur : List (List Ent)} {s bi : Nat} (h : s < cur.length) (h2 : bi < cur.length) (hn : 0 < cur[s].length) (hn2 : 0 < cur[bi].length) : takeB cur s (bi : Int) = decide (cmpE (cur[s][0]) (cur[bi][0]) < 0) :=
  takeB_cmp (t := cur[s].drop 1) (t' := cur[bi].drop 1) h h2 (by have := List.drop_eq_getElem_cons (l := cur[s]) hn; simpa using this) (by have := List.drop_eq_getElem_cons (l := cur[bi]) hn2; simpa using this)
theorem best_start (cur : List (List Ent)) : BestI cur 0 (-1) := .inl ⟨rfl, fun j l h => absurd h (Nat.not_lt_zero _)⟩
theorem best_still {cur : List (List Ent)} {s : Nat} {b : Int} (hs : s < cur.length) (h : BestI cur s b) (ht : takeB cur s b = false) : BestI cur (s + 1) b := by
  rcases h with ⟨rfl, h⟩ | ⟨bi, e, t, rfl, hb, hc, h⟩
  · refine .inl ⟨rfl, fun j l hj hl => ?_⟩
    rcases Nat.lt_succ_iff_lt_or_eq.1 hj with hj | rfl
    · exact h j l hj hl
    · rw [List.getElem?_eq_getElem hs] at hl
      cases hl
      cases hc : cur[j] with
      | nil => rfl
      | cons x t => rw [takeB_first hs (by rw [hc]; simp) (by omega)] at ht; cases ht
  · refine .inr ⟨bi, e, t, rfl, by omega, hc, fun j x t' hj hl => ?_⟩
    rcases Nat.lt_succ_iff_lt_or_eq.1 hj with hj | rfl
    · exact h j x t' hj hl
    · refine ⟨fun hlt => ?_, fun h' => by omega⟩
      have hbl : bi < cur.length := (List.getElem?_eq_some_iff.1 hc).1
      rw [List.getElem?_eq_getElem hs] at hl
      rw [List.getElem?_eq_getElem hbl] at hc
      have h1 : cur[j] = x :: t' := by simpa using hl
      have h2 : cur[bi] = e :: t := by simpa using hc
      rw [takeB_cmp hs hbl h1 h2] at ht
      exact of_decide_eq_false ht (cmpE_neg.2 hlt)
theorem best_new {cur : List (List Ent)} {s : Nat} {b : Int} (hs : s < cur.length) (h : BestI cur s b) (ht : takeB cur s b = true) : BestI cur (s + 1) (s : Int) := by
  have hne : ∃ x t, cur[s] = x :: t := by
    cases hc : cur[s] with
    | nil => rw [takeB_nil hs hc] at ht; cases ht
    | cons x t => exact ⟨x, t, rfl⟩
  obtain ⟨x, t, hx⟩ := hne
  refine .inr ⟨s, x, t, rfl, by omega, by rw [List.getElem?_eq_getElem hs, hx], fun j y t' hj hl => ?_⟩
  rcases Nat.lt_succ_iff_lt_or_eq.1 hj with hj | rfl
  · rcases h with ⟨rfl, h⟩ | ⟨bi, e, t2, rfl, hb, hc, h⟩
    · have := h j _ hj hl; cases this
    · have hbl : bi < cur.length := (List.getElem?_eq_some_iff.1 hc).1
      rw [List.getElem?_eq_getElem hbl] at hc
      have h2 : cur[bi] = e :: t2 := by simpa using hc
      rw [takeB_cmp hs hbl hx h2] at ht
      have hlt := cmpE_neg.1 (of_decide_eq_true ht)
      obtain ⟨h3, h4⟩ := h j y t' hj hl
      have hxy : ltE x y := by
        rcases ltE_total y e with h' | h' | h'
        · exact absurd h' h3
        · exact ltE_same hlt (same_symm h')
        · exact ltE_trans hlt h'
      exact ⟨ltE_asymm hxy, fun _ h' => ltE_not_same hxy (same_symm h')⟩
  · rw [List.getElem?_eq_getElem hs, hx] at hl
    cases hl
    exact ⟨ltE_irrefl x, fun h => by omega⟩
/-- The lists of which the first s are cut. -/
def cutS (e : Ent) (cur : List (List Ent)) (s : Nat) : List (List Ent) := (cur.take s).map (dropS e) ++ cur.drop s
theorem cutS_len (e : Ent) (cur : List (List Ent)) (s : Nat) : (cutS e cur s).length = cur.length := by simp [cutS]; omega
theorem cutS_zero (e : Ent) (cur : List (List Ent)) : cutS e cur 0 = cur := by simp [cutS]
theorem cutS_all (e : Ent) (cur : List (List Ent)) {s : Nat} (h : cur.length ≤ s) : cutS e cur s = cur.map (dropS e) := by simp [cutS, List.take_of_length_le h, List.drop_eq_nil_of_le h]
theorem cutS_at {e : Ent} {cur : List (List Ent)} {s : Nat} (h : s < cur.length) : (cutS e cur s)[s]'(by rw [cutS_len]; exact h) = cur[s] := by
  unfold cutS
  rw [List.getElem_append_right (by simp; omega)]
  simp [Nat.min_eq_left (Nat.le_of_lt h)]
theorem cutS_succ {e : Ent} {cur : List (List Ent)} {s : Nat} (h : s < cur.length) : (cutS e cur s).set s (dropS e cur[s]) = cutS e cur (s + 1) := by
  unfold cutS
  rw [List.set_append_right _ _ (by simp; omega)]
  have h1 : ((cur.take s).map (dropS e)).length = s := by simp; omega
  rw [h1, Nat.sub_self, List.drop_eq_getElem_cons h, List.set_cons_zero, List.take_add_one, List.getElem?_eq_getElem h]
  simp only [Option.toList, List.map_append, List.map_cons, List.map_nil, List.append_assoc, List.cons_append, List.nil_append]
def sameHd (e : Ent) (l : List Ent) : Bool := match l with
  | [] => false
  | x :: _ => decide (cmpE x e = 0)
theorem sameHd_false {e : Ent} {l : List Ent} (h : sameHd e l = false) : dropS e l = l := by
  cases l with
  | nil => rfl
  | cons x t => exact dropS_diff fun h' => by simp [sameHd, cmpE_zero.2 h'] at h
theorem sameHd_true {e : Ent} {l : List Ent} (h : sameHd e l = true) : ∃ x t, l = x :: t ∧ dropS e l = dropS e t := by
  cases l with
  | nil => simp [sameHd] at h
  | cons x t => exact ⟨x, t, rfl, dropS_same (cmpE_zero.1 (by simpa [sameHd] using h))⟩

/-! ### a whole list of lists -/
theorem foldTwo_drop {ls : List (List Ent)} {s : Nat} (h : s < ls.length) (acc : List Ent) : foldTwo acc (ls.drop s) = foldTwo (twoF (acc.length + ls[s].length) acc ls[s]) (ls.drop (s + 1)) := by
  rw [List.drop_eq_getElem_cons h]; rfl
theorem tot_drop {ls : List (List Ent)} : ∀ {s : Nat} (h : s < ls.length), tot (ls.drop s) = ls[s].length + tot (ls.drop (s + 1)) := fun {s} h => by
  rw [List.drop_eq_getElem_cons h]; rfl
theorem tot_take_drop (ls : List (List Ent)) (s : Nat) : tot (ls.take s) + tot (ls.drop s) = tot ls := by
  induction ls generalizing s with
  | nil => simp [tot]
  | cons l ls ih =>
    cases s with
    | zero => simp [tot]
    | succ s => simp only [List.take_succ_cons, List.drop_succ_cons, tot]; have := ih s; omega
theorem tot_mem {ls : List (List Ent)} {l : List Ent} (h : l ∈ ls) : l.length ≤ tot ls := by
  induction ls with
  | nil => simp at h
  | cons x ls ih =>
    simp only [tot]
    rcases List.mem_cons.1 h with rfl | h
    · omega
    · have := ih h; omega
theorem all_sorted {ls : List (List Ent)} (h : ls.all rightB = true) : ∀ l ∈ ls, Sorted l := fun l hl => (rightB_iff.1 (List.all_eq_true.1 h l hl)).2
theorem all_at {ls : List (List Ent)} {s : Nat} (h : s < ls.length) (hf : rightB ls[s] = false) : ls.all rightB = false := by
  cases ha : ls.all rightB with
  | false => rfl
  | true => rw [List.all_eq_true.1 ha _ (List.getElem_mem h)] at hf; cases hf
theorem all_of {ls : List (List Ent)} (h : ∀ (j : Nat) (hj : j < ls.length), rightB ls[j] = true) : ls.all rightB = true := List.all_eq_true.2 fun l hl => by
  obtain ⟨j, hj, rfl⟩ := List.getElem_of_mem hl
  exact h j hj
theorem foldTwo_len : ∀ (ls : List (List Ent)) (acc : List Ent), (foldTwo acc ls).length ≤ acc.length + tot ls
  | [], acc => by simp [foldTwo, tot]
  | l :: ls, acc => by
    have h1 := foldTwo_len ls (twoF (acc.length + l.length) acc l)
    have h2 := twoF_len (acc.length + l.length) acc l
    simp only [foldTwo, tot]; omega
/-- All merged. -/
def mrg (ls : List (List Ent)) : List Ent := foldTwo [] ls
theorem mrg_mem {ls : List (List Ent)} (hs : ∀ l ∈ ls, Sorted l) {x : Ent} : x ∈ mrg ls ↔ Pri ls x := by
  unfold mrg; rw [(fold_law ls [] List.Pairwise.nil hs).2, pri_cons]; simp
theorem mrg_sorted {ls : List (List Ent)} (hs : ∀ l ∈ ls, Sorted l) : Sorted (mrg ls) := (fold_law ls [] List.Pairwise.nil hs).1
theorem mrg_right {ls : List (List Ent)} (h : ls.all rightB = true) : rightB (mrg ls) = true := by
  have hs := all_sorted h
  refine rightB_iff.2 ⟨fun e he => ?_, mrg_sorted hs⟩
  obtain ⟨i, l, hl, hx, -⟩ := (mrg_mem hs).1 he
  exact (rightB_iff.1 (List.all_eq_true.1 h l (List.mem_of_getElem? hl))).1 e hx
theorem pri_one {l : List Ent} {x : Ent} : Pri [l] x ↔ x ∈ l := by rw [pri_cons]; simp [pri_nil]
theorem pri_two {a b : List Ent} {x : Ent} : Pri [a, b] x ↔ x ∈ a ∨ ((∀ y ∈ a, ¬ sameE y x) ∧ x ∈ b) := by rw [pri_cons, pri_one]
theorem pri_three {a b c : List Ent} {x : Ent} : Pri [a, b, c] x ↔ x ∈ a ∨ ((∀ y ∈ a, ¬ sameE y x) ∧ (x ∈ b ∨ ((∀ y ∈ b, ¬ sameE y x) ∧ x ∈ c))) := by rw [pri_cons, pri_two]
theorem steps_left {a b c : List Ent} (ha : Sorted a) (hb : Sorted b) (hc : Sorted c) : mrg [mrg [a, b], c] = mrg [a, b, c] := by
  have h2 : ∀ l ∈ [a, b], Sorted l := by simp [ha, hb]
  have h3 : ∀ l ∈ [a, b, c], Sorted l := by simp [ha, hb, hc]
  have hm := mrg_sorted h2
  have h4 : ∀ l ∈ [mrg [a, b], c], Sorted l := by simp [hm, hc]
  refine sorted_ext _ _ (mrg_sorted h4) (mrg_sorted h3) fun x => ?_
  rw [mrg_mem h4, mrg_mem h3, pri_two, pri_three, mrg_mem h2, pri_two]
  have hno : (∀ y ∈ mrg [a, b], ¬ sameE y x) ↔ (∀ y ∈ a, ¬ sameE y x) ∧ ∀ y ∈ b, ¬ sameE y x := by
    constructor
    · intro h
      have h1 : ∀ y ∈ a, ¬ sameE y x := fun y hy => h y ((mrg_mem h2).2 (pri_two.2 (.inl hy)))
      refine ⟨h1, fun y hy hyx => h y ((mrg_mem h2).2 (pri_two.2 (.inr ⟨fun z hz hzy => h1 z hz (same_trans hzy hyx), hy⟩))) hyx⟩
    · rintro ⟨h1, h2'⟩ y hy
      rcases pri_two.1 ((mrg_mem h2).1 hy) with h | ⟨-, h⟩
      · exact h1 y h
      · exact h2' y h
  rw [hno]
  constructor
  · rintro ((h | ⟨h, h'⟩) | ⟨⟨h, h'⟩, h''⟩)
    · exact .inl h
    · exact .inr ⟨h, .inl h'⟩
    · exact .inr ⟨h, .inr ⟨h', h''⟩⟩
  · rintro (h | ⟨h, h' | ⟨h', h''⟩⟩)
    · exact .inl (.inl h)
    · exact .inl (.inr ⟨h, h'⟩)
    · exact .inr ⟨⟨h, h'⟩, h''⟩
theorem steps_right {a b c : List Ent} (ha : Sorted a) (hb : Sorted b) (hc : Sorted c) : mrg [a, mrg [b, c]] = mrg [a, b, c] := by
  have h2 : ∀ l ∈ [b, c], Sorted l := by simp [hb, hc]
  have h3 : ∀ l ∈ [a, b, c], Sorted l := by simp [ha, hb, hc]
  have hm := mrg_sorted h2
  have h4 : ∀ l ∈ [a, mrg [b, c]], Sorted l := by simp [hm, ha]
  refine sorted_ext _ _ (mrg_sorted h4) (mrg_sorted h3) fun x => ?_
  rw [mrg_mem h4, mrg_mem h3, pri_two, pri_three, mrg_mem h2, pri_two]
end Go.Proofs.Ytblbddamebbgaaa.K
