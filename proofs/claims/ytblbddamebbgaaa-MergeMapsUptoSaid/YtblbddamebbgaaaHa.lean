/- Walks: lists copied, merged. -/
import Derived.Test.YtblbddamebbgaaaKm
import Derived.Test.YtblbddamebbgaaaKy
import Derived.Test.YtblbddamebbgaaaKz
namespace Go.Proofs.Ytblbddamebbgaaa.K
open Go Go.RowKit
set_option linter.unusedVariables false
set_option linter.unusedSimpArgs false

theorem C74 {A : Nat → Prop} {w : World} {v : Value} {ls : List (List Ent)} (hL : LRow A w v ls) (hA : ∀ k, A k → k < w.heap.size) : Rt Try.prog 74 [v] w fun r w' => LOwn A w.heap.size w' r ls ∧ Ext w w' := by
  obtain ⟨ad, cap, rfl, hcap, hlen⟩ := hL.form
  have hW := hWw
  have hFF := hFw
  have hE : Ext w w := Keep.refl _ _
  refine rt_body Try.func74 rfl Try.ntmps74 rfl ?_
  refine wc_seq ?_
  refine wc_region ?_
  refine wl_val hW rfl rfl (x_assign rfl) ?_
  refine wl_nil ?_
  refine nx_then ?_
  refine wc_seq ?_
  refine wc_seq ?_
  refine wc_region ?_
  refine wl_val hW rfl rfl (x_move rfl) ?_
  refine wl_val hW rfl rfl (x_nilEq Try.underlying65 rfl rfl) ?_
  refine wl_nil ?_
  refine nx_then ?_
  refine wc_bool rfl (fun hc => ?_) (fun hc => ?_)
  · refine wc_seq ?_
    refine wc_region ?_
    refine wl_val hW rfl rfl (x_assign rfl) ?_
    refine wl_nil ?_
    refine nx_then ?_
    refine wc_ret ?_
    refine nx_then_ret ?_
    have hl0 : ls = [] := by
      obtain ⟨ad', cap', e, -, -, h⟩ := hL
      cases e
      cases ls with
      | nil => rfl
      | cons u l => obtain ⟨b, o, h, -⟩ := h (by simp); subst h; simp at hc
    exact ends_ret (res_tmp Try.results74 rfl) ⟨by rw [hl0]; exact lown_nil _ _ _, hE⟩
  · refine wc_skip ?_
    refine nx_then ?_
    refine wc_seq ?_
    refine wc_region ?_
    refine wl_buildSlice (parts := []) hW rfl rfl Try.underlying65 fl26.siz Try.zeroValue26 rfl rfl rfl (by omega) ?_
    intro b5 w5 hl5 hB5 hx5
    have g5 : w.heap.size ≤ b5 := Nat.le_trans hE.size hl5
    replace hE := hE.trans hx5
    refine wl_val hW rfl rfl (x_move rfl) ?_
    have hxw := hE
    refine wl_cloneL hW rfl rfl rfl rfl hB5 (hL.ext hE) (fun k h => by have := hA k h; omega) ?_
    intro v7 w7 hv7 hk7 hc7
    replace hE := hE.store hk7 g5
    refine wl_val hW rfl rfl (x_assign rfl) ?_
    refine wl_nil ?_
    refine nx_then ?_
    refine wc_ret ?_
    exact ends_ret (res_tmp Try.results74 rfl) ⟨⟨by obtain ⟨vals, h1, h2, h3⟩ := hv7.ex; refine ⟨vals, h1, ⟨h2.1, ?_⟩, h3⟩; rcases h2.2 with h | ⟨g, c, cur, e1, e2, e3⟩; exact .inl h; exact .inr ⟨g, c, cur, e1, Nat.le_trans g5 e2, e3⟩, hv7.len⟩, hE⟩
theorem C73 {A : Nat → Prop} {base : Nat} {w : World} {v : Value} {ls : List (List Ent)} (hL : LOwn A base w v ls) (hA : ∀ k, A k → k < w.heap.size) (htot : tot ls ≤ 1099511627000) :
    Rt Try.prog 73 [v] w fun r w' => (∃ M, MRel ls M ∧ Row (fun k => w.heap.size ≤ k) w' r M) ∧ Keep (fun k => some k ≠ v.ownBlock) w w' := by
  obtain ⟨ad, cap, rfl⟩ := hL.form
  have hnl := hL.len
  have hW := hWw
  have hFF := hFw
  have hE : Ext w w := Keep.refl _ _
  refine rt_body Try.func73 rfl Try.ntmps73 rfl ?_
  refine wc_seq ?_
  refine wc_region ?_
  refine wl_val hW rfl rfl (x_assign rfl) ?_
  refine wl_nil ?_
  refine nx_then ?_
  refine wc_seq ?_
  refine wc_region ?_
  refine wl_val hW rfl rfl (x_assign rfl) ?_
  refine wl_nil ?_
  refine nx_then ?_
  refine wc_block ?_
  refine wc_loop (σ := Value × List (List Ent)) (fun s => [(0, .slice ad ls.length cap), (3, s.1)]) (fun s w' => s.2.length = ls.length ∧ LOwn A base w' (.slice ad ls.length cap) s.2 ∧ (∃ coll, OwnE (fun k => w.heap.size ≤ k) w.heap.size w' s.1 coll ∧ coll.length + tot s.2 ≤ tot ls ∧ ∀ M, MRel s.2 M → MRel ls (coll ++ M)) ∧ Keep (fun k => some k ≠ (Value.slice ad ls.length cap).ownBlock) w w') (fun s => tot s.2) (.slice none 0 0, ls) ?_ ?_ ?_
  · exact ⟨rfl, hL, ⟨[], own_nil _ _ _, by simp, fun M h => h⟩, Keep.refl _ _⟩
  · repeat (first | exact sub_nil | refine sub_cons rfl ?_)
  · rintro ⟨ov, cur⟩ wr ⟨hcl, hLc, ⟨coll, hO, hct, hM⟩, hK⟩
    dsimp only at hcl hLc hO hct hM
    have hE : Ext wr wr := Keep.refl _ _
    have hKsz := hK.size
    refine wc_block ?_
    refine wc_seq ?_
    refine wc_region ?_
    refine wl_val hW rfl rfl (x_assign rfl) ?_
    refine wl_nil ?_
    refine nx_then ?_
    refine wc_seq ?_
    refine wc_seq ?_
    refine wc_region ?_
    refine wl_val hW rfl rfl (x_move rfl) ?_
    refine wl_val hW rfl rfl (x_len Try.underlying65 rfl) ?_
    refine wl_val hW rfl rfl (x_move rfl) ?_
    refine wl_nil ?_
    refine nx_then ?_
    refine wc_block ?_
    refine wc_loop (σ := Nat × Int) (fun s => [(0, .slice ad ls.length cap), (3, ov), (4, .int .i64 s.2), (10, .slice ad ls.length cap), (11, .int .i64 ls.length), (12, .int .i64 s.1)]) (fun s w' => (s.1 ≤ ls.length ∧ BestI cur s.1 s.2) ∧ Ext wr w') (fun s => ls.length - s.1) (0, -1) ?_ ?_ ?_
    · exact ⟨⟨Nat.zero_le _, best_start _⟩, hE⟩
    · repeat (first | exact sub_nil | refine sub_cons rfl ?_)
    · rintro ⟨s2, bI⟩ w2 ⟨⟨hsl, hbst⟩, hE⟩
      dsimp only at hsl hbst
      refine wc_seq ?_
      refine wc_region ?_
      refine wl_val hW rfl rfl (x_lss rfl rfl) ?_
      refine wl_nil ?_
      refine nx_then ?_
      refine wc_seq ?_
      refine wc_dec rfl (fun hc => ?_) (fun hc => ?_)
      · replace hc : ((s2 : Nat) : Int) < ls.length := hc
        have hlt : s2 < cur.length := by omega
        refine wc_skip ?_
        refine nx_then ?_
        refine wc_seq ?_
        refine wc_block ?_
        refine wc_seq ?_
        refine wc_region ?_
        refine wl_val hW rfl rfl (x_move rfl) ?_
        obtain ⟨rv, hsl1, hC15, hRl⟩ := (hLc.ext hE).at2 s2 hlt
        obtain ⟨la, lc, rfl, hlc, hll⟩ := hRl.form
        refine wl_val hW rfl rfl (x_indexAddr Try.underlying65 fl26.siz (congrArg (fun a => some (Value.slice a ls.length cap)) hsl1) rfl (by omega) (by omega)) ?_
        refine wl_val hW rfl rfl (x_load fl26 rfl (hC15 0 _ rfl)) ?_
        refine wl_val hW rfl rfl (x_assign rfl) ?_
        refine wl_val hW rfl rfl (x_assign rfl) ?_
        refine wl_nil ?_
        refine nx_then ?_
        refine wc_seq ?_
        refine wc_cut [(0, .slice ad ls.length cap), (3, ov), (4, .int .i64 bI), (5, .int .i64 s2), (10, .slice ad ls.length cap), (11, .int .i64 ls.length), (12, .int .i64 s2), (36, .bool (takeB cur s2 bI))] (fun w' => Ext wr w') ?_ ?_
        · refine wc_draw' 20 hW mixed (by kernel_rfl) (fun w0 hx0 => ?_)
          replace hE := hE.trans hx0
          refine q_val rfl rfl (fun _ hx => x_move rfl) ?_
          refine q_val rfl rfl (fun _ hx => x_len Try.underlying26 rfl) ?_
          refine q_val rfl rfl (fun _ hx => x_gtr rfl rfl) ?_
          refine q_val rfl rfl (fun _ hx => x_move rfl) ?_
          refine q_dcases (d := 20) rfl (fun hg20 => ?_) (fun hg20 => ?_)
          · refine q_val rfl rfl (fun _ hx => x_move rfl) ?_
            refine q_val rfl rfl (fun _ hx => x_lss rfl rfl) ?_
            refine q_val rfl rfl (fun _ hx => x_move rfl) ?_
            refine q_dcases (d := 23) rfl (fun hg23 => ?_) (fun hg23 => ?_)
            · refine q_off rfl rfl ?_
              refine q_off rfl rfl ?_
              refine q_off rfl rfl ?_
              refine q_off rfl rfl ?_
              refine q_off rfl rfl ?_
              refine q_off rfl rfl ?_
              refine q_off rfl rfl ?_
              refine q_off rfl rfl ?_
              refine q_off rfl rfl ?_
              refine q_off rfl rfl ?_
              refine q_off rfl rfl ?_
              refine q_val rfl rfl (fun _ hx => x_pickT rfl rfl) ?_
              refine q_val rfl rfl (fun _ hx => x_pickT rfl rfl) ?_
              refine q_nil (tail0 (fun wt hxt => ?_))
              replace hE := hE.trans hxt
              refine wl_nil ?_
              exact nx_cut (by rw [takeB_first hlt (by omega) hg23]; repeat (first | exact sub_nil | refine sub_cons rfl ?_)) hE
            · obtain ⟨bi, ebst, tb, rfl, hbl, hcb⟩ : ∃ (bi : Nat) (e : Ent) (t : List Ent), bI = bi ∧ bi < s2 ∧ cur[bi]? = some (e :: t) := by rcases hbst with ⟨rfl, -⟩ | ⟨bi, e, t, h1, h2, h3, -⟩; exact absurd (show (-1 : Int) < 0 by decide) hg23; exact ⟨bi, e, t, h1, h2, h3⟩
              have hbl2 : bi < cur.length := by omega
              have hcb' : cur[bi] = ebst :: tb := by rw [List.getElem?_eq_getElem hbl2] at hcb; exact Option.some.inj hcb
              have hpos : 0 < cur[bi].length := by rw [hcb']; simp
              have hpos2 : 0 < cur[s2].length := by omega
              obtain ⟨rv2, -, hC29, hRb⟩ := (hLc.ext hE).at2 bi hbl2
              obtain ⟨b1, o1, c1, v1, e1, hA1, hC25, hb1, hok1⟩ := (hRl.ext hx0).at 0 hpos2
              injection e1 with e1a e1b e1c
              subst e1a
              obtain ⟨b2, o2, c2, v2, e2, hA2, hC31, hb2, hok2⟩ := hRb.at 0 hpos
              subst e2
              refine q_val rfl rfl (fun _ hx => x_move rfl) ?_
              refine q_val rfl rfl (fun _ hx => x_indexAddr Try.underlying26 ag25.siz rfl rfl (by omega) (by omega)) ?_
              refine q_val rfl rfl (fun _ hx => x_loadA ag25 rfl (hC25.ext hx) rfl) ?_
              refine q_val rfl rfl (fun _ hx => x_move rfl) ?_
              refine q_val rfl rfl (fun _ hx => x_move rfl) ?_
              refine q_val rfl rfl (fun _ hx => x_indexAddr Try.underlying65 fl26.siz (congrArg (fun a => some (Value.slice a ls.length cap)) hsl1) rfl (by omega) (by omega)) ?_
              refine q_val rfl rfl (fun _ hx => x_load fl26 rfl (hx.cell (hC29 0 _ rfl))) ?_
              refine q_val rfl rfl (fun _ hx => x_indexAddr Try.underlying26 ag25.siz rfl rfl (by omega) (by omega)) ?_
              refine q_val rfl rfl (fun _ hx => x_loadA ag25 rfl (hC31.ext hx) rfl) ?_
              refine q_call rfl rfl (fun _ => x_call en18 rfl) (fun w' hx => (C18 _ _ _ _ _).inF hFF) ?_
              refine q_val rfl rfl (fun _ hx => x_lss rfl rfl) ?_
              refine q_val rfl rfl (fun _ hx => x_pickF rfl rfl) ?_
              refine q_val rfl rfl (fun _ hx => x_pickT rfl rfl) ?_
              refine q_nil (tail0 (fun wt hxt => ?_))
              replace hE := hE.trans hxt
              refine wl_nil ?_
              exact nx_cut (by rw [takeB_cmp' hlt hbl2 hpos2 hpos]; repeat (first | exact sub_nil | refine sub_cons rfl ?_)) hE
          · refine q_off rfl rfl ?_
            refine q_off rfl rfl ?_
            refine q_off rfl rfl ?_
            refine q_off rfl rfl ?_
            refine q_off rfl rfl ?_
            refine q_off rfl rfl ?_
            refine q_off rfl rfl ?_
            refine q_off rfl rfl ?_
            refine q_off rfl rfl ?_
            refine q_off rfl rfl ?_
            refine q_off rfl rfl ?_
            refine q_off rfl rfl ?_
            refine q_off rfl rfl ?_
            refine q_off rfl rfl ?_
            refine q_off rfl rfl ?_
            refine q_val rfl rfl (fun _ hx => x_pickF rfl rfl) ?_
            refine q_nil (tail0 (fun wt hxt => ?_))
            replace hE := hE.trans hxt
            refine wl_nil ?_
            exact nx_cut (by rw [takeB_nil hlt (List.eq_nil_of_length_eq_zero (by omega))]; repeat (first | exact sub_nil | refine sub_cons rfl ?_)) hE
        · rintro w' hE
          refine nx_then ?_
          refine wc_bool rfl (fun hc => ?_) (fun hc => ?_)
          · refine wc_region ?_
            refine wl_val hW rfl rfl (x_move rfl) ?_
            refine wl_val hW rfl rfl (x_assign rfl) ?_
            refine wl_nil ?_
            refine nx_block ?_
            refine nx_then ?_
            refine wc_region ?_
            refine wl_val hW rfl rfl (x_inc (s := s2) rfl (by omega)) ?_
            refine wl_val hW rfl rfl (x_move rfl) ?_
            refine wl_nil ?_
            exact nx_next (s2 + 1, (s2 : Int)) (by dsimp only; omega) ⟨⟨by dsimp only; omega, best_new hlt hbst hc⟩, hE⟩ (by repeat (first | exact sub_nil | refine sub_cons rfl ?_))
          · refine wc_skip ?_
            refine nx_block ?_
            refine nx_then ?_
            refine wc_region ?_
            refine wl_val hW rfl rfl (x_inc (s := s2) rfl (by omega)) ?_
            refine wl_val hW rfl rfl (x_move rfl) ?_
            refine wl_nil ?_
            exact nx_next (s2 + 1, bI) (by dsimp only; omega) ⟨⟨by dsimp only; omega, best_still hlt hbst hc⟩, hE⟩ (by repeat (first | exact sub_nil | refine sub_cons rfl ?_))
      · refine wc_exit ?_
        refine nx_then_exit ?_
        refine nx_then_exit ?_
        refine nx_block_exit ?_
        replace hc : ¬ ((s2 : Nat) : Int) < ls.length := hc
        have hs2 : s2 = ls.length := by omega
        refine nx_then ?_
        refine wc_seq ?_
        refine wc_seq ?_
        refine wc_region ?_
        refine wl_val hW rfl rfl (x_move rfl) ?_
        refine wl_val hW rfl rfl (x_lss rfl rfl) ?_
        refine wl_nil ?_
        refine nx_then ?_
        refine wc_dec rfl (fun hc => ?_) (fun hc => ?_)
        · have hall : ∀ l ∈ cur, l = [] := fun l hl => by
            obtain ⟨j, hj⟩ := List.getElem?_of_mem hl
            have hjl := (List.getElem?_eq_some_iff.1 hj).1
            rcases hbst with ⟨rfl, h⟩ | ⟨bi, e, t, rfl, -⟩
            · exact h j l (by omega) hj
            · omega
          refine wc_seq ?_
          refine wc_region ?_
          refine wl_val hW rfl rfl (x_move rfl) ?_
          refine wl_val hW rfl rfl (x_assign rfl) ?_
          refine wl_nil ?_
          refine nx_then ?_
          refine wc_ret ?_
          refine nx_then_ret ?_
          refine nx_block_ret ?_
          refine nx_then_ret ?_
          refine nx_block_ret ?_
          exact ends_ret (res_tmp Try.results73 rfl) ⟨⟨coll, by have := hM [] (MRel.done _ hall); rwa [List.append_nil] at this, ((hO.ext hE).row (by omega)).mono (fun k _ h => by rcases h with h | h <;> exact h)⟩, hK.trans (Keep.of_ext hE)⟩
        · refine wc_skip ?_
          refine nx_then ?_
          refine wc_seq ?_
          obtain ⟨bi, e0, tb, rfl, hbl, hcb, hmin⟩ : ∃ (bi : Nat) (e : Ent) (t : List Ent), bI = bi ∧ bi < s2 ∧ cur[bi]? = some (e :: t) ∧ ∀ (j : Nat) (x : Ent) (t' : List Ent), j < s2 → cur[j]? = some (x :: t') → ¬ ltE x e ∧ (j < bi → ¬ sameE x e) := by rcases hbst with ⟨rfl, -⟩ | ⟨bi, e, t, h1, h2, h3, h4⟩; exact absurd (show (-1 : Int) < 0 by decide) hc; exact ⟨bi, e, t, h1, h2, h3, h4⟩
          have hbl2 : bi < cur.length := by omega
          have hcb' : cur[bi] = e0 :: tb := by rw [List.getElem?_eq_getElem hbl2] at hcb; exact Option.some.inj hcb
          obtain ⟨rv2, hsl1, hC44, hRb⟩ := hLc.at2 bi hbl2
          rw [hcb'] at hRb
          obtain ⟨b2, o2, c2, v2, e2, hA2, hC46, hb2, hok2⟩ := hRb.at 0 (by simp)
          subst e2
          replace hC46 : Cells wr b2 (o2 + 0 * 4) (cellsOf e0 v2) := hC46
          replace hb2 : Byts _ wr v2 e0.v := hb2
          replace hok2 : EntOk e0 := hok2
          obtain ⟨av, cv, hbv, hcv⟩ := hb2.form
          subst hbv
          refine wc_region ?_
          refine wl_val hW rfl rfl (x_move rfl) ?_
          refine wl_val hW rfl rfl (x_move rfl) ?_
          refine wl_val hW rfl rfl (x_indexAddr Try.underlying65 fl26.siz (congrArg (fun a => some (Value.slice a ls.length cap)) hsl1) rfl (by omega) (by omega)) ?_
          refine wl_val hW rfl rfl (x_load fl26 rfl (hE.cell (hC44 0 _ rfl))) ?_
          refine wl_val hW rfl rfl (x_indexAddr Try.underlying26 ag25.siz rfl rfl (by omega) (by simp)) ?_
          refine wl_val hW rfl rfl (x_loadA ag25 rfl (hC46.ext hE) rfl) ?_
          refine wl_alloc (cs := [.string ⟨#[]⟩, .int .u64 0, .bool false, .slice none 0 0]) hW rfl rfl Try.zeroValue25 rfl ?_
          intro b7 w7 hl7 hB7 hx7
          have g7 : wr.heap.size ≤ b7 := Nat.le_trans hE.size hl7
          replace hE := hE.trans hx7
          refine wl_storeA hW rfl ag25 rfl rfl rfl rfl hB7 rfl ?_
          intro wS hBS hkS
          replace hB7 := hBS
          clear hBS
          replace hE := hE.store hkS g7
          refine wl_nil ?_
          refine nx_then ?_
          refine wc_seq ?_
          refine wc_region ?_
          have hszS := hE.size
          refine wl_val hW rfl rfl (x_move rfl) ?_
          refine wl_val hW rfl rfl (x_loadA ag25 rfl hB7.cells rfl) ?_
          refine wl_call hW rfl rfl (x_call en62 rfl) ((C62 (hb2.ext hE) hok2).inF hFF) ?_
          rintro _ wC ⟨⟨bv', rfl, hb'⟩, hxC⟩
          replace hB7 := hB7.ext hxC
          replace hE := hE.trans hxC
          refine wl_buildSlice (parts := [(0, .tmp 50)]) hW rfl rfl Try.underlying26 ag25.siz Try.zeroValue25 rfl rfl rfl (by omega) ?_
          intro b51 w51 hl51 hB51 hx51
          have n51_7 : b51 ≠ b7 := Nat.ne_of_gt (Nat.lt_of_lt_of_le hB7.lt hl51)
          replace hB7 := hB7.ext hx51
          replace hE := hE.trans hx51
          have hsz2 := hE.size
          refine wl_append1 hW rfl rfl rfl rfl (hO.ext hE) (by omega) (show Blk _ _ (cellsOf e0 bv') 25 from hB51) ((hb'.ext hx51).mono (fun k _ h => ⟨by omega, fun e => by have := hO.lt _ e.symm; omega⟩)) hok2 (by omega) ?_
          intro v52 wA hO2 hkA hcA
          have hKA : Keep (fun k => some k ≠ (Value.slice ad ls.length cap).ownBlock) w wA := (hK.trans (Keep.of_ext hE)).then hkA (fun k hk _ e => by have := (hO.lt k e.symm).1; omega)
          have hLA := (hLc.ext hE).keep hkA (fun b hb e => by obtain ⟨cs, hBl⟩ := (hLc.ext hE).blk b hb; exact (hO.ext hE).ne hBl (by decide) b e.symm rfl) (fun k _ h e => by have := (hO.lt k e.symm).1; have := hA k h; omega)
          have hB7A := hB7.keep hkA (fun e => by have := (hO.lt b7 e.symm).2; omega)
          clear hB7 hB51
          refine wl_val hW rfl rfl (x_assign rfl) ?_
          refine wl_nil ?_
          refine nx_then ?_
          refine wc_seq ?_
          refine wc_region ?_
          refine wl_val hW rfl rfl (x_move rfl) ?_
          refine wl_val hW rfl rfl (x_len Try.underlying65 rfl) ?_
          refine wl_val hW rfl rfl (x_move rfl) ?_
          refine wl_nil ?_
          refine nx_then ?_
          refine wc_block ?_
          refine wc_loop (σ := Nat) (fun s => [(0, .slice ad ls.length cap), (3, v52), (7, .pointer (some ⟨b7, 0, none⟩)), (53, .slice ad ls.length cap), (54, .int .i64 ls.length), (55, .int .i64 s)]) (fun s w' => s ≤ ls.length ∧ LOwn A base w' (.slice ad ls.length cap) (cutS e0 cur s) ∧ OwnE (fun k => w.heap.size ≤ k) w.heap.size w' v52 (coll ++ [e0]) ∧ Blk w' b7 (cellsOf e0 (.slice av e0.v.length cv)) 25 ∧ Keep (fun k => some k ≠ (Value.slice ad ls.length cap).ownBlock) w w') (fun s => ls.length - s) 0 ?_ ?_ ?_
          · exact ⟨Nat.zero_le _, by rw [cutS_zero]; exact hLA, hO2, hB7A, hKA⟩
          · repeat (first | exact sub_nil | refine sub_cons rfl ?_)
          · rintro s w3 ⟨hsl3, hL3, hO3, hB7, hK3⟩
            have hE : Ext w3 w3 := Keep.refl _ _
            refine wc_seq ?_
            refine wc_region ?_
            refine wl_val hW rfl rfl (x_lss rfl rfl) ?_
            refine wl_nil ?_
            refine nx_then ?_
            refine wc_seq ?_
            refine wc_dec rfl (fun hc => ?_) (fun hc => ?_)
            · replace hc : ((s : Nat) : Int) < ls.length := hc
              have hlt : s < cur.length := by omega
              refine wc_skip ?_
              refine nx_then ?_
              refine wc_seq ?_
              refine wc_block ?_
              refine wc_seq ?_
              refine wc_region ?_
              refine wl_val hW rfl rfl (x_move rfl) ?_
              obtain ⟨rv, hsl1, hC58, hRl⟩ := hL3.at2 s (by rw [cutS_len]; exact hlt)
              rw [cutS_at hlt] at hRl
              obtain ⟨la, lc, rfl, hlc, hll⟩ := hRl.form
              refine wl_val hW rfl rfl (x_indexAddr Try.underlying65 fl26.siz (congrArg (fun a => some (Value.slice a ls.length cap)) hsl1) rfl (by omega) (by omega)) ?_
              refine wl_val hW rfl rfl (x_load fl26 rfl (hC58 0 _ rfl)) ?_
              refine wl_val hW rfl rfl (x_assign rfl) ?_
              refine wl_val hW rfl rfl (x_assign rfl) ?_
              refine wl_nil ?_
              refine nx_then ?_
              refine wc_seq ?_
              refine wc_block ?_
              refine wc_loop (σ := Value × List Ent) (fun u => [(0, .slice ad ls.length cap), (3, v52), (7, .pointer (some ⟨b7, 0, none⟩)), (8, .int .i64 s), (9, u.1), (53, .slice ad ls.length cap), (54, .int .i64 ls.length), (55, .int .i64 s)]) (fun u w' => (Row (fun k => A k ∧ k ≠ gOf ad) w3 u.1 u.2 ∧ dropS e0 u.2 = dropS e0 cur[s]) ∧ Ext w3 w') (fun u => u.2.length) (.slice la cur[s].length lc, cur[s]) ?_ ?_ ?_
              · exact ⟨⟨hRl, rfl⟩, hE⟩
              · repeat (first | exact sub_nil | refine sub_cons rfl ?_)
              · rintro ⟨lv4, l4⟩ w4 ⟨⟨hR4, hd4⟩, hE⟩
                dsimp only at hR4 hd4
                obtain ⟨la4, lc4, rfl, hlc4, hll4⟩ := hR4.form
                replace hB7 := hB7.ext hE
                refine wc_seq ?_
                refine wc_seq ?_
                refine wc_cut [(0, .slice ad ls.length cap), (3, v52), (7, .pointer (some ⟨b7, 0, none⟩)), (8, .int .i64 s), (9, .slice la4 l4.length lc4), (53, .slice ad ls.length cap), (54, .int .i64 ls.length), (55, .int .i64 s), (70, .bool (sameHd e0 l4))] (fun w' => Ext w3 w' ∧ Blk w' b7 (cellsOf e0 (.slice av e0.v.length cv)) 25) ?_ ?_
                · refine wc_draw' 11 hW mixed (by kernel_rfl) (fun w0 hx0 => ?_)
                  replace hB7 := hB7.ext hx0
                  replace hE := hE.trans hx0
                  refine q_val rfl rfl (fun _ hx => x_move rfl) ?_
                  refine q_val rfl rfl (fun _ hx => x_len Try.underlying26 rfl) ?_
                  refine q_val rfl rfl (fun _ hx => x_gtr rfl rfl) ?_
                  refine q_val rfl rfl (fun _ hx => x_move rfl) ?_
                  refine q_dcases (d := 63) rfl (fun hg63 => ?_) (fun hg63 => ?_)
                  · obtain ⟨x4, t4, rfl⟩ : ∃ x t, l4 = x :: t := by cases l4 with | nil => exact absurd hg63 (by simp) | cons x t => exact ⟨x, t, rfl⟩
                    obtain ⟨b4, o4, c4, v4, e4, hA4, hC65, hb4, hok4⟩ := (hR4.ext hE).at 0 (by simp)
                    injection e4 with e4a e4b e4c
                    subst e4a
                    refine q_val rfl rfl (fun _ hx => x_move rfl) ?_
                    refine q_val rfl rfl (fun _ hx => x_indexAddr Try.underlying26 ag25.siz rfl rfl (by omega) (by omega)) ?_
                    refine q_val rfl rfl (fun _ hx => x_loadA ag25 rfl (hC65.ext hx) rfl) ?_
                    refine q_val rfl rfl (fun _ hx => x_loadA ag25 rfl (hB7.ext hx).cells rfl) ?_
                    refine q_call rfl rfl (fun _ => x_call en18 rfl) (fun w' hx => (C18 _ _ _ _ _).inF hFF) ?_
                    refine q_val rfl rfl (fun _ hx => x_eql rfl rfl) ?_
                    refine q_val rfl rfl (fun _ hx => x_pickT rfl rfl) ?_
                    refine q_nil (tail0 (fun wt hxt => ?_))
                    replace hB7 := hB7.ext hxt
                    replace hE := hE.trans hxt
                    refine wl_nil ?_
                    exact nx_cut (by repeat (first | exact sub_nil | refine sub_cons rfl ?_)) ⟨hE, hB7⟩
                  · refine q_off rfl rfl ?_
                    refine q_off rfl rfl ?_
                    refine q_off rfl rfl ?_
                    refine q_off rfl rfl ?_
                    refine q_off rfl rfl ?_
                    refine q_off rfl rfl ?_
                    refine q_val rfl rfl (fun _ hx => x_pickF rfl rfl) ?_
                    refine q_nil (tail0 (fun wt hxt => ?_))
                    replace hB7 := hB7.ext hxt
                    replace hE := hE.trans hxt
                    refine wl_nil ?_
                    exact nx_cut (by rw [show sameHd e0 l4 = false from by cases l4 with | nil => rfl | cons x t => exact absurd (by simp) hg63]; repeat (first | exact sub_nil | refine sub_cons rfl ?_)) ⟨hE, hB7⟩
                · rintro w' ⟨hE, hB7⟩
                  refine nx_then ?_
                  refine wc_bool rfl (fun hc => ?_) (fun hc => ?_)
                  · refine wc_skip ?_
                    refine nx_then ?_
                    refine wc_block ?_
                    obtain ⟨x4, t4, rfl, hdt⟩ := sameHd_true hc
                    refine wc_region ?_
                    refine wl_val hW rfl rfl (x_move rfl) ?_
                    refine wl_val hW rfl rfl (x_slicel (i := 1) Try.underlying26 ag25.siz rfl rfl (by simp)) ?_
                    refine wl_val hW rfl rfl (x_assign rfl) ?_
                    refine wl_nil ?_
                    refine nx_block ?_
                    exact nx_next (_, t4) (by simp) ⟨⟨hR4.tail, by dsimp only; rw [← hd4, hdt]⟩, hE⟩ (by repeat (first | exact sub_nil | refine sub_cons rfl ?_))
                  · refine wc_exit ?_
                    refine nx_then_exit ?_
                    refine nx_then_exit ?_
                    refine nx_block_exit ?_
                    refine nx_then ?_
                    have hl4 : dropS e0 cur[s] = l4 := by rw [← hd4, sameHd_false hc]
                    have hown : (Value.slice ad ls.length cap).ownBlock = some (gOf ad) := by rw [hsl1]; rfl
                    have hgl := (hL.lt _ hown).2
                    obtain ⟨cs, hBl, hblt, hput⟩ := (hL3.ext hE).put s (by rw [cutS_len]; exact hlt)
                    refine wc_region ?_
                    refine wl_val hW rfl rfl (x_move rfl) ?_
                    refine wl_val hW rfl rfl (x_move rfl) ?_
                    refine wl_val hW rfl rfl (x_move rfl) ?_
                    refine wl_val hW rfl rfl (x_indexAddr Try.underlying65 fl26.siz (congrArg (fun a => some (Value.slice a ls.length cap)) hsl1) rfl (by omega) (by omega)) ?_
                    refine wl_store hW rfl fl26 rfl rfl rfl hBl hblt ?_
                    intro wS hBS hkS
                    refine wl_nil ?_
                    refine nx_block ?_
                    refine nx_then ?_
                    refine wc_region ?_
                    refine wl_val hW rfl rfl (x_inc (s := s) rfl (by omega)) ?_
                    refine wl_val hW rfl rfl (x_move rfl) ?_
                    refine wl_nil ?_
                    exact nx_next (s + 1) (by omega) ⟨by omega, by rw [← cutS_succ hlt, hl4]; exact hput _ _ l4 hBS hkS ((hR4.ext hE).ck (CK.of_keep hkS (fun k _ h => h.2))), (hO3.ext hE).keep hkS ((hO3.ext hE).ne hBl (by decide)) (fun k _ h => by omega), hB7.keep hkS (by omega), (hK3.trans (Keep.of_ext hE)).then hkS (fun k _ h e => h (by rw [e, hown]))⟩ (by repeat (first | exact sub_nil | refine sub_cons rfl ?_))
            · replace hc : ¬ ((s : Nat) : Int) < ls.length := hc
              have htl := tot_lt hcb
              refine wc_exit ?_
              refine nx_then_exit ?_
              refine nx_then_exit ?_
              refine nx_block_exit ?_
              refine nx_block ?_
              exact nx_next (v52, cur.map (dropS e0)) htl ⟨by simp [hcl], by rw [cutS_all _ _ (by omega)] at hL3; exact hL3, ⟨coll ++ [e0], hO3, by dsimp only; simp only [List.length_append, List.length_cons, List.length_nil]; omega, fun M hM' => by rw [List.append_assoc]; exact hM _ (MRel.step _ bi e0 M ⟨⟨tb, hcb⟩, fun j x t h => hmin j x t (by have := (List.getElem?_eq_some_iff.1 h).1; omega) h⟩ hM')⟩, hK3⟩ (by repeat (first | exact sub_nil | refine sub_cons rfl ?_))
end Go.Proofs.Ytblbddamebbgaaa.K

