/- Walk: the law CompactKeeps. -/
import Derived.Test.YtblbddamebbgaaaOq
namespace Go.Proofs.Ytblbddamebbgaaa.K
open Go Go.RowKit
set_option linter.unusedVariables false
set_option linter.unusedSimpArgs false

section
variable {F : Fence} {n : Nat} {Q : Exit → Act → World → Prop} {m : Nat} {D : List Deferred} {L : Env} {w w' : World} {ops rest : List Oper} {d : Nat} {ty : TypeId} {pos : String} {af : Array Edge} {g : Option (Nat × Bool)} {x y : Operand}
theorem x_sgeF {P : Program} {t t' : TypeId} {s r : ByteArray} (hx : ev L x = some (.string s)) (hy : ev L y = some (.string r)) (h : bl s.toList r.toList = true) : Xv P m D L (.binOp .geq t x y t') ty w (.bool false) w := by
  have := x_sgeq (P := P) (m := m) (D := D) (t := t) (t' := t') (ty := ty) (w := w) hx hy
  rwa [show Op.bytesLess s.toList r.toList = true from h] at this
/-- A row appended to one that is collected. -/
theorem wl_appendR {A : Nat → Prop} {base : Nat} {v u : Value} {es l : List Ent} (hW : Wd F) (hg : wants L ops g = some true) (hd : Nat.blt d m = true) (hx : ev L x = some v) (hy : ev L y = some u)
    (h : OwnE A base w v es) (hu : Row (fun k => A k ∧ some k ≠ v.ownBlock) w u l) (hl : es.length + l.length ≤ 1099511627776) (hbase : base ≤ w.heap.size)
    (kk : ∀ v' w', OwnE A base w' v' (es ++ l) → Keep (fun k => some k ≠ v.ownBlock) w w' → (v'.ownBlock = v.ownBlock ∨ ∃ b, v'.ownBlock = some b ∧ w.heap.size ≤ b) → WL F n Try.prog Q m D ops rest ((d, v') :: L) w') :
    WL F n Try.prog Q m D ops (⟨some d, .call ⟨.builtin .append, #[x, y], #[26, 26]⟩, ty, pos, af, g⟩ :: rest) L w := by
  have hok := hu.ok
  obtain ⟨ad, cap, rfl, -, -⟩ := hu.form
  obtain ⟨cvs, c1, c2, c3⟩ := row_flat hu
  obtain ⟨⟨bvs, h1, h2, h3⟩, h4⟩ := h
  refine wl_append Try.underlying26 info25 rfl (by decide) hW hg hd hx hy h2 (flat_len l cvs c1) c2 (flat_one (A := A) (w := w) l cvs fun i e bv a b => (c3 i e bv a b).one) (by omega) (by decide) hbase ?_
  intro v' w' h5 h6 h7
  have tr : ∀ (bv : Value) (s : List UInt8), Byts (fun k => A k ∧ some k ≠ v.ownBlock) w bv s → Byts (fun k => A k ∧ some k ≠ v'.ownBlock) w' bv s := fun bv s hr => by
    have hr2 := (hr.mono (A' := fun k => k < w.heap.size ∧ A k ∧ some k ≠ v.ownBlock) fun k hk h => ⟨hk, h⟩).ck (CK.of_keep h6 fun k _ h => h.2.2)
    refine hr2.mono fun k _ h => ⟨h.2.1, ?_⟩
    rcases h7 with e | ⟨b, e, hb⟩
    · rw [e]; exact h.2.2
    · rw [e]; intro e'; cases e'; omega
  refine kk v' w' ⟨⟨bvs ++ cvs, by simp [h1, c1], by rw [flat_append _ _ _ _ h1, List.length_append]; exact h5, fun i e bv hi hj => ?_⟩, fun e he => ?_⟩ h6 h7
  · rcases Nat.lt_or_ge i es.length with hil | hil
    · rw [List.getElem?_append_left hil] at hi
      rw [List.getElem?_append_left (by omega)] at hj
      exact tr _ _ (h3 i e bv hi hj)
    · rw [List.getElem?_append_right hil] at hi
      rw [List.getElem?_append_right (by omega), h1] at hj
      exact tr _ _ (c3 _ e bv hi hj)
  · rcases List.mem_append.1 he with he | he
    · exact h4 e he
    · exact hok e he
end
/-- The parts are not empty, and in order. -/
theorem Cuts.step {all : List Ent} {f : Nat} {out : List (List Ent)} (h : Cuts all f out) (hs : Sorted all) : (∀ (i : Nat) (hi : i < out.length), 0 < out[i].length) ∧ ∀ (i : Nat) (hi : i < out.length) (h0 : 0 < i) (ha : out[i - 1].length - 1 < out[i - 1].length) (hb : 0 < out[i].length), bl (out[i - 1][out[i - 1].length - 1]).k.toList (out[i][0]).k.toList = true := by
  obtain ⟨c, e0, e1, e2, e3⟩ := h.parts
  have hp : ∀ (i : Nat) (hi : i < out.length), out[i] = (all.take (c (i + 1))).drop (c i) := fun i hi => (List.getElem?_eq_some_iff.1 (e2 i hi).2.2).2
  have hln : ∀ (i : Nat) (hi : i < out.length), out[i].length = c (i + 1) - c i := fun i hi => by
    rw [hp i hi, List.length_drop, List.length_take, Nat.min_eq_left (e2 i hi).2.1]
  have hat : ∀ (i : Nat) (hi : i < out.length) (j : Nat) (hj : j < out[i].length), ∃ hk : c i + j < all.length, out[i][j] = all[c i + j] := fun i hi j hj => by
    have h1 := hln i hi
    have h2 := (e2 i hi).2.1
    have hk : c i + j < all.length := by omega
    refine ⟨hk, ?_⟩
    have h3 : out[i][j]? = all[c i + j]? := by rw [hp i hi, List.getElem?_drop, List.getElem?_take, if_pos (by omega)]
    rw [List.getElem?_eq_getElem hj, List.getElem?_eq_getElem hk] at h3
    exact Option.some.inj h3
  refine ⟨fun i hi => by rw [hln i hi]; have := (e2 i hi).1; omega, fun i hi h0 ha hb => ?_⟩
  obtain ⟨k1, e4⟩ := hat i hi 0 hb
  obtain ⟨k2, e5⟩ := hat (i - 1) (by omega) _ ha
  have h1 := hln (i - 1) (by omega)
  have h2 := (e2 (i - 1) (by omega)).1
  rw [show i - 1 + 1 = i from by omega] at h1 h2
  have hix : c (i - 1) + (out[i - 1].length - 1) = c i - 1 := by omega
  have hc := e3 i h0 (by omega)
  have h3 := (e2 i hi)
  rcases hc with hc | ⟨hlt, hne⟩
  · omega
  have hl : ltE all[c i - 1] all[c i] := (List.pairwise_iff_getElem.1 hs) (c i - 1) (c i) (by omega) hlt (by omega)
  have e6 : out[i - 1][out[i - 1].length - 1] = all[c i - 1] := by rw [e5]; congr 1
  have e7 : out[i][0] = all[c i] := e4
  rw [e6, e7]
  rcases hl with hl | ⟨hl, -⟩
  · exact hl
  · exact absurd hl.symm hne
theorem take_flat_succ {out : List (List Ent)} {i : Nat} (h : i < out.length) : (out.take (i + 1)).flatten = (out.take i).flatten ++ out[i] := by
  rw [← List.take_append_getElem h, List.flatten_append, List.flatten_singleton]
theorem take_flat_len (out : List (List Ent)) (i : Nat) : (out.take i).flatten.length ≤ out.flatten.length := by
  have := congrArg (fun l => (List.flatten l).length) (List.take_append_drop i out)
  simp only [List.flatten_append, List.length_append] at this
  omega
theorem C23q {w : World} {v : Value} {es : List Ent} {up : Int} (hR : Row (fun k => k < w.heap.size) w v es) (hr : rightB es = true) : Rt Try.prog 23 [v, .int .u64 up] w fun r w' => (∃ rv, r = .tuple #[rv, .int .i64 0] ∧ Row (fun _ => True) w' rv (seenL up es)) ∧ Ext w w' :=
  (C23 hR).mono fun r w' ⟨⟨rv, h1, h2⟩, h3⟩ => ⟨by
    rw [hr] at h1 h2
    exact ⟨rv, h1, by rw [← rSeen_is]; exact h2⟩, h3⟩
theorem C47w {w w0 : World} {v : Value} {ls : List (List Ent)} (hL : LRow (fun k => k < w0.heap.size) w v ls) (htot : tot ls ≤ 100000) (hr : ls.all rightB = true) (hs : w0.heap.size ≤ w.heap.size) : Rt Try.prog 47 [v] w fun r w' => (∃ rv, r = .tuple #[rv, .int .i64 0] ∧ Row (fun k => k < w'.heap.size) w' rv (mrg ls)) ∧ Ext w w' :=
  (C47 (hL.mono fun k hk _ => hk) (by omega)).mono fun r w' ⟨⟨rv, h1, h2⟩, h3⟩ => ⟨⟨rv, by rw [h1, hr]; rfl, by rw [hr, if_pos rfl] at h2; exact h2.mono fun k hk _ => hk⟩, h3⟩

theorem C14 {w : World} {v : Value} {ls : List (List Ent)} {keep more size : Int} {bottom : Bool} (hL : LRow (fun k => k < w.heap.size) w v ls) :
    Rt Try.prog 14 [.int .u64 keep, .int .u64 more, .bool bottom, .int .i64 size, v] w fun r w' => r = .bool true ∧ Ext w w' := by
  obtain ⟨ad, cap, rfl, hcap, hlen⟩ := hL.form
  have hW := hWw
  have hFF := hFw
  have hE : Ext w w := Keep.refl _ _
  refine rt_body Try.func14 rfl Try.ntmps14 rfl ?_
  refine wc_seq ?_
  refine wc_region ?_
  refine wl_val hW rfl rfl (x_assign rfl) ?_
  refine wl_nil ?_
  refine nx_then ?_
  refine wc_seq ?_
  refine wc_seq ?_
  refine wc_region ?_
  refine wl_call hW rfl rfl (x_call en48 rfl) ((C48).inF hFF) ?_
  rintro _ wC ⟨rfl, hxC⟩
  replace hE := hE.trans hxC
  refine wl_val hW rfl rfl (x_not rfl) ?_
  refine wl_nil ?_
  refine nx_then ?_
  refine wc_false rfl ?_
  refine wc_skip ?_
  refine nx_then ?_
  refine wc_seq ?_
  refine wc_seq ?_
  refine wc_cutE (σ := Bool) (fun u => [(0, .int .u64 keep), (1, .int .u64 more), (2, .bool bottom), (3, .int .i64 size), (4, .slice ad ls.length cap), (31, .bool u)]) (fun u w' => Ext w w' ∧ (u = false → ls.length ≤ 20 ∧ 1 ≤ size)) ?_ ?_
  · refine wc_region ?_
    refine wl_val hW rfl rfl (x_move rfl) ?_
    refine wl_val hW rfl rfl (x_len Try.underlying65 rfl) ?_
    refine wl_val hW rfl rfl (x_gtr rfl rfl) ?_
    refine wl_val hW rfl rfl (x_move rfl) ?_
    refine wl_dcases (d := 28) rfl (fun hg28 => ?_) (fun hg28 => ?_)
    · refine wl_off hW rfl rfl ?_
      refine wl_off hW rfl rfl ?_
      refine wl_val hW rfl rfl (x_pickT rfl rfl) ?_
      refine wl_nil ?_
      exact nx_cutE true (by repeat (first | exact sub_nil | refine sub_cons rfl ?_)) ⟨hE, fun h => by cases h⟩
    · refine wl_val hW rfl rfl (x_move rfl) ?_
      refine wl_val hW rfl rfl (x_lss rfl rfl) ?_
      refine wl_val hW rfl rfl (x_pickF rfl rfl) ?_
      refine wl_nil ?_
      exact nx_cutE (decide (size < 1)) (by repeat (first | exact sub_nil | refine sub_cons rfl ?_)) ⟨hE, fun h => ⟨by omega, by have := of_decide_eq_false h; omega⟩⟩
  · rintro u w' ⟨hE, hu⟩
    refine nx_then ?_
    refine wc_bool rfl (fun hc => ?_) (fun hc => ?_)
    · refine wc_seq ?_
      refine wc_region ?_
      refine wl_val hW rfl rfl (x_assign rfl) ?_
      refine wl_nil ?_
      refine nx_then ?_
      refine wc_ret ?_
      refine nx_then_ret ?_
      exact ends_ret (res_tmp Try.results14 rfl) ⟨rfl, hE⟩
    · obtain ⟨hl20, hsz⟩ := hu hc
      refine wc_skip ?_
      refine nx_then ?_
      refine wc_seq ?_
      refine wc_seq ?_
      refine wc_region ?_
      refine wl_val hW rfl rfl (x_assign rfl) ?_
      refine wl_nil ?_
      refine nx_then ?_
      refine wc_block ?_
      refine wc_loop (σ := Nat) (fun s => [(0, .int .u64 keep), (1, .int .u64 more), (2, .bool bottom), (3, .int .i64 size), (4, .slice ad ls.length cap), (11, .int .i64 s)]) (fun s w' => (s ≤ ls.length ∧ ∀ l ∈ ls.take s, l.length ≤ 300 ∧ rightB l = true) ∧ Ext w w') (fun s => ls.length - s) 0 ?_ ?_ ?_
      · exact ⟨⟨Nat.zero_le _, fun l h => by simp at h⟩, hE⟩
      · repeat (first | exact sub_nil | refine sub_cons rfl ?_)
      · rintro s wr ⟨⟨hs, hal⟩, hE⟩
        refine wc_seq ?_
        refine wc_seq ?_
        refine wc_region ?_
        refine wl_val hW rfl rfl (x_move rfl) ?_
        refine wl_val hW rfl rfl (x_move rfl) ?_
        refine wl_val hW rfl rfl (x_len Try.underlying65 rfl) ?_
        refine wl_val hW rfl rfl (x_lss rfl rfl) ?_
        refine wl_nil ?_
        refine nx_then ?_
        refine wc_dec rfl (fun hc => ?_) (fun hc => ?_)
        · replace hc : ((s : Nat) : Int) < ls.length := hc
          have hlt : s < ls.length := by omega
          obtain ⟨b, o, cap', rv, e1, hA, hC40, hRl⟩ := (hL.ext hE).at s hlt
          cases e1
          refine wc_skip ?_
          refine nx_then ?_
          refine wc_seq ?_
          refine wc_block ?_
          refine wc_seq ?_
          refine wc_cutE (σ := Bool) (fun u => [(0, .int .u64 keep), (1, .int .u64 more), (2, .bool bottom), (3, .int .i64 size), (4, .slice (some ⟨b, o, none⟩) ls.length cap), (11, .int .i64 s), (51, .bool u)]) (fun u w' => Ext w w' ∧ (u = false → ls[s].length ≤ 300 ∧ rightB ls[s] = true)) ?_ ?_
          · refine wc_region ?_
            refine wl_val hW rfl rfl (x_move rfl) ?_
            refine wl_val hW rfl rfl (x_move rfl) ?_
            refine wl_val hW rfl rfl (x_indexAddr Try.underlying65 fl26.siz rfl rfl (by omega) (by omega)) ?_
            refine wl_val hW rfl rfl (x_load fl26 rfl (hC40 0 _ rfl)) ?_
            refine wl_call hW rfl rfl (x_call en17 rfl) ((C17 hRl).inF hFF) ?_
            rintro _ wC ⟨⟨bb, rfl, hfew⟩, hxC⟩
            replace hE := hE.trans hxC
            refine wl_val hW rfl rfl (x_not rfl) ?_
            refine wl_val hW rfl rfl (x_move rfl) ?_
            refine wl_bcases (d := 44) rfl (fun hg44 => ?_) (fun hg44 => ?_)
            · refine wl_off hW rfl rfl ?_
              refine wl_off hW rfl rfl ?_
              refine wl_off hW rfl rfl ?_
              refine wl_off hW rfl rfl ?_
              refine wl_off hW rfl rfl ?_
              refine wl_off hW rfl rfl ?_
              refine wl_val hW rfl rfl (x_pickT rfl rfl) ?_
              refine wl_nil ?_
              exact nx_cutE true (by repeat (first | exact sub_nil | refine sub_cons rfl ?_)) ⟨hE, fun h => by cases h⟩
            · have hfw : (ls[s].length : Int) ≤ 300 := hfew (by simpa using hg44)
              refine wl_val hW rfl rfl (x_move rfl) ?_
              refine wl_val hW rfl rfl (x_move rfl) ?_
              refine wl_val hW rfl rfl (x_indexAddr Try.underlying65 fl26.siz rfl rfl (by omega) (by omega)) ?_
              refine wl_val hW rfl rfl (x_load fl26 rfl ((hC40.ext hxC) 0 _ rfl)) ?_
              refine wl_call hW rfl rfl (x_call en21 rfl) ((C21 (hRl.ext hxC)).inF hFF) ?_
              rintro _ wC ⟨rfl, hxC⟩
              replace hE := hE.trans hxC
              refine wl_val hW rfl rfl (x_not rfl) ?_
              refine wl_val hW rfl rfl (x_pickF rfl rfl) ?_
              refine wl_nil ?_
              exact nx_cutE (!rightB ls[s]) (by repeat (first | exact sub_nil | refine sub_cons rfl ?_)) ⟨hE, fun h => ⟨by omega, by simpa using h⟩⟩
          · rintro u w' ⟨hE, hu⟩
            refine nx_then ?_
            refine wc_bool rfl (fun hc => ?_) (fun hc => ?_)
            · refine wc_seq ?_
              refine wc_region ?_
              refine wl_val hW rfl rfl (x_assign rfl) ?_
              refine wl_nil ?_
              refine nx_then ?_
              refine wc_ret ?_
              refine nx_block_ret ?_
              refine nx_then_ret ?_
              refine nx_then_ret ?_
              refine nx_block_ret ?_
              refine nx_then_ret ?_
              exact ends_ret (res_tmp Try.results14 rfl) ⟨rfl, hE⟩
            · obtain ⟨hu1, hu2⟩ := hu hc
              refine wc_skip ?_
              refine nx_block ?_
              refine nx_then ?_
              refine wc_region ?_
              refine wl_val hW rfl rfl (x_move rfl) ?_
              refine wl_val hW rfl rfl (x_inc (s := s) rfl (by omega)) ?_
              refine wl_val hW rfl rfl (x_assign rfl) ?_
              refine wl_nil ?_
              exact nx_next (s + 1) (by omega) ⟨⟨hlt, fun l h => by rw [← List.take_append_getElem hlt] at h; rcases List.mem_append.1 h with h | h; exact hal l h; rw [List.mem_singleton.1 h]; exact ⟨hu1, hu2⟩⟩, hE⟩ (by repeat (first | exact sub_nil | refine sub_cons rfl ?_))
        · refine wc_exit ?_
          refine nx_then_exit ?_
          refine nx_then_exit ?_
          refine nx_block_exit ?_
          replace hc : ¬ ((s : Nat) : Int) < ls.length := hc
          have hse : s = ls.length := by omega
          rw [hse, List.take_length] at hal
          have hr : ls.all rightB = true := List.all_eq_true.2 fun l h => (hal l h).2
          have htot : tot ls ≤ 100000 := by have h1 := tot_le_mul ls 300 fun l h => (hal l h).1; have h2 := Nat.mul_le_mul_right 300 hl20; omega
          have hmr := mrg_right hr
          have hml : (mrg ls).length ≤ 100000 := by have := foldTwo_len ls []; simp only [List.length_nil] at this; unfold mrg; omega
          have hll := leftL_le keep bottom (mrg ls)
          refine nx_then ?_
          refine wc_seq ?_
          refine wc_region ?_
          refine wl_val hW rfl rfl (x_move rfl) ?_
          refine wl_val hW rfl rfl (x_move rfl) ?_
          refine wl_val hW rfl rfl (x_move rfl) ?_
          refine wl_val hW rfl rfl (x_move rfl) ?_
          refine wl_call hW rfl rfl (x_call en49 rfl) ((C49 (size := size) (keep := keep) (bottom := bottom) ((hL.ext hE).mono fun k hk _ => hk) htot hr hsz).inF hFF) ?_
          rintro _ wl ⟨⟨ov, out, rfl, hO, hCu⟩, hxC⟩
          replace hE := hE.trans hxC
          refine wl_val hW rfl rfl (x_move rfl) ?_
          refine wl_val hW rfl rfl (x_extract rfl rfl) ?_
          refine wl_val hW rfl rfl (x_extract rfl rfl) ?_
          refine wl_val hW rfl rfl (x_assign rfl) ?_
          refine wl_val hW rfl rfl (x_assign rfl) ?_
          refine wl_nil ?_
          refine nx_then ?_
          refine wc_seq ?_
          refine wc_seq ?_
          refine wc_region ?_
          refine wl_val hW rfl rfl (x_move rfl) ?_
          refine wl_val hW rfl rfl (x_neqF rfl rfl rfl) ?_
          refine wl_nil ?_
          refine nx_then ?_
          refine wc_false rfl ?_
          refine wc_skip ?_
          refine nx_then ?_
          refine wc_seq ?_
          refine wc_region ?_
          refine wl_val hW rfl rfl (x_assign rfl) ?_
          refine wl_nil ?_
          refine nx_then ?_
          obtain ⟨all, hall⟩ : ∃ all, all = leftL keep bottom (mrg ls) := ⟨_, rfl⟩
          rw [← hall] at hCu hll
          have har : rightB all = true := by rw [hall]; exact left_right hmr
          have hst := hCu.step (rightB_iff.1 har).2
          have hfl : out.flatten = all := by rw [hCu.flat, List.take_length]
          have hcl := hCu.len
          have hOl : LOwn (fun k => k < wl.heap.size) _ wl ov out := hO.monoA fun k hk _ => hk
          obtain ⟨oa, oc, rfl⟩ := hO.form
          have hEl := hE
          have hszl := hEl.size
          refine wc_seq ?_
          refine wc_seq ?_
          refine wc_region ?_
          refine wl_val hW rfl rfl (x_assign rfl) ?_
          refine wl_nil ?_
          refine nx_then ?_
          refine wc_block ?_
          refine wc_loop (σ := Nat × Value) (fun q => [(0, .int .u64 keep), (1, .int .u64 more), (4, .slice ad ls.length cap), (12, .slice oa out.length oc), (14, q.2), (15, .int .i64 (q.1 : Nat))]) (fun q w' => (q.1 ≤ out.length ∧ OwnE (fun k => k < wl.heap.size) wl.heap.size w' q.2 (out.take q.1).flatten) ∧ Keep (fun k => k < wl.heap.size) wl w') (fun q => out.length - q.1) (0, .slice none 0 0) ?_ ?_ ?_
          · exact ⟨⟨Nat.zero_le _, own_nil _ _ _⟩, Keep.refl _ _⟩
          · repeat (first | exact sub_nil | refine sub_cons rfl ?_)
          · rintro ⟨i, av⟩ wr ⟨⟨hi, hOw⟩, hK⟩
            replace hi : i ≤ out.length := hi
            replace hOw : OwnE (fun k => k < wl.heap.size) wl.heap.size wr av (out.take i).flatten := hOw
            have hE : Ext w wr := Keep.after hEl hK (fun k hk => by omega)
            have hszK := hK.size
            refine wc_seq ?_
            refine wc_seq ?_
            refine wc_region ?_
            refine wl_val hW rfl rfl (x_move rfl) ?_
            refine wl_val hW rfl rfl (x_move rfl) ?_
            refine wl_val hW rfl rfl (x_len Try.underlying65 rfl) ?_
            refine wl_val hW rfl rfl (x_lss rfl rfl) ?_
            refine wl_nil ?_
            refine nx_then ?_
            refine wc_dec rfl (fun hc => ?_) (fun hc => ?_)
            · replace hc : ((i : Nat) : Int) < out.length := hc
              have hlt : i < out.length := by omega
              have hpos := hst.1 i hlt
              have hOr := hOl.keep hK (fun b hb => (hO.lt b hb).2) (fun k _ h => h)
              obtain ⟨b, cap', rv, e1, hCr, hRr⟩ := hOr.at i hlt
              cases e1
              obtain ⟨ar, cr, rfl, -, -⟩ := hRr.form
              obtain ⟨b2, o2, cap2, bv2, e2, -, hCf, -, -⟩ := hRr.at 0 hpos
              cases e2
              refine wc_skip ?_
              refine nx_then ?_
              refine wc_seq ?_
              refine wc_block ?_
              refine wc_seq ?_
              refine wc_seq ?_
              refine wc_cut [(0, .int .u64 keep), (1, .int .u64 more), (4, .slice ad ls.length cap), (12, .slice (some ⟨b, 0, none⟩) out.length oc), (14, av), (15, .int .i64 (i : Nat)), (102, .bool false)] (fun w' => Ext wr w') ?_ ?_
              · refine wc_draw' 35 hW mixed (by kernel_rfl) (fun w0 hx0 => ?_)
                replace hE := hE.trans hx0
                have hC70 := hCr.ext hx0
                have hC95 := hC70
                have hC97 := hCf.ext hx0
                refine q_val rfl rfl (fun _ hx => x_move rfl) ?_
                refine q_val rfl rfl (fun _ hx => x_move rfl) ?_
                refine q_val rfl rfl (fun _ hx => x_indexAddr Try.underlying65 fl26.siz rfl rfl (by omega) (by omega)) ?_
                refine q_val rfl rfl (fun _ hx => x_load fl26 rfl (hx.cell (hC70 0 _ rfl))) ?_
                refine q_val rfl rfl (fun _ hx => x_len Try.underlying26 rfl) ?_
                refine q_val rfl rfl (fun _ hx => x_eql rfl rfl) ?_
                refine q_val rfl rfl (fun _ hx => x_move rfl) ?_
                refine q_dcases (d := 74) rfl (fun hg74 => ?_) (fun hg74 => ?_)
                · refine q_off rfl rfl ?_
                  refine q_off rfl rfl ?_
                  refine q_off rfl rfl ?_
                  refine q_off rfl rfl ?_
                  refine q_off rfl rfl ?_
                  refine q_off rfl rfl ?_
                  refine q_off rfl rfl ?_
                  refine q_off rfl rfl ?_
                  refine q_off rfl rfl ?_
                  refine q_off rfl rfl ?_
                  refine q_off rfl rfl ?_
                  refine q_off rfl rfl ?_
                  refine q_off rfl rfl ?_
                  refine q_off rfl rfl ?_
                  refine q_off rfl rfl ?_
                  refine q_off rfl rfl ?_
                  refine q_off rfl rfl ?_
                  refine q_off rfl rfl ?_
                  refine q_off rfl rfl ?_
                  refine q_off rfl rfl ?_
                  refine q_off rfl rfl ?_
                  refine q_off rfl rfl ?_
                  refine q_off rfl rfl ?_
                  refine q_off rfl rfl ?_
                  refine q_off rfl rfl ?_
                  refine q_off rfl rfl ?_
                  refine q_off rfl rfl ?_
                  refine q_val rfl rfl (fun _ hx => x_pickT rfl rfl) ?_
                  refine q_nil (tail0 (fun wt hxt => ?_))
                  replace hE := hE.trans hxt
                  refine wl_nil ?_
                  exact absurd hg74 (by have := hst.1 i hlt; omega)
                · refine q_val rfl rfl (fun _ hx => x_move rfl) ?_
                  refine q_val rfl rfl (fun _ hx => x_gtr rfl rfl) ?_
                  refine q_val rfl rfl (fun _ hx => x_move rfl) ?_
                  refine q_dcases (d := 77) rfl (fun hg77 => ?_) (fun hg77 => ?_)
                  · have hi0 : 0 < i := by have h' : (0 : Int) < ((i : Nat) : Int) := hg77; omega
                    have hlt1 : i - 1 < out.length := by omega
                    have hpos1 := hst.1 (i - 1) hlt1
                    obtain ⟨b3, cap3, rv3, e3, hC81', hR81⟩ := hOr.at (i - 1) hlt1
                    cases e3
                    have hC81 := hC81'.ext hx0
                    have hC86 := hC81
                    obtain ⟨ar3, cr3, rfl, -, -⟩ := hR81.form
                    obtain ⟨b4, o4, cap4, bv4, e4, -, hC90', -, -⟩ := hR81.at (out[i - 1].length - 1) (by omega)
                    cases e4
                    have hC90 := hC90'.ext hx0
                    have hlb : out[i - 1].length ≤ 100000 := by have := take_flat_len out (i - 1 + 1); rw [take_flat_succ hlt1, List.length_append, hfl] at this; omega
                    refine q_val rfl rfl (fun _ hx => x_move rfl) ?_
                    refine q_val rfl rfl (fun _ hx => x_move rfl) ?_
                    refine q_val rfl rfl (fun _ hx => x_subn (i := i) (j := 1) rfl rfl (by omega) (by omega)) ?_
                    refine q_val rfl rfl (fun _ hx => x_indexAddr Try.underlying65 fl26.siz rfl rfl (by omega) (by omega)) ?_
                    refine q_val rfl rfl (fun _ hx => x_load fl26 rfl (hx.cell (hC81 0 _ rfl))) ?_
                    refine q_val rfl rfl (fun _ hx => x_move rfl) ?_
                    refine q_val rfl rfl (fun _ hx => x_move rfl) ?_
                    refine q_val rfl rfl (fun _ hx => x_subn (i := i) (j := 1) rfl rfl (by omega) (by omega)) ?_
                    refine q_val rfl rfl (fun _ hx => x_indexAddr Try.underlying65 fl26.siz rfl rfl (by omega) (by omega)) ?_
                    refine q_val rfl rfl (fun _ hx => x_load fl26 rfl (hx.cell (hC86 0 _ rfl))) ?_
                    refine q_val rfl rfl (fun _ hx => x_len Try.underlying26 rfl) ?_
                    refine q_val rfl rfl (fun _ hx => x_subn (i := out[i - 1].length) (j := 1) rfl rfl (by omega) (by omega)) ?_
                    refine q_val rfl rfl (fun _ hx => x_indexAddr Try.underlying26 ag25.siz rfl rfl (by omega) (by omega)) ?_
                    refine q_val rfl rfl (fun _ hx => x_fieldAddr Try.underlying25 rfl fl9.siz rfl) ?_
                    refine q_val rfl rfl (fun _ hx => x_load fl9 rfl (hx.cell (hC90 0 _ rfl))) ?_
                    refine q_val rfl rfl (fun _ hx => x_move rfl) ?_
                    refine q_val rfl rfl (fun _ hx => x_move rfl) ?_
                    refine q_val rfl rfl (fun _ hx => x_indexAddr Try.underlying65 fl26.siz rfl rfl (by omega) (by omega)) ?_
                    refine q_val rfl rfl (fun _ hx => x_load fl26 rfl (hx.cell (hC95 0 _ rfl))) ?_
                    refine q_val rfl rfl (fun _ hx => x_indexAddr Try.underlying26 ag25.siz rfl rfl (by omega) (by omega)) ?_
                    refine q_val rfl rfl (fun _ hx => x_fieldAddr Try.underlying25 rfl fl9.siz rfl) ?_
                    refine q_val rfl rfl (fun _ hx => x_load fl9 rfl (hx.cell (hC97 0 _ rfl))) ?_
                    refine q_val rfl rfl (fun _ hx => x_sgeF rfl rfl (hst.2 i hlt hi0 (by omega) hpos)) ?_
                    refine q_val rfl rfl (fun _ hx => x_pickT rfl rfl) ?_
                    refine q_val rfl rfl (fun _ hx => x_pickF rfl rfl) ?_
                    refine q_nil (tail0 (fun wt hxt => ?_))
                    replace hE := hE.trans hxt
                    refine wl_nil ?_
                    exact nx_cut (by repeat (first | exact sub_nil | refine sub_cons rfl ?_)) (hx0.trans hxt)
                  · refine q_off rfl rfl ?_
                    refine q_off rfl rfl ?_
                    refine q_off rfl rfl ?_
                    refine q_off rfl rfl ?_
                    refine q_off rfl rfl ?_
                    refine q_off rfl rfl ?_
                    refine q_off rfl rfl ?_
                    refine q_off rfl rfl ?_
                    refine q_off rfl rfl ?_
                    refine q_off rfl rfl ?_
                    refine q_off rfl rfl ?_
                    refine q_off rfl rfl ?_
                    refine q_off rfl rfl ?_
                    refine q_off rfl rfl ?_
                    refine q_off rfl rfl ?_
                    refine q_off rfl rfl ?_
                    refine q_off rfl rfl ?_
                    refine q_off rfl rfl ?_
                    refine q_off rfl rfl ?_
                    refine q_off rfl rfl ?_
                    refine q_off rfl rfl ?_
                    refine q_off rfl rfl ?_
                    refine q_off rfl rfl ?_
                    refine q_val rfl rfl (fun _ hx => x_pickF rfl rfl) ?_
                    refine q_val rfl rfl (fun _ hx => x_pickF rfl rfl) ?_
                    refine q_nil (tail0 (fun wt hxt => ?_))
                    replace hE := hE.trans hxt
                    refine wl_nil ?_
                    exact nx_cut (by repeat (first | exact sub_nil | refine sub_cons rfl ?_)) (hx0.trans hxt)
              · rintro w' hxr
                refine nx_then ?_
                refine wc_false rfl ?_
                refine wc_skip ?_
                refine nx_then ?_
                replace hE := hE.trans hxr
                have hC106 := hCr.ext hxr
                have hOx := hOw.ext hxr
                have hfs := take_flat_succ hlt
                have hfln : (out.take (i + 1)).flatten.length ≤ all.length := by have := take_flat_len out (i + 1); rw [hfl] at this; exact this
                have hszr := hxr.size
                refine wc_region ?_
                refine wl_val hW rfl rfl (x_move rfl) ?_
                refine wl_val hW rfl rfl (x_move rfl) ?_
                refine wl_val hW rfl rfl (x_move rfl) ?_
                refine wl_val hW rfl rfl (x_indexAddr Try.underlying65 fl26.siz rfl rfl (by omega) (by omega)) ?_
                refine wl_val hW rfl rfl (x_load fl26 rfl (hC106 0 _ rfl)) ?_
                refine wl_appendR hW rfl rfl rfl rfl hOx ((hRr.ext hxr).mono fun k _ h => ⟨h.1, fun e => by have h1 := (hOx.lt k e.symm).1; have h2 : k < wl.heap.size := h.1; omega⟩) (by rw [hfs, List.length_append] at hfln; omega) (by omega) ?_
                intro av2 wA hO2 hkA hcA
                rw [← hfs] at hO2
                have hKA : Keep (fun k => k < wl.heap.size) wl wA := (hK.trans (Keep.of_ext hxr)).then hkA fun k hk h e => by have := (hOx.lt k e.symm).1; omega
                refine wl_val hW rfl rfl (x_assign rfl) ?_
                refine wl_nil ?_
                refine nx_block ?_
                refine nx_then ?_
                refine wc_region ?_
                refine wl_val hW rfl rfl (x_move rfl) ?_
                refine wl_val hW rfl rfl (x_inc (s := i) rfl (by omega)) ?_
                refine wl_val hW rfl rfl (x_assign rfl) ?_
                refine wl_nil ?_
                exact nx_next (i + 1, av2) (by dsimp only; omega) ⟨⟨hlt, hO2⟩, hKA⟩ (by repeat (first | exact sub_nil | refine sub_cons rfl ?_))
            · refine wc_exit ?_
              refine nx_then_exit ?_
              refine nx_then_exit ?_
              refine nx_block_exit ?_
              replace hc : ¬ ((i : Nat) : Int) < out.length := hc
              have hie : i = out.length := by omega
              subst hie
              rw [List.take_length, hfl] at hOw
              refine nx_then ?_
              refine wc_seq ?_
              refine wc_region ?_
              refine wl_val hW rfl rfl (x_move rfl) ?_
              refine wl_val hW rfl rfl (x_move rfl) ?_
              refine wl_val hW rfl rfl (x_add (r := IntKind.u64.wrap (keep + more)) rfl rfl rfl) ?_
              refine wl_val hW rfl rfl (x_assign rfl) ?_
              refine wl_nil ?_
              refine nx_then ?_
              refine wc_seq ?_
              refine wc_seq ?_
              refine wc_region ?_
              refine wl_val hW rfl rfl (x_move rfl) ?_
              refine wl_val hW rfl rfl (x_move rfl) ?_
              refine wl_val hW rfl rfl (x_lss rfl rfl) ?_
              refine wl_nil ?_
              refine nx_then ?_
              refine wc_cut [(4, .slice ad ls.length cap), (14, av), (16, .int .u64 (if IntKind.u64.wrap (keep + more) < keep then keep else IntKind.u64.wrap (keep + more)))] (fun w'' => w'' = wr) ?_ ?_
              · refine wc_dec rfl (fun hc => ?_) (fun hc => ?_)
                · refine wc_region ?_
                  refine wl_val hW rfl rfl (x_move rfl) ?_
                  refine wl_val hW rfl rfl (x_assign rfl) ?_
                  refine wl_nil ?_
                  exact nx_cut (by rw [if_pos hc]; repeat (first | exact sub_nil | refine sub_cons rfl ?_)) rfl
                · refine wc_skip ?_
                  exact nx_cut (by rw [if_neg hc]; repeat (first | exact sub_nil | refine sub_cons rfl ?_)) rfl
              · rintro _ rfl
                have hup : keep ≤ (if IntKind.u64.wrap (keep + more) < keep then keep else IntKind.u64.wrap (keep + more)) := by split <;> omega
                generalize (if IntKind.u64.wrap (keep + more) < keep then keep else IntKind.u64.wrap (keep + more)) = up at hup ⊢
                refine nx_then ?_
                refine wc_seq ?_
                refine wc_region ?_
                refine wl_val hW rfl rfl (x_move rfl) ?_
                refine wl_call hW rfl rfl (x_call en47 rfl) ((C47w (hL.ext hE) htot hr hE.size).inF hFF) ?_
                rintro _ wm ⟨⟨rv1, rfl, hR1⟩, hxC⟩
                replace hE := hE.trans hxC
                have hAm := (hOw.ext hxC).row (by omega)
                refine wl_val hW rfl rfl (x_move rfl) ?_
                refine wl_val hW rfl rfl (x_extract rfl rfl) ?_
                refine wl_val hW rfl rfl (x_extract rfl rfl) ?_
                refine wl_val hW rfl rfl (x_assign rfl) ?_
                refine wl_val hW rfl rfl (x_assign rfl) ?_
                refine wl_nil ?_
                refine nx_then ?_
                refine wc_seq ?_
                refine wc_region ?_
                refine wl_val hW rfl rfl (x_move rfl) ?_
                refine wl_val hW rfl rfl (x_move rfl) ?_
                refine wl_call hW rfl rfl (x_call en23 rfl) ((C23q (up := up) hR1 hmr).inF hFF) ?_
                rintro _ wn ⟨⟨rv2, rfl, hR2⟩, hxC⟩
                replace hE := hE.trans hxC
                refine wl_val hW rfl rfl (x_move rfl) ?_
                refine wl_val hW rfl rfl (x_extract rfl rfl) ?_
                refine wl_val hW rfl rfl (x_extract rfl rfl) ?_
                refine wl_val hW rfl rfl (x_assign rfl) ?_
                refine wl_val hW rfl rfl (x_assign rfl) ?_
                refine wl_nil ?_
                refine nx_then ?_
                refine wc_seq ?_
                refine wc_region ?_
                refine wl_val hW rfl rfl (x_move rfl) ?_
                refine wl_val hW rfl rfl (x_move rfl) ?_
                refine wl_call hW rfl rfl (x_call en23 rfl) ((C23q (up := up) ((hAm.ext hxC).mono fun k hk _ => hk) har).inF hFF) ?_
                rintro _ wo ⟨⟨rv3, rfl, hR3⟩, hxC⟩
                replace hE := hE.trans hxC
                refine wl_val hW rfl rfl (x_move rfl) ?_
                refine wl_val hW rfl rfl (x_extract rfl rfl) ?_
                refine wl_val hW rfl rfl (x_extract rfl rfl) ?_
                refine wl_val hW rfl rfl (x_assign rfl) ?_
                refine wl_val hW rfl rfl (x_assign rfl) ?_
                refine wl_nil ?_
                refine nx_then ?_
                refine wc_seq ?_
                refine wc_cut [(10, .bool true)] (fun w' => Ext w w') ?_ ?_
                · refine wc_region ?_
                  refine wl_val hW rfl rfl (x_move rfl) ?_
                  refine wl_val hW rfl rfl (x_eqlT rfl rfl rfl) ?_
                  refine wl_val hW rfl rfl (x_move rfl) ?_
                  refine wl_val hW rfl rfl (x_move rfl) ?_
                  refine wl_val hW rfl rfl (x_move rfl) ?_
                  refine wl_call hW rfl rfl (x_call en24 rfl) ((C24r (hR2.ext hxC) hR3 (by rw [hall]; exact seen_left hup hmr)).inF hFF) ?_
                  rintro _ wC ⟨rfl, hxC⟩
                  replace hE := hE.trans hxC
                  refine wl_val hW rfl rfl (x_pickT rfl rfl) ?_
                  refine wl_val hW rfl rfl (x_assign rfl) ?_
                  refine wl_nil ?_
                  exact nx_cut (by repeat (first | exact sub_nil | refine sub_cons rfl ?_)) hE
                · rintro w' hE
                  refine nx_then ?_
                  refine wc_ret ?_
                  exact ends_ret (res_tmp Try.results14 rfl) ⟨rfl, hE⟩
end Go.Proofs.Ytblbddamebbgaaa.K

