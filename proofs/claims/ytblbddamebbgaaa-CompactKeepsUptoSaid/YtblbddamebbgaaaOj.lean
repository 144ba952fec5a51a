/- Walks: DeleteFunc, Over. -/
import Derived.Test.YtblbddamebbgaaaOi
namespace Go.Proofs.Ytblbddamebbgaaa.K
open Go Go.RowKit
set_option linter.unusedVariables false
set_option linter.unusedSimpArgs false

theorem C97 {base : Nat} {w : World} {v : Value} {ts : List Tb} {p7 p6 : Nat} {first last : ByteArray} (hO : TOwn base w v ts) (hl : ts.length ≤ 1099511627776) (h7 : Blk w p7 [.string last] 9) (h6 : Blk w p6 [.string first] 9) :
    Rt Try.prog 97 [v, .func (.func 98) #[] #[.pointer (some ⟨p7, 0, none⟩), .pointer (some ⟨p6, 0, none⟩)]] w fun r w' => TRow (fun k => base ≤ k) w' r (ts.filter fun t => !offB first last t) ∧ Keep (fun k => some k ≠ v.ownBlock) w w' := by
  obtain ⟨ad, c, rfl, hcap⟩ := hO.form
  have n7 : ∀ b, (Value.slice ad ts.length c).ownBlock = some b → b ≠ p7 := fun b hb => hO.ne hb h7 (by decide)
  have n6 : ∀ b, (Value.slice ad ts.length c).ownBlock = some b → b ≠ p6 := fun b hb => hO.ne hb h6 (by decide)
  have hW := hWw
  have hFF := hFw
  have hE : Ext w w := Keep.refl _ _
  refine rt_body Try.func97 rfl Try.ntmps97 rfl ?_
  refine wc_seq ?_
  refine wc_region ?_
  refine wl_val hW rfl rfl (x_assign rfl) ?_
  refine wl_nil ?_
  refine nx_then ?_
  refine wc_seq ?_
  refine wc_region ?_
  refine wl_val hW rfl rfl (x_move rfl) ?_
  refine wl_val hW rfl rfl (x_move rfl) ?_
  refine wl_call hW rfl rfl (x_call en99 rfl) ((C99 (hO.row hl) h7 h6).inF hFF) ?_
  rintro r0 wC ⟨hr, hxC⟩
  replace hE := hE.trans hxC
  obtain ⟨iv, rfl, hcase⟩ : ∃ iv : Int, r0 = .int .i64 iv ∧ ((iv = -1 ∧ ∀ t ∈ ts, offB first last t = false) ∨ ∃ i : Nat, ∃ h : i < ts.length, iv = i ∧ offB first last ts[i] = true ∧ ∀ (j : Nat) (h : j < ts.length), j < i → offB first last ts[j] = false) := by
    rcases hr with ⟨rfl, h⟩ | ⟨i, hi, rfl, h1, h2⟩
    · exact ⟨_, rfl, .inl ⟨rfl, h⟩⟩
    · exact ⟨_, rfl, .inr ⟨i, hi, rfl, h1, h2⟩⟩
  replace hO := hO.ext hxC
  refine wl_val hW rfl rfl (x_assign rfl) ?_
  refine wl_nil ?_
  refine nx_then ?_
  refine wc_seq ?_
  refine wc_seq ?_
  refine wc_region ?_
  refine wl_val hW rfl rfl (x_move rfl) ?_
  refine wl_val hW rfl rfl (x_eql rfl rfl) ?_
  refine wl_nil ?_
  refine nx_then ?_
  refine wc_dec rfl (fun hc => ?_) (fun hc => ?_)
  · refine wc_seq ?_
    refine wc_region ?_
    refine wl_val hW rfl rfl (x_move rfl) ?_
    refine wl_val hW rfl rfl (x_assign rfl) ?_
    refine wl_nil ?_
    refine nx_then ?_
    refine wc_ret ?_
    refine nx_then_ret ?_
    have hall : ∀ t ∈ ts, offB first last t = false := by rcases hcase with ⟨-, h⟩ | ⟨i, hi, h, -⟩; exact h; omega
    exact ends_ret (res_tmp Try.results97 rfl) ⟨by rw [offB_le hall]; exact hO.row hl, Keep.of_ext hE⟩
  · obtain ⟨i, hi, rfl, hp, hno⟩ := hcase.resolve_left fun h => hc h.1
    have hKs := kept_start hi hp hno
    refine wc_skip ?_
    refine nx_then ?_
    refine wc_seq ?_
    refine wc_seq ?_
    refine wc_region ?_
    refine wl_val hW rfl rfl (x_move rfl) ?_
    refine wl_val hW rfl rfl (x_inc (s := i) rfl (by omega)) ?_
    refine wl_val hW rfl rfl (x_assign rfl) ?_
    refine wl_nil ?_
    refine nx_then ?_
    refine wc_block ?_
    refine wc_loop (σ := Nat × Nat) (fun s => [(0, .slice ad ts.length c), (1, .func (.func 98) #[] #[.pointer (some ⟨p7, 0, none⟩), .pointer (some ⟨p6, 0, none⟩)]), (5, .int .i64 (s.1 : Nat)), (6, .int .i64 (s.2 : Nat))]) (fun s w' => (∃ es, Kept (offB first last) ts es s.1 s.2 ∧ s.1 < s.2 ∧ TOwn base w' (.slice ad ts.length c) es) ∧ Keep (fun k => some k ≠ (Value.slice ad ts.length c).ownBlock) w w') (fun s => ts.length - s.2) (i, i + 1) ?_ ?_ ?_
    · exact ⟨⟨ts, hKs, Nat.lt_succ_self _, hO⟩, Keep.of_ext hE⟩
    · repeat (first | exact sub_nil | refine sub_cons rfl ?_)
    · rintro ⟨i, j⟩ wr ⟨⟨es, hK, hij, hO⟩, hE⟩
      replace hK : Kept (offB first last) ts es i j := hK
      replace hij : i < j := hij
      have hjl := hK.le.2
      have hel := hK.len
      refine wc_seq ?_
      refine wc_seq ?_
      refine wc_region ?_
      refine wl_val hW rfl rfl (x_move rfl) ?_
      refine wl_val hW rfl rfl (x_move rfl) ?_
      refine wl_val hW rfl rfl (x_len Try.underlying80 rfl) ?_
      refine wl_val hW rfl rfl (x_lss rfl rfl) ?_
      refine wl_nil ?_
      refine nx_then ?_
      refine wc_dec rfl (fun hc => ?_) (fun hc => ?_)
      · replace hc : ((j : Nat) : Int) < ts.length := hc
        have hlt : j < ts.length := by omega
        have hej := hK.at hlt
        have hje : j < es.length := by omega
        have hev : es[j] = ts[j] := by rw [List.getElem?_eq_getElem hje] at hej; exact Option.some.inj hej
        refine wc_skip ?_
        refine nx_then ?_
        refine wc_seq ?_
        refine wc_block ?_
        refine wc_seq ?_
        refine wc_region ?_
        obtain ⟨b, o, cap', e1, hA, hC24⟩ := (hO.row (by omega)).at j hje
        rw [hev] at hC24
        have e2 : Value.slice ad ts.length c = .slice (some ⟨b, o, none⟩) ts.length cap' := by rw [e1, hel]
        obtain ⟨g, cs0, hg0, -, -, -, -, -, -⟩ := TOwn.front (i := 0) hO (Nat.zero_le _) (by omega) (by omega)
        subst hg0
        have e3 : b = g ∧ o = 0 := by cases e2; exact ⟨rfl, rfl⟩
        obtain ⟨rfl, rfl⟩ := e3
        refine wl_val hW rfl rfl (x_move rfl) ?_
        refine wl_val hW rfl rfl (x_move rfl) ?_
        refine wl_val hW rfl rfl (x_indexAddr Try.underlying80 ag87.siz rfl rfl (by omega) (by omega)) ?_
        refine wl_val hW rfl rfl (x_loadA ag87 rfl hC24 rfl) ?_
        refine wl_alloc (cs := [.int .i64 0, .int .i64 0, .string ⟨#[]⟩, .string ⟨#[]⟩, .int .i64 0]) hW rfl rfl Try.zeroValue87 rfl ?_
        intro b7 w7 hl7 hB7 hx7
        have hx7' := hx7
        refine wl_storeA hW rfl ag87 rfl rfl (cellsT_one _) rfl hB7 rfl ?_
        intro wS hBS hkS
        have hO7 := (hO.ext hx7).keep hkS (fun b' hb' => by have := hO.lt hb'; omega)
        have hEt : Keep (fun k => some k ≠ (Value.slice (some ⟨b, 0, none⟩) ts.length c).ownBlock) w wS := (hE.trans (Keep.of_ext hx7)).then hkS fun k hk _ => by have := hE.size; omega
        replace hB7 := hBS
        clear hBS
        refine wl_nil ?_
        refine nx_then ?_
        refine wc_seq ?_
        refine wc_region ?_
        have h7S := h7.keep hEt (fun e => n7 _ e.symm rfl)
        have h6S := h6.keep hEt (fun e => n6 _ e.symm rfl)
        refine wl_val hW rfl rfl (x_move rfl) ?_
        refine wl_val hW rfl rfl (x_loadA ag87 rfl hB7.cells rfl) ?_
        refine wl_call hW rfl rfl (x_callv (cap := [.pointer (some ⟨p7, 0, none⟩), .pointer (some ⟨p6, 0, none⟩)]) en98 rfl rfl) ((C98 h7S h6S).inF hFF) ?_
        rintro _ wD ⟨rfl, hxD⟩
        replace hB7 := hB7.ext hxD
        replace hO7 := hO7.ext hxD
        replace hEt := hEt.trans (Keep.of_ext hxD)
        refine wl_val hW rfl rfl (x_not rfl) ?_
        refine wl_nil ?_
        refine nx_then ?_
        refine wc_bool rfl (fun hc => ?_) (fun hc => ?_)
        · have hp : offB first last ts[j] = false := by simpa using hc
          refine wc_seq ?_
          refine wc_region ?_
          refine wl_val hW rfl rfl (x_move rfl) ?_
          refine wl_val hW rfl rfl (x_move rfl) ?_
          refine wl_val hW rfl rfl (x_loadA ag87 rfl hB7.cells rfl) ?_
          obtain ⟨g, cs, hg, hnn, hBg, hle, hbg, hset⟩ := gown_set cellsT_len hO7 (i := i) (by omega)
          cases hg
          have e0 : 0 + ((i : Nat) : Int).toNat * 5 = i * 5 := by omega
          refine wl_val hW rfl rfl (x_indexAddr Try.underlying80 ag87.siz rfl rfl (by omega) (by omega)) ?_
          refine wl_storeA hW rfl ag87 rfl rfl (cellsT_one _) rfl hBg (by rw [e0]; exact Nat.ble_eq_true_of_le (by show i * 5 + 5 ≤ _; omega)) ?_
          intro wT hBS hkT
          rw [e0] at hBS
          have hOT := hset wT ts[j] hBS
          have hET := hEt.trans (hkT.mono fun k _ h e => h (by rw [e]; rfl))
          refine wl_nil ?_
          refine nx_then ?_
          refine wc_region ?_
          refine wl_val hW rfl rfl (x_move rfl) ?_
          refine wl_val hW rfl rfl (x_inc (s := i) rfl (by omega)) ?_
          refine wl_val hW rfl rfl (x_assign rfl) ?_
          refine wl_nil ?_
          refine nx_block ?_
          refine nx_then ?_
          refine wc_region ?_
          refine wl_val hW rfl rfl (x_move rfl) ?_
          refine wl_val hW rfl rfl (x_inc (s := j) rfl (by omega)) ?_
          refine wl_val hW rfl rfl (x_assign rfl) ?_
          refine wl_nil ?_
          exact nx_next (i + 1, j + 1) (by dsimp only; omega) ⟨⟨es.set i ts[j], hK.put hlt hp, by dsimp only; omega, by unfold TOwn; rw [List.length_set]; exact hOT⟩, hET⟩ (by repeat (first | exact sub_nil | refine sub_cons rfl ?_))
        · have hp : offB first last ts[j] = true := by simpa using hc
          refine wc_skip ?_
          refine nx_block ?_
          refine nx_then ?_
          refine wc_region ?_
          refine wl_val hW rfl rfl (x_move rfl) ?_
          refine wl_val hW rfl rfl (x_inc (s := j) rfl (by omega)) ?_
          refine wl_val hW rfl rfl (x_assign rfl) ?_
          refine wl_nil ?_
          exact nx_next (i, j + 1) (by dsimp only; omega) ⟨⟨es, hK.skip hlt hp, by dsimp only; omega, hO7⟩, hEt⟩ (by repeat (first | exact sub_nil | refine sub_cons rfl ?_))
      · refine wc_exit ?_
        refine nx_then_exit ?_
        refine nx_then_exit ?_
        refine nx_block_exit ?_
        refine nx_then ?_
        replace hc : ¬ ((j : Nat) : Int) < ts.length := hc
        have hjt : j = ts.length := by omega
        have hpre := hK.pre
        rw [hjt, List.take_length] at hpre
        obtain ⟨g, cs, rfl, hnn, hcc, hBg, hle, hbg, hfr⟩ := TOwn.front (i := i) hO (by omega) (by omega) (by omega)
        refine wc_seq ?_
        refine wc_region ?_
        refine wl_val hW rfl rfl (x_move rfl) ?_
        refine wl_val hW rfl rfl (x_move rfl) ?_
        refine wl_val hW rfl rfl (x_slicel (i := i) Try.underlying80 ag87.siz rfl rfl (by omega)) ?_
        have hadr : (if c = i then some (⟨g, 0, none⟩ : Addr) else (some (⟨g, 0, none⟩ : Addr)).map (·.add (i * 5))) = some ⟨g, if c = i then 0 else i * 5, none⟩ := by split <;> simp [add_mk]
        rw [hadr]
        refine wl_clear (sz := 5) hW rfl Try.underlying80 Try.zeroValue87 rfl (by decide) rfl hBg (by split <;> omega) ?_
        intro w5 new hnew hB5 hk5
        have hrow := hfr w5 _ hB5 (by split; rename_i hci; have : new = [] := List.eq_nil_of_length_eq_zero (by rw [hnew]; omega); subst this; simp; omega; rw [List.append_assoc, List.take_left' (by simp; omega)]) c (by omega)
        have hE5 := hE.trans (hk5.mono fun k _ h e => h (by rw [e]; rfl))
        refine wl_nil ?_
        refine nx_then ?_
        refine wc_seq ?_
        refine wc_region ?_
        refine wl_val hW rfl rfl (x_move rfl) ?_
        refine wl_val hW rfl rfl (x_move rfl) ?_
        refine wl_val hW rfl rfl (x_sliceh (j := i) Try.underlying80 ag87.siz rfl rfl (by omega)) ?_
        have hadr2 : (if c = 0 then some (⟨g, 0, none⟩ : Addr) else (some (⟨g, 0, none⟩ : Addr)).map (·.add (0 * 5))) = some ⟨g, 0, none⟩ := by split <;> simp [add_mk]
        rw [hadr2]
        refine wl_val hW rfl rfl (x_assign rfl) ?_
        refine wl_nil ?_
        refine nx_then ?_
        refine wc_ret ?_
        exact ends_ret (res_tmp Try.results97 rfl) ⟨by rw [← hpre]; exact hrow, hE5⟩
theorem C94 {A : Nat → Prop} {w : World} {tv : Value} {ts : List Tb} {sq nx wl n : Int} {first last : ByteArray} (hR : TRow A w tv ts) : Rt Try.prog 94 [.agg #[tv, .int .u64 sq, .int .i64 nx, .int .i64 wl], .int .i64 n, .string first, .string last] w fun r w' => TRow (fun k => w.heap.size ≤ k) w' r (overL ts n first last) ∧ Ext w w' := by
  obtain ⟨ad, cap, rfl, hcap, hlen⟩ := hR.form
  replace hR := hR.mono (A' := fun k => k < w.heap.size) fun k hk _ => hk
  have hW := hWw
  have hFF := hFw
  have hE : Ext w w := Keep.refl _ _
  refine rt_body Try.func94 rfl Try.ntmps94 rfl ?_
  refine wc_seq ?_
  refine wc_region ?_
  refine wl_box hW rfl rfl rfl rfl ?_
  intro b4 w4 hl4 hB4 hx4
  have g4 : w.heap.size ≤ b4 := Nat.le_trans hE.size hl4
  replace hE := hE.trans hx4
  refine wl_box hW rfl rfl rfl rfl ?_
  intro b6 w6 hl6 hB6 hx6
  have g6 : w.heap.size ≤ b6 := Nat.le_trans hE.size hl6
  have n6_4 : b6 ≠ b4 := Nat.ne_of_gt (Nat.lt_of_lt_of_le hB4.lt hl6)
  replace hB4 := hB4.ext hx6
  replace hE := hE.trans hx6
  refine wl_box hW rfl rfl rfl rfl ?_
  intro b7 w7 hl7 hB7 hx7
  have g7 : w.heap.size ≤ b7 := Nat.le_trans hE.size hl7
  have n7_4 : b7 ≠ b4 := Nat.ne_of_gt (Nat.lt_of_lt_of_le hB4.lt hl7)
  replace hB4 := hB4.ext hx7
  have n7_6 : b7 ≠ b6 := Nat.ne_of_gt (Nat.lt_of_lt_of_le hB6.lt hl7)
  replace hB6 := hB6.ext hx7
  replace hE := hE.trans hx7
  refine wl_val hW rfl rfl (x_assign rfl) ?_
  refine wl_nil ?_
  refine nx_then ?_
  refine wc_seq ?_
  refine wc_region ?_
  refine wl_val hW rfl rfl (x_loadA ag82 rfl hB4.cells rfl) ?_
  refine wl_val hW rfl rfl (x_move rfl) ?_
  refine wl_call hW rfl rfl (x_call en79 rfl) ((C79 (hR.ext hE)).inF hFF) ?_
  rintro rl wC ⟨hOl, hxC⟩
  replace hB4 := hB4.ext hxC
  replace hB6 := hB6.ext hxC
  replace hB7 := hB7.ext hxC
  replace hE := hE.trans hxC
  have hll := levelL_le ts n
  refine wl_val hW rfl rfl (x_makeFunc (xs := [.tmp 7, .tmp 6]) rfl) ?_
  have hsz := hE.size
  refine wl_call hW rfl rfl (x_call en97 rfl) ((C97 hOl (by omega) hB7 hB6).inF hFF) ?_
  rintro rr wD ⟨hRr, hkD⟩
  replace hE := Keep.rowed hE hkD (fun b hb => by have := hOl.ge hb; have := hx7.size; have := hx6.size; have := hx4.size; omega)
  refine wl_val hW rfl rfl (x_assign rfl) ?_
  refine wl_nil ?_
  refine nx_then ?_
  refine wc_ret ?_
  exact ends_ret (res_tmp Try.results94 rfl) ⟨hRr.mono fun k _ hk => by have := hx7.size; have := hx6.size; have := hx4.size; omega, hE⟩
end Go.Proofs.Ytblbddamebbgaaa.K

