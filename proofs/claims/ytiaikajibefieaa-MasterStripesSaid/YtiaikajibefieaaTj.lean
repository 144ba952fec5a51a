/- Walk: a number put between others. -/
import Derived.Test.YtiaikajibefieaaTi
namespace Go.Proofs.Ytiaikajibefieaa.K
open Go Go.RowKit
set_option linter.unusedVariables false
set_option linter.unusedSimpArgs false
theorem blk_src {w : World} {b o k : Nat} {cs : List Value} {t : TypeId} (h : Blk w b cs t) : Src w (some ⟨b, o, none⟩) ((cs.drop o).take k) := fun _ => ⟨b, o, rfl, fun j u hj => by
  rw [List.getElem?_take] at hj
  split at hj
  · rw [List.getElem?_drop] at hj; exact h.cell hj
  · cases hj⟩
theorem minL {a b k : Nat} (h : k = a) (h2 : a ≤ b) : k = Nat.min a b * 1 := by show k = min a b * 1; omega
theorem minR {a b k : Nat} (h : k = b) (h2 : b ≤ a) : k = Nat.min a b * 1 := by show k = min a b * 1; omega
theorem Blk.cast {w : World} {b : Nat} {l l' : List Value} {t : TypeId} (h : Blk w b l t) (e : l = l') : Blk w b l' t := e ▸ h
theorem two1 {cs F : List Value} {u : Value} {i n o1 o o2 : Nat} (ho1 : o1 = i) (ho : o = i + 1) (ho2 : o2 = n + 1) (hi : i < cs.length) (hin : i ≤ n) : (cs.take o1 ++ [u] ++ cs.drop (o1 + 1)).take o ++ F ++ (cs.take o1 ++ [u] ++ cs.drop (o1 + 1)).drop o2 = cs.take i ++ [u] ++ F ++ cs.drop (n + 1) := by
  subst ho1; subst ho; subst ho2
  have h1 : (cs.take o1 ++ [u]).length = o1 + 1 := by rw [List.length_append, List.length_take, List.length_singleton]; omega
  rw [List.take_left' h1, List.drop_append, h1, List.drop_of_length_le (by rw [h1]; omega), List.nil_append, List.drop_drop]
  congr 2
  omega
theorem two2 {cs F : List Value} {u : Value} {i n o1 o o2 : Nat} (ho1 : o1 = i) (ho : o = i + 1) (ho2 : o2 = n + 1) (hi : i < cs.length) (hF : F.length = n - i) (hin : i ≤ n) : (cs.take o ++ F ++ cs.drop o2).take o1 ++ [u] ++ (cs.take o ++ F ++ cs.drop o2).drop (o1 + 1) = cs.take i ++ [u] ++ F ++ cs.drop (n + 1) := by
  subst ho1; subst ho; subst ho2
  have h1 : (cs.take (o1 + 1)).length = o1 + 1 := by rw [List.length_take]; omega
  rw [List.append_assoc (cs.take (o1 + 1)), List.take_append_of_le_length (by omega), List.take_take, Nat.min_eq_left (by omega), List.drop_left' h1]
  simp [List.append_assoc]
theorem C26 {w : World} {v : Value} {base bv i : Nat} {zs : List Int} {x : Int} (hO : IOwn base w v zs) (hBv : Blk w bv [.int .i64 x] 3) (hnv : ∀ b, v.ownBlock = some b → bv ≠ b) (hi : i ≤ zs.length) (hl : zs.length ≤ 100000) (hbase : base ≤ w.heap.size) :
    Rt Try.prog 26 [v, .int .i64 i, .slice (some ⟨bv, 0, none⟩) 1 1] w fun r w' => IOwn base w' r (zs.take i ++ x :: zs.drop i) ∧ Keep (fun k => some k ≠ v.ownBlock) w w' := by
  obtain ⟨ad, c, rfl, hcn⟩ := hO.form
  have hW := hWw
  have hFF := hFw
  have hE : Ext w w := Keep.refl _ _
  refine rt_body Try.func26 rfl Try.ntmps26 rfl ?_
  refine wc_seq ?_
  refine wc_region ?_
  refine wl_val hW rfl rfl (x_assign rfl) ?_
  refine wl_nil ?_
  refine nx_then ?_
  refine wc_seq ?_
  refine wc_region ?_
  refine wl_val hW rfl rfl (x_move rfl) ?_
  refine wl_val hW rfl rfl (x_move rfl) ?_
  refine wl_val hW rfl rfl (x_slicel (i := i) Try.underlying25 fl3.siz rfl rfl hi) ?_
  refine wl_nil ?_
  refine nx_then ?_
  refine wc_seq ?_
  refine wc_region ?_
  refine wl_val hW rfl rfl (x_move rfl) ?_
  refine wl_val hW rfl rfl (x_len Try.underlying25 rfl) ?_
  refine wl_val hW rfl rfl (x_assign rfl) ?_
  refine wl_nil ?_
  refine nx_then ?_
  refine wc_seq ?_
  refine wc_seq ?_
  refine wc_region ?_
  refine wl_val hW rfl rfl (x_move rfl) ?_
  refine wl_val hW rfl rfl (x_eqlF rfl rfl (by omega)) ?_
  refine wl_nil ?_
  refine nx_then ?_
  refine wc_false rfl ?_
  refine wc_skip ?_
  refine nx_then ?_
  refine wc_seq ?_
  refine wc_region ?_
  refine wl_val hW rfl rfl (x_move rfl) ?_
  refine wl_val hW rfl rfl (x_len Try.underlying25 rfl) ?_
  refine wl_val hW rfl rfl (x_assign rfl) ?_
  refine wl_nil ?_
  refine nx_then ?_
  refine wc_seq ?_
  refine wc_seq ?_
  refine wc_region ?_
  refine wl_val hW rfl rfl (x_move rfl) ?_
  refine wl_val hW rfl rfl (x_move rfl) ?_
  refine wl_val hW rfl rfl (x_eql rfl rfl) ?_
  refine wl_nil ?_
  refine nx_then ?_
  refine wc_dec rfl (fun hc => ?_) (fun hc => ?_)
  · obtain rfl : i = zs.length := by have h' : ((i : Nat) : Int) = zs.length := hc; omega
    refine wc_seq ?_
    refine wc_region ?_
    refine wl_val hW rfl rfl (x_move rfl) ?_
    refine wl_val hW rfl rfl (x_move rfl) ?_
    refine wl_appG (ys := [x]) Try.underlying25 info3 rfl (by decide) cellsI_len one_I hW rfl rfl rfl rfl hO rfl (src_blk hBv) (by simp; omega) (by decide) hbase ?_
    intro v2 wA hO2 hkA hcA
    refine wl_val hW rfl rfl (x_assign rfl) ?_
    refine wl_nil ?_
    refine nx_then ?_
    refine wc_ret ?_
    refine nx_then_ret ?_
    exact ends_ret (res_tmp Try.results26 rfl) ⟨by rw [List.take_length, List.drop_length]; exact hO2, hkA⟩
  · have hlt : i < zs.length := by have h' : ¬ ((i : Nat) : Int) = zs.length := hc; omega
    obtain ⟨g, cs, rfl, -, -, hcm, hB, hcl, hbg, hct⟩ := hO.blk cellsI_len (by omega)
    rw [Nat.mul_one] at hcl hct
    have hct2 : cs.take i = (zs.take i).flatMap cellsI := by rw [← gflat_take cellsI_len, ← hct, List.take_take, Nat.mul_one, Nat.min_eq_left (by omega)]
    have hdi : (cs.drop i).take (zs.length - i) = (zs.drop i).flatMap cellsI := by rw [← gflat_drop cellsI_len, ← hct, Nat.mul_one, List.drop_take]
    have hFl : ((zs.drop i).flatMap cellsI).length = zs.length - i := by rw [iflat_map, List.length_map, List.length_drop]
    refine wc_skip ?_
    refine nx_then ?_
    refine wc_seq ?_
    refine wc_seq ?_
    refine wc_region ?_
    refine wl_val hW rfl rfl (x_move rfl) ?_
    refine wl_val hW rfl rfl (x_move rfl) ?_
    refine wl_val hW rfl rfl (x_addn (i := zs.length) (j := 1) rfl rfl (by omega)) ?_
    refine wl_val hW rfl rfl (x_move rfl) ?_
    refine wl_val hW rfl rfl (x_cap rfl Try.underlying25 rfl) ?_
    refine wl_val hW rfl rfl (x_gtr rfl rfl) ?_
    refine wl_nil ?_
    refine nx_then ?_
    refine wc_dec rfl (fun hc => ?_) (fun hc => ?_)
    · refine wc_seq ?_
      refine wc_region ?_
      refine wl_val hW rfl rfl (x_move rfl) ?_
      refine wl_val hW rfl rfl (x_move rfl) ?_
      refine wl_val hW rfl rfl (x_slicehr (j := i) Try.underlying25 fl3.siz rfl rfl (by omega)) ?_
      refine wl_val hW rfl rfl (x_move rfl) ?_
      refine wl_val hW rfl rfl (x_move rfl) ?_
      refine wl_val hW rfl rfl (x_addn (i := zs.length) (j := 1) rfl rfl (by omega)) ?_
      refine wl_val hW rfl rfl (x_move rfl) ?_
      refine wl_val hW rfl rfl (x_subn (i := zs.length + 1) (j := i) rfl rfl (by omega) (by omega)) ?_
      have hcg : c < zs.length + 1 := by have h' : (c : Int) < ((zs.length + 1 : Nat) : Int) := hc; omega
      refine wl_appZ (k := zs.length + 1 - i) hW rfl rfl rfl rfl hB hcl (by omega) (by omega) (by omega) (by omega) ?_
      intro b2 c2 cs2 wZ hl2 hB2 hc2 hge2 hm2 ht2 hxZ
      refine wl_val hW rfl rfl (x_assign rfl) ?_
      refine wl_nil ?_
      refine nx_then ?_
      refine wc_seq ?_
      refine wc_region ?_
      refine wl_val hW rfl rfl (x_move rfl) ?_
      refine wl_val hW rfl rfl (x_move rfl) ?_
      refine wl_val hW rfl rfl (x_slicelr (i := i) Try.underlying25 fl3.siz rfl rfl (by omega) (by omega)) ?_
      refine wl_val hW rfl rfl (x_move rfl) ?_
      refine wl_copy (news := [.int .i64 x]) Try.underlying25 fl3.siz hW rfl rfl rfl rfl hB2 (minL rfl (by omega)) (src_blk (hBv.ext hxZ)) (fun u hu => by rw [List.mem_singleton.1 hu]; rfl) (by simp; omega) ?_
      intro wc hBc hkc
      have hxc : Ext w wc := Keep.store hxZ hkc hl2
      refine wl_nil ?_
      refine nx_then ?_
      refine wc_seq ?_
      refine wc_draw' 8 hW mixed (by kernel_rfl) (fun w0 hx0 => ?_)
      have hEw : Ext w w0 := hxc.trans hx0
      refine q_val rfl rfl (fun _ hx => x_move rfl) ?_
      refine q_val rfl rfl (fun _ hx => x_move rfl) ?_
      refine q_val rfl rfl (fun _ hx => x_move rfl) ?_
      refine q_val rfl rfl (fun _ hx => x_addn (i := i) (j := 1) rfl rfl (by omega)) ?_
      refine q_val rfl rfl (fun _ hx => x_slicelr (i := i + 1) Try.underlying25 fl3.siz rfl rfl (by omega) (by omega)) ?_
      refine q_val rfl rfl (fun _ hx => x_move rfl) ?_
      refine q_val rfl rfl (fun _ hx => x_move rfl) ?_
      refine q_val rfl rfl (fun _ hx => x_slicelr (i := i) Try.underlying25 fl3.siz rfl rfl (by omega) (by omega)) ?_
      refine q_nil (tail0 (fun wt hxt => ?_))
      have hBt := (hBc.ext hx0).ext hxt
      have hBg := hB.ext (hEw.trans hxt)
      refine wl_copy (news := (zs.drop i).flatMap cellsI) Try.underlying25 fl3.siz hW rfl rfl rfl rfl hBt (minL (by rw [hFl]) (by omega)) (by rw [← hdi]; have := blk_src (o := 0 + i * 1) (k := zs.length - i) hBg; rwa [Nat.zero_add, Nat.mul_one] at this ⊢) iflat_one (by rw [hFl]; simp; omega) ?_
      intro wd hBd hkd
      refine wl_nil ?_
      refine nx_then ?_
      refine wc_seq ?_
      refine wc_region ?_
      refine wl_val hW rfl rfl (x_move rfl) ?_
      refine wl_val hW rfl rfl (x_assign rfl) ?_
      refine wl_nil ?_
      refine nx_then ?_
      refine wc_ret ?_
      refine nx_then_ret ?_
      have hBf := hBd.cast (two1 (i := i) (n := zs.length) (by omega) (by omega) (by rw [hFl]; omega) (by omega) (by omega))
      obtain ⟨hf1, hf2⟩ := ins_cells (x := x) hlt (ht2.trans hct2) hc2 (by omega)
      have hxl : (zs.take i ++ x :: zs.drop i).length = i + (zs.length + 1 - i) := by simp; omega
      have hfin := gown_of_blk (xs := zs.take i ++ x :: zs.drop i) cellsI_len hBf (Nat.le_trans hbase hl2) (by rw [hxl]; omega) (by rw [Nat.mul_one]; exact hf1) hm2 hf2
      rw [hxl] at hfin
      have hxd : Ext w wd := Keep.store (hEw.trans hxt) hkd hl2
      exact ends_ret (res_tmp Try.results26 rfl) ⟨hfin, Keep.of_ext hxd⟩
    · have hcg : zs.length + 1 ≤ c := by have h' : ¬ (c : Int) < ((zs.length + 1 : Nat) : Int) := hc; omega
      refine wc_skip ?_
      refine nx_then ?_
      refine wc_seq ?_
      refine wc_region ?_
      refine wl_val hW rfl rfl (x_move rfl) ?_
      refine wl_val hW rfl rfl (x_move rfl) ?_
      refine wl_val hW rfl rfl (x_move rfl) ?_
      refine wl_val hW rfl rfl (x_addn (i := zs.length) (j := 1) rfl rfl (by omega)) ?_
      refine wl_val hW rfl rfl (x_slicehr (j := zs.length + 1) Try.underlying25 fl3.siz rfl rfl hcg) ?_
      refine wl_val hW rfl rfl (x_assign rfl) ?_
      refine wl_nil ?_
      refine nx_then ?_
      refine wc_seq ?_
      refine wc_seq ?_
      refine wc_region ?_
      refine wl_val hW rfl rfl (x_move rfl) ?_
      refine wl_val hW rfl rfl (x_move rfl) ?_
      refine wl_val hW rfl rfl (x_move rfl) ?_
      refine wl_val hW rfl rfl (x_move rfl) ?_
      refine wl_val hW rfl rfl (x_addn (i := i) (j := 1) rfl rfl (by omega)) ?_
      refine wl_val hW rfl rfl (x_slicelr (i := i + 1) Try.underlying25 fl3.siz rfl rfl (by omega) (by omega)) ?_
      refine wl_val hW rfl rfl (x_apart39 rfl rfl hBv hB (hnv g rfl) (by omega)) ?_
      refine wl_val hW rfl rfl (x_not rfl) ?_
      refine wl_nil ?_
      refine nx_then ?_
      refine wc_true rfl ?_
      refine wc_seq ?_
      refine wc_draw' 8 hW mixed (by kernel_rfl) (fun w0 hx0 => ?_)
      have hEw : Ext w w0 := hx0
      refine q_val rfl rfl (fun _ hx => x_move rfl) ?_
      refine q_val rfl rfl (fun _ hx => x_move rfl) ?_
      refine q_val rfl rfl (fun _ hx => x_move rfl) ?_
      refine q_val rfl rfl (fun _ hx => x_addn (i := i) (j := 1) rfl rfl (by omega)) ?_
      refine q_val rfl rfl (fun _ hx => x_slicelr (i := i + 1) Try.underlying25 fl3.siz rfl rfl (by omega) (by omega)) ?_
      refine q_val rfl rfl (fun _ hx => x_move rfl) ?_
      refine q_val rfl rfl (fun _ hx => x_move rfl) ?_
      refine q_val rfl rfl (fun _ hx => x_slicelr (i := i) Try.underlying25 fl3.siz rfl rfl (by omega) (by omega)) ?_
      refine q_nil (tail0 (fun wt hxt => ?_))
      have hBg := hB.ext (hEw.trans hxt)
      refine wl_copy (news := (zs.drop i).flatMap cellsI) Try.underlying25 fl3.siz hW rfl rfl rfl rfl hBg (minR (by rw [hFl]; omega) (by omega)) (by rw [← hdi]; have := blk_src (o := 0 + i * 1) (k := zs.length - i) hBg; rwa [Nat.zero_add, Nat.mul_one] at this ⊢) iflat_one (by rw [hFl]; omega) ?_
      intro wc hBc hkc
      have hBvc := (hBv.ext (hEw.trans hxt)).keep hkc (hnv g rfl)
      refine wl_nil ?_
      refine nx_then ?_
      refine wc_seq ?_
      refine wc_region ?_
      refine wl_val hW rfl rfl (x_move rfl) ?_
      refine wl_val hW rfl rfl (x_move rfl) ?_
      refine wl_val hW rfl rfl (x_slicelr (i := i) Try.underlying25 fl3.siz rfl rfl (by omega) (by omega)) ?_
      refine wl_val hW rfl rfl (x_move rfl) ?_
      refine wl_copy (news := [.int .i64 x]) Try.underlying25 fl3.siz hW rfl rfl rfl rfl hBc (minL rfl (by omega)) (src_blk hBvc) (fun u hu => by rw [List.mem_singleton.1 hu]; rfl) (by simp only [List.length_append, List.length_take, List.length_drop, hFl, List.length_singleton]; omega) ?_
      intro wd hBd hkd
      refine wl_nil ?_
      refine nx_then ?_
      refine wc_seq ?_
      refine wc_region ?_
      refine wl_val hW rfl rfl (x_move rfl) ?_
      refine wl_val hW rfl rfl (x_assign rfl) ?_
      refine wl_nil ?_
      refine nx_then ?_
      refine wc_ret ?_
      refine nx_then_ret ?_
      have hBf := hBd.cast (two2 (i := i) (n := zs.length) (by omega) (by omega) (by rw [hFl]; omega) (by omega) hFl (by omega))
      obtain ⟨hf1, hf2⟩ := ins_cells (x := x) hlt hct2 hcl hcg
      have hxl : (zs.take i ++ x :: zs.drop i).length = zs.length + 1 := by simp; omega
      have hfin := gown_of_blk (xs := zs.take i ++ x :: zs.drop i) cellsI_len hBf hbg (by rw [hxl]; omega) (by rw [Nat.mul_one]; exact hf1) hcm hf2
      rw [hxl] at hfin
      have hkf : Keep (· ≠ g) w wd := ((Keep.of_ext (hEw.trans hxt)).trans hkc).trans hkd
      exact ends_ret (res_tmp Try.results26 rfl) ⟨hfin, hkf.mono fun k _ h e => h (by rw [e]; rfl)⟩
end Go.Proofs.Ytiaikajibefieaa.K

