/- Walks: numbers checked, members found, rows cloned. -/
import Derived.Test.YtiaikajibefieaaTc
namespace Go.Proofs.Ytiaikajibefieaa.K
open Go Go.RowKit
set_option linter.unusedVariables false
set_option linter.unusedSimpArgs false
def nodeB (n : Int) : Bool := decide (0 ≤ n ∧ n < 16)
def bornB (n : Int) : Bool := decide (0 ≤ n ∧ n ≤ 1099511627776)
theorem C20 {w : World} {n : Int} : Rt Try.prog 20 [.int .i64 n] w fun r w' => r = .bool (nodeB n) ∧ Ext w w' := by
  have hW := hWw
  have hFF := hFw
  have hE : Ext w w := Keep.refl _ _
  refine rt_body Try.func20 rfl Try.ntmps20 rfl ?_
  refine wc_seq ?_
  refine wc_region ?_
  refine wl_val hW rfl rfl (x_assign rfl) ?_
  refine wl_nil ?_
  refine nx_then ?_
  refine wc_seq ?_
  refine wc_cut [(2, .bool (nodeB n))] (fun w' => w' = w) ?_ ?_
  · refine wc_region ?_
    refine wl_val hW rfl rfl (x_move rfl) ?_
    refine wl_val hW rfl rfl (x_geq rfl rfl) ?_
    refine wl_val hW rfl rfl (x_move rfl) ?_
    refine wl_dcases (d := 5) rfl (fun hg5 => ?_) (fun hg5 => ?_)
    · refine wl_val hW rfl rfl (x_move rfl) ?_
      refine wl_val hW rfl rfl (x_lss rfl rfl) ?_
      refine wl_val hW rfl rfl (x_pickT rfl rfl) ?_
      refine wl_val hW rfl rfl (x_assign rfl) ?_
      refine wl_nil ?_
      exact nx_cut (by rw [show nodeB n = decide (n < 16) from by unfold nodeB; simp [hg5]]; repeat (first | exact sub_nil | refine sub_cons rfl ?_)) rfl
    · refine wl_off hW rfl rfl ?_
      refine wl_off hW rfl rfl ?_
      refine wl_val hW rfl rfl (x_pickF rfl rfl) ?_
      refine wl_val hW rfl rfl (x_assign rfl) ?_
      refine wl_nil ?_
      exact nx_cut (by rw [show nodeB n = false from by unfold nodeB; simp [hg5]]; repeat (first | exact sub_nil | refine sub_cons rfl ?_)) rfl
  · rintro w' rfl
    refine nx_then ?_
    refine wc_ret ?_
    exact ends_ret (res_tmp Try.results20 rfl) ⟨rfl, hE⟩
theorem C21 {w : World} {n : Int} : Rt Try.prog 21 [.int .i64 n] w fun r w' => r = .bool (bornB n) ∧ Ext w w' := by
  have hW := hWw
  have hFF := hFw
  have hE : Ext w w := Keep.refl _ _
  refine rt_body Try.func21 rfl Try.ntmps21 rfl ?_
  refine wc_seq ?_
  refine wc_region ?_
  refine wl_val hW rfl rfl (x_assign rfl) ?_
  refine wl_nil ?_
  refine nx_then ?_
  refine wc_seq ?_
  refine wc_cut [(2, .bool (bornB n))] (fun w' => w' = w) ?_ ?_
  · refine wc_region ?_
    refine wl_val hW rfl rfl (x_move rfl) ?_
    refine wl_val hW rfl rfl (x_geq rfl rfl) ?_
    refine wl_val hW rfl rfl (x_move rfl) ?_
    refine wl_dcases (d := 5) rfl (fun hg5 => ?_) (fun hg5 => ?_)
    · refine wl_val hW rfl rfl (x_move rfl) ?_
      refine wl_val hW rfl rfl (x_leq rfl rfl) ?_
      refine wl_val hW rfl rfl (x_pickT rfl rfl) ?_
      refine wl_val hW rfl rfl (x_assign rfl) ?_
      refine wl_nil ?_
      exact nx_cut (by rw [show bornB n = decide (n ≤ 1099511627776) from by unfold bornB; simp [hg5]]; repeat (first | exact sub_nil | refine sub_cons rfl ?_)) rfl
    · refine wl_off hW rfl rfl ?_
      refine wl_off hW rfl rfl ?_
      refine wl_val hW rfl rfl (x_pickF rfl rfl) ?_
      refine wl_val hW rfl rfl (x_assign rfl) ?_
      refine wl_nil ?_
      exact nx_cut (by rw [show bornB n = false from by unfold bornB; simp [hg5]]; repeat (first | exact sub_nil | refine sub_cons rfl ?_)) rfl
  · rintro w' rfl
    refine nx_then ?_
    refine wc_ret ?_
    exact ends_ret (res_tmp Try.results21 rfl) ⟨rfl, hE⟩
theorem C38 {w : World} {m : Mb} : Rt Try.prog 38 [.agg (cellsM m).toArray] w fun r w' => r = .bool m.w ∧ Ext w w' := by
  have hW := hWw
  have hFF := hFw
  have hE : Ext w w := Keep.refl _ _
  refine rt_body Try.func38 rfl Try.ntmps38 rfl ?_
  refine wc_seq ?_
  refine wc_region ?_
  refine wl_box hW rfl rfl rfl rfl ?_
  intro b1 w1 hl1 hB1 hx1
  have g1 : w.heap.size ≤ b1 := Nat.le_trans hE.size hl1
  replace hE := hE.trans hx1
  refine wl_val hW rfl rfl (x_assign rfl) ?_
  refine wl_nil ?_
  refine nx_then ?_
  refine wc_seq ?_
  refine wc_region ?_
  refine wl_val hW rfl rfl (x_fieldAddr Try.underlying35 rfl fl4.siz rfl) ?_
  refine wl_val hW rfl rfl (x_load fl4 rfl (hB1.cell (o := 2) rfl)) ?_
  refine wl_val hW rfl rfl (x_assign rfl) ?_
  refine wl_nil ?_
  refine nx_then ?_
  refine wc_ret ?_
  exact ends_ret (res_tmp Try.results38 rfl) ⟨rfl, hE⟩
theorem C31 {w : World} {m : Mb} {n : Int} {b : Nat} (h3 : Blk w b [.int .i64 n] 3) : Rt Try.prog 31 [.agg (cellsM m).toArray, .pointer (some ⟨b, 0, none⟩)] w fun r w' => r = .bool (decide (m.n = n)) ∧ Ext w w' := by
  have hW := hWw
  have hFF := hFw
  have hE : Ext w w := Keep.refl _ _
  refine rt_body Try.func31 rfl Try.ntmps31 rfl ?_
  refine wc_seq ?_
  refine wc_region ?_
  refine wl_box hW rfl rfl rfl rfl ?_
  intro b2 w2 hl2 hB2 hx2
  have g2 : w.heap.size ≤ b2 := Nat.le_trans hE.size hl2
  replace hE := hE.trans hx2
  refine wl_val hW rfl rfl (x_assign rfl) ?_
  refine wl_nil ?_
  refine nx_then ?_
  refine wc_seq ?_
  refine wc_region ?_
  refine wl_val hW rfl rfl (x_fieldAddr Try.underlying35 rfl fl3.siz rfl) ?_
  refine wl_val hW rfl rfl (x_load fl3 rfl (hB2.cell (o := 0) rfl)) ?_
  refine wl_val hW rfl rfl (x_load fl3 rfl ((h3.ext hE).cell rfl)) ?_
  refine wl_val hW rfl rfl (x_eql rfl rfl) ?_
  refine wl_val hW rfl rfl (x_assign rfl) ?_
  refine wl_nil ?_
  refine nx_then ?_
  refine wc_ret ?_
  exact ends_ret (res_tmp Try.results31 rfl) ⟨rfl, hE⟩
theorem C29 {w : World} {o m : Mb} {b : Nat} (h5 : Blk w b (cellsM m) 35) : Rt Try.prog 29 [.agg (cellsM o).toArray, .pointer (some ⟨b, 0, none⟩)] w fun r w' => r = .bool (decide (o.n = m.n)) ∧ Ext w w' := by
  have hW := hWw
  have hFF := hFw
  have hE : Ext w w := Keep.refl _ _
  refine rt_body Try.func29 rfl Try.ntmps29 rfl ?_
  refine wc_seq ?_
  refine wc_region ?_
  refine wl_box hW rfl rfl rfl rfl ?_
  intro b2 w2 hl2 hB2 hx2
  have g2 : w.heap.size ≤ b2 := Nat.le_trans hE.size hl2
  replace hE := hE.trans hx2
  refine wl_val hW rfl rfl (x_assign rfl) ?_
  refine wl_nil ?_
  refine nx_then ?_
  refine wc_seq ?_
  refine wc_region ?_
  refine wl_val hW rfl rfl (x_fieldAddr Try.underlying35 rfl fl3.siz rfl) ?_
  refine wl_val hW rfl rfl (x_load fl3 rfl (hB2.cell (o := 0) rfl)) ?_
  refine wl_val hW rfl rfl (x_fieldAddr Try.underlying35 rfl fl3.siz rfl) ?_
  refine wl_val hW rfl rfl (x_load fl3 rfl ((h5.ext hE).cell (o := 0) rfl)) ?_
  refine wl_val hW rfl rfl (x_eql rfl rfl) ?_
  refine wl_val hW rfl rfl (x_assign rfl) ?_
  refine wl_nil ?_
  refine nx_then ?_
  refine wc_ret ?_
  exact ends_ret (res_tmp Try.results29 rfl) ⟨rfl, hE⟩
/-- Where the first stands of which pr holds. -/
def idxP (pr : Mb → Bool) (ms : List Mb) : Int := match ms.findIdx? pr with
  | some i => (i : Int)
  | none => -1
theorem idxP_hit {pr : Mb → Bool} {ms : List Mb} {s : Nat} (h : s < ms.length) (hp : pr ms[s] = true) (hno : ∀ (j : Nat) (h : j < ms.length), j < s → pr ms[j] = false) : idxP pr ms = s := by
  have : ms.findIdx? pr = some s := List.findIdx?_eq_some_iff_getElem.2 ⟨h, hp, fun j hj => by rw [hno j (by omega) hj]; exact Bool.false_ne_true⟩
  unfold idxP; rw [this]
theorem idxP_miss {pr : Mb → Bool} {ms : List Mb} (hno : ∀ t ∈ ms, pr t = false) : idxP pr ms = -1 := by
  have : ms.findIdx? pr = none := List.findIdx?_eq_none_iff.2 hno
  unfold idxP; rw [this]
theorem idxP_cases (pr : Mb → Bool) (ms : List Mb) : (idxP pr ms = -1 ∧ ∀ t ∈ ms, pr t = false) ∨ ∃ (s : Nat) (h : s < ms.length), idxP pr ms = s ∧ pr ms[s] = true ∧ ∀ (j : Nat) (h : j < ms.length), j < s → pr ms[j] = false := by
  cases hf : ms.findIdx? pr with
  | none => have h := List.findIdx?_eq_none_iff.1 hf; exact .inl ⟨idxP_miss h, h⟩
  | some s =>
    obtain ⟨h, hp, hno⟩ := List.findIdx?_eq_some_iff_getElem.1 hf
    have hno' : ∀ (j : Nat) (h : j < ms.length), j < s → pr ms[j] = false := fun j h hj => by have := hno j hj; simpa using this
    exact .inr ⟨s, h, idxP_hit h hp hno', hp, hno'⟩
theorem any_idx (pr : Mb → Bool) (ms : List Mb) : decide ((0 : Int) ≤ idxP pr ms) = ms.any pr := by
  rcases idxP_cases pr ms with ⟨e, h⟩ | ⟨s, hs, e, hp, -⟩
  · rw [e]
    have : ms.any pr = false := List.any_eq_false.2 fun x hx => by rw [h x hx]; exact Bool.false_ne_true
    rw [this]; rfl
  · rw [e]
    have : ms.any pr = true := List.any_eq_true.2 ⟨_, List.getElem_mem hs, hp⟩
    rw [this]; simp
theorem C30 {A : Nat → Prop} {w : World} {v : Value} {ms : List Mb} {fid : Nat} {cap : List Value} {pr : Mb → Bool} (hR : MRow A w v ms) (en : Enters Try.prog fid) (hF : ∀ (m : Mb) (w' : World), Ext w w' → Rt Try.prog fid (.agg (cellsM m).toArray :: cap) w' fun r w'' => r = .bool (pr m) ∧ Ext w' w'') :
    Rt Try.prog 30 [v, .func (.func fid) #[] cap.toArray] w fun r w' => r = .int .i64 (idxP pr ms) ∧ Ext w w' := by
  obtain ⟨ad, cp, rfl, hcap, hlen⟩ := hR.form
  have hW := hWw
  have hFF := hFw
  have hE : Ext w w := Keep.refl _ _
  refine rt_body Try.func30 rfl Try.ntmps30 rfl ?_
  refine wc_seq ?_
  refine wc_region ?_
  refine wl_val hW rfl rfl (x_assign rfl) ?_
  refine wl_nil ?_
  refine nx_then ?_
  refine wc_seq ?_
  refine wc_seq ?_
  refine wc_region ?_
  refine wl_val hW rfl rfl (x_move rfl) ?_
  refine wl_val hW rfl rfl (x_len Try.underlying24 rfl) ?_
  refine wl_val hW rfl rfl (x_move rfl) ?_
  refine wl_nil ?_
  refine nx_then ?_
  refine wc_block ?_
  refine wc_loop (σ := Nat) (fun s => [(0, .slice ad ms.length cp), (1, .func (.func fid) #[] cap.toArray), (7, .int .i64 (ms.length : Nat)), (8, .int .i64 (s : Nat))]) (fun s w' => (s ≤ ms.length ∧ ∀ (j : Nat) (h : j < ms.length), j < s → pr ms[j] = false) ∧ Ext w w') (fun s => ms.length - s) 0 ?_ ?_ ?_
  · exact ⟨⟨Nat.zero_le _, fun j _ h => absurd h (Nat.not_lt_zero _)⟩, hE⟩
  · repeat (first | exact sub_nil | refine sub_cons rfl ?_)
  · rintro s wr ⟨⟨hs, hno⟩, hE⟩
    refine wc_seq ?_
    refine wc_region ?_
    refine wl_val hW rfl rfl (x_lss rfl rfl) ?_
    refine wl_nil ?_
    refine nx_then ?_
    refine wc_seq ?_
    refine wc_dec rfl (fun hc => ?_) (fun hc => ?_)
    · refine wc_skip ?_
      refine nx_then ?_
      refine wc_seq ?_
      refine wc_block ?_
      refine wc_seq ?_
      refine wc_region ?_
      refine wl_val hW rfl rfl (x_move rfl) ?_
      refine wl_val hW rfl rfl (x_assign rfl) ?_
      refine wl_nil ?_
      refine nx_then ?_
      refine wc_seq ?_
      refine wc_region ?_
      have hlt : s < ms.length := by omega
      obtain ⟨b, o, cap', e1, hA, hC14⟩ := (hR.ext hE).at s hlt
      cases e1
      refine wl_val hW rfl rfl (x_move rfl) ?_
      refine wl_val hW rfl rfl (x_move rfl) ?_
      refine wl_val hW rfl rfl (x_move rfl) ?_
      refine wl_val hW rfl rfl (x_indexAddr Try.underlying24 ag35.siz rfl rfl (by omega) (by omega)) ?_
      refine wl_val hW rfl rfl (x_loadA ag35 rfl hC14 rfl) ?_
      refine wl_call hW rfl rfl (x_callv (cap := cap) en rfl rfl) ((hF _ _ hE).inF hFF) ?_
      rintro _ wC ⟨rfl, hxC⟩
      replace hE := hE.trans hxC
      refine wl_nil ?_
      refine nx_then ?_
      refine wc_bool rfl (fun hc => ?_) (fun hc => ?_)
      · refine wc_seq ?_
        refine wc_region ?_
        refine wl_val hW rfl rfl (x_move rfl) ?_
        refine wl_val hW rfl rfl (x_assign rfl) ?_
        refine wl_nil ?_
        refine nx_then ?_
        refine wc_ret ?_
        refine nx_block_ret ?_
        refine nx_then_ret ?_
        refine nx_then_ret ?_
        refine nx_block_ret ?_
        refine nx_then_ret ?_
        exact ends_ret (res_tmp Try.results30 rfl) ⟨by rw [idxP_hit hlt hc hno], hE⟩
      · refine wc_skip ?_
        refine nx_block ?_
        refine nx_then ?_
        refine wc_region ?_
        refine wl_val hW rfl rfl (x_inc (s := s) rfl (by omega)) ?_
        refine wl_val hW rfl rfl (x_move rfl) ?_
        refine wl_nil ?_
        exact nx_next (s + 1) (by omega) ⟨⟨hlt, fun j h hj => by rcases Nat.lt_succ_iff_lt_or_eq.1 hj with hj | rfl; exact hno j h hj; exact hc⟩, hE⟩ (by repeat (first | exact sub_nil | refine sub_cons rfl ?_))
    · refine wc_exit ?_
      refine nx_then_exit ?_
      refine nx_then_exit ?_
      refine nx_block_exit ?_
      refine nx_then ?_
      refine wc_seq ?_
      refine wc_region ?_
      refine wl_val hW rfl rfl (x_assign rfl) ?_
      refine wl_nil ?_
      refine nx_then ?_
      refine wc_ret ?_
      exact ends_ret (res_tmp Try.results30 rfl) ⟨by rw [idxP_miss fun t ht => by obtain ⟨j, hj, rfl⟩ := List.getElem_of_mem ht; exact hno j hj (by omega)], hE⟩
theorem C28 {A : Nat → Prop} {w : World} {v : Value} {ms : List Mb} {fid : Nat} {cap : List Value} {pr : Mb → Bool} (hR : MRow A w v ms) (en : Enters Try.prog fid) (hF : ∀ (m : Mb) (w' : World), Ext w w' → Rt Try.prog fid (.agg (cellsM m).toArray :: cap) w' fun r w'' => r = .bool (pr m) ∧ Ext w' w'') :
    Rt Try.prog 28 [v, .func (.func fid) #[] cap.toArray] w fun r w' => r = .bool (ms.any pr) ∧ Ext w w' := by
  have hW := hWw
  have hFF := hFw
  have hE : Ext w w := Keep.refl _ _
  refine rt_body Try.func28 rfl Try.ntmps28 rfl ?_
  refine wc_seq ?_
  refine wc_region ?_
  refine wl_val hW rfl rfl (x_assign rfl) ?_
  refine wl_nil ?_
  refine nx_then ?_
  refine wc_seq ?_
  refine wc_region ?_
  refine wl_val hW rfl rfl (x_move rfl) ?_
  refine wl_val hW rfl rfl (x_move rfl) ?_
  refine wl_call hW rfl rfl (x_call en30 rfl) ((C30 (hR.ext hE) en (fun m w' hx => hF m w' (hE.trans hx))).inF hFF) ?_
  rintro _ wC ⟨rfl, hxC⟩
  replace hE := hE.trans hxC
  refine wl_val hW rfl rfl (x_geq rfl rfl) ?_
  refine wl_val hW rfl rfl (x_assign rfl) ?_
  refine wl_nil ?_
  refine nx_then ?_
  refine wc_ret ?_
  exact ends_ret (res_tmp Try.results28 rfl) ⟨by rw [← any_idx], hE⟩
theorem C25 {A : Nat → Prop} {w : World} {v : Value} {ms : List Mb} (hR : MRow A w v ms) : Rt Try.prog 25 [v] w fun r w' => r = .bool (ms.any (·.w)) ∧ Ext w w' := by
  have hW := hWw
  have hFF := hFw
  have hE : Ext w w := Keep.refl _ _
  refine rt_body Try.func25 rfl Try.ntmps25 rfl ?_
  refine wc_seq ?_
  refine wc_region ?_
  refine wl_val hW rfl rfl (x_assign rfl) ?_
  refine wl_nil ?_
  refine nx_then ?_
  refine wc_seq ?_
  refine wc_region ?_
  refine wl_val hW rfl rfl (x_move rfl) ?_
  refine wl_call hW rfl rfl (x_call en28 rfl) ((C28 (cap := []) (hR.ext hE) en38 (fun m w' hx => C38)).inF hFF) ?_
  rintro _ wC ⟨rfl, hxC⟩
  replace hE := hE.trans hxC
  refine wl_val hW rfl rfl (x_assign rfl) ?_
  refine wl_nil ?_
  refine nx_then ?_
  refine wc_ret ?_
  exact ends_ret (res_tmp Try.results25 rfl) ⟨rfl, hE⟩
theorem C10 {A : Nat → Prop} {w : World} {cv sv : Value} {e n : Int} {ms : List Mb} (hR : MRow A w cv ms) : Rt Try.prog 10 [.agg #[.int .i64 e, cv, sv], .int .i64 n] w fun r w' => r = .int .i64 (idxP (fun m => decide (m.n = n)) ms) ∧ Ext w w' := by
  have hW := hWw
  have hFF := hFw
  have hE : Ext w w := Keep.refl _ _
  refine rt_body Try.func10 rfl Try.ntmps10 rfl ?_
  refine wc_seq ?_
  refine wc_region ?_
  refine wl_box hW rfl rfl rfl rfl ?_
  intro b2 w2 hl2 hB2 hx2
  have g2 : w.heap.size ≤ b2 := Nat.le_trans hE.size hl2
  replace hE := hE.trans hx2
  refine wl_box hW rfl rfl rfl rfl ?_
  intro b3 w3 hl3 hB3 hx3
  have g3 : w.heap.size ≤ b3 := Nat.le_trans hE.size hl3
  have n3_2 : b3 ≠ b2 := Nat.ne_of_gt (Nat.lt_of_lt_of_le hB2.lt hl3)
  replace hB2 := hB2.ext hx3
  replace hE := hE.trans hx3
  refine wl_val hW rfl rfl (x_assign rfl) ?_
  refine wl_nil ?_
  refine nx_then ?_
  refine wc_seq ?_
  refine wc_region ?_
  refine wl_val hW rfl rfl (x_fieldAddr Try.underlying27 rfl fl24.siz rfl) ?_
  refine wl_val hW rfl rfl (x_load fl24 rfl (hB2.cell (o := 1) rfl)) ?_
  refine wl_val hW rfl rfl (x_makeFunc (xs := [.tmp 3]) rfl) ?_
  refine wl_call hW rfl rfl (x_call en30 rfl) ((C30 (cap := [.pointer (some ⟨b3, 0, none⟩)]) (hR.ext hE) en31 (fun m w' hx => C31 (hB3.ext hx))).inF hFF) ?_
  rintro _ wC ⟨rfl, hxC⟩
  replace hB2 := hB2.ext hxC
  replace hB3 := hB3.ext hxC
  replace hE := hE.trans hxC
  refine wl_val hW rfl rfl (x_assign rfl) ?_
  refine wl_nil ?_
  refine nx_then ?_
  refine wc_ret ?_
  exact ends_ret (res_tmp Try.results10 rfl) ⟨rfl, hE⟩
def fewB (n1 n2 : Nat) : Bool := decide ((n1 : Int) ≤ 1000 ∧ (n2 : Int) ≤ 1000)
theorem C11 {w : World} {e : Int} {a1 a2 : Option Addr} {n1 n2 c1 c2 : Nat} : Rt Try.prog 11 [.agg #[.int .i64 e, .slice a1 n1 c1, .slice a2 n2 c2]] w fun r w' => r = .bool (fewB n1 n2) ∧ Ext w w' := by
  have hW := hWw
  have hFF := hFw
  have hE : Ext w w := Keep.refl _ _
  refine rt_body Try.func11 rfl Try.ntmps11 rfl ?_
  refine wc_seq ?_
  refine wc_region ?_
  refine wl_box hW rfl rfl rfl rfl ?_
  intro b1 w1 hl1 hB1 hx1
  have g1 : w.heap.size ≤ b1 := Nat.le_trans hE.size hl1
  replace hE := hE.trans hx1
  refine wl_val hW rfl rfl (x_assign rfl) ?_
  refine wl_nil ?_
  refine nx_then ?_
  refine wc_seq ?_
  refine wc_cut [(2, .bool (fewB n1 n2))] (fun w' => w' = w1) ?_ ?_
  · refine wc_region ?_
    refine wl_val hW rfl rfl (x_fieldAddr Try.underlying27 rfl fl24.siz rfl) ?_
    refine wl_val hW rfl rfl (x_load fl24 rfl (hB1.cell (o := 1) rfl)) ?_
    refine wl_val hW rfl rfl (x_len Try.underlying24 rfl) ?_
    refine wl_val hW rfl rfl (x_leq rfl rfl) ?_
    refine wl_val hW rfl rfl (x_move rfl) ?_
    refine wl_dcases (d := 7) rfl (fun hg7 => ?_) (fun hg7 => ?_)
    · refine wl_val hW rfl rfl (x_fieldAddr Try.underlying27 rfl fl25.siz rfl) ?_
      refine wl_val hW rfl rfl (x_load fl25 rfl (hB1.cell (o := 2) rfl)) ?_
      refine wl_val hW rfl rfl (x_len Try.underlying25 rfl) ?_
      refine wl_val hW rfl rfl (x_leq rfl rfl) ?_
      refine wl_val hW rfl rfl (x_pickT rfl rfl) ?_
      refine wl_val hW rfl rfl (x_assign rfl) ?_
      refine wl_nil ?_
      exact nx_cut (by rw [show fewB n1 n2 = decide ((n2 : Int) ≤ 1000) from by unfold fewB; simp [hg7]]; repeat (first | exact sub_nil | refine sub_cons rfl ?_)) rfl
    · refine wl_off hW rfl rfl ?_
      refine wl_off hW rfl rfl ?_
      refine wl_off hW rfl rfl ?_
      refine wl_off hW rfl rfl ?_
      refine wl_val hW rfl rfl (x_pickF rfl rfl) ?_
      refine wl_val hW rfl rfl (x_assign rfl) ?_
      refine wl_nil ?_
      exact nx_cut (by rw [show fewB n1 n2 = false from by unfold fewB; simp [hg7]]; repeat (first | exact sub_nil | refine sub_cons rfl ?_)) rfl
  · rintro w' rfl
    refine nx_then ?_
    refine wc_ret ?_
    exact ends_ret (res_tmp Try.results11 rfl) ⟨rfl, hE⟩
theorem C42 {w : World} {x : Int} : Rt Try.prog 42 [.int .i64 x] w fun r w' => r = .bool false ∧ Ext w w' := by
  have hW := hWw
  have hFF := hFw
  have hE : Ext w w := Keep.refl _ _
  refine rt_body Try.func42 rfl Try.ntmps42 rfl ?_
  refine wc_seq ?_
  refine wc_region ?_
  refine wl_val hW rfl rfl (x_assign rfl) ?_
  refine wl_nil ?_
  refine nx_then ?_
  refine wc_seq ?_
  refine wc_region ?_
  refine wl_val hW rfl rfl (x_move rfl) ?_
  refine wl_val hW rfl rfl (x_move rfl) ?_
  refine wl_val hW rfl rfl (x_neqF rfl rfl rfl) ?_
  refine wl_val hW rfl rfl (x_assign rfl) ?_
  refine wl_nil ?_
  refine nx_then ?_
  refine wc_ret ?_
  exact ends_ret (res_tmp Try.results42 rfl) ⟨rfl, hE⟩
theorem C37 {w : World} {x : Int} : Rt Try.prog 37 [.int .i64 x] w fun r w' => r = .bool false ∧ Ext w w' := by
  have hW := hWw
  have hFF := hFw
  have hE : Ext w w := Keep.refl _ _
  refine rt_body Try.func37 rfl Try.ntmps37 rfl ?_
  refine wc_seq ?_
  refine wc_region ?_
  refine wl_val hW rfl rfl (x_assign rfl) ?_
  refine wl_nil ?_
  refine nx_then ?_
  refine wc_seq ?_
  refine wc_region ?_
  refine wl_val hW rfl rfl (x_move rfl) ?_
  refine wl_val hW rfl rfl (x_move rfl) ?_
  refine wl_val hW rfl rfl (x_neqF rfl rfl rfl) ?_
  refine wl_val hW rfl rfl (x_assign rfl) ?_
  refine wl_nil ?_
  refine nx_then ?_
  refine wc_ret ?_
  exact ends_ret (res_tmp Try.results37 rfl) ⟨rfl, hE⟩
theorem C36 {w : World} {x y : Int} : Rt Try.prog 36 [.int .i64 x, .int .i64 y] w fun r w' => r = .bool (decide (x < y)) ∧ Ext w w' := by
  have hW := hWw
  have hFF := hFw
  have hE : Ext w w := Keep.refl _ _
  refine rt_body Try.func36 rfl Try.ntmps36 rfl ?_
  refine wc_seq ?_
  refine wc_region ?_
  refine wl_val hW rfl rfl (x_assign rfl) ?_
  refine wl_nil ?_
  refine nx_then ?_
  refine wc_seq ?_
  refine wc_cut [(4, .bool (decide (x < y)))] (fun w' => Ext w w') ?_ ?_
  · refine wc_region ?_
    refine wl_val hW rfl rfl (x_move rfl) ?_
    refine wl_call hW rfl rfl (x_call en42 rfl) ((C42).inF hFF) ?_
    rintro _ wC ⟨rfl, hxC⟩
    replace hE := hE.trans hxC
    refine wl_val hW rfl rfl (x_move rfl) ?_
    refine wl_off hW rfl rfl ?_
    refine wl_off hW rfl rfl ?_
    refine wl_off hW rfl rfl ?_
    refine wl_val hW rfl rfl (x_pickF rfl rfl) ?_
    refine wl_val hW rfl rfl (x_move rfl) ?_
    refine wl_val hW rfl rfl (x_move rfl) ?_
    refine wl_val hW rfl rfl (x_move rfl) ?_
    refine wl_val hW rfl rfl (x_lss rfl rfl) ?_
    refine wl_val hW rfl rfl (x_pickF rfl rfl) ?_
    refine wl_val hW rfl rfl (x_assign rfl) ?_
    refine wl_nil ?_
    exact nx_cut (by repeat (first | exact sub_nil | refine sub_cons rfl ?_)) hE
  · rintro w' hE
    refine nx_then ?_
    refine wc_ret ?_
    exact ends_ret (res_tmp Try.results36 rfl) ⟨rfl, hE⟩
/-- A row without an address is empty. -/
theorem GRow.nil {α : Type} {sz : Nat} {enc : α → List Value} {A : Nat → Prop} {w : World} {n c : Nat} {xs : List α} (h : GRow sz enc A w (.slice none n c) xs) : xs = [] := by
  obtain ⟨ad, cap, e, h1, h2, h3⟩ := h
  cases e
  refine Decidable.byContradiction fun hne => ?_
  obtain ⟨b, o, e, -⟩ := h3 hne
  cases e
theorem C34 {A : Nat → Prop} {w : World} {v : Value} {ms : List Mb} (hR : MRow A w v ms) : Rt Try.prog 34 [v] w fun r w' => MOwn w.heap.size w' r ms ∧ Ext w w' := by
  obtain ⟨ad, cp, rfl, hcap, hlen⟩ := hR.form
  have hW := hWw
  have hFF := hFw
  have hE : Ext w w := Keep.refl _ _
  refine rt_body Try.func34 rfl Try.ntmps34 rfl ?_
  refine wc_seq ?_
  refine wc_region ?_
  refine wl_val hW rfl rfl (x_assign rfl) ?_
  refine wl_nil ?_
  refine nx_then ?_
  refine wc_seq ?_
  refine wc_seq ?_
  refine wc_region ?_
  refine wl_val hW rfl rfl (x_move rfl) ?_
  refine wl_val hW rfl rfl (x_nilEq Try.underlying24 rfl rfl) ?_
  refine wl_nil ?_
  refine nx_then ?_
  refine wc_bool rfl (fun hc => ?_) (fun hc => ?_)
  · have hms : ms = [] := by cases ad; (exact hR.nil); (cases hc)
    refine wc_seq ?_
    refine wc_region ?_
    refine wl_val hW rfl rfl (x_assign rfl) ?_
    refine wl_nil ?_
    refine nx_then ?_
    refine wc_ret ?_
    refine nx_then_ret ?_
    exact ends_ret (res_tmp Try.results34 rfl) ⟨by rw [hms]; exact gown_nil, hE⟩
  · refine wc_skip ?_
    refine nx_then ?_
    refine wc_seq ?_
    refine wc_region ?_
    refine wl_buildSlice (parts := []) hW rfl rfl Try.underlying24 ag35.siz Try.zeroValue35 rfl rfl rfl (by omega) ?_
    intro b5 w5 hl5 hB5 hx5
    have g5 : w.heap.size ≤ b5 := Nat.le_trans hE.size hl5
    replace hE := hE.trans hx5
    refine wl_val hW rfl rfl (x_move rfl) ?_
    refine wl_appendE (base := w.heap.size) Try.underlying24 info35 rfl (by decide) hW rfl rfl rfl rfl hB5 g5 (gflat_len cellsM_len ms) (grow_src cellsM_len (by decide) (hR.ext hE)) mflat_one hlen (by decide) ?_
    intro v7 wA hO hxA
    replace hE := hE.trans hxA
    refine wl_val hW rfl rfl (x_assign rfl) ?_
    refine wl_nil ?_
    refine nx_then ?_
    refine wc_ret ?_
    exact ends_ret (res_tmp Try.results34 rfl) ⟨hO, hE⟩
theorem C35 {A : Nat → Prop} {w : World} {v : Value} {zs : List Int} (hR : IRow A w v zs) : Rt Try.prog 35 [v] w fun r w' => IOwn w.heap.size w' r zs ∧ Ext w w' := by
  obtain ⟨ad, cp, rfl, hcap, hlen⟩ := hR.form
  have hW := hWw
  have hFF := hFw
  have hE : Ext w w := Keep.refl _ _
  refine rt_body Try.func35 rfl Try.ntmps35 rfl ?_
  refine wc_seq ?_
  refine wc_region ?_
  refine wl_val hW rfl rfl (x_assign rfl) ?_
  refine wl_nil ?_
  refine nx_then ?_
  refine wc_seq ?_
  refine wc_seq ?_
  refine wc_region ?_
  refine wl_val hW rfl rfl (x_move rfl) ?_
  refine wl_val hW rfl rfl (x_nilEq Try.underlying25 rfl rfl) ?_
  refine wl_nil ?_
  refine nx_then ?_
  refine wc_bool rfl (fun hc => ?_) (fun hc => ?_)
  · have hms : zs = [] := by cases ad; (exact hR.nil); (cases hc)
    refine wc_seq ?_
    refine wc_region ?_
    refine wl_val hW rfl rfl (x_assign rfl) ?_
    refine wl_nil ?_
    refine nx_then ?_
    refine wc_ret ?_
    refine nx_then_ret ?_
    exact ends_ret (res_tmp Try.results35 rfl) ⟨by rw [hms]; exact gown_nil, hE⟩
  · refine wc_skip ?_
    refine nx_then ?_
    refine wc_seq ?_
    refine wc_region ?_
    refine wl_buildSlice (parts := []) hW rfl rfl Try.underlying25 fl3.siz Try.zeroValue3 rfl rfl rfl (by omega) ?_
    intro b5 w5 hl5 hB5 hx5
    have g5 : w.heap.size ≤ b5 := Nat.le_trans hE.size hl5
    replace hE := hE.trans hx5
    refine wl_val hW rfl rfl (x_move rfl) ?_
    refine wl_appendE (base := w.heap.size) Try.underlying25 info3 rfl (by decide) hW rfl rfl rfl rfl hB5 g5 (gflat_len cellsI_len zs) (grow_src cellsI_len (by decide) (hR.ext hE)) iflat_one hlen (by decide) ?_
    intro v7 wA hO hxA
    replace hE := hE.trans hxA
    refine wl_val hW rfl rfl (x_assign rfl) ?_
    refine wl_nil ?_
    refine nx_then ?_
    refine wc_ret ?_
    exact ends_ret (res_tmp Try.results35 rfl) ⟨hO, hE⟩
end Go.Proofs.Ytiaikajibefieaa.K

