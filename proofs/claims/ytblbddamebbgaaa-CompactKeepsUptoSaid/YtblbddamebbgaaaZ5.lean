import Derived.Test.YtblbddamebbgaaaZ4
import Derived.Laws.MakeOwn
import Derived.Maps.AppendAt
/- More walking rules: pointers compared with nil. -/
namespace Go.Proofs.Ytblbddamebbgaaa.K
open Go Go.RowKit
set_option linter.unusedVariables false
set_option linter.unusedSectionVars false
set_option linter.unusedSimpArgs false
section
variable {P : Program} {m : Nat} {D : List Deferred} {L : Env} {w w' : World} {ty t te : TypeId} {x y : Operand}
theorem x_pneq {A : Option Addr} {t' : TypeId} (hp : P.underlying t = some (.pointer te)) (hte' : (P.info? te).isSome = true) (hx : ev L x = some (.pointer A)) (hy : ev L y = some (.pointer none)) : Xv P m D L (.binOp .neq t x y t') ty w (.bool A.isSome) w :=
  ⟨nofun, fun _ _ _ _ a h => by
    obtain ⟨j, hte⟩ := Option.isSome_iff_exists.1 hte'
    have h0 : ∀ d : Nat, (Op.equalIn (d + 1) t (.pointer A) (.pointer none)).run P w = .ok (!A.isSome) w := fun d => by
      cases A <;> simp [Op.equalIn, run_underlying hp, sizeOf, typeInfo, hte]
    have h1 : (binOp .neq t (.pointer A) (.pointer none)).run P w = .ok (.bool A.isSome) w := by
      simp only [binOp]
      simp [Op.equal, Op.maxDepth, h0 9999]
    simp [execOp, h.ev hx, h.ev hy, eqGuard, h1]⟩
theorem x_max {q : IntKind} {i j : Int} {ts : Array TypeId} (hx : ev L x = some (.int q i)) (hy : ev L y = some (.int q j)) : Xv P m D L (.call ⟨.builtin .max, #[x, y], ts⟩) ty w (.int q (if i < j then j else i)) w :=
  ⟨nofun, fun _ _ _ _ a h => by
    by_cases hlt : i < j
    · simp [execOp, resolve, h.ev hx, h.ev hy, invoke, builtin, Builtin.max_, Builtin.max2, hlt]
    · simp [execOp, resolve, h.ev hx, h.ev hy, invoke, builtin, Builtin.max_, Builtin.max2, hlt]⟩
end
theorem some110 : (Try.prog.info? 110).isSome = true := by kernel_rfl
section
variable {F : Fence} {n : Nat} {P : Program} {Q : Exit → Act → World → Prop} {m : Nat} {D : List Deferred} {L : Env} {w w' : World} {ops rest : List Oper} {d : Nat} {ty t e : TypeId} {pos : String} {af : Array Edge} {g : Option (Nat × Bool)} {x y : Operand}
theorem wl_makeSlice {h : Nat} {j : TypeInfo} {z : Value} (hW : Wd F) (hg : wants L ops g = some true) (hd : Nat.blt d m = true) (hu : P.underlying t = some (.slice e)) (hj : P.info? e = some j) (hb : j.bytes = 8) (hs : j.size = 1) (hz : j.zero = some z) (hc : z.cells = #[z])
    (hx : ev L x = some (.int .i64 h)) (hy : ev L y = some (.int .i64 h)) (h1 : h ≤ 4096)
    (k : ∀ b w', w.heap.size ≤ b → Blk w' b (List.replicate h z) e → Ext w w' → WL F n P Q m D ops rest ((d, .slice (some ⟨b, 0, none⟩) h h) :: L) w') : WL F n P Q m D ops (⟨some d, .makeSlice t x y, ty, pos, af, g⟩ :: rest) L w := by
  refine wl_val hW hg hd ⟨nofun, fun _ _ _ _ a hf => ?_⟩ (k w.heap.size _ (Nat.le_refl _) (blk_new w _ e) (ext_alloc w _))
  have h2 := run_make (P := P) w t e j z hu hj hz .i64 .i64 h h (by omega) (by omega) (by rw [hb]; omega) (by omega)
  have h3 : madeCells z.cells ((h : Int).toNat * j.size) = (List.replicate h z).toArray := by
    rw [hc, hs]
    apply Array.ext'
    apply List.ext_getElem?
    intro i
    simp only [madeCells]
    by_cases hi : i < h
    · simp [hi, Nat.mod_one]
    · simp [hi]
  rw [h3] at h2
  simp [execOp, hf.ev hx, hf.ev hy, h2]
end
section
variable {P : Program} {m : Nat} {D : List Deferred} {L : Env} {w : World} {ty t e : TypeId} {x y : Operand}
theorem xv_makeSlice {h : Nat} {j : TypeInfo} {z : Value} (hu : P.underlying t = some (.slice e)) (hj : P.info? e = some j) (hb : j.bytes = 8) (hs : j.size = 1) (hz : j.zero = some z) (hc : z.cells = #[z])
    (hx : ev L x = some (.int .i64 h)) (hy : ev L y = some (.int .i64 h)) (h1 : h ≤ 4096) : ∃ b w', Xv P m D L (.makeSlice t x y) ty w (.slice (some ⟨b, 0, none⟩) h h) w' ∧ w.heap.size ≤ b ∧ Blk w' b (List.replicate h z) e ∧ Ext w w' := by
  refine ⟨w.heap.size, _, ⟨nofun, fun _ _ _ _ a hf => ?_⟩, Nat.le_refl _, blk_new w _ e, ext_alloc w _⟩
  have h2 := run_make (P := P) w t e j z hu hj hz .i64 .i64 h h (by omega) (by omega) (by rw [hb]; omega) (by omega)
  have h3 : madeCells z.cells ((h : Int).toNat * j.size) = (List.replicate h z).toArray := by
    rw [hc, hs]
    apply Array.ext'
    apply List.ext_getElem?
    intro i
    simp only [madeCells]
    by_cases hi : i < h
    · simp [hi, Nat.mod_one]
    · simp [hi]
  rw [h3] at h2
  simp [execOp, hf.ev hx, hf.ev hy, h2]
end
theorem info130 : (Try.prog.info? 130).map (fun i => (i.zero, i.size, i.bytes)) = some (some (.pointer none), 1, 8) := by kernel_rfl
theorem xv_makePtrs {m : Nat} {D : List Deferred} {L : Env} {w : World} {ty : TypeId} {x y : Operand} {h : Nat} (hx : ev L x = some (.int .i64 h)) (hy : ev L y = some (.int .i64 h)) (h1 : h ≤ 4096) :
    ∃ b w', Xv Try.prog m D L (.makeSlice 108 x y) ty w (.slice (some ⟨b, 0, none⟩) h h) w' ∧ w.heap.size ≤ b ∧ Blk w' b (List.replicate h (.pointer none)) 130 ∧ Ext w w' := by
  obtain ⟨j, hj, h2, h3, h4⟩ := info_parts info130
  exact xv_makeSlice Try.underlying108 hj h4 h3 h2 rfl hx hy h1
theorem build110 {e : Ent} {bv : Value} {a h : Nat} (w : World) : (Instr.build 110 [(0, Value.agg (cellsOf e bv).toArray), (1, .slice (some ⟨a, 0, none⟩) h h)].toArray).run Try.prog w = .ok (.agg (cellsOf e bv ++ [Value.slice (some ⟨a, 0, none⟩) h h]).toArray) w := by
  simp [Instr.build, run_underlying Try.underlying110, Try.zeroValue110, ag25.siz w, fl108.siz w]
  rfl
theorem x_buildNode {m : Nat} {D : List Deferred} {L : Env} {w : World} {ty : TypeId} {x y : Operand} {e : Ent} {bv : Value} {a h : Nat} (hx : ev L x = some (.agg (cellsOf e bv).toArray)) (hy : ev L y = some (.slice (some ⟨a, 0, none⟩) h h)) :
    Xv Try.prog m D L (.build 110 #[(0, x), (1, y)]) ty w (.agg (cellsOf e bv ++ [Value.slice (some ⟨a, 0, none⟩) h h]).toArray) w :=
  x_build (parts := [(0, x), (1, y)]) Try.underlying110 Try.zeroValue110 (pv := [(0, .agg (cellsOf e bv).toArray), (1, .slice (some ⟨a, 0, none⟩) h h)]) (fun a h => by show [(0, a.eval x), (1, a.eval y)] = _; rw [h.ev hx, h.ev hy]) build110
/-- A row of nil pointers, made since w0. -/
def MkP (w0 : World) (h : Nat) : VP := fun v w => ∃ b, v = .slice (some ⟨b, 0, none⟩) h h ∧ w0.heap.size ≤ b ∧ Blk w b (List.replicate h (.pointer none)) 130
theorem MkP.stable {w0 : World} {h : Nat} : Stable (MkP w0 h) := fun v w w' ⟨b, h1, h2, h3⟩ hx => ⟨b, h1, h2, h3.ext hx⟩
theorem q_makePtrs {F : Fence} {n m : Nat} {D : List Deferred} {L : Env} {w0 : World} {ops rest : List Oper} {d : Nat} {ty : TypeId} {pos : String} {af : Array Edge} {g : Option (Nat × Bool)} {x y : Operand} {K : Env → List (Nat × VP) → Prop} {V : List (Nat × VP)} {h : Nat} (hg : wants L ops g = some true) (hd : Nat.blt d m = true) (hno : at' L d = none)
    (hx : ev L x = some (.int .i64 h)) (hy : ev L y = some (.int .i64 h)) (h1 : h ≤ 4096) (k : QW F n Try.prog m D ops w0 K rest L ((d, MkP w0 h) :: V)) :
    QW F n Try.prog m D ops w0 K (⟨some d, .makeSlice 108 x y, ty, pos, af, g⟩ :: rest) L V :=
  q_valp MkP.stable hg hd hno (fun w' hw => by
    obtain ⟨b, w'', h2, h3, h4, h5⟩ := xv_makePtrs (m := m) (D := D) (L := L) (w := w') (ty := ty) hx hy h1
    exact ⟨_, w'', h2, ⟨b, rfl, Nat.le_trans hw.size h3, h4⟩, h5⟩) k
end Go.Proofs.Ytblbddamebbgaaa.K

/- Walks: what a table tells of itself. -/
namespace Go.Proofs.Ytblbddamebbgaaa.K
open Go Go.RowKit
set_option linter.unusedVariables false
set_option linter.unusedSimpArgs false

theorem C31 {O : Nat → Prop} {w : World} {t : Td} (hT : Tab O w t) : Rt Try.prog 31 [.pointer (some ⟨t.bt, 0, none⟩)] w fun r w' => r = .int .i64 t.cnt ∧ Ext w w' := by
  have hW := hWw
  have hFF := hFw
  have hE : Ext w w := Keep.refl _ _
  refine rt_body Try.func31 rfl Try.ntmps31 rfl ?_
  refine wc_seq ?_
  refine wc_region ?_
  refine wl_val hW rfl rfl (x_assign rfl) ?_
  refine wl_nil ?_
  refine nx_then ?_
  refine wc_seq ?_
  refine wc_region ?_
  refine wl_val hW rfl rfl (x_move rfl) ?_
  refine wl_val hW rfl rfl (x_nilCheck rfl) ?_
  refine wl_val hW rfl rfl (x_fieldAddr Try.underlying114 rfl ag112.siz rfl) ?_
  refine wl_val hW rfl rfl (x_fieldAddr Try.underlying112 rfl fl3.siz rfl) ?_
  refine wl_val hW rfl rfl (x_load fl3 rfl ((hT.ext hE).tb.cell (o := 7) rfl)) ?_
  refine wl_val hW rfl rfl (x_assign rfl) ?_
  refine wl_nil ?_
  refine nx_then ?_
  refine wc_ret ?_
  exact ends_ret (res_tmp Try.results31 rfl) ⟨rfl, hE⟩
theorem C32 {O : Nat → Prop} {w : World} {t : Td} (hT : Tab O w t) : Rt Try.prog 32 [.pointer (some ⟨t.bt, 0, none⟩)] w fun r w' => r = .int .i64 t.sz ∧ Ext w w' := by
  have hW := hWw
  have hFF := hFw
  have hE : Ext w w := Keep.refl _ _
  refine rt_body Try.func32 rfl Try.ntmps32 rfl ?_
  refine wc_seq ?_
  refine wc_region ?_
  refine wl_val hW rfl rfl (x_assign rfl) ?_
  refine wl_nil ?_
  refine nx_then ?_
  refine wc_seq ?_
  refine wc_region ?_
  refine wl_val hW rfl rfl (x_move rfl) ?_
  refine wl_val hW rfl rfl (x_nilCheck rfl) ?_
  refine wl_val hW rfl rfl (x_fieldAddr Try.underlying114 rfl fl3.siz rfl) ?_
  refine wl_val hW rfl rfl (x_load fl3 rfl ((hT.ext hE).tb.cell (o := 9) rfl)) ?_
  refine wl_val hW rfl rfl (x_assign rfl) ?_
  refine wl_nil ?_
  refine nx_then ?_
  refine wc_ret ?_
  exact ends_ret (res_tmp Try.results32 rfl) ⟨rfl, hE⟩
theorem C39 {O : Nat → Prop} {w : World} {t : Td} (hT : Tab O w t) : Rt Try.prog 39 [.pointer (some ⟨t.bt, 0, none⟩)] w fun r w' => r = .int .i64 t.hgt ∧ Ext w w' := by
  have hW := hWw
  have hFF := hFw
  have hE : Ext w w := Keep.refl _ _
  refine rt_body Try.func39 rfl Try.ntmps39 rfl ?_
  refine wc_seq ?_
  refine wc_region ?_
  refine wl_val hW rfl rfl (x_assign rfl) ?_
  refine wl_nil ?_
  refine nx_then ?_
  refine wc_seq ?_
  refine wc_region ?_
  refine wl_val hW rfl rfl (x_move rfl) ?_
  refine wl_val hW rfl rfl (x_nilCheck rfl) ?_
  refine wl_val hW rfl rfl (x_fieldAddr Try.underlying114 rfl ag112.siz rfl) ?_
  refine wl_val hW rfl rfl (x_fieldAddr Try.underlying112 rfl fl3.siz rfl) ?_
  refine wl_val hW rfl rfl (x_load fl3 rfl ((hT.ext hE).tb.cell (o := 6) rfl)) ?_
  refine wl_val hW rfl rfl (x_assign rfl) ?_
  refine wl_nil ?_
  refine nx_then ?_
  refine wc_ret ?_
  exact ends_ret (res_tmp Try.results39 rfl) ⟨rfl, hE⟩
/-- How high the next version's tower is. -/
def towerN (ds : List Int) (cnt : Nat) : Nat := if h : ds.length = 0 then 1 else 1 + ((if ds[cnt % ds.length]'(Nat.mod_lt _ (by omega)) < 0 then (0 : Int) else ds[cnt % ds.length]'(Nat.mod_lt _ (by omega))).tmod 12).toNat
theorem towerN_le (ds : List Int) (cnt : Nat) : 1 ≤ towerN ds cnt ∧ towerN ds cnt ≤ 12 := by
  unfold towerN
  split
  · omega
  · have h1 : 0 ≤ (if ds[cnt % ds.length]'(Nat.mod_lt _ (by omega)) < 0 then (0 : Int) else ds[cnt % ds.length]'(Nat.mod_lt _ (by omega))) := by split <;> omega
    have h2 := Int.tmod_lt_of_pos (if ds[cnt % ds.length]'(Nat.mod_lt _ (by omega)) < 0 then (0 : Int) else ds[cnt % ds.length]'(Nat.mod_lt _ (by omega))) (b := 12) (by omega)
    have h3 := Int.tmod_nonneg (a := if ds[cnt % ds.length]'(Nat.mod_lt _ (by omega)) < 0 then (0 : Int) else ds[cnt % ds.length]'(Nat.mod_lt _ (by omega))) 12 h1
    omega
theorem towerN_int (ds : List Int) (cnt : Nat) (h : 0 < ds.length) : IntKind.i64.wrap (1 + (if ds[cnt % ds.length]'(Nat.mod_lt _ h) < 0 then (0 : Int) else ds[cnt % ds.length]'(Nat.mod_lt _ h)).tmod 12) = ((towerN ds cnt : Nat) : Int) := by
  have h1 : 0 ≤ (if ds[cnt % ds.length]'(Nat.mod_lt _ h) < 0 then (0 : Int) else ds[cnt % ds.length]'(Nat.mod_lt _ h)) := by split <;> omega
  have h2 := Int.tmod_lt_of_pos (if ds[cnt % ds.length]'(Nat.mod_lt _ h) < 0 then (0 : Int) else ds[cnt % ds.length]'(Nat.mod_lt _ h)) (b := 12) (by omega)
  have h3 := Int.tmod_nonneg (a := if ds[cnt % ds.length]'(Nat.mod_lt _ h) < 0 then (0 : Int) else ds[cnt % ds.length]'(Nat.mod_lt _ h)) 12 h1
  rw [IntWalk.i64_in _ (by omega)]
  unfold towerN
  rw [dif_neg (by omega)]
  omega
theorem C67 {O : Nat → Prop} {w : World} {t : Td} (hT : Tab O w t) (hcnt : t.cnt < 4611686018427387904) : Rt Try.prog 67 [.pointer (some ⟨t.bt, 0, none⟩)] w fun r w' => r = .int .i64 (towerN t.ds t.cnt) ∧ Ext w w' := by
  obtain ⟨ad, cap, hdv, hlen⟩ := hT.draws.form
  obtain ⟨bt, ha, ns, hgt, cnt, dv, ds, sz⟩ := t
  replace hdv : dv = .slice ad ds.length cap := hdv
  replace hlen : ds.length ≤ 1099511627776 := hlen
  replace hcnt : cnt < 4611686018427387904 := hcnt
  subst hdv
  have hW := hWw
  have hFF := hFw
  have hE : Ext w w := Keep.refl _ _
  refine rt_body Try.func67 rfl Try.ntmps67 rfl ?_
  refine wc_seq ?_
  refine wc_region ?_
  refine wl_val hW rfl rfl (x_assign rfl) ?_
  refine wl_nil ?_
  refine nx_then ?_
  refine wc_seq ?_
  refine wc_seq ?_
  refine wc_region ?_
  refine wl_val hW rfl rfl (x_move rfl) ?_
  refine wl_val hW rfl rfl (x_nilCheck rfl) ?_
  refine wl_val hW rfl rfl (x_fieldAddr Try.underlying114 rfl fl42.siz rfl) ?_
  refine wl_val hW rfl rfl (x_load fl42 rfl ((hT.ext hE).tb.cell (o := 8) rfl)) ?_
  refine wl_val hW rfl rfl (x_len Try.underlying42 rfl) ?_
  refine wl_val hW rfl rfl (x_eql rfl rfl) ?_
  refine wl_nil ?_
  refine nx_then ?_
  refine wc_dec rfl (fun hc => ?_) (fun hc => ?_)
  · refine wc_seq ?_
    refine wc_region ?_
    refine wl_val hW rfl rfl (x_assign rfl) ?_
    refine wl_nil ?_
    refine nx_then ?_
    refine wc_ret ?_
    refine nx_then_ret ?_
    have h0 : ds.length = 0 := by omega
    exact ends_ret (res_tmp Try.results67 rfl) ⟨by simp [towerN, h0], hE⟩
  · refine wc_skip ?_
    refine nx_then ?_
    refine wc_seq ?_
    have hpos : 0 < ds.length := by omega
    have hlt : cnt % ds.length < ds.length := Nat.mod_lt _ hpos
    obtain ⟨b, o, cap', e1, hC24⟩ := (hT.ext hE).draws.at (cnt % ds.length) hlt
    replace e1 : Value.slice ad ds.length cap = .slice (some ⟨b, o, none⟩) ds.length cap' := e1
    cases e1
    refine wc_draw' 21 hW mixed (by kernel_rfl) (fun w0 hx0 => ?_)
    replace hC24 := hC24.ext hx0
    replace hE := hE.trans hx0
    refine q_val rfl rfl (fun _ hx => x_move rfl) ?_
    refine q_val rfl rfl (fun _ hx => x_nilCheck rfl) ?_
    refine q_val rfl rfl (fun _ hx => x_fieldAddr Try.underlying114 rfl fl42.siz rfl) ?_
    refine q_val rfl rfl (fun _ hx => x_load fl42 rfl ((hT.ext (hE.trans hx)).tb.cell (o := 8) rfl)) ?_
    refine q_val rfl rfl (fun _ hx => x_move rfl) ?_
    refine q_val rfl rfl (fun _ hx => x_nilCheck rfl) ?_
    refine q_val rfl rfl (fun _ hx => x_fieldAddr Try.underlying114 rfl ag112.siz rfl) ?_
    refine q_val rfl rfl (fun _ hx => x_fieldAddr Try.underlying112 rfl fl3.siz rfl) ?_
    refine q_val rfl rfl (fun _ hx => x_load fl3 rfl ((hT.ext (hE.trans hx)).tb.cell (o := 7) rfl)) ?_
    refine q_val rfl rfl (fun _ hx => x_move rfl) ?_
    refine q_val rfl rfl (fun _ hx => x_nilCheck rfl) ?_
    refine q_val rfl rfl (fun _ hx => x_fieldAddr Try.underlying114 rfl fl42.siz rfl) ?_
    refine q_val rfl rfl (fun _ hx => x_load fl42 rfl ((hT.ext (hE.trans hx)).tb.cell (o := 8) rfl)) ?_
    refine q_val rfl rfl (fun _ hx => x_len Try.underlying42 rfl) ?_
    refine q_val rfl rfl (fun _ hx => x_rem (i := (cnt : Int)) (j := (ds.length : Int)) rfl rfl (by omega)) ?_
    refine q_val rfl rfl (fun _ hx => x_indexAddr Try.underlying42 fl3.siz rfl rfl (by rw [← Int.ofNat_tmod]; omega) (by rw [← Int.ofNat_tmod]; omega)) ?_
    refine q_val rfl rfl (fun _ hx => x_load fl3 rfl (by rw [← Int.ofNat_tmod, Int.toNat_natCast]; exact hx.cell (hC24 0 _ rfl))) ?_
    refine q_val rfl rfl (fun _ hx => x_max rfl rfl) ?_
    refine q_val rfl rfl (fun _ hx => x_rem (j := 12) rfl rfl (by decide)) ?_
    refine q_val rfl rfl (fun _ hx => x_add (r := towerN ds cnt) rfl rfl (towerN_int ds cnt hpos)) ?_
    refine q_val rfl rfl (fun _ hx => x_assign rfl) ?_
    refine q_nil (tail0 (fun wt hxt => ?_))
    replace hE := hE.trans hxt
    refine wl_nil ?_
    refine nx_then ?_
    refine wc_ret ?_
    exact ends_ret (res_tmp Try.results67 rfl) ⟨rfl, hE⟩
end Go.Proofs.Ytblbddamebbgaaa.K


/- Walks: what stands ahead of a version. -/
namespace Go.Proofs.Ytblbddamebbgaaa.K
open Go Go.RowKit
set_option linter.unusedVariables false
set_option linter.unusedSimpArgs false

/-- The first p nodes, no others, stand before e. -/
structure Below (ns : List Nd) (e : Ent) (p : Nat) : Prop where
  le : p ≤ ns.length
  lo : ∀ (j : Nat) (h : j < ns.length), j < p → ltE ns[j].e e
  hi : ∀ (j : Nat) (h : j < ns.length), p ≤ j → ¬ ltE ns[j].e e
def AheadR (t : Td) (p : Nat) (cs : List Value) (s : Nat) : Prop := cs.length = 12 ∧ (∀ u ∈ cs, u.oneCell' = true) ∧ ∀ k, 12 - s ≤ k → k < 12 → ∃ j, cs[k]? = some (ptr t.bt t.ns j) ∧ LastP t.ns k p j
theorem AheadR.next {t : Td} {p : Nat} {cs : List Value} {s k i : Nat} (h : AheadR t p cs s) (hk : (11 : Int) - s = k) (hl : LastP t.ns k p i) : AheadR t p (cs.set (0 + ((k : Nat) : Int).toNat * 1) (ptr t.bt t.ns i)) (s + 1) := by
  have e : 0 + ((k : Nat) : Int).toNat * 1 = k := by omega
  rw [e]
  refine ⟨by simpa using h.1, fun u hu => ?_, fun k' h1 h2 => ?_⟩
  · rcases List.mem_or_eq_of_mem_set hu with h1 | rfl
    · exact h.2.1 u h1
    · rfl
  · by_cases ek : k' = k
    · subst ek
      exact ⟨i, by rw [List.getElem?_set_self (by rw [h.1]; omega)], hl⟩
    · rw [List.getElem?_set_ne (fun e => ek e.symm)]
      exact h.2.2 k' (by omega) h2
theorem C84 {O : Nat → Prop} {w : World} {t : Td} {e : Ent} {bv : Value} {p : Nat} (hT : Tab O w t) (hb : Below t.ns e p) : Rt Try.prog 84 [.pointer (some ⟨t.bt, 0, none⟩), .agg (cellsOf e bv).toArray] w fun r w' => (∃ cs, r = .agg cs.toArray ∧ AheadR t p cs 12) ∧ Ext w w' := by
  have hple := hb.le
  have hW := hWw
  have hFF := hFw
  have hE : Ext w w := Keep.refl _ _
  refine rt_body Try.func84 rfl Try.ntmps84 rfl ?_
  refine wc_seq ?_
  refine wc_region ?_
  refine wl_box hW rfl rfl rfl rfl ?_
  intro b3 w3 hl3 hB3 hx3
  have g3 : w.heap.size ≤ b3 := Nat.le_trans hE.size hl3
  replace hE := hE.trans hx3
  refine wl_alloc (cs := [.pointer none, .pointer none, .pointer none, .pointer none, .pointer none, .pointer none, .pointer none, .pointer none, .pointer none, .pointer none, .pointer none, .pointer none]) hW rfl rfl Try.zeroValue131 rfl ?_
  intro b4 w4 hl4 hB4 hx4
  have g4 : w.heap.size ≤ b4 := Nat.le_trans hE.size hl4
  have n4_3 : b4 ≠ b3 := Nat.ne_of_gt (Nat.lt_of_lt_of_le hB3.lt hl4)
  replace hB3 := hB3.ext hx4
  replace hE := hE.trans hx4
  refine wl_nil ?_
  refine nx_then ?_
  refine wc_seq ?_
  refine wc_region ?_
  refine wl_val hW rfl rfl (x_move rfl) ?_
  refine wl_val hW rfl rfl (x_nilCheck rfl) ?_
  refine wl_val hW rfl rfl (x_fieldAddr Try.underlying112 rfl ag110.siz rfl) ?_
  refine wl_val hW rfl rfl (x_assign rfl) ?_
  refine wl_nil ?_
  refine nx_then ?_
  refine wc_seq ?_
  refine wc_seq ?_
  refine wc_region ?_
  refine wl_val hW rfl rfl (x_assign rfl) ?_
  refine wl_nil ?_
  refine nx_then ?_
  refine wc_block ?_
  refine wc_loop (σ := Nat × Nat) (fun s => [(0, .pointer (some ⟨t.bt, 0, none⟩)), (3, .pointer (some ⟨b3, 0, none⟩)), (4, .pointer (some ⟨b4, 0, none⟩)), (5, ptr t.bt t.ns s.2), (6, .int .i64 (11 - (s.1 : Int)))]) (fun s w' => (s.1 ≤ 12 ∧ s.2 ≤ p ∧ 12 - s.1 ≤ posH t.ns s.2) ∧ Ext w w' ∧ Blk w' b3 (cellsOf e bv) 25 ∧ ∃ cs, Blk w' b4 cs 131 ∧ AheadR t p cs s.1) (fun s => 12 - s.1) (0, 0) ?_ ?_ ?_
  · exact ⟨⟨by omega, by omega, by simp [posH]⟩, hE, hB3, _, hB4, rfl, by decide, fun k h1 h2 => absurd h2 (by simp at h1; omega)⟩
  · repeat (first | exact sub_nil | refine sub_cons rfl ?_)
  · rintro ⟨s, i0⟩ wr ⟨⟨hs, hi0, hph⟩, hE, hB3, cs, hB4, hcs⟩
    dsimp only at hs hi0 hph hcs ⊢
    refine wc_seq ?_
    refine wc_seq ?_
    refine wc_region ?_
    refine wl_val hW rfl rfl (x_move rfl) ?_
    refine wl_val hW rfl rfl (x_geq rfl rfl) ?_
    refine wl_nil ?_
    refine nx_then ?_
    refine wc_dec rfl (fun hc => ?_) (fun hc => ?_)
    · obtain ⟨k, hk⟩ : ∃ k : Nat, (11 : Int) - (s : Int) = k := ⟨11 - s, by omega⟩
      rw [hk]
      refine wc_skip ?_
      refine nx_then ?_
      refine wc_seq ?_
      refine wc_block ?_
      refine wc_seq ?_
      refine wc_block ?_
      refine wc_loop (σ := Nat) (fun i => [(0, .pointer (some ⟨t.bt, 0, none⟩)), (3, .pointer (some ⟨b3, 0, none⟩)), (4, .pointer (some ⟨b4, 0, none⟩)), (5, ptr t.bt t.ns i), (6, .int .i64 (k : Int))]) (fun i w' => (i ≤ p ∧ k < posH t.ns i) ∧ Ext w w' ∧ Blk w' b3 (cellsOf e bv) 25 ∧ Blk w' b4 cs 131) (fun i => p - i) i0 ?_ ?_ ?_
      · exact ⟨⟨hi0, by omega⟩, hE, hB3, hB4⟩
      · repeat (first | exact sub_nil | refine sub_cons rfl ?_)
      · rintro i wr ⟨⟨hi, hki⟩, hE, hB3, hB4⟩
        refine wc_seq ?_
        refine wc_seq ?_
        refine wc_cutE (σ := Bool) (fun b => [(0, .pointer (some ⟨t.bt, 0, none⟩)), (3, .pointer (some ⟨b3, 0, none⟩)), (4, .pointer (some ⟨b4, 0, none⟩)), (5, ptr t.bt t.ns i), (6, .int .i64 (k : Int)), (40, .bool b)]) (fun b w' => ((b = true → ∃ j, i < j ∧ j ≤ p ∧ k < posH t.ns j ∧ nxt k (t.ns.drop i) = ptr t.bt t.ns j) ∧ (b = false → ∀ j, i < j → j ≤ p → ¬ k < posH t.ns j)) ∧ Ext w w' ∧ Blk w' b3 (cellsOf e bv) 25 ∧ Blk w' b4 cs 131) ?_ ?_
        · refine wc_draw' 27 hW mixed (by kernel_rfl) (fun w0 hx0 => ?_)
          replace hB3 := hB3.ext hx0
          replace hB4 := hB4.ext hx0
          replace hE := hE.trans hx0
          have hT0 := hT.ext hE
          have hC19 : w0.cell? ⟨posA t.ha t.ns i, 0 + ((k : Nat) : Int).toNat * 1, none⟩ = some (nxt k (t.ns.drop i)) := by simpa using hT0.cellAt i k (by omega) hki
          have hpo : 0 ≤ ((k : Nat) : Int) ∧ ((k : Nat) : Int) < (posH t.ns i : Nat) := by omega
          refine q_val rfl rfl (fun _ hx => x_move rfl) ?_
          refine q_val rfl rfl (fun _ hx => x_nilCheck rfl) ?_
          refine q_val rfl rfl (fun _ hx => x_fieldAddr Try.underlying110 rfl fl108.siz rfl) ?_
          refine q_val rfl rfl (fun _ hx => x_load fl108 rfl (hx.cell (hT0.nextAt i (by omega)))) ?_
          refine q_val rfl rfl (fun _ hx => x_move rfl) ?_
          refine q_val rfl rfl (fun _ hx => x_indexAddr Try.underlying108 fl130.siz rfl rfl hpo.1 hpo.2) ?_
          refine q_val rfl rfl (fun _ hx => x_load fl130 rfl (hx.cell hC19)) ?_
          refine q_val rfl rfl (fun _ hx => x_pneq Try.underlying130 some110 rfl rfl) ?_
          refine q_val rfl rfl (fun _ hx => x_move rfl) ?_
          refine q_bcases (d := 22) rfl (fun hg22 => ?_) (fun hg22 => ?_)
          · obtain ⟨j', hij, hjl, hkj, hmin, hpj⟩ : ∃ j', i < j' + 1 ∧ j' + 1 ≤ t.ns.length ∧ k < posH t.ns (j' + 1) ∧ (∀ j, i < j → j < j' + 1 → ¬ k < posH t.ns j) ∧ ∀ bt, nxt k (t.ns.drop i) = ptr bt t.ns (j' + 1) := by
              rcases nxt_cases t.ns k i with ⟨hn, -⟩ | ⟨j, h1, h2, h3, h4, h5⟩
              · unfold nxt at hn; injection hn with hn; rw [hn] at hg22; cases hg22
              · obtain ⟨j', rfl⟩ : ∃ j', j = j' + 1 := ⟨j - 1, by omega⟩
                exact ⟨j', h1, h2, h3, h4, h5⟩
            have hC32 : w0.cell? ⟨posA t.ha t.ns i, 0 + ((k : Nat) : Int).toNat * 1, none⟩ = some (ptr t.bt t.ns (j' + 1)) := by rw [hC19, hpj t.bt]
            refine q_val rfl rfl (fun _ hx => x_move rfl) ?_
            refine q_val rfl rfl (fun _ hx => x_nilCheck rfl) ?_
            refine q_val rfl rfl (fun _ hx => x_fieldAddr Try.underlying112 rfl fl29.siz rfl) ?_
            refine q_val rfl rfl (fun _ hx => x_load fl29 rfl (hx.cell (hT0.tb.cell (o := 5) rfl))) ?_
            refine q_val rfl rfl (fun _ hx => x_move rfl) ?_
            refine q_val rfl rfl (fun _ hx => x_nilCheck rfl) ?_
            refine q_val rfl rfl (fun _ hx => x_fieldAddr Try.underlying110 rfl fl108.siz rfl) ?_
            refine q_val rfl rfl (fun _ hx => x_load fl108 rfl (hx.cell (hT0.nextAt i (by omega)))) ?_
            refine q_val rfl rfl (fun _ hx => x_move rfl) ?_
            refine q_val rfl rfl (fun _ hx => x_indexAddr Try.underlying108 fl130.siz rfl rfl hpo.1 hpo.2) ?_
            refine q_val rfl rfl (fun _ hx => x_load fl130 rfl (hx.cell hC32)) ?_
            refine q_val rfl rfl (fun _ hx => x_nilCheck rfl) ?_
            refine q_val rfl rfl (fun _ hx => x_fieldAddr Try.underlying110 rfl ag25.siz rfl) ?_
            have hV35 : Cells w0 (posB t.bt t.ns (j' + 1)) (0 + 0) (cellsOf t.ns[j'].e t.ns[j'].bv) := hT0.valAt j' (by omega)
            refine q_val rfl rfl (fun _ hx => x_loadA ag25 rfl (hV35.ext hx) rfl) ?_
            refine q_val rfl rfl (fun _ hx => x_loadA ag25 rfl (hB3.ext hx).cells rfl) ?_
            refine q_call rfl rfl (fun _ => x_callv (cap := []) en64 rfl rfl) (fun w' hx => (C64 _ _ _ _ _).inF hFF) ?_
            refine q_val rfl rfl (fun _ hx => x_lss rfl rfl) ?_
            refine q_val rfl rfl (fun _ hx => x_pickT rfl rfl) ?_
            refine q_nil (tail0 (fun wt hxt => ?_))
            replace hB3 := hB3.ext hxt
            replace hB4 := hB4.ext hxt
            replace hE := hE.trans hxt
            refine wl_nil ?_
            exact nx_cutE (decide (cmpE t.ns[j'].e e < 0)) (by repeat (first | exact sub_nil | refine sub_cons rfl ?_)) ⟨⟨fun h => ⟨j' + 1, hij, (Nat.lt_of_not_le fun h' => hb.hi j' (by omega) h' (cmpE_neg.1 (of_decide_eq_true h))), hkj, hpj t.bt⟩, fun h j h1 h2 h3 => of_decide_eq_false h (cmpE_neg.2 (hb.lo j' (by omega) (by have := hmin j h1; omega)))⟩, hE, hB3, hB4⟩
          · refine q_off rfl rfl ?_
            refine q_off rfl rfl ?_
            refine q_off rfl rfl ?_
            refine q_off rfl rfl ?_
            refine q_off rfl rfl ?_
            refine q_off rfl rfl ?_
            refine q_off rfl rfl ?_
            refine q_off rfl rfl ?_
            refine q_off rfl rfl ?_
            refine q_off rfl rfl ?_
            refine q_off rfl rfl ?_
            refine q_off rfl rfl ?_
            refine q_off rfl rfl ?_
            refine q_off rfl rfl ?_
            refine q_off rfl rfl ?_
            refine q_off rfl rfl ?_
            refine q_off rfl rfl ?_
            refine q_val rfl rfl (fun _ hx => x_pickF rfl rfl) ?_
            refine q_nil (tail0 (fun wt hxt => ?_))
            replace hB3 := hB3.ext hxt
            replace hB4 := hB4.ext hxt
            replace hE := hE.trans hxt
            refine wl_nil ?_
            have hno : ∀ j, i < j → j ≤ p → ¬ k < posH t.ns j := by
              rcases nxt_cases t.ns k i with ⟨-, h⟩ | ⟨j, h1, h2, h3, h4, h5⟩
              · exact fun j h1 h2 => h j h1 (by omega)
              · have := h5 t.bt; unfold nxt ptr at this; injection this with this; rw [this] at hg22; cases hg22
            exact nx_cutE false (by repeat (first | exact sub_nil | refine sub_cons rfl ?_)) ⟨⟨fun h => (by cases h), fun _ => hno⟩, hE, hB3, hB4⟩
        · rintro b w' ⟨⟨hbt, hbf⟩, hE, hB3, hB4⟩
          refine nx_then ?_
          refine wc_bool rfl (fun hc => ?_) (fun hc => ?_)
          · refine wc_skip ?_
            refine nx_then ?_
            refine wc_block ?_
            refine wc_region ?_
            obtain ⟨j, hij, hjp, hkj, hnj⟩ := hbt hc
            have hT1 := hT.ext hE
            have hC46 : w'.cell? ⟨posA t.ha t.ns i, 0 + ((k : Nat) : Int).toNat * 1, none⟩ = some (ptr t.bt t.ns j) := by rw [← hnj]; simpa using hT1.cellAt i k (by omega) hki
            refine wl_val hW rfl rfl (x_move rfl) ?_
            refine wl_val hW rfl rfl (x_nilCheck rfl) ?_
            refine wl_val hW rfl rfl (x_fieldAddr Try.underlying110 rfl fl108.siz rfl) ?_
            refine wl_val hW rfl rfl (x_load fl108 rfl (hT1.nextAt i (by omega))) ?_
            refine wl_val hW rfl rfl (x_move rfl) ?_
            refine wl_val hW rfl rfl (x_indexAddr Try.underlying108 fl130.siz rfl rfl (by omega) (by omega)) ?_
            refine wl_val hW rfl rfl (x_load fl130 rfl hC46) ?_
            refine wl_val hW rfl rfl (x_assign rfl) ?_
            refine wl_nil ?_
            refine nx_block ?_
            exact nx_next j (by omega) ⟨⟨hjp, hkj⟩, hE, hB3, hB4⟩ (by repeat (first | exact sub_nil | refine sub_cons rfl ?_))
          · refine wc_exit ?_
            refine nx_then_exit ?_
            refine nx_then_exit ?_
            refine nx_block_exit ?_
            refine nx_then ?_
            refine wc_region ?_
            refine wl_val hW rfl rfl (x_move rfl) ?_
            refine wl_val hW rfl rfl (x_move rfl) ?_
            refine wl_val hW rfl rfl (x_indexArr Try.underlying131 fl130.siz rfl rfl (by omega) (by omega)) ?_
            refine wl_store hW rfl fl130 rfl rfl rfl hB4 (by rw [hcs.1]; simp; omega) ?_
            intro wS hBS hkS
            replace hB3 := hB3.keep hkS n4_3.symm
            replace hE := hE.store hkS g4
            refine wl_nil ?_
            refine nx_block ?_
            refine nx_then ?_
            refine wc_region ?_
            refine wl_val hW rfl rfl (x_move rfl) ?_
            refine wl_val hW rfl rfl (x_sub (r := 11 - ((s + 1 : Nat) : Int)) rfl rfl (by rw [IntWalk.i64_in _ (by omega)]; omega)) ?_
            refine wl_val hW rfl rfl (x_assign rfl) ?_
            refine wl_nil ?_
            exact nx_next (s + 1, i) (by dsimp only; omega) ⟨⟨by dsimp only; omega, hi, by dsimp only; omega⟩, hE, hB3, _, hBS, hcs.next hk ⟨hi, hki, hbf hc⟩⟩ (by repeat (first | exact sub_nil | refine sub_cons rfl ?_))
    · refine wc_exit ?_
      refine nx_then_exit ?_
      refine nx_then_exit ?_
      refine nx_block_exit ?_
      refine nx_then ?_
      refine wc_seq ?_
      refine wc_region ?_
      obtain rfl : s = 12 := by omega
      refine wl_val hW rfl rfl (x_loadA ag131 rfl hB4.cells hcs.1) ?_
      refine wl_storeA hW rfl ag131 rfl rfl (List.all_eq_true.2 hcs.2.1) hcs.1 hB4 (by simp) ?_
      intro wS hBS hkS
      replace hB3 := hB3.keep hkS n4_3.symm
      replace hBS : Blk wS b4 cs 131 := by simpa using hBS
      replace hB4 := hBS
      clear hBS
      replace hE := hE.store hkS g4
      refine wl_nil ?_
      refine nx_then ?_
      refine wc_ret ?_
      exact ends_ret (res_cell Try.results84 rfl (run_loadVar_cells ag131 hB4.cells hcs.1)) ⟨⟨cs, rfl, hcs⟩, hE⟩
end Go.Proofs.Ytblbddamebbgaaa.K


/- The table in memory: what a put turns. -/
namespace Go.Proofs.Ytblbddamebbgaaa.K
open Go Go.RowKit
set_option linter.unusedVariables false
set_option linter.unusedSectionVars false
set_option linter.unusedSimpArgs false

theorem Blk.ne {w : World} {b b' : Nat} {cs cs' : List Value} {t t' : TypeId} (h : Blk w b cs t) (h' : Blk w b' cs' t') (ht : t ≠ t') : b ≠ b' := by
  rintro rfl
  unfold Blk at h h'
  rw [h] at h'
  cases h'
  exact ht rfl
theorem nxt_congr {k : Nat} {l l' : List Nd} (h : l.map (fun n => (n.b, n.h)) = l'.map (fun n => (n.b, n.h))) : nxt k l = nxt k l' := by
  have key : ∀ l : List Nd, nxt k l = .pointer (((l.map (fun n => (n.b, n.h))).find? fun q => decide (k < q.2)).map fun q => ⟨q.1, 0, none⟩) := fun l => by
    unfold nxt; rw [List.find?_map, Option.map_map]; rfl
  rw [key, key, h]
theorem tower_congr {h : Nat} {l l' : List Nd} (he : l.map (fun n => (n.b, n.h)) = l'.map (fun n => (n.b, n.h))) : tower h l = tower h l' := by
  unfold tower; congr 1; funext k; exact nxt_congr he
theorem set_map {α : Type} {f : Nd → α} {ns : List Nd} {i : Nat} {n n' : Nd} (hi : ns[i]? = some n) (hf : f n' = f n) : (ns.set i n').map f = ns.map f := by
  apply List.ext_getElem?
  intro j
  rw [List.getElem?_map, List.getElem?_map, List.getElem?_set]
  by_cases e : i = j
  · subst e
    have := (List.getElem?_eq_some_iff.1 hi).1
    rw [if_pos rfl, if_pos this, hi]; simp [hf]
  · rw [if_neg e]
section
variable {O : Nat → Prop} {w w' : World} {t : Td}
theorem Tab.nb_lt (h : Tab O w t) {k : Nat} (hk : k ∈ t.nb) : k < w.heap.size := by
  simp only [Td.nb, nbs, List.mem_cons, List.mem_flatMap] at hk
  rcases hk with rfl | rfl | ⟨n, hn, hk⟩
  · exact h.tb.lt
  · exact h.hd.lt
  · obtain ⟨i, hi, rfl⟩ := List.getElem_of_mem hn
    obtain ⟨h1, h2⟩ := h.nd i _ (List.getElem?_eq_getElem hi)
    simp only [List.not_mem_nil, or_false] at hk
    rcases hk with rfl | rfl
    · exact h1.lt
    · exact h2.lt
theorem Td.b_mem {i : Nat} {n : Nd} (hi : t.ns[i]? = some n) : n.b ∈ t.nb := by
  simp only [Td.nb, nbs, List.mem_cons, List.mem_flatMap]; exact .inr (.inr ⟨n, List.mem_of_getElem? hi, by simp⟩)
theorem Td.a_mem {i : Nat} {n : Nd} (hi : t.ns[i]? = some n) : n.a ∈ t.nb := by
  simp only [Td.nb, nbs, List.mem_cons, List.mem_flatMap]; exact .inr (.inr ⟨n, List.mem_of_getElem? hi, by simp⟩)
theorem posA_mem {i : Nat} (hi : i ≤ t.ns.length) : posA t.ha t.ns i ∈ t.ha :: t.ns.map (·.a) := by
  cases i with
  | zero => simp [posA]
  | succ i =>
    have hlt : i < t.ns.length := hi
    simp only [posA, List.getElem?_eq_getElem hlt, Option.map_some, Option.getD_some]
    exact List.mem_cons_of_mem _ (List.mem_map.2 ⟨_, List.getElem_mem hlt, rfl⟩)
theorem posA_at {i : Nat} (hi : i ≤ t.ns.length) : (t.ha :: t.ns.map (·.a))[i]? = some (posA t.ha t.ns i) := by
  cases i with
  | zero => rfl
  | succ i =>
    have hlt : i < t.ns.length := hi
    simp [posA, List.getElem?_eq_getElem hlt]
theorem Tab.posA_ne (h : Tab O w t) {i j : Nat} (hi : i ≤ t.ns.length) (hj : j ≤ t.ns.length) (hne : i ≠ j) : posA t.ha t.ns i ≠ posA t.ha t.ns j := fun e => by
  have h1 := posA_at (t := t) hi
  have h2 := posA_at (t := t) hj
  rw [← e] at h2
  obtain ⟨l1, g1⟩ := List.getElem?_eq_some_iff.1 h1
  obtain ⟨l2, g2⟩ := List.getElem?_eq_some_iff.1 h2
  exact hne ((List.getElem_inj (h₀ := l1) (h₁ := l2) h.da).1 (g1.trans g2.symm))
/-- A version is laid in the place of another one of its key and number. -/
theorem Tab.setV {i : Nat} {n n' : Nd} (hT : Tab O w t) (hi : t.ns[i]? = some n) (hb : n'.b = n.b) (ha : n'.a = n.a) (hh : n'.h = n.h) (hs : sameE n.e n'.e) (hok : EntOk n'.e) (hk : Keep (· ≠ n.b) w w') (hB : Blk w' n.b (nodeCells n') 110) (hby : Byts (fun k => O k ∧ k ∉ t.nb) w' n'.bv n'.e.v) :
    Tab O w' { t with ns := t.ns.set i n' } := by
  obtain ⟨bt, ha0, ns, hgt, cnt, dv, ds, sz⟩ := t
  have hn := (hT.nd i n hi).1
  have e1 : (ns.set i n').map (fun n => (n.b, n.h)) = ns.map (fun n => (n.b, n.h)) := set_map hi (by rw [hb, hh])
  have e2 : nbs bt ha0 (ns.set i n') = nbs bt ha0 ns := by
    unfold nbs
    rw [List.flatMap_def, List.flatMap_def, set_map hi (by rw [hb, ha])]
  have ed : ∀ j h, tower h ((ns.set i n').drop j) = tower h (ns.drop j) := fun j h => tower_congr (by rw [List.map_drop, List.map_drop, e1])
  have hnb : n.b ∈ nbs bt ha0 ns := Td.b_mem (t := ⟨bt, ha0, ns, hgt, cnt, dv, ds, sz⟩) hi
  refine ⟨hT.tb.keep hk (hT.tb.ne hn (by decide)), ?_, fun j m hj => ?_, ?_, ?_, fun m hm => ?_, fun k hk' => ?_, fun m hm => ?_, fun m hm => ?_, ?_, ?_⟩
  · have := ed 0 12
    rw [List.drop_zero, List.drop_zero] at this
    show Blk w' ha0 (tower 12 (ns.set i n')) 130
    rw [this]; exact hT.hd.keep hk (hT.hd.ne hn (by decide))
  · show Blk w' m.b (nodeCells m) 110 ∧ Blk w' m.a (tower m.h ((ns.set i n').drop (j + 1))) 130
    replace hj : (ns.set i n')[j]? = some m := hj
    rw [ed]
    rw [List.getElem?_set] at hj
    by_cases e : i = j
    · subst e
      have hlt := (List.getElem?_eq_some_iff.1 hi).1
      rw [if_pos rfl, if_pos hlt] at hj
      cases hj
      have h2 := (hT.nd i n hi).2
      rw [hb, ha, hh]
      exact ⟨hB, h2.keep hk (h2.ne hn (by decide))⟩
    · rw [if_neg e] at hj
      obtain ⟨h1, h2⟩ := hT.nd j m hj
      refine ⟨h1.keep hk fun eb => ?_, h2.keep hk (h2.ne hn (by decide))⟩
      have hdb := hT.db
      have g1 : (ns.map (·.b))[j]? = some m.b := by rw [List.getElem?_map]; replace hj : ns[j]? = some m := hj; rw [hj]; rfl
      have g2 : (ns.map (·.b))[i]? = some n.b := by rw [List.getElem?_map]; replace hi : ns[i]? = some n := hi; rw [hi]; rfl
      rw [eb] at g1
      obtain ⟨l1, x1⟩ := List.getElem?_eq_some_iff.1 g1
      obtain ⟨l2, x2⟩ := List.getElem?_eq_some_iff.1 g2
      exact e ((List.getElem_inj (h₀ := l2) (h₁ := l1) hdb).1 (x2.trans x1.symm))
  · show ((ns.set i n').map (·.b)).Nodup
    rw [set_map hi hb]; exact hT.db
  · show (ha0 :: (ns.set i n').map (·.a)).Nodup
    rw [set_map hi ha]; exact hT.da
  · show Byts (fun k => O k ∧ k ∉ nbs bt ha0 (ns.set i n')) w' m.bv m.e.v
    rw [e2]
    rcases List.mem_or_eq_of_mem_set hm with hm | rfl
    · exact (hT.byts m hm).ck (CK.of_keep hk fun k _ ho e => ho.2 (by rw [e]; exact hnb))
    · exact hby
  · refine hT.own k ?_
    replace hk' : k ∈ nbs bt ha0 (ns.set i n') := hk'
    rw [e2] at hk'; exact hk'
  · rcases List.mem_or_eq_of_mem_set hm with hm | rfl
    · exact hT.ok m hm
    · exact hok
  · rcases List.mem_or_eq_of_mem_set hm with hm | rfl
    · exact hT.hs m hm
    · rw [hh]; exact hT.hs n (List.mem_of_getElem? hi)
  · have key : ∀ l : List Nd, l.Pairwise (fun x y => ltE x.e y.e) ↔ (l.map fun n => (n.e.k, n.e.s)).Pairwise (fun x y => bl x.1.toList y.1.toList = true ∨ x.1 = y.1 ∧ y.2 < x.2) := fun l => by
      rw [List.pairwise_map]; rfl
    show (ns.set i n').Pairwise fun x y => ltE x.e y.e
    rw [key, set_map hi (by rw [← hs.1, ← hs.2]), ← key]
    exact hT.sorted
  · show IRow (fun k => O k ∧ k ∉ nbs bt ha0 (ns.set i n')) w' dv ds
    rw [e2]; exact hT.draws.ck (CK.of_keep hk fun k _ ho e => ho.2 (by rw [e]; exact hnb))
/-- A node is laid in. -/
theorem Tab.insert {p hgt cnt : Nat} {nw : Nd} (hT : Tab O w t) (hp : Below t.ns nw.e p) (hne : ∀ h : p < t.ns.length, ¬ sameE t.ns[p].e nw.e) (htb : Blk w' t.bt (tabCells t.ha hgt cnt t.dv t.sz) 114)
    (hlo : ∀ i, i ≤ p → Blk w' (posA t.ha t.ns i) (tower (posH t.ns i) ((stage t.ns p nw nw.h).drop i)) 130) (hhi : ∀ i, p < i → i ≤ t.ns.length → Blk w' (posA t.ha t.ns i) (tower (posH t.ns i) (t.ns.drop i)) 130)
    (hnb : Blk w' nw.b (nodeCells nw) 110) (hna : Blk w' nw.a (tower nw.h (t.ns.drop p)) 130) (hk : Keep (fun k => k ∉ t.ha :: t.ns.map (·.a) ∧ k ≠ t.bt) w w') (hfb : w.heap.size ≤ nw.b) (hfa : w.heap.size ≤ nw.a) (hok : EntOk nw.e) (hh : 1 ≤ nw.h ∧ nw.h ≤ 12)
    (hby : Byts (fun k => O k ∧ k ∉ t.nb) w nw.bv nw.e.v) : Tab (fun k => O k ∨ k = nw.b ∨ k = nw.a) w' { t with ns := stage t.ns p nw nw.h, hgt := hgt, cnt := cnt } := by
  obtain ⟨bt, ha0, ns, hgt0, cnt0, dv, ds, sz⟩ := t
  have hnw : ({ nw with h := nw.h } : Nd) = nw := rfl
  have hst : stage ns p nw nw.h = ns.take p ++ nw :: ns.drop p := rfl
  have hlen : p ≤ ns.length := hp.le
  have hmem : ∀ m, m ∈ stage ns p nw nw.h ↔ m ∈ ns ∨ m = nw := fun m => by
    rw [hst, List.mem_append, List.mem_cons]
    constructor
    · rintro (h | h | h)
      · exact .inl (List.mem_of_mem_take h)
      · exact .inr h
      · exact .inl (List.mem_of_mem_drop h)
    · rintro (h | h)
      · rw [← List.take_append_drop p ns, List.mem_append] at h
        rcases h with h | h
        · exact .inl h
        · exact .inr (.inr h)
      · exact .inr (.inl h)
  have hnbm : ∀ k, k ∈ nbs bt ha0 (stage ns p nw nw.h) ↔ k ∈ nbs bt ha0 ns ∨ k = nw.b ∨ k = nw.a := fun k => by
    simp only [nbs, List.mem_cons, List.mem_flatMap, hmem, List.not_mem_nil, or_false]
    constructor
    · rintro (h | h | ⟨m, hm | rfl, h⟩)
      · exact .inl (.inl h)
      · exact .inl (.inr (.inl h))
      · exact .inl (.inr (.inr ⟨m, hm, h⟩))
      · exact .inr h
    · rintro ((h | h | ⟨m, hm, h⟩) | h)
      · exact .inl h
      · exact .inr (.inl h)
      · exact .inr (.inr ⟨m, .inl hm, h⟩)
      · exact .inr (.inr ⟨nw, .inr rfl, h⟩)
  have hltm : ∀ k, k ∈ nbs bt ha0 ns → k < w.heap.size := fun k hk => hT.nb_lt hk
  have hper : (stage ns p nw nw.h).Perm (nw :: ns) := by
    rw [hst]
    have h1 : (ns.take p ++ nw :: ns.drop p).Perm (nw :: (ns.take p ++ ns.drop p)) := List.perm_middle
    rwa [List.take_append_drop] at h1
  have hout : ∀ k, k < w.heap.size → (O k ∧ k ∉ nbs bt ha0 ns) → (O k ∨ k = nw.b ∨ k = nw.a) ∧ k ∉ nbs bt ha0 (stage ns p nw nw.h) := fun k hk ho => ⟨.inl ho.1, fun h => by
    rcases (hnbm k).1 h with h | h | h
    · exact ho.2 h
    · omega
    · omega⟩
  have hck : CK (fun k => O k ∧ k ∉ nbs bt ha0 ns) w w' := CK.of_keep hk fun k _ ho => ⟨fun h => ho.2 (by
    simp only [List.mem_cons, List.mem_map] at h
    simp only [nbs, List.mem_cons, List.mem_flatMap]
    rcases h with h | ⟨m, hm, h⟩
    · exact .inr (.inl h)
    · exact .inr (.inr ⟨m, hm, by simp [h]⟩)), fun h => ho.2 (by simp [nbs, h])⟩
  refine ⟨htb, ?_, fun i m hi => ?_, ?_, ?_, fun m hm => ?_, fun k hk' => ?_, fun m hm => ?_, fun m hm => ?_, ?_, ?_⟩
  · exact hlo 0 (Nat.zero_le _)
  · show Blk w' m.b (nodeCells m) 110 ∧ Blk w' m.a (tower m.h ((stage ns p nw nw.h).drop (i + 1))) 130
    replace hi : (stage ns p nw nw.h)[i]? = some m := hi
    have hkb : ∀ j x, ns[j]? = some x → Blk w' x.b (nodeCells x) 110 := fun j x hx => by
      have h1 := (hT.nd j x hx).1
      refine h1.keep hk ⟨fun h => ?_, h1.ne hT.tb (by decide)⟩
      simp only [List.mem_cons, List.mem_map] at h
      rcases h with h | ⟨y, hy, h⟩
      · exact h1.ne hT.hd (by decide) h
      · obtain ⟨jy, hjy, rfl⟩ := List.getElem_of_mem hy
        exact h1.ne (hT.nd jy _ (List.getElem?_eq_getElem hjy)).2 (by decide) h.symm
    rw [hst] at hi
    rcases Nat.lt_trichotomy i p with h | h | h
    · rw [List.getElem?_append_left (by simp; omega), List.getElem?_take_of_lt h] at hi
      refine ⟨hkb i m hi, ?_⟩
      have := hlo (i + 1) (by omega)
      simp only [posA, posH, hi, Option.map_some, Option.getD_some] at this
      exact this
    · subst h
      rw [List.getElem?_append_right (by simp; omega)] at hi
      simp only [List.length_take, Nat.min_eq_left hlen, Nat.sub_self, List.getElem?_cons_zero, Option.some.injEq] at hi
      subst hi
      refine ⟨hnb, ?_⟩
      have e : (stage ns i nw nw.h).drop (i + 1) = ns.drop i := by
        rw [hst, List.drop_append]
        simp only [List.length_take, Nat.min_eq_left hlen]
        rw [List.drop_eq_nil_of_le (by simp; omega), show i + 1 - i = 1 from by omega]; rfl
      rw [e]; exact hna
    · obtain ⟨j, rfl⟩ : ∃ j, i = j + 1 := ⟨i - 1, by omega⟩
      rw [List.getElem?_append_right (by simp; omega)] at hi
      simp only [List.length_take, Nat.min_eq_left hlen] at hi
      rw [show j + 1 - p = (j - p) + 1 from by omega, List.getElem?_cons_succ, List.getElem?_drop, show p + (j - p) = j from by omega] at hi
      have hjl := (List.getElem?_eq_some_iff.1 hi).1
      refine ⟨hkb j m hi, ?_⟩
      have e : (stage ns p nw nw.h).drop (j + 1 + 1) = ns.drop (j + 1) := by
        rw [hst, List.drop_append]
        simp only [List.length_take, Nat.min_eq_left hlen]
        rw [List.drop_eq_nil_of_le (by simp; omega), show j + 1 + 1 - p = (j + 1 - p) + 1 from by omega, List.drop_succ_cons, List.drop_drop, List.nil_append]
        congr 1; omega
      rw [e]
      have := hhi (j + 1) (by omega) hjl
      simp only [posA, posH, hi, Option.map_some, Option.getD_some] at this
      exact this
  · show ((stage ns p nw nw.h).map (·.b)).Nodup
    refine (hper.map (·.b)).nodup_iff.2 ?_
    rw [List.map_cons, List.nodup_cons]
    refine ⟨fun h => ?_, hT.db⟩
    obtain ⟨m, hm, h⟩ := List.mem_map.1 h
    obtain ⟨j, hj, rfl⟩ := List.getElem_of_mem hm
    have := (hT.nd j _ (List.getElem?_eq_getElem hj)).1.lt
    replace h : ns[j].b = nw.b := h
    replace this : ns[j].b < w.heap.size := this
    omega
  · show (ha0 :: (stage ns p nw nw.h).map (·.a)).Nodup
    refine ((hper.map (·.a)).cons ha0).nodup_iff.2 ?_
    rw [List.map_cons]
    refine (List.Perm.swap nw.a ha0 _).nodup_iff.2 ?_
    rw [List.nodup_cons]
    refine ⟨fun h => ?_, hT.da⟩
    rcases List.mem_cons.1 h with h | h
    · have := hT.hd.lt
      replace this : ha0 < w.heap.size := this
      omega
    · obtain ⟨m, hm, h⟩ := List.mem_map.1 h
      obtain ⟨j, hj, rfl⟩ := List.getElem_of_mem hm
      have := (hT.nd j _ (List.getElem?_eq_getElem hj)).2.lt
      replace h : ns[j].a = nw.a := h
      replace this : ns[j].a < w.heap.size := this
      omega
  · show Byts (fun k => (O k ∨ k = nw.b ∨ k = nw.a) ∧ k ∉ nbs bt ha0 (stage ns p nw nw.h)) w' m.bv m.e.v
    have h1 : Byts (fun k => O k ∧ k ∉ nbs bt ha0 ns) w m.bv m.e.v := by
      rcases (hmem m).1 hm with h | rfl
      · exact hT.byts m h
      · exact hby
    exact ((h1.mono (A' := fun k => k < w.heap.size ∧ (O k ∧ k ∉ nbs bt ha0 ns)) fun k hk ho => ⟨hk, ho⟩).ck (fun ad v ha hc => hck ad v ha.2 hc)).mono fun k _ ho => hout k ho.1 ho.2
  · rcases (hnbm k).1 hk' with h | h | h
    · exact .inl (hT.own k h)
    · exact .inr (.inl h)
    · exact .inr (.inr h)
  · rcases (hmem m).1 hm with h | rfl
    · exact hT.ok m h
    · exact hok
  · rcases (hmem m).1 hm with h | rfl
    · exact hT.hs m h
    · exact hh
  · show (stage ns p nw nw.h).Pairwise fun x y => ltE x.e y.e
    have hso : ns.Pairwise fun x y => ltE x.e y.e := hT.sorted
    have hsp := hso
    rw [← List.take_append_drop p ns, List.pairwise_append] at hsp
    have hdr : ∀ m ∈ ns.drop p, ltE nw.e m.e := fun m hm => by
      rw [List.mem_drop_iff_getElem] at hm
      obtain ⟨j, hj, rfl⟩ := hm
      have hpl : p < ns.length := by omega
      have h0 : ltE nw.e ns[p].e := by
        rcases ltE_total ns[p].e nw.e with h | h | h
        · exact absurd h (hp.hi p hpl (Nat.le_refl _))
        · exact absurd h (hne hpl)
        · exact h
      by_cases e : j = 0
      · subst e; exact h0
      · exact ltE_trans h0 (List.pairwise_iff_getElem.1 hso p (p + j) hpl (by omega) (by omega))
    rw [hst, List.pairwise_append, List.pairwise_cons]
    refine ⟨hsp.1, ⟨hdr, hsp.2.1⟩, fun x hx y hy => ?_⟩
    have hxn : ltE x.e nw.e := by
      rw [List.mem_take_iff_getElem] at hx
      obtain ⟨j, hj, rfl⟩ := hx
      have hjl : j < ns.length := by omega
      exact hp.lo j hjl (by omega)
    rcases List.mem_cons.1 hy with rfl | hy
    · exact hxn
    · exact hsp.2.2 x hx y hy
  · show IRow (fun k => (O k ∨ k = nw.b ∨ k = nw.a) ∧ k ∉ nbs bt ha0 (stage ns p nw nw.h)) w' dv ds
    have h1 := hT.draws.ck hck
    obtain ⟨ad, cap, e, h2, h3⟩ := h1
    obtain ⟨ad', cap', e', -, h3'⟩ := hT.draws
    refine ⟨ad, cap, e, h2, fun hn => ?_⟩
    obtain ⟨b, o, g1, g2, g3⟩ := h3 hn
    obtain ⟨b', o', g1', g2', g3'⟩ := h3' hn
    have hbb : b = b' := by rw [e] at e'; cases e'; rw [g1] at g1'; cases g1'; rfl
    subst hbb
    have hlt : b < w.heap.size := by
      cases hz : ds with
      | nil => exact absurd hz hn
      | cons z zs => exact World.block_lt_of_cell? w _ (g3' 0 z (by rw [show (Td.mk bt ha0 ns hgt0 cnt0 dv ds sz).ds = ds from rfl, hz]; rfl))
    exact ⟨b, o, g1, hout b hlt g2, g3⟩
end
/-! ### the walk of put: what is known on the way -/
theorem cells_one {e : Ent} {bv : Value} (h : bv.oneCell' = true) : (cellsOf e bv).all Value.oneCell' = true := by
  show (true && (true && (true && (bv.oneCell' && true)))) = true
  rw [h]; rfl
theorem nodeV {w : World} {n : Nd} (h : Blk w n.b (nodeCells n) 110) : Cells w n.b (0 + 0) (cellsOf n.e n.bv) := fun j v hj => by
  have hlt := (List.getElem?_eq_some_iff.1 hj).1
  rw [show 0 + 0 + j = j from by omega]
  refine h.cell ?_
  simp only [nodeCells]
  rw [List.getElem?_append_left hlt]; exact hj
def hitB (ns : List Nd) (e : Ent) (p : Nat) : Bool := match ns[p]? with
  | some n => decide (cmpE n.e e = 0)
  | none => false
theorem hitB_some {ns : List Nd} {e : Ent} {p : Nat} (h : p < ns.length) : hitB ns e p = decide (cmpE ns[p].e e = 0) := by unfold hitB; rw [List.getElem?_eq_getElem h]
theorem hitB_none {ns : List Nd} {e : Ent} {p : Nat} (h : ¬ p < ns.length) : hitB ns e p = false := by unfold hitB; rw [List.getElem?_eq_none (by omega)]
theorem hitB_true {ns : List Nd} {e : Ent} {p : Nat} (h : hitB ns e p = true) : ∃ h : p < ns.length, sameE ns[p].e e := by
  by_cases hp : p < ns.length
  · rw [hitB_some hp] at h; exact ⟨hp, cmpE_zero.1 (of_decide_eq_true h)⟩
  · rw [hitB_none hp] at h; cases h
theorem nxt_zero {ns : List Nd} {p : Nat} (hs : ∀ n ∈ ns, 1 ≤ n.h ∧ n.h ≤ 12) (hp : p < ns.length) : nxt 0 (ns.drop p) = .pointer (some ⟨ns[p].b, 0, none⟩) := by
  have := hs _ (List.getElem_mem hp)
  rw [List.drop_eq_getElem_cons hp]
  unfold nxt
  rw [List.find?_cons_of_pos (by simpa using (show 0 < ns[p].h by omega))]
  rfl
theorem nxt_zero_none {ns : List Nd} {p : Nat} (hp : ¬ p < ns.length) : nxt 0 (ns.drop p) = .pointer none := by
  rw [List.drop_eq_nil_of_le (by omega)]; rfl
abbrev Td.tow (t : Td) : Nat := towerN t.ds t.cnt
section
variable {O : Nat → Prop} {w w' : World} {t : Td}
theorem Tab.posH_pos (h : Tab O w t) {i : Nat} (hi : i ≤ t.ns.length) : 0 < posH t.ns i := by
  cases i with
  | zero => simp [posH]
  | succ i =>
    have hlt : i < t.ns.length := hi
    have := h.hs _ (List.getElem_mem hlt)
    simp only [posH, List.getElem?_eq_getElem hlt, Option.map_some, Option.getD_some]
    omega
theorem Tab.last0 (h : Tab O w t) {p j : Nat} (hp : p ≤ t.ns.length) (hl : LastP t.ns 0 p j) : j = p := by
  rcases Nat.lt_or_ge j p with h1 | h1
  · exact absurd (h.posH_pos hp) (hl.after p h1 (Nat.le_refl _))
  · have := hl.le; omega
theorem Tab.posB_blk (h : Tab O w t) {i : Nat} (hi : i ≤ t.ns.length) : ∃ cs T, Blk w (posB t.bt t.ns i) cs T ∧ T ≠ 130 := by
  cases i with
  | zero => exact ⟨_, _, h.tb, by decide⟩
  | succ i =>
    have hlt : i < t.ns.length := hi
    simp only [posB, List.getElem?_eq_getElem hlt, Option.map_some, Option.getD_some]
    exact ⟨_, _, (h.nd i _ (List.getElem?_eq_getElem hlt)).1, by decide⟩
theorem Tab.tow_blk (h : Tab O w t) {k : Nat} (hk : k ∈ t.ha :: t.ns.map (·.a)) : ∃ cs, Blk w k cs 130 := by
  rcases List.mem_cons.1 hk with rfl | hk
  · exact ⟨_, h.hd⟩
  · obtain ⟨m, hm, rfl⟩ := List.mem_map.1 hk
    obtain ⟨j, hj, rfl⟩ := List.getElem_of_mem hm
    exact ⟨_, (h.nd j _ (List.getElem?_eq_getElem hj)).2⟩
theorem tow_mem_nb {k : Nat} (hk : k ∈ t.ha :: t.ns.map (·.a)) : k ∈ t.nb := by
  simp only [Td.nb, nbs, List.mem_cons, List.mem_flatMap]
  rcases List.mem_cons.1 hk with rfl | hk
  · exact .inr (.inl rfl)
  · obtain ⟨m, hm, rfl⟩ := List.mem_map.1 hk
    exact .inr (.inr ⟨m, hm, by simp⟩)
/-- The new node is tied in up to level s. -/
structure PutS (t : Td) (p : Nat) (nw : Nd) (w6 : World) (s : Nat) (w' : World) : Prop where
  keep : Keep (fun k => k ∉ t.ha :: t.ns.map (·.a) ∧ k ≠ nw.a) w6 w'
  lo : ∀ i, i ≤ p → Blk w' (posA t.ha t.ns i) (tower (posH t.ns i) ((stage t.ns p nw s).drop i)) 130
  hi : ∀ i, p < i → i ≤ t.ns.length → Blk w' (posA t.ha t.ns i) (tower (posH t.ns i) (t.ns.drop i)) 130
  na : Blk w' nw.a (tower s (t.ns.drop p) ++ List.replicate (nw.h - s) (.pointer none)) 130
theorem PutS.start {p : Nat} {nw : Nd} (hT : Tab O w t) (hp : p ≤ t.ns.length) (hB : Blk w nw.a (List.replicate nw.h (.pointer none)) 130) : PutS t p nw w 0 w where
  keep := Keep.refl _ _
  lo := fun i hi => by rw [tower_stage0 nw hi hp]; exact hT.towerAt i (by omega)
  hi := fun i _ hi => hT.towerAt i hi
  na := by simpa [tower] using hB
theorem tower_step {h s : Nat} (l : List Nd) (hs : s < h) : (tower s l ++ List.replicate (h - s) (Value.pointer none)).set s (nxt s l) = tower (s + 1) l ++ List.replicate (h - (s + 1)) (Value.pointer none) := by
  rw [List.set_append_right _ _ (by rw [tower_len]; exact Nat.le_refl _), tower_len, Nat.sub_self, show h - s = (h - (s + 1)) + 1 from by omega, List.replicate_succ, List.set_cons_zero]
  unfold tower
  rw [List.range_succ, List.map_append]
  simp
theorem PutS.step {p s j : Nat} {nw : Nd} {w1 w2 w6 : World} (h : PutS t p nw w6 s w) (hT : Tab O w6 t) (hfa : nw.a ∉ t.ha :: t.ns.map (·.a)) (hp : p ≤ t.ns.length) (hl : LastP t.ns s p j) (hs : s < nw.h) (hk1 : Keep (· ≠ nw.a) w w1)
    (hB1 : Blk w1 nw.a ((tower s (t.ns.drop p) ++ List.replicate (nw.h - s) (Value.pointer none)).set s (nxt s (t.ns.drop p))) 130) (hk2 : Keep (· ≠ posA t.ha t.ns j) w1 w2)
    (hB2 : Blk w2 (posA t.ha t.ns j) ((tower (posH t.ns j) ((stage t.ns p nw s).drop j)).set s (.pointer (some ⟨nw.b, 0, none⟩))) 130) : PutS t p nw w6 (s + 1) w2 := by
  have hjp := hl.le
  have hne : ∀ i, i ≤ t.ns.length → posA t.ha t.ns i ≠ nw.a := fun i hi e => hfa (by rw [← e]; exact posA_mem hi)
  refine ⟨(h.keep.then hk1 fun k _ hk => hk.2).then hk2 fun k _ hk e => hk.1 (by rw [e]; exact posA_mem (by omega)), fun i hi => ?_, fun i hi1 hi2 => ?_, ?_⟩
  · by_cases e : i = j
    · subst e; rw [tower_hit nw hp hl]; exact hB2
    · rw [tower_miss nw hp hl hi e]
      exact ((h.lo i hi).keep hk1 (hne i (by omega))).keep hk2 (hT.posA_ne (by omega) (by omega) e)
  · exact ((h.hi i hi1 hi2).keep hk1 (hne i hi2)).keep hk2 (hT.posA_ne hi2 (by omega) (by omega))
  · rw [tower_step _ hs] at hB1
    exact hB1.keep hk2 (hne j (by omega)).symm
end
end Go.Proofs.Ytblbddamebbgaaa.K

/- Walks: put. -/
namespace Go.Proofs.Ytblbddamebbgaaa.K
open Go Go.RowKit
set_option linter.unusedVariables false
set_option linter.unusedSimpArgs false

/-- The node that a put makes. -/
abbrev Td.mk1 (t : Td) (b a : Nat) (e : Ent) (bv : Value) : Nd := ⟨b, a, t.tow, e, bv⟩
/-- The table behind a put at place p that found none. -/
def Td.put1 (t : Td) (p b a : Nat) (e : Ent) (bv : Value) : Td := { t with ns := stage t.ns p (t.mk1 b a e bv) t.tow, hgt := max t.hgt t.tow, cnt := t.cnt + 1 }
/-- .. that found one. -/
def Td.put0 (t : Td) (p : Nat) (n : Nd) (e : Ent) (bv : Value) : Td := { t with ns := t.ns.set p { n with e := e, bv := bv } }
theorem C66 {O : Nat → Prop} {w : World} {t : Td} {e : Ent} {bv : Value} {p : Nat} (hT : Tab O w t) (hb : Below t.ns e p) (hok : EntOk e) (hby : Byts (fun k => O k ∧ k ∉ t.nb) w bv e.v) (hcnt : t.cnt < 4611686018427387904) :
    Rt Try.prog 66 [.pointer (some ⟨t.bt, 0, none⟩), .agg (cellsOf e bv).toArray, .func (.func 67) #[.pointer (some ⟨t.bt, 0, none⟩)] #[]] w fun r w' =>
      ((hitB t.ns e p = true ∧ ∃ n, t.ns[p]? = some n ∧ r = .tuple #[.agg (cellsOf n.e n.bv).toArray, .bool true] ∧ Tab O w' (t.put0 p n e bv)) ∨
       (hitB t.ns e p = false ∧ r = .tuple #[.agg (cellsOf z0 (.slice none 0 0)).toArray, .bool false] ∧ ∃ b a, w.heap.size ≤ b ∧ w.heap.size ≤ a ∧ Tab (fun k => O k ∨ k = b ∨ k = a) w' (t.put1 p b a e bv))) ∧ Keep (fun k => k ∉ t.nb) w w' := by
  have hpl0 : p ≤ t.ns.length := hb.le
  have hone := cells_one (e := e) hby.one
  have htow : 1 ≤ t.tow ∧ t.tow ≤ 12 := towerN_le t.ds t.cnt
  have hW := hWw
  have hFF := hFw
  have hE : Ext w w := Keep.refl _ _
  refine rt_body Try.func66 rfl Try.ntmps66 rfl ?_
  refine wc_seq ?_
  refine wc_region ?_
  refine wl_box hW rfl rfl rfl rfl ?_
  intro b4 w4 hl4 hB4 hx4
  have g4 : w.heap.size ≤ b4 := Nat.le_trans hE.size hl4
  replace hE := hE.trans hx4
  refine wl_alloc (cs := [.string ⟨#[]⟩, .int .u64 0, .bool false, .slice none 0 0]) hW rfl rfl Try.zeroValue25 rfl ?_
  intro b6 w6 hl6 hB6 hx6
  have g6 : w.heap.size ≤ b6 := Nat.le_trans hE.size hl6
  have n6_4 : b6 ≠ b4 := Nat.ne_of_gt (Nat.lt_of_lt_of_le hB4.lt hl6)
  replace hB4 := hB4.ext hx6
  replace hE := hE.trans hx6
  refine wl_val hW rfl rfl (x_assign rfl) ?_
  refine wl_nil ?_
  refine nx_then ?_
  refine wc_seq ?_
  refine wc_region ?_
  refine wl_val hW rfl rfl (x_move rfl) ?_
  refine wl_val hW rfl rfl (x_loadA ag25 rfl hB4.cells rfl) ?_
  refine wl_call hW rfl rfl (x_call en84 rfl) ((C84 (hT.ext hE) hb).inF hFF) ?_
  rintro _ wC ⟨⟨cs, rfl, hcs⟩, hxC⟩
  replace hB4 := hB4.ext hxC
  replace hB6 := hB6.ext hxC
  replace hE := hE.trans hxC
  refine wl_alloc (cs := [.pointer none, .pointer none, .pointer none, .pointer none, .pointer none, .pointer none, .pointer none, .pointer none, .pointer none, .pointer none, .pointer none, .pointer none]) hW rfl rfl Try.zeroValue131 rfl ?_
  intro b8 w8 hl8 hB8 hx8
  have g8 : w.heap.size ≤ b8 := Nat.le_trans hE.size hl8
  have n8_4 : b8 ≠ b4 := Nat.ne_of_gt (Nat.lt_of_lt_of_le hB4.lt hl8)
  replace hB4 := hB4.ext hx8
  have n8_6 : b8 ≠ b6 := Nat.ne_of_gt (Nat.lt_of_lt_of_le hB6.lt hl8)
  replace hB6 := hB6.ext hx8
  replace hE := hE.trans hx8
  refine wl_storeA hW rfl ag131 rfl rfl (List.all_eq_true.2 hcs.2.1) hcs.1 hB8 (by rw [hcs.1]; rfl) ?_
  intro wS hBS hkS
  replace hB4 := hB4.keep hkS n8_4.symm
  replace hB6 := hB6.keep hkS n8_6.symm
  replace hB8 := hBS
  clear hBS
  replace hE := hE.store hkS g8
  replace hB8 : Blk wS b8 cs 131 := by simpa [hcs.1] using hB8
  obtain ⟨j0, hj0, hl0⟩ := hcs.2.2 0 (by omega) (by omega)
  obtain rfl := hT.last0 hpl0 hl0
  have hTS := hT.ext hE
  have hpos := hT.posH_pos hpl0
  have hpo : 0 ≤ (0 : Int) ∧ (0 : Int) < (posH t.ns j0 : Nat) := by omega
  have hC20 : wS.cell? ⟨posA t.ha t.ns j0, 0 + (0 : Int).toNat * 1, none⟩ = some (nxt 0 (t.ns.drop j0)) := hTS.cellAt j0 0 hpl0 hpos
  refine wl_nil ?_
  refine nx_then ?_
  refine wc_seq ?_
  refine wc_seq ?_
  refine wc_region ?_
  refine wl_val hW rfl rfl (x_indexArr Try.underlying131 fl130.siz rfl rfl (by decide) (by decide)) ?_
  refine wl_val hW rfl rfl (x_load fl130 rfl (hB8.cell (o := 0) hj0)) ?_
  refine wl_val hW rfl rfl (x_nilCheck rfl) ?_
  refine wl_val hW rfl rfl (x_fieldAddr Try.underlying110 rfl fl108.siz rfl) ?_
  refine wl_val hW rfl rfl (x_load fl108 rfl (hTS.nextAt j0 hpl0)) ?_
  refine wl_val hW rfl rfl (x_indexAddr Try.underlying108 fl130.siz rfl rfl hpo.1 hpo.2) ?_
  refine wl_val hW rfl rfl (x_load fl130 rfl hC20) ?_
  refine wl_val hW rfl rfl (x_assign rfl) ?_
  refine wl_nil ?_
  refine nx_then ?_
  refine wc_seq ?_
  refine wc_cut [(0, .pointer (some ⟨t.bt, 0, none⟩)), (2, .func (.func 67) #[.pointer (some ⟨t.bt, 0, none⟩)] #[]), (4, .pointer (some ⟨b4, 0, none⟩)), (6, .pointer (some ⟨b6, 0, none⟩)), (8, .pointer (some ⟨b8, 0, none⟩)), (9, nxt 0 (t.ns.drop j0)), (36, .bool (hitB t.ns e j0))] (fun w' => Ext w w' ∧ Blk w' b4 (cellsOf e bv) 25 ∧ Blk w' b6 [.string ⟨#[]⟩, .int .u64 0, .bool false, .slice none 0 0] 25 ∧ Blk w' b8 cs 131) ?_ ?_
  · refine wc_draw' 15 hW mixed (by kernel_rfl) (fun w0 hx0 => ?_)
    replace hB4 := hB4.ext hx0
    replace hB6 := hB6.ext hx0
    replace hB8 := hB8.ext hx0
    replace hE := hE.trans hx0
    refine q_val rfl rfl (fun _ hx => x_move rfl) ?_
    refine q_val rfl rfl (fun _ hx => x_pneq Try.underlying130 some110 rfl rfl) ?_
    refine q_val rfl rfl (fun _ hx => x_move rfl) ?_
    refine q_bcases (d := 24) rfl (fun hg24 => ?_) (fun hg24 => ?_)
    · have hpl : j0 < t.ns.length := by
        refine Decidable.byContradiction fun h => ?_
        rw [List.drop_eq_nil_of_le (by omega)] at hg24; cases hg24
      rw [nxt_zero hT.hs hpl, hitB_some hpl]
      have hT0 := hT.ext hE
      have hV32 := nodeV (hT0.nd j0 _ (List.getElem?_eq_getElem hpl)).1
      refine q_val rfl rfl (fun _ hx => x_move rfl) ?_
      refine q_val rfl rfl (fun _ hx => x_nilCheck rfl) ?_
      refine q_val rfl rfl (fun _ hx => x_fieldAddr Try.underlying112 rfl fl29.siz rfl) ?_
      refine q_val rfl rfl (fun _ hx => x_load fl29 rfl (hx.cell (hT0.tb.cell (o := 5) rfl))) ?_
      refine q_val rfl rfl (fun _ hx => x_move rfl) ?_
      refine q_val rfl rfl (fun _ hx => x_nilCheck rfl) ?_
      refine q_val rfl rfl (fun _ hx => x_fieldAddr Try.underlying110 rfl ag25.siz rfl) ?_
      refine q_val rfl rfl (fun _ hx => x_loadA ag25 rfl (hV32.ext hx) rfl) ?_
      refine q_val rfl rfl (fun _ hx => x_loadA ag25 rfl (hB4.ext hx).cells rfl) ?_
      refine q_call rfl rfl (fun _ => x_callv (cap := []) en64 rfl rfl) (fun w' hx => (C64 _ _ _ _ _).inF hFF) ?_
      refine q_val rfl rfl (fun _ hx => x_eql rfl rfl) ?_
      refine q_val rfl rfl (fun _ hx => x_pickT rfl rfl) ?_
      refine q_nil (tail0 (fun wt hxt => ?_))
      replace hB4 := hB4.ext hxt
      replace hB6 := hB6.ext hxt
      replace hB8 := hB8.ext hxt
      replace hE := hE.trans hxt
      refine wl_nil ?_
      exact nx_cut (by repeat (first | exact sub_nil | refine sub_cons rfl ?_)) ⟨hE, hB4, hB6, hB8⟩
    · refine q_off rfl rfl ?_
      refine q_off rfl rfl ?_
      refine q_off rfl rfl ?_
      refine q_off rfl rfl ?_
      refine q_off rfl rfl ?_
      refine q_off rfl rfl ?_
      refine q_off rfl rfl ?_
      refine q_off rfl rfl ?_
      refine q_off rfl rfl ?_
      refine q_off rfl rfl ?_
      refine q_off rfl rfl ?_
      refine q_val rfl rfl (fun _ hx => x_pickF rfl rfl) ?_
      refine q_nil (tail0 (fun wt hxt => ?_))
      replace hB4 := hB4.ext hxt
      replace hB6 := hB6.ext hxt
      replace hB8 := hB8.ext hxt
      replace hE := hE.trans hxt
      refine wl_nil ?_
      have hpl : ¬ j0 < t.ns.length := fun h => by
        have := nxt_zero hT.hs h
        unfold nxt at this; injection this with this; rw [this] at hg24; cases hg24
      rw [hitB_none hpl]
      exact nx_cut (by repeat (first | exact sub_nil | refine sub_cons rfl ?_)) ⟨hE, hB4, hB6, hB8⟩
  · rintro w3 ⟨hE, hB4, hB6, hB8⟩
    refine nx_then ?_
    refine wc_bool rfl (fun hc => ?_) (fun hc => ?_)
    · obtain ⟨hpl, hsame⟩ := hitB_true hc
      rw [nxt_zero hT.hs hpl]
      have hT3 := hT.ext hE
      have hn3 := (hT3.nd j0 _ (List.getElem?_eq_getElem hpl)).1
      have hnlt := (hT.nd j0 _ (List.getElem?_eq_getElem hpl)).1.lt
      have nb6 : t.ns[j0].b ≠ b6 := by omega
      have hone2 := cells_one (e := t.ns[j0].e) (hT.byts _ (List.getElem_mem hpl)).one
      refine wc_seq ?_
      refine wc_drawX ⟨[6], fun ph w' => Keep (· ≠ b6) w3 w' ∧ Blk w' b6 (if ph = 0 then [.string ⟨#[]⟩, .int .u64 0, .bool false, .slice none 0 0] else cellsOf t.ns[j0].e t.ns[j0].bv) 25, fun _ _ _ => True⟩ 7 hW mixed (by kernel_rfl) (by kernel_rfl) (fun ph w1 w2 h hx => ⟨h.1.trans (Keep.of_ext hx), h.2.ext hx⟩) (fun w0 hx => ⟨Keep.of_ext hx, hB6.ext hx⟩) ?_
      refine qx_val rfl rfl rfl (fun _ _ hJ => x_move rfl) ?_
      refine qx_val rfl rfl rfl (fun _ _ hJ => x_move rfl) ?_
      refine qx_val rfl rfl rfl (fun _ _ hJ => x_nilCheck rfl) ?_
      refine qx_val rfl rfl rfl (fun _ _ hJ => x_fieldAddr Try.underlying110 rfl ag25.siz rfl) ?_
      refine qx_val rfl rfl rfl (fun _ _ hJ => x_loadA ag25 rfl ((nodeV hn3).ck (A := (· ≠ b6)) nb6 (CK.of_keep hJ.1 fun _ _ h => h)) rfl) ?_
      refine qx_val rfl rfl rfl (fun _ _ hJ => x_loadA ag25 rfl ((hB4.keep hJ.1 n6_4.symm).cells) rfl) ?_
      refine qx_stA (k := 0) Nat.zero_lt_one rfl rfl rfl ag25 rfl rfl hone2 rfl (fun w' hJ => hJ.2) rfl (fun w' w'' hJ hB hk => ⟨⟨hJ.1.trans hk, hB⟩, trivial⟩) ?_
      refine qx_nil (tailx0 (fun wt hJt => ?_))
      have hKt : Keep (· ≠ b6) w3 wt := hJt.1
      have hB6t : Blk wt b6 (cellsOf t.ns[j0].e t.ns[j0].bv) 25 := hJt.2
      have hnt := hn3.keep hKt nb6
      refine wl_val hW rfl rfl (x_nilCheck rfl) ?_
      refine wl_val hW rfl rfl (x_fieldAddr Try.underlying110 rfl ag25.siz rfl) ?_
      refine wl_storeA hW rfl ag25 rfl rfl hone rfl hnt rfl ?_
      intro wS hBS hkS
      have hBn : Blk wS t.ns[j0].b (nodeCells { t.ns[j0] with e := e, bv := bv }) 110 := hBS
      clear hB6
      have hB6 := hB6t.keep hkS nb6.symm
      refine wl_nil ?_
      refine nx_then ?_
      refine wc_seq ?_
      refine wc_region ?_
      refine wl_val hW rfl rfl (x_loadA ag25 rfl hB6.cells rfl) ?_
      refine wl_storeA hW rfl ag25 rfl rfl hone2 rfl hB6 rfl ?_
      intro wF hBF hkF
      have hB6F : Blk wF b6 (cellsOf t.ns[j0].e t.ns[j0].bv) 25 := hBF
      have hKF : Keep (· ≠ t.ns[j0].b) w wF := (((Keep.of_ext hE).then hKt (fun k _ _ => by omega)).then hkS (fun k _ h => h)).then hkF (fun k _ _ => by omega)
      have hbm : t.ns[j0].b ∈ t.nb := Td.b_mem (List.getElem?_eq_getElem hpl)
      have hTF : Tab O wF (t.put0 j0 t.ns[j0] e bv) := hT.setV (List.getElem?_eq_getElem hpl) rfl rfl rfl hsame hok hKF (hBn.keep hkF nb6) (hby.ck (CK.of_keep hKF fun k _ ho e => ho.2 (by rw [e]; exact hbm)))
      refine wl_val hW rfl rfl (x_assign rfl) ?_
      refine wl_nil ?_
      refine nx_then ?_
      refine wc_ret ?_
      refine nx_then_ret ?_
      exact ends_ret (res_cell_tmp Try.results66 rfl (run_loadVar_cells ag25 hB6F.cells rfl) rfl) ⟨.inl ⟨hc, _, List.getElem?_eq_getElem hpl, rfl, hTF⟩, hKF.mono fun k _ h e => h (by rw [e]; exact hbm)⟩
    · refine wc_skip ?_
      refine nx_then ?_
      refine wc_seq ?_
      have hT3 := hT.ext hE
      have hE3 := hE
      have hcF := hc
      refine wc_draw' 4 hW mixed (by kernel_rfl) (fun w0 hx0 => ?_)
      replace hB4 := hB4.ext hx0
      replace hB6 := hB6.ext hx0
      replace hB8 := hB8.ext hx0
      replace hE := hE.trans hx0
      refine q_val rfl rfl (fun _ hx => x_loadA ag25 rfl (hB4.ext hx).cells rfl) ?_
      refine q_val rfl rfl (fun _ hx => x_move rfl) ?_
      refine q_call rfl rfl (fun _ => x_callm (first := [.pointer (some ⟨t.bt, 0, none⟩)]) en67 rfl rfl) (fun w' hx => (C67 ((hT.ext hE).ext hx) hcnt).inF hFF) ?_
      refine q_makePtrs rfl rfl rfl rfl rfl (Nat.le_trans htow.2 (by decide)) ?_
      refine q_nil (tail1 (fun wt v49 hxt h49 => ?_))
      obtain ⟨ba, rfl, hba, hBa⟩ := h49
      have hba0 : w.heap.size ≤ ba := Nat.le_trans hE.size hba
      have n4a : b4 ≠ ba := Nat.ne_of_lt (Nat.lt_of_lt_of_le hB4.lt hba)
      have n6a : b6 ≠ ba := Nat.ne_of_lt (Nat.lt_of_lt_of_le hB6.lt hba)
      have n8a : b8 ≠ ba := Nat.ne_of_lt (Nat.lt_of_lt_of_le hB8.lt hba)
      replace hB4 := hB4.ext hxt
      replace hB6 := hB6.ext hxt
      replace hB8 := hB8.ext hxt
      replace hE := hE.trans hxt
      refine wl_val hW rfl rfl (x_buildNode rfl rfl) ?_
      refine wl_box hW rfl rfl rfl rfl ?_
      intro b51 w51 hl51 hB51 hx51
      have g51 : w.heap.size ≤ b51 := Nat.le_trans hE.size hl51
      have n51_4 : b51 ≠ b4 := Nat.ne_of_gt (Nat.lt_of_lt_of_le hB4.lt hl51)
      replace hB4 := hB4.ext hx51
      have n51_6 : b51 ≠ b6 := Nat.ne_of_gt (Nat.lt_of_lt_of_le hB6.lt hl51)
      replace hB6 := hB6.ext hx51
      have n51_8 : b51 ≠ b8 := Nat.ne_of_gt (Nat.lt_of_lt_of_le hB8.lt hl51)
      replace hB8 := hB8.ext hx51
      replace hE := hE.trans hx51
      replace hBa := hBa.ext hx51
      have hT6 := hT.ext hE
      have hBn : Blk w51 b51 (nodeCells (t.mk1 b51 ba e bv)) 110 := hB51
      have n51a := hBn.ne hBa (by decide)
      have hout : ∀ k, w.heap.size ≤ k → k ∉ t.ha :: t.ns.map (·.a) := fun k hk hm => by have := hT.nb_lt (tow_mem_nb hm); omega
      have hEw := hE
      refine wl_val hW rfl rfl (x_assign rfl) ?_
      refine wl_nil ?_
      refine nx_then ?_
      refine wc_seq ?_
      refine wc_seq ?_
      refine wc_region ?_
      refine wl_val hW rfl rfl (x_move rfl) ?_
      refine wl_val hW rfl rfl (x_nilCheck rfl) ?_
      refine wl_val hW rfl rfl (x_fieldAddr Try.underlying110 rfl fl108.siz rfl) ?_
      refine wl_val hW rfl rfl (x_load fl108 rfl (hB51.cell (o := 4) rfl)) ?_
      refine wl_val hW rfl rfl (x_len Try.underlying108 rfl) ?_
      refine wl_val hW rfl rfl (x_move rfl) ?_
      refine wl_nil ?_
      refine nx_then ?_
      refine wc_block ?_
      refine wc_loop (σ := Nat) (fun s => [(0, .pointer (some ⟨t.bt, 0, none⟩)), (6, .pointer (some ⟨b6, 0, none⟩)), (8, .pointer (some ⟨b8, 0, none⟩)), (10, .pointer (some ⟨b51, 0, none⟩)), (56, .int .i64 (t.tow : Nat)), (57, .int .i64 (s : Nat))]) (fun s w' => s ≤ t.tow ∧ PutS t j0 (t.mk1 b51 ba e bv) w51 s w') (fun s => t.tow - s) 0 ?_ ?_ ?_
      · exact ⟨Nat.zero_le _, PutS.start hT6 hpl0 hBa⟩
      · repeat (first | exact sub_nil | refine sub_cons rfl ?_)
      · rintro s wr ⟨hs, hP⟩
        have hK := hP.keep
        replace hB6 := hB6.keep hK ⟨hout _ g6, n6a⟩
        replace hB8 := hB8.keep hK ⟨hout _ g8, n8a⟩
        replace hBn := hBn.keep hK ⟨hout _ g51, n51a⟩
        have hTb := hT6.tb.keep hK ⟨fun hm => by obtain ⟨cs', h⟩ := hT6.tow_blk hm; exact hT6.tb.ne h (by decide) rfl, hT6.tb.ne hBa (by decide)⟩
        refine wc_seq ?_
        refine wc_region ?_
        refine wl_val hW rfl rfl (x_lss rfl rfl) ?_
        refine wl_nil ?_
        refine nx_then ?_
        refine wc_seq ?_
        refine wc_dec rfl (fun hc => ?_) (fun hc => ?_)
        · refine wc_skip ?_
          refine nx_then ?_
          refine wc_seq ?_
          refine wc_block ?_
          refine wc_seq ?_
          refine wc_region ?_
          have hs12 : s < 12 := by have := htow.2; omega
          obtain ⟨j, hj, hl⟩ := hcs.2.2 s (by omega) hs12
          have hjl : j ≤ t.ns.length := Nat.le_trans hl.le hpl0
          have hjs := hl.h
          obtain ⟨csB, TB, hBB, hTB⟩ := hT6.posB_blk hjl
          have nBa : posB t.bt t.ns j ≠ ba := hBB.ne hBa hTB
          have nAa : posA t.ha t.ns j ≠ ba := fun h => hout ba hba0 (by rw [← h]; exact posA_mem hjl)
          have hC67 : wr.cell? ⟨b8, 0 + ((s : Nat) : Int).toNat * 1, none⟩ = some (ptr t.bt t.ns j) := by simpa using hB8.cell hj
          have hC70 : wr.cell? ⟨posB t.bt t.ns j, 0 + 4, none⟩ = some (.slice (some ⟨posA t.ha t.ns j, 0, none⟩) (posH t.ns j) (posH t.ns j)) := hK.cell (hT6.nextAt j hjl) ⟨fun hm => by obtain ⟨cs', h⟩ := hT6.tow_blk hm; exact hBB.ne h hTB rfl, nBa⟩
          have hBj := hP.lo j hl.le
          have hC80 : wr.cell? ⟨posA t.ha t.ns j, 0 + ((s : Nat) : Int).toNat * 1, none⟩ = some (nxt s (t.ns.drop j0)) := by
            have := hBj.cell (tower_at _ hjs)
            rw [nxt_last _ hpl0 hl] at this
            simpa using this
          have hp12 : 0 ≤ ((s : Nat) : Int) ∧ ((s : Nat) : Int) < (12 : Nat) := by omega
          have hpj : 0 ≤ ((s : Nat) : Int) ∧ ((s : Nat) : Int) < (posH t.ns j : Nat) := by omega
          have hpt : 0 ≤ ((s : Nat) : Int) ∧ ((s : Nat) : Int) < (t.tow : Nat) := by omega
          refine wl_val hW rfl rfl (x_move rfl) ?_
          refine wl_val hW rfl rfl (x_assign rfl) ?_
          refine wl_nil ?_
          refine nx_then ?_
          refine wc_drawX ⟨[23], fun ph w' => Keep (· ≠ ba) wr w' ∧ Blk w' ba (if ph = 0 then tower s (t.ns.drop j0) ++ List.replicate (t.tow - s) (Value.pointer none) else (tower s (t.ns.drop j0) ++ List.replicate (t.tow - s) (Value.pointer none)).set (0 + ((s : Nat) : Int).toNat * 1) (nxt s (t.ns.drop j0))) 130, fun _ _ _ => True⟩ 24 hW mixed (by kernel_rfl) (by kernel_rfl) (fun ph w1 w2 h hx => ⟨h.1.trans (Keep.of_ext hx), h.2.ext hx⟩) (fun w0 hx => ⟨Keep.of_ext hx, hP.na.ext hx⟩) ?_
          refine qx_val rfl rfl rfl (fun _ _ hJ => x_move rfl) ?_
          refine qx_val rfl rfl rfl (fun _ _ hJ => x_nilCheck rfl) ?_
          refine qx_val rfl rfl rfl (fun _ _ hJ => x_fieldAddr Try.underlying110 rfl fl108.siz rfl) ?_
          refine qx_val rfl rfl rfl (fun _ _ hJ => x_load fl108 rfl (hJ.1.cell (hBn.cell (o := 4) rfl) n51a)) ?_
          refine qx_val rfl rfl rfl (fun _ _ hJ => x_move rfl) ?_
          refine qx_val rfl rfl rfl (fun _ _ hJ => x_move rfl) ?_
          refine qx_val rfl rfl rfl (fun _ _ hJ => x_indexArr Try.underlying131 fl130.siz rfl rfl hp12.1 hp12.2) ?_
          refine qx_val rfl rfl rfl (fun _ _ hJ => x_load fl130 rfl (hJ.1.cell hC67 n8a)) ?_
          refine qx_val rfl rfl rfl (fun _ _ hJ => x_nilCheck rfl) ?_
          refine qx_val rfl rfl rfl (fun _ _ hJ => x_fieldAddr Try.underlying110 rfl fl108.siz rfl) ?_
          refine qx_val rfl rfl rfl (fun _ _ hJ => x_load fl108 rfl (hJ.1.cell hC70 nBa)) ?_
          refine qx_val rfl rfl rfl (fun _ _ hJ => x_move rfl) ?_
          refine qx_val rfl rfl rfl (fun _ _ hJ => x_move rfl) ?_
          refine qx_val rfl rfl rfl (fun _ _ hJ => x_indexArr Try.underlying131 fl130.siz rfl rfl hp12.1 hp12.2) ?_
          refine qx_val rfl rfl rfl (fun _ _ hJ => x_load fl130 rfl (hJ.1.cell hC67 n8a)) ?_
          refine qx_val rfl rfl rfl (fun _ _ hJ => x_nilCheck rfl) ?_
          refine qx_val rfl rfl rfl (fun _ _ hJ => x_fieldAddr Try.underlying110 rfl fl108.siz rfl) ?_
          refine qx_val rfl rfl rfl (fun _ _ hJ => x_load fl108 rfl (hJ.1.cell hC70 nBa)) ?_
          refine qx_val rfl rfl rfl (fun _ _ hJ => x_move rfl) ?_
          refine qx_val rfl rfl rfl (fun _ _ hJ => x_indexAddr Try.underlying108 fl130.siz rfl rfl hpj.1 hpj.2) ?_
          refine qx_val rfl rfl rfl (fun _ _ hJ => x_load fl130 rfl (hJ.1.cell hC80 nAa)) ?_
          refine qx_val rfl rfl rfl (fun _ _ hJ => x_move rfl) ?_
          refine qx_val rfl rfl rfl (fun _ _ hJ => x_indexAddr Try.underlying108 fl130.siz rfl rfl hpt.1 hpt.2) ?_
          refine qx_st (k := 0) Nat.zero_lt_one rfl rfl rfl fl130 rfl rfl rfl (fun w' hJ => hJ.2) (by simp [tower_len]; omega) (fun w' w'' hJ hB hk => ⟨⟨hJ.1.trans hk, hB⟩, trivial⟩) ?_
          refine qx_nil (tailx0 (fun wt hJt => ?_))
          have hKt : Keep (· ≠ ba) wr wt := hJt.1
          have hBt : Blk wt ba ((tower s (t.ns.drop j0) ++ List.replicate (t.tow - s) (Value.pointer none)).set (0 + ((s : Nat) : Int).toNat * 1) (nxt s (t.ns.drop j0))) 130 := hJt.2
          have e0 : 0 + ((s : Nat) : Int).toNat * 1 = s := by omega
          rw [e0] at hBt
          refine wl_val hW rfl rfl (x_indexAddr Try.underlying108 fl130.siz rfl rfl hpj.1 hpj.2) ?_
          refine wl_store hW rfl fl130 rfl rfl rfl (hBj.keep hKt nAa) (by simp [tower_len]; omega) ?_
          intro wS hBS hkS
          rw [e0] at hBS
          have hP2 := hP.step hT6 (hout ba hba0) hpl0 hl (by show s < t.tow; omega) hKt hBt hkS hBS
          refine wl_nil ?_
          refine nx_block ?_
          refine nx_then ?_
          refine wc_region ?_
          refine wl_val hW rfl rfl (x_inc (s := s) rfl (by omega)) ?_
          refine wl_val hW rfl rfl (x_move rfl) ?_
          refine wl_nil ?_
          exact nx_next (s + 1) (by omega) ⟨by omega, hP2⟩ (by repeat (first | exact sub_nil | refine sub_cons rfl ?_))
        · obtain rfl : s = t.tow := by omega
          refine wc_exit ?_
          refine nx_then_exit ?_
          refine nx_then_exit ?_
          refine nx_block_exit ?_
          refine nx_then ?_
          refine wc_seq ?_
          refine wc_draw' 11 hW mixed (by kernel_rfl) (fun w0 hx0 => ?_)
          replace hB6 := hB6.ext hx0
          replace hB8 := hB8.ext hx0
          replace hBn := hBn.ext hx0
          replace hTb := hTb.ext hx0
          refine q_val rfl rfl (fun _ hx => x_move rfl) ?_
          refine q_val rfl rfl (fun _ hx => x_move rfl) ?_
          refine q_val rfl rfl (fun _ hx => x_nilCheck rfl) ?_
          refine q_val rfl rfl (fun _ hx => x_fieldAddr Try.underlying112 rfl fl3.siz rfl) ?_
          refine q_val rfl rfl (fun _ hx => x_load fl3 rfl (hx.cell (hTb.cell (o := 6) rfl))) ?_
          refine q_val rfl rfl (fun _ hx => x_move rfl) ?_
          refine q_val rfl rfl (fun _ hx => x_nilCheck rfl) ?_
          refine q_val rfl rfl (fun _ hx => x_fieldAddr Try.underlying110 rfl fl108.siz rfl) ?_
          refine q_val rfl rfl (fun _ hx => x_load fl108 rfl (hx.cell (hBn.cell (o := 4) rfl))) ?_
          refine q_val rfl rfl (fun _ hx => x_len Try.underlying108 rfl) ?_
          refine q_val rfl rfl (fun _ hx => x_max rfl rfl) ?_
          refine q_nil (tail0 (fun wt hxt => ?_))
          replace hB6 := hB6.ext hxt
          replace hB8 := hB8.ext hxt
          replace hBn := hBn.ext hxt
          replace hTb := hTb.ext hxt
          refine wl_val hW rfl rfl (x_nilCheck rfl) ?_
          refine wl_val hW rfl rfl (x_fieldAddr Try.underlying112 rfl fl3.siz rfl) ?_
          refine wl_store hW rfl fl3 rfl rfl rfl hTb rfl ?_
          intro wS hBS hkS
          have em : (if ((t.hgt : Nat) : Int) < ((t.tow : Nat) : Int) then ((t.tow : Nat) : Int) else ((t.hgt : Nat) : Int)) = ((max t.hgt t.tow : Nat) : Int) := by split <;> omega
          have hTb2 : Blk wS t.bt (tabCells t.ha (max t.hgt t.tow) t.cnt t.dv t.sz) 114 := by unfold tabCells; rw [← em]; exact hBS
          refine wl_nil ?_
          refine nx_then ?_
          refine wc_seq ?_
          refine wc_region ?_
          refine wl_val hW rfl rfl (x_move rfl) ?_
          refine wl_val hW rfl rfl (x_nilCheck rfl) ?_
          refine wl_val hW rfl rfl (x_fieldAddr Try.underlying112 rfl fl3.siz rfl) ?_
          refine wl_val hW rfl rfl (x_load fl3 rfl (hTb2.cell (o := 7) rfl)) ?_
          refine wl_val hW rfl rfl (x_inc (s := t.cnt) rfl hcnt) ?_
          refine wl_val hW rfl rfl (x_nilCheck rfl) ?_
          refine wl_val hW rfl rfl (x_fieldAddr Try.underlying112 rfl fl3.siz rfl) ?_
          refine wl_store hW rfl fl3 rfl rfl rfl hTb2 rfl ?_
          intro wU hBU hkU
          have hTb3 : Blk wU t.bt (tabCells t.ha (max t.hgt t.tow) (t.cnt + 1) t.dv t.sz) 114 := hBU
          have nt6 : t.bt ≠ b6 := by have := hT.tb.lt; omega
          replace hB6 := (hB6.keep hkS nt6.symm).keep hkU nt6.symm
          refine wl_nil ?_
          refine nx_then ?_
          refine wc_seq ?_
          refine wc_region ?_
          refine wl_val hW rfl rfl (x_loadA ag25 rfl hB6.cells rfl) ?_
          refine wl_storeA hW rfl ag25 rfl rfl rfl rfl hB6 rfl ?_
          intro wF hBF hkF
          have hB6F : Blk wF b6 (cellsOf z0 (.slice none 0 0)) 25 := hBF
          have hKr : Keep (fun k => k ≠ t.bt ∧ k ≠ b6) wr wF := ((((Keep.of_ext hx0).trans (Keep.of_ext hxt)).then hkS (fun k _ h => h.1)).then hkU (fun k _ h => h.1)).then hkF (fun k _ h => h.2)
          have hKF : Keep (fun k => k ∉ t.ha :: t.ns.map (·.a) ∧ k ≠ t.bt) w wF := ((Keep.of_ext hEw).then hK (fun k hk h => ⟨h.1, by show k ≠ ba; omega⟩)).then hKr (fun k hk h => ⟨h.2, by omega⟩)
          have hAr : ∀ i, i ≤ t.ns.length → posA t.ha t.ns i ≠ t.bt ∧ posA t.ha t.ns i ≠ b6 := fun i hi => by
            have hm := posA_mem (t := t) hi
            refine ⟨fun h => ?_, fun h => hout b6 g6 (by rw [← h]; exact hm)⟩
            obtain ⟨cs', h'⟩ := hT6.tow_blk hm
            exact hT6.tb.ne h' (by decide) h.symm
          have n51t : b51 ≠ t.bt := by have := hT.tb.lt; omega
          have nat : ba ≠ t.bt := by have := hT.tb.lt; omega
          have hTF : Tab (fun k => O k ∨ k = b51 ∨ k = ba) wF (t.put1 j0 b51 ba e bv) := hT.insert (nw := t.mk1 b51 ba e bv) hb (fun h hs => by rw [hitB_some h, decide_eq_true (cmpE_zero.2 hs)] at hcF; cases hcF) (hTb3.keep hkF nt6) (fun i hi => (hP.lo i hi).keep hKr (hAr i (by omega))) (fun i h1 h2 => (hP.hi i h1 h2).keep hKr (hAr i h2)) ((((hBn.keep hkS n51t).keep hkU n51t).keep hkF n51_6)) (by have h := hP.na.keep hKr ⟨nat, n6a.symm⟩; simpa using h) hKF g51 hba0 hok htow hby
          refine wl_val hW rfl rfl (x_assign rfl) ?_
          refine wl_nil ?_
          refine nx_then ?_
          refine wc_ret ?_
          exact ends_ret (res_cell_tmp Try.results66 rfl (run_loadVar_cells ag25 hB6F.cells rfl) rfl) ⟨.inr ⟨hcF, rfl, _, _, g51, hba0, hTF⟩, hKF.mono fun k _ h => ⟨fun hm => h (tow_mem_nb hm), fun e => h (by rw [e]; simp [Td.nb, nbs])⟩⟩
end Go.Proofs.Ytblbddamebbgaaa.K


/- The table in memory: Put, plain. -/
namespace Go.Proofs.Ytblbddamebbgaaa.K
open Go Go.RowKit
set_option linter.unusedVariables false
set_option linter.unusedSectionVars false
set_option linter.unusedSimpArgs false

/-- A version that is gone has no value. -/
def clr (e : Ent) : Ent := ⟨e.k, e.s, e.g, if e.g then [] else e.v⟩
theorem cells_clr (e : Ent) (bv : Value) : cellsOf (clr e) bv = cellsOf e bv := rfl
theorem clr_ok {e : Ent} (h : EntOk e) : EntOk (clr e) := ⟨h.s0, h.s1, h.k, by simp only [clr]; split; simp; exact h.v⟩
theorem cost_le {e : Ent} (h : EntOk e) : costE e ≤ 4194304 := by have := h.k; have := h.v; unfold costE; omega
section
variable {O O' : Nat → Prop} {w w' : World} {t : Td}
theorem Tab.bound (h : Tab O w t) : Tab (fun k => O k ∧ k < w.heap.size) w t := h.mono fun k hk ho => ⟨ho, hk⟩
theorem Tab.setSz {sz' : Int} (h : Tab O w t) (hk : Keep (· ≠ t.bt) w w') (hB : Blk w' t.bt (tabCells t.ha t.hgt t.cnt t.dv sz') 114) : Tab O w' { t with sz := sz' } := by
  have hbt : t.bt ∈ t.nb := by simp [Td.nb, nbs]
  refine ⟨hB, h.hd.keep hk (h.hd.ne h.tb (by decide)), fun i n hi => ?_, h.db, h.da, fun n hn => ?_, h.own, h.ok, h.hs, h.sorted, ?_⟩
  · obtain ⟨h1, h2⟩ := h.nd i n hi
    exact ⟨h1.keep hk (h1.ne h.tb (by decide)), h2.keep hk (h2.ne h.tb (by decide))⟩
  · exact (h.byts n hn).ck (CK.of_keep hk fun k _ ho e => ho.2 (by rw [e]; exact hbt))
  · exact h.draws.ck (CK.of_keep hk fun k _ ho e => ho.2 (by rw [e]; exact hbt))
/-- The table behind a put: was: one of this key and number was there. -/
def PutW (B : Nat) (O : Nat → Prop) (t : Td) (p : Nat) (e : Ent) (bv : Value) (was : Bool) (w' : World) : Prop :=
  (was = true ∧ ∃ n, t.ns[p]? = some n ∧ Tab O w' (t.put0 p n e bv)) ∨ (was = false ∧ ∃ b a, B ≤ b ∧ B ≤ a ∧ Tab (fun k => O k ∨ k = b ∨ k = a) w' (t.put1 p b a e bv))
theorem PutW.ext {B p : Nat} {e : Ent} {bv : Value} {was : Bool} (h : PutW B O t p e bv was w) (hx : Ext w w') : PutW B O t p e bv was w' := by
  rcases h with ⟨h1, n, h2, h3⟩ | ⟨h1, b, a, g1, g2, h3⟩
  · exact .inl ⟨h1, n, h2, h3.ext hx⟩
  · exact .inr ⟨h1, b, a, g1, g2, h3.ext hx⟩
theorem put1_at {p b a : Nat} {e : Ent} {bv : Value} (hp : p ≤ t.ns.length) : (t.put1 p b a e bv).ns[p]? = some (t.mk1 b a e bv) := by
  show (t.ns.take p ++ { t.mk1 b a e bv with h := t.tow } :: t.ns.drop p)[p]? = _
  rw [List.getElem?_append_right (by simp; omega)]
  simp [Nat.min_eq_left hp]
theorem PutW.keep {B p b4 : Nat} {e : Ent} {bv : Value} {was : Bool} {cs : List Value} (h : PutW B O t p e bv was w) (hp : p ≤ t.ns.length) (hk : Keep (· ≠ b4) w w') (hB : Blk w b4 cs 25) (hO : ∀ k, O k → k ≠ b4) : PutW B O t p e bv was w' := by
  rcases h with ⟨h1, n, h2, h3⟩ | ⟨h1, b, a, g1, g2, h3⟩
  · exact .inl ⟨h1, n, h2, h3.keep hk fun k _ ho => hO k ho⟩
  · refine .inr ⟨h1, b, a, g1, g2, h3.keep hk fun k _ ho => ?_⟩
    have hn := h3.nd p _ (put1_at hp)
    rcases ho with ho | rfl | rfl
    · exact hO k ho
    · exact hn.1.ne hB (by decide)
    · exact hn.2.ne hB (by decide)
/-- What Put turns, told of the plain table. -/
def PutT (t : Td) (e : Ent) (t' : Td) : Prop := t'.bt = t.bt ∧ t'.ha = t.ha ∧ t'.ds = t.ds ∧ ∃ p, Below t.ns e p ∧
  ((hitB t.ns e p = true ∧ ∃ n bv, t.ns[p]? = some n ∧ t'.ns = t.ns.set p { n with e := e, bv := bv } ∧ t'.hgt = t.hgt ∧ t'.cnt = t.cnt ∧ t'.sz = t.sz - costE n.e + costE e) ∨
   (hitB t.ns e p = false ∧ ∃ b a bv, t'.ns = stage t.ns p (t.mk1 b a e bv) t.tow ∧ t'.hgt = max t.hgt t.tow ∧ t'.cnt = t.cnt + 1 ∧ t'.sz = t.sz + costE e))
/-- There is a place. -/
theorem below_ex (e : Ent) : ∀ ns : List Nd, ns.Pairwise (fun x y => ltE x.e y.e) → ∃ p, Below ns e p
  | [], _ => ⟨0, by simp, fun j h => by simp at h, fun j h => by simp at h⟩
  | n :: ns, h => by
    rw [List.pairwise_cons] at h
    by_cases hl : ltE n.e e
    · obtain ⟨p, hp⟩ := below_ex e ns h.2
      refine ⟨p + 1, by have := hp.le; simp; omega, fun j hj hlt => ?_, fun j hj hge => ?_⟩
      · cases j with
        | zero => exact hl
        | succ j => exact hp.lo j (by simpa using hj) (by omega)
      · cases j with
        | zero => omega
        | succ j => exact hp.hi j (by simpa using hj) (by omega)
    · refine ⟨0, by simp, fun j hj hlt => by omega, fun j hj _ hl' => ?_⟩
      cases j with
      | zero => exact hl hl'
      | succ j => exact hl (ltE_trans (h.1 _ (List.getElem_mem (by simpa using hj))) hl')
end
/-- Where the old version is laid: by phases of the region. -/
def OldF (w4 : World) (ov : Ent) (obv : Value) : PVP := fun ph v w => ∃ b, v = .pointer (some ⟨b, 0, none⟩) ∧ w4.heap.size ≤ b ∧ Blk w b (if ph = 2 then cellsOf ov obv else cellsOf z0 (.slice none 0 0)) 25
end Go.Proofs.Ytblbddamebbgaaa.K

/- Walks: Put. -/
namespace Go.Proofs.Ytblbddamebbgaaa.K
open Go Go.RowKit
set_option linter.unusedVariables false
set_option linter.unusedSimpArgs false

theorem oldF_stab {t : Td} {w4 : World} {ov : Ent} {obv : Value} {J : Nat → World → Prop} {ops : List Oper} (hn : ∀ k, k ∈ t.nb → k < w4.heap.size) (h11 : ∀ o, ops[11]? = some o → 4 ∈ looks ops o) (h11' : ops[11]?.isSome = true) :
    StabX ⟨[6, 11], J, fun k w w' => k = 0 → Keep (fun x => x ∉ t.nb) w w'⟩ ops 10 4 (OldF w4 ov obv) := by
  refine ⟨fun ph v w w' ⟨b, h1, h2, h3⟩ hx => ⟨b, h1, h2, h3.ext hx⟩, fun k hk _ hno v w w' ⟨b, h1, h2, h3⟩ hG => ?_⟩
  have hk2 : k < 2 := hk
  rcases (show k = 0 ∨ k = 1 by omega) with rfl | rfl
  · exact ⟨b, h1, h2, h3.keep (hG rfl) fun hm => by have := hn b hm; omega⟩
  · obtain ⟨o, ho⟩ := Option.isSome_iff_exists.1 h11'
    exact absurd (h11 o ho) (hno o ho)
theorem C29 {O A : Nat → Prop} {w : World} {t : Td} {e : Ent} {bv : Value} (hT : Tab O w t) (hby : Byts A w bv e.v) (hok : EntOk e) (hcnt : t.cnt < 4611686018427387904) (hsz : 0 ≤ t.sz ∧ t.sz ≤ 1099511627776) :
    Rt Try.prog 29 [.pointer (some ⟨t.bt, 0, none⟩), .agg (cellsOf e bv).toArray] w fun r w' => ∃ t', Tab (fun k => O k ∨ w.heap.size ≤ k) w' t' ∧ PutT t (clr e) t' ∧ Keep (fun k => k ∉ t.nb) w w' := by
  obtain ⟨ad, cap, rfl, hcap⟩ := hby.form
  have hcok := clr_ok hok
  have hW := hWw
  have hFF := hFw
  have hE : Ext w w := Keep.refl _ _
  refine rt_body Try.func29 rfl Try.ntmps29 rfl ?_
  refine wc_seq ?_
  refine wc_region ?_
  refine wl_box hW rfl rfl rfl rfl ?_
  intro b3 w3 hl3 hB3 hx3
  have g3 : w.heap.size ≤ b3 := Nat.le_trans hE.size hl3
  replace hE := hE.trans hx3
  refine wl_nil ?_
  refine nx_then ?_
  refine wc_seq ?_
  refine wc_seq ?_
  refine wc_region ?_
  refine wl_val hW rfl rfl (x_fieldAddr Try.underlying25 rfl fl4.siz rfl) ?_
  refine wl_val hW rfl rfl (x_load fl4 rfl (hB3.cell (o := 2) rfl)) ?_
  refine wl_nil ?_
  refine nx_then ?_
  refine wc_cut [(0, .pointer (some ⟨t.bt, 0, none⟩)), (3, .pointer (some ⟨b3, 0, none⟩))] (fun w' => Ext w w' ∧ ∃ ad cap, Blk w' b3 (cellsOf (clr e) (.slice ad (clr e).v.length cap)) 25 ∧ Byts A w' (.slice ad (clr e).v.length cap) (clr e).v) ?_ ?_
  · refine wc_bool rfl (fun hc => ?_) (fun hc => ?_)
    · refine wc_region ?_
      refine wl_val hW rfl rfl (x_fieldAddr Try.underlying25 rfl fl23.siz rfl) ?_
      refine wl_store hW rfl fl23 rfl rfl rfl hB3 rfl ?_
      intro wS hBS hkS
      replace hB3 := hBS
      clear hBS
      replace hE := hE.store hkS g3
      refine wl_nil ?_
      have hv0 : (clr e).v = [] := by unfold clr; rw [hc]; rfl
      exact nx_cut (by repeat (first | exact sub_nil | refine sub_cons rfl ?_)) ⟨hE, none, 0, by rw [hv0]; exact hB3, by rw [hv0]; exact byts_nil _ _⟩
    · refine wc_skip ?_
      have hv0 : (clr e).v = e.v := by unfold clr; rw [hc]; rfl
      exact nx_cut (by repeat (first | exact sub_nil | refine sub_cons rfl ?_)) ⟨hE, ad, cap, by rw [hv0]; exact hB3, by rw [hv0]; exact hby.ext hE⟩
  · rintro w' ⟨hE, ad, cap, hB3, hby⟩
    refine nx_then ?_
    refine wc_seq ?_
    refine wc_region ?_
    refine wl_val hW rfl rfl (x_fieldAddr Try.underlying25 rfl fl23.siz rfl) ?_
    refine wl_val hW rfl rfl (x_load fl23 rfl (hB3.cell (o := 3) rfl)) ?_
    refine wl_call hW rfl rfl (x_call en65 rfl) ((C65 hby (by have := hcok.v; omega)).inF hFF) ?_
    rintro v10 wC ⟨hv10, hxC⟩
    obtain ⟨a10, c10, e10, -⟩ := hv10.form
    subst e10
    have hv10n := hv10.mono (A' := fun k => k ≠ b3 ∧ w.heap.size ≤ k) (fun k _ h => ⟨by have := hB3.lt; omega, by have := hE.size; omega⟩)
    replace hB3 := hB3.ext hxC
    replace hE := hE.trans hxC
    refine wl_val hW rfl rfl (x_fieldAddr Try.underlying25 rfl fl23.siz rfl) ?_
    refine wl_store hW rfl fl23 rfl rfl rfl hB3 rfl ?_
    intro wS hBS hkS
    have hv10S := hv10n.ck (CK.of_keep hkS fun k _ h => h.1)
    replace hB3 := hBS
    clear hBS
    replace hE := hE.store hkS g3
    refine wl_nil ?_
    refine nx_then ?_
    refine wc_seq ?_
    refine wc_seq ?_
    have hB3' : Blk wS b3 (cellsOf (clr e) (.slice a10 (clr e).v.length c10)) 25 := hB3
    have hone := cells_one (e := clr e) hv10S.one
    obtain ⟨p, hb⟩ := below_ex (clr e) t.ns hT.sorted
    have hpl := hb.le
    have hTS : Tab (fun k => (O k ∨ w.heap.size ≤ k) ∧ k < wS.heap.size) wS t := ((hT.ext hE).mono fun k _ h => .inl h).bound
    have hbyS : Byts (fun k => ((O k ∨ w.heap.size ≤ k) ∧ k < wS.heap.size) ∧ k ∉ t.nb) wS (.slice a10 (clr e).v.length c10) (clr e).v := hv10S.mono fun k hk h => ⟨⟨.inr h.2, hk⟩, fun hm => by have := hT.nb_lt hm; omega⟩
    have hnb : ∀ k, k ∈ t.nb → k < wS.heap.size := fun k hm => hTS.nb_lt hm
    have n3 : b3 ∉ t.nb := fun hm => by have := hT.nb_lt hm; omega
    obtain ⟨ov, obv, hov1, hov2⟩ : ∃ ov obv, (hitB t.ns (clr e) p = true → ∃ n, t.ns[p]? = some n ∧ ov = n.e ∧ obv = n.bv) ∧ (hitB t.ns (clr e) p = false → ov = z0 ∧ obv = .slice none 0 0) := by
      by_cases h : hitB t.ns (clr e) p = true
      · obtain ⟨hl, -⟩ := hitB_true h
        exact ⟨_, _, fun _ => ⟨_, List.getElem?_eq_getElem hl, rfl, rfl⟩, fun h' => absurd (h.symm.trans h') Bool.noConfusion⟩
      · exact ⟨z0, .slice none 0 0, fun h' => absurd h' h, fun _ => ⟨rfl, rfl⟩⟩
    have hovone : (cellsOf ov obv).all Value.oneCell' = true := by
      by_cases h : hitB t.ns (clr e) p = true
      · obtain ⟨n, hn, rfl, rfl⟩ := hov1 h
        exact cells_one (hT.byts n (List.mem_of_getElem? hn)).one
      · obtain ⟨rfl, rfl⟩ := hov2 (by simpa using h); rfl
    refine wc_drawX ⟨[6, 11], fun ph w' => Keep (fun k => k ∉ t.nb) wS w' ∧ (ph = 0 → Ext wS w') ∧ (1 ≤ ph → PutW wS.heap.size (fun k => (O k ∨ w.heap.size ≤ k) ∧ k < wS.heap.size) t p (clr e) (.slice a10 (clr e).v.length c10) (hitB t.ns (clr e) p) w'), fun k w w' => k = 0 → Keep (fun x => x ∉ t.nb) w w'⟩ 12 hW mixed (by kernel_rfl) (by kernel_rfl) (fun ph w1 w2 h hx => ⟨h.1.trans (Keep.of_ext hx), fun e => (h.2.1 e).trans hx, fun e => (h.2.2 e).ext hx⟩) (fun w0 hx => ⟨Keep.of_ext hx, fun _ => hx, fun h => absurd h (by decide)⟩) ?_
    refine qx_val rfl rfl rfl (fun _ _ hJ => x_move rfl) ?_
    refine qx_val rfl rfl rfl (fun _ _ hJ => x_nilCheck rfl) ?_
    refine qx_val rfl rfl rfl (fun _ _ hJ => x_fieldAddr Try.underlying114 rfl ag112.siz rfl) ?_
    refine qx_val rfl rfl rfl (fun _ _ hJ => x_loadA ag25 rfl ((hB3'.keep hJ.1 n3).cells) rfl) ?_
    refine qx_val rfl rfl rfl (fun _ _ hJ => x_move rfl) ?_
    refine qx_val rfl rfl rfl (fun _ _ hJ => x_makeMeth (xs := [.tmp 18]) rfl) ?_
    refine qx_spcall (k := 0) Nat.zero_lt_two rfl rfl rfl rfl (fun _ => x_call en66 rfl) (fun w' hJ => (((C66 (hTS.ext (hJ.2.1 rfl)) hb hcok (hbyS.ext (hJ.2.1 rfl)) hcnt).mono fun r w'' h => ?_).inF hFF : CallsIn _ _ _ _ _ _ (ok1 fun u w'' => u = .tuple #[.agg (cellsOf ov obv).toArray, .bool (hitB t.ns (clr e) p)] ∧ _ ∧ _))) ?_
    · obtain ⟨h, hk⟩ := h
      refine ⟨?_, ⟨hJ.1.trans hk, fun h => absurd h (by decide), fun _ => ?_⟩, fun _ => hk⟩
      · rcases h with ⟨h1, n, h2, rfl, h4⟩ | ⟨h1, rfl, b, a, h2, h3, h4⟩
        · obtain ⟨n', h5, h6, h7⟩ := hov1 h1
          rw [h2] at h5; cases h5; rw [h1, h6, h7]
        · obtain ⟨h6, h7⟩ := hov2 h1; rw [h1, h6, h7]
      · rcases h with ⟨h1, n, h2, rfl, h4⟩ | ⟨h1, rfl, b, a, h2, h3, h4⟩
        · exact .inl ⟨h1, n, h2, h4⟩
        · exact .inr ⟨h1, b, a, Nat.le_trans (hJ.1.size) h2, Nat.le_trans (hJ.1.size) h3, h4⟩
    refine qx_val rfl rfl rfl (fun _ _ hJ => x_move rfl) ?_
    refine qx_val rfl rfl rfl (fun _ _ hJ => x_extract rfl rfl) ?_
    refine qx_val rfl rfl rfl (fun _ _ hJ => x_extract rfl rfl) ?_
    refine qx_alloc (p := OldF wS ov obv) rfl (oldF_stab hnb (fun o ho => by cases ho; exact List.mem_append_left _ (List.mem_filterMap.2 ⟨.tmp 4, by simp [Op.operands], rfl⟩)) rfl) rfl rfl rfl Try.zeroValue25 rfl (fun ph w' w'' b hbf hJ hb hB hx => ?_) ?_
    · have h1 : ph ≤ 1 := hbf 1 Nat.one_lt_two (fun o ho => by cases ho; decide)
      exact ⟨b, rfl, Nat.le_trans hJ.1.size hb, by rw [if_neg (by omega)]; exact hB⟩
    refine qx_stA1 (k := 1) Nat.one_lt_two rfl rfl (List.mem_cons_self ..) (List.mem_append_left _ (List.mem_filterMap.2 ⟨.tmp 4, by simp [Op.operands], rfl⟩)) (fun q' hq' _ => List.mem_singleton.1 hq') ag25 (fun _ => rfl) hovone rfl (fun u w' ⟨b, h1, h2, h3⟩ => ⟨b, _, h1, h3, rfl⟩) (fun w' w'' b hJ ⟨b', h1, h2, h3⟩ hB hk => ?_) ?_
    · cases h1
      exact ⟨⟨hJ.1.then hk (fun k hk' h e => by omega), fun h => absurd h (by decide), fun _ => (hJ.2.2 (Nat.le_refl _)).keep hpl hk h3 (fun k h e => by omega)⟩, fun h => absurd h (by decide), _, rfl, h2, hB⟩
    refine qx_nil (tailx1 (fun wt v4 hJt h4 => ?_))
    obtain ⟨b4, rfl, hb4, hB4⟩ := h4
    replace hB4 : Blk wt b4 (cellsOf ov obv) 25 := hB4
    have hKt : Keep (fun k => k ∉ t.nb) wS wt := hJt.1
    have hPt := hJt.2.2 (Nat.le_succ 1)
    have hB3t := hB3'.keep hKt n3
    have hbyt := hbyS.ck (CK.of_keep hKt fun k _ h => h.2)
    have hbt : t.bt ∈ t.nb := by simp [Td.nb, nbs]
    have nb3 : b3 ≠ t.bt := fun e => n3 (by rw [e]; exact hbt)
    have nb4 : b4 ≠ t.bt := fun e => by have := hnb _ hbt; omega
    have hE0 := hE
    clear hB3
    have hcoe := cost_le hcok
    refine wl_val hW rfl rfl (x_assign rfl) ?_
    refine wl_nil ?_
    refine nx_then ?_
    refine wc_seq ?_
    refine wc_region ?_
    refine wl_val hW rfl rfl (x_move rfl) ?_
    refine wl_nil ?_
    refine nx_then ?_
    refine wc_cut [(0, .pointer (some ⟨t.bt, 0, none⟩)), (3, .pointer (some ⟨b3, 0, none⟩))] (fun w' => ∃ t1 : Td, t1.bt = t.bt ∧ t1.ha = t.ha ∧ t1.ds = t.ds ∧ ((hitB t.ns (clr e) p = true ∧ ∃ n bv, t.ns[p]? = some n ∧ t1.ns = t.ns.set p { n with e := clr e, bv := bv } ∧ t1.hgt = t.hgt ∧ t1.cnt = t.cnt ∧ t1.sz = t.sz - costE n.e) ∨ (hitB t.ns (clr e) p = false ∧ ∃ b a bv, t1.ns = stage t.ns p (t.mk1 b a (clr e) bv) t.tow ∧ t1.hgt = max t.hgt t.tow ∧ t1.cnt = t.cnt + 1 ∧ t1.sz = t.sz)) ∧ -4194304 ≤ t1.sz ∧ t1.sz ≤ 1099511627776 ∧ Tab (fun k => O k ∨ w.heap.size ≤ k) w' t1 ∧ Blk w' b3 (cellsOf (clr e) (.slice a10 (clr e).v.length c10)) 25 ∧ Byts (fun k => ((O k ∨ w.heap.size ≤ k) ∧ k < wS.heap.size) ∧ k ∉ t.nb) w' (.slice a10 (clr e).v.length c10) (clr e).v ∧ Keep (fun k => k ∉ t.nb) wS w') ?_ ?_
    · refine wc_bool rfl (fun hc => ?_) (fun hc => ?_)
      · obtain ⟨hl, hsame⟩ := hitB_true hc
        obtain ⟨n, hn, hov, hobv⟩ := hov1 hc
        obtain ⟨n', hn', hTt⟩ : ∃ n', t.ns[p]? = some n' ∧ Tab (fun k => (O k ∨ w.heap.size ≤ k) ∧ k < wS.heap.size) wt (t.put0 p n' (clr e) (.slice a10 (clr e).v.length c10)) := by
          rcases hPt with ⟨-, n', h1, h2⟩ | ⟨h1, -⟩
          · exact ⟨n', h1, h2⟩
          · rw [h1] at hc; cases hc
        rw [hn] at hn'; cases hn'
        have hokn := hT.ok n (List.mem_of_getElem? hn)
        have hco := cost_le hokn
        have hbyn := (hTS.byts n (List.mem_of_getElem? hn)).ck (CK.of_keep hKt fun k _ h => h.2)
        subst hov; subst hobv
        obtain ⟨an, cn, en, -⟩ := hbyn.form
        refine wc_draw' 6 hW mixed (by kernel_rfl) (fun w0 hx0 => ?_)
        replace hTt := hTt.ext hx0
        replace hB4 := hB4.ext hx0
        replace hbyn := hbyn.ext hx0
        refine q_val rfl rfl (fun _ hx => x_move rfl) ?_
        refine q_val rfl rfl (fun _ hx => x_nilCheck rfl) ?_
        refine q_val rfl rfl (fun _ hx => x_fieldAddr Try.underlying114 rfl fl3.siz rfl) ?_
        refine q_val rfl rfl (fun _ hx => x_load fl3 rfl (hx.cell (hTt.tb.cell (o := 9) rfl))) ?_
        refine q_val rfl rfl (fun _ hx => x_loadA ag25 rfl (hB4.ext hx).cells rfl) ?_
        refine q_call rfl rfl (fun _ => x_call en68 rfl) (fun w' hx => (C68 (hbyn.ext hx) hokn).inF hFF) ?_
        refine q_nil (tail0 (fun wt hxt => ?_))
        replace hTt := hTt.ext hxt
        replace hB4 := hB4.ext hxt
        refine wl_val hW rfl rfl (x_sub (r := t.sz - costE n.e) rfl rfl (by show IntKind.i64.wrap (t.sz - ((costE n.e : Nat) : Int)) = _; rw [IntWalk.i64_in _ (by omega)])) ?_
        refine wl_val hW rfl rfl (x_nilCheck rfl) ?_
        refine wl_val hW rfl rfl (x_fieldAddr Try.underlying114 rfl fl3.siz rfl) ?_
        refine wl_store hW rfl fl3 rfl rfl rfl hTt.tb rfl ?_
        intro wS1 hBS hkS
        have hT1 : Tab (fun k => (O k ∨ w.heap.size ≤ k) ∧ k < wS.heap.size) wS1 { t.put0 p n (clr e) (.slice a10 (clr e).v.length c10) with sz := t.sz - costE n.e } := hTt.setSz hkS hBS
        refine wl_nil ?_
        have hK1 : Keep (fun k => k ∉ t.nb) wS wS1 := ((hKt.trans (Keep.of_ext hx0)).trans (Keep.of_ext hxt)).then hkS fun k _ h e => h (by rw [e]; exact hbt)
        exact nx_cut (by repeat (first | exact sub_nil | refine sub_cons rfl ?_)) ⟨{ t.put0 p n (clr e) (.slice a10 (clr e).v.length c10) with sz := t.sz - costE n.e }, rfl, rfl, rfl, .inl ⟨hc, n, _, hn, rfl, rfl, rfl, rfl⟩, by show _ ≤ t.sz - (costE n.e : Int); omega, by show t.sz - (costE n.e : Int) ≤ _; omega, hT1.mono (fun k _ h => h.1), hB3'.keep hK1 n3, hbyS.ck (CK.of_keep hK1 fun k _ h => h.2), hK1⟩
      · refine wc_skip ?_
        obtain ⟨b, a, g1, g2, hTt⟩ : ∃ b a, wS.heap.size ≤ b ∧ wS.heap.size ≤ a ∧ Tab (fun k => ((O k ∨ w.heap.size ≤ k) ∧ k < wS.heap.size) ∨ k = b ∨ k = a) wt (t.put1 p b a (clr e) (.slice a10 (clr e).v.length c10)) := by
          rcases hPt with ⟨h1, -⟩ | ⟨-, b, a, g1, g2, h2⟩
          · rw [h1] at hc; cases hc
          · exact ⟨b, a, g1, g2, h2⟩
        have hsw := hE0.size
        exact nx_cut (by repeat (first | exact sub_nil | refine sub_cons rfl ?_)) ⟨t.put1 p b a (clr e) (.slice a10 (clr e).v.length c10), rfl, rfl, rfl, .inr ⟨hc, b, a, _, rfl, rfl, rfl, rfl⟩, by show _ ≤ t.sz; omega, hsz.2, hTt.mono (fun k _ h => by rcases h with h | rfl | rfl; exact h.1; right; omega; right; omega), hB3t, hbyt, hKt⟩
    · rintro w5 ⟨t1, hbt1, hha1, hds1, hcs1, hsz1, hsz2, hT1, hB3, hby1, hK1⟩
      refine nx_then ?_
      have htb := hT1.tb
      rw [hbt1] at htb
      refine wc_draw' 6 hW mixed (by kernel_rfl) (fun w0 hx0 => ?_)
      replace htb := htb.ext hx0
      replace hby1 := hby1.ext hx0
      replace hB3 := hB3.ext hx0
      refine q_val rfl rfl (fun _ hx => x_move rfl) ?_
      refine q_val rfl rfl (fun _ hx => x_nilCheck rfl) ?_
      refine q_val rfl rfl (fun _ hx => x_fieldAddr Try.underlying114 rfl fl3.siz rfl) ?_
      refine q_val rfl rfl (fun _ hx => x_load fl3 rfl (hx.cell (htb.cell (o := 9) rfl))) ?_
      refine q_val rfl rfl (fun _ hx => x_loadA ag25 rfl (hB3.ext hx).cells rfl) ?_
      refine q_call rfl rfl (fun _ => x_call en68 rfl) (fun w' hx => (C68 (hby1.ext hx) hcok).inF hFF) ?_
      refine q_nil (tail0 (fun wt hxt => ?_))
      replace htb := htb.ext hxt
      refine wl_val hW rfl rfl (x_add (r := t1.sz + costE (clr e)) rfl rfl (by rw [IntWalk.i64_in _ (by omega)])) ?_
      refine wl_val hW rfl rfl (x_nilCheck rfl) ?_
      refine wl_val hW rfl rfl (x_fieldAddr Try.underlying114 rfl fl3.siz rfl) ?_
      refine wl_store hW rfl fl3 rfl rfl rfl htb rfl ?_
      intro wS hBS hkS
      have hTF : Tab (fun k => O k ∨ w.heap.size ≤ k) wS { t1 with sz := t1.sz + costE (clr e) } := ((hT1.ext hx0).ext hxt).setSz (by rw [hbt1]; exact hkS) (by rw [hbt1]; exact hBS)
      refine wl_nil ?_
      exact ends_normal (res_none Try.results29) ⟨_, hTF, ⟨hbt1, hha1, hds1, p, hb, by rcases hcs1 with ⟨h1, n, bv, h2, h3, h4, h5, h6⟩ | ⟨h1, b, a, bv, h3, h4, h5, h6⟩; exact .inl ⟨h1, n, bv, h2, h3, h4, h5, by show t1.sz + _ = _; rw [h6]⟩; exact .inr ⟨h1, b, a, bv, h3, h4, h5, by show t1.sz + _ = _; rw [h6]⟩⟩, (((Keep.of_ext hE0).then hK1 fun k _ h => h).trans ((Keep.of_ext hx0).trans (Keep.of_ext hxt))).then hkS fun k _ h e => h (by rw [e]; exact hbt)⟩
end Go.Proofs.Ytblbddamebbgaaa.K


/- append, of whatever type of elements, to a row of the call's own. No program is named here. -/
namespace Go.Proofs.Ytblbddamebbgaaa.K
open Go Go.RowKit
set_option linter.unusedVariables false
set_option linter.unusedSectionVars false
set_option linter.unusedSimpArgs false

section
variable {P : Program} {w : World} {base : Nat} {t ty e : TypeId} {z : Value} {size bytes : Nat}
/-- The slice whose address is ad holds news, if there are any. -/
def Src (w : World) (ad : Option Addr) (news : List Value) : Prop := news ≠ [] → ∃ b o, ad = some ⟨b, o, none⟩ ∧ ∀ j u, news[j]? = some u → w.cell? ⟨b, o + j, none⟩ = some u
theorem run_appG (ht : P.underlying t = some (.slice e)) (hin : (P.info? e).map (fun i => (i.zero, i.size, i.bytes)) = some (some z, size, bytes)) (hzs : z.cells.size = size) (hsz : 0 < size)
    {v : Value} {n : Nat} {xs : List Value} (hown : w.ownsRow base e size v n xs) {ad : Option Addr} {m c : Nat} {news : List Value} (hl : news.length = m * size) (hnews : Src w ad news) (h1 : ∀ u ∈ news, u.oneCell' = true)
    (h63 : n + m ≤ 1099511627776) (hbytes : bytes ≤ 128) (hbase : base ≤ w.heap.size) :
    ∃ v' w', (Builtin.append_ #[t, t] ty #[v, .slice ad m c]).run P w = .ok v' w' ∧ w'.ownsRow base e size v' (n + m) (xs ++ news) ∧ Keep (fun k => some k ≠ v.ownBlock) w w' ∧ (v'.ownBlock = v.ownBlock ∨ ∃ b, v'.ownBlock = some b ∧ w.heap.size ≤ b) := by
  obtain ⟨i0, hi, hz0, hz1, hz2⟩ := info_parts hin
  have hb128 : (n + m) * bytes ≤ 140737488355328 := Nat.le_trans (Nat.mul_le_mul h63 hbytes) (by decide)
  cases ad with
  | none =>
    have hn0 : news = [] := Decidable.byContradiction fun h => by obtain ⟨b, o, h, -⟩ := hnews h; cases h
    subst hn0
    have hm : m = 0 := by
      rcases Nat.eq_zero_or_pos m with h | h
      · exact h
      · have := Nat.mul_pos h hsz; simp at hl; omega
    subst hm
    rw [Nat.add_zero, List.append_nil]
    refine ⟨v, w, ?_, hown, Keep.refl _ _, .inl rfl⟩
    rcases hown.2 with ⟨rfl, h⟩ | ⟨g, cap, cur, rfl, hb, hg, hc1, hc2, hc3, hc4⟩
    · simp [Builtin.append_, run_underlying ht, sizeOf, typeInfo, hi, Builtin.lenOf, Builtin.firstCells, storeCells]
    · simp [Builtin.append_, run_underlying ht, sizeOf, typeInfo, hi, Builtin.lenOf, Builtin.firstCells, storeCells, hc1]
  | some a0 =>
    obtain ⟨v', w', hr, ho, hg, -, hat⟩ := run_append_own_at (P := P) w base t ty e i0 z size bytes ht hi hz0 hz1 hz2 hzs hsz v n xs hown a0 m c news hl (fun j u hj => by
      obtain ⟨b, o, h, hc⟩ := hnews (by intro e; rw [e] at hj; simp at hj)
      cases h; rw [add_mk]; exact hc j u hj) h1 (by unfold maxLen; omega) hb128 hbase
    refine ⟨v', w', hr, ho, Keep.grown hg, ?_⟩
    rcases hat with e | e
    · exact .inl e
    · exact .inr ⟨_, e, Nat.le_refl _⟩
/-- An empty slice literal is a row of one's own. -/
theorem owns_empty {b : Nat} (hB : Blk w b [] e) (hb : base ≤ b) : w.ownsRow base e size (.slice (some ⟨b, 0, none⟩) 0 0) 0 [] :=
  ⟨by simp, .inr ⟨b, 0, #[], rfl, hb, hB, Nat.le_refl _, by simp, by simp, by simp⟩⟩
end
section
variable {F : Fence} {n : Nat} {P : Program} {Q : Exit → Act → World → Prop} {m : Nat} {D : List Deferred} {L : Env} {w w' : World} {ops rest : List Oper} {d : Nat} {ty t e : TypeId} {pos : String} {af : Array Edge} {g : Option (Nat × Bool)} {x y : Operand} {z : Value} {size bytes base : Nat}
theorem xv_append (ht : P.underlying t = some (.slice e)) (hin : (P.info? e).map (fun i => (i.zero, i.size, i.bytes)) = some (some z, size, bytes)) (hzs : z.cells.size = size) (hsz : 0 < size)
    {v : Value} {k : Nat} {xs : List Value} {ad : Option Addr} {k2 c : Nat} {news : List Value} (hx : ev L x = some v) (hy : ev L y = some (.slice ad k2 c)) (hown : w.ownsRow base e size v k xs) (hl : news.length = k2 * size) (hnews : Src w ad news) (h1 : ∀ u ∈ news, u.oneCell' = true)
    (h63 : k + k2 ≤ 1099511627776) (hbytes : bytes ≤ 128) (hbase : base ≤ w.heap.size) :
    ∃ v' w', Xv P m D L (.call ⟨.builtin .append, #[x, y], #[t, t]⟩) ty w v' w' ∧ w'.ownsRow base e size v' (k + k2) (xs ++ news) ∧ Keep (fun k => some k ≠ v.ownBlock) w w' ∧ (v'.ownBlock = v.ownBlock ∨ ∃ b, v'.ownBlock = some b ∧ w.heap.size ≤ b) := by
  obtain ⟨v', w', hr, h2⟩ := run_appG (ty := ty) (c := c) ht hin hzs hsz hown hl hnews h1 h63 hbytes hbase
  refine ⟨v', w', ⟨nofun, fun _ _ _ _ a h => ?_⟩, h2⟩
  simp [execOp, resolve, h.ev hx, h.ev hy, invoke, builtin, hr]
theorem wl_append (ht : P.underlying t = some (.slice e)) (hin : (P.info? e).map (fun i => (i.zero, i.size, i.bytes)) = some (some z, size, bytes)) (hzs : z.cells.size = size) (hsz : 0 < size)
    {v : Value} {k : Nat} {xs : List Value} {ad : Option Addr} {k2 c : Nat} {news : List Value} (hW : Wd F) (hg : wants L ops g = some true) (hd : Nat.blt d m = true) (hx : ev L x = some v) (hy : ev L y = some (.slice ad k2 c)) (hown : w.ownsRow base e size v k xs) (hl : news.length = k2 * size) (hnews : Src w ad news) (h1 : ∀ u ∈ news, u.oneCell' = true)
    (h63 : k + k2 ≤ 1099511627776) (hbytes : bytes ≤ 128) (hbase : base ≤ w.heap.size)
    (kk : ∀ v' w', w'.ownsRow base e size v' (k + k2) (xs ++ news) → Keep (fun k => some k ≠ v.ownBlock) w w' → (v'.ownBlock = v.ownBlock ∨ ∃ b, v'.ownBlock = some b ∧ w.heap.size ≤ b) → WL F n P Q m D ops rest ((d, v') :: L) w') :
    WL F n P Q m D ops (⟨some d, .call ⟨.builtin .append, #[x, y], #[t, t]⟩, ty, pos, af, g⟩ :: rest) L w := by
  obtain ⟨v', w', h2, h3, h4, h5⟩ := xv_append (P := P) (m := m) (D := D) (ty := ty) ht hin hzs hsz hx hy hown hl hnews h1 h63 hbytes hbase
  exact wl_val hW hg hd h2 (kk v' w' h3 h4 h5)
/-- What a row of one's own holds, as it is read. -/
theorem owns_src {v : Value} {k : Nat} {xs : List Value} (h : w.ownsRow base e size v k xs) : ∃ ad c, v = .slice ad k c ∧ k ≤ c ∧ Src w ad xs ∧ (xs ≠ [] → ∀ b, ad.map (·.block) = some b → base ≤ b) := by
  have h5 := fun g => h.cells (g := g)
  rcases h.2 with ⟨rfl, h0⟩ | ⟨g, cap, cur, rfl, hb, hg, hc, -⟩
  · subst h0
    have : xs = [] := by have := h.1; simpa using this
    subst this
    exact ⟨none, 0, rfl, Nat.le_refl _, fun h => absurd rfl h, fun h => absurd rfl h⟩
  · refine ⟨some ⟨g, 0, none⟩, cap, rfl, hc, fun _ => ⟨g, 0, rfl, fun j u hj => ?_⟩, fun _ b hb' => by cases hb'; exact hb⟩
    have := h5 g rfl j u hj
    rw [add_mk] at this; exact this
theorem ownsRow_keep {S : Nat → Prop} {v : Value} {k : Nat} {xs : List Value} (h : w.ownsRow base e size v k xs) (hk : Keep S w w') (hv : ∀ b, v.ownBlock = some b → S b) : w'.ownsRow base e size v k xs := by
  refine ⟨h.1, ?_⟩
  rcases h.2 with ⟨h1, h2⟩ | ⟨g, cap, cur, rfl, hb, hg, h1⟩
  · exact .inl ⟨h1, h2⟩
  · exact .inr ⟨g, cap, cur, rfl, hb, (hk.block g (Array.getElem?_eq_some_iff.1 hg).1 (hv g rfl)).trans hg, h1⟩
theorem ownsRow_base {base' : Nat} {v : Value} {k : Nat} {xs : List Value} (h : w.ownsRow base e size v k xs) (hb : ∀ b, v.ownBlock = some b → base' ≤ b) : w.ownsRow base' e size v k xs := by
  refine ⟨h.1, ?_⟩
  rcases h.2 with ⟨h1, h2⟩ | ⟨g, cap, cur, rfl, hb', hg, h1⟩
  · exact .inl ⟨h1, h2⟩
  · exact .inr ⟨g, cap, cur, rfl, hb g rfl, hg, h1⟩
theorem ownsRow_blk {v : Value} {k b : Nat} {xs : List Value} (h : w.ownsRow base e size v k xs) (hb : v.ownBlock = some b) : base ≤ b ∧ ∃ cs, Blk w b cs e := by
  rcases h.2 with ⟨rfl, h2⟩ | ⟨g, cap, cur, rfl, hb', hg, h1⟩
  · cases hb
  · cases hb; exact ⟨hb', cur.toList, by simpa [Blk] using hg⟩
/-- An element of an array, taken as a value. -/
theorem x_indexA {q : IntKind} {i k : Nat} {cs : List Value} {v : Value} (hu : P.underlying t = some (.array k e)) (hs : Flat P e) (hx : ev L x = some (.agg cs.toArray)) (hy : ev L y = some (.int q i)) (hi : i < k) (hv : cs[i]? = some v) :
    Xv P m D L (.index t x y) ty w v w :=
  ⟨nofun, fun _ _ _ _ a h => by
    have h0 : (0 : Int) ≤ (i : Int) ∧ (i : Int) < (k : Int) := by omega
    have h2 : ¬ k ≤ i := by omega
    simp [execOp, h.ev hx, h.ev hy, Instr.index, asIntOf, run_underlying hu, hi, h2, (hs w).2, part, (hs w).1, hv]⟩
end
end Go.Proofs.Ytblbddamebbgaaa.K

/- Numbers in rows of one's own; tables and their parts made. -/
namespace Go.Proofs.Ytblbddamebbgaaa.K
open Go Go.RowKit
set_option linter.unusedVariables false
set_option linter.unusedSectionVars false
set_option linter.unusedSimpArgs false

theorem info3 : (Try.prog.info? 3).map (fun i => (i.zero, i.size, i.bytes)) = some (some (.int .i64 0), 1, 8) := by kernel_rfl
def intCells (zs : List Int) : List Value := zs.map fun z => .int .i64 z
theorem intCells_len (zs : List Int) : (intCells zs).length = zs.length := by simp [intCells]
theorem intCells_one {zs : List Int} : ∀ u ∈ intCells zs, u.oneCell' = true := fun u hu => by
  simp only [intCells, List.mem_map] at hu; obtain ⟨z, -, rfl⟩ := hu; rfl
theorem IRow.src {A : Nat → Prop} {w : World} {ad : Option Addr} {n c : Nat} {zs : List Int} (h : IRow A w (.slice ad n c) zs) : Src w ad (intCells zs) := fun hne => by
  obtain ⟨ad', cap', e, h1, h2⟩ := h
  cases e
  obtain ⟨b, o, h3, -, h4⟩ := h2 (by rintro rfl; exact hne rfl)
  refine ⟨b, o, h3, fun j u hj => ?_⟩
  simp only [intCells, List.getElem?_map] at hj
  cases hz : zs[j]? with
  | none => rw [hz] at hj; cases hj
  | some z => rw [hz] at hj; cases hj; exact h4 j z hz
theorem iRow_of_owns {base : Nat} {w : World} {v : Value} {zs : List Int} (h : w.ownsRow base 3 1 v zs.length (intCells zs)) (hl : zs.length ≤ 1099511627776) : IRow (fun k => base ≤ k) w v zs := by
  obtain ⟨ad, c, rfl, -, h1, h2⟩ := owns_src h
  refine ⟨ad, c, rfl, hl, fun hne => ?_⟩
  have hne' : intCells zs ≠ [] := fun e => hne (by simpa [intCells] using e)
  obtain ⟨b, o, rfl, hc⟩ := h1 hne'
  exact ⟨b, o, rfl, h2 hne' b rfl, fun i z hi => hc i _ (by simp [intCells, hi])⟩
theorem IRow.mono {A A' : Nat → Prop} {w : World} {v : Value} {zs : List Int} (h : IRow A w v zs) (hA : ∀ k, k < w.heap.size → A k → A' k) : IRow A' w v zs := by
  obtain ⟨ad, cap, e, h1, h2⟩ := h
  refine ⟨ad, cap, e, h1, fun hne => ?_⟩
  obtain ⟨b, o, h3, h4, h5⟩ := h2 hne
  refine ⟨b, o, h3, hA b ?_ h4, h5⟩
  cases zs with
  | nil => exact absurd rfl hne
  | cons z zs => exact World.block_lt_of_cell? w _ (h5 0 z rfl)
section
variable {F : Fence} {n : Nat} {Q : Exit → Act → World → Prop} {m : Nat} {D : List Deferred} {L : Env} {w : World} {ops rest : List Oper} {d : Nat} {ty : TypeId} {pos : String} {af : Array Edge} {g : Option (Nat × Bool)} {x y : Operand}
theorem wl_makePtrs {h : Nat} (hW : Wd F) (hg : wants L ops g = some true) (hd : Nat.blt d m = true) (hx : ev L x = some (.int .i64 h)) (hy : ev L y = some (.int .i64 h)) (h1 : h ≤ 4096)
    (k : ∀ b w', w.heap.size ≤ b → Blk w' b (List.replicate h (.pointer none)) 130 → Ext w w' → WL F n Try.prog Q m D ops rest ((d, .slice (some ⟨b, 0, none⟩) h h) :: L) w') : WL F n Try.prog Q m D ops (⟨some d, .makeSlice 108 x y, ty, pos, af, g⟩ :: rest) L w := by
  obtain ⟨b, w', h2, h3, h4, h5⟩ := xv_makePtrs (m := m) (D := D) (w := w) (ty := ty) hx hy h1
  exact wl_val hW hg hd h2 (k b w' h3 h4 h5)
theorem build114 {ad : Option Addr} {n c : Nat} (w : World) : (Instr.build 114 [(1, Value.slice ad n c)].toArray).run Try.prog w = .ok (.agg [Value.string ⟨#[]⟩, .int .u64 0, .bool false, .slice none 0 0, .slice none 0 0, .nilFunc, .int .i64 0, .int .i64 0, .slice ad n c, .int .i64 0].toArray) w := by
  simp [Instr.build, run_underlying Try.underlying114, Try.zeroValue114, fl42.siz w]
  rfl
theorem x_buildTab {ad : Option Addr} {n c : Nat} (hx : ev L x = some (.slice ad n c)) : Xv Try.prog m D L (.build 114 #[(1, x)]) ty w (.agg [Value.string ⟨#[]⟩, .int .u64 0, .bool false, .slice none 0 0, .slice none 0 0, .nilFunc, .int .i64 0, .int .i64 0, .slice ad n c, .int .i64 0].toArray) w :=
  x_build (parts := [(1, x)]) Try.underlying114 Try.zeroValue114 (pv := [(1, .slice ad n c)]) (fun a h => by show [(1, a.eval x)] = _; rw [h.ev hx]) build114
theorem build25k {k : ByteArray} {s : Int} (w : World) : (Instr.build 25 [(0, Value.string k), (1, Value.int .u64 s)].toArray).run Try.prog w = .ok (.agg (cellsOf ⟨k, s, false, []⟩ (.slice none 0 0)).toArray) w := by
  simp [Instr.build, run_underlying Try.underlying25, Try.zeroValue25, fl9.siz w, fl22.siz w, fl4.siz w, fl23.siz w]
  rfl
theorem x_buildK {k : ByteArray} {s : Int} (hx : ev L x = some (.string k)) (hy : ev L y = some (.int .u64 s)) : Xv Try.prog m D L (.build 25 #[(0, x), (1, y)]) ty w (.agg (cellsOf ⟨k, s, false, []⟩ (.slice none 0 0)).toArray) w :=
  x_build (parts := [(0, x), (1, y)]) Try.underlying25 Try.zeroValue25 (pv := [(0, .string k), (1, .int .u64 s)]) (fun a h => by show [(0, a.eval x), (1, a.eval y)] = _; rw [h.ev hx, h.ev hy]) build25k
theorem x_build0 : Xv Try.prog m D L (.build 25 #[]) ty w (.agg (cellsOf z0 (.slice none 0 0)).toArray) w :=
  x_build (parts := []) Try.underlying25 Try.zeroValue25 (pv := []) (fun a h => rfl) (fun w => by
    simp [Instr.build, run_underlying Try.underlying25, Try.zeroValue25]
    rfl)
end
/-- A new table. -/
theorem tab_new {w : World} {bt ha : Nat} {dv : Value} {zs : List Int} {O : Nat → Prop} (hB : Blk w bt (tabCells ha 0 0 dv 0) 114) (hA : Blk w ha (List.replicate 12 (.pointer none)) 130) (hO : O bt) (hO2 : O ha) (hd : IRow (fun k => O k ∧ k ≠ bt ∧ k ≠ ha) w dv zs) :
    Tab O w ⟨bt, ha, [], 0, 0, dv, zs, 0⟩ where
  tb := hB
  hd := hA
  nd := fun i n h => by simp at h
  db := by simp
  da := by simp
  byts := fun n h => by simp at h
  own := fun k hk => by simp only [Td.nb, nbs, List.flatMap_nil, List.mem_cons, List.not_mem_nil, or_false] at hk; rcases hk with rfl | rfl; exact hO; exact hO2
  ok := fun n h => by simp at h
  hs := fun n h => by simp at h
  sorted := List.Pairwise.nil
  draws := hd.mono fun k _ h => ⟨h.1, by simp only [Td.nb, nbs, List.flatMap_nil, List.mem_cons, List.not_mem_nil, or_false, not_or]; exact h.2⟩
end Go.Proofs.Ytblbddamebbgaaa.K

/- Walks: New, the sequences of a table, Collect. -/
namespace Go.Proofs.Ytblbddamebbgaaa.K
open Go Go.RowKit
set_option linter.unusedVariables false
set_option linter.unusedSimpArgs false

theorem C63 {A : Nat → Prop} {w : World} {v : Value} {zs : List Int} (hv : IRow A w v zs) : Rt Try.prog 63 [v] w fun r w' => IRow (fun k => w.heap.size ≤ k) w' r zs ∧ Ext w w' := by
  obtain ⟨ad, cap, rfl, hlen⟩ := hv.form
  have hW := hWw
  have hFF := hFw
  have hE : Ext w w := Keep.refl _ _
  refine rt_body Try.func63 rfl Try.ntmps63 rfl ?_
  refine wc_seq ?_
  refine wc_region ?_
  refine wl_val hW rfl rfl (x_assign rfl) ?_
  refine wl_nil ?_
  refine nx_then ?_
  refine wc_seq ?_
  refine wc_seq ?_
  refine wc_region ?_
  refine wl_val hW rfl rfl (x_move rfl) ?_
  refine wl_val hW rfl rfl (x_nilEq Try.underlying42 rfl rfl) ?_
  refine wl_nil ?_
  refine nx_then ?_
  refine wc_bool rfl (fun hc => ?_) (fun hc => ?_)
  · refine wc_seq ?_
    refine wc_region ?_
    refine wl_val hW rfl rfl (x_assign rfl) ?_
    refine wl_nil ?_
    refine nx_then ?_
    refine wc_ret ?_
    refine nx_then_ret ?_
    have hz0 : zs = [] := by
      obtain ⟨ad', cap', e, -, h⟩ := hv
      cases e
      refine Decidable.byContradiction fun hne => ?_
      obtain ⟨b, o, h, -⟩ := h hne; subst h; simp at hc
    exact ends_ret (res_tmp Try.results63 rfl) ⟨by rw [hz0]; exact ⟨none, 0, rfl, by simp, fun h => absurd rfl h⟩, hE⟩
  · refine wc_skip ?_
    refine nx_then ?_
    refine wc_seq ?_
    refine wc_region ?_
    refine wl_buildSlice (parts := []) hW rfl rfl Try.underlying42 fl3.siz Try.zeroValue3 rfl rfl rfl (by omega) ?_
    intro b5 w5 hl5 hB5 hx5
    have g5 : w.heap.size ≤ b5 := Nat.le_trans hE.size hl5
    replace hE := hE.trans hx5
    refine wl_val hW rfl rfl (x_move rfl) ?_
    refine wl_append Try.underlying42 info3 rfl (by decide) hW rfl rfl rfl rfl (owns_empty hB5 (Nat.le_refl _)) (by rw [intCells_len, Nat.mul_one]) (hv.ext hE).src intCells_one (by omega) (by decide) (Nat.le_of_lt hB5.lt) ?_
    intro v7 w7 hO7 hk7 hc7
    have hk7' : Keep (· ≠ b5) w5 w7 := hk7.mono fun k _ h e => h (by cases e; rfl)
    replace hE := hE.store hk7' g5
    rw [Nat.zero_add, List.nil_append] at hO7
    refine wl_val hW rfl rfl (x_assign rfl) ?_
    refine wl_nil ?_
    refine nx_then ?_
    refine wc_ret ?_
    exact ends_ret (res_tmp Try.results63 rfl) ⟨(iRow_of_owns hO7 hlen).mono fun k _ h => Nat.le_trans g5 h, hE⟩
theorem C28 {A : Nat → Prop} {w : World} {v : Value} {zs : List Int} (hv : IRow A w v zs) : Rt Try.prog 28 [v] w fun r w' => (∃ bt ha dv, r = .pointer (some ⟨bt, 0, none⟩) ∧ Tab (fun k => w.heap.size ≤ k) w' ⟨bt, ha, [], 0, 0, dv, zs, 0⟩) ∧ Ext w w' := by
  have hW := hWw
  have hFF := hFw
  have hE : Ext w w := Keep.refl _ _
  refine rt_body Try.func28 rfl Try.ntmps28 rfl ?_
  refine wc_seq ?_
  refine wc_region ?_
  refine wl_val hW rfl rfl (x_assign rfl) ?_
  refine wl_nil ?_
  refine nx_then ?_
  refine wc_seq ?_
  refine wc_region ?_
  refine wl_val hW rfl rfl (x_move rfl) ?_
  refine wl_call hW rfl rfl (x_call en63 rfl) ((C63 (hv.ext hE)).inF hFF) ?_
  rintro v5 wC ⟨hv5, hxC⟩
  obtain ⟨a5, c5, e5, hl5⟩ := hv5.form
  subst e5
  have hsz := hE.size
  replace hE := hE.trans hxC
  refine wl_val hW rfl rfl (x_buildTab rfl) ?_
  refine wl_box hW rfl rfl rfl rfl ?_
  intro b7 w7 hl7 hB7 hx7
  have g7 : w.heap.size ≤ b7 := Nat.le_trans hE.size hl7
  replace hE := hE.trans hx7
  refine wl_val hW rfl rfl (x_assign rfl) ?_
  refine wl_nil ?_
  refine nx_then ?_
  refine wc_seq ?_
  refine wc_region ?_
  refine wl_val hW rfl rfl (x_move rfl) ?_
  refine wl_makePtrs (h := 12) hW rfl rfl rfl rfl (by decide) ?_
  intro ba wa hla hBa hxa
  have ga : w.heap.size ≤ ba := Nat.le_trans hE.size hla
  have n7a : b7 ≠ ba := Nat.ne_of_lt (Nat.lt_of_lt_of_le hB7.lt hla)
  replace hB7 := hB7.ext hxa
  replace hE := hE.trans hxa
  refine wl_val hW rfl rfl (x_nilCheck rfl) ?_
  refine wl_val hW rfl rfl (x_fieldAddr Try.underlying114 rfl ag112.siz rfl) ?_
  refine wl_val hW rfl rfl (x_fieldAddr Try.underlying112 rfl ag110.siz rfl) ?_
  refine wl_val hW rfl rfl (x_fieldAddr Try.underlying110 rfl fl108.siz rfl) ?_
  refine wl_store hW rfl fl108 rfl rfl rfl hB7 rfl ?_
  intro wS hB7 hkS
  replace hE := hE.store hkS g7
  replace hBa := hBa.keep hkS n7a.symm
  refine wl_nil ?_
  refine nx_then ?_
  refine wc_seq ?_
  refine wc_region ?_
  refine wl_val hW rfl rfl (x_move rfl) ?_
  refine wl_val hW rfl rfl (x_nilCheck rfl) ?_
  refine wl_val hW rfl rfl (x_fieldAddr Try.underlying114 rfl ag112.siz rfl) ?_
  refine wl_val hW rfl rfl (x_fieldAddr Try.underlying112 rfl fl29.siz rfl) ?_
  refine wl_store hW rfl fl29 rfl rfl rfl hB7 rfl ?_
  intro wT hB7 hkT
  replace hE := hE.store hkT g7
  replace hBa := hBa.keep hkT n7a.symm
  have hlt5 : ∀ k, k < wC.heap.size → k ≠ b7 ∧ k ≠ ba := fun k h => ⟨by omega, by have := hx7.size; omega⟩
  have hv6 := (((hv5.mono (A' := fun k => k < wC.heap.size ∧ w.heap.size ≤ k) fun k hk h => ⟨hk, Nat.le_trans hsz h⟩).ext hx7).ext hxa)
  have hv7 := (hv6.ck (CK.of_keep hkS fun k _ h => (hlt5 k h.1).1)).ck (CK.of_keep hkT fun k _ h => (hlt5 k h.1).1)
  refine wl_nil ?_
  refine nx_then ?_
  refine wc_seq ?_
  refine wc_region ?_
  refine wl_val hW rfl rfl (x_move rfl) ?_
  refine wl_val hW rfl rfl (x_assign rfl) ?_
  refine wl_nil ?_
  refine nx_then ?_
  refine wc_ret ?_
  exact ends_ret (res_tmp Try.results28 rfl) ⟨⟨b7, ba, _, rfl, tab_new hB7 hBa g7 ga (hv7.mono fun k _ h => ⟨h.2, hlt5 k h.1⟩)⟩, hE⟩
theorem C70 {w : World} {bt : Nat} {e : Ent} {bv : Value} (h1 : bv.oneCell' = true) : Rt Try.prog 70 [.pointer (some ⟨bt, 0, none⟩), .agg (cellsOf e bv).toArray] w fun r w' => (∃ b2 b3, r = .func (.func 85) #[] #[.pointer (some ⟨b2, 0, none⟩), .pointer (some ⟨b3, 0, none⟩)] ∧ w.heap.size ≤ b2 ∧ w.heap.size ≤ b3 ∧ Blk w' b2 [.pointer (some ⟨bt, 0, none⟩)] 129 ∧ Blk w' b3 (cellsOf e bv) 25) ∧ Ext w w' := by
  have hW := hWw
  have hFF := hFw
  have hE : Ext w w := Keep.refl _ _
  refine rt_body Try.func70 rfl Try.ntmps70 rfl ?_
  refine wc_seq ?_
  refine wc_region ?_
  refine wl_box hW rfl rfl rfl rfl ?_
  intro b2 w2 hl2 hB2 hx2
  have g2 : w.heap.size ≤ b2 := Nat.le_trans hE.size hl2
  replace hE := hE.trans hx2
  refine wl_box hW rfl rfl rfl rfl ?_
  intro b3 w3 hl3 hB3 hx3
  have g3 : w.heap.size ≤ b3 := Nat.le_trans hE.size hl3
  have n3_2 : b3 ≠ b2 := Nat.ne_of_gt (Nat.lt_of_lt_of_le hB2.lt hl3)
  replace hB2 := hB2.ext hx3
  replace hE := hE.trans hx3
  refine wl_val hW rfl rfl (x_assign rfl) ?_
  refine wl_nil ?_
  refine nx_then ?_
  refine wc_seq ?_
  refine wc_region ?_
  refine wl_val hW rfl rfl (x_makeFunc (xs := [.tmp 2, .tmp 3]) rfl) ?_
  refine wl_val hW rfl rfl (x_assign rfl) ?_
  refine wl_nil ?_
  refine nx_then ?_
  refine wc_ret ?_
  exact ends_ret (res_tmp Try.results70 rfl) ⟨⟨b2, b3, rfl, g2, g3, hB2, hB3⟩, hE⟩
abbrev NdOf (t : Td) := {n : Nd // n ∈ t.ns}
theorem C85 {O S : Nat → Prop} {w : World} {t : Td} {e : Ent} {bv : Value} {p b2 b3 : Nat} (hT : Tab O w t) (hb : Below t.ns e p) (hB2 : Blk w b2 [.pointer (some ⟨t.bt, 0, none⟩)] 129) (hB3 : Blk w b3 (cellsOf e bv) 25) (hS : ∀ k, k < w.heap.size → O k → S k) :
    SeqY (α := NdOf t) Try.prog 85 [.pointer (some ⟨b2, 0, none⟩), .pointer (some ⟨b3, 0, none⟩)] (fun n => .agg (cellsOf n.1.e n.1.bv).toArray) S (fun _ _ => True) (fun xs => xs.map (·.1) = t.ns.drop p) (fun pre => pre.map (·.1) <+: t.ns.drop p) (t.ns.length + 1) w := by
  intro l J Jx W hW' hJ hJx hY hJ0
  have hple := hb.le
  have hTW := hT.ext hW'
  have hSW : ∀ k, k < W.heap.size → (O k ∧ k < w.heap.size) → S k := fun k _ h => hS k h.2 h.1
  have hTB : Tab (fun k => O k ∧ k < w.heap.size) W t := hT.bound.ext hW'
  refine CallsIn.mono (R := ok1 fun v W' => (∃ ys : List (NdOf t), ys.map (·.1) = t.ns.drop p ∧ J ys W') ∨ (∃ pre : List (NdOf t), pre.map (·.1) <+: t.ns.drop p ∧ Jx pre W')) ?_ (fun e w' ⟨v, he, h⟩ => ⟨⟨v, he⟩, h⟩)
  have hW := hWw
  have hFF := hFw
  refine rt_bodyn Try.func85 rfl Try.ntmps85 rfl ?_
  refine wc_seq ?_
  refine wc_region ?_
  refine wl_val hW rfl rfl (x_load fl129 rfl ((hB2.ext hW').cell (o := 0) rfl)) ?_
  refine wl_val hW rfl rfl (x_loadA ag25 rfl (hB3.ext hW').cells rfl) ?_
  refine wl_call hW rfl rfl (x_call en84 rfl) ((C84 hTW hb).inF hFF) ?_
  rintro _ wC ⟨⟨cs, rfl, hcs⟩, hxC⟩
  obtain ⟨j0, hj0, hl0⟩ := hcs.2.2 0 (by omega) (by omega)
  obtain rfl := hTW.last0 hple hl0
  have hTC := hTW.ext hxC
  have hpos := hTC.posH_pos hple
  have hpo : 0 ≤ (0 : Int) ∧ (0 : Int) < (posH t.ns j0 : Nat) := by omega
  have hC12 : wC.cell? ⟨posA t.ha t.ns j0, 0 + (0 : Int).toNat * 1, none⟩ = some (nxt 0 (t.ns.drop j0)) := hTC.cellAt j0 0 hple hpos
  refine wl_val hW rfl rfl (x_indexA (i := 0) Try.underlying131 fl130 rfl rfl (by decide) hj0) ?_
  refine wl_val hW rfl rfl (x_nilCheck rfl) ?_
  refine wl_val hW rfl rfl (x_fieldAddr Try.underlying110 rfl fl108.siz rfl) ?_
  refine wl_val hW rfl rfl (x_load fl108 rfl (hTC.nextAt j0 hple)) ?_
  refine wl_val hW rfl rfl (x_indexAddr Try.underlying108 fl130.siz rfl rfl hpo.1 hpo.2) ?_
  refine wl_val hW rfl rfl (x_load fl130 rfl hC12) ?_
  refine wl_val hW rfl rfl (x_assign rfl) ?_
  refine wl_nil ?_
  refine nx_then ?_
  refine wc_block ?_
  refine wc_loop (σ := List (NdOf t) × Nat) (fun s => [(0, .func (.yield l) #[] #[]), (4, nxt 0 (t.ns.drop s.2))]) (fun s w' => (j0 ≤ s.2 ∧ s.2 ≤ t.ns.length ∧ t.ns.drop j0 = s.1.map (·.1) ++ t.ns.drop s.2 ∧ J s.1 w') ∧ Keep S W w') (fun s => t.ns.length - s.2) ([], j0) ?_ ?_ ?_
  · exact ⟨⟨Nat.le_refl _, hple, rfl, hJ _ _ _ hJ0 hxC⟩, Keep.of_ext hxC⟩
  · repeat (first | exact sub_nil | refine sub_cons rfl ?_)
  · rintro ⟨pre, i⟩ wr ⟨⟨hji, hil, hd, hj⟩, hK⟩
    dsimp only at hji hil hd hj ⊢
    have hTr := hTB.keep hK hSW
    have hlpre : pre.length ≤ t.ns.length := by have := congrArg List.length hd; simp at this; omega
    refine wc_seq ?_
    refine wc_seq ?_
    refine wc_region ?_
    refine wl_val hW rfl rfl (x_move rfl) ?_
    refine wl_val hW rfl rfl (x_pneq Try.underlying130 some110 rfl rfl) ?_
    refine wl_nil ?_
    refine nx_then ?_
    refine wc_bool rfl (fun hc => ?_) (fun hc => ?_)
    · have hilt : i < t.ns.length := by
        refine Decidable.byContradiction fun h => ?_
        rw [List.drop_eq_nil_of_le (by omega)] at hc; cases hc
      rw [nxt_zero hTr.hs hilt]
      have hn := (hTr.nd i _ (List.getElem?_eq_getElem hilt)).1
      obtain ⟨x, hxe⟩ : ∃ x : NdOf t, x.1 = t.ns[i] := ⟨⟨_, List.getElem_mem hilt⟩, rfl⟩
      have hYa := hY pre x wr hj trivial (by omega)
      simp only [hxe] at hYa
      refine wc_skip ?_
      refine nx_then ?_
      refine wc_seq ?_
      refine wc_block ?_
      refine wc_seq ?_
      refine wc_region ?_
      refine wl_val hW rfl rfl (x_move rfl) ?_
      refine wl_val hW rfl rfl (x_move rfl) ?_
      refine wl_val hW rfl rfl (x_nilCheck rfl) ?_
      refine wl_val hW rfl rfl (x_fieldAddr Try.underlying110 rfl ag25.siz rfl) ?_
      refine wl_val hW rfl rfl (x_loadA ag25 rfl (nodeV hn) rfl) ?_
      refine wl_yield (R := fun v W' => ∃ b, v = .bool b ∧ (b = true → J (pre ++ [x]) W' ∧ Keep S wr W') ∧ (b = false → Jx (pre ++ [x]) W')) hW rfl rfl rfl rfl (hYa.mono (fun e' W' h => by rcases h with ⟨rfl, h⟩ | ⟨rfl, h⟩; exact ⟨_, rfl, true, rfl, (fun _ => h), (fun h => by cases h)⟩; exact ⟨_, rfl, false, rfl, (fun h => by cases h), (fun _ => h)⟩)) ?_
      rintro v W2 ⟨bb, rfl, hbt, hbf⟩
      have hstep : t.ns.drop j0 = (pre ++ [x] : List (NdOf t)).map (·.1) ++ t.ns.drop (i + 1) := by
        rw [hd, List.drop_eq_getElem_cons hilt]; simp [hxe]
      refine wl_val hW rfl rfl (x_not rfl) ?_
      refine wl_nil ?_
      refine nx_then ?_
      refine wc_bool rfl (fun hc => ?_) (fun hc => ?_)
      · refine wc_ret ?_
        refine nx_block_ret ?_
        refine nx_then_ret ?_
        refine nx_then_ret ?_
        refine nx_block_ret ?_
        exact ends_ret (res_none Try.results85) (.inr ⟨_, ⟨t.ns.drop (i + 1), hstep.symm⟩, hbf (by simpa using hc)⟩)
      · refine wc_skip ?_
        refine nx_block ?_
        refine nx_then ?_
        have hb1 := hbt (by simpa using hc)
        have hK2 := hK.trans hb1.2
        have hT2 := hTB.keep hK2 hSW
        have hposi := hT2.posH_pos (i := i + 1) hilt
        have hpoi : 0 ≤ (0 : Int) ∧ (0 : Int) < (t.ns[i].h : Nat) := by have := hT2.hs _ (List.getElem_mem hilt); omega
        have hn2 := (hT2.nd i _ (List.getElem?_eq_getElem hilt))
        have hC20 : W2.cell? ⟨t.ns[i].a, 0 + (0 : Int).toNat * 1, none⟩ = some (nxt 0 (t.ns.drop (i + 1))) := hn2.2.cell (tower_at _ (by omega))
        refine wc_region ?_
        refine wl_val hW rfl rfl (x_move rfl) ?_
        refine wl_val hW rfl rfl (x_nilCheck rfl) ?_
        refine wl_val hW rfl rfl (x_fieldAddr Try.underlying110 rfl fl108.siz rfl) ?_
        refine wl_val hW rfl rfl (x_load fl108 rfl (hn2.1.cell (o := 4) rfl)) ?_
        refine wl_val hW rfl rfl (x_indexAddr Try.underlying108 fl130.siz rfl rfl hpoi.1 hpoi.2) ?_
        refine wl_val hW rfl rfl (x_load fl130 rfl hC20) ?_
        refine wl_val hW rfl rfl (x_assign rfl) ?_
        refine wl_nil ?_
        exact nx_next (pre ++ [x], i + 1) (by dsimp only; omega) ⟨⟨by dsimp only; omega, hilt, hstep, hb1.1⟩, hK2⟩ (by repeat (first | exact sub_nil | refine sub_cons rfl ?_))
    · refine wc_exit ?_
      refine nx_then_exit ?_
      refine nx_then_exit ?_
      refine nx_block_exit ?_
      have hige : ¬ i < t.ns.length := fun h => by
        have := nxt_zero hTr.hs h
        unfold nxt at this; injection this with this; rw [this] at hc; cases hc
      exact ends_normal (res_none Try.results85) (.inl ⟨pre, by rw [hd, List.drop_eq_nil_of_le (by omega), List.append_nil], hj⟩)
end Go.Proofs.Ytblbddamebbgaaa.K


/- Bytes in rows of one's own; what is collected. -/
namespace Go.Proofs.Ytblbddamebbgaaa.K
open Go Go.RowKit
set_option linter.unusedVariables false
set_option linter.unusedSectionVars false
set_option linter.unusedSimpArgs false

/-- The slice v holds the bytes l, in a row of one's own. -/
def FB (base : Nat) (w : World) (v : Value) (l : List UInt8) : Prop := w.ownsRow base 5 1 v l.length (byteCells l)
section
variable {base : Nat} {w w' : World} {v : Value} {l : List UInt8}
theorem byteCells_len (l : List UInt8) : (byteCells l).length = l.length := by simp [byteCells]
theorem byteCells_one {l : List UInt8} : ∀ u ∈ byteCells l, u.oneCell' = true := fun u hu => by
  simp only [byteCells, List.mem_map] at hu; obtain ⟨z, -, rfl⟩ := hu; rfl
theorem Byts.src {A : Nat → Prop} {ad : Option Addr} {n c : Nat} (h : Byts A w (.slice ad n c) l) : Src w ad (byteCells l) := fun hne => by
  obtain ⟨ad', cap', e, h1, h2⟩ := h
  cases e
  obtain ⟨b, o, h3, -, h4⟩ := h2 (by rintro rfl; exact hne rfl)
  refine ⟨b, o, h3, fun j u hj => ?_⟩
  simp only [byteCells, List.getElem?_map] at hj
  cases hz : l[j]? with
  | none => rw [hz] at hj; cases hj
  | some z => rw [hz] at hj; cases hj; exact h4 j z hz
theorem FB.keep {S : Nat → Prop} (h : FB base w v l) (hk : Keep S w w') (hS : ∀ b, v.ownBlock = some b → S b) : FB base w' v l := ownsRow_keep h hk hS
theorem FB.ext (h : FB base w v l) (hk : Ext w w') : FB base w' v l := h.keep hk fun _ _ => trivial
theorem FB.nc {B : Nat} (h : FB base w v l) (hn : Nc B w w') : FB base w' v l := by
  refine ⟨h.1, ?_⟩
  rcases h.2 with ⟨h1, h2⟩ | ⟨g, cap, cur, rfl, hb, hg, h1⟩
  · exact .inl ⟨h1, h2⟩
  · exact .inr ⟨g, cap, cur, rfl, hb, by simpa [Blk] using Blk.nc (cs := cur.toList) (by simpa [Blk] using hg) hn, h1⟩
theorem FB.mono {base' : Nat} (h : FB base w v l) (hb : base' ≤ base) : FB base' w v l := ownsRow_base h fun b e => Nat.le_trans hb (ownsRow_blk h e).1
theorem FB.byts (h : FB base w v l) : Byts (fun k => base ≤ k ∧ v.ownBlock = some k) w v l := by
  obtain ⟨ad, c, rfl, h0, h1, h2⟩ := owns_src h
  have h3 := h.2
  refine ⟨ad, c, rfl, h0, fun hne => ?_⟩
  have hne' : byteCells l ≠ [] := fun e => hne (by simpa [byteCells] using e)
  obtain ⟨b, o, rfl, hc⟩ := h1 hne'
  refine ⟨b, o, rfl, ⟨h2 hne' b rfl, ?_⟩, fun i z hi => hc i _ (by simp [byteCells, hi])⟩
  rcases h3 with ⟨h4, -⟩ | ⟨g, cap, cur, h4, -⟩
  · cases h4
  · cases h4; rfl
theorem FB.ne (h : FB base w v l) {b b' : Nat} {cs : List Value} {T : TypeId} (hb : v.ownBlock = some b) (hB : Blk w b' cs T) (hT : T ≠ 5) : b ≠ b' := by
  obtain ⟨-, cs', h2⟩ := ownsRow_blk h hb
  exact h2.ne hB (fun e => hT e.symm)
theorem FB.ge (h : FB base w v l) {b : Nat} (hb : v.ownBlock = some b) : base ≤ b := (ownsRow_blk h hb).1
theorem FB.lt (h : FB base w v l) {b : Nat} (hb : v.ownBlock = some b) : b < w.heap.size := by obtain ⟨-, cs, h2⟩ := ownsRow_blk h hb; exact h2.lt
theorem fb_nil (base : Nat) (w : World) : FB base w (.slice none 0 0) [] := ⟨rfl, .inl ⟨rfl, rfl⟩⟩
theorem FB.form (h : FB base w v l) : ∃ ad c, v = .slice ad l.length c := by obtain ⟨ad, c, h, -⟩ := owns_src h; exact ⟨ad, c, h⟩
end
theorem coll_done2 {w wG W : World} {b6 B : Nat} {ov : Value} {xs : List Ent} {A : Nat → Prop} (hE : Ext w wG) (g6 : w.heap.size ≤ b6) (hK : Keep (fun k => k < wG.heap.size ∧ k ≠ b6) wG W) (hO : OwnE A wG.heap.size W ov xs) (hB : wG.heap.size ≤ B) (hk : W.heap[B]? = some (.deferred (some []))) (hl : xs.length ≤ 1099511627776) :
    Row (fun k => A k ∨ wG.heap.size ≤ k) (W.putObj B (.deferred none)) ov xs ∧ Ext w (W.putObj B (.deferred none)) := by
  have hs := hE.size
  have h1 : Ext w W := Keep.after hE hK (fun k h => ⟨by omega, by omega⟩)
  have hn : Nc wG.heap.size W (W.putObj B (.deferred none)) := nc_put hk hB
  exact ⟨(hO.nc hn).row hl, Keep.nc h1 hn hs⟩
theorem res_cell2 {P : Program} {m : Nat} {D : List Deferred} {L : Env} {w : World} {fn : Func} {t u : Tmp} {T U : TypeId} {ad1 ad2 : Addr} {v1 v2 : Value} (hr : fn.results = #[.cell t T, .cell u U]) (h1 : at' L t = some (.pointer (some ad1))) (hl : (loadVar T ad1).run P w = .ok v1 w) (h2 : at' L u = some (.pointer (some ad2))) (hl2 : (loadVar U ad2).run P w = .ok v2 w) : Res P fn m D L w (.tuple #[v1, v2]) := fun a h => by
  have e1 := h.getD h1
  have e2 := h.getD h2
  simp only [Array.getD_eq_getD_getElem?] at e1 e2
  simp [results, hr, e1, e2, asAddr, hl, hl2]
theorem run_loadVar_cell {P : Program} {w : World} {T : TypeId} {ad : Addr} {v : Value} (hf : Flat P T) (hc : w.cell? ad = some v) : (loadVar T ad).run P w = .ok v w := by
  simp [loadVar, (hf w).1, load, Sem.run, hc]
end Go.Proofs.Ytblbddamebbgaaa.K

/- Walks: copies, Collect, From, All. -/
namespace Go.Proofs.Ytblbddamebbgaaa.K
open Go Go.RowKit
set_option linter.unusedVariables false
set_option linter.unusedSimpArgs false

theorem info5' : (Try.prog.info? 5).map (fun i => (i.zero, i.size, i.bytes)) = some (some (.int .u8 0), 1, 1) := info5
theorem C65t {A : Nat → Prop} {w : World} {v : Value} {l : List UInt8} (hv : Byts A w v l) (hl : l.length ≤ 1099511627776) : Rt Try.prog 65 [v] w fun r w' => FB w.heap.size w' r l ∧ Ext w w' := by
  obtain ⟨ad, cap, rfl, hcap⟩ := hv.form
  have hW := hWw
  have hFF := hFw
  have hE : Ext w w := Keep.refl _ _
  refine rt_body Try.func65 rfl Try.ntmps65 rfl ?_
  refine wc_seq ?_
  refine wc_region ?_
  refine wl_val hW rfl rfl (x_assign rfl) ?_
  refine wl_nil ?_
  refine nx_then ?_
  refine wc_seq ?_
  refine wc_seq ?_
  refine wc_region ?_
  refine wl_val hW rfl rfl (x_move rfl) ?_
  refine wl_val hW rfl rfl (x_nilEq Try.underlying23 rfl rfl) ?_
  refine wl_nil ?_
  refine nx_then ?_
  refine wc_bool rfl (fun hc => ?_) (fun hc => ?_)
  · refine wc_seq ?_
    refine wc_region ?_
    refine wl_val hW rfl rfl (x_assign rfl) ?_
    refine wl_nil ?_
    refine nx_then ?_
    refine wc_ret ?_
    refine nx_then_ret ?_
    have hl0 : l = [] := by
      obtain ⟨ad', cap', e, -, h⟩ := hv
      cases e
      refine Decidable.byContradiction fun hne => ?_
      obtain ⟨b, o, h, -⟩ := h hne; subst h; simp at hc
    exact ends_ret (res_tmp Try.results65 rfl) ⟨by rw [hl0]; exact fb_nil _ _, hE⟩
  · refine wc_skip ?_
    refine nx_then ?_
    refine wc_seq ?_
    refine wc_region ?_
    refine wl_buildSlice (parts := []) hW rfl rfl Try.underlying23 fl5.siz Try.zeroValue5 rfl rfl rfl (by omega) ?_
    intro b5 w5 hl5 hB5 hx5
    have g5 : w.heap.size ≤ b5 := Nat.le_trans hE.size hl5
    replace hE := hE.trans hx5
    refine wl_val hW rfl rfl (x_move rfl) ?_
    refine wl_append Try.underlying23 info5 rfl (by decide) hW rfl rfl rfl rfl (owns_empty hB5 (Nat.le_refl _)) (by rw [byteCells_len, Nat.mul_one]) (hv.ext hE).src byteCells_one (by omega) (by decide) (Nat.le_of_lt hB5.lt) ?_
    intro v7 w7 hO7 hk7 hc7
    have hk7' : Keep (· ≠ b5) w5 w7 := hk7.mono fun k _ h e => h (by cases e; rfl)
    replace hE := hE.store hk7' g5
    rw [Nat.zero_add, List.nil_append] at hO7
    have hO8 : FB w.heap.size w7 v7 l := FB.mono (base := b5) hO7 g5
    refine wl_val hW rfl rfl (x_assign rfl) ?_
    refine wl_nil ?_
    refine nx_then ?_
    refine wc_ret ?_
    exact ends_ret (res_tmp Try.results65 rfl) ⟨hO8, hE⟩
theorem C71t {A : Nat → Prop} {w : World} {bv : Value} {e : Ent} (hv : Byts A w bv e.v) (hok : EntOk e) : Rt Try.prog 71 [.agg (cellsOf e bv).toArray] w fun r w' => (∃ bv', r = .agg (cellsOf e bv').toArray ∧ FB w.heap.size w' bv' e.v) ∧ Ext w w' := by
  obtain ⟨ad, cap, rfl, hcap⟩ := hv.form
  have hW := hWw
  have hFF := hFw
  have hE : Ext w w := Keep.refl _ _
  refine rt_body Try.func71 rfl Try.ntmps71 rfl ?_
  refine wc_seq ?_
  refine wc_region ?_
  refine wl_box hW rfl rfl rfl rfl ?_
  intro b1 w1 hl1 hB1 hx1
  have g1 : w.heap.size ≤ b1 := Nat.le_trans hE.size hl1
  replace hE := hE.trans hx1
  refine wl_alloc (cs := [.string ⟨#[]⟩, .int .u64 0, .bool false, .slice none 0 0]) hW rfl rfl Try.zeroValue25 rfl ?_
  intro b2 w2 hl2 hB2 hx2
  have g2 : w.heap.size ≤ b2 := Nat.le_trans hE.size hl2
  have n2_1 : b2 ≠ b1 := Nat.ne_of_gt (Nat.lt_of_lt_of_le hB1.lt hl2)
  replace hB1 := hB1.ext hx2
  replace hE := hE.trans hx2
  refine wl_nil ?_
  refine nx_then ?_
  refine wc_seq ?_
  refine wc_region ?_
  refine wl_val hW rfl rfl (x_fieldAddr Try.underlying25 rfl fl23.siz rfl) ?_
  refine wl_val hW rfl rfl (x_load fl23 rfl (hB1.cell (o := 3) rfl)) ?_
  have hx0 := hE.size
  refine wl_call hW rfl rfl (x_call en65 rfl) ((C65t (hv.ext hE) (by have := hok.v; omega)).inF hFF) ?_
  rintro v5 wC ⟨hv5, hxC⟩
  obtain ⟨a5, c5, e5⟩ := hv5.form
  subst e5
  replace hB1 := hB1.ext hxC
  replace hB2 := hB2.ext hxC
  replace hE := hE.trans hxC
  refine wl_val hW rfl rfl (x_fieldAddr Try.underlying25 rfl fl23.siz rfl) ?_
  refine wl_store hW rfl fl23 rfl rfl rfl hB1 rfl ?_
  intro wS hBS hkS
  replace hv5 := hv5.keep hkS (fun b hb => hv5.ne hb hB1 (by decide))
  replace hB2 := hB2.keep hkS n2_1
  replace hB1 := hBS
  clear hBS
  replace hE := hE.store hkS g1
  refine wl_nil ?_
  refine nx_then ?_
  refine wc_seq ?_
  refine wc_region ?_
  refine wl_val hW rfl rfl (x_loadA ag25 rfl hB1.cells rfl) ?_
  refine wl_storeA hW rfl ag25 rfl rfl rfl rfl hB2 rfl ?_
  intro wS hBS hkS
  replace hv5 := hv5.keep hkS (fun b hb => hv5.ne hb hB2 (by decide))
  replace hB1 := hB1.keep hkS n2_1.symm
  replace hB2 := hBS
  clear hBS
  replace hE := hE.store hkS g2
  refine wl_nil ?_
  refine nx_then ?_
  refine wc_ret ?_
  exact ends_ret (res_cell Try.results71 rfl (run_loadVar_cells ag25 hB2.cells rfl)) ⟨⟨_, rfl, hv5.mono hx0⟩, hE⟩
theorem C95 {O : Nat → Prop} {w : World} {t : Td} {e : Ent} {bv : Value} {p bx byy : Nat} (hT : Tab O w t) (hb : Below t.ns e p) (hBx : Blk w bx [.pointer (some ⟨t.bt, 0, none⟩)] 129) (hBy : Blk w byy (cellsOf e bv) 25) (hlen : t.ns.length ≤ 1048576) :
    Rt Try.prog 95 [.slice none 0 0, .func (.func 85) #[] #[.pointer (some ⟨bx, 0, none⟩), .pointer (some ⟨byy, 0, none⟩)]] w fun r w' => Row (fun k => (O k ∧ k < w.heap.size ∧ k ∉ t.nb) ∨ w.heap.size ≤ k) w' r ((t.ns.drop p).map (·.e)) ∧ Ext w w' := by
  have hW := hWw
  have hFF := hFw
  have hE : Ext w w := Keep.refl _ _
  refine rt_body Try.func95 rfl Try.ntmps95 rfl ?_
  refine wc_seq ?_
  refine wc_region ?_
  refine wl_box hW rfl rfl rfl rfl ?_
  intro b2 w2 hl2 hB2 hx2
  have g2 : w.heap.size ≤ b2 := Nat.le_trans hE.size hl2
  replace hE := hE.trans hx2
  refine wl_val hW rfl rfl (x_assign rfl) ?_
  refine wl_nil ?_
  refine nx_then ?_
  refine wc_seq ?_
  refine wc_seq ?_
  refine wc_region ?_
  refine wl_val hW rfl rfl (x_move rfl) ?_
  refine wl_nil ?_
  refine nx_then ?_
  refine wc_block ?_
  have hTG := hT.bound.ext hE
  have hEG := hE
  have hb2lt := hB2.lt
  have hsz := hE.size
  refine wc_rangeY (α := NdOf t) (σ := Nat) (fun n => .agg (cellsOf n.1.e n.1.bv).toArray) (fun k => k < w2.heap.size ∧ k ≠ b2) (fun _ _ => True) (fun xs => xs.map (·.1) = t.ns.drop p) (fun pre => pre.map (·.1) <+: t.ns.drop p) (t.ns.length + 1) rfl en85 rfl (C85 hTG hb (hBx.ext hE) (hBy.ext hE) (fun k h ho => ⟨h, by omega⟩)) (fun k h => h.1) (fun _ _ _ h _ => h) (fun pre W => Coll w2 b2 (fun k => O k ∧ k < w.heap.size ∧ k ∉ t.nb) (pre.map fun x : NdOf t => x.1.e) W) (fun _ _ _ => False) (fun s A B h hn => h.nc hn) (fun c s A B h _ => h) (Coll.start hB2) (fun x b5 A => w2.heap.size ≤ b5 ∧ Blk A b5 (cellsOf x.1.e x.1.bv) 25) (fun x s A B h hn => ⟨h.1, h.2.nc hn⟩) (fun x b5 => [(2, .pointer (some ⟨b2, 0, none⟩)), (5, .pointer (some ⟨b5, 0, none⟩))]) ?_ ?_ ?_ ?_
  · intro l pre x A K hI hyp hK
    -- assign
    have hW := hWw.round l
    have hsA := hI.keep.size
    have hE : Ext A A := Keep.refl _ _
    have hbx := hT.byts x.1 x.2
    have hone := cells_one (e := x.1.e) hbx.one
    refine wc_region ?_
    refine wl_alloc (cs := [.string ⟨#[]⟩, .int .u64 0, .bool false, .slice none 0 0]) hW rfl rfl Try.zeroValue25 rfl ?_
    intro b5 w5 hl5 hB5 hx5
    have g5 : A.heap.size ≤ b5 := hl5
    replace hE := hE.trans hx5
    refine wl_storeA hW rfl ag25 rfl rfl hone rfl hB5 rfl ?_
    intro wS hBS hkS
    replace hB5 := hBS
    clear hBS
    replace hE := hE.store hkS g5
    refine wl_nil ?_
    exact fun a ha => hK b5 wS hE ⟨by omega, hB5⟩ a (ha.sub (by repeat (first | exact sub_nil | refine sub_cons rfl ?_)))
  · intro l pre x b5 A hI hyp hAs hlt
    -- body
    obtain ⟨⟨ov, hBo, hO⟩, hKc⟩ := hI
    obtain ⟨hb5, hB5⟩ := hAs
    replace hB2 := hBo
    replace hE : Ext A A := Keep.refl _ _
    have n5_2 : b5 ≠ b2 := by omega
    have hsA := hKc.size
    have hby0 := (hTG.byts x.1 x.2).ck (CK.of_keep hKc fun k hk ho => ⟨hk, by omega⟩)
    have hpl : (pre.map fun x : NdOf t => x.1.e).length = pre.length := by simp
    have hW := hWw.round l
    have hFF := hFr l
    refine wc_block ?_
    refine wc_region ?_
    refine wl_val hW rfl rfl (x_load fl26 rfl (hB2.cell (o := 0) rfl)) ?_
    refine wl_val hW rfl rfl (x_loadA ag25 rfl hB5.cells rfl) ?_
    refine wl_buildSlice (parts := [(0, .tmp 9)]) hW rfl rfl Try.underlying26 ag25.siz Try.zeroValue25 rfl rfl rfl (by omega) ?_
    intro b10 w10 hl10 hB10 hx10
    have g10 : A.heap.size ≤ b10 := hl10
    have n10_2 : b10 ≠ b2 := Nat.ne_of_gt (Nat.lt_of_lt_of_le hB2.lt hl10)
    replace hB2 := hB2.ext hx10
    have n10_5 : b10 ≠ b5 := Nat.ne_of_gt (Nat.lt_of_lt_of_le hB5.lt hl10)
    replace hB5 := hB5.ext hx10
    replace hE := hE.trans hx10
    have hszA := hE.size
    refine wl_append1 hW rfl rfl rfl rfl (hO.ext hE) (by rw [hpl]; omega) hB10 ((hby0.ext hE).mono (fun k _ h => ⟨⟨h.1.1, h.1.2, h.2⟩, fun e => by have h3 : k < w.heap.size := h.1.2; have h4 : w2.heap.size ≤ k := (hO.lt k e.symm).1; omega⟩)) (hT.ok x.1 x.2) (by omega) ?_
    intro v11 wA hO2 hkA hcA
    have hB2A := hB2.keep hkA (fun e => hO.ne hBo (by decide) _ e.symm rfl)
    refine wl_store hW rfl fl26 rfl rfl hO2.one hB2A rfl ?_
    intro wS hBS hkS
    refine wl_nil ?_
    refine nx_block ?_
    exact round_coll (fun W h => by rw [List.map_append]; exact h) hBo ⟨_, hO⟩ hKc (((KeepR.of_ext hE).trans (hkA.mono fun k _ h => h.2)).trans (hkS.mono fun k _ h => h.1)) ⟨_, hBS, hO2.keep hkS (hO2.ne hB2A (by decide)) (fun k _ h => by have h3 : k < w.heap.size := h.2.1; omega)⟩
  · intro B xs W hBB hs hi hk
    -- done
    obtain ⟨⟨ov, hBo, hO⟩, hKc⟩ := hi
    replace hB2 := hBo
    have hxe : (xs.map fun x : NdOf t => x.1.e) = (t.ns.drop p).map (·.e) := by rw [← hs, List.map_map]; rfl
    rw [hxe] at hO
    refine nx_block ?_
    refine nx_then ?_
    refine wc_seq ?_
    refine wc_region ?_
    refine wl_val hW rfl rfl (x_load fl26 rfl (hB2.cell (o := 0) rfl)) ?_
    refine wl_val hW rfl rfl (x_assign rfl) ?_
    refine wl_nil ?_
    refine nx_then ?_
    refine wc_ret ?_
    obtain ⟨hdr, hde⟩ := coll_done2 hEG g2 hKc hO hBB hk (by simp; omega)
    exact ends_ret_mark hk (res_tmp Try.results95 rfl) ⟨hdr.mono (fun k _ h => h.elim .inl fun h => .inr (by omega)), hde⟩
  · exact fun B c pre W _ _ h _ => h.elim
end Go.Proofs.Ytblbddamebbgaaa.K


/- Walks: Collect, From, All, Get. -/
namespace Go.Proofs.Ytblbddamebbgaaa.K
open Go Go.RowKit
set_option linter.unusedVariables false
set_option linter.unusedSimpArgs false

theorem C86 {O : Nat → Prop} {w : World} {t : Td} {e : Ent} {bv : Value} {p bx byy : Nat} (hT : Tab O w t) (hb : Below t.ns e p) (hBx : Blk w bx [.pointer (some ⟨t.bt, 0, none⟩)] 129) (hBy : Blk w byy (cellsOf e bv) 25) (hlen : t.ns.length ≤ 1048576) :
    Rt Try.prog 86 [.func (.func 85) #[] #[.pointer (some ⟨bx, 0, none⟩), .pointer (some ⟨byy, 0, none⟩)]] w fun r w' => Row (fun k => (O k ∧ k < w.heap.size ∧ k ∉ t.nb) ∨ w.heap.size ≤ k) w' r ((t.ns.drop p).map (·.e)) ∧ Ext w w' := by
  have hW := hWw
  have hFF := hFw
  have hE : Ext w w := Keep.refl _ _
  refine rt_body Try.func86 rfl Try.ntmps86 rfl ?_
  refine wc_seq ?_
  refine wc_region ?_
  refine wl_val hW rfl rfl (x_assign rfl) ?_
  refine wl_nil ?_
  refine nx_then ?_
  refine wc_seq ?_
  refine wc_region ?_
  refine wl_val hW rfl rfl (x_move rfl) ?_
  refine wl_call hW rfl rfl (x_call en95 rfl) ((C95 hT hb hBx hBy hlen).inF hFF) ?_
  rintro v3 wC ⟨hv3, hxC⟩
  replace hE := hE.trans hxC
  refine wl_val hW rfl rfl (x_assign rfl) ?_
  refine wl_nil ?_
  refine nx_then ?_
  refine wc_ret ?_
  exact ends_ret (res_tmp Try.results86 rfl) ⟨hv3, hE⟩
/-- The version behind which a key's versions begin. -/
def kE (key : ByteArray) : Ent := ⟨key, 18446744073709551615, false, []⟩
theorem C72 {O : Nat → Prop} {w : World} {t : Td} {key : ByteArray} {p : Nat} (hT : Tab O w t) (hb : Below t.ns (kE key) p) (hlen : t.ns.length ≤ 1048576) :
    Rt Try.prog 72 [.pointer (some ⟨t.bt, 0, none⟩), .string key] w fun r w' => (∃ b5 rv, r = .func (.func 87) #[] #[.pointer (some ⟨b5, 0, none⟩)] ∧ w.heap.size ≤ b5 ∧ Blk w' b5 [rv] 26 ∧ Row (fun k => ((O k ∧ k < w.heap.size ∧ k ∉ t.nb) ∨ w.heap.size ≤ k) ∧ k ≠ b5) w' rv ((t.ns.drop p).map (·.e))) ∧ Ext w w' := by
  have hW := hWw
  have hFF := hFw
  have hE : Ext w w := Keep.refl _ _
  refine rt_body Try.func72 rfl Try.ntmps72 rfl ?_
  refine wc_seq ?_
  refine wc_region ?_
  refine wl_val hW rfl rfl (x_assign rfl) ?_
  refine wl_nil ?_
  refine nx_then ?_
  refine wc_seq ?_
  refine wc_region ?_
  refine wl_val hW rfl rfl (x_move rfl) ?_
  refine wl_val hW rfl rfl (x_nilCheck rfl) ?_
  refine wl_val hW rfl rfl (x_fieldAddr Try.underlying114 rfl ag112.siz rfl) ?_
  refine wl_val hW rfl rfl (x_move rfl) ?_
  refine wl_val hW rfl rfl (x_buildK rfl rfl) ?_
  refine wl_call hW rfl rfl (x_call en70 rfl) ((C70 (e := kE key) rfl).inF hFF) ?_
  rintro _ wC ⟨⟨b2, b3, rfl, g2, g3, hB2, hB3⟩, hxC⟩
  replace hE := hE.trans hxC
  refine wl_call hW rfl rfl (x_call en86 rfl) ((C86 (hT.ext hE) hb hB2 hB3 hlen).inF hFF) ?_
  rintro v12 wD ⟨hv12, hxC⟩
  have hsz := hE.size
  obtain ⟨a12, c12, e12, -, -⟩ := hv12.form
  subst e12
  replace hE := hE.trans hxC
  refine wl_alloc (cs := [.slice none 0 0]) hW rfl rfl Try.zeroValue26 rfl ?_
  intro b5 w5 hl5 hB5 hx5
  have g5 : w.heap.size ≤ b5 := Nat.le_trans hE.size hl5
  replace hE := hE.trans hx5
  refine wl_store hW rfl fl26 rfl rfl rfl hB5 rfl ?_
  have hv13 := (hv12.mono (A' := fun k => k < wD.heap.size ∧ ((O k ∧ k < wC.heap.size ∧ k ∉ t.nb) ∨ wC.heap.size ≤ k)) fun k hk h => ⟨hk, h⟩).ext hx5
  intro wS hBS hkS
  replace hB5 := hBS
  clear hBS
  replace hE := hE.store hkS g5
  refine wl_nil ?_
  refine nx_then ?_
  refine wc_seq ?_
  refine wc_region ?_
  refine wl_val hW rfl rfl (x_makeFunc (xs := [.tmp 5]) rfl) ?_
  refine wl_val hW rfl rfl (x_assign rfl) ?_
  refine wl_nil ?_
  refine nx_then ?_
  refine wc_ret ?_
  exact ends_ret (res_tmp Try.results72 rfl) ⟨⟨b5, _, rfl, g5, hB5, (hv13.ck (CK.of_keep hkS fun k _ h => by have := h.1; omega)).mono fun k _ h => ⟨h.2.elim (fun h2 => (Nat.lt_or_ge k w.heap.size).elim (fun h3 => .inl ⟨h2.1, h3, h2.2.2⟩) .inr) (fun h2 => .inr (by omega)), by have := h.1; omega⟩⟩, hE⟩
theorem C37 {O : Nat → Prop} {w : World} {t : Td} {p : Nat} (hT : Tab O w t) (hb : Below t.ns (kE ⟨#[]⟩) p) (hlen : t.ns.length ≤ 1048576) :
    Rt Try.prog 37 [.pointer (some ⟨t.bt, 0, none⟩)] w fun r w' => (∃ b5 rv, r = .func (.func 87) #[] #[.pointer (some ⟨b5, 0, none⟩)] ∧ w.heap.size ≤ b5 ∧ Blk w' b5 [rv] 26 ∧ Row (fun k => ((O k ∧ k < w.heap.size ∧ k ∉ t.nb) ∨ w.heap.size ≤ k) ∧ k ≠ b5) w' rv ((t.ns.drop p).map (·.e))) ∧ Ext w w' := by
  have hW := hWw
  have hFF := hFw
  have hE : Ext w w := Keep.refl _ _
  refine rt_body Try.func37 rfl Try.ntmps37 rfl ?_
  refine wc_seq ?_
  refine wc_region ?_
  refine wl_val hW rfl rfl (x_assign rfl) ?_
  refine wl_nil ?_
  refine nx_then ?_
  refine wc_seq ?_
  refine wc_region ?_
  refine wl_val hW rfl rfl (x_move rfl) ?_
  refine wl_call hW rfl rfl (x_call en72 rfl) ((C72 hT hb hlen).inF hFF) ?_
  rintro _ wC ⟨⟨b5, rv, rfl, g5, hB5, hR⟩, hxC⟩
  replace hE := hE.trans hxC
  refine wl_val hW rfl rfl (x_assign rfl) ?_
  refine wl_nil ?_
  refine nx_then ?_
  refine wc_ret ?_
  exact ends_ret (res_tmp Try.results37 rfl) ⟨⟨b5, rv, rfl, g5, hB5, hR⟩, hE⟩
theorem C87 {A S : Nat → Prop} {w : World} {v : Value} {es : List Ent} {b : Nat} (hR : Row A w v es) (hB : Blk w b [v] 26) (hA : ∀ k, k < w.heap.size → A k → S k) (hSb : S b) :
    SeqY (α := Ent × Value) Try.prog 87 [.pointer (some ⟨b, 0, none⟩)] (fun x => .agg (cellsOf x.1 x.2).toArray) S (fun x W => FB w.heap.size W x.2 x.1.v ∧ EntOk x.1) (fun xs => xs.map (·.1) = es) (fun pre => pre.map (·.1) <+: es) (es.length + 1) w := by
  intro l J Jx W hW' hJ hJx hY hJ0
  obtain ⟨ad, cap, rfl, hcap, hlen⟩ := hR.form
  have hRW := (hR.mono (A' := fun k => k < w.heap.size ∧ A k) fun k hk h => ⟨hk, h⟩).ext hW'
  have hS' : ∀ k, k < W.heap.size → (k < w.heap.size ∧ A k) → S k := fun k _ h => hA k h.1 h.2
  refine CallsIn.mono (R := ok1 fun v W' => (∃ ys : List (Ent × Value), ys.map (·.1) = es ∧ J ys W') ∨ (∃ pre : List (Ent × Value), pre.map (·.1) <+: es ∧ Jx pre W')) ?_ (fun e w' ⟨v, he, h⟩ => ⟨⟨v, he⟩, h⟩)
  have hW := hWw
  have hFF := hFw
  refine rt_bodyn Try.func87 rfl Try.ntmps87 rfl ?_
  refine wc_seq ?_
  refine wc_region ?_
  refine wl_val hW rfl rfl (x_load fl26 rfl ((hB.ext hW').cell (o := 0) rfl)) ?_
  refine wl_val hW rfl rfl (x_len Try.underlying26 rfl) ?_
  refine wl_val hW rfl rfl (x_move rfl) ?_
  refine wl_nil ?_
  refine nx_then ?_
  refine wc_block ?_
  refine wc_loop (σ := List (Ent × Value)) (fun s => [(0, .func (.yield l) #[] #[]), (5, .slice ad es.length cap), (6, .int .i64 es.length), (7, .int .i64 (s.length : Nat))]) (fun s w' => (s.length ≤ es.length ∧ s.map (·.1) = es.take s.length ∧ J s w') ∧ Keep S W w') (fun s => es.length - s.length) [] ?_ ?_ ?_
  · exact ⟨⟨Nat.zero_le _, rfl, hJ0⟩, Keep.refl _ _⟩
  · repeat (first | exact sub_nil | refine sub_cons rfl ?_)
  · rintro pre wr ⟨⟨hpl, hpe, hj⟩, hK⟩
    refine wc_seq ?_
    refine wc_region ?_
    refine wl_val hW rfl rfl (x_lss rfl rfl) ?_
    refine wl_nil ?_
    refine nx_then ?_
    refine wc_seq ?_
    refine wc_dec rfl (fun hc => ?_) (fun hc => ?_)
    · refine wc_skip ?_
      refine nx_then ?_
      refine wc_seq ?_
      refine wc_block ?_
      refine wc_seq ?_
      refine wc_region ?_
      have hlt : pre.length < es.length := by omega
      have hRr := hRW.ck (CK.of_keep hK hS')
      obtain ⟨b', o, cap', bv, e1, hA1, hC9, hb1, hok1⟩ := hRr.at pre.length hlt
      cases e1
      have hE : Ext wr wr := Keep.refl _ _
      have hone := cells_one (e := es[pre.length]) hb1.one
      refine wl_val hW rfl rfl (x_indexAddr Try.underlying26 ag25.siz rfl rfl (by omega) (by omega)) ?_
      refine wl_val hW rfl rfl (x_loadA ag25 rfl hC9 rfl) ?_
      refine wl_alloc (cs := [.string ⟨#[]⟩, .int .u64 0, .bool false, .slice none 0 0]) hW rfl rfl Try.zeroValue25 rfl ?_
      intro b4 w4 hl4 hB4 hx4
      have g4 : wr.heap.size ≤ b4 := hl4
      replace hE := hE.trans hx4
      refine wl_storeA hW rfl ag25 rfl rfl hone rfl hB4 rfl ?_
      intro wS hBS hkS
      replace hB4 := hBS
      clear hBS
      replace hE := hE.store hkS g4
      refine wl_nil ?_
      refine nx_then ?_
      refine wc_seq ?_
      refine wc_region ?_
      refine wl_val hW rfl rfl (x_move rfl) ?_
      refine wl_val hW rfl rfl (x_loadA ag25 rfl hB4.cells rfl) ?_
      refine wl_call hW rfl rfl (x_call en71 rfl) ((C71t (hb1.ext hE) hok1).inF hFF) ?_
      rintro _ wC ⟨⟨bv', rfl, hFB⟩, hxC⟩
      replace hB4 := hB4.ext hxC
      replace hE := hE.trans hxC
      have hKC := hK.trans (Keep.of_ext hE)
      have hszC : w.heap.size ≤ wS.heap.size := Nat.le_trans hW'.size (Nat.le_trans hK.size (by have := hkS.size; have := hx4.size; omega))
      have hYa := hY pre (es[pre.length], bv') wC (hJ _ _ _ hj hE) ⟨hFB.mono hszC, hok1⟩ (by omega)
      refine wl_yield (R := fun v W' => ∃ b, v = .bool b ∧ (b = true → J (pre ++ [(es[pre.length], bv')]) W' ∧ Keep S wC W') ∧ (b = false → Jx (pre ++ [(es[pre.length], bv')]) W')) hW rfl rfl rfl rfl (hYa.mono (fun e' W' h => by rcases h with ⟨rfl, h⟩ | ⟨rfl, h⟩; exact ⟨_, rfl, true, rfl, (fun _ => h), (fun h => by cases h)⟩; exact ⟨_, rfl, false, rfl, (fun h => by cases h), (fun _ => h)⟩)) ?_
      rintro v W2 ⟨bb, rfl, hbt, hbf⟩
      have hstep : (pre ++ [(es[pre.length], bv')]).map (·.1) = es.take (pre.length + 1) := by
        rw [List.map_append, hpe, List.take_add_one, List.getElem?_eq_getElem hlt]; rfl
      refine wl_val hW rfl rfl (x_not rfl) ?_
      refine wl_nil ?_
      refine nx_then ?_
      refine wc_bool rfl (fun hc => ?_) (fun hc => ?_)
      · refine wc_ret ?_
        refine nx_block_ret ?_
        refine nx_then_ret ?_
        refine nx_then_ret ?_
        refine nx_block_ret ?_
        exact ends_ret (res_none Try.results87) (.inr ⟨_, by rw [hstep]; exact List.take_prefix _ _, hbf (by simpa using hc)⟩)
      · refine wc_skip ?_
        refine nx_block ?_
        refine nx_then ?_
        have hb1 := hbt (by simpa using hc)
        refine wc_region ?_
        refine wl_val hW rfl rfl (x_inc (s := pre.length) rfl (by omega)) ?_
        refine wl_val hW rfl rfl (x_move rfl) ?_
        refine wl_nil ?_
        exact nx_next (pre ++ [(es[pre.length], bv')]) (by simp; omega) ⟨⟨by simp; omega, by rw [hstep]; simp, hb1.1⟩, hKC.trans hb1.2⟩ (by rw [show (pre ++ [(es[pre.length], bv')]).length = pre.length + 1 from by simp]; repeat (first | exact sub_nil | refine sub_cons rfl ?_))
    · refine wc_exit ?_
      refine nx_then_exit ?_
      refine nx_then_exit ?_
      refine nx_block_exit ?_
      exact ends_normal (res_none Try.results87) (.inl ⟨pre, by rw [hpe, List.take_of_length_le (by omega)], hj⟩)
end Go.Proofs.Ytblbddamebbgaaa.K


/- Walks: Get. -/
namespace Go.Proofs.Ytblbddamebbgaaa.K
open Go Go.RowKit
set_option linter.unusedVariables false
set_option linter.unusedSimpArgs false

def gE (key : ByteArray) (up : Int) : Ent := ⟨key, up, false, []⟩
/-- What Get finds. -/
def gotN (ns : List Nd) (p : Nat) (key : ByteArray) : Option Nd := match (ns.drop p).head? with
  | some n => if n.e.k = key then some n else none
  | none => none
theorem gotN_nil {ns : List Nd} {p : Nat} {key : ByteArray} (h : ns.drop p = []) : gotN ns p key = none := by unfold gotN; rw [h]; rfl
theorem gotN_cons {ns : List Nd} {p : Nat} {key : ByteArray} {n : Nd} (h : [n] <+: ns.drop p) : gotN ns p key = if n.e.k = key then some n else none := by
  obtain ⟨l, hl⟩ := h
  unfold gotN; rw [← hl]; rfl
theorem C36 {O : Nat → Prop} {w : World} {t : Td} {key : ByteArray} {up : Int} {p : Nat} (hT : Tab O w t) (hb : Below t.ns (gE key up) p) (hlen : t.ns.length ≤ 1048576) :
    Rt Try.prog 36 [.pointer (some ⟨t.bt, 0, none⟩), .string key, .int .u64 up] w fun r w' => ((∃ n bv', gotN t.ns p key = some n ∧ r = .tuple #[.agg (cellsOf n.e bv').toArray, .bool true] ∧ FB w.heap.size w' bv' n.e.v) ∨ (gotN t.ns p key = none ∧ r = .tuple #[.agg (cellsOf z0 (.slice none 0 0)).toArray, .bool false])) ∧ Ext w w' := by
  have hW := hWw
  have hFF := hFw
  have hE : Ext w w := Keep.refl _ _
  refine rt_body Try.func36 rfl Try.ntmps36 rfl ?_
  refine wc_seq ?_
  refine wc_region ?_
  refine wl_box hW rfl rfl rfl rfl ?_
  intro b4 w4 hl4 hB4 hx4
  have g4 : w.heap.size ≤ b4 := Nat.le_trans hE.size hl4
  replace hE := hE.trans hx4
  refine wl_alloc (cs := [.string ⟨#[]⟩, .int .u64 0, .bool false, .slice none 0 0]) hW rfl rfl Try.zeroValue25 rfl ?_
  intro b6 w6 hl6 hB6 hx6
  have g6 : w.heap.size ≤ b6 := Nat.le_trans hE.size hl6
  have n6_4 : b6 ≠ b4 := Nat.ne_of_gt (Nat.lt_of_lt_of_le hB4.lt hl6)
  replace hB4 := hB4.ext hx6
  replace hE := hE.trans hx6
  refine wl_alloc (cs := [.bool false]) hW rfl rfl Try.zeroValue4 rfl ?_
  intro b7 w7 hl7 hB7 hx7
  have g7 : w.heap.size ≤ b7 := Nat.le_trans hE.size hl7
  have n7_4 : b7 ≠ b4 := Nat.ne_of_gt (Nat.lt_of_lt_of_le hB4.lt hl7)
  replace hB4 := hB4.ext hx7
  have n7_6 : b7 ≠ b6 := Nat.ne_of_gt (Nat.lt_of_lt_of_le hB6.lt hl7)
  replace hB6 := hB6.ext hx7
  replace hE := hE.trans hx7
  refine wl_nil ?_
  refine nx_then ?_
  refine wc_seq ?_
  refine wc_seq ?_
  refine wc_draw' 6 hW mixed (by kernel_rfl) (fun w0 hx0 => ?_)
  replace hB4 := hB4.ext hx0
  replace hB6 := hB6.ext hx0
  replace hB7 := hB7.ext hx0
  replace hE := hE.trans hx0
  refine q_val rfl rfl (fun _ hx => x_move rfl) ?_
  refine q_val rfl rfl (fun _ hx => x_nilCheck rfl) ?_
  refine q_val rfl rfl (fun _ hx => x_fieldAddr Try.underlying114 rfl ag112.siz rfl) ?_
  refine q_val rfl rfl (fun _ hx => x_load fl9 rfl (hx.cell (hB4.cell (o := 0) rfl))) ?_
  refine q_val rfl rfl (fun _ hx => x_move rfl) ?_
  refine q_val rfl rfl (fun _ hx => x_buildK rfl rfl) ?_
  refine q_nil (tail0 (fun wt hxt => ?_))
  replace hB4 := hB4.ext hxt
  replace hB6 := hB6.ext hxt
  replace hB7 := hB7.ext hxt
  replace hE := hE.trans hxt
  refine wl_call hW rfl rfl (x_call en70 rfl) ((C70 (e := gE key up) rfl).inF hFF) ?_
  rintro _ wC ⟨⟨bx, byy, rfl, gx, gy, hBx, hBy⟩, hxC⟩
  replace hB4 := hB4.ext hxC
  replace hB6 := hB6.ext hxC
  replace hB7 := hB7.ext hxC
  replace hE := hE.trans hxC
  refine wl_nil ?_
  refine nx_then ?_
  refine wc_block ?_
  have hTG := hT.bound.ext hE
  have hEG := hE
  have hsz := hE.size
  have hb6lt := hB6.lt
  have hb7lt := hB7.lt
  refine wc_rangeY (α := NdOf t) (σ := Nat) (fun n => .agg (cellsOf n.1.e n.1.bv).toArray) (fun k => k < wC.heap.size) (fun _ _ => True) (fun xs => xs.map (·.1) = t.ns.drop p) (fun pre => pre.map (·.1) <+: t.ns.drop p) (t.ns.length + 1) rfl en85 rfl (C85 hTG hb hBx hBy (fun k h ho => h)) (fun k h => h) (fun _ _ _ h _ => h) (fun pre W => pre = [] ∧ Ext wC W) (fun c pre W => ∃ x : NdOf t, pre = [x] ∧ ((c = .exit 0 ∧ x.1.e.k ≠ key ∧ Ext wC W) ∨ (c = .ret ∧ x.1.e.k = key ∧ Keep (fun k => k ≠ b6 ∧ k ≠ b7) wC W ∧ ∃ bv', Blk W b6 (cellsOf x.1.e bv') 25 ∧ Blk W b7 [.bool true] 4 ∧ FB w.heap.size W bv' x.1.e.v))) (fun s A B h hn => ⟨h.1, Keep.nc h.2 hn (Nat.le_refl _)⟩) (fun c s A B ⟨x, h1, h2⟩ hn => ⟨x, h1, h2.elim (fun h => .inl ⟨h.1, h.2.1, Keep.nc h.2.2 hn (Nat.le_refl _)⟩) (fun ⟨h3, h4, h5, bv', h6, h7, h8⟩ => .inr ⟨h3, h4, Keep.nc h5 hn (Nat.le_refl _), bv', h6.nc hn, h7.nc hn, h8.nc hn⟩)⟩) ⟨rfl, Keep.refl _ _⟩ (fun x b8 A => wC.heap.size ≤ b8 ∧ Blk A b8 (cellsOf x.1.e x.1.bv) 25) (fun x s A B h hn => ⟨h.1, h.2.nc hn⟩) (fun x b8 => [(4, .pointer (some ⟨b4, 0, none⟩)), (6, .pointer (some ⟨b6, 0, none⟩)), (7, .pointer (some ⟨b7, 0, none⟩)), (8, .pointer (some ⟨b8, 0, none⟩))]) ?_ ?_ ?_ ?_
  · intro l pre x A K hI hyp hK
    -- assign
    have hW := hWw.round l
    have hsA := hI.2.size
    have hE : Ext A A := Keep.refl _ _
    have hone := cells_one (e := x.1.e) (hT.byts x.1 x.2).one
    refine wc_region ?_
    refine wl_alloc (cs := [.string ⟨#[]⟩, .int .u64 0, .bool false, .slice none 0 0]) hW rfl rfl Try.zeroValue25 rfl ?_
    intro b8 w8 hl8 hB8 hx8
    have g8 : A.heap.size ≤ b8 := hl8
    replace hE := hE.trans hx8
    refine wl_storeA hW rfl ag25 rfl rfl hone rfl hB8 rfl ?_
    intro wS hBS hkS
    replace hB8 := hBS
    clear hBS
    replace hE := hE.store hkS g8
    refine wl_nil ?_
    exact fun a ha => hK b8 wS hE ⟨by omega, hB8⟩ a (ha.sub (by repeat (first | exact sub_nil | refine sub_cons rfl ?_)))
  · rintro l pre x b8 A ⟨rfl, hEA⟩ hyp ⟨hb8, hB8⟩ hlt
    -- body
    replace hB4 := hB4.ext hEA
    replace hB6 := hB6.ext hEA
    replace hB7 := hB7.ext hEA
    have hE : Ext A A := Keep.refl _ _
    have hsA := hEA.size
    have n8_6 : b8 ≠ b6 := by omega
    have n8_7 : b8 ≠ b7 := by omega
    have hbyA := (hTG.byts x.1 x.2).ext hEA
    have hW := hWw.round l
    have hFF := hFr l
    refine wc_block ?_
    refine wc_seq ?_
    refine wc_seq ?_
    refine wc_region ?_
    refine wl_val hW rfl rfl (x_fieldAddr Try.underlying25 rfl fl9.siz rfl) ?_
    refine wl_val hW rfl rfl (x_load fl9 rfl (hB8.cell (o := 0) rfl)) ?_
    refine wl_val hW rfl rfl (x_load fl9 rfl (hB4.cell (o := 0) rfl)) ?_
    refine wl_val hW rfl rfl (x_sneq rfl rfl) ?_
    refine wl_nil ?_
    refine nx_then ?_
    refine wc_bool rfl (fun hc => ?_) (fun hc => ?_)
    · refine wc_exit ?_
      refine nx_then_exit ?_
      refine nx_block_other rfl ?_
      exact round_exit (S' := fun _ => True) hE (fun _ _ _ _ _ => trivial) ⟨x, rfl, .inl ⟨rfl, fun e => by rw [e] at hc; simp at hc, hEA⟩⟩
    · have hkx : x.1.e.k = key := ba_ext (by simpa using hc)
      refine wc_skip ?_
      refine nx_then ?_
      refine wc_seq ?_
      refine wc_region ?_
      refine wl_val hW rfl rfl (x_loadA ag25 rfl hB8.cells rfl) ?_
      refine wl_call hW rfl rfl (x_call en71 rfl) ((C71t hbyA (hT.ok x.1 x.2)).inF hFF) ?_
      rintro _ wD ⟨⟨bv', rfl, hFB⟩, hxC⟩
      replace hB4 := hB4.ext hxC
      replace hB6 := hB6.ext hxC
      replace hB7 := hB7.ext hxC
      replace hB8 := hB8.ext hxC
      replace hE := hE.trans hxC
      have hEx := hE
      obtain ⟨ab, cb, rfl⟩ := hFB.form
      refine wl_storeA hW rfl ag25 rfl rfl rfl rfl hB6 rfl ?_
      intro wS hB6S hkS
      have hFB1 := hFB.keep hkS (fun b hb => hFB.ne hb hB6 (by decide))
      have hB7S := hB7.keep hkS n7_6
      refine wl_store hW rfl fl4 rfl rfl rfl hB7S rfl ?_
      intro wT hB7T hkT
      have hFB2 := hFB1.keep hkT (fun b hb => hFB1.ne hb hB7S (by decide))
      have hB6T := hB6S.keep hkT n7_6.symm
      have hKT : Keep (fun k => k ≠ b6 ∧ k ≠ b7) A wT := ((Keep.of_ext hEx).trans (hkS.mono fun k _ h => h.1)).trans (hkT.mono fun k _ h => h.2)
      refine wl_nil ?_
      refine nx_then ?_
      refine wc_ret ?_
      refine nx_block_ret ?_
      exact round_ret (S' := fun k => k ≠ b6 ∧ k ≠ b7) hKT (fun k o hk _ _ => ⟨by omega, by omega⟩) ⟨x, rfl, .inr ⟨rfl, hkx, (Keep.of_ext hEA).trans hKT, _, hB6T, hB7T, hFB2.mono (by omega)⟩⟩
  · rintro B xs W hBB hs ⟨rfl, hEW⟩ hk
    refine nx_block ?_
    refine nx_then ?_
    refine wc_seq ?_
    refine wc_region ?_
    refine wl_val hW rfl rfl x_build0 ?_
    refine wl_storeA hW rfl ag25 rfl rfl rfl rfl (hB6.ext hEW) rfl ?_
    intro wS hB6S hkS
    refine wl_store hW rfl fl4 rfl rfl rfl ((hB7.ext hEW).keep hkS n7_6) rfl ?_
    intro wT hB7T hkT
    have hB6T := hB6S.keep hkT n7_6.symm
    have hBlt := (Array.getElem?_eq_some_iff.1 hk).1
    have hk2 : wT.heap[B]? = some (.deferred (some [])) := (hkT.block B (by have := hkS.size; omega) (by omega)).trans ((hkS.block B hBlt (by omega)).trans hk)
    have hxT := Keep.nc (((hEG.trans hEW).store hkS g6).store hkT g7) (nc_put hk2 hBB) hsz
    refine wl_nil ?_
    refine nx_then ?_
    refine wc_ret ?_
    exact ends_ret_mark hk2 (res_cell2 Try.results36 rfl (run_loadVar_cells ag25 (hB6T.nc (nc_put hk2 hBB)).cells rfl) rfl (run_loadVar_cell fl4 ((hB7T.nc (nc_put hk2 hBB)).cell (o := 0) rfl))) ⟨.inr ⟨gotN_nil (by simpa using hs.symm), rfl⟩, hxT⟩
  · rintro B c pre W hBB hSp ⟨x, rfl, h⟩ hk
    rcases h with ⟨rfl, hne, hEW⟩ | ⟨rfl, heq, hKW, bv', hB6W, hB7W, hFB⟩
    · refine wc_exit ?_
      refine nx_block_exit ?_
      refine nx_then ?_
      refine wc_seq ?_
      refine wc_region ?_
      refine wl_val hW rfl rfl x_build0 ?_
      refine wl_storeA hW rfl ag25 rfl rfl rfl rfl (hB6.ext hEW) rfl ?_
      intro wS hB6S hkS
      refine wl_store hW rfl fl4 rfl rfl rfl ((hB7.ext hEW).keep hkS n7_6) rfl ?_
      intro wT hB7T hkT
      have hB6T := hB6S.keep hkT n7_6.symm
      have hBlt := (Array.getElem?_eq_some_iff.1 hk).1
      have hk2 : wT.heap[B]? = some (.deferred (some [])) := (hkT.block B (by have := hkS.size; omega) (by omega)).trans ((hkS.block B hBlt (by omega)).trans hk)
      have hxT := Keep.nc (((hEG.trans hEW).store hkS g6).store hkT g7) (nc_put hk2 hBB) hsz
      refine wl_nil ?_
      refine nx_then ?_
      refine wc_ret ?_
      exact ends_ret_mark hk2 (res_cell2 Try.results36 rfl (run_loadVar_cells ag25 (hB6T.nc (nc_put hk2 hBB)).cells rfl) rfl (run_loadVar_cell fl4 ((hB7T.nc (nc_put hk2 hBB)).cell (o := 0) rfl))) ⟨.inr ⟨by rw [gotN_cons hSp, if_neg hne], rfl⟩, hxT⟩
    · refine wc_ret ?_
      refine nx_block_ret ?_
      refine nx_then_ret ?_
      have hxW : Ext w W := ⟨hKW.os.trans hEG.os, hKW.tape.trans hEG.tape, hKW.output.trans hEG.output, Nat.le_trans hEG.size hKW.size, fun k hk' _ => (hKW.block k (Nat.lt_of_lt_of_le hk' hEG.size) ⟨by omega, by omega⟩).trans (hEG.block k hk' trivial)⟩
      exact ends_ret_mark hk (res_cell2 Try.results36 rfl (run_loadVar_cells ag25 (hB6W.nc (nc_put hk hBB)).cells rfl) rfl (run_loadVar_cell fl4 ((hB7W.nc (nc_put hk hBB)).cell (o := 0) rfl))) ⟨.inl ⟨x.1, bv', by rw [gotN_cons hSp, if_pos heq], rfl, hFB.nc (nc_put hk hBB)⟩, Keep.nc hxW (nc_put hk hBB) hsz⟩
end Go.Proofs.Ytblbddamebbgaaa.K


/- append to an empty slice leaves all as it was. No program is named here. -/
namespace Go.Proofs.Ytblbddamebbgaaa.K
open Go Go.RowKit
set_option linter.unusedVariables false
set_option linter.unusedSectionVars false
set_option linter.unusedSimpArgs false

section
variable {P : Program} {w : World} {base : Nat} {t ty e : TypeId} {z : Value} {size bytes : Nat}
theorem run_appE (ht : P.underlying t = some (.slice e)) (hin : (P.info? e).map (fun i => (i.zero, i.size, i.bytes)) = some (some z, size, bytes)) (hzs : z.cells.size = size) (hsz : 0 < size)
    {b : Nat} (hB : Blk w b [] e) (hb : base ≤ b) {ad : Option Addr} {m c : Nat} {news : List Value} (hl : news.length = m * size) (hnews : Src w ad news) (h1 : ∀ u ∈ news, u.oneCell' = true)
    (h63 : m ≤ 1099511627776) (hbytes : bytes ≤ 128) :
    ∃ v' w', (Builtin.append_ #[t, t] ty #[.slice (some ⟨b, 0, none⟩) 0 0, .slice ad m c]).run P w = .ok v' w' ∧ w'.ownsRow base e size v' m news ∧ Ext w w' := by
  have hbase : base ≤ w.heap.size := Nat.le_trans hb (Nat.le_of_lt hB.lt)
  have hown := owns_empty (size := size) hB hb
  obtain ⟨v', w', hr, ho, hk, hc⟩ := run_appG (ty := ty) (c := c) ht hin hzs hsz hown hl hnews h1 (by omega) hbytes hbase
  rw [Nat.zero_add, List.nil_append] at ho
  refine ⟨v', w', hr, ho, ?_⟩
  obtain ⟨i0, hi, hz0, hz1, hz2⟩ := info_parts hin
  rcases Nat.eq_zero_or_pos m with hm | hm
  · subst hm
    have hr2 : (Builtin.append_ #[t, t] ty #[.slice (some ⟨b, 0, none⟩) 0 0, .slice ad 0 c]).run P w = .ok (.slice (some ⟨b, 0, none⟩) 0 0) w := by
      cases ad <;> simp [Builtin.append_, run_underlying ht, sizeOf, typeInfo, hi, Builtin.lenOf, Builtin.firstCells, loadCells, loadCellsFrom, storeCells]
    rw [hr2] at hr
    cases hr
    exact Keep.refl _ _
  · obtain ⟨bs, o, rfl, hcell⟩ := hnews (by rintro rfl; have := Nat.mul_pos hm hsz; simp at hl; omega)
    subst hz1
    have hfit := growslice_fits (need := 0 + m) (old := 0) (bytes := i0.bytes) (by omega) (Nat.le_trans (Nat.mul_le_mul (by omega : 0 + m ≤ 1099511627776) (by rw [hz2]; exact hbytes)) (by decide))
    have hg := run_append_grow (P := P) w t ty e i0 z ht hi hz0 ⟨b, 0, none⟩ 0 0 [] (by simp) (fun j v h => by simp at h) ⟨bs, o, none⟩ m c news hl (fun j v h => by rw [add_mk]; exact hcell j v h) (by omega) (by omega) hfit
    rw [hg] at hr
    cases hr
    exact (ext_drew w).trans (ext_alloc _ _)
end
section
variable {F : Fence} {n : Nat} {P : Program} {Q : Exit → Act → World → Prop} {m : Nat} {D : List Deferred} {L : Env} {w w' w0 : World}
variable {ops tail : List Oper} {rest : List Oper} {d : Nat} {ty t e : TypeId} {pos : String} {af : Array Edge} {g : Option (Nat × Bool)} {y : Operand} {K : Env → List (Nat × VP) → Prop} {V : List (Nat × VP)} {z : Value} {size bytes : Nat}
/-- An empty slice, made since w0. -/
def Emp (w0 : World) (e : TypeId) : VP := fun v w => ∃ b, v = .slice (some ⟨b, 0, none⟩) 0 0 ∧ w0.heap.size ≤ b ∧ Blk w b [] e
theorem Emp.stable {e : TypeId} : Stable (Emp w0 e) := fun v w w' ⟨b, h1, h2, h3⟩ hx => ⟨b, h1, h2, h3.ext hx⟩
/-- A row of one's own, made since w0. -/
def Own1 (w0 : World) (e : TypeId) (size k : Nat) (xs : List Value) : VP := fun v w => w.ownsRow w0.heap.size e size v k xs
theorem Own1.stable {e : TypeId} {size k : Nat} {xs : List Value} : Stable (Own1 w0 e size k xs) := fun v w w' h hx => ownsRow_keep h hx fun _ _ => trivial
theorem q_buildEmp (hg : wants L ops g = some true) (hd : Nat.blt d m = true) (hno : at' L d = none) (hu : P.underlying t = some (.slice e)) (hs : Siz P e size) (hz : ∀ w, (zeroValue e).run P w = .ok z w)
    (k : QW F n P m D ops w0 K rest L ((d, Emp w0 e) :: V)) : QW F n P m D ops w0 K (⟨some d, .buildSlice t 0 #[], ty, pos, af, g⟩ :: rest) L V :=
  q_valp Emp.stable hg hd hno (fun w' hw => by
    obtain ⟨b, w'', hx, h1, h2, h3⟩ := x_buildSlice (P := P) (m := m) (D := D) (w := w') (ty := ty) (L := L) (vs := []) (sz := size) (len := 0) (parts := []) hu hs hz rfl rfl rfl (by omega)
    exact ⟨_, w'', hx, ⟨b, rfl, Nat.le_trans hw.size h1, h2⟩, h3⟩) k
theorem q_appendE {s : Nat} {ad : Option Addr} {k2 c : Nat} {news : List Value} (ht : P.underlying t = some (.slice e)) (hin : (P.info? e).map (fun i => (i.zero, i.size, i.bytes)) = some (some z, size, bytes)) (hzs : z.cells.size = size) (hsz : 0 < size)
    (hg : wants L ops g = some true) (hd : Nat.blt d m = true) (hno : at' L d = none) (hV : (s, Emp w0 e) ∈ V) (hlo : s ∈ looks ops ⟨some d, .call ⟨.builtin .append, #[.tmp s, y], #[t, t]⟩, ty, pos, af, g⟩) (hy : ∀ u, ev ((s, u) :: L) y = some (.slice ad k2 c))
    (hl : news.length = k2 * size) (hnews : ∀ w', Ext w0 w' → Src w' ad news) (h1 : ∀ u ∈ news, u.oneCell' = true) (h63 : k2 ≤ 1099511627776) (hbytes : bytes ≤ 128)
    (k : QW F n P m D ops w0 K rest L ((d, Own1 w0 e size k2 news) :: V)) : QW F n P m D ops w0 K (⟨some d, .call ⟨.builtin .append, #[.tmp s, y], #[t, t]⟩, ty, pos, af, g⟩ :: rest) L V :=
  q_valv Own1.stable hg hd hno hV hlo (fun w' u hw ⟨b, hu, hb, hB⟩ => by
    subst hu
    obtain ⟨v', w'', hr, ho, hx⟩ := run_appE (P := P) (ty := ty) (c := c) ht hin hzs hsz hB hb hl (hnews w' hw) h1 h63 hbytes
    refine ⟨v', w'', ⟨nofun, fun _ _ _ _ a h => ?_⟩, ho, hx⟩
    have e1 : a.eval (.tmp s) = .slice (some ⟨b, 0, none⟩) 0 0 := h.ev (x := .tmp s) (by show at' _ _ = _; rw [at_cons, if_pos rfl])
    simp [execOp, resolve, e1, h.ev (hy _), invoke, builtin, hr]) k
theorem Src.ext {ad : Option Addr} {news : List Value} (h : Src w ad news) (hx : Ext w w') : Src w' ad news := fun hne => by
  obtain ⟨b, o, h1, h2⟩ := h hne
  exact ⟨b, o, h1, fun j u hj => hx.cell (h2 j u hj)⟩
/-- Of the values of which something is known, two are looked at. -/
theorem tailm2 {d2 : Nat} {p p2 : VP} (hV : (d, p) ∈ V) (hV2 : (d2, p2) ∈ V) (k : ∀ w' v v2, Ext w0 w' → p v w' → p2 v2 w' → WL F n P Q m D ops tail ((d, v) :: (d2, v2) :: L) w') : Tail F n P Q m D ops tail w0 L V := fun w' hw L' hv hs => by
  obtain ⟨v, h1, h2⟩ := hv (d, p) hV
  obtain ⟨v2, h3, h4⟩ := hv (d2, p2) hV2
  exact wl_sub (sub_cons h1 (sub_cons h3 hs)) (k w' v v2 hw h2 h4)
end
end Go.Proofs.Ytblbddamebbgaaa.K

/- The document's table: how it lies in memory, what its Put turns. -/
namespace Go.Proofs.Ytblbddamebbgaaa.K
open Go Go.RowKit
set_option linter.unusedVariables false
set_option linter.unusedSectionVars false
set_option linter.unusedSimpArgs false

theorem flat_append : ∀ (es es2 : List Ent) (bvs bvs2 : List Value), bvs.length = es.length → flat (es ++ es2) (bvs ++ bvs2) = flat es bvs ++ flat es2 bvs2
  | [], es2, [], bvs2, _ => by simp [flat]
  | [], _, _ :: _, _, h => by simp at h
  | _ :: _, _, [], _, h => by simp at h
  | e :: es, es2, b :: bvs, bvs2, h => by simp [flat, flat_append es es2 bvs bvs2 (by simpa using h)]
theorem flat_take : ∀ (es : List Ent) (bvs : List Value) (i : Nat), bvs.length = es.length → (flat es bvs).take (i * 4) = flat (es.take i) (bvs.take i)
  | [], [], i, _ => by simp [flat]
  | [], _ :: _, _, h => by simp at h
  | _ :: _, [], _, h => by simp at h
  | e :: es, b :: bvs, 0, h => by simp [flat]
  | e :: es, b :: bvs, i + 1, h => by
    simp only [flat, List.take_succ_cons]
    rw [show (i + 1) * 4 = (cellsOf e b).length + i * 4 from by simp [cellsOf]; omega, List.take_length_add_append, flat_take es bvs i (by simpa using h)]
theorem flat_drop : ∀ (es : List Ent) (bvs : List Value) (i : Nat), bvs.length = es.length → (flat es bvs).drop (i * 4) = flat (es.drop i) (bvs.drop i)
  | [], [], i, _ => by simp [flat]
  | [], _ :: _, _, h => by simp at h
  | _ :: _, [], _, h => by simp at h
  | e :: es, b :: bvs, 0, h => by simp
  | e :: es, b :: bvs, i + 1, h => by
    simp only [flat, List.drop_succ_cons]
    rw [show (i + 1) * 4 = (cellsOf e b).length + i * 4 from by simp [cellsOf]; omega, List.drop_length_add_append, flat_drop es bvs i (by simpa using h)]
theorem flat_one {A : Nat → Prop} {w : World} : ∀ (es : List Ent) (bvs : List Value), (∀ (i : Nat) (e : Ent) (bv : Value), es[i]? = some e → bvs[i]? = some bv → bv.oneCell' = true) → ∀ u ∈ flat es bvs, u.oneCell' = true
  | [], _, _, u, h => by simp [flat] at h
  | _ :: _, [], _, u, h => by simp [flat] at h
  | e :: es, b :: bvs, hb, u, h => by
    simp only [flat, List.mem_append] at h
    rcases h with h | h
    · have := List.all_eq_true.1 (cells_one (e := e) (hb 0 e b rfl rfl)) u h; exact this
    · exact flat_one (A := A) (w := w) es bvs (fun i e' b' h1 h2 => hb (i + 1) e' b' (by simpa using h1) (by simpa using h2)) u h
section
variable {A : Nat → Prop} {base : Nat} {w w' : World} {ad : Option Addr} {n c : Nat} {es : List Ent} {v : Value}
theorem Src.take {news : List Value} (h : Src w ad news) (k c : Nat) : Src w (if c = 0 then ad else ad.map (·.add (0 * k))) (news.take n) := fun hne => by
  obtain ⟨b, o, h1, h2⟩ := h (by rintro rfl; simp at hne)
  refine ⟨b, o, by split <;> simp [h1, add_mk], fun j u hj => h2 j u ?_⟩
  rw [List.getElem?_take] at hj
  split at hj
  · exact hj
  · cases hj
theorem Src.drop {news : List Value} (h : Src w ad news) {k i : Nat} (hc : c = i → news.drop (i * k) = []) : Src w (if c = i then ad else ad.map (·.add (i * k))) (news.drop (i * k)) := fun hne => by
  obtain ⟨b, o, h1, h2⟩ := h (by rintro rfl; simp at hne)
  refine ⟨b, o + i * k, by rw [if_neg (fun e => hne (hc e)), h1]; simp [add_mk], fun j u hj => ?_⟩
  rw [List.getElem?_drop] at hj
  have := h2 _ _ hj
  rwa [← Nat.add_assoc] at this
theorem own_of_flat {bvs : List Value} (h : w.ownsRow base 25 4 v es.length (flat es bvs)) (hl : bvs.length = es.length) (hb : ∀ (i : Nat) (e : Ent) (bv : Value), es[i]? = some e → bvs[i]? = some bv → Byts A w bv e.v) (hA : ∀ k, k < w.heap.size → A k → some k ≠ v.ownBlock) (hok : ∀ e ∈ es, EntOk e) : OwnE A base w v es :=
  ⟨⟨bvs, hl, h, fun i e bv h1 h2 => (hb i e bv h1 h2).mono fun k hk ha => ⟨ha, hA k hk ha⟩⟩, hok⟩
/-- An element of a row of one's own is turned. -/
theorem OwnE.setAt (h : OwnE A base w (.slice ad n c) es) {i : Nat} (hi : i < es.length) : ∃ g cs, ad = some ⟨g, 0, none⟩ ∧ Blk w g cs 25 ∧ i * 4 + 4 ≤ cs.length ∧ base ≤ g ∧
    ∀ w' e bv, Blk w' g (cs.take (i * 4) ++ cellsOf e bv ++ cs.drop (i * 4 + 4)) 25 → Keep (· ≠ g) w w' → Byts (fun k => A k ∧ k ≠ g) w' bv e.v → EntOk e → OwnE A base w' (.slice ad n c) (es.set i e) := by
  obtain ⟨⟨bvs, h1, h2, h3⟩, h4⟩ := h
  have hfl := flat_len es bvs h1
  rcases h2.2 with ⟨he, h0⟩ | ⟨g, cap, cur, he, hb, hg, hc1, hc2, hc3, hc4⟩
  · omega
  · cases he
    have hcl : cur.toList.length = c * 4 := by simpa using hc3
    refine ⟨g, cur.toList, rfl, by simpa [Blk] using hg, by omega, hb, fun w' e bv hB hk hby hok => ⟨⟨bvs.set i bv, by simpa using h1, ⟨?_, .inr ⟨g, c, (cur.toList.take (i * 4) ++ cellsOf e bv ++ cur.toList.drop (i * 4 + 4)).toArray, ?_, hb, hB, ?_, hc2, ?_, ?_⟩⟩, fun j x b hj hx => ?_⟩, fun x hx => ?_⟩⟩
    · rw [flat_len _ _ (by simpa using h1)]
    · simp
    · simpa using hc1
    · have hl5 : (cellsOf e bv).length = 4 := rfl
      simp only [List.size_toArray, List.length_append, List.length_take, List.length_drop, hl5, Array.length_toList]
      have : cur.size = c * 4 := by simpa using hcl
      omega
    · have e1 : flat (es.set i e) (bvs.set i bv) = (flat es bvs).take (i * 4) ++ cellsOf e bv ++ (flat es bvs).drop (i * 4 + 4) := by
        rw [List.set_eq_take_append_cons_drop, if_pos hi, List.set_eq_take_append_cons_drop, if_pos (by omega), flat_append _ _ _ _ (by simp [h1]), flat_take es bvs i h1, show i * 4 + 4 = (i + 1) * 4 from by omega, flat_drop es bvs (i + 1) h1]
        simp [flat]
      rw [e1, ← hc4, List.take_take, Nat.min_eq_left (by omega), List.drop_take]
      have hl5 : (cellsOf e bv).length = 4 := rfl
      simp only [List.length_set]
      rw [List.take_append, List.take_append]
      simp only [List.length_append, List.length_take, hl5, List.take_take]
      rw [Nat.min_eq_left (by omega : i * 4 ≤ cur.toList.length), Nat.min_eq_right (by omega : i * 4 ≤ es.length * 4), List.take_of_length_le (l := cellsOf e bv) (by rw [hl5]; omega)]
    · by_cases ej : i = j
      · subst ej
        rw [List.getElem?_set_self hi] at hj
        rw [List.getElem?_set_self (by omega)] at hx
        cases hj; cases hx
        exact hby.mono fun k _ h => ⟨h.1, fun e => h.2 (by cases e; rfl)⟩
      · rw [List.getElem?_set_ne ej] at hj hx
        exact (h3 j x b hj hx).ck (CK.of_keep hk fun k _ h e => h.2 (by rw [e]; rfl))
    · rcases List.mem_or_eq_of_mem_set hx with hx | rfl
      · exact h4 x hx
      · exact hok
end
/-- What the document's table holds. -/
structure Rd where
  br : Nat
  dv : Value
  lv : Value
  hv : Value
  ds : List Int
  L : List Ent
  hs : List Nat
  came : Nat
def natCells (hs : List Nat) : List Value := hs.map fun h => .int .i64 ((h : Nat) : Int)
theorem natCells_one {hs : List Nat} : ∀ u ∈ natCells hs, u.oneCell' = true := fun u hu => by
  simp only [natCells, List.mem_map] at hu; obtain ⟨z, -, rfl⟩ := hu; rfl
theorem natCells_len (hs : List Nat) : (natCells hs).length = hs.length := by simp [natCells]
/-- How it lies: D: where the draws lie; A: where the values lie. -/
structure RefT (D A : Nat → Prop) (w : World) (r : Rd) : Prop where
  tb : Blk w r.br [r.dv, r.lv, r.hv, .int .i64 ((r.came : Nat) : Int)] 53
  dr : IRow (fun k => D k ∧ k ≠ r.br) w r.dv r.ds
  ll : OwnE A 0 w r.lv r.L
  hh : w.ownsRow 0 3 1 r.hv r.hs.length (natCells r.hs)
  nb : ∀ k, A k → k ≠ r.br
section
variable {D A : Nat → Prop} {w w' : World} {r : Rd}
theorem RefT.keep {S : Nat → Prop} (h : RefT D A w r) (hk : Keep S w w') (h1 : S r.br) (h2 : ∀ b, r.lv.ownBlock = some b → S b) (h3 : ∀ b, r.hv.ownBlock = some b → S b) (hD : ∀ k, k < w.heap.size → D k → S k) (hA : ∀ k, k < w.heap.size → A k → S k) : RefT D A w' r :=
  ⟨h.tb.keep hk h1, h.dr.ck (CK.of_keep hk fun k hk' h => hD k hk' h.1), h.ll.keep hk h2 hA, ownsRow_keep h.hh hk h3, h.nb⟩
theorem RefT.ext (h : RefT D A w r) (hx : Ext w w') : RefT D A w' r := h.keep hx trivial (fun _ _ => trivial) (fun _ _ => trivial) (fun _ _ _ => trivial) (fun _ _ _ => trivial)
theorem OwnE.monoA {A' : Nat → Prop} {base : Nat} {v : Value} {es : List Ent} (h : OwnE A base w v es) (hA : ∀ k, k < w.heap.size → A k → A' k) : OwnE A' base w v es := by
  obtain ⟨⟨bvs, h1, h2, h3⟩, h4⟩ := h
  exact ⟨⟨bvs, h1, h2, fun i e bv hi hj => (h3 i e bv hi hj).mono fun k hk h => ⟨hA k hk h.1, h.2⟩⟩, h4⟩
theorem RefT.mono {A' : Nat → Prop} (h : RefT D A w r) (hA : ∀ k, k < w.heap.size → A k → A' k) (hb : ∀ k, A' k → k ≠ r.br) : RefT D A' w r := ⟨h.tb, h.dr, h.ll.monoA hA, h.hh, hb⟩
theorem RefT.bound (h : RefT D A w r) : RefT D (fun k => A k ∧ k < w.heap.size) w r := h.mono (fun k hk ha => ⟨ha, hk⟩) fun k hk => h.nb k hk.1
theorem RefT.lv_ne (h : RefT D A w r) {b b' : Nat} {cs : List Value} {T : TypeId} (hb : r.lv.ownBlock = some b) (hB : Blk w b' cs T) (hT : T ≠ 25) : b ≠ b' := h.ll.ne hB hT b hb
theorem RefT.hv_ne (h : RefT D A w r) {b b' : Nat} {cs : List Value} {T : TypeId} (hb : r.hv.ownBlock = some b) (hB : Blk w b' cs T) (hT : T ≠ 3) : b ≠ b' := by
  obtain ⟨-, cs', h2⟩ := ownsRow_blk h.hh hb
  exact h2.ne hB (fun e => hT e.symm)
/-- The first p versions, no others, stand before e. -/
structure BelowL (L : List Ent) (e : Ent) (p : Nat) : Prop where
  le : p ≤ L.length
  lo : ∀ (j : Nat) (h : j < L.length), j < p → ltE L[j] e
  hi : ∀ h : p < L.length, ¬ ltE L[p] e
def hitL (L : List Ent) (e : Ent) (p : Nat) : Bool := match L[p]? with
  | some x => decide (cmpE x e = 0)
  | none => false
theorem hitL_some {L : List Ent} {e : Ent} {p : Nat} (h : p < L.length) : hitL L e p = decide (cmpE L[p] e = 0) := by unfold hitL; rw [List.getElem?_eq_getElem h]
theorem hitL_none {L : List Ent} {e : Ent} {p : Nat} (h : ¬ p < L.length) : hitL L e p = false := by unfold hitL; rw [List.getElem?_eq_none (by omega)]
/-- What the document's Put turns. -/
def RPut (r : Rd) (e : Ent) (r' : Rd) : Prop := r'.br = r.br ∧ r'.dv = r.dv ∧ r'.ds = r.ds ∧ ∃ p, BelowL r.L e p ∧
  ((hitL r.L e p = true ∧ r'.L = r.L.set p e ∧ r'.hs = r.hs ∧ r'.came = r.came) ∨
   (hitL r.L e p = false ∧ r'.L = r.L.take p ++ e :: r.L.drop p ∧ r'.hs = r.hs.take p ++ towerN r.ds r.came :: r.hs.drop p ∧ r'.came = r.came + 1))
end
theorem Src.keep {w w' : World} {S : Nat → Prop} {ad : Option Addr} {news : List Value} (h : Src w ad news) (hk : Keep S w w') (hS : ∀ b, ad.map (·.block) = some b → S b) : Src w' ad news := fun hne => by
  obtain ⟨b, o, h1, h2⟩ := h hne
  exact ⟨b, o, h1, fun j u hj => hk.cell (h2 j u hj) (hS b (by rw [h1]; rfl))⟩
theorem src_blk {w : World} {b : Nat} {cs : List Value} {t : TypeId} (h : Blk w b cs t) : Src w (some ⟨b, 0, none⟩) cs := fun _ => ⟨b, 0, rfl, fun j u hj => by rw [Nat.zero_add]; exact h.cell hj⟩
/-- A slice of one struct, made since w0. -/
def One1 (w0 : World) (e : Ent) (bv : Value) : VP := fun u w => ∃ bt, u = .slice (some ⟨bt, 0, none⟩) 1 1 ∧ w0.heap.size ≤ bt ∧ Blk w bt (cellsOf e bv) 25
theorem One1.stable {w0 : World} {e : Ent} {bv : Value} : Stable (One1 w0 e bv) := fun v w w' ⟨bt, h, h2, hB⟩ hx => ⟨bt, h, h2, hB.ext hx⟩
theorem q_buildC {F : Fence} {n m : Nat} {D : List Deferred} {L : Env} {w0 : World} {ops rest : List Oper} {d : Nat} {ty : TypeId} {pos : String} {af : Array Edge} {g : Option (Nat × Bool)} {x : Operand} {K : Env → List (Nat × VP) → Prop} {V : List (Nat × VP)} {e : Ent} {bv : Value} (hg : wants L ops g = some true) (hd : Nat.blt d m = true) (hno : at' L d = none) (hx : ev L x = some (.agg (cellsOf e bv).toArray))
    (k : QW F n Try.prog m D ops w0 K rest L ((d, One1 w0 e bv) :: V)) : QW F n Try.prog m D ops w0 K (⟨some d, .buildSlice 26 1 #[(0, x)], ty, pos, af, g⟩ :: rest) L V :=
  q_valp One1.stable hg hd hno (fun w' hw => by
    obtain ⟨b, w'', hx, h1, h2, h3⟩ := x_buildSlice (P := Try.prog) (m := m) (D := D) (w := w') (ty := ty) (L := L) (vs := [.agg (cellsOf e bv).toArray]) (sz := 4) (len := 1) (parts := [(0, x)]) Try.underlying26 ag25.siz Try.zeroValue25 (by simp only [partsOk, hx]; rfl) rfl rfl (by decide)
    exact ⟨_, w'', hx, ⟨b, rfl, Nat.le_trans hw.size h1, h2⟩, h3⟩) k
theorem natCells_take (hs : List Nat) (i : Nat) : (natCells hs).take i = natCells (hs.take i) := by simp [natCells, List.map_take]
theorem natCells_drop (hs : List Nat) (i : Nat) : (natCells hs).drop i = natCells (hs.drop i) := by simp [natCells, List.map_drop]
theorem ins_all {P : Ent → Value → Prop} {L : List Ent} {bvs : List Value} {p : Nat} {e : Ent} {bv : Value} (hl : bvs.length = L.length) (hp : p ≤ L.length) (h : ∀ (i : Nat) (x : Ent) (b : Value), L[i]? = some x → bvs[i]? = some b → P x b) (he : P e bv) :
    ∀ (i : Nat) (x : Ent) (b : Value), (L.take p ++ e :: L.drop p)[i]? = some x → (bvs.take p ++ bv :: bvs.drop p)[i]? = some b → P x b := by
  intro i x b h1 h2
  have l1 : (L.take p).length = p := by simp; omega
  have l2 : (bvs.take p).length = p := by simp; omega
  rcases Nat.lt_trichotomy i p with hi | hi | hi
  · rw [List.getElem?_append_left (by omega), List.getElem?_take_of_lt hi] at h1 h2
    exact h i x b h1 h2
  · subst hi
    rw [List.getElem?_append_right (by omega), l1, Nat.sub_self] at h1
    rw [List.getElem?_append_right (by omega), l2, Nat.sub_self] at h2
    simp at h1 h2
    subst h1; subst h2; exact he
  · rw [List.getElem?_append_right (by omega), l1, show i - p = (i - p - 1) + 1 from by omega, List.getElem?_cons_succ, List.getElem?_drop] at h1
    rw [List.getElem?_append_right (by omega), l2, show i - p = (i - p - 1) + 1 from by omega, List.getElem?_cons_succ, List.getElem?_drop] at h2
    exact h _ x b h1 h2
theorem flat_ins {L : List Ent} {bvs : List Value} {p : Nat} {e : Ent} {bv : Value} (hl : bvs.length = L.length) (hp : p ≤ L.length) : flat (L.take p ++ e :: L.drop p) (bvs.take p ++ bv :: bvs.drop p) = (flat L bvs).take (p * 4) ++ cellsOf e bv ++ (flat L bvs).drop (p * 4) := by
  rw [flat_append _ _ _ _ (by simp; omega), flat_take _ _ _ hl, flat_drop _ _ _ hl]
  simp [flat]
theorem ins_len {α : Type} {L : List α} {p : Nat} {e : α} (hp : p ≤ L.length) : (L.take p ++ e :: L.drop p).length = L.length + 1 := by simp; omega
theorem natCells_ins {hs : List Nat} {p h : Nat} : natCells (hs.take p ++ h :: hs.drop p) = (natCells hs).take p ++ [.int .i64 ((h : Nat) : Int)] ++ (natCells hs).drop p := by
  simp [natCells, List.map_take, List.map_drop]
end Go.Proofs.Ytblbddamebbgaaa.K

/- Walks: the document's table, its small parts. -/
namespace Go.Proofs.Ytblbddamebbgaaa.K
open Go Go.RowKit
set_option linter.unusedVariables false
set_option linter.unusedSimpArgs false

theorem C33t {A : Nat → Prop} {w : World} {bv : Value} {e : Ent} (hv : Byts A w bv e.v) (hok : EntOk e) : Rt Try.prog 33 [.agg (cellsOf e bv).toArray] w fun r w' => (∃ bv', r = .agg (cellsOf e bv').toArray ∧ FB w.heap.size w' bv' e.v) ∧ Ext w w' := by
  obtain ⟨ad, cap, rfl, hcap⟩ := hv.form
  have hW := hWw
  have hFF := hFw
  have hE : Ext w w := Keep.refl _ _
  refine rt_body Try.func33 rfl Try.ntmps33 rfl ?_
  refine wc_seq ?_
  refine wc_region ?_
  refine wl_box hW rfl rfl rfl rfl ?_
  intro b1 w1 hl1 hB1 hx1
  have g1 : w.heap.size ≤ b1 := Nat.le_trans hE.size hl1
  replace hE := hE.trans hx1
  refine wl_alloc (cs := [.string ⟨#[]⟩, .int .u64 0, .bool false, .slice none 0 0]) hW rfl rfl Try.zeroValue25 rfl ?_
  intro b2 w2 hl2 hB2 hx2
  have g2 : w.heap.size ≤ b2 := Nat.le_trans hE.size hl2
  have n2_1 : b2 ≠ b1 := Nat.ne_of_gt (Nat.lt_of_lt_of_le hB1.lt hl2)
  replace hB1 := hB1.ext hx2
  replace hE := hE.trans hx2
  refine wl_nil ?_
  refine nx_then ?_
  refine wc_seq ?_
  refine wc_region ?_
  refine wl_buildSlice (parts := []) hW rfl rfl Try.underlying23 fl5.siz Try.zeroValue5 rfl rfl rfl (by omega) ?_
  intro b3 w3 hl3 hB3 hx3
  have g3 : w.heap.size ≤ b3 := Nat.le_trans hE.size hl3
  have n3_1 : b3 ≠ b1 := Nat.ne_of_gt (Nat.lt_of_lt_of_le hB1.lt hl3)
  replace hB1 := hB1.ext hx3
  have n3_2 : b3 ≠ b2 := Nat.ne_of_gt (Nat.lt_of_lt_of_le hB2.lt hl3)
  replace hB2 := hB2.ext hx3
  replace hE := hE.trans hx3
  refine wl_val hW rfl rfl (x_fieldAddr Try.underlying25 rfl fl23.siz rfl) ?_
  refine wl_val hW rfl rfl (x_load fl23 rfl (hB1.cell (o := 3) rfl)) ?_
  refine wl_append Try.underlying23 info5 rfl (by decide) hW rfl rfl rfl rfl (owns_empty hB3 (Nat.le_refl _)) (by rw [byteCells_len, Nat.mul_one]) (hv.ext hE).src byteCells_one (by have := hok.v; omega) (by decide) (Nat.le_of_lt hB3.lt) ?_
  intro v6 wA hO hk hc
  rw [Nat.zero_add, List.nil_append] at hO
  have hk' : Keep (· ≠ b3) w3 wA := hk.mono fun k _ h e => h (by cases e; rfl)
  replace hE := hE.store hk' g3
  replace hB1 := hB1.keep hk' n3_1.symm
  replace hB2 := hB2.keep hk' n3_2.symm
  have hF : FB w.heap.size wA v6 e.v := FB.mono (base := b3) hO g3
  obtain ⟨a6, c6, rfl⟩ := hF.form
  refine wl_val hW rfl rfl (x_fieldAddr Try.underlying25 rfl fl23.siz rfl) ?_
  refine wl_store hW rfl fl23 rfl rfl rfl hB1 rfl ?_
  intro wS hBS hkS
  replace hF := hF.keep hkS (fun b hb => hF.ne hb hB1 (by decide))
  replace hB2 := hB2.keep hkS n2_1
  replace hB1 := hBS
  clear hBS
  replace hE := hE.store hkS g1
  refine wl_nil ?_
  refine nx_then ?_
  refine wc_seq ?_
  refine wc_region ?_
  refine wl_val hW rfl rfl (x_loadA ag25 rfl hB1.cells rfl) ?_
  refine wl_storeA hW rfl ag25 rfl rfl rfl rfl hB2 rfl ?_
  intro wS hBS hkS
  replace hF := hF.keep hkS (fun b hb => hF.ne hb hB2 (by decide))
  replace hB1 := hB1.keep hkS n2_1.symm
  replace hB2 := hBS
  clear hBS
  replace hE := hE.store hkS g2
  refine wl_nil ?_
  refine nx_then ?_
  refine wc_ret ?_
  exact ends_ret (res_cell Try.results33 rfl (run_loadVar_cells ag25 hB2.cells rfl)) ⟨⟨_, rfl, hF⟩, hE⟩
theorem C40 {D A : Nat → Prop} {w : World} {r : Rd} (hR : RefT D A w r) (hl : r.hs.length ≤ 1099511627776) : Rt Try.prog 40 [.pointer (some ⟨r.br, 0, none⟩)] w fun v w' => v = .int .i64 (r.hs.foldl max 0 : Nat) ∧ Ext w w' := by
  obtain ⟨ad, c, hhv, -, hsrc, -⟩ := owns_src hR.hh
  have key : ∀ (l : List Nat) (s : Nat) (h : s < l.length), (l.take (s + 1)).foldl max 0 = max ((l.take s).foldl max 0) l[s] := fun l s h => by
    rw [List.take_add_one, List.getElem?_eq_getElem h, List.foldl_append]; rfl
  have hW := hWw
  have hFF := hFw
  have hE : Ext w w := Keep.refl _ _
  refine rt_body Try.func40 rfl Try.ntmps40 rfl ?_
  refine wc_seq ?_
  refine wc_region ?_
  refine wl_val hW rfl rfl (x_assign rfl) ?_
  refine wl_nil ?_
  refine nx_then ?_
  refine wc_seq ?_
  refine wc_region ?_
  refine wl_val hW rfl rfl (x_assign rfl) ?_
  refine wl_nil ?_
  refine nx_then ?_
  refine wc_seq ?_
  refine wc_seq ?_
  refine wc_region ?_
  refine wl_val hW rfl rfl (x_assign rfl) ?_
  refine wl_nil ?_
  refine nx_then ?_
  refine wc_block ?_
  refine wc_loop (σ := Nat) (fun s => [(0, .pointer (some ⟨r.br, 0, none⟩)), (3, .int .i64 ((r.hs.take s).foldl max 0 : Nat)), (4, .int .i64 (s : Nat))]) (fun s w' => s ≤ r.hs.length ∧ Ext w w') (fun s => r.hs.length - s) 0 ?_ ?_ ?_
  · exact ⟨Nat.zero_le _, hE⟩
  · repeat (first | exact sub_nil | refine sub_cons rfl ?_)
  · rintro s wr ⟨hs, hE⟩
    have hRr := hR.ext hE
    have hHC : wr.cell? ⟨r.br, 0 + 2, none⟩ = some (.slice ad r.hs.length c) := by rw [← hhv]; exact hRr.tb.cell (o := 2) rfl
    refine wc_seq ?_
    refine wc_seq ?_
    refine wc_region ?_
    refine wl_val hW rfl rfl (x_move rfl) ?_
    refine wl_val hW rfl rfl (x_move rfl) ?_
    refine wl_val hW rfl rfl (x_nilCheck rfl) ?_
    refine wl_val hW rfl rfl (x_fieldAddr Try.underlying53 rfl fl42.siz rfl) ?_
    refine wl_val hW rfl rfl (x_load fl42 rfl hHC) ?_
    refine wl_val hW rfl rfl (x_len Try.underlying42 rfl) ?_
    refine wl_val hW rfl rfl (x_lss rfl rfl) ?_
    refine wl_nil ?_
    refine nx_then ?_
    refine wc_dec rfl (fun hc => ?_) (fun hc => ?_)
    · refine wc_skip ?_
      refine nx_then ?_
      refine wc_seq ?_
      refine wc_block ?_
      refine wc_seq ?_
      have hlt : s < r.hs.length := by omega
      obtain ⟨b, o, rfl, hcell⟩ := hsrc (by intro e; have := natCells_len r.hs; rw [e] at this; simp at this; omega)
      have hC : wr.cell? ⟨b, o + ((s : Nat) : Int).toNat * 1, none⟩ = some (.int .i64 (r.hs[s] : Nat)) := by have := hE.cell (hcell s (.int .i64 (r.hs[s] : Nat)) (by simp [natCells, hlt])); simpa using this
      refine wc_region ?_
      refine wl_val hW rfl rfl (x_move rfl) ?_
      refine wl_val hW rfl rfl (x_nilCheck rfl) ?_
      refine wl_val hW rfl rfl (x_fieldAddr Try.underlying53 rfl fl42.siz rfl) ?_
      refine wl_val hW rfl rfl (x_load fl42 rfl hHC) ?_
      refine wl_val hW rfl rfl (x_move rfl) ?_
      refine wl_val hW rfl rfl (x_indexAddr Try.underlying42 fl3.siz rfl rfl (by omega) (by omega)) ?_
      refine wl_val hW rfl rfl (x_load fl3 rfl hC) ?_
      refine wl_val hW rfl rfl (x_move rfl) ?_
      refine wl_val hW rfl rfl (x_gtr rfl rfl) ?_
      refine wl_nil ?_
      refine nx_then ?_
      refine wc_cut [(0, .pointer (some ⟨r.br, 0, none⟩)), (3, .int .i64 ((r.hs.take (s + 1)).foldl max 0 : Nat)), (4, .int .i64 (s : Nat))] (fun w' => w' = wr) ?_ ?_
      · refine wc_dec rfl (fun hc => ?_) (fun hc => ?_)
        · refine wc_region ?_
          refine wl_val hW rfl rfl (x_move rfl) ?_
          refine wl_val hW rfl rfl (x_nilCheck rfl) ?_
          refine wl_val hW rfl rfl (x_fieldAddr Try.underlying53 rfl fl42.siz rfl) ?_
          refine wl_val hW rfl rfl (x_load fl42 rfl hHC) ?_
          refine wl_val hW rfl rfl (x_move rfl) ?_
          refine wl_val hW rfl rfl (x_indexAddr Try.underlying42 fl3.siz rfl rfl (by omega) (by omega)) ?_
          refine wl_val hW rfl rfl (x_load fl3 rfl hC) ?_
          refine wl_val hW rfl rfl (x_assign rfl) ?_
          refine wl_nil ?_
          exact nx_cut (by rw [key _ _ hlt, Nat.max_eq_right (by omega)]; repeat (first | exact sub_nil | refine sub_cons rfl ?_)) rfl
        · refine wc_skip ?_
          exact nx_cut (by rw [key _ _ hlt, Nat.max_eq_left (by omega)]; repeat (first | exact sub_nil | refine sub_cons rfl ?_)) rfl
      · rintro w' rfl
        refine nx_block ?_
        refine nx_then ?_
        refine wc_region ?_
        refine wl_val hW rfl rfl (x_move rfl) ?_
        refine wl_val hW rfl rfl (x_inc (s := s) rfl (by omega)) ?_
        refine wl_val hW rfl rfl (x_assign rfl) ?_
        refine wl_nil ?_
        exact nx_next (s + 1) (by omega) ⟨hlt, hE⟩ (by repeat (first | exact sub_nil | refine sub_cons rfl ?_))
    · refine wc_exit ?_
      refine nx_then_exit ?_
      refine nx_then_exit ?_
      refine nx_block_exit ?_
      refine nx_then ?_
      refine wc_seq ?_
      refine wc_region ?_
      refine wl_val hW rfl rfl (x_move rfl) ?_
      refine wl_val hW rfl rfl (x_assign rfl) ?_
      refine wl_nil ?_
      refine nx_then ?_
      refine wc_ret ?_
      exact ends_ret (res_tmp Try.results40 rfl) ⟨by rw [List.take_of_length_le (by omega)], hE⟩
end Go.Proofs.Ytblbddamebbgaaa.K

