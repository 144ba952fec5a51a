/- 'x, y := f(..)' where x is a struct in a block of its own, in a region that draws its order. -/
import Derived.Test.YtiaikajibefieaaTp
namespace Go.Proofs.Ytiaikajibefieaa.K
open Go Go.RowKit
set_option linter.unusedVariables false
set_option linter.unusedSectionVars false
set_option linter.unusedSimpArgs false
/-- A block of structs T that was not there in w5 is written. -/
def StoreN (T : TypeId) (w5 w w' : World) : Prop := ∃ b cs, Blk w b cs T ∧ w5.heap.size ≤ b ∧ Keep (· ≠ b) w w'
/-- The region of such an assignment: the call is operation c. -/
def SX (T : TypeId) (c : Nat) (w5 : World) : Spx := ⟨[c + 5], fun _ w' => Ext w5 w', fun _ w w' => StoreN T w5 w w'⟩
theorem sx_ext {T : TypeId} {c : Nat} {w5 : World} : ∀ ph w w', (SX T c w5).J ph w → Ext w w' → (SX T c w5).J ph w' := fun _ _ _ h hx => Keep.trans h hx
theorem GOwn.storeN {α : Type} {T T' : TypeId} {sz base : Nat} {enc : α → List Value} {w5 w w' : World} {v : Value} {xs : List α} (h : GOwn T sz enc base w v xs) (hT : T' ≠ T) (hs : StoreN T' w5 w w') : GOwn T sz enc base w' v xs := by
  obtain ⟨b, cs, h1, h2, h3⟩ := hs
  exact h.keep h3 fun b' hb' => h.ne hb' h1 hT
section
variable {F : Fence} {n m c sz : Nat} {T : TypeId} {Q : Exit → Act → World → Prop} {D : List Deferred} {L : Env} {w5 : World} {ops tail : List Oper} {i d1 d2 d3 d4 d5 : Nat} {op : Op} {ty1 ty2 ty3 ty4 ty5 ty6 : TypeId} {pos1 pos2 pos3 pos4 pos5 pos6 : String} {af1 af2 af3 af4 af5 af6 : Array Edge} {v4 : Value} {Qc : List Value → World → Prop} {z : Value} {zs : List Value}
theorem qx_getS {f : FuncId} {args : Array Value} (hag : Agg Try.prog T sz) (hz : ∀ w, (zeroValue T).run Try.prog w = .ok z w) (hzc : z.cells = zs.toArray) (hzl : zs.length = sz) (hi : i = c) (hQ1 : ∀ v w w', Qc v w → Ext w w' → Qc v w') (hQ2 : ∀ v w w', Qc v w → StoreN T w5 w w' → Qc v w') (hQ3 : ∀ v w, Qc v w → v.all Value.oneCell' = true ∧ v.length = sz)
    (hm1 : Nat.blt d1 m = true) (hm2 : Nat.blt d2 m = true) (hm3 : Nat.blt d3 m = true) (hm4 : Nat.blt d4 m = true) (hm5 : Nat.blt d5 m = true) (hn1 : at' L d1 = none) (hn2 : at' L d2 = none) (hn3 : at' L d3 = none) (hn5 : at' ((d4, v4) :: L) d5 = none)
    (hne : d1 ≠ d5 ∧ d1 ≠ d3 ∧ d2 ≠ d5 ∧ d2 ≠ d3 ∧ d3 ≠ d5) (hst : ∀ o, ops[c + 5]? = some o → c + 4 ∈ needsL o) (hst2 : ops[c + 5]? = some ⟨none, .store T (.tmp d5) (.tmp d3), ty6, pos6, af6, none⟩)
    (hx : ∀ w', Xc Try.prog m D L op ty1 w' f args w') (hc : ∀ w', Ext w5 w' → CallsIn F (n - 1) Try.prog f args w' (ok1 fun u w'' => (∃ cs, u = .tuple #[.agg cs.toArray, v4] ∧ Qc cs w'') ∧ Ext w' w''))
    (k : ∀ w' b cs, Ext w5 w' → w5.heap.size ≤ b → Blk w' b cs T → Qc cs w' → WL F n Try.prog Q m D ops tail ((d5, .pointer (some ⟨b, 0, none⟩)) :: (d4, v4) :: L) w') :
    QWX (SX T c w5) F n Try.prog m D ops (TailX (SX T c w5) F n Try.prog Q m D ops tail) i
      [⟨some d1, op, ty1, pos1, af1, none⟩, ⟨some d2, .move (.tmp d1), ty2, pos2, af2, none⟩, ⟨some d3, .extract (.tmp d2) 0, ty3, pos3, af3, none⟩, ⟨some d4, .extract (.tmp d2) 1, ty4, pos4, af4, none⟩, ⟨some d5, .alloc T, ty5, pos5, af5, none⟩, ⟨none, .store T (.tmp d5) (.tmp d3), ty6, pos6, af6, none⟩] L [] := by
  subst hi
  let p1 : PVP := fun _ v w => ∃ cs, v = .tuple #[.agg cs.toArray, v4] ∧ Qc cs w
  let p2 : PVP := fun _ v w => ∃ cs, v = .agg cs.toArray ∧ Qc cs w
  let p3 : PVP := fun ph v w => ∃ b cs, v = .pointer (some ⟨b, 0, none⟩) ∧ w5.heap.size ≤ b ∧ cs.length = sz ∧ Blk w b cs T ∧ (ph = 1 → Qc cs w)
  have hns : ∀ j, j < 5 → noSpB (SX T i w5) (i + j) = true := fun j hj => by simp [noSpB, SX]; omega
  have s1 : ∀ j d, StabX (SX T i w5) ops j d p1 := fun j d => ⟨fun ph v w w' ⟨bv, h1, h2⟩ hx => ⟨bv, h1, hQ1 _ _ _ h2 hx⟩, fun k hk _ _ v w w' ⟨bv, h1, h2⟩ hg => ⟨bv, h1, hQ2 _ _ _ h2 hg⟩⟩
  have s2 : ∀ j d, StabX (SX T i w5) ops j d p2 := fun j d => ⟨fun ph v w w' ⟨bv, h1, h2⟩ hx => ⟨bv, h1, hQ1 _ _ _ h2 hx⟩, fun k hk _ _ v w w' ⟨bv, h1, h2⟩ hg => ⟨bv, h1, hQ2 _ _ _ h2 hg⟩⟩
  have at0 : (SX T i w5).at 0 = i + 5 := rfl
  have hlo : ∀ s, s ∈ looks ops ⟨none, .store T (.tmp d5) (.tmp d3), ty6, pos6, af6, none⟩ ↔ s = d5 ∨ s = d3 := fun s => by simp [looks, Op.operands, isTmp]
  have s3 : StabX (SX T i w5) ops (i + 4) d5 p3 := ⟨fun ph v w w' ⟨b, cs, h1, h2, h3, h4, h5⟩ hx => ⟨b, cs, h1, h2, h3, h4.ext hx, fun e => hQ1 _ _ _ (h5 e) hx⟩, fun k hk _ hno => by
    have hk1 : k < 1 := hk
    obtain rfl : k = 0 := by omega
    rw [at0] at hno
    exact absurd ((hlo d5).2 (.inl rfl)) (hno _ hst2)⟩
  refine qx_callp (p := p1) (hns 0 (by omega)) (s1 _ _) rfl hm1 hn1 hx (fun ph w' hJ => hc w' hJ) ?_
  refine qx_valv (p := p1) (q := p1) (s := d1) (hns 1 (by omega)) (s1 _ _) rfl hm2 hn2 (List.mem_cons_self ..) (List.mem_append_left _ (List.mem_filterMap.2 ⟨.tmp d1, by simp [Op.operands], rfl⟩)) (fun ph w' u hJ hu => ⟨u, w', x_move (by show at' _ _ = _; rw [at_cons, if_pos rfl]), hu, Keep.refl _ _⟩) ?_
  refine qx_valv (p := p2) (q := p1) (s := d2) (hns 2 (by omega)) (s2 _ _) rfl hm3 hn3 (List.mem_cons_self ..) (List.mem_append_left _ (List.mem_filterMap.2 ⟨.tmp d2, by simp [Op.operands], rfl⟩)) (fun ph w' u hJ hu => by obtain ⟨cs, rfl, h2⟩ := hu; exact ⟨_, w', x_extract (vs := #[.agg cs.toArray, v4]) (by show at' _ _ = _; rw [at_cons, if_pos rfl]) rfl, ⟨cs, rfl, h2⟩, Keep.refl _ _⟩) ?_
  refine qx_valvc (v := v4) (q := p1) (s := d2) (hns 3 (by omega)) rfl hm4 (List.mem_cons_of_mem _ (List.mem_cons_self ..)) (List.mem_append_left _ (List.mem_filterMap.2 ⟨.tmp d2, by simp [Op.operands], rfl⟩)) (fun ph w' u hJ hu => by obtain ⟨cs, rfl, h2⟩ := hu; exact x_extract (vs := #[.agg cs.toArray, v4]) (by show at' _ _ = _; rw [at_cons, if_pos rfl]) rfl) ?_
  refine qx_alloc (p := p3) (hns 4 (by omega)) s3 rfl hm5 hn5 hz hzc (fun ph w' w'' b hbf hJ hb hB hx => ⟨b, _, rfl, Nat.le_trans (Keep.size hJ) hb, hzl, hB, fun e => by have := hbf 0 Nat.zero_lt_one (fun o ho => hst o ho); omega⟩) ?_
  refine qx_store2 (k := 0) (q := p3) (q2 := p2) (s := d5) (s2 := d3) Nat.zero_lt_one rfl rfl (List.mem_cons_self ..) (List.mem_cons_of_mem _ (List.mem_cons_self ..)) ((hlo _).2 (.inl rfl)) ((hlo _).2 (.inr rfl)) (fun q' hq' hl => ?_) (fun w' u u2 hJ hu hu2 => ?_) ?_
  · rw [hlo] at hl
    simp only [List.mem_cons, List.not_mem_nil, or_false] at hq'
    rcases hq' with rfl | rfl | rfl | rfl
    · exact .inl rfl
    · exact .inr rfl
    · rcases hl with h | h
      · exact absurd h hne.2.2.1
      · exact absurd h hne.2.2.2.1
    · rcases hl with h | h
      · exact absurd h hne.1
      · exact absurd h hne.2.1
  · obtain ⟨b, cs, rfl, h2, h3, h4, h5⟩ := hu
    obtain ⟨bv, rfl, h7⟩ := hu2
    obtain ⟨hone, hbl⟩ := hQ3 _ _ h7
    obtain ⟨w'', h8, h9, h10⟩ := xs_storeA (P := Try.prog) (m := m) (D := D) (L := (d5, .pointer (some ⟨b, 0, none⟩)) :: (d3, .agg bv.toArray) :: (d4, v4) :: L) (ty := ty6) (x := .tmp d5) (y := .tmp d3) (o := 0) hag (by show at' _ _ = _; rw [at_cons, if_pos rfl]) (by show at' _ _ = _; rw [at_cons, if_neg (fun e => hne.2.2.2.2 e.symm), at_cons, if_pos rfl]) hone hbl h4 (by rw [h3, hbl, Nat.zero_add]; exact Nat.ble_eq_true_of_le (Nat.le_refl _))
    have e : cs.take 0 ++ bv ++ cs.drop (0 + bv.length) = bv := by rw [List.take_zero, List.nil_append, List.drop_eq_nil_of_le (by rw [h3, hbl]; omega), List.append_nil]
    rw [e] at h9
    have hsn : StoreN T w5 w' w'' := ⟨b, cs, h4, h2, h10⟩
    exact ⟨w'', h8, Keep.store hJ h10 h2, hsn, ⟨b, _, rfl, h2, hbl, h9, fun _ => hQ2 _ _ _ h7 hsn⟩, ⟨bv, rfl, hQ2 _ _ _ h7 hsn⟩⟩
  · refine qx_nil (tailxm (d := d5) (p := p3) (List.mem_cons_self ..) (fun w' v hJ ⟨b, cs, h1, h2, h3, h4, h5⟩ => ?_))
    subst h1
    exact k w' b cs hJ h2 h4 (h5 rfl)
end
end Go.Proofs.Ytiaikajibefieaa.K
