import Derived.Test.YtblbddamebbgaaaY3
import Derived.ArgAppend
import Derived.Laws.StructEq
/- What picking needs: shapes compared; append to a clipped row. -/
namespace Go.Proofs.Ytblbddamebbgaaa.K
open Go Go.RowKit
set_option linter.unusedVariables false
set_option linter.unusedSectionVars false
set_option linter.unusedSimpArgs false

section
variable {F : Fence} {n : Nat} {Q : Exit → Act → World → Prop} {m : Nat} {D : List Deferred} {L : Env} {w w' : World} {ops rest : List Oper} {d : Nat} {ty t t' e : TypeId} {pos : String} {af : Array Edge} {g : Option (Nat × Bool)} {x y : Operand}
theorem run_eq78 {a b c a' b' c' : Int} (w : World) : (binOp .eql 78 (.agg #[.int .i64 a, .int .i64 b, .int .i64 c]) (.agg #[.int .i64 a', .int .i64 b', .int .i64 c'])).run Try.prog w = .ok (.bool (a == a' && (b == b' && c == c'))) w := by
  have hf := Try.underlying78
  have hff : Try.prog.underlying 78 = some (.struct (Try.prog.fieldsOf 78)) := by unfold Program.fieldsOf; rw [hf]
  rw [run_eql_struct, run_equalIn_agg _ _ _ _ _ hff (by kernel_rfl)]
  unfold Program.fieldsOf
  rw [hf]
  simp [Op.eqFields, part, sizeOf, typeInfo, run_equalIn_int w _ 3 .i64 .i64 _ _ Try.underlying3]
  by_cases h1 : a = a' <;> by_cases h2 : b = b' <;> by_cases h3 : c = c' <;> simp [h1, h2, h3]
theorem x_eq78 {a b c a' b' c' : Int} (hx : ev L x = some (.agg #[.int .i64 a, .int .i64 b, .int .i64 c])) (hy : ev L y = some (.agg #[.int .i64 a', .int .i64 b', .int .i64 c'])) : Xv Try.prog m D L (.binOp .eql 78 x y t') ty w (.bool (a == a' && (b == b' && c == c'))) w :=
  ⟨nofun, fun _ _ _ _ a h => by
    have hm : Try.prog.eqGuardType Try.prog.depth 78 = false := by kernel_rfl
    simp [execOp, h.ev hx, h.ev hy, run_eqGuard_agg (P := Try.prog) w .eql 78 x y _ _ hm, run_eq78]⟩
theorem build78 {a b c : Int} (w : World) : (Instr.build 78 [(0, Value.int .i64 a), (1, Value.int .i64 b), (2, Value.int .i64 c)].toArray).run Try.prog w = .ok (.agg #[.int .i64 a, .int .i64 b, .int .i64 c]) w := by
  simp [Instr.build, run_underlying Try.underlying78, Try.zeroValue78, fl3.siz w]
  rfl
theorem x_build78 {a b c : Int} : Xv Try.prog m D L (.build 78 #[(0, .const (.int .i64 a)), (1, .const (.int .i64 b)), (2, .const (.int .i64 c))]) ty w (.agg #[.int .i64 a, .int .i64 b, .int .i64 c]) w :=
  x_build (parts := [(0, .const (.int .i64 a)), (1, .const (.int .i64 b)), (2, .const (.int .i64 c))]) Try.underlying78 Try.zeroValue78 (pv := [(0, .int .i64 a), (1, .int .i64 b), (2, .int .i64 c)]) (fun a h => rfl) (fun w => build78 w)
theorem build95 {a : Int} (w : World) : (Instr.build 95 [(0, Value.int .i64 a), (2, Value.bool true)].toArray).run Try.prog w = .ok (.agg #[.int .i64 a, .slice none 0 0, .bool true]) w := by
  simp [Instr.build, run_underlying Try.underlying95, Try.zeroValue95, fl3.siz w, fl42.siz w, fl4.siz w]
  rfl
theorem x_build95 {a : Int} (hx : ev L x = some (.int .i64 a)) : Xv Try.prog m D L (.build 95 #[(0, x), (2, .const (.bool true))]) ty w (.agg #[.int .i64 a, .slice none 0 0, .bool true]) w :=
  x_build (parts := [(0, x), (2, .const (.bool true))]) Try.underlying95 Try.zeroValue95 (pv := [(0, .int .i64 a), (2, .bool true)]) (fun a h => by show [(0, a.eval x), (2, Value.bool true)] = _; rw [h.ev hx]) (fun w => build95 w)
theorem build95n (w : World) : (Instr.build 95 #[]).run Try.prog w = .ok (.agg #[.int .i64 0, .slice none 0 0, .bool false]) w := by
  simp [Instr.build, run_underlying Try.underlying95, Try.zeroValue95]
  rfl
theorem x_build95n : Xv Try.prog m D L (.build 95 #[]) ty w (.agg #[.int .i64 0, .slice none 0 0, .bool false]) w :=
  x_build (parts := []) Try.underlying95 Try.zeroValue95 (pv := []) (fun a h => rfl) (fun w => build95n w)
/-- append to a row whose slice is full: another row, or the same where nothing comes behind. -/
theorem wl_appendFull {A B : Nat → Prop} {v1 v2 : Value} {b o nn c2 k2 : Nat} {ad2 : Option Addr} {xs ys : List Tb} (hW : Wd F) (hg : wants L ops g = some true) (hd : Nat.blt d m = true) (hx : ev L x = some v1) (hv1 : v1 = .slice (some ⟨b, o, none⟩) nn nn) (hy : ev L y = some v2) (hv2 : v2 = .slice ad2 k2 c2)
    (h1 : TRow A w v1 xs) (h2 : TRow B w v2 ys) (hl : xs.length + ys.length ≤ 1048576) (h0 : 0 < xs.length)
    (k : ∀ v w', TRow (fun k => A k ∨ w.heap.size ≤ k) w' v (xs ++ ys) → Ext w w' → WL F n Try.prog Q m D ops rest ((d, v) :: L) w') : WL F n Try.prog Q m D ops (⟨some d, .call ⟨.builtin .append, #[x, y], #[80, 80]⟩, ty, pos, af, g⟩ :: rest) L w := by
  subst hv1; subst hv2
  obtain ⟨i0, hi, hz0, hz1, hz2⟩ := info_parts info87
  have e1 : nn = xs.length := by obtain ⟨ad, cap, e, -⟩ := h1; cases e; rfl
  have e2 : k2 = ys.length := by obtain ⟨ad, cap, e, -⟩ := h2; cases e; rfl
  have hs1 := grow_src cellsT_len (by decide) h1
  have hne1 : xs.flatMap cellsT ≠ [] := fun e => by have := congrArg List.length e; rw [gflat_len cellsT_len] at this; simp at this; omega
  obtain ⟨b1, o1, he1, hc1⟩ := hs1 hne1
  cases he1
  by_cases hy0 : ys = []
  · subst hy0
    have hk0 : k2 = 0 := e2
    subst hk0
    refine wl_val hW hg hd (v := .slice (some ⟨b, o, none⟩) nn nn) (w' := w) ⟨nofun, fun _ _ _ _ a h => ?_⟩ (k _ w (by rw [List.append_nil]; exact h1.mono fun k _ h => .inl h) (Keep.refl _ _))
    have hr : (Builtin.append_ #[80, 80] ty #[.slice (some ⟨b, o, none⟩) nn nn, .slice ad2 0 c2]).run Try.prog w = .ok (.slice (some ⟨b, o, none⟩) nn nn) w := by
      cases ad2 with
      | none => simp [Builtin.append_, run_underlying Try.underlying80, sizeOf, typeInfo, hi, Builtin.lenOf, Builtin.firstCells, storeCells]
      | some a2 =>
        have := run_append_room_cells (P := Try.prog) w 80 ty 87 i0 Try.underlying80 hi b o nn nn a2 0 c2 [] (by simp) (by simp) (by simp) (by omega) (by simp) (by simp)
        rw [show w.setCells b (o + nn * i0.size) [] = w from rfl] at this
        exact this
    simp [execOp, resolve, h.ev hx, h.ev hy, invoke, builtin, hr]
  · have hne2 : ys.flatMap cellsT ≠ [] := fun e => by have := congrArg List.length e; rw [gflat_len cellsT_len] at this; exact hy0 (List.eq_nil_of_length_eq_zero (by simp only [List.length_nil] at this; omega))
    obtain ⟨b2, o2, he2, hc2⟩ := grow_src cellsT_len (by decide) h2 hne2
    subst he2
    have hpos : 0 < ys.length := List.length_pos_iff.2 hy0
    obtain ⟨v', w', hr, ho, hg'⟩ := run_append_arg_grows (P := Try.prog) w 80 ty 87 i0 _ 5 56 Try.underlying80 hi hz0 hz1 hz2 rfl (by decide) ⟨b, o, none⟩ nn nn (xs.flatMap cellsT) (by rw [gflat_len cellsT_len, e1]) (fun j u hj => by rw [add_mk]; exact hc1 j u hj) ⟨b2, o2, none⟩ k2 c2 (ys.flatMap cellsT) (by rw [gflat_len cellsT_len, e2]) (fun j u hj => by rw [add_mk]; exact hc2 j u hj) (by omega) (by unfold maxLen; omega) (by omega)
    refine wl_val hW hg hd (v := v') (w' := w') ⟨nofun, fun _ _ _ _ a h => by simp [execOp, resolve, h.ev hx, h.ev hy, invoke, builtin, hr]⟩ (k _ w' ?_ (by have := Keep.grown hg'; exact this.mono fun k _ _ => by simp))
    have ho' : TOwn w.heap.size w' v' (xs ++ ys) := by unfold TOwn; rw [List.length_append, List.flatMap_append, ← e1, ← e2]; exact ho
    exact (ho'.row (by simp; omega)).mono fun k _ h => .inr h
end
/-- May a shape be? -/
def okS (z b t : Int) : Bool := decide (1 ≤ z ∧ z ≤ 100 ∧ 1 ≤ b ∧ b ≤ 1073741824 ∧ 1 ≤ t ∧ t ≤ 67108864)
/-- What a job is. -/
structure Jb where
  l : Int
  ins : List Int
  bot : Bool
/-- Which tables a job takes; what it is. -/
def jobAll (ts : List Tb) (n : Int) (l : List Tb) : List Tb := match l with
  | [] => []
  | t :: _ => l ++ overL ts (n + 1) (stretchL t.a t.z l).1 (stretchL t.a t.z l).2
def lowB (ts : List Tb) (f l : ByteArray) (n : Int) : Nat → Bool
  | 0 => true
  | k + 1 => lowB ts f l n k && (overL ts (n + k) f l).isEmpty
def jobOf (ts : List Tb) (n : Int) (l : List Tb) : Jb := match jobAll ts n l with
  | [] => ⟨n, [], true⟩
  | t :: r => ⟨n, (t :: r).map (·.f), lowB ts (stretchL t.a t.z (t :: r)).1 (stretchL t.a t.z (t :: r)).2 (n + 2) (5 - n).toNat⟩
theorem C93c {A : Nat → Prop} {w : World} {b o n c : Nat} {ts : List Tb} (hR : TRow A w (.slice (some ⟨b, o, none⟩) n c) ts) : Rt Try.prog 93 [.slice (some ⟨b, o, none⟩) n c] w fun r w' => r = .slice (some ⟨b, o, none⟩) n n ∧ Ext w w' :=
  (C93 hR).mono fun r w' ⟨h1, h2⟩ => ⟨by
    have e : (if n = 0 then some (⟨b, o, none⟩ : Addr) else (some (⟨b, o, none⟩ : Addr)).map (·.add (0 * 5))) = some ⟨b, o, none⟩ := by split <;> simp [add_mk]
    rw [h1, e, Nat.sub_zero], h2⟩
theorem TRow.full {A : Nat → Prop} {w : World} {ad : Option Addr} {n c : Nat} {ts : List Tb} (h : TRow A w (.slice ad n c) ts) : TRow A w (.slice ad n n) ts := by
  obtain ⟨ad', cap, e, h1, h2, h3⟩ := h
  cases e
  exact ⟨ad, _, rfl, Nat.le_refl _, h2, h3⟩
theorem lowB_succ {ts : List Tb} {f l : ByteArray} {n : Int} {k : Nat} : lowB ts f l n (k + 1) = (lowB ts f l n k && decide (((overL ts (n + k) f l).length : Int) = 0)) := by
  show (_ && _) = _
  congr 1
  cases overL ts (n + k) f l with
  | nil => rfl
  | cons x xs => simp; omega
theorem map_take_f {ts : List Tb} {s : Nat} (h : s < ts.length) : (ts.take (s + 1)).map (·.f) = (ts.take s).map (·.f) ++ [ts[s].f] := by
  have e : ts.take (s + 1) = ts.take s ++ [ts[s]] := by rw [List.take_add_one, List.getElem?_eq_getElem h]; rfl
  rw [e, List.map_append]; rfl
/-- Numbers collected read as a row. -/
theorem irow_own {base n : Nat} {w : World} {v : Value} {zs : List Int} (h : w.ownsRow base 3 1 v n (intCells zs)) (hl : zs.length ≤ 1099511627776) : IRow (fun k => base ≤ k) w v zs := by
  have hn : n = zs.length := by have := h.1; rw [intCells_len] at this; omega
  subst hn
  obtain ⟨ad, c, rfl, h1, h2, h3⟩ := owns_src h
  refine ⟨ad, c, rfl, hl, fun hne => ?_⟩
  have hne' : intCells zs ≠ [] := fun e => hne (by have := congrArg List.length e; rw [intCells_len] at this; exact List.eq_nil_of_length_eq_zero this)
  obtain ⟨b, o, rfl, hc⟩ := h2 hne'
  exact ⟨b, o, rfl, h3 hne' b rfl, fun i z hi => hc i _ (by simp [intCells, hi])⟩
theorem take_drop_one {ts : List Tb} {i : Nat} (h : i < ts.length) : (ts.take (i + 1)).drop i = [ts[i]] := by
  have e : ts.take (i + 1) = ts.take i ++ [ts[i]] := by rw [List.take_add_one, List.getElem?_eq_getElem h]; rfl
  rw [e, List.drop_append, List.drop_eq_nil_of_le (by simp; omega), List.length_take, Nat.min_eq_left (by omega), Nat.sub_self]
  rfl
/-- How many bytes a level may hold at most. -/
def capN (n : Nat) : Int := 1073741824 * 10 ^ (n - 1)
theorem capN_succ {n : Nat} (h : 1 ≤ n) : capN (n + 1) = capN n * 10 := by
  unfold capN
  obtain ⟨k, rfl⟩ : ∃ k, n = k + 1 := ⟨n - 1, by omega⟩
  rw [Nat.add_sub_cancel, Nat.add_sub_cancel, Int.pow_succ]
  omega
theorem capN_le {n : Nat} (h1 : 1 ≤ n) (h : n ≤ 6) : capN n ≤ 107374182400000 := by
  have : n = 1 ∨ n = 2 ∨ n = 3 ∨ n = 4 ∨ n = 5 ∨ n = 6 := by omega
  rcases this with rfl | rfl | rfl | rfl | rfl | rfl <;> decide
/-- What picking comes to. -/
def Picks (ts : List Tb) (z b t : Int) (is : Bool) (n : Nat) (l : List Tb) : Prop :=
  (is = false ∧ (okS z b t = true → ((levelL ts 0).length : Int) < z)) ∨
  (is = true ∧ okS z b t = true ∧ ((n = 0 ∧ l = levelL ts 0 ∧ z ≤ ((levelL ts 0).length : Int)) ∨ (1 ≤ n ∧ n ≤ 5 ∧ ((levelL ts 0).length : Int) < z ∧ ∃ x ∈ levelL ts (n : Nat), l = [x])))
section
variable {m : Nat} {D : List Deferred} {L : Env} {w : World} {ty : TypeId} {x : Operand}
theorem build87 {f : Int} {a z : ByteArray} (w : World) : (Instr.build 87 [(0, Value.int .i64 f), (2, Value.string a), (3, Value.string z)].toArray).run Try.prog w = .ok (.agg (cellsT ⟨f, 0, a, z, 0⟩).toArray) w := by
  simp [Instr.build, run_underlying Try.underlying87, Try.zeroValue87, fl3.siz w, fl9.siz w]
  rfl
theorem x_build87 {f : Int} {a z : ByteArray} : Xv Try.prog m D L (.build 87 #[(0, .const (.int .i64 f)), (2, .const (.string a)), (3, .const (.string z))]) ty w (.agg (cellsT ⟨f, 0, a, z, 0⟩).toArray) w :=
  x_build (parts := [(0, .const (.int .i64 f)), (2, .const (.string a)), (3, .const (.string z))]) Try.underlying87 Try.zeroValue87 (pv := [(0, .int .i64 f), (2, .string a), (3, .string z)]) (fun a h => rfl) (fun w => build87 w)
theorem build82 {ad : Option Addr} {n c : Nat} (w : World) : (Instr.build 82 [(0, Value.slice ad n c)].toArray).run Try.prog w = .ok (.agg #[.slice ad n c, .int .u64 0, .int .i64 0, .int .i64 0]) w := by
  simp [Instr.build, run_underlying Try.underlying82, Try.zeroValue82, fl80.siz w]
  rfl
theorem x_build82 {ad : Option Addr} {n c : Nat} (hx : ev L x = some (.slice ad n c)) : Xv Try.prog m D L (.build 82 #[(0, x)]) ty w (.agg #[.slice ad n c, .int .u64 0, .int .i64 0, .int .i64 0]) w :=
  x_build (parts := [(0, x)]) Try.underlying82 Try.zeroValue82 (pv := [(0, .slice ad n c)]) (fun a h => by show [(0, a.eval x)] = _; rw [h.ev hx]) build82
end
def kts : List Tb := [⟨1, 0, ⟨#[97]⟩, ⟨#[98]⟩, 0⟩, ⟨2, 0, ⟨#[98]⟩, ⟨#[99]⟩, 0⟩]
theorem kts_lev {n : Int} (h : n ≠ 0) : levelL kts n = [] := by
  simp [levelL, kts, Ne.symm h]
theorem kts_lev0 : levelL kts 0 = kts := by simp [levelL, kts]
theorem kts_over {n : Int} (h : n ≠ 0) (f l : ByteArray) : overL kts n f l = [] := by unfold overL; rw [kts_lev h]; rfl
theorem kts_low (f l : ByteArray) : ∀ k : Nat, lowB kts f l 2 k = true
  | 0 => rfl
  | k + 1 => by rw [lowB_succ, kts_low f l k, kts_over (by omega)]; rfl
theorem kts_job : jobOf kts 0 (levelL kts 0) = ⟨0, [1, 2], true⟩ := by
  rw [kts_lev0]
  have e : jobAll kts 0 kts = kts := by
    show kts ++ overL kts (0 + 1) _ _ = kts
    rw [kts_over (by decide), List.append_nil]
  have h2 : jobOf kts 0 kts = ⟨0, kts.map (·.f), lowB kts (stretchL ⟨#[97]⟩ ⟨#[98]⟩ kts).1 (stretchL ⟨#[97]⟩ ⟨#[98]⟩ kts).2 (0 + 2) (5 - 0 : Int).toNat⟩ := by
    unfold jobOf
    rw [e]
    rfl
  rw [h2]
  have h3 := kts_low (stretchL ⟨#[97]⟩ ⟨#[98]⟩ kts).1 (stretchL ⟨#[97]⟩ ⟨#[98]⟩ kts).2 5
  show (⟨0, _, lowB kts _ _ 2 5⟩ : Jb) = _
  rw [h3]; rfl
theorem kts_pick {is : Bool} {n : Nat} {l : List Tb} (h : Picks kts 2 10 10 is n l) : is = true ∧ n = 0 ∧ l = levelL kts 0 := by
  have hl : (levelL kts 0).length = 2 := by rw [kts_lev0]; rfl
  rcases h with ⟨h1, h2⟩ | ⟨h1, h2, ⟨h3, h4, h5⟩ | ⟨h3, h4, h5, h6⟩⟩
  · have := h2 (by decide); omega
  · exact ⟨h1, h3, h4⟩
  · omega
theorem kts_not {is : Bool} {n : Nat} {l : List Tb} (h : Picks kts 3 10 10 is n l) : is = false := by
  have hl : (levelL kts 0).length = 2 := by rw [kts_lev0]; rfl
  rcases h with ⟨h1, h2⟩ | ⟨h1, h2, ⟨h3, h4, h5⟩ | ⟨h3, h4, h5, x, hx, h6⟩⟩
  · exact h1
  · omega
  · rw [kts_lev (by omega)] at hx; cases hx
theorem town_blk {base b n : Nat} {w : World} {ts : List Tb} (hB : Blk w b (ts.flatMap cellsT) 87) (hn : ts.length = n) (hl : n ≤ 1099511627776) (hb : base ≤ b) : TOwn base w (.slice (some ⟨b, 0, none⟩) n n) ts := by
  subst hn
  refine ⟨gflat_len cellsT_len ts, .inr ⟨b, ts.length, (ts.flatMap cellsT).toArray, rfl, hb, hB, Nat.le_refl _, by unfold maxLen; omega, by rw [List.size_toArray, gflat_len cellsT_len], ?_⟩⟩
  rw [List.take_of_length_le (by rw [gflat_len cellsT_len]; exact Nat.le_refl _)]
theorem kts_sz : ∀ x ∈ kts, 0 ≤ x.s ∧ x.s ≤ 1099511627776 := fun x hx => by
  simp only [kts, List.mem_cons, List.not_mem_nil, or_false] at hx
  rcases hx with rfl | rfl <;> decide
end Go.Proofs.Ytblbddamebbgaaa.K

/- Walks: Check, job. -/
namespace Go.Proofs.Ytblbddamebbgaaa.K
open Go Go.RowKit
set_option linter.unusedVariables false
set_option linter.unusedSimpArgs false

theorem C50 {w : World} {z b t : Int} : Rt Try.prog 50 [.agg #[.int .i64 z, .int .i64 b, .int .i64 t]] w fun r w' => r = .int .i64 (if okS z b t then 0 else 1) ∧ Ext w w' := by
  have hW := hWw
  have hFF := hFw
  have hE : Ext w w := Keep.refl _ _
  refine rt_body Try.func50 rfl Try.ntmps50 rfl ?_
  refine wc_seq ?_
  refine wc_region ?_
  refine wl_box hW rfl rfl rfl rfl ?_
  intro b1 w1 hl1 hB1 hx1
  have g1 : w.heap.size ≤ b1 := Nat.le_trans hE.size hl1
  replace hE := hE.trans hx1
  refine wl_val hW rfl rfl (x_assign rfl) ?_
  refine wl_nil ?_
  refine nx_then ?_
  refine wc_seq ?_
  refine wc_region ?_
  refine wl_val hW rfl rfl x_build78 ?_
  refine wl_val hW rfl rfl x_build78 ?_
  refine wl_alloc (cs := [.int .i64 0, .int .i64 0, .int .i64 0]) hW rfl rfl Try.zeroValue78 rfl ?_
  intro b3 w3 hl3 hB3 hx3
  have g3 : w.heap.size ≤ b3 := Nat.le_trans hE.size hl3
  have n3_1 : b3 ≠ b1 := Nat.ne_of_gt (Nat.lt_of_lt_of_le hB1.lt hl3)
  replace hB1 := hB1.ext hx3
  replace hE := hE.trans hx3
  refine wl_alloc (cs := [.int .i64 0, .int .i64 0, .int .i64 0]) hW rfl rfl Try.zeroValue78 rfl ?_
  intro b4 w4 hl4 hB4 hx4
  have g4 : w.heap.size ≤ b4 := Nat.le_trans hE.size hl4
  have n4_1 : b4 ≠ b1 := Nat.ne_of_gt (Nat.lt_of_lt_of_le hB1.lt hl4)
  replace hB1 := hB1.ext hx4
  have n4_3 : b4 ≠ b3 := Nat.ne_of_gt (Nat.lt_of_lt_of_le hB3.lt hl4)
  replace hB3 := hB3.ext hx4
  replace hE := hE.trans hx4
  refine wl_storeA hW rfl ag78 rfl rfl rfl rfl hB3 rfl ?_
  intro wS hBS hkS
  replace hB1 := hB1.keep hkS n3_1.symm
  replace hB4 := hB4.keep hkS n4_3
  replace hB3 := hBS
  clear hBS
  replace hE := hE.store hkS g3
  refine wl_storeA hW rfl ag78 rfl rfl rfl rfl hB4 rfl ?_
  intro wS hBS hkS
  replace hB1 := hB1.keep hkS n4_1.symm
  replace hB3 := hB3.keep hkS n4_3.symm
  replace hB4 := hBS
  clear hBS
  replace hE := hE.store hkS g4
  refine wl_nil ?_
  refine nx_then ?_
  refine wc_seq ?_
  refine wc_seq ?_
  refine wc_cutE (σ := Bool) (fun u => [(1, .pointer (some ⟨b1, 0, none⟩)), (3, .pointer (some ⟨b3, 0, none⟩)), (4, .pointer (some ⟨b4, 0, none⟩)), (14, .bool u)]) (fun u w' => w' = wS ∧ (u = true → okS z b t = true)) ?_ ?_
  · refine wc_region ?_
    refine wl_val hW rfl rfl (x_loadA ag78 rfl hB1.cells rfl) ?_
    refine wl_val hW rfl rfl (x_loadA ag78 rfl hB3.cells rfl) ?_
    refine wl_val hW rfl rfl (x_eq78 rfl rfl) ?_
    refine wl_val hW rfl rfl (x_move rfl) ?_
    refine wl_bcases (d := 10) rfl (fun hg10 => ?_) (fun hg10 => ?_)
    · refine wl_off hW rfl rfl ?_
      refine wl_off hW rfl rfl ?_
      refine wl_off hW rfl rfl ?_
      refine wl_val hW rfl rfl (x_pickT rfl rfl) ?_
      refine wl_nil ?_
      exact nx_cutE true (by repeat (first | exact sub_nil | refine sub_cons rfl ?_)) ⟨rfl, fun _ => by simp at hg10; unfold okS; exact decide_eq_true (by omega)⟩
    · refine wl_val hW rfl rfl (x_loadA ag78 rfl hB1.cells rfl) ?_
      refine wl_val hW rfl rfl (x_loadA ag78 rfl hB4.cells rfl) ?_
      refine wl_val hW rfl rfl (x_eq78 rfl rfl) ?_
      refine wl_val hW rfl rfl (x_pickF rfl rfl) ?_
      refine wl_nil ?_
      exact nx_cutE (z == 100 && (b == 1073741824 && t == 67108864)) (by repeat (first | exact sub_nil | refine sub_cons rfl ?_)) ⟨rfl, fun h => by simp at h; unfold okS; exact decide_eq_true (by omega)⟩
  · rintro u w' ⟨rfl, hu⟩
    refine nx_then ?_
    refine wc_bool rfl (fun hc => ?_) (fun hc => ?_)
    · refine wc_seq ?_
      refine wc_region ?_
      refine wl_val hW rfl rfl (x_assign rfl) ?_
      refine wl_nil ?_
      refine nx_then ?_
      refine wc_ret ?_
      refine nx_then_ret ?_
      exact ends_ret (res_tmp Try.results50 rfl) ⟨by rw [hu hc]; rfl, hE⟩
    · refine wc_skip ?_
      refine nx_then ?_
      refine wc_seq ?_
      refine wc_seq ?_
      refine wc_cutE (σ := Bool) (fun u => [(54, .bool u)]) (fun u w'' => w'' = w' ∧ u = !okS z b t) ?_ ?_
      · refine wc_region ?_
        refine wl_val hW rfl rfl (x_fieldAddr Try.underlying78 rfl fl3.siz rfl) ?_
        refine wl_val hW rfl rfl (x_load fl3 rfl (hB1.cell (o := 0) rfl)) ?_
        refine wl_val hW rfl rfl (x_fieldAddr Try.underlying78 rfl fl3.siz rfl) ?_
        refine wl_val hW rfl rfl (x_load fl3 rfl (hB3.cell (o := 0) rfl)) ?_
        refine wl_val hW rfl rfl (x_lss rfl rfl) ?_
        refine wl_val hW rfl rfl (x_move rfl) ?_
        refine wl_dcases (d := 20) rfl (fun hg20 => ?_) (fun hg20 => ?_)
        · refine wl_off hW rfl rfl ?_
          refine wl_off hW rfl rfl ?_
          refine wl_off hW rfl rfl ?_
          refine wl_off hW rfl rfl ?_
          refine wl_off hW rfl rfl ?_
          refine wl_val hW rfl rfl (x_pickT rfl rfl) ?_
          refine wl_val hW rfl rfl (x_move rfl) ?_
          refine wl_off hW rfl rfl ?_
          refine wl_off hW rfl rfl ?_
          refine wl_off hW rfl rfl ?_
          refine wl_off hW rfl rfl ?_
          refine wl_off hW rfl rfl ?_
          refine wl_val hW rfl rfl (x_pickT rfl rfl) ?_
          refine wl_val hW rfl rfl (x_move rfl) ?_
          refine wl_off hW rfl rfl ?_
          refine wl_off hW rfl rfl ?_
          refine wl_off hW rfl rfl ?_
          refine wl_off hW rfl rfl ?_
          refine wl_off hW rfl rfl ?_
          refine wl_val hW rfl rfl (x_pickT rfl rfl) ?_
          refine wl_val hW rfl rfl (x_move rfl) ?_
          refine wl_off hW rfl rfl ?_
          refine wl_off hW rfl rfl ?_
          refine wl_off hW rfl rfl ?_
          refine wl_off hW rfl rfl ?_
          refine wl_off hW rfl rfl ?_
          refine wl_val hW rfl rfl (x_pickT rfl rfl) ?_
          refine wl_val hW rfl rfl (x_move rfl) ?_
          refine wl_off hW rfl rfl ?_
          refine wl_off hW rfl rfl ?_
          refine wl_off hW rfl rfl ?_
          refine wl_off hW rfl rfl ?_
          refine wl_off hW rfl rfl ?_
          refine wl_val hW rfl rfl (x_pickT rfl rfl) ?_
          refine wl_nil ?_
          exact nx_cutE true (by repeat (first | exact sub_nil | refine sub_cons rfl ?_)) ⟨rfl, by unfold okS; rw [decide_eq_false (by omega)]; rfl⟩
        · refine wl_val hW rfl rfl (x_fieldAddr Try.underlying78 rfl fl3.siz rfl) ?_
          refine wl_val hW rfl rfl (x_load fl3 rfl (hB1.cell (o := 0) rfl)) ?_
          refine wl_val hW rfl rfl (x_fieldAddr Try.underlying78 rfl fl3.siz rfl) ?_
          refine wl_val hW rfl rfl (x_load fl3 rfl (hB4.cell (o := 0) rfl)) ?_
          refine wl_val hW rfl rfl (x_gtr rfl rfl) ?_
          refine wl_val hW rfl rfl (x_pickF rfl rfl) ?_
          refine wl_val hW rfl rfl (x_move rfl) ?_
          refine wl_dcases (d := 27) rfl (fun hg27 => ?_) (fun hg27 => ?_)
          · refine wl_off hW rfl rfl ?_
            refine wl_off hW rfl rfl ?_
            refine wl_off hW rfl rfl ?_
            refine wl_off hW rfl rfl ?_
            refine wl_off hW rfl rfl ?_
            refine wl_val hW rfl rfl (x_pickT rfl rfl) ?_
            refine wl_val hW rfl rfl (x_move rfl) ?_
            refine wl_off hW rfl rfl ?_
            refine wl_off hW rfl rfl ?_
            refine wl_off hW rfl rfl ?_
            refine wl_off hW rfl rfl ?_
            refine wl_off hW rfl rfl ?_
            refine wl_val hW rfl rfl (x_pickT rfl rfl) ?_
            refine wl_val hW rfl rfl (x_move rfl) ?_
            refine wl_off hW rfl rfl ?_
            refine wl_off hW rfl rfl ?_
            refine wl_off hW rfl rfl ?_
            refine wl_off hW rfl rfl ?_
            refine wl_off hW rfl rfl ?_
            refine wl_val hW rfl rfl (x_pickT rfl rfl) ?_
            refine wl_val hW rfl rfl (x_move rfl) ?_
            refine wl_off hW rfl rfl ?_
            refine wl_off hW rfl rfl ?_
            refine wl_off hW rfl rfl ?_
            refine wl_off hW rfl rfl ?_
            refine wl_off hW rfl rfl ?_
            refine wl_val hW rfl rfl (x_pickT rfl rfl) ?_
            refine wl_nil ?_
            exact nx_cutE true (by repeat (first | exact sub_nil | refine sub_cons rfl ?_)) ⟨rfl, by unfold okS; rw [decide_eq_false (by omega)]; rfl⟩
          · refine wl_val hW rfl rfl (x_fieldAddr Try.underlying78 rfl fl3.siz rfl) ?_
            refine wl_val hW rfl rfl (x_load fl3 rfl (hB1.cell (o := 1) rfl)) ?_
            refine wl_val hW rfl rfl (x_fieldAddr Try.underlying78 rfl fl3.siz rfl) ?_
            refine wl_val hW rfl rfl (x_load fl3 rfl (hB3.cell (o := 1) rfl)) ?_
            refine wl_val hW rfl rfl (x_lss rfl rfl) ?_
            refine wl_val hW rfl rfl (x_pickF rfl rfl) ?_
            refine wl_val hW rfl rfl (x_move rfl) ?_
            refine wl_dcases (d := 34) rfl (fun hg34 => ?_) (fun hg34 => ?_)
            · refine wl_off hW rfl rfl ?_
              refine wl_off hW rfl rfl ?_
              refine wl_off hW rfl rfl ?_
              refine wl_off hW rfl rfl ?_
              refine wl_off hW rfl rfl ?_
              refine wl_val hW rfl rfl (x_pickT rfl rfl) ?_
              refine wl_val hW rfl rfl (x_move rfl) ?_
              refine wl_off hW rfl rfl ?_
              refine wl_off hW rfl rfl ?_
              refine wl_off hW rfl rfl ?_
              refine wl_off hW rfl rfl ?_
              refine wl_off hW rfl rfl ?_
              refine wl_val hW rfl rfl (x_pickT rfl rfl) ?_
              refine wl_val hW rfl rfl (x_move rfl) ?_
              refine wl_off hW rfl rfl ?_
              refine wl_off hW rfl rfl ?_
              refine wl_off hW rfl rfl ?_
              refine wl_off hW rfl rfl ?_
              refine wl_off hW rfl rfl ?_
              refine wl_val hW rfl rfl (x_pickT rfl rfl) ?_
              refine wl_nil ?_
              exact nx_cutE true (by repeat (first | exact sub_nil | refine sub_cons rfl ?_)) ⟨rfl, by unfold okS; rw [decide_eq_false (by omega)]; rfl⟩
            · refine wl_val hW rfl rfl (x_fieldAddr Try.underlying78 rfl fl3.siz rfl) ?_
              refine wl_val hW rfl rfl (x_load fl3 rfl (hB1.cell (o := 1) rfl)) ?_
              refine wl_val hW rfl rfl (x_fieldAddr Try.underlying78 rfl fl3.siz rfl) ?_
              refine wl_val hW rfl rfl (x_load fl3 rfl (hB4.cell (o := 1) rfl)) ?_
              refine wl_val hW rfl rfl (x_gtr rfl rfl) ?_
              refine wl_val hW rfl rfl (x_pickF rfl rfl) ?_
              refine wl_val hW rfl rfl (x_move rfl) ?_
              refine wl_dcases (d := 41) rfl (fun hg41 => ?_) (fun hg41 => ?_)
              · refine wl_off hW rfl rfl ?_
                refine wl_off hW rfl rfl ?_
                refine wl_off hW rfl rfl ?_
                refine wl_off hW rfl rfl ?_
                refine wl_off hW rfl rfl ?_
                refine wl_val hW rfl rfl (x_pickT rfl rfl) ?_
                refine wl_val hW rfl rfl (x_move rfl) ?_
                refine wl_off hW rfl rfl ?_
                refine wl_off hW rfl rfl ?_
                refine wl_off hW rfl rfl ?_
                refine wl_off hW rfl rfl ?_
                refine wl_off hW rfl rfl ?_
                refine wl_val hW rfl rfl (x_pickT rfl rfl) ?_
                refine wl_nil ?_
                exact nx_cutE true (by repeat (first | exact sub_nil | refine sub_cons rfl ?_)) ⟨rfl, by unfold okS; rw [decide_eq_false (by omega)]; rfl⟩
              · refine wl_val hW rfl rfl (x_fieldAddr Try.underlying78 rfl fl3.siz rfl) ?_
                refine wl_val hW rfl rfl (x_load fl3 rfl (hB1.cell (o := 2) rfl)) ?_
                refine wl_val hW rfl rfl (x_fieldAddr Try.underlying78 rfl fl3.siz rfl) ?_
                refine wl_val hW rfl rfl (x_load fl3 rfl (hB3.cell (o := 2) rfl)) ?_
                refine wl_val hW rfl rfl (x_lss rfl rfl) ?_
                refine wl_val hW rfl rfl (x_pickF rfl rfl) ?_
                refine wl_val hW rfl rfl (x_move rfl) ?_
                refine wl_dcases (d := 48) rfl (fun hg48 => ?_) (fun hg48 => ?_)
                · refine wl_off hW rfl rfl ?_
                  refine wl_off hW rfl rfl ?_
                  refine wl_off hW rfl rfl ?_
                  refine wl_off hW rfl rfl ?_
                  refine wl_off hW rfl rfl ?_
                  refine wl_val hW rfl rfl (x_pickT rfl rfl) ?_
                  refine wl_nil ?_
                  exact nx_cutE true (by repeat (first | exact sub_nil | refine sub_cons rfl ?_)) ⟨rfl, by unfold okS; rw [decide_eq_false (by omega)]; rfl⟩
                · refine wl_val hW rfl rfl (x_fieldAddr Try.underlying78 rfl fl3.siz rfl) ?_
                  refine wl_val hW rfl rfl (x_load fl3 rfl (hB1.cell (o := 2) rfl)) ?_
                  refine wl_val hW rfl rfl (x_fieldAddr Try.underlying78 rfl fl3.siz rfl) ?_
                  refine wl_val hW rfl rfl (x_load fl3 rfl (hB4.cell (o := 2) rfl)) ?_
                  refine wl_val hW rfl rfl (x_gtr rfl rfl) ?_
                  refine wl_val hW rfl rfl (x_pickF rfl rfl) ?_
                  refine wl_nil ?_
                  exact nx_cutE (decide ((67108864 : Int) < t)) (by repeat (first | exact sub_nil | refine sub_cons rfl ?_)) ⟨rfl, by unfold okS; by_cases h : (67108864 : Int) < t; (rw [decide_eq_true h, decide_eq_false (by omega)]; rfl); (rw [decide_eq_false h, decide_eq_true (by omega)]; rfl)⟩
      · rintro u w'' ⟨rfl, hu2⟩
        refine nx_then ?_
        refine wc_bool rfl (fun hc => ?_) (fun hc => ?_)
        · refine wc_seq ?_
          refine wc_region ?_
          refine wl_val hW rfl rfl (x_assign rfl) ?_
          refine wl_nil ?_
          refine nx_then ?_
          refine wc_ret ?_
          refine nx_then_ret ?_
          exact ends_ret (res_tmp Try.results50 rfl) ⟨by have : okS z b t = false := (by rw [hc] at hu2; simpa using hu2.symm); rw [this]; rfl, hE⟩
        · refine wc_skip ?_
          refine nx_then ?_
          refine wc_seq ?_
          refine wc_region ?_
          refine wl_val hW rfl rfl (x_assign rfl) ?_
          refine wl_nil ?_
          refine nx_then ?_
          refine wc_ret ?_
          exact ends_ret (res_tmp Try.results50 rfl) ⟨by have : okS z b t = true := (by rw [hc] at hu2; simpa using hu2.symm); rw [this]; rfl, hE⟩
theorem C80 {A A2 : Nat → Prop} {w : World} {tv lv : Value} {ts l' : List Tb} {t0 : Tb} {sq nx wl : Int} {n : Nat} (hR : TRow A w tv ts) (hL : TRow A2 w lv (t0 :: l')) (hn : n ≤ 5) (hts : ts.length ≤ 100000) (hll : (t0 :: l').length ≤ 100000) :
    Rt Try.prog 80 [.agg #[tv, .int .u64 sq, .int .i64 nx, .int .i64 wl], .int .i64 (n : Nat), lv] w fun r w' => (∃ iv, r = .agg [.int .i64 (n : Nat), iv, .bool (jobOf ts n (t0 :: l')).bot].toArray ∧ IRow (fun k => w.heap.size ≤ k) w' iv (jobOf ts n (t0 :: l')).ins) ∧ Ext w w' := by
  obtain ⟨ad, cap, rfl, hcap, hlen⟩ := hR.form
  obtain ⟨bl, ol, cl, rfl, -, -⟩ := hL.at 0 (Nat.zero_lt_succ _)
  replace hR := hR.mono (A' := fun k => k < w.heap.size) fun k hk _ => hk
  replace hL := hL.mono (A' := fun k => k < w.heap.size) fun k hk _ => hk
  have hol : (overL ts ((n + 1 : Nat) : Int) (stretchL t0.a t0.z (t0 :: l')).1 (stretchL t0.a t0.z (t0 :: l')).2).length ≤ ts.length := Nat.le_trans (List.length_filter_le _ _) (levelL_le _ _)
  have hW := hWw
  have hFF := hFw
  have hE : Ext w w := Keep.refl _ _
  refine rt_body Try.func80 rfl Try.ntmps80 rfl ?_
  refine wc_seq ?_
  refine wc_region ?_
  refine wl_box hW rfl rfl rfl rfl ?_
  intro b3 w3 hl3 hB3 hx3
  have g3 : w.heap.size ≤ b3 := Nat.le_trans hE.size hl3
  replace hE := hE.trans hx3
  refine wl_alloc (cs := [.int .i64 0, .slice none 0 0, .bool false]) hW rfl rfl Try.zeroValue95 rfl ?_
  intro b6 w6 hl6 hB6 hx6
  have g6 : w.heap.size ≤ b6 := Nat.le_trans hE.size hl6
  have n6_3 : b6 ≠ b3 := Nat.ne_of_gt (Nat.lt_of_lt_of_le hB3.lt hl6)
  replace hB3 := hB3.ext hx6
  replace hE := hE.trans hx6
  refine wl_nil ?_
  refine nx_then ?_
  refine wc_seq ?_
  refine wc_region ?_
  refine wl_val hW rfl rfl (x_move rfl) ?_
  refine wl_call hW rfl rfl (x_call en92 rfl) ((C92 (hL.ext hE) (Nat.zero_lt_succ _)).inF hFF) ?_
  rintro _ wC ⟨rfl, hxC⟩
  replace hB3 := hB3.ext hxC
  replace hB6 := hB6.ext hxC
  replace hE := hE.trans hxC
  refine wl_val hW rfl rfl (x_move rfl) ?_
  refine wl_val hW rfl rfl (x_extract rfl rfl) ?_
  refine wl_val hW rfl rfl (x_extract rfl rfl) ?_
  refine wl_val hW rfl rfl (x_assign rfl) ?_
  refine wl_val hW rfl rfl (x_assign rfl) ?_
  refine wl_nil ?_
  refine nx_then ?_
  refine wc_seq ?_
  refine wc_draw' 7 hW mixed (by kernel_rfl) (fun w0 hx0 => ?_)
  replace hB3 := hB3.ext hx0
  replace hB6 := hB6.ext hx0
  replace hE := hE.trans hx0
  have hL0 := hL.ext hE
  have hR0 := hR.ext hE
  refine q_val rfl rfl (fun _ hx => x_move rfl) ?_
  refine q_call rfl rfl (fun _ => x_call en93 rfl) (fun w' hx => (C93c (hL0.ext hx)).inF hFF) ?_
  refine q_val rfl rfl (fun _ hx => x_loadA ag82 rfl (hB3.ext hx).cells rfl) ?_
  refine q_val rfl rfl (fun _ hx => x_move rfl) ?_
  refine q_val rfl rfl (fun _ hx => x_inc (s := n) rfl (by omega)) ?_
  refine q_val rfl rfl (fun _ hx => x_move rfl) ?_
  refine q_val rfl rfl (fun _ hx => x_move rfl) ?_
  refine q_nil (tail0 (fun wt hxt => ?_))
  replace hB3 := hB3.ext hxt
  replace hB6 := hB6.ext hxt
  replace hE := hE.trans hxt
  refine wl_call hW rfl rfl (x_call en94 rfl) ((C94 (hR0.ext hxt)).inF hFF) ?_
  rintro ro wC ⟨hRo, hxC⟩
  replace hB3 := hB3.ext hxC
  replace hB6 := hB6.ext hxC
  replace hE := hE.trans hxC
  replace hRo : TRow (fun k => wt.heap.size ≤ k) wC ro (overL ts ((n + 1 : Nat) : Int) (stretchL t0.a t0.z (t0 :: l')).1 (stretchL t0.a t0.z (t0 :: l')).2) := hRo
  obtain ⟨ao, co, rfl, -, -⟩ := hRo.form
  have hLC := TRow.full ((hL0.ext hxt).ext hxC)
  have hszC := hE.size
  refine wl_appendFull hW rfl rfl rfl rfl rfl rfl hLC hRo (by omega) (Nat.zero_lt_succ _) ?_
  intro av wX hAll0 hxX
  replace hB3 := hB3.ext hxX
  replace hB6 := hB6.ext hxX
  replace hE := hE.trans hxX
  obtain ⟨o, ho⟩ : ∃ o, o = overL ts ((n + 1 : Nat) : Int) (stretchL t0.a t0.z (t0 :: l')).1 (stretchL t0.a t0.z (t0 :: l')).2 := ⟨_, rfl⟩
  rw [← ho] at hAll0 hol
  have hjob : jobOf ts n (t0 :: l') = ⟨n, (t0 :: (l' ++ o)).map (·.f), lowB ts (stretchL t0.a t0.z (t0 :: (l' ++ o))).1 (stretchL t0.a t0.z (t0 :: (l' ++ o))).2 ((n : Int) + 2) (5 - n)⟩ := by
    have h5 : (5 - (n : Int)).toNat = 5 - n := by omega
    rw [ho, ← h5]; rfl
  obtain ⟨all, hall⟩ : ∃ all, all = t0 :: (l' ++ o) := ⟨_, rfl⟩
  have hAll : TRow (fun k => k < wX.heap.size) wX av all := by rw [hall]; exact hAll0.mono fun k hk _ => hk
  have hal : all.length ≤ 200000 := by rw [hall]; simp at hol hll ⊢; omega
  have hal0 : 0 < all.length := by rw [hall]; exact Nat.zero_lt_succ _
  have hRX := ((hR0.ext hxt).ext hxC).ext hxX
  rw [← hall] at hjob
  obtain ⟨aa, ca, rfl, hca, -⟩ := hAll.form
  refine wl_val hW rfl rfl (x_assign rfl) ?_
  refine wl_nil ?_
  refine nx_then ?_
  refine wc_seq ?_
  refine wc_region ?_
  refine wl_val hW rfl rfl (x_move rfl) ?_
  refine wl_val hW rfl rfl (x_build95 rfl) ?_
  refine wl_alloc (cs := [.int .i64 0, .slice none 0 0, .bool false]) hW rfl rfl Try.zeroValue95 rfl ?_
  intro b10 w10 hl10 hB10 hx10
  have g10 : w.heap.size ≤ b10 := Nat.le_trans hE.size hl10
  have n10_3 : b10 ≠ b3 := Nat.ne_of_gt (Nat.lt_of_lt_of_le hB3.lt hl10)
  replace hB3 := hB3.ext hx10
  have n10_6 : b10 ≠ b6 := Nat.ne_of_gt (Nat.lt_of_lt_of_le hB6.lt hl10)
  replace hB6 := hB6.ext hx10
  replace hE := hE.trans hx10
  refine wl_storeA hW rfl ag95 rfl rfl rfl rfl hB10 rfl ?_
  intro w5 hBS hkS
  replace hB3 := hB3.keep hkS n10_3.symm
  replace hB6 := hB6.keep hkS n10_6.symm
  replace hB10 := hBS
  clear hBS
  replace hE := hE.store hkS g10
  refine wl_nil ?_
  refine nx_then ?_
  refine wc_seq ?_
  refine wc_seq ?_
  have hE5 := hE
  have hB3s := hB3
  have hB6s := hB6
  have hszX := hx10.size
  have hAllS : TRow (fun k => k < wX.heap.size) w5 (.slice aa all.length ca) all := (hAll.ext hx10).keep hkS fun k _ hk => by omega
  have hRS : TRow (fun k => k < w.heap.size) w5 (.slice ad ts.length cap) ts := (hRX.ext hx10).keep hkS fun k _ hk => by have := hE5.size; omega
  have h10s := hB10.lt
  have hBn : Blk w5 b10 [.int .i64 (n : Nat), .slice none 0 0, .bool true] 95 := hB10
  refine wc_region ?_
  refine wl_val hW rfl rfl (x_move rfl) ?_
  refine wl_val hW rfl rfl (x_len Try.underlying80 rfl) ?_
  refine wl_val hW rfl rfl (x_move rfl) ?_
  refine wl_nil ?_
  refine nx_then ?_
  refine wc_block ?_
  refine wc_loop (σ := Nat) (fun s => [(1, .int .i64 (n : Nat)), (3, .pointer (some ⟨b3, 0, none⟩)), (6, .pointer (some ⟨b6, 0, none⟩)), (9, .slice aa all.length ca), (10, .pointer (some ⟨b10, 0, none⟩)), (30, .slice aa all.length ca), (31, .int .i64 (all.length : Nat)), (32, .int .i64 (s : Nat))]) (fun s w' => (s ≤ all.length ∧ ∃ ov, Blk w' b10 [.int .i64 (n : Nat), ov, .bool true] 95 ∧ w'.ownsRow w5.heap.size 3 1 ov s (intCells ((all.take s).map (·.f)))) ∧ Keep (· ≠ b10) w5 w') (fun s => all.length - s) 0 ?_ ?_ ?_
  · exact ⟨⟨Nat.zero_le _, _, hBn, ⟨rfl, .inl ⟨rfl, rfl⟩⟩⟩, Keep.refl _ _⟩
  · repeat (first | exact sub_nil | refine sub_cons rfl ?_)
  · rintro s wr ⟨⟨hs, ov, hB10, hO⟩, hK⟩
    have hB3 := hB3s.keep hK n10_3.symm
    have hB6 := hB6s.keep hK n10_6.symm
    have hE : Ext w wr := Keep.store hE5 hK g10
    have hAllr := hAllS.keep hK fun k _ hk => by omega
    have hRr := hRS.keep hK fun k _ hk => by omega
    have hszK := hK.size
    have hov1 : ov.oneCell' = true := by obtain ⟨a, c, rfl, -⟩ := owns_src hO; rfl
    have hov10 : ∀ b, ov.ownBlock = some b → b ≠ b10 := fun b hb => by obtain ⟨-, cs, h2⟩ := ownsRow_blk hO hb; exact h2.ne hB10 (by decide)
    refine wc_seq ?_
    refine wc_region ?_
    refine wl_val hW rfl rfl (x_lss rfl rfl) ?_
    refine wl_nil ?_
    refine nx_then ?_
    refine wc_seq ?_
    refine wc_dec rfl (fun hc => ?_) (fun hc => ?_)
    · refine wc_skip ?_
      refine nx_then ?_
      refine wc_seq ?_
      refine wc_block ?_
      refine wc_seq ?_
      refine wc_region ?_
      have hlt : s < all.length := by omega
      obtain ⟨b, oo, cap', e1, hA, hC34⟩ := hAllr.at s hlt
      cases e1
      refine wl_val hW rfl rfl (x_indexAddr Try.underlying80 ag87.siz rfl rfl (by omega) (by omega)) ?_
      refine wl_val hW rfl rfl (x_loadA ag87 rfl hC34 rfl) ?_
      refine wl_alloc (cs := [.int .i64 0, .int .i64 0, .string ⟨#[]⟩, .string ⟨#[]⟩, .int .i64 0]) hW rfl rfl Try.zeroValue87 rfl ?_
      intro b12 w12 hl12 hB12 hx12
      have g12 : w.heap.size ≤ b12 := Nat.le_trans hE.size hl12
      have n12_3 : b12 ≠ b3 := Nat.ne_of_gt (Nat.lt_of_lt_of_le hB3.lt hl12)
      replace hB3 := hB3.ext hx12
      have n12_6 : b12 ≠ b6 := Nat.ne_of_gt (Nat.lt_of_lt_of_le hB6.lt hl12)
      replace hB6 := hB6.ext hx12
      have n12_10 : b12 ≠ b10 := Nat.ne_of_gt (Nat.lt_of_lt_of_le hB10.lt hl12)
      replace hB10 := hB10.ext hx12
      replace hE := hE.trans hx12
      refine wl_storeA hW rfl ag87 rfl rfl (cellsT_one _) rfl hB12 rfl ?_
      intro wS hBS hkS
      replace hB3 := hB3.keep hkS n12_3.symm
      replace hB6 := hB6.keep hkS n12_6.symm
      replace hB10 := hB10.keep hkS n12_10.symm
      replace hB12 := hBS
      clear hBS
      replace hE := hE.store hkS g12
      refine wl_nil ?_
      refine nx_then ?_
      have hO12 : wS.ownsRow w5.heap.size 3 1 ov s (intCells ((all.take s).map (·.f))) := ownsRow_keep (ownsRow_keep hO hx12 fun _ _ => trivial) hkS (fun b hb => by obtain ⟨-, cs, h2⟩ := ownsRow_blk hO hb; have := h2.lt; omega)
      have hK12 : Keep (· ≠ b10) w5 wS := (hK.trans (Keep.of_ext hx12)).then hkS fun k hk h => by omega
      refine wc_region ?_
      refine wl_val hW rfl rfl (x_fieldAddr Try.underlying95 rfl fl42.siz rfl) ?_
      refine wl_val hW rfl rfl (x_load fl42 rfl (hB10.cell (o := 1) rfl)) ?_
      refine wl_val hW rfl rfl (x_fieldAddr Try.underlying87 rfl fl3.siz rfl) ?_
      refine wl_val hW rfl rfl (x_load fl3 rfl (hB12.cell (o := 0) rfl)) ?_
      refine wl_buildSlice (parts := [(0, .tmp 39)]) hW rfl rfl Try.underlying42 fl3.siz Try.zeroValue3 rfl rfl rfl (by omega) ?_
      intro b40 w40 hl40 hB40 hx40
      have g40 : w.heap.size ≤ b40 := Nat.le_trans hE.size hl40
      have n40_3 : b40 ≠ b3 := Nat.ne_of_gt (Nat.lt_of_lt_of_le hB3.lt hl40)
      replace hB3 := hB3.ext hx40
      have n40_6 : b40 ≠ b6 := Nat.ne_of_gt (Nat.lt_of_lt_of_le hB6.lt hl40)
      replace hB6 := hB6.ext hx40
      have n40_10 : b40 ≠ b10 := Nat.ne_of_gt (Nat.lt_of_lt_of_le hB10.lt hl40)
      replace hB10 := hB10.ext hx40
      have n40_12 : b40 ≠ b12 := Nat.ne_of_gt (Nat.lt_of_lt_of_le hB12.lt hl40)
      replace hB12 := hB12.ext hx40
      replace hE := hE.trans hx40
      have hO40 := ownsRow_keep hO12 hx40 fun _ _ => trivial
      have hsz5 := hK12.size
      have hsz40 := hx40.size
      refine wl_append Try.underlying42 info3 rfl (by decide) hW rfl rfl rfl rfl hO40 (show (intCells [all[s].f]).length = 1 * 1 from rfl) (src_blk (show Blk _ _ (intCells [all[s].f]) 3 from hB40)) intCells_one (by omega) (by decide) (by omega) ?_
      intro v41 wA hO41 hkA hcA
      replace hB10 := hB10.keep hkA (fun e => hov10 _ e.symm rfl)
      have hK41 : Keep (· ≠ b10) w5 wA := (hK12.trans (Keep.of_ext hx40)).then hkA fun k hk h e => by have := (ownsRow_blk hO e.symm).1; omega
      have hO1 : v41.oneCell' = true := by obtain ⟨a, c, rfl, -⟩ := owns_src hO41; rfl
      have h41n : ∀ b, v41.ownBlock = some b → b ≠ b10 := fun b hb => by obtain ⟨-, cs, h2⟩ := ownsRow_blk hO41 hb; exact h2.ne hB10 (by decide)
      refine wl_val hW rfl rfl (x_fieldAddr Try.underlying95 rfl fl42.siz rfl) ?_
      refine wl_store hW rfl fl42 rfl rfl hO1 hB10 rfl ?_
      intro wT hBS hkT
      replace hB10 := hBS
      clear hBS
      refine wl_nil ?_
      refine nx_block ?_
      refine nx_then ?_
      refine wc_region ?_
      refine wl_val hW rfl rfl (x_inc (s := s) rfl (by omega)) ?_
      refine wl_val hW rfl rfl (x_move rfl) ?_
      refine wl_nil ?_
      exact nx_next (s + 1) (by omega) ⟨⟨hlt, v41, hB10, by have h9 := ownsRow_keep hO41 hkT (fun b hb => h41n b hb); rw [map_take_f hlt]; unfold intCells at h9 ⊢; rw [List.map_append]; exact h9⟩, hK41.trans hkT⟩ (by repeat (first | exact sub_nil | refine sub_cons rfl ?_))
    · refine wc_exit ?_
      refine nx_then_exit ?_
      refine nx_then_exit ?_
      refine nx_block_exit ?_
      refine nx_then ?_
      refine wc_seq ?_
      have hsl : s = all.length := by omega
      rw [hsl, List.take_length] at hO
      refine wc_region ?_
      refine wl_val hW rfl rfl (x_move rfl) ?_
      refine wl_call hW rfl rfl (x_call en92 rfl) ((C92 hAllr hal0).inF hFF) ?_
      rintro _ w6 ⟨rfl, hxC⟩
      replace hB3 := hB3.ext hxC
      replace hB6 := hB6.ext hxC
      replace hB10 := hB10.ext hxC
      replace hE := hE.trans hxC
      refine wl_val hW rfl rfl (x_move rfl) ?_
      refine wl_val hW rfl rfl (x_extract rfl rfl) ?_
      refine wl_val hW rfl rfl (x_extract rfl rfl) ?_
      refine wl_val hW rfl rfl (x_assign rfl) ?_
      refine wl_val hW rfl rfl (x_assign rfl) ?_
      refine wl_nil ?_
      refine nx_then ?_
      refine wc_seq ?_
      refine wc_seq ?_
      refine wc_region ?_
      refine wl_val hW rfl rfl (x_move rfl) ?_
      refine wl_val hW rfl rfl (x_addn (i := n) (j := 2) rfl rfl (by omega)) ?_
      refine wl_val hW rfl rfl (x_assign rfl) ?_
      refine wl_nil ?_
      refine nx_then ?_
      have hO6 := ownsRow_keep hO hxC fun _ _ => trivial
      have hE6 := hE
      have hB3t := hB3
      have hB6t := hB6
      have hR6 := hRr.ext hxC
      obtain ⟨f1, hf1⟩ : ∃ f1, f1 = (stretchL all[0].a all[0].z all).1 := ⟨_, rfl⟩
      obtain ⟨z1, hz1⟩ : ∃ z1, z1 = (stretchL all[0].a all[0].z all).2 := ⟨_, rfl⟩
      have ha0 : all[0] = t0 := by simp only [hall]; rfl
      have hjob2 : jobOf ts n (t0 :: l') = ⟨n, all.map (·.f), lowB ts f1 z1 ((n : Int) + 2) (5 - n)⟩ := by rw [hjob, hf1, hz1, ha0]
      rw [← hf1, ← hz1]
      refine wc_block ?_
      refine wc_loop (σ := Nat) (fun c => [(3, .pointer (some ⟨b3, 0, none⟩)), (6, .pointer (some ⟨b6, 0, none⟩)), (7, .string f1), (8, .string z1), (10, .pointer (some ⟨b10, 0, none⟩)), (13, .int .i64 ((n + 2 + c : Nat)))]) (fun c w' => (c ≤ 5 - n ∧ Blk w' b10 [.int .i64 (n : Nat), ov, .bool (lowB ts f1 z1 ((n : Int) + 2) c)] 95) ∧ Keep (· ≠ b10) w6 w') (fun c => 5 - n - c) 0 ?_ ?_ ?_
      · exact ⟨⟨Nat.zero_le _, hB10⟩, Keep.refl _ _⟩
      · repeat (first | exact sub_nil | refine sub_cons rfl ?_)
      · rintro c wr2 ⟨⟨hcn, hB10⟩, hK6⟩
        have hB3 := hB3t.keep hK6 n10_3.symm
        have hB6 := hB6t.keep hK6 n10_6.symm
        have hE : Ext w wr2 := Keep.store hE6 hK6 g10
        have hRc := hR6.keep hK6 fun k _ hk => by omega
        refine wc_seq ?_
        refine wc_seq ?_
        refine wc_region ?_
        refine wl_val hW rfl rfl (x_move rfl) ?_
        refine wl_val hW rfl rfl (x_leq rfl rfl) ?_
        refine wl_nil ?_
        refine nx_then ?_
        refine wc_dec rfl (fun hc => ?_) (fun hc => ?_)
        · refine wc_skip ?_
          refine nx_then ?_
          refine wc_seq ?_
          refine wc_block ?_
          have hcast : (((n + 2 + c : Nat)) : Int) = (n : Int) + 2 + (c : Nat) := by omega
          refine wc_cut [(3, .pointer (some ⟨b3, 0, none⟩)), (6, .pointer (some ⟨b6, 0, none⟩)), (7, .string f1), (8, .string z1), (10, .pointer (some ⟨b10, 0, none⟩)), (13, .int .i64 ((n + 2 + c : Nat)))] (fun w' => Blk w' b10 [.int .i64 (n : Nat), ov, .bool (lowB ts f1 z1 ((n : Int) + 2) (c + 1))] 95 ∧ Keep (· ≠ b10) w6 w') ?_ ?_
          · refine wc_region ?_
            refine wl_val hW rfl rfl (x_fieldAddr Try.underlying95 rfl fl4.siz rfl) ?_
            refine wl_val hW rfl rfl (x_load fl4 rfl (hB10.cell (o := 2) rfl)) ?_
            refine wl_val hW rfl rfl (x_move rfl) ?_
            refine wl_bcases (d := 57) rfl (fun hg57 => ?_) (fun hg57 => ?_)
            · refine wl_val hW rfl rfl (x_loadA ag82 rfl hB3.cells rfl) ?_
              refine wl_val hW rfl rfl (x_move rfl) ?_
              refine wl_val hW rfl rfl (x_move rfl) ?_
              refine wl_val hW rfl rfl (x_move rfl) ?_
              refine wl_call hW rfl rfl (x_call en94 rfl) ((C94 hRc).inF hFF) ?_
              rintro ro wC2 ⟨hRo2, hxC⟩
              replace hB3 := hB3.ext hxC
              replace hB6 := hB6.ext hxC
              replace hB10 := hB10.ext hxC
              replace hE := hE.trans hxC
              have hRol : (overL ts (((n + 2 + c : Nat)) : Int) f1 z1).length ≤ 100000 := Nat.le_trans (Nat.le_trans (List.length_filter_le _ _) (levelL_le _ _)) hts
              obtain ⟨ao2, co2, rfl, -, -⟩ := hRo2.form
              refine wl_val hW rfl rfl (x_len Try.underlying80 rfl) ?_
              refine wl_val hW rfl rfl (x_eql rfl rfl) ?_
              refine wl_val hW rfl rfl (x_pickT rfl rfl) ?_
              refine wl_val hW rfl rfl (x_fieldAddr Try.underlying95 rfl fl4.siz rfl) ?_
              refine wl_store hW rfl fl4 rfl rfl rfl hB10 rfl ?_
              intro wS hBS hkS
              replace hB3 := hB3.keep hkS n10_3.symm
              replace hB6 := hB6.keep hkS n10_6.symm
              replace hB10 := hBS
              clear hBS
              replace hE := hE.store hkS g10
              refine wl_nil ?_
              exact nx_cut (by repeat (first | exact sub_nil | refine sub_cons rfl ?_)) ⟨by rw [lowB_succ, hg57, Bool.true_and, ← hcast]; exact hB10, (hK6.trans (Keep.of_ext hxC)).trans hkS⟩
            · refine wl_off hW rfl rfl ?_
              refine wl_off hW rfl rfl ?_
              refine wl_off hW rfl rfl ?_
              refine wl_off hW rfl rfl ?_
              refine wl_off hW rfl rfl ?_
              refine wl_off hW rfl rfl ?_
              refine wl_off hW rfl rfl ?_
              refine wl_val hW rfl rfl (x_pickF rfl rfl) ?_
              refine wl_val hW rfl rfl (x_fieldAddr Try.underlying95 rfl fl4.siz rfl) ?_
              refine wl_store hW rfl fl4 rfl rfl rfl hB10 rfl ?_
              intro wS hBS hkS
              replace hB3 := hB3.keep hkS n10_3.symm
              replace hB6 := hB6.keep hkS n10_6.symm
              replace hB10 := hBS
              clear hBS
              replace hE := hE.store hkS g10
              refine wl_nil ?_
              exact nx_cut (by repeat (first | exact sub_nil | refine sub_cons rfl ?_)) ⟨by rw [lowB_succ, hg57, Bool.false_and]; exact hB10, hK6.trans hkS⟩
          · rintro w' ⟨hB10', hK6'⟩
            refine nx_block ?_
            refine nx_then ?_
            refine wc_region ?_
            refine wl_val hW rfl rfl (x_move rfl) ?_
            refine wl_val hW rfl rfl (x_inc (s := n + 2 + c) rfl (by omega)) ?_
            refine wl_val hW rfl rfl (x_assign rfl) ?_
            refine wl_nil ?_
            exact nx_next (c + 1) (by omega) ⟨⟨by omega, hB10'⟩, hK6'⟩ (by repeat (first | exact sub_nil | refine sub_cons rfl ?_))
        · refine wc_exit ?_
          refine nx_then_exit ?_
          refine nx_then_exit ?_
          refine nx_block_exit ?_
          refine nx_then ?_
          refine wc_seq ?_
          have hcl : c = 5 - n := by omega
          rw [hcl] at hB10
          refine wc_region ?_
          refine wl_val hW rfl rfl (x_loadA ag95 rfl hB10.cells rfl) ?_
          refine wl_storeA hW rfl ag95 rfl rfl (by obtain ⟨a, c, rfl, -⟩ := owns_src hO; rfl) rfl hB6 rfl ?_
          intro wS hBS hkS
          have hOf := ownsRow_keep (ownsRow_keep hO6 hK6 hov10) hkS (fun b hb => by obtain ⟨-, cs, h2⟩ := ownsRow_blk (ownsRow_keep hO6 hK6 hov10) hb; exact h2.ne hB6 (by decide))
          replace hB3 := hB3.keep hkS n6_3.symm
          replace hB10 := hB10.keep hkS n10_6
          replace hB6 := hBS
          clear hBS
          replace hE := hE.store hkS g6
          refine wl_nil ?_
          refine nx_then ?_
          refine wc_ret ?_
          exact ends_ret (res_cell Try.results80 rfl (run_loadVar_cells ag95 hB6.cells rfl)) ⟨⟨ov, by rw [hjob2]; rfl, by rw [hjob2]; exact (irow_own hOf (by rw [List.length_map]; omega)).mono fun k _ hk => by have := hE5.size; omega⟩, hE⟩
theorem C80z {A A2 : Nat → Prop} {w : World} {tv lv : Value} {ts l' : List Tb} {t0 : Tb} {sq nx wl : Int} (hR : TRow A w tv ts) (hL : TRow A2 w lv (t0 :: l')) (hts : ts.length ≤ 100000) (hll : (t0 :: l').length ≤ 100000) :
    Rt Try.prog 80 [.agg #[tv, .int .u64 sq, .int .i64 nx, .int .i64 wl], .int .i64 0, lv] w fun r w' => (∃ iv, r = .agg [.int .i64 0, iv, .bool (jobOf ts 0 (t0 :: l')).bot].toArray ∧ IRow (fun k => w.heap.size ≤ k) w' iv (jobOf ts 0 (t0 :: l')).ins) ∧ Ext w w' := by
  have h := C80 (n := 0) (sq := sq) (nx := nx) (wl := wl) hR hL (Nat.zero_le _) hts hll
  rw [show (((0 : Nat)) : Int) = 0 from rfl] at h
  exact h
end Go.Proofs.Ytblbddamebbgaaa.K


/- Walk: Pick. -/
namespace Go.Proofs.Ytblbddamebbgaaa.K
open Go Go.RowKit
set_option linter.unusedVariables false
set_option linter.unusedSimpArgs false

theorem C54 {A : Nat → Prop} {w : World} {tv : Value} {ts : List Tb} {sq nx wl z b t : Int} (hR : TRow A w tv ts) (hts : ts.length ≤ 100000) (hsz : ∀ x ∈ ts, 0 ≤ x.s ∧ x.s ≤ 1099511627776) :
    Rt Try.prog 54 [.agg #[tv, .int .u64 sq, .int .i64 nx, .int .i64 wl], .agg #[.int .i64 z, .int .i64 b, .int .i64 t]] w fun r w' => (∃ (is : Bool) (n : Nat) (l : List Tb) (jl : Int) (iv : Value) (bot : Bool), r = .tuple #[.agg [.int .i64 jl, iv, .bool bot].toArray, .bool is] ∧ Picks ts z b t is n l ∧ (is = false → jl = 0 ∧ iv = .slice none 0 0 ∧ bot = false) ∧ (is = true → jl = n ∧ bot = (jobOf ts n l).bot ∧ IRow (fun k => w.heap.size ≤ k) w' iv (jobOf ts n l).ins)) ∧ Ext w w' := by
  obtain ⟨ad, cap, rfl, hcap, hlen⟩ := hR.form
  replace hR := hR.mono (A' := fun k => k < w.heap.size) fun k hk _ => hk
  have hlev : ∀ n : Int, ∀ x ∈ levelL ts n, 0 ≤ x.s ∧ x.s ≤ 1099511627776 := fun n x hx => hsz x ((List.mem_filter.1 hx).1)
  have hW := hWw
  have hFF := hFw
  have hE : Ext w w := Keep.refl _ _
  refine rt_body Try.func54 rfl Try.ntmps54 rfl ?_
  refine wc_seq ?_
  refine wc_region ?_
  refine wl_box hW rfl rfl rfl rfl ?_
  intro b2 w2 hl2 hB2 hx2
  have g2 : w.heap.size ≤ b2 := Nat.le_trans hE.size hl2
  replace hE := hE.trans hx2
  refine wl_box hW rfl rfl rfl rfl ?_
  intro b3 w3 hl3 hB3 hx3
  have g3 : w.heap.size ≤ b3 := Nat.le_trans hE.size hl3
  have n3_2 : b3 ≠ b2 := Nat.ne_of_gt (Nat.lt_of_lt_of_le hB2.lt hl3)
  replace hB2 := hB2.ext hx3
  replace hE := hE.trans hx3
  refine wl_alloc (cs := [.int .i64 0, .slice none 0 0, .bool false]) hW rfl rfl Try.zeroValue95 rfl ?_
  intro b4 w4 hl4 hB4 hx4
  have g4 : w.heap.size ≤ b4 := Nat.le_trans hE.size hl4
  have n4_2 : b4 ≠ b2 := Nat.ne_of_gt (Nat.lt_of_lt_of_le hB2.lt hl4)
  replace hB2 := hB2.ext hx4
  have n4_3 : b4 ≠ b3 := Nat.ne_of_gt (Nat.lt_of_lt_of_le hB3.lt hl4)
  replace hB3 := hB3.ext hx4
  replace hE := hE.trans hx4
  refine wl_val hW rfl rfl (x_assign rfl) ?_
  refine wl_nil ?_
  refine nx_then ?_
  refine wc_scope ?_
  refine wc_seq ?_
  refine wc_seq ?_
  refine wc_region ?_
  refine wl_val hW rfl rfl (x_loadA ag78 rfl hB3.cells rfl) ?_
  refine wl_call hW rfl rfl (x_call en50 rfl) ((C50).inF hFF) ?_
  rintro _ wC ⟨rfl, hxC⟩
  replace hB2 := hB2.ext hxC
  replace hB3 := hB3.ext hxC
  replace hB4 := hB4.ext hxC
  replace hE := hE.trans hxC
  refine wl_val hW rfl rfl (x_neq rfl rfl) ?_
  refine wl_nil ?_
  refine nx_then ?_
  refine wc_dec rfl (fun hc => ?_) (fun hc => ?_)
  · refine wc_seq ?_
    refine wc_region ?_
    refine wl_val hW rfl rfl x_build95n ?_
    refine wl_storeA hW rfl ag95 rfl rfl rfl rfl hB4 rfl ?_
    intro wS hBS hkS
    replace hB2 := hB2.keep hkS n4_2.symm
    replace hB3 := hB3.keep hkS n4_3.symm
    replace hB4 := hBS
    clear hBS
    replace hE := hE.store hkS g4
    refine wl_val hW rfl rfl (x_assign rfl) ?_
    refine wl_nil ?_
    refine nx_then ?_
    refine wc_ret ?_
    refine nx_then_ret ?_
    refine nx_scope_ret ?_
    exact ends_ret (res_cell_tmp Try.results54 rfl (run_loadVar_cells ag95 hB4.cells rfl) rfl) ⟨⟨false, 0, [], 0, .slice none 0 0, false, rfl, .inl ⟨rfl, fun h => by rw [h] at hc; exact absurd rfl hc⟩, fun _ => ⟨rfl, rfl, rfl⟩, fun h => by cases h⟩, hE⟩
  · have hok : okS z b t = true := by cases h : okS z b t with | true => rfl | false => rw [h] at hc; exact absurd (by decide) hc
    have hok' := of_decide_eq_true hok
    refine wc_skip ?_
    refine nx_then ?_
    refine wc_seq ?_
    refine wc_seq ?_
    refine wc_region ?_
    refine wl_val hW rfl rfl (x_loadA ag82 rfl hB2.cells rfl) ?_
    refine wl_call hW rfl rfl (x_call en79 rfl) ((C79 (hR.ext hE)).inF hFF) ?_
    rintro lv wC ⟨hO0, hxC⟩
    replace hB2 := hB2.ext hxC
    replace hB3 := hB3.ext hxC
    replace hB4 := hB4.ext hxC
    replace hE := hE.trans hxC
    refine wl_val hW rfl rfl (x_assign rfl) ?_
    refine wl_nil ?_
    refine nx_then ?_
    have hL0 := hO0.row (by have := levelL_le ts 0; omega)
    obtain ⟨a0, c0, rfl, -⟩ := hO0.form
    have hll0 := levelL_le ts 0
    refine wc_seq ?_
    refine wc_region ?_
    refine wl_val hW rfl rfl (x_move rfl) ?_
    refine wl_val hW rfl rfl (x_len Try.underlying80 rfl) ?_
    refine wl_val hW rfl rfl (x_fieldAddr Try.underlying78 rfl fl3.siz rfl) ?_
    refine wl_val hW rfl rfl (x_load fl3 rfl (hB3.cell (o := 0) rfl)) ?_
    refine wl_val hW rfl rfl (x_geq rfl rfl) ?_
    refine wl_nil ?_
    refine nx_then ?_
    refine wc_dec rfl (fun hc => ?_) (fun hc => ?_)
    · refine wc_seq ?_
      have hz0 : z ≤ ((levelL ts 0).length : Int) := hc
      obtain ⟨t0, l', hl0⟩ : ∃ t0 l', levelL ts 0 = t0 :: l' := by cases h : levelL ts 0 with | nil => rw [h] at hz0; simp at hz0; omega | cons x xs => exact ⟨x, xs, rfl⟩
      obtain ⟨v0, hv0⟩ : ∃ v0, v0 = Value.slice a0 (levelL ts 0).length c0 := ⟨_, rfl⟩
      rw [← hv0] at hL0
      rw [hl0, hv0] at hL0
      refine wc_region ?_
      refine wl_val hW rfl rfl (x_loadA ag82 rfl hB2.cells rfl) ?_
      have hRj := hR.ext hE
      have hszc := hE.size
      have h4lt := hB4.lt
      refine wl_val hW rfl rfl (x_move rfl) ?_
      refine wl_call hW rfl rfl (x_call en80 rfl) ((C80z hRj hL0 hts (by rw [← hl0]; omega)).inF hFF) ?_
      rintro _ wJ ⟨⟨iv, rfl, hI⟩, hxC⟩
      replace hB2 := hB2.ext hxC
      replace hB3 := hB3.ext hxC
      replace hB4 := hB4.ext hxC
      replace hE := hE.trans hxC
      have hone : iv.oneCell' = true := by obtain ⟨a, c, rfl, -⟩ := hI.form; rfl
      have hszJ := hE.size
      refine wl_storeA hW rfl ag95 rfl rfl (by simp only [List.all_cons, hone]; rfl) rfl hB4 rfl ?_
      intro wS hBS hkS
      replace hB2 := hB2.keep hkS n4_2.symm
      replace hB3 := hB3.keep hkS n4_3.symm
      replace hB4 := hBS
      clear hBS
      replace hE := hE.store hkS g4
      refine wl_val hW rfl rfl (x_assign rfl) ?_
      refine wl_nil ?_
      refine nx_then ?_
      refine wc_ret ?_
      refine nx_then_ret ?_
      refine nx_scope_ret ?_
      exact ends_ret (res_cell_tmp Try.results54 rfl (run_loadVar_cells ag95 hB4.cells rfl) rfl) ⟨⟨true, 0, levelL ts 0, 0, iv, _, rfl, .inr ⟨rfl, hok, .inl ⟨rfl, rfl, hz0⟩⟩, fun h => (by cases h), fun _ => ⟨rfl, by rw [hl0]; rfl, by rw [hl0]; exact (hI.ck (CK.of_keep hkS fun k _ hk => by omega)).mono fun k _ hk => by omega⟩⟩, hE⟩
    · refine wc_skip ?_
      have hz0 : ((levelL ts 0).length : Int) < z := by have := hc; omega
      refine nx_then ?_
      refine wc_seq ?_
      refine wc_region ?_
      refine wl_val hW rfl rfl (x_fieldAddr Try.underlying78 rfl fl3.siz rfl) ?_
      refine wl_val hW rfl rfl (x_load fl3 rfl (hB3.cell (o := 1) rfl)) ?_
      refine wl_val hW rfl rfl (x_assign rfl) ?_
      refine wl_nil ?_
      refine nx_then ?_
      refine wc_seq ?_
      refine wc_label ?_
      refine nx_then ?_
      refine wc_seq ?_
      refine wc_seq ?_
      refine wc_region ?_
      refine wl_val hW rfl rfl (x_assign rfl) ?_
      refine wl_nil ?_
      refine nx_then ?_
      refine wc_block ?_
      refine wc_loop (σ := Nat × Int) (fun s => [(2, .pointer (some ⟨b2, 0, none⟩)), (4, .pointer (some ⟨b4, 0, none⟩)), (7, .int .i64 s.2), (8, .int .i64 (s.1 : Nat))]) (fun s w' => (1 ≤ s.1 ∧ s.1 ≤ 6 ∧ 1 ≤ s.2 ∧ s.2 ≤ capN s.1) ∧ Ext w w' ∧ Blk w' b2 [.slice ad ts.length cap, .int .u64 sq, .int .i64 nx, .int .i64 wl] 82 ∧ Blk w' b3 [.int .i64 z, .int .i64 b, .int .i64 t] 78 ∧ Blk w' b4 [.int .i64 0, .slice none 0 0, .bool false] 95) (fun s => 6 - s.1) (1, b) ?_ ?_ ?_
      · exact ⟨⟨Nat.le_refl _, by show 1 ≤ 6; omega, by show 1 ≤ b; omega, by show b ≤ capN 1; unfold capN; omega⟩, hE, hB2, hB3, hB4⟩
      · repeat (first | exact sub_nil | refine sub_cons rfl ?_)
      · rintro ⟨n, most⟩ wr ⟨⟨hn1, hn6, hm1, hmc⟩, hE, hB2, hB3, hB4⟩
        replace hn1 : 1 ≤ n := hn1
        replace hn6 : n ≤ 6 := hn6
        replace hm1 : 1 ≤ most := hm1
        replace hmc : most ≤ capN n := hmc
        have hcl := capN_le hn1 hn6
        refine wc_seq ?_
        refine wc_seq ?_
        refine wc_region ?_
        refine wl_val hW rfl rfl (x_move rfl) ?_
        refine wl_val hW rfl rfl (x_leq rfl rfl) ?_
        refine wl_nil ?_
        refine nx_then ?_
        refine wc_dec rfl (fun hc => ?_) (fun hc => ?_)
        · replace hc : ((n : Nat) : Int) ≤ 5 := hc
          refine wc_skip ?_
          refine nx_then ?_
          refine wc_seq ?_
          refine wc_block ?_
          refine wc_seq ?_
          refine wc_region ?_
          refine wl_val hW rfl rfl (x_loadA ag82 rfl hB2.cells rfl) ?_
          refine wl_val hW rfl rfl (x_move rfl) ?_
          refine wl_call hW rfl rfl (x_call en79 rfl) ((C79 (hR.ext hE)).inF hFF) ?_
          rintro lv wC ⟨hO1, hxC⟩
          replace hB2 := hB2.ext hxC
          replace hB3 := hB3.ext hxC
          replace hB4 := hB4.ext hxC
          replace hE := hE.trans hxC
          have hll := levelL_le ts ((n : Nat) : Int)
          have hL1 := hO1.row (Nat.le_trans hll (by omega))
          obtain ⟨a1, c1, rfl, hcc1⟩ := hO1.form
          obtain ⟨L1, hL1e⟩ : ∃ L1, L1 = levelL ts ((n : Nat) : Int) := ⟨_, rfl⟩
          have hLs : ∀ x ∈ L1, 0 ≤ x.s ∧ x.s ≤ 1099511627776 := fun x hx => hlev _ x (by rw [← hL1e]; exact hx)
          rw [← hL1e] at hL1 hll hcc1
          rw [← hL1e]
          refine wl_val hW rfl rfl (x_assign rfl) ?_
          refine wl_nil ?_
          refine nx_then ?_
          refine wc_seq ?_
          refine wc_region ?_
          refine wl_val hW rfl rfl (x_assign rfl) ?_
          refine wl_nil ?_
          refine nx_then ?_
          refine wc_seq ?_
          refine wc_region ?_
          refine wl_val hW rfl rfl (x_assign rfl) ?_
          refine wl_nil ?_
          refine nx_then ?_
          refine wc_seq ?_
          refine wc_seq ?_
          refine wc_region ?_
          refine wl_val hW rfl rfl (x_move rfl) ?_
          refine wl_val hW rfl rfl (x_len Try.underlying80 rfl) ?_
          refine wl_val hW rfl rfl (x_move rfl) ?_
          refine wl_nil ?_
          refine nx_then ?_
          have hszC := hE.size
          refine wc_block ?_
          refine wc_loop (σ := Nat × Int × Nat) (fun s => [(2, .pointer (some ⟨b2, 0, none⟩)), (4, .pointer (some ⟨b4, 0, none⟩)), (7, .int .i64 most), (8, .int .i64 (n : Nat)), (9, .slice a1 L1.length c1), (10, .int .i64 s.2.1), (11, .int .i64 (s.2.2 : Nat)), (37, .slice a1 L1.length c1), (38, .int .i64 (L1.length : Nat)), (39, .int .i64 (s.1 : Nat))]) (fun s w' => ((s.1 ≤ L1.length ∧ 0 ≤ s.2.1 ∧ s.2.1 ≤ most + 1 ∧ (s.1 = 0 → s.2.1 = 0) ∧ s.2.2 ≤ s.1 ∧ (0 < L1.length → s.2.2 < L1.length)) ∧ Ext wC w') ∧ Ext w w' ∧ Blk w' b2 [.slice ad ts.length cap, .int .u64 sq, .int .i64 nx, .int .i64 wl] 82 ∧ Blk w' b3 [.int .i64 z, .int .i64 b, .int .i64 t] 78 ∧ Blk w' b4 [.int .i64 0, .slice none 0 0, .bool false] 95) (fun s => L1.length - s.1) (0, 0, 0) ?_ ?_ ?_
          · exact ⟨⟨⟨Nat.zero_le _, Int.le_refl _, by show (0 : Int) ≤ _; omega, fun _ => rfl, Nat.le_refl _, fun h => h⟩, Keep.refl _ _⟩, hE, hB2, hB3, hB4⟩
          · repeat (first | exact sub_nil | refine sub_cons rfl ?_)
          · rintro ⟨s, sum, best⟩ wr2 ⟨⟨⟨hs, hs0, hs1, hsz0, hbs, hbl⟩, hEC⟩, hE, hB2, hB3, hB4⟩
            replace hs : s ≤ L1.length := hs
            replace hs0 : 0 ≤ sum := hs0
            replace hs1 : sum ≤ most + 1 := hs1
            replace hsz0 : s = 0 → sum = 0 := hsz0
            replace hbs : best ≤ s := hbs
            replace hbl : 0 < L1.length → best < L1.length := hbl
            refine wc_seq ?_
            refine wc_region ?_
            refine wl_val hW rfl rfl (x_lss rfl rfl) ?_
            refine wl_nil ?_
            refine nx_then ?_
            refine wc_seq ?_
            refine wc_dec rfl (fun hc => ?_) (fun hc => ?_)
            · refine wc_skip ?_
              refine nx_then ?_
              refine wc_seq ?_
              refine wc_block ?_
              refine wc_seq ?_
              refine wc_region ?_
              replace hc : ((s : Nat) : Int) < L1.length := hc
              have hlt : s < L1.length := by omega
              have hbl' := hbl (by omega)
              obtain ⟨bb, oo, cap', e1, hA, hC42⟩ := (hL1.ext hEC).at s hlt
              obtain ⟨bb2, oo2, cap2, e2, hA2, hC57⟩ := (hL1.ext hEC).at best hbl'
              rw [e1] at e2
              cases e2
              cases e1
              have hxs := hLs _ (List.getElem_mem hlt)
              have hEC0 := hEC
              refine wl_val hW rfl rfl (x_move rfl) ?_
              refine wl_val hW rfl rfl (x_indexAddr Try.underlying80 ag87.siz rfl rfl (by omega) (by omega)) ?_
              refine wl_val hW rfl rfl (x_loadA ag87 rfl hC42 rfl) ?_
              refine wl_alloc (cs := [.int .i64 0, .int .i64 0, .string ⟨#[]⟩, .string ⟨#[]⟩, .int .i64 0]) hW rfl rfl Try.zeroValue87 rfl ?_
              intro b13 w13 hl13 hB13 hx13
              have g13 : w.heap.size ≤ b13 := Nat.le_trans hE.size hl13
              have n13_2 : b13 ≠ b2 := Nat.ne_of_gt (Nat.lt_of_lt_of_le hB2.lt hl13)
              replace hB2 := hB2.ext hx13
              have n13_3 : b13 ≠ b3 := Nat.ne_of_gt (Nat.lt_of_lt_of_le hB3.lt hl13)
              replace hB3 := hB3.ext hx13
              have n13_4 : b13 ≠ b4 := Nat.ne_of_gt (Nat.lt_of_lt_of_le hB4.lt hl13)
              replace hB4 := hB4.ext hx13
              replace hE := hE.trans hx13
              refine wl_val hW rfl rfl (x_assign rfl) ?_
              refine wl_storeA hW rfl ag87 rfl rfl (cellsT_one _) rfl hB13 rfl ?_
              intro wS hBS hkS
              have hECS : Ext wC wS := Keep.store (hEC.trans hx13) hkS (by have := hEC.size; omega)
              replace hB2 := hB2.keep hkS n13_2.symm
              replace hB3 := hB3.keep hkS n13_3.symm
              replace hB4 := hB4.keep hkS n13_4.symm
              replace hB13 := hBS
              clear hBS
              replace hE := hE.store hkS g13
              refine wl_nil ?_
              refine nx_then ?_
              refine wc_seq ?_
              refine wc_region ?_
              refine wl_val hW rfl rfl (x_move rfl) ?_
              refine wl_val hW rfl rfl (x_fieldAddr Try.underlying87 rfl fl3.siz rfl) ?_
              refine wl_val hW rfl rfl (x_load fl3 rfl (hB13.cell (o := 4) rfl)) ?_
              refine wl_val hW rfl rfl (x_move rfl) ?_
              refine wl_val hW rfl rfl (x_add (i := most) (j := 1) (r := most + 1) rfl rfl (by rw [IntWalk.i64_in _ (by omega)])) ?_
              refine wl_val hW rfl rfl (x_move rfl) ?_
              refine wl_val hW rfl rfl (x_sub (i := most + 1) (j := sum) (r := most + 1 - sum) rfl rfl (by rw [IntWalk.i64_in _ (by omega)])) ?_
              refine wl_val hW rfl rfl (x_min (i := L1[s].s) (j := most + 1 - sum) rfl rfl) ?_
              have hmin : 0 ≤ (if most + 1 - sum < L1[s].s then most + 1 - sum else L1[s].s) ∧ (if most + 1 - sum < L1[s].s then most + 1 - sum else L1[s].s) ≤ most + 1 - sum := by split <;> omega
              refine wl_val hW rfl rfl (x_add (i := sum) (j := if most + 1 - sum < L1[s].s then most + 1 - sum else L1[s].s) (r := sum + (if most + 1 - sum < L1[s].s then most + 1 - sum else L1[s].s)) rfl rfl (by rw [IntWalk.i64_in _ (by omega)])) ?_
              refine wl_val hW rfl rfl (x_assign rfl) ?_
              refine wl_nil ?_
              refine nx_then ?_
              refine wc_seq ?_
              refine wc_draw' 7 hW mixed (by kernel_rfl) (fun w0 hx0 => ?_)
              replace hB2 := hB2.ext hx0
              replace hB3 := hB3.ext hx0
              replace hB4 := hB4.ext hx0
              replace hB13 := hB13.ext hx0
              replace hE := hE.trans hx0
              have hbb2 : bb < wr2.heap.size := World.block_lt_of_cell? _ _ (hC57 0 _ rfl)
              have hC57S := ((hC57.ext hx13).ck (A := (· ≠ b13)) (by intro e; omega) (CK.of_keep hkS fun k _ h => h)).ext hx0
              refine q_val rfl rfl (fun _ hx => x_fieldAddr Try.underlying87 rfl fl3.siz rfl) ?_
              refine q_val rfl rfl (fun _ hx => x_load fl3 rfl (hx.cell (hB13.cell (o := 4) rfl))) ?_
              refine q_val rfl rfl (fun _ hx => x_move rfl) ?_
              refine q_val rfl rfl (fun _ hx => x_move rfl) ?_
              refine q_val rfl rfl (fun _ hx => x_indexAddr (i := ((best : Nat) : Int)) Try.underlying80 ag87.siz rfl rfl (by omega) (by omega)) ?_
              refine q_val rfl rfl (fun _ hx => x_fieldAddr Try.underlying87 rfl fl3.siz rfl) ?_
              refine q_val rfl rfl (fun _ hx => x_load fl3 rfl (hx.cell (hC57S 4 _ rfl))) ?_
              refine q_nil (tail0 (fun wt hxt => ?_))
              replace hB2 := hB2.ext hxt
              replace hB3 := hB3.ext hxt
              replace hB4 := hB4.ext hxt
              replace hB13 := hB13.ext hxt
              replace hE := hE.trans hxt
              refine wl_val hW rfl rfl (x_gtr rfl rfl) ?_
              refine wl_nil ?_
              refine nx_then ?_
              refine wc_dec rfl (fun hc => ?_) (fun hc => ?_)
              · refine wc_region ?_
                refine wl_val hW rfl rfl (x_move rfl) ?_
                have hE9 := hECS.trans (hx0.trans hxt)
                refine wl_val hW rfl rfl (x_assign rfl) ?_
                refine wl_nil ?_
                refine nx_block ?_
                refine nx_then ?_
                refine wc_region ?_
                refine wl_val hW rfl rfl (x_inc (s := s) rfl (by omega)) ?_
                refine wl_val hW rfl rfl (x_move rfl) ?_
                refine wl_nil ?_
                exact nx_next (s + 1, sum + (if most + 1 - sum < L1[s].s then most + 1 - sum else L1[s].s), s) (by dsimp only; omega) ⟨⟨⟨hlt, by dsimp only; omega, by dsimp only; omega, fun h => absurd h (Nat.succ_ne_zero _), by dsimp only; omega, fun _ => hlt⟩, hE9⟩, hE, hB2, hB3, hB4⟩ (by repeat (first | exact sub_nil | refine sub_cons rfl ?_))
              · refine wc_skip ?_
                refine nx_block ?_
                refine nx_then ?_
                refine wc_region ?_
                refine wl_val hW rfl rfl (x_inc (s := s) rfl (by omega)) ?_
                refine wl_val hW rfl rfl (x_move rfl) ?_
                have hE9 := hECS.trans (hx0.trans hxt)
                refine wl_nil ?_
                exact nx_next (s + 1, sum + (if most + 1 - sum < L1[s].s then most + 1 - sum else L1[s].s), best) (by dsimp only; omega) ⟨⟨⟨hlt, by dsimp only; omega, by dsimp only; omega, fun h => absurd h (Nat.succ_ne_zero _), by dsimp only; omega, fun _ => hbl'⟩, hE9⟩, hE, hB2, hB3, hB4⟩ (by repeat (first | exact sub_nil | refine sub_cons rfl ?_))
            · refine wc_exit ?_
              refine nx_then_exit ?_
              refine nx_then_exit ?_
              refine nx_block_exit ?_
              refine nx_then ?_
              refine wc_seq ?_
              refine wc_seq ?_
              replace hc : ¬ ((s : Nat) : Int) < L1.length := hc
              have hsl : s = L1.length := by omega
              refine wc_region ?_
              refine wl_val hW rfl rfl (x_move rfl) ?_
              refine wl_val hW rfl rfl (x_move rfl) ?_
              refine wl_val hW rfl rfl (x_leq rfl rfl) ?_
              refine wl_nil ?_
              refine nx_then ?_
              refine wc_dec rfl (fun hc => ?_) (fun hc => ?_)
              · refine wc_seq ?_
                refine wc_region ?_
                refine wl_val hW rfl rfl (x_move rfl) ?_
                refine wl_val hW rfl rfl (x_mul (i := most) (j := 10) (r := most * 10) rfl rfl (by rw [IntWalk.i64_in _ (by omega)])) ?_
                refine wl_val hW rfl rfl (x_assign rfl) ?_
                refine wl_nil ?_
                refine nx_then ?_
                refine wc_exit ?_
                refine nx_then_exit ?_
                refine nx_block_exit ?_
                refine nx_then ?_
                refine wc_region ?_
                refine wl_val hW rfl rfl (x_move rfl) ?_
                refine wl_val hW rfl rfl (x_inc (s := n) rfl (by omega)) ?_
                refine wl_val hW rfl rfl (x_assign rfl) ?_
                refine wl_nil ?_
                exact nx_next (n + 1, most * 10) (by dsimp only; omega) ⟨⟨by dsimp only; omega, by dsimp only; omega, by dsimp only; omega, by dsimp only; rw [capN_succ hn1]; omega⟩, hE, hB2, hB3, hB4⟩ (by repeat (first | exact sub_nil | refine sub_cons rfl ?_))
              · refine wc_skip ?_
                replace hc : ¬ sum ≤ most := hc
                have hne : 0 < L1.length := by rcases Nat.eq_zero_or_pos L1.length with h | h; have := hsz0 (by omega); omega; exact h
                have hb := hbl hne
                have hRb := hR.ext hE
                refine nx_then ?_
                refine wc_seq ?_
                refine wc_draw' 9 hW mixed (by kernel_rfl) (fun w0 hx0 => ?_)
                replace hB2 := hB2.ext hx0
                replace hB3 := hB3.ext hx0
                replace hB4 := hB4.ext hx0
                replace hE := hE.trans hx0
                refine q_val rfl rfl (fun _ hx => x_loadA ag82 rfl (hB2.ext hx).cells rfl) ?_
                refine q_val rfl rfl (fun _ hx => x_move rfl) ?_
                refine q_val rfl rfl (fun _ hx => x_move rfl) ?_
                refine q_val rfl rfl (fun _ hx => x_move rfl) ?_
                refine q_val rfl rfl (fun _ hx => x_move rfl) ?_
                refine q_val rfl rfl (fun _ hx => x_inc (s := best) rfl (by omega)) ?_
                refine q_val rfl rfl (fun _ hx => x_move rfl) ?_
                refine q_val rfl rfl (fun _ hx => x_inc (s := best) rfl (by omega)) ?_
                refine q_val rfl rfl (fun _ hx => x_slice3 (i := best) (j := best + 1) Try.underlying80 ag87.siz rfl rfl rfl rfl (by omega) (by omega)) ?_
                refine q_nil (tail0 (fun wt hxt => ?_))
                replace hB2 := hB2.ext hxt
                replace hB3 := hB3.ext hxt
                replace hB4 := hB4.ext hxt
                replace hE := hE.trans hxt
                have hLx := (((hL1.ext hEC).ext hx0).ext hxt).slice (i := best) (j := best + 1) (c' := best + 1 - best) (by omega) (by omega) (Nat.le_refl _) (ad' := if best + 1 = best then a1 else a1.map (·.add (best * 5))) (fun _ => if_neg (by omega))
                rw [take_drop_one hb] at hLx
                have hRj := (hRb.ext hx0).ext hxt
                have hszc := hE.size
                have h4lt := hB4.lt
                refine wl_call hW rfl rfl (x_call en80 rfl) ((C80 (n := n) hRj hLx (by omega) hts (by simp)).inF hFF) ?_
                rintro _ wJ ⟨⟨iv, rfl, hI⟩, hxC⟩
                replace hB2 := hB2.ext hxC
                replace hB3 := hB3.ext hxC
                replace hB4 := hB4.ext hxC
                replace hE := hE.trans hxC
                have hone : iv.oneCell' = true := by obtain ⟨a, c, rfl, -⟩ := hI.form; rfl
                have hszJ := hE.size
                refine wl_storeA hW rfl ag95 rfl rfl (by simp only [List.all_cons, hone]; rfl) rfl hB4 rfl ?_
                intro wS hBS hkS
                replace hB2 := hB2.keep hkS n4_2.symm
                replace hB3 := hB3.keep hkS n4_3.symm
                replace hB4 := hBS
                clear hBS
                replace hE := hE.store hkS g4
                refine wl_val hW rfl rfl (x_assign rfl) ?_
                refine wl_nil ?_
                refine nx_then ?_
                refine wc_ret ?_
                refine nx_block_ret ?_
                refine nx_then_ret ?_
                refine nx_then_ret ?_
                refine nx_block_ret ?_
                refine nx_then_ret ?_
                refine nx_scope_ret ?_
                exact ends_ret (res_cell_tmp Try.results54 rfl (run_loadVar_cells ag95 hB4.cells rfl) rfl) ⟨⟨true, n, [L1[best]], n, iv, _, rfl, .inr ⟨rfl, hok, .inr ⟨hn1, by omega, hz0, L1[best], by rw [← hL1e]; exact List.getElem_mem hb, rfl⟩⟩, fun h => (by cases h), fun _ => ⟨rfl, rfl, (hI.ck (CK.of_keep hkS fun k _ hk => by omega)).mono fun k _ hk => by omega⟩⟩, hE⟩
        · refine wc_exit ?_
          refine nx_then_exit ?_
          refine nx_then_exit ?_
          refine nx_block_exit ?_
          refine nx_then ?_
          refine wc_seq ?_
          refine wc_region ?_
          refine wl_val hW rfl rfl x_build95n ?_
          refine wl_storeA hW rfl ag95 rfl rfl rfl rfl hB4 rfl ?_
          intro wS hBS hkS
          replace hB2 := hB2.keep hkS n4_2.symm
          replace hB3 := hB3.keep hkS n4_3.symm
          replace hB4 := hBS
          clear hBS
          replace hE := hE.store hkS g4
          refine wl_val hW rfl rfl (x_assign rfl) ?_
          refine wl_nil ?_
          refine nx_then ?_
          refine wc_ret ?_
          refine nx_scope_ret ?_
          exact ends_ret (res_cell_tmp Try.results54 rfl (run_loadVar_cells ag95 hB4.cells rfl) rfl) ⟨⟨false, 0, [], 0, .slice none 0 0, false, rfl, .inl ⟨rfl, fun _ => hz0⟩, fun _ => ⟨rfl, rfl, rfl⟩, fun h => by cases h⟩, hE⟩
end Go.Proofs.Ytblbddamebbgaaa.K


/- Walks: the chapter's example; Size; Clone. -/
namespace Go.Proofs.Ytblbddamebbgaaa.K
open Go Go.RowKit
set_option linter.unusedVariables false
set_option linter.unusedSimpArgs false

theorem C48 {w : World} : Rt Try.prog 48 [] w fun r w' => r = .bool true ∧ Ext w w' := by
  have hW := hWw
  have hFF := hFw
  have hE : Ext w w := Keep.refl _ _
  refine rt_body Try.func48 rfl Try.ntmps48 rfl ?_
  refine wc_seq ?_
  refine wc_region ?_
  refine wl_val hW rfl rfl (x_assign rfl) ?_
  refine wl_nil ?_
  refine nx_then ?_
  refine wc_seq ?_
  refine wc_region ?_
  refine wl_val hW rfl rfl x_build87 ?_
  refine wl_val hW rfl rfl x_build87 ?_
  refine wl_buildSlice (parts := [(0, .tmp 6), (1, .tmp 7)]) hW rfl rfl Try.underlying80 ag87.siz Try.zeroValue87 rfl rfl rfl (by omega) ?_
  intro b8 w8 hl8 hB8 hx8
  have g8 : w.heap.size ≤ b8 := Nat.le_trans hE.size hl8
  replace hE := hE.trans hx8
  have hT8 : TRow (fun k => k < w8.heap.size) w8 (.slice (some ⟨b8, 0, none⟩) 2 2) kts := ((town_blk (show Blk _ _ (kts.flatMap cellsT) 87 from hB8) rfl (by decide) g8).row (by decide)).mono fun k hk _ => hk
  refine wl_val hW rfl rfl (x_build82 rfl) ?_
  refine wl_alloc (cs := [.slice none 0 0, .int .u64 0, .int .i64 0, .int .i64 0]) hW rfl rfl Try.zeroValue82 rfl ?_
  intro b1 w1 hl1 hB1 hx1
  have g1 : w.heap.size ≤ b1 := Nat.le_trans hE.size hl1
  have n1_8 : b1 ≠ b8 := Nat.ne_of_gt (Nat.lt_of_lt_of_le hB8.lt hl1)
  replace hB8 := hB8.ext hx1
  replace hE := hE.trans hx1
  refine wl_storeA hW rfl ag82 rfl rfl rfl rfl hB1 rfl ?_
  intro wS hBS hkS
  replace hB8 := hB8.keep hkS n1_8.symm
  replace hB1 := hBS
  clear hBS
  replace hE := hE.store hkS g1
  have hszS1 := hkS.size
  have hT1 := (hT8.ext hx1).keep hkS fun k hk h => by omega
  refine wl_nil ?_
  refine nx_then ?_
  refine wc_seq ?_
  refine wc_region ?_
  refine wl_val hW rfl rfl (x_loadA ag82 rfl hB1.cells rfl) ?_
  refine wl_val hW rfl rfl x_build78 ?_
  refine wl_call hW rfl rfl (x_call en54 rfl) ((C54 hT1 (by decide) kts_sz).inF hFF) ?_
  rintro _ wC ⟨⟨is, n, l, jl, iv, bot, rfl, hp, hf, ht⟩, hxC⟩
  replace hB8 := hB8.ext hxC
  replace hB1 := hB1.ext hxC
  replace hE := hE.trans hxC
  obtain ⟨rfl, rfl, rfl⟩ := kts_pick hp
  obtain ⟨rfl, hbot, hI⟩ := ht rfl
  have e0 : (((0 : Nat)) : Int) = 0 := rfl
  rw [e0, kts_job] at hbot hI
  subst hbot
  obtain ⟨bi, oi, ci, rfl, hC0⟩ := hI.at 0 (by decide)
  have hT2 := hT1.ext hxC
  refine wl_val hW rfl rfl (x_move rfl) ?_
  refine wl_val hW rfl rfl (x_extract rfl rfl) ?_
  refine wl_val hW rfl rfl (x_extract rfl rfl) ?_
  refine wl_alloc (cs := [.int .i64 0, .slice none 0 0, .bool false]) hW rfl rfl Try.zeroValue95 rfl ?_
  intro b2 w2 hl2 hB2 hx2
  have g2 : w.heap.size ≤ b2 := Nat.le_trans hE.size hl2
  have n2_8 : b2 ≠ b8 := Nat.ne_of_gt (Nat.lt_of_lt_of_le hB8.lt hl2)
  replace hB8 := hB8.ext hx2
  have n2_1 : b2 ≠ b1 := Nat.ne_of_gt (Nat.lt_of_lt_of_le hB1.lt hl2)
  replace hB1 := hB1.ext hx2
  replace hE := hE.trans hx2
  have hbi : bi < wC.heap.size := World.block_lt_of_cell? _ _ (hC0 0 _ rfl)
  refine wl_storeA hW rfl ag95 rfl rfl rfl rfl hB2 rfl ?_
  intro wS hBS hkS
  replace hB8 := hB8.keep hkS n2_8.symm
  replace hB1 := hB1.keep hkS n2_1.symm
  replace hB2 := hBS
  clear hBS
  replace hE := hE.store hkS g2
  refine wl_val hW rfl rfl (x_assign rfl) ?_
  refine wl_nil ?_
  refine nx_then ?_
  refine wc_seq ?_
  have hszS2 := hkS.size
  have hT3 := (hT2.ext hx2).keep hkS fun k hk h => by have := hx1.size; have := hxC.size; omega
  have hC37 := (hC0.ext hx2).ck (A := (· ≠ b2)) (by intro e; omega) (CK.of_keep hkS fun k _ h => h)
  refine wc_region ?_
  refine wl_val hW rfl rfl (x_loadA ag82 rfl hB1.cells rfl) ?_
  refine wl_val hW rfl rfl x_build78 ?_
  refine wl_call hW rfl rfl (x_call en54 rfl) ((C54 hT3 (by decide) kts_sz).inF hFF) ?_
  rintro _ wD ⟨⟨is2, n2, l2, jl2, iv2, bot2, rfl, hp2, hf2, -⟩, hxC2⟩
  replace hB8 := hB8.ext hxC2
  replace hB1 := hB1.ext hxC2
  replace hB2 := hB2.ext hxC2
  replace hE := hE.trans hxC2
  obtain rfl := kts_not hp2
  obtain ⟨rfl, rfl, rfl⟩ := hf2 rfl
  have hsz2 := hkS.size
  refine wl_val hW rfl rfl (x_move rfl) ?_
  refine wl_val hW rfl rfl (x_extract rfl rfl) ?_
  refine wl_val hW rfl rfl (x_extract rfl rfl) ?_
  refine wl_alloc (cs := [.int .i64 0, .slice none 0 0, .bool false]) hW rfl rfl Try.zeroValue95 rfl ?_
  intro b4 w4 hl4 hB4 hx4
  have g4 : w.heap.size ≤ b4 := Nat.le_trans hE.size hl4
  have n4_8 : b4 ≠ b8 := Nat.ne_of_gt (Nat.lt_of_lt_of_le hB8.lt hl4)
  replace hB8 := hB8.ext hx4
  have n4_1 : b4 ≠ b1 := Nat.ne_of_gt (Nat.lt_of_lt_of_le hB1.lt hl4)
  replace hB1 := hB1.ext hx4
  have n4_2 : b4 ≠ b2 := Nat.ne_of_gt (Nat.lt_of_lt_of_le hB2.lt hl4)
  replace hB2 := hB2.ext hx4
  replace hE := hE.trans hx4
  refine wl_storeA hW rfl ag95 rfl rfl rfl rfl hB4 rfl ?_
  intro wS hBS hkS
  replace hB8 := hB8.keep hkS n4_8.symm
  replace hB1 := hB1.keep hkS n4_1.symm
  replace hB2 := hB2.keep hkS n4_2.symm
  replace hB4 := hBS
  clear hBS
  replace hE := hE.store hkS g4
  refine wl_val hW rfl rfl (x_assign rfl) ?_
  refine wl_nil ?_
  refine nx_then ?_
  have hC37b := ((hC37.ext hxC2).ext hx4).ck (A := (· ≠ b4)) (by intro e; have := hx2.size; have := hxC2.size; omega) (CK.of_keep hkS fun k _ h => h)
  refine wc_seq ?_
  refine wc_cut [(0, .bool true)] (fun w' => Ext w w') ?_ ?_
  · refine wc_region ?_
    refine wl_val hW rfl rfl (x_move rfl) ?_
    refine wl_val hW rfl rfl (x_move rfl) ?_
    refine wl_val hW rfl rfl (x_fieldAddr Try.underlying95 rfl fl3.siz rfl) ?_
    refine wl_val hW rfl rfl (x_load fl3 rfl (hB2.cell (o := 0) rfl)) ?_
    refine wl_val hW rfl rfl (x_eqlT rfl rfl rfl) ?_
    refine wl_val hW rfl rfl (x_pickT rfl rfl) ?_
    refine wl_val hW rfl rfl (x_move rfl) ?_
    refine wl_val hW rfl rfl (x_fieldAddr Try.underlying95 rfl fl42.siz rfl) ?_
    refine wl_val hW rfl rfl (x_load fl42 rfl (hB2.cell (o := 1) rfl)) ?_
    refine wl_val hW rfl rfl (x_len Try.underlying42 rfl) ?_
    refine wl_val hW rfl rfl (x_eqlT rfl rfl rfl) ?_
    refine wl_val hW rfl rfl (x_pickT rfl rfl) ?_
    refine wl_val hW rfl rfl (x_move rfl) ?_
    refine wl_val hW rfl rfl (x_fieldAddr Try.underlying95 rfl fl42.siz rfl) ?_
    refine wl_val hW rfl rfl (x_load fl42 rfl (hB2.cell (o := 1) rfl)) ?_
    refine wl_val hW rfl rfl (x_indexAddr Try.underlying42 fl3.siz rfl rfl (by decide) (by decide)) ?_
    refine wl_val hW rfl rfl (x_load fl3 rfl (hC37b 0 _ rfl)) ?_
    refine wl_val hW rfl rfl (x_eqlT rfl rfl rfl) ?_
    refine wl_val hW rfl rfl (x_pickT rfl rfl) ?_
    refine wl_val hW rfl rfl (x_move rfl) ?_
    refine wl_val hW rfl rfl (x_fieldAddr Try.underlying95 rfl fl4.siz rfl) ?_
    refine wl_val hW rfl rfl (x_load fl4 rfl (hB2.cell (o := 2) rfl)) ?_
    refine wl_val hW rfl rfl (x_pickT rfl rfl) ?_
    refine wl_val hW rfl rfl (x_move rfl) ?_
    refine wl_val hW rfl rfl (x_move rfl) ?_
    refine wl_val hW rfl rfl (x_not rfl) ?_
    refine wl_val hW rfl rfl (x_pickT rfl rfl) ?_
    refine wl_val hW rfl rfl (x_assign rfl) ?_
    refine wl_nil ?_
    exact nx_cut (by repeat (first | exact sub_nil | refine sub_cons rfl ?_)) hE
  · rintro w' hE
    refine nx_then ?_
    refine wc_ret ?_
    exact ends_ret (res_tmp Try.results48 rfl) ⟨rfl, hE⟩
theorem C76 {A : Nat → Prop} {w : World} {e : Ent} {bv : Value} (hb : Byts A w bv e.v) (hok : EntOk e) : Rt Try.prog 76 [.agg (cellsOf e bv).toArray] w fun r w' => r = .int .i64 (costE e : Nat) ∧ Ext w w' := by
  obtain ⟨ad, cap, rfl, hcap⟩ := hb.form
  have hW := hWw
  have hFF := hFw
  have hE : Ext w w := Keep.refl _ _
  refine rt_body Try.func76 rfl Try.ntmps76 rfl ?_
  refine wc_seq ?_
  refine wc_region ?_
  refine wl_box hW rfl rfl rfl rfl ?_
  intro b1 w1 hl1 hB1 hx1
  have g1 : w.heap.size ≤ b1 := Nat.le_trans hE.size hl1
  replace hE := hE.trans hx1
  refine wl_val hW rfl rfl (x_assign rfl) ?_
  refine wl_nil ?_
  refine nx_then ?_
  refine wc_seq ?_
  refine wc_region ?_
  refine wl_val hW rfl rfl (x_fieldAddr Try.underlying25 rfl fl9.siz rfl) ?_
  refine wl_val hW rfl rfl (x_load fl9 rfl (hB1.cell (o := 0) rfl)) ?_
  refine wl_val hW rfl rfl (x_lens Try.underlying9 rfl) ?_
  refine wl_val hW rfl rfl (x_fieldAddr Try.underlying25 rfl fl23.siz rfl) ?_
  refine wl_val hW rfl rfl (x_load fl23 rfl (hB1.cell (o := 3) rfl)) ?_
  refine wl_val hW rfl rfl (x_len Try.underlying23 rfl) ?_
  refine wl_val hW rfl rfl (x_addn (i := e.k.size) (j := e.v.length) rfl rfl (by have := hok.k; have := hok.v; omega)) ?_
  refine wl_val hW rfl rfl (x_addn (i := e.k.size + e.v.length) (j := 16) rfl rfl (by have := hok.k; have := hok.v; omega)) ?_
  refine wl_val hW rfl rfl (x_assign rfl) ?_
  refine wl_nil ?_
  refine nx_then ?_
  refine wc_ret ?_
  exact ends_ret (res_tmp Try.results76 rfl) ⟨rfl, hE⟩
end Go.Proofs.Ytblbddamebbgaaa.K


/- Lists cloned and collected; how what is compacted is parted. -/
namespace Go.Proofs.Ytblbddamebbgaaa.K
open Go Go.RowKit
set_option linter.unusedVariables false
set_option linter.unusedSectionVars false
set_option linter.unusedSimpArgs false

/-- The cells of a row. -/
theorem row_flat {A : Nat → Prop} {w : World} {ad : Option Addr} {n c : Nat} {es : List Ent} (h : Row A w (.slice ad n c) es) : ∃ bvs, bvs.length = es.length ∧ Src w ad (flat es bvs) ∧ ∀ (i : Nat) (e : Ent) (bv : Value), es[i]? = some e → bvs[i]? = some bv → Byts A w bv e.v := by
  obtain ⟨ad', cap, e, h1, h2, h3, hh⟩ := h
  cases e
  by_cases hne : es = []
  · subst hne
    exact ⟨[], rfl, fun h => absurd rfl h, fun i e bv hi => by simp at hi⟩
  obtain ⟨b, o, rfl, hA, hr⟩ := hh hne
  let f : Nat → Value := fun i => if hi : i < es.length then (hr i es[i] (List.getElem?_eq_getElem hi)).choose else .nilFunc
  have hf : ∀ i (hi : i < es.length), Cells w b (o + i * 4) (cellsOf es[i] (f i)) ∧ Byts A w (f i) es[i].v := fun i hi => by
    have e1 : f i = (hr i es[i] (List.getElem?_eq_getElem hi)).choose := by show dite _ _ _ = _; rw [dif_pos hi]
    rw [e1]
    exact (hr i es[i] (List.getElem?_eq_getElem hi)).choose_spec
  refine ⟨(List.range es.length).map f, by simp, fun _ => ⟨b, o, rfl, fun j u hj => ?_⟩, fun i e bv hi hj => ?_⟩
  · have hlt := (List.getElem?_eq_some_iff.1 hj).1
    rw [flat_len _ _ (by simp)] at hlt
    have hi : j / 4 < es.length := by omega
    have hbv : ((List.range es.length).map f)[j / 4]? = some (f (j / 4)) := by simp [hi]
    have hm : j % 4 < (cellsOf es[j / 4] (f (j / 4))).length := Nat.mod_lt j (by decide : 0 < 4)
    have h4 := flat_at es ((List.range es.length).map f) (j / 4) es[j / 4] _ (by simp) (List.getElem?_eq_getElem hi) hbv (j % 4) _ (List.getElem?_eq_getElem hm)
    rw [show j / 4 * 4 + j % 4 = j from by omega, hj] at h4
    have h6 := (hf (j / 4) hi).1 (j % 4) _ (List.getElem?_eq_getElem hm)
    rw [← h4] at h6
    rwa [show o + j / 4 * 4 + j % 4 = o + j from by omega] at h6
  · have hlt := (List.getElem?_eq_some_iff.1 hi).1
    rw [List.getElem?_map, List.getElem?_range hlt] at hj
    simp only [Option.map_some, Option.some.injEq] at hj
    have : es[i] = e := by rw [List.getElem?_eq_getElem hlt] at hi; exact Option.some.inj hi
    rw [← this, ← hj]; exact (hf i hlt).2
section
variable {F : Fence} {n : Nat} {Q : Exit → Act → World → Prop} {m : Nat} {D : List Deferred} {L : Env} {w w' : World} {ops rest : List Oper} {d : Nat} {ty : TypeId} {pos : String} {af : Array Edge} {g : Option (Nat × Bool)} {x y : Operand}
/-- A list more. -/
theorem wl_appendL {A : Nat → Prop} {base bt : Nat} {v u : Value} {ls : List (List Ent)} {l : List Ent} (hW : Wd F) (hg : wants L ops g = some true) (hd : Nat.blt d m = true) (hx : ev L x = some v) (hy : ev L y = some (.slice (some ⟨bt, 0, none⟩) 1 1))
    (h : LOwn A base w v ls) (hu : Row (fun k => A k ∧ some k ≠ v.ownBlock) w u l) (hB : Blk w bt [u] 26) (hl : ls.length < 1048576) (hbase : base ≤ w.heap.size)
    (k : ∀ v' w', LOwn A base w' v' (ls ++ [l]) → Keep (fun k => some k ≠ v.ownBlock) w w' → (v'.ownBlock = v.ownBlock ∨ ∃ b, v'.ownBlock = some b ∧ w.heap.size ≤ b) → WL F n Try.prog Q m D ops rest ((d, v') :: L) w') :
    WL F n Try.prog Q m D ops (⟨some d, .call ⟨.builtin .append, #[x, y], #[65, 65]⟩, ty, pos, af, g⟩ :: rest) L w := by
  obtain ⟨⟨vals, h1, h2, h3⟩, h4⟩ := h
  have hlt : ∀ b, v.ownBlock = some b → b < w.heap.size := fun b hb => by obtain ⟨-, cs, h5⟩ := ownsRow_blk h2 hb; exact h5.lt
  refine wl_append Try.underlying65 info26 rfl (by decide) hW hg hd hx hy h2 (show ([u] : List Value).length = 1 * 1 from rfl) (src_blk hB) (fun u' hu' => by simp at hu'; subst hu'; exact hu.one) (by omega) (by decide) hbase ?_
  intro v' w' h5 h6 h7
  have tr : ∀ (l' : List Ent) (u' : Value), Row (fun k => A k ∧ some k ≠ v.ownBlock) w u' l' → Row (fun k => A k ∧ some k ≠ v'.ownBlock) w' u' l' := fun l' u' hr => by
    have hr2 := (hr.mono (A' := fun k => k < w.heap.size ∧ A k ∧ some k ≠ v.ownBlock) fun k hk h => ⟨hk, h⟩).ck (CK.of_keep h6 fun k _ h => h.2.2)
    refine hr2.mono fun k _ h => ⟨h.2.1, ?_⟩
    rcases h7 with e | ⟨b, e, hb⟩
    · rw [e]; exact h.2.2
    · rw [e]; intro e'; cases e'; omega
  refine k v' w' ⟨⟨vals ++ [u], by simp [h1], by rw [List.length_append]; exact h5, fun i l' u' hi hj => ?_⟩, by simp; omega⟩ h6 h7
  rcases Nat.lt_or_ge i ls.length with hil | hil
  · rw [List.getElem?_append_left hil] at hi
    rw [List.getElem?_append_left (by omega)] at hj
    exact tr _ _ (h3 i l' u' hi hj)
  · rw [List.getElem?_append_right hil] at hi
    rw [List.getElem?_append_right (by omega)] at hj
    have e0 : i - ls.length = 0 := by have := (List.getElem?_eq_some_iff.1 hi).1; simp at this; omega
    have e1 : i - vals.length = 0 := by omega
    rw [e0] at hi
    rw [e1] at hj
    simp at hi hj
    subst hi; subst hj
    exact tr _ _ hu
end
/-- How a list is parted up to a place: no key is cut. -/
inductive Cuts (all : List Ent) : Nat → List (List Ent) → Prop
  | nil : Cuts all 0 []
  | snoc {f t : Nat} {out : List (List Ent)} : Cuts all f out → f < t → t ≤ all.length → (t = all.length ∨ ∃ h : t < all.length, all[t].k ≠ all[t - 1].k) → Cuts all t (out ++ [(all.take t).drop f])
theorem Cuts.flat {all : List Ent} {f : Nat} {out : List (List Ent)} (h : Cuts all f out) : out.flatten = all.take f := by
  induction h with
  | nil => simp
  | snoc h1 h2 h3 h4 ih =>
    rename_i f t out
    rw [List.flatten_append, ih, List.flatten_singleton]
    have : all.take f = (all.take t).take f := by rw [List.take_take, Nat.min_eq_left (by omega)]
    rw [this, List.take_append_drop]
theorem Cuts.len {all : List Ent} {f : Nat} {out : List (List Ent)} (h : Cuts all f out) : out.length ≤ f := by
  induction h with
  | nil => simp
  | snoc h1 h2 h3 h4 ih => simp only [List.length_append, List.length_singleton]; omega
/-- Where each part begins and ends. -/
theorem Cuts.parts {all : List Ent} {f : Nat} {out : List (List Ent)} (h : Cuts all f out) : ∃ c : Nat → Nat, c 0 = 0 ∧ c out.length = f ∧ (∀ i, i < out.length → c i < c (i + 1) ∧ c (i + 1) ≤ all.length ∧ out[i]? = some ((all.take (c (i + 1))).drop (c i))) ∧ ∀ i, 0 < i → i ≤ out.length → c i = all.length ∨ ∃ h : c i < all.length, all[c i].k ≠ all[c i - 1].k := by
  induction h with
  | nil => exact ⟨fun _ => 0, rfl, rfl, fun i hi => by simp at hi, fun i h0 hi => by simp at hi; omega⟩
  | snoc h1 h2 h3 h4 ih =>
    rename_i f t out
    obtain ⟨c, e0, e1, e2, e3⟩ := ih
    refine ⟨fun i => if i ≤ out.length then c i else t, by simp [e0], by dsimp only; rw [List.length_append, List.length_singleton, if_neg (by omega)], fun i hi => ?_, fun i h0 hi => ?_⟩
    all_goals dsimp only
    · simp only [List.length_append, List.length_singleton] at hi
      by_cases hio : i < out.length
      · obtain ⟨a, b, d⟩ := e2 i hio
        rw [if_pos (by omega), if_pos (by omega), List.getElem?_append_left hio]
        exact ⟨a, b, d⟩
      · have : i = out.length := by omega
        subst this
        rw [if_pos (Nat.le_refl _), if_neg (by omega), e1, List.getElem?_append_right (Nat.le_refl _), Nat.sub_self]
        exact ⟨h2, h3, rfl⟩
    · simp only [List.length_append, List.length_singleton] at hi
      by_cases hio : i ≤ out.length
      · have := e3 i h0 hio
        simp only [if_pos hio]; exact this
      · simp only [if_neg hio]; exact h4
theorem Row.slice2 {A : Nat → Prop} {w : World} {a : Option Addr} {n c i j : Nat} {g : List Ent} (h : Row A w (.slice a n c) g) (hij : i ≤ j) (hj : j ≤ g.length) : Row A w (.slice (if c = i then a else a.map (·.add (i * 4))) (j - i) (c - i)) ((g.take j).drop i) := by
  obtain ⟨ad', cap', e, h1, h2, h3, h⟩ := h
  cases e
  have hlen : ((g.take j).drop i).length = j - i := by simp; omega
  refine ⟨_, _, by rw [hlen], by omega, by omega, fun y hy => h3 y (List.mem_of_mem_take (List.mem_of_mem_drop hy)), fun hne => ?_⟩
  have hlt : i < j := Decidable.byContradiction fun h => hne (List.eq_nil_of_length_eq_zero (by omega))
  obtain ⟨b, o, rfl, hA, hr⟩ := h (by rintro rfl; simp at hj; omega)
  refine ⟨b, o + i * 4, by rw [if_neg (by omega)]; simp [add_mk], hA, fun k y hk => ?_⟩
  rw [List.getElem?_drop, List.getElem?_take] at hk
  split at hk
  · obtain ⟨bv, h4, h5⟩ := hr (i + k) y hk
    exact ⟨bv, by rw [show o + i * 4 + k * 4 = o + (i + k) * 4 from by omega]; exact h4, h5⟩
  · cases hk
theorem C46w {w w0 : World} {v : Value} {ls : List (List Ent)} (hL : LRow (fun k => k < w0.heap.size) w v ls) (htot : tot ls ≤ 100000) (hr : ls.all rightB = true) (hs : w0.heap.size ≤ w.heap.size) : Rt Try.prog 46 [v] w fun r w' => (∃ rv, r = .tuple #[rv, .int .i64 0] ∧ Row (fun k => k < w'.heap.size) w' rv (mrg ls)) ∧ Ext w w' :=
  (C46 (hL.mono fun k hk _ => hk) (by omega)).mono fun r w' ⟨⟨rv, h1, h2⟩, h3⟩ => ⟨⟨rv, by rw [h1, hr]; rfl, by rw [hr, if_pos rfl] at h2; exact h2.mono fun k hk _ => hk⟩, h3⟩
theorem C25r {w w0 : World} {v : Value} {es : List Ent} {keep : Int} {bottom : Bool} (hR : Row (fun k => k < w0.heap.size) w v es) (hl : es.length ≤ 1048000) (hr : rightB es = true) : Rt Try.prog 25 [v, .int .u64 keep, .bool bottom] w fun r w' => (∃ rv, r = .tuple #[rv, .int .i64 0] ∧ Row (fun k => k < w'.heap.size) w' rv (leftL keep bottom es)) ∧ Ext w w' :=
  (C25 (hR.mono fun k hk _ => hk) hl).mono fun r w' ⟨⟨rv, h1, h2⟩, h3⟩ => ⟨⟨rv, by rw [h1, hr]; rfl, by rw [hr, if_pos rfl] at h2; exact h2.mono fun k hk _ => hk⟩, h3⟩
theorem LOwn.rebase2 {A : Nat → Prop} {base base' : Nat} {w : World} {v : Value} {ls : List (List Ent)} (h : LOwn A base w v ls) (hb : ∀ b, v.ownBlock = some b → base' ≤ b) : LOwn A base' w v ls := by
  obtain ⟨⟨vals, h1, h2, h3⟩, h4⟩ := h
  exact ⟨⟨vals, h1, ownsRow_base h2 hb, h3⟩, h4⟩
theorem LOwn.monoA {A A' : Nat → Prop} {base : Nat} {w : World} {v : Value} {ls : List (List Ent)} (h : LOwn A base w v ls) (hA : ∀ k, k < w.heap.size → A k → A' k) : LOwn A' base w v ls := by
  obtain ⟨⟨vals, h1, h2, h3⟩, h4⟩ := h
  exact ⟨⟨vals, h1, h2, fun i l u hi hj => (h3 i l u hi hj).mono fun k hk h => ⟨hA k hk h.1, h.2⟩⟩, h4⟩
end Go.Proofs.Ytblbddamebbgaaa.K

/- Walks: Clone, Run. -/
namespace Go.Proofs.Ytblbddamebbgaaa.K
open Go Go.RowKit
set_option linter.unusedVariables false
set_option linter.unusedSimpArgs false

theorem C77 {A : Nat → Prop} {w : World} {v : Value} {es : List Ent} (hR : Row A w v es) : Rt Try.prog 77 [v] w fun r w' => Row (fun k => A k ∨ w.heap.size ≤ k) w' r es ∧ Ext w w' := by
  obtain ⟨ad, cap, rfl, hcap, hlen⟩ := hR.form
  have hok := hR.ok
  have hR0 := hR
  replace hR := hR.mono (A' := fun k => A k ∧ k < w.heap.size) fun k hk h => ⟨h, hk⟩
  have hW := hWw
  have hFF := hFw
  have hE : Ext w w := Keep.refl _ _
  refine rt_body Try.func77 rfl Try.ntmps77 rfl ?_
  refine wc_seq ?_
  refine wc_region ?_
  refine wl_val hW rfl rfl (x_assign rfl) ?_
  refine wl_nil ?_
  refine nx_then ?_
  refine wc_seq ?_
  refine wc_seq ?_
  refine wc_region ?_
  refine wl_val hW rfl rfl (x_move rfl) ?_
  refine wl_val hW rfl rfl (x_nilEq Try.underlying26 rfl rfl) ?_
  refine wl_nil ?_
  refine nx_then ?_
  refine wc_bool rfl (fun hc => ?_) (fun hc => ?_)
  · refine wc_seq ?_
    have hes : es = [] := by
      obtain ⟨ad', cap', e, -, -, -, hh⟩ := hR0
      cases e
      exact Classical.byContradiction fun h => by obtain ⟨b, o, rfl, -⟩ := hh h; cases hc
    refine wc_region ?_
    refine wl_val hW rfl rfl (x_assign rfl) ?_
    refine wl_nil ?_
    refine nx_then ?_
    refine wc_ret ?_
    refine nx_then_ret ?_
    exact ends_ret (res_tmp Try.results77 rfl) ⟨by rw [hes]; exact row_nil _ _, hE⟩
  · refine wc_skip ?_
    refine nx_then ?_
    refine wc_seq ?_
    refine wc_region ?_
    refine wl_buildSlice (parts := []) hW rfl rfl Try.underlying26 ag25.siz Try.zeroValue25 rfl rfl rfl (by omega) ?_
    intro b5 w5 hl5 hB5 hx5
    have g5 : w.heap.size ≤ b5 := Nat.le_trans hE.size hl5
    replace hE := hE.trans hx5
    refine wl_val hW rfl rfl (x_move rfl) ?_
    obtain ⟨bvs, hbl, hsrc, hbb⟩ := row_flat (hR.ext hE)
    refine wl_append Try.underlying26 info25 rfl (by decide) hW rfl rfl rfl rfl (owns_empty hB5 (Nat.le_refl _)) (flat_len es bvs hbl) hsrc (flat_one (A := A) (w := w) es bvs (fun i e bv h1 h2 => (hbb i e bv h1 h2).one)) (by omega) (by decide) (Nat.le_of_lt hB5.lt) ?_
    intro v7 wA hO hkA hcA
    rw [Nat.zero_add, List.nil_append] at hO
    have hkA' : Keep (· ≠ b5) w5 wA := hkA.mono fun k _ h e => h (by cases e; rfl)
    have hsz5 := hE.size
    replace hE := hE.store hkA' g5
    have hOw : OwnE (fun k => A k ∧ k < w.heap.size) b5 wA v7 es := own_of_flat hO hbl (fun i e bv h1 h2 => (hbb i e bv h1 h2).ck (CK.of_keep hkA' fun k _ h => by omega)) (fun k _ hk => by rcases hcA with e | ⟨b, e, hb⟩; (rw [e]; intro e'; have h9 : k = b5 := Option.some.inj e'; omega); (rw [e]; intro e'; have h9 : k = b := Option.some.inj e'; omega)) hok
    refine wl_val hW rfl rfl (x_assign rfl) ?_
    refine wl_nil ?_
    refine nx_then ?_
    refine wc_ret ?_
    exact ends_ret (res_tmp Try.results77 rfl) ⟨(hOw.row hlen).mono fun k _ h => h.elim (fun h => .inl h.1) (fun h => .inr (by omega)), hE⟩
theorem C49 {w : World} {v : Value} {ls : List (List Ent)} {keep size : Int} {bottom : Bool} (hL : LRow (fun k => k < w.heap.size) w v ls) (htot : tot ls ≤ 100000) (hr : ls.all rightB = true) (hsz : 1 ≤ size) :
    Rt Try.prog 49 [.int .u64 keep, .bool bottom, .int .i64 size, v] w fun r w' => (∃ ov out, r = .tuple #[ov, .int .i64 0] ∧ LOwn (fun _ => True) w.heap.size w' ov out ∧ Cuts (leftL keep bottom (mrg ls)) (leftL keep bottom (mrg ls)).length out) ∧ Ext w w' := by
  obtain ⟨ad, cap, rfl, hcap, hlen⟩ := hL.form
  have hmr := mrg_right hr
  have hml : (mrg ls).length ≤ 100000 := by have := foldTwo_len ls []; simp only [List.length_nil] at this; unfold mrg; omega
  have hll := leftL_le keep bottom (mrg ls)
  have hW := hWw
  have hFF := hFw
  have hE : Ext w w := Keep.refl _ _
  refine rt_body Try.func49 rfl Try.ntmps49 rfl ?_
  refine wc_seq ?_
  refine wc_region ?_
  refine wl_val hW rfl rfl (x_assign rfl) ?_
  refine wl_val hW rfl rfl (x_assign rfl) ?_
  refine wl_nil ?_
  refine nx_then ?_
  refine wc_seq ?_
  refine wc_seq ?_
  refine wc_region ?_
  refine wl_val hW rfl rfl (x_move rfl) ?_
  refine wl_val hW rfl rfl (x_lssF rfl rfl (by omega)) ?_
  refine wl_nil ?_
  refine nx_then ?_
  refine wc_false rfl ?_
  refine wc_skip ?_
  refine nx_then ?_
  refine wc_seq ?_
  refine wc_region ?_
  refine wl_val hW rfl rfl (x_move rfl) ?_
  refine wl_call hW rfl rfl (x_call en46 rfl) ((C46w (hL.ext hE) htot hr hE.size).inF hFF) ?_
  rintro _ wC ⟨⟨rv1, rfl, hR1⟩, hxC⟩
  replace hE := hE.trans hxC
  refine wl_val hW rfl rfl (x_move rfl) ?_
  refine wl_val hW rfl rfl (x_extract rfl rfl) ?_
  refine wl_val hW rfl rfl (x_extract rfl rfl) ?_
  refine wl_val hW rfl rfl (x_assign rfl) ?_
  refine wl_val hW rfl rfl (x_assign rfl) ?_
  refine wl_nil ?_
  refine nx_then ?_
  refine wc_seq ?_
  refine wc_seq ?_
  refine wc_region ?_
  refine wl_val hW rfl rfl (x_move rfl) ?_
  refine wl_val hW rfl rfl (x_neqF rfl rfl rfl) ?_
  refine wl_nil ?_
  refine nx_then ?_
  refine wc_false rfl ?_
  refine wc_skip ?_
  refine nx_then ?_
  refine wc_seq ?_
  refine wc_region ?_
  refine wl_val hW rfl rfl (x_move rfl) ?_
  refine wl_val hW rfl rfl (x_move rfl) ?_
  refine wl_val hW rfl rfl (x_move rfl) ?_
  refine wl_call hW rfl rfl (x_call en25 rfl) ((C25r (w0 := wC) hR1 (by omega) hmr).inF hFF) ?_
  rintro _ wl ⟨⟨av0, rfl, hAll0⟩, hxC⟩
  replace hE := hE.trans hxC
  refine wl_val hW rfl rfl (x_move rfl) ?_
  refine wl_val hW rfl rfl (x_extract rfl rfl) ?_
  refine wl_val hW rfl rfl (x_extract rfl rfl) ?_
  refine wl_val hW rfl rfl (x_assign rfl) ?_
  refine wl_nil ?_
  refine nx_then ?_
  obtain ⟨all, hall⟩ : ∃ all, all = leftL keep bottom (mrg ls) := ⟨_, rfl⟩
  rw [← hall] at hAll0 hll
  rw [← hall]
  have hAll : Row (fun k => k < wl.heap.size) wl av0 all := hAll0
  obtain ⟨aa, ca, rfl, hca, -⟩ := hAll.form
  have hEl := hE
  have hszl := hEl.size
  refine wc_seq ?_
  refine wc_region ?_
  refine wl_val hW rfl rfl (x_assign rfl) ?_
  refine wl_nil ?_
  refine nx_then ?_
  refine wc_seq ?_
  refine wc_region ?_
  refine wl_val hW rfl rfl (x_assign rfl) ?_
  refine wl_nil ?_
  refine nx_then ?_
  refine wc_seq ?_
  refine wc_region ?_
  refine wl_val hW rfl rfl (x_assign rfl) ?_
  refine wl_nil ?_
  refine nx_then ?_
  refine wc_seq ?_
  refine wc_seq ?_
  refine wc_region ?_
  refine wl_val hW rfl rfl (x_move rfl) ?_
  refine wl_val hW rfl rfl (x_len Try.underlying26 rfl) ?_
  refine wl_val hW rfl rfl (x_move rfl) ?_
  refine wl_nil ?_
  refine nx_then ?_
  refine wc_block ?_
  refine wc_loop (σ := Nat × Value × Nat × Nat) (fun q => [(2, .int .i64 size), (10, .slice aa all.length ca), (12, q.2.1), (13, .int .i64 (q.2.2.1 : Nat)), (14, .int .i64 (q.2.2.2 : Nat)), (34, .slice aa all.length ca), (35, .int .i64 (all.length : Nat)), (36, .int .i64 (q.1 : Nat))]) (fun q w' => (q.1 ≤ all.length ∧ q.2.2.2 ≤ q.1 ∧ (q.1 = all.length → q.2.2.2 = all.length) ∧ q.2.2.1 ≤ q.1 * 4194304 ∧ ∃ out, LOwn (fun _ => True) wl.heap.size w' q.2.1 out ∧ Cuts all q.2.2.2 out) ∧ Keep (fun k => k < wl.heap.size) wl w') (fun q => all.length - q.1) (0, .slice none 0 0, 0, 0) ?_ ?_ ?_
  · exact ⟨⟨Nat.zero_le _, Nat.le_refl _, fun h => h, Nat.zero_le _, [], lown_nil _ _ _, Cuts.nil⟩, Keep.refl _ _⟩
  · repeat (first | exact sub_nil | refine sub_cons rfl ?_)
  · rintro ⟨i, ov, sum, from'⟩ wr ⟨⟨hi, hfi, hfe, hsum, out, hO, hCu⟩, hK⟩
    replace hi : i ≤ all.length := hi
    replace hfi : from' ≤ i := hfi
    replace hfe : i = all.length → from' = all.length := hfe
    replace hsum : sum ≤ i * 4194304 := hsum
    replace hO : LOwn (fun _ => True) wl.heap.size wr ov out := hO
    replace hCu : Cuts all from' out := hCu
    have hE : Ext w wr := Keep.after hEl hK (fun k hk => by omega)
    have hszK := hK.size
    refine wc_seq ?_
    refine wc_region ?_
    refine wl_val hW rfl rfl (x_lss rfl rfl) ?_
    refine wl_nil ?_
    refine nx_then ?_
    refine wc_seq ?_
    refine wc_dec rfl (fun hc => ?_) (fun hc => ?_)
    · refine wc_skip ?_
      refine nx_then ?_
      refine wc_seq ?_
      refine wc_block ?_
      refine wc_seq ?_
      replace hc : ((i : Nat) : Int) < all.length := hc
      have hlt : i < all.length := by omega
      have hAllr := hAll.ck (CK.of_keep hK fun k _ h => h)
      obtain ⟨b, o, cap', bv, e1, hA, hC39, hb1, hok1⟩ := hAllr.at i hlt
      cases e1
      refine wc_region ?_
      refine wl_val hW rfl rfl (x_move rfl) ?_
      refine wl_val hW rfl rfl (x_indexAddr Try.underlying26 ag25.siz rfl rfl (by omega) (by omega)) ?_
      refine wl_val hW rfl rfl (x_loadA ag25 rfl hC39 rfl) ?_
      refine wl_alloc (cs := [.string ⟨#[]⟩, .int .u64 0, .bool false, .slice none 0 0]) hW rfl rfl Try.zeroValue25 rfl ?_
      intro b16 w16 hl16 hB16 hx16
      have g16 : w.heap.size ≤ b16 := Nat.le_trans hE.size hl16
      replace hE := hE.trans hx16
      refine wl_val hW rfl rfl (x_assign rfl) ?_
      have hone := cells_one (e := all[i]) hb1.one
      refine wl_storeA hW rfl ag25 rfl rfl hone rfl hB16 rfl ?_
      intro wS hBS hkS
      have hKS : Keep (fun k => k < wl.heap.size) wl wS := (hK.trans (Keep.of_ext hx16)).then hkS fun k hk h => by omega
      have hOb : LOwn (fun k => k < wr.heap.size) wl.heap.size wr ov out := hO.monoA fun k hk _ => hk
      have hOS := (hOb.ext hx16).keep hkS (fun b hb => by have := (hO.lt b hb).2; omega) (fun k hk _ => by omega)
      replace hB16 := hBS
      clear hBS
      replace hE := hE.store hkS g16
      refine wl_nil ?_
      refine nx_then ?_
      refine wc_seq ?_
      refine wc_region ?_
      refine wl_val hW rfl rfl (x_move rfl) ?_
      refine wl_val hW rfl rfl (x_loadA ag25 rfl hB16.cells rfl) ?_
      refine wl_call hW rfl rfl (x_call en76 rfl) ((C76 ((hb1.ext hx16).ck (CK.of_keep hkS fun k _ h => by omega)) hok1).inF hFF) ?_
      rintro _ wC ⟨rfl, hxC⟩
      replace hB16 := hB16.ext hxC
      replace hE := hE.trans hxC
      have hcost := cost_le hok1
      refine wl_val hW rfl rfl (x_addn (i := sum) (j := costE all[i]) rfl rfl (by omega)) ?_
      refine wl_val hW rfl rfl (x_assign rfl) ?_
      refine wl_nil ?_
      refine nx_then ?_
      refine wc_seq ?_
      have hKC := hKS.trans (Keep.of_ext hxC)
      have hOC := (hOS.ext hxC).monoA (A' := fun _ => True) fun _ _ _ => trivial
      refine wc_cutE (σ := Bool) (fun u => [(2, .int .i64 size), (10, .slice (some ⟨b, o, none⟩) all.length ca), (12, ov), (13, .int .i64 ((sum + costE all[i] : Nat))), (14, .int .i64 (from' : Nat)), (15, .int .i64 (i : Nat)), (34, .slice (some ⟨b, o, none⟩) all.length ca), (35, .int .i64 (all.length : Nat)), (36, .int .i64 (i : Nat)), (65, .bool u)]) (fun u w' => Ext wC w' ∧ (u = true → i + 1 = all.length ∨ ∃ h : i + 1 < all.length, all[i + 1].k ≠ all[i + 1 - 1].k) ∧ (u = false → i + 1 ≠ all.length)) ?_ ?_
      · refine wc_draw' 18 hW mixed (by kernel_rfl) (fun w0 hx0 => ?_)
        replace hB16 := hB16.ext hx0
        replace hE := hE.trans hx0
        refine q_val rfl rfl (fun _ hx => x_move rfl) ?_
        refine q_val rfl rfl (fun _ hx => x_inc (s := i) rfl (by omega)) ?_
        refine q_val rfl rfl (fun _ hx => x_move rfl) ?_
        refine q_val rfl rfl (fun _ hx => x_len Try.underlying26 rfl) ?_
        refine q_val rfl rfl (fun _ hx => x_eql rfl rfl) ?_
        refine q_val rfl rfl (fun _ hx => x_move rfl) ?_
        refine q_dcases (d := 50) rfl (fun hg50 => ?_) (fun hg50 => ?_)
        · refine q_off rfl rfl ?_
          refine q_off rfl rfl ?_
          refine q_off rfl rfl ?_
          refine q_off rfl rfl ?_
          refine q_off rfl rfl ?_
          refine q_off rfl rfl ?_
          refine q_off rfl rfl ?_
          refine q_off rfl rfl ?_
          refine q_off rfl rfl ?_
          refine q_off rfl rfl ?_
          refine q_off rfl rfl ?_
          refine q_off rfl rfl ?_
          refine q_nil (tail0 (fun wt hxt => ?_))
          replace hB16 := hB16.ext hxt
          replace hE := hE.trans hxt
          refine wl_off hW rfl rfl ?_
          refine wl_off hW rfl rfl ?_
          refine wl_val hW rfl rfl (x_pickT rfl rfl) ?_
          refine wl_nil ?_
          exact nx_cutE true (by repeat (first | exact sub_nil | refine sub_cons rfl ?_)) ⟨hx0.trans hxt, fun _ => .inl (by omega), fun h => by cases h⟩
        · refine q_val rfl rfl (fun _ hx => x_move rfl) ?_
          refine q_val rfl rfl (fun _ hx => x_move rfl) ?_
          refine q_val rfl rfl (fun _ hx => x_geq rfl rfl) ?_
          refine q_val rfl rfl (fun _ hx => x_move rfl) ?_
          refine q_dcases (d := 54) rfl (fun hg54 => ?_) (fun hg54 => ?_)
          · have hi1 : i + 1 < all.length := by omega
            obtain ⟨b2, o2, cap2, bv2, e2, -, hC58, -, -⟩ := ((hAllr.ck (CK.of_keep ((Keep.of_ext hx16).trans ((hkS.mono fun k _ h => by omega).trans (Keep.of_ext hxC)) : Keep (fun k => k < wl.heap.size) wr wC) fun k _ h => h)).ext hx0).at (i + 1) hi1
            cases e2
            refine q_val rfl rfl (fun _ hx => x_move rfl) ?_
            refine q_val rfl rfl (fun _ hx => x_move rfl) ?_
            refine q_val rfl rfl (fun _ hx => x_inc (s := i) rfl (by omega)) ?_
            refine q_val rfl rfl (fun _ hx => x_indexAddr Try.underlying26 ag25.siz rfl rfl (by omega) (by omega)) ?_
            refine q_val rfl rfl (fun _ hx => x_fieldAddr Try.underlying25 rfl fl9.siz rfl) ?_
            refine q_val rfl rfl (fun _ hx => x_load fl9 rfl (hx.cell (hC58 0 _ rfl))) ?_
            refine q_val rfl rfl (fun _ hx => x_fieldAddr Try.underlying25 rfl fl9.siz rfl) ?_
            refine q_val rfl rfl (fun _ hx => x_load fl9 rfl (hx.cell (hB16.cell (o := 0) rfl))) ?_
            refine q_nil (tail0 (fun wt hxt => ?_))
            replace hB16 := hB16.ext hxt
            replace hE := hE.trans hxt
            refine wl_val hW rfl rfl (x_sneq rfl rfl) ?_
            refine wl_val hW rfl rfl (x_pickT rfl rfl) ?_
            refine wl_val hW rfl rfl (x_pickF rfl rfl) ?_
            refine wl_nil ?_
            exact nx_cutE (!(all[i + 1].k.toList == all[i].k.toList)) (by repeat (first | exact sub_nil | refine sub_cons rfl ?_)) ⟨hx0.trans hxt, fun h => .inr ⟨hi1, fun e => by have e' : all[i + 1].k = all[i].k := e; rw [e'] at h; simp at h⟩, fun _ => by omega⟩
          · refine q_off rfl rfl ?_
            refine q_off rfl rfl ?_
            refine q_off rfl rfl ?_
            refine q_off rfl rfl ?_
            refine q_off rfl rfl ?_
            refine q_off rfl rfl ?_
            refine q_off rfl rfl ?_
            refine q_off rfl rfl ?_
            refine q_nil (tail0 (fun wt hxt => ?_))
            replace hB16 := hB16.ext hxt
            replace hE := hE.trans hxt
            refine wl_off hW rfl rfl ?_
            refine wl_val hW rfl rfl (x_pickF rfl rfl) ?_
            refine wl_val hW rfl rfl (x_pickF rfl rfl) ?_
            refine wl_nil ?_
            exact nx_cutE false (by repeat (first | exact sub_nil | refine sub_cons rfl ?_)) ⟨hx0.trans hxt, fun h => (by cases h), fun _ => by omega⟩
      · rintro u w' ⟨hxu, hu1, hu2⟩
        have hKu := hKC.trans (Keep.of_ext hxu)
        have hOu := hOC.ext hxu
        replace hE : Ext w w' := Keep.after hEl hKu (fun k hk => by omega)
        replace hB16 := hB16.ext hxu
        have hAllu := hAll.ck (CK.of_keep hKu fun k _ h => h)
        have hszu := hKu.size
        refine nx_then ?_
        refine wc_bool rfl (fun hc => ?_) (fun hc => ?_)
        · refine wc_seq ?_
          refine wc_region ?_
          refine wl_val hW rfl rfl (x_move rfl) ?_
          refine wl_val hW rfl rfl (x_move rfl) ?_
          refine wl_val hW rfl rfl (x_move rfl) ?_
          refine wl_val hW rfl rfl (x_move rfl) ?_
          refine wl_val hW rfl rfl (x_inc (s := i) rfl (by omega)) ?_
          refine wl_val hW rfl rfl (x_slice2 (i := from') (j := i + 1) Try.underlying26 ag25.siz rfl rfl rfl (by omega) (by omega)) ?_
          refine wl_call hW rfl rfl (x_call en77 rfl) ((C77 (hAllu.slice2 (i := from') (j := i + 1) (by omega) (by omega))).inF hFF) ?_
          rintro cv wD ⟨hCl, hxC2⟩
          replace hB16 := hB16.ext hxC2
          replace hE := hE.trans hxC2
          obtain ⟨acl, ccl, rfl, -, -⟩ := hCl.form
          refine wl_buildSlice (parts := [(0, .tmp 72)]) hW rfl rfl Try.underlying65 fl26.siz Try.zeroValue26 rfl rfl rfl (by omega) ?_
          intro b73 w73 hl73 hB73 hx73
          have g73 : w.heap.size ≤ b73 := Nat.le_trans hE.size hl73
          have n73_16 : b73 ≠ b16 := Nat.ne_of_gt (Nat.lt_of_lt_of_le hB16.lt hl73)
          replace hB16 := hB16.ext hx73
          replace hE := hE.trans hx73
          have hO73 := (hOu.ext hxC2).ext hx73
          have hCl73 := (hCl.mono (A' := fun k => True ∧ some k ≠ ov.ownBlock) fun k hk h => ⟨trivial, fun e => by have h1 : wl.heap.size ≤ k ∧ k < w'.heap.size := hOu.lt k e.symm; have h2 : k < wl.heap.size ∨ w'.heap.size ≤ k := h; omega⟩).ext hx73
          have hlen' := hCu.len
          have hsz73 := hx73.size
          have hszC2 := hxC2.size
          refine wl_appendL hW rfl rfl rfl rfl hO73 hCl73 hB73 (by omega) (by omega) ?_
          intro ov2 wA hO2 hkA hcA
          have hKA : Keep (fun k => k < wl.heap.size) wl wA := ((hKu.trans (Keep.of_ext hxC2)).trans (Keep.of_ext hx73)).then hkA fun k hk h e => by have := (hOu.lt k e.symm).1; omega
          refine wl_val hW rfl rfl (x_assign rfl) ?_
          refine wl_nil ?_
          refine nx_then ?_
          refine wc_region ?_
          refine wl_val hW rfl rfl (x_move rfl) ?_
          refine wl_val hW rfl rfl (x_inc (s := i) rfl (by omega)) ?_
          refine wl_val hW rfl rfl (x_assign rfl) ?_
          refine wl_val hW rfl rfl (x_assign rfl) ?_
          refine wl_nil ?_
          refine nx_block ?_
          refine nx_then ?_
          refine wc_region ?_
          refine wl_val hW rfl rfl (x_inc (s := i) rfl (by omega)) ?_
          refine wl_val hW rfl rfl (x_move rfl) ?_
          refine wl_nil ?_
          exact nx_next (i + 1, ov2, 0, i + 1) (by dsimp only; omega) ⟨⟨hlt, Nat.le_refl _, fun h => h, Nat.zero_le _, out ++ [(all.take (i + 1)).drop from'], hO2, hCu.snoc (by dsimp only; omega) hlt (hu1 hc)⟩, hKA⟩ (by repeat (first | exact sub_nil | refine sub_cons rfl ?_))
        · refine wc_skip ?_
          refine nx_block ?_
          refine nx_then ?_
          refine wc_region ?_
          refine wl_val hW rfl rfl (x_inc (s := i) rfl (by omega)) ?_
          refine wl_val hW rfl rfl (x_move rfl) ?_
          refine wl_nil ?_
          exact nx_next (i + 1, ov, sum + costE all[i], from') (by dsimp only; omega) ⟨⟨hlt, by dsimp only; omega, fun h => absurd h (hu2 hc), by dsimp only; omega, out, hOu, hCu⟩, hKu⟩ (by repeat (first | exact sub_nil | refine sub_cons rfl ?_))
    · refine wc_exit ?_
      refine nx_then_exit ?_
      refine nx_then_exit ?_
      refine nx_block_exit ?_
      refine nx_then ?_
      refine wc_seq ?_
      refine wc_region ?_
      have hie : i = all.length := by have h' : ¬ ((i : Nat) : Int) < all.length := hc; omega
      rw [hfe hie] at hCu
      refine wl_val hW rfl rfl (x_move rfl) ?_
      refine wl_val hW rfl rfl (x_assign rfl) ?_
      refine wl_val hW rfl rfl (x_assign rfl) ?_
      refine wl_nil ?_
      refine nx_then ?_
      refine wc_ret ?_
      exact ends_ret (res_tmp2 Try.results49 rfl rfl) ⟨⟨ov, out, rfl, hO.rebase2 (fun b hb => by have := (hO.lt b hb).1; omega), hCu⟩, hE⟩
end Go.Proofs.Ytblbddamebbgaaa.K


/- Walk: the law CompactKeeps. -/
namespace Go.Proofs.Ytblbddamebbgaaa.K
open Go Go.RowKit
set_option linter.unusedVariables false
set_option linter.unusedSimpArgs false

theorem C23q {w : World} {v : Value} {es : List Ent} {up : Int} (hR : Row (fun k => k < w.heap.size) w v es) (hr : rightB es = true) : Rt Try.prog 23 [v, .int .u64 up] w fun r w' => (∃ rv, r = .tuple #[rv, .int .i64 0] ∧ Row (fun _ => True) w' rv (seenL up es)) ∧ Ext w w' :=
  (C23 hR).mono fun r w' ⟨⟨rv, h1, h2⟩, h3⟩ => ⟨by
    rw [hr] at h1 h2
    exact ⟨rv, h1, by rw [← rSeen_is]; exact h2⟩, h3⟩
theorem C47w {w w0 : World} {v : Value} {ls : List (List Ent)} (hL : LRow (fun k => k < w0.heap.size) w v ls) (htot : tot ls ≤ 100000) (hr : ls.all rightB = true) (hs : w0.heap.size ≤ w.heap.size) : Rt Try.prog 47 [v] w fun r w' => (∃ rv, r = .tuple #[rv, .int .i64 0] ∧ Row (fun k => k < w'.heap.size) w' rv (mrg ls)) ∧ Ext w w' :=
  (C47 (hL.mono fun k hk _ => hk) (by omega)).mono fun r w' ⟨⟨rv, h1, h2⟩, h3⟩ => ⟨⟨rv, by rw [h1, hr]; rfl, by rw [hr, if_pos rfl] at h2; exact h2.mono fun k hk _ => hk⟩, h3⟩

end Go.Proofs.Ytblbddamebbgaaa.K


/- Walks: tables compared, found, parted; a list's table. -/
namespace Go.Proofs.Ytblbddamebbgaaa.K
open Go Go.RowKit
set_option linter.unusedVariables false
set_option linter.unusedSimpArgs false

section
variable {m : Nat} {D : List Deferred} {L : Env} {w : World} {ty : TypeId} {x y : Operand}
theorem sle_false {s r : ByteArray} (h : bl r.toList s.toList = true) : (Op.bytesLess s.toList r.toList || s.toList == r.toList) = false := by
  have h1 : bl s.toList r.toList = false := bl_asymm _ _ h
  have h2 : (s.toList == r.toList) = false := by
    cases he : s.toList == r.toList with
    | false => rfl
    | true =>
      have he' := eq_of_beq he
      rw [he', bl_irrefl] at h
      cases h
  rw [show Op.bytesLess s.toList r.toList = false from h1, h2]; rfl
theorem x_sleF {P : Program} {t t' : TypeId} {s r : ByteArray} (hx : ev L x = some (.string s)) (hy : ev L y = some (.string r)) (h : bl r.toList s.toList = true) : Xv P m D L (.binOp .leq t x y t') ty w (.bool false) w := by
  have := x_sleq (P := P) (m := m) (D := D) (t := t) (t' := t') (ty := ty) (w := w) hx hy
  rwa [sle_false h] at this
theorem build87f {t : Tb} (w : World) : (Instr.build 87 [(0, Value.int .i64 t.f), (1, Value.int .i64 t.l), (2, Value.string t.a), (3, Value.string t.z), (4, Value.int .i64 t.s)].toArray).run Try.prog w = .ok (.agg (cellsT t).toArray) w := by
  simp [Instr.build, run_underlying Try.underlying87, Try.zeroValue87, fl3.siz w, fl9.siz w]
  rfl
theorem x_build87f {t : Tb} {x0 x1 x2 x3 x4 : Operand} (h0 : ev L x0 = some (.int .i64 t.f)) (h1 : ev L x1 = some (.int .i64 t.l)) (h2 : ev L x2 = some (.string t.a)) (h3 : ev L x3 = some (.string t.z)) (h4 : ev L x4 = some (.int .i64 t.s)) :
    Xv Try.prog m D L (.build 87 #[(0, x0), (1, x1), (2, x2), (3, x3), (4, x4)]) ty w (.agg (cellsT t).toArray) w :=
  x_build (parts := [(0, x0), (1, x1), (2, x2), (3, x3), (4, x4)]) Try.underlying87 Try.zeroValue87 (pv := [(0, .int .i64 t.f), (1, .int .i64 t.l), (2, .string t.a), (3, .string t.z), (4, .int .i64 t.s)]) (fun a h => by show [(0, a.eval x0), (1, a.eval x1), (2, a.eval x2), (3, a.eval x3), (4, a.eval x4)] = _; rw [h.ev h0, h.ev h1, h.ev h2, h.ev h3, h.ev h4]) build87f
end

theorem C89 {A : Nat → Prop} {w : World} {v : Value} {ts : List Tb} {f : Int} (hR : TRow A w v ts) : Rt Try.prog 89 [v, .int .i64 f] w fun r w' => (∃ p : Int, r = .int .i64 p ∧ ((∃ (i : Nat) (h : i < ts.length), p = i ∧ ts[i].f = f) ∨ (p = -1 ∧ ∀ t ∈ ts, t.f ≠ f))) ∧ Ext w w' := by
  obtain ⟨ad, cap, rfl, hcap, hlen⟩ := hR.form
  have hW := hWw
  have hFF := hFw
  have hE : Ext w w := Keep.refl _ _
  refine rt_body Try.func89 rfl Try.ntmps89 rfl ?_
  refine wc_seq ?_
  refine wc_region ?_
  refine wl_val hW rfl rfl (x_assign rfl) ?_
  refine wl_nil ?_
  refine nx_then ?_
  refine wc_seq ?_
  refine wc_seq ?_
  refine wc_region ?_
  refine wl_val hW rfl rfl (x_assign rfl) ?_
  refine wl_nil ?_
  refine nx_then ?_
  refine wc_block ?_
  refine wc_loop (σ := Nat) (fun s => [(0, .slice ad ts.length cap), (1, .int .i64 f), (5, .int .i64 s)]) (fun s w' => (s ≤ ts.length ∧ ∀ (i : Nat) (h : i < ts.length), i < s → ts[i].f ≠ f) ∧ Ext w w') (fun s => ts.length - s) 0 ?_ ?_ ?_
  · exact ⟨⟨Nat.zero_le _, fun i h hi => by omega⟩, hE⟩
  · repeat (first | exact sub_nil | refine sub_cons rfl ?_)
  · rintro s wr ⟨⟨hs, hno⟩, hE⟩
    refine wc_seq ?_
    refine wc_seq ?_
    refine wc_region ?_
    refine wl_val hW rfl rfl (x_move rfl) ?_
    refine wl_val hW rfl rfl (x_move rfl) ?_
    refine wl_val hW rfl rfl (x_len Try.underlying80 rfl) ?_
    refine wl_val hW rfl rfl (x_lss rfl rfl) ?_
    refine wl_nil ?_
    refine nx_then ?_
    refine wc_dec rfl (fun hc => ?_) (fun hc => ?_)
    · replace hc : ((s : Nat) : Int) < ts.length := hc
      have hlt : s < ts.length := by omega
      obtain ⟨b, o, cap', e1, hA, hC14⟩ := (hR.ext hE).at s hlt
      cases e1
      refine wc_skip ?_
      refine nx_then ?_
      refine wc_seq ?_
      refine wc_block ?_
      refine wc_seq ?_
      refine wc_region ?_
      refine wl_val hW rfl rfl (x_move rfl) ?_
      refine wl_val hW rfl rfl (x_move rfl) ?_
      refine wl_val hW rfl rfl (x_indexAddr Try.underlying80 ag87.siz rfl rfl (by omega) (by omega)) ?_
      refine wl_val hW rfl rfl (x_fieldAddr Try.underlying87 rfl fl3.siz rfl) ?_
      refine wl_val hW rfl rfl (x_load fl3 rfl (hC14 0 _ rfl)) ?_
      refine wl_val hW rfl rfl (x_move rfl) ?_
      refine wl_val hW rfl rfl (x_eql rfl rfl) ?_
      refine wl_nil ?_
      refine nx_then ?_
      refine wc_dec rfl (fun hc => ?_) (fun hc => ?_)
      · refine wc_seq ?_
        refine wc_region ?_
        refine wl_val hW rfl rfl (x_move rfl) ?_
        refine wl_val hW rfl rfl (x_assign rfl) ?_
        refine wl_nil ?_
        refine nx_then ?_
        refine wc_ret ?_
        refine nx_block_ret ?_
        refine nx_then_ret ?_
        refine nx_then_ret ?_
        refine nx_block_ret ?_
        refine nx_then_ret ?_
        exact ends_ret (res_tmp Try.results89 rfl) ⟨⟨_, rfl, .inl ⟨s, hlt, rfl, hc⟩⟩, hE⟩
      · refine wc_skip ?_
        refine nx_block ?_
        refine nx_then ?_
        refine wc_region ?_
        refine wl_val hW rfl rfl (x_move rfl) ?_
        refine wl_val hW rfl rfl (x_inc (s := s) rfl (by omega)) ?_
        refine wl_val hW rfl rfl (x_assign rfl) ?_
        refine wl_nil ?_
        exact nx_next (s + 1) (by omega) ⟨⟨hlt, fun i h hi => by rcases Nat.lt_or_ge i s with h1 | h1; exact hno i h h1; (obtain rfl : i = s := by omega); exact hc⟩, hE⟩ (by repeat (first | exact sub_nil | refine sub_cons rfl ?_))
    · refine wc_exit ?_
      refine nx_then_exit ?_
      refine nx_then_exit ?_
      refine nx_block_exit ?_
      refine nx_then ?_
      replace hc : ¬ ((s : Nat) : Int) < ts.length := hc
      refine wc_seq ?_
      refine wc_region ?_
      refine wl_val hW rfl rfl (x_assign rfl) ?_
      refine wl_nil ?_
      refine nx_then ?_
      refine wc_ret ?_
      exact ends_ret (res_tmp Try.results89 rfl) ⟨⟨_, rfl, .inr ⟨rfl, fun t ht => by obtain ⟨i, hi, rfl⟩ := List.mem_iff_getElem.1 ht; exact hno i hi (by omega)⟩⟩, hE⟩
/-- No two tables of a level from 1 on share a key. -/
def PD (ts : List Tb) : Prop := ∀ (i j : Nat) (hi : i < ts.length) (hj : j < ts.length), j < i → 1 ≤ ts[i].l → ts[i].l = ts[j].l → bl ts[j].z.toList ts[i].a.toList = true ∨ bl ts[i].z.toList ts[j].a.toList = true
theorem C91 {A : Nat → Prop} {w : World} {v : Value} {ts : List Tb} (hR : TRow A w v ts) (hP : PD ts) : Rt Try.prog 91 [v] w fun r w' => r = .bool true ∧ Ext w w' := by
  obtain ⟨ad, cap, rfl, hcap, hlen⟩ := hR.form
  have hW := hWw
  have hFF := hFw
  have hE : Ext w w := Keep.refl _ _
  refine rt_body Try.func91 rfl Try.ntmps91 rfl ?_
  refine wc_seq ?_
  refine wc_region ?_
  refine wl_val hW rfl rfl (x_assign rfl) ?_
  refine wl_nil ?_
  refine nx_then ?_
  refine wc_seq ?_
  refine wc_seq ?_
  refine wc_region ?_
  refine wl_val hW rfl rfl (x_assign rfl) ?_
  refine wl_nil ?_
  refine nx_then ?_
  refine wc_block ?_
  refine wc_loop (σ := Nat) (fun s => [(0, .slice ad ts.length cap), (3, .int .i64 s)]) (fun s w' => s ≤ ts.length ∧ Ext w w') (fun s => ts.length - s) 0 ?_ ?_ ?_
  · exact ⟨Nat.zero_le _, hE⟩
  · repeat (first | exact sub_nil | refine sub_cons rfl ?_)
  · rintro i wr ⟨hi, hE⟩
    refine wc_seq ?_
    refine wc_seq ?_
    refine wc_region ?_
    refine wl_val hW rfl rfl (x_move rfl) ?_
    refine wl_val hW rfl rfl (x_move rfl) ?_
    refine wl_val hW rfl rfl (x_len Try.underlying80 rfl) ?_
    refine wl_val hW rfl rfl (x_lss rfl rfl) ?_
    refine wl_nil ?_
    refine nx_then ?_
    refine wc_dec rfl (fun hc => ?_) (fun hc => ?_)
    · replace hc : ((i : Nat) : Int) < ts.length := hc
      have hlt : i < ts.length := by omega
      have hEr := hE
      clear hE
      have hE := Keep.refl (fun _ => True) wr
      refine wc_skip ?_
      refine nx_then ?_
      refine wc_seq ?_
      refine wc_block ?_
      refine wc_seq ?_
      refine wc_region ?_
      refine wl_val hW rfl rfl (x_assign rfl) ?_
      refine wl_nil ?_
      refine nx_then ?_
      refine wc_block ?_
      refine wc_loop (σ := Nat) (fun s => [(0, .slice ad ts.length cap), (3, .int .i64 i), (4, .int .i64 s)]) (fun s w' => s ≤ i ∧ Ext wr w') (fun s => i - s) 0 ?_ ?_ ?_
      · exact ⟨Nat.zero_le _, hE⟩
      · repeat (first | exact sub_nil | refine sub_cons rfl ?_)
      · rintro k wr2 ⟨hk, hE⟩
        refine wc_seq ?_
        refine wc_seq ?_
        refine wc_region ?_
        refine wl_val hW rfl rfl (x_move rfl) ?_
        refine wl_val hW rfl rfl (x_move rfl) ?_
        refine wl_val hW rfl rfl (x_lss rfl rfl) ?_
        refine wl_nil ?_
        refine nx_then ?_
        refine wc_dec rfl (fun hc => ?_) (fun hc => ?_)
        · replace hc : ((k : Nat) : Int) < ((i : Nat) : Int) := hc
          have hlk : k < i := by omega
          have hk2 : k < ts.length := by omega
          refine wc_skip ?_
          refine nx_then ?_
          refine wc_seq ?_
          refine wc_block ?_
          refine wc_seq ?_
          refine wc_cut [(0, .slice ad ts.length cap), (3, .int .i64 i), (4, .int .i64 k), (60, .bool false)] (fun w' => Ext wr w') ?_ ?_
          · refine wc_draw' 45 hW mixed (by kernel_rfl) (fun w0 hx0 => ?_)
            replace hE := hE.trans hx0
            obtain ⟨b, o, cap', e1, hA, hC18⟩ := (hR.ext (hEr.trans hE)).at i hlt
            cases e1
            obtain ⟨b', o', cap'', e2, hA', hC30⟩ := (hR.ext (hEr.trans hE)).at k hk2
            cases e2
            have hC25 := hC18
            have hC38 := hC18
            have hC56 := hC18
            have hC43 := hC30
            have hC51 := hC30
            refine q_val rfl rfl (fun _ hx => x_move rfl) ?_
            refine q_val rfl rfl (fun _ hx => x_move rfl) ?_
            refine q_val rfl rfl (fun _ hx => x_indexAddr Try.underlying80 ag87.siz rfl rfl (by omega) (by omega)) ?_
            refine q_val rfl rfl (fun _ hx => x_fieldAddr Try.underlying87 rfl fl3.siz rfl) ?_
            refine q_val rfl rfl (fun _ hx => x_load fl3 rfl (hx.cell (hC18 1 _ rfl))) ?_
            refine q_val rfl rfl (fun _ hx => x_geq rfl rfl) ?_
            refine q_val rfl rfl (fun _ hx => x_move rfl) ?_
            refine q_dcases (d := 22) rfl (fun hg22 => ?_) (fun hg22 => ?_)
            · refine q_val rfl rfl (fun _ hx => x_move rfl) ?_
              refine q_val rfl rfl (fun _ hx => x_move rfl) ?_
              refine q_val rfl rfl (fun _ hx => x_indexAddr Try.underlying80 ag87.siz rfl rfl (by omega) (by omega)) ?_
              refine q_val rfl rfl (fun _ hx => x_fieldAddr Try.underlying87 rfl fl3.siz rfl) ?_
              refine q_val rfl rfl (fun _ hx => x_load fl3 rfl (hx.cell (hC25 1 _ rfl))) ?_
              refine q_val rfl rfl (fun _ hx => x_move rfl) ?_
              refine q_val rfl rfl (fun _ hx => x_move rfl) ?_
              refine q_val rfl rfl (fun _ hx => x_indexAddr Try.underlying80 ag87.siz rfl rfl (by omega) (by omega)) ?_
              refine q_val rfl rfl (fun _ hx => x_fieldAddr Try.underlying87 rfl fl3.siz rfl) ?_
              refine q_val rfl rfl (fun _ hx => x_load fl3 rfl (hx.cell (hC30 1 _ rfl))) ?_
              refine q_val rfl rfl (fun _ hx => x_eql rfl rfl) ?_
              refine q_val rfl rfl (fun _ hx => x_pickT rfl rfl) ?_
              refine q_val rfl rfl (fun _ hx => x_move rfl) ?_
              refine q_dcases (d := 35) rfl (fun hg35 => ?_) (fun hg35 => ?_)
              · refine q_val rfl rfl (fun _ hx => x_move rfl) ?_
                refine q_val rfl rfl (fun _ hx => x_move rfl) ?_
                refine q_val rfl rfl (fun _ hx => x_indexAddr Try.underlying80 ag87.siz rfl rfl (by omega) (by omega)) ?_
                refine q_val rfl rfl (fun _ hx => x_fieldAddr Try.underlying87 rfl fl9.siz rfl) ?_
                refine q_val rfl rfl (fun _ hx => x_load fl9 rfl (hx.cell (hC38 2 _ rfl))) ?_
                refine q_val rfl rfl (fun _ hx => x_move rfl) ?_
                refine q_val rfl rfl (fun _ hx => x_move rfl) ?_
                refine q_val rfl rfl (fun _ hx => x_indexAddr Try.underlying80 ag87.siz rfl rfl (by omega) (by omega)) ?_
                refine q_val rfl rfl (fun _ hx => x_fieldAddr Try.underlying87 rfl fl9.siz rfl) ?_
                refine q_val rfl rfl (fun _ hx => x_load fl9 rfl (hx.cell (hC43 3 _ rfl))) ?_
                refine q_val rfl rfl (fun _ hx => x_sleq rfl rfl) ?_
                refine q_val rfl rfl (fun _ hx => x_pickT rfl rfl) ?_
                refine q_val rfl rfl (fun _ hx => x_move rfl) ?_
                refine q_bcases (d := 48) rfl (fun hg48 => ?_) (fun hg48 => ?_)
                · have hsec : bl ts[i].z.toList ts[k].a.toList = true := by rcases hP i k hlt hk2 hlk hg22 hg35 with h | h; (rw [sle_false h] at hg48; cases hg48); exact h
                  refine q_val rfl rfl (fun _ hx => x_move rfl) ?_
                  refine q_val rfl rfl (fun _ hx => x_move rfl) ?_
                  refine q_val rfl rfl (fun _ hx => x_indexAddr Try.underlying80 ag87.siz rfl rfl (by omega) (by omega)) ?_
                  refine q_val rfl rfl (fun _ hx => x_fieldAddr Try.underlying87 rfl fl9.siz rfl) ?_
                  refine q_val rfl rfl (fun _ hx => x_load fl9 rfl (hx.cell (hC51 2 _ rfl))) ?_
                  refine q_val rfl rfl (fun _ hx => x_move rfl) ?_
                  refine q_val rfl rfl (fun _ hx => x_move rfl) ?_
                  refine q_val rfl rfl (fun _ hx => x_indexAddr Try.underlying80 ag87.siz rfl rfl (by omega) (by omega)) ?_
                  refine q_val rfl rfl (fun _ hx => x_fieldAddr Try.underlying87 rfl fl9.siz rfl) ?_
                  refine q_val rfl rfl (fun _ hx => x_load fl9 rfl (hx.cell (hC56 3 _ rfl))) ?_
                  refine q_val rfl rfl (fun _ hx => x_sleF rfl rfl hsec) ?_
                  refine q_val rfl rfl (fun _ hx => x_pickT rfl rfl) ?_
                  refine q_nil (tail0 (fun wt hxt => ?_))
                  replace hE := hE.trans hxt
                  refine wl_nil ?_
                  exact nx_cut (by repeat (first | exact sub_nil | refine sub_cons rfl ?_)) hE
                · refine q_off rfl rfl ?_
                  refine q_off rfl rfl ?_
                  refine q_off rfl rfl ?_
                  refine q_off rfl rfl ?_
                  refine q_off rfl rfl ?_
                  refine q_off rfl rfl ?_
                  refine q_off rfl rfl ?_
                  refine q_off rfl rfl ?_
                  refine q_off rfl rfl ?_
                  refine q_off rfl rfl ?_
                  refine q_off rfl rfl ?_
                  refine q_val rfl rfl (fun _ hx => x_pickF rfl rfl) ?_
                  refine q_nil (tail0 (fun wt hxt => ?_))
                  replace hE := hE.trans hxt
                  refine wl_nil ?_
                  exact nx_cut (by repeat (first | exact sub_nil | refine sub_cons rfl ?_)) hE
              · refine q_off rfl rfl ?_
                refine q_off rfl rfl ?_
                refine q_off rfl rfl ?_
                refine q_off rfl rfl ?_
                refine q_off rfl rfl ?_
                refine q_off rfl rfl ?_
                refine q_off rfl rfl ?_
                refine q_off rfl rfl ?_
                refine q_off rfl rfl ?_
                refine q_off rfl rfl ?_
                refine q_off rfl rfl ?_
                refine q_val rfl rfl (fun _ hx => x_pickF rfl rfl) ?_
                refine q_val rfl rfl (fun _ hx => x_move rfl) ?_
                refine q_off rfl rfl ?_
                refine q_off rfl rfl ?_
                refine q_off rfl rfl ?_
                refine q_off rfl rfl ?_
                refine q_off rfl rfl ?_
                refine q_off rfl rfl ?_
                refine q_off rfl rfl ?_
                refine q_off rfl rfl ?_
                refine q_off rfl rfl ?_
                refine q_off rfl rfl ?_
                refine q_off rfl rfl ?_
                refine q_val rfl rfl (fun _ hx => x_pickF rfl rfl) ?_
                refine q_nil (tail0 (fun wt hxt => ?_))
                replace hE := hE.trans hxt
                refine wl_nil ?_
                exact nx_cut (by repeat (first | exact sub_nil | refine sub_cons rfl ?_)) hE
            · refine q_off rfl rfl ?_
              refine q_off rfl rfl ?_
              refine q_off rfl rfl ?_
              refine q_off rfl rfl ?_
              refine q_off rfl rfl ?_
              refine q_off rfl rfl ?_
              refine q_off rfl rfl ?_
              refine q_off rfl rfl ?_
              refine q_off rfl rfl ?_
              refine q_off rfl rfl ?_
              refine q_off rfl rfl ?_
              refine q_val rfl rfl (fun _ hx => x_pickF rfl rfl) ?_
              refine q_val rfl rfl (fun _ hx => x_move rfl) ?_
              refine q_off rfl rfl ?_
              refine q_off rfl rfl ?_
              refine q_off rfl rfl ?_
              refine q_off rfl rfl ?_
              refine q_off rfl rfl ?_
              refine q_off rfl rfl ?_
              refine q_off rfl rfl ?_
              refine q_off rfl rfl ?_
              refine q_off rfl rfl ?_
              refine q_off rfl rfl ?_
              refine q_off rfl rfl ?_
              refine q_val rfl rfl (fun _ hx => x_pickF rfl rfl) ?_
              refine q_val rfl rfl (fun _ hx => x_move rfl) ?_
              refine q_off rfl rfl ?_
              refine q_off rfl rfl ?_
              refine q_off rfl rfl ?_
              refine q_off rfl rfl ?_
              refine q_off rfl rfl ?_
              refine q_off rfl rfl ?_
              refine q_off rfl rfl ?_
              refine q_off rfl rfl ?_
              refine q_off rfl rfl ?_
              refine q_off rfl rfl ?_
              refine q_off rfl rfl ?_
              refine q_val rfl rfl (fun _ hx => x_pickF rfl rfl) ?_
              refine q_nil (tail0 (fun wt hxt => ?_))
              replace hE := hE.trans hxt
              refine wl_nil ?_
              exact nx_cut (by repeat (first | exact sub_nil | refine sub_cons rfl ?_)) hE
          · rintro w' hE
            refine nx_then ?_
            refine wc_false rfl ?_
            refine wc_skip ?_
            refine nx_block ?_
            refine nx_then ?_
            refine wc_region ?_
            refine wl_val hW rfl rfl (x_move rfl) ?_
            refine wl_val hW rfl rfl (x_inc (s := k) rfl (by omega)) ?_
            refine wl_val hW rfl rfl (x_assign rfl) ?_
            refine wl_nil ?_
            exact nx_next (k + 1) (by omega) ⟨hlk, hE⟩ (by repeat (first | exact sub_nil | refine sub_cons rfl ?_))
        · refine wc_exit ?_
          refine nx_then_exit ?_
          refine nx_then_exit ?_
          refine nx_block_exit ?_
          refine nx_block ?_
          refine nx_then ?_
          refine wc_region ?_
          refine wl_val hW rfl rfl (x_move rfl) ?_
          refine wl_val hW rfl rfl (x_inc (s := i) rfl (by omega)) ?_
          refine wl_val hW rfl rfl (x_assign rfl) ?_
          refine wl_nil ?_
          exact nx_next (i + 1) (by omega) ⟨hlt, hEr.trans hE⟩ (by repeat (first | exact sub_nil | refine sub_cons rfl ?_))
    · refine wc_exit ?_
      refine nx_then_exit ?_
      refine nx_then_exit ?_
      refine nx_block_exit ?_
      refine nx_then ?_
      refine wc_seq ?_
      refine wc_region ?_
      refine wl_val hW rfl rfl (x_assign rfl) ?_
      refine wl_nil ?_
      refine nx_then ?_
      refine wc_ret ?_
      exact ends_ret (res_tmp Try.results91 rfl) ⟨rfl, hE⟩
theorem sizeL_take1 {es : List Ent} {s : Nat} (h : s < es.length) : sizeL (es.take (s + 1)) = sizeL (es.take s) + costE es[s] := by
  rw [← List.take_append_getElem h, sizeL_append, sizeL_cons]; simp [sizeL]
/-- The table of a list. -/
def tabOf (f lv : Int) (es : List Ent) : Tb := ⟨f, lv, (es.head?.map (·.k)).getD ⟨#[]⟩, (es.getLast?.map (·.k)).getD ⟨#[]⟩, (sizeL es : Nat)⟩
theorem C52 {A : Nat → Prop} {w : World} {v : Value} {es : List Ent} {f lv : Int} (hR : Row A w v es) (hne : 0 < es.length) (hl : es.length ≤ 100000) : Rt Try.prog 52 [.int .i64 f, .int .i64 lv, v] w fun r w' => r = .agg (cellsT (tabOf f lv es)).toArray ∧ Ext w w' := by
  obtain ⟨ad, cap, rfl, hcap, hlen⟩ := hR.form
  have hok := hR.ok
  have hW := hWw
  have hFF := hFw
  have hE : Ext w w := Keep.refl _ _
  refine rt_body Try.func52 rfl Try.ntmps52 rfl ?_
  refine wc_seq ?_
  refine wc_region ?_
  refine wl_alloc (cs := [.int .i64 0, .int .i64 0, .string ⟨#[]⟩, .string ⟨#[]⟩, .int .i64 0]) hW rfl rfl Try.zeroValue87 rfl ?_
  intro b6 w6 hl6 hB6 hx6
  have g6 : w.heap.size ≤ b6 := Nat.le_trans hE.size hl6
  replace hE := hE.trans hx6
  refine wl_nil ?_
  refine nx_then ?_
  refine wc_seq ?_
  refine wc_region ?_
  refine wl_val hW rfl rfl (x_assign rfl) ?_
  refine wl_nil ?_
  refine nx_then ?_
  refine wc_seq ?_
  refine wc_seq ?_
  refine wc_region ?_
  refine wl_val hW rfl rfl (x_assign rfl) ?_
  refine wl_nil ?_
  refine nx_then ?_
  refine wc_block ?_
  refine wc_loop (σ := Nat) (fun s => [(0, .int .i64 f), (1, .int .i64 lv), (2, .slice ad es.length cap), (6, .pointer (some ⟨b6, 0, none⟩)), (7, .int .i64 (sizeL (es.take s) : Nat)), (8, .int .i64 s)]) (fun s w' => (s ≤ es.length ∧ sizeL (es.take s) ≤ s * 4194304) ∧ Ext w w' ∧ Blk w' b6 [.int .i64 0, .int .i64 0, .string ⟨#[]⟩, .string ⟨#[]⟩, .int .i64 0] 87) (fun s => es.length - s) 0 ?_ ?_ ?_
  · exact ⟨⟨Nat.zero_le _, by simp [sizeL]⟩, hE, hB6⟩
  · repeat (first | exact sub_nil | refine sub_cons rfl ?_)
  · rintro s wr ⟨⟨hs, hsm⟩, hE, hB6⟩
    refine wc_seq ?_
    refine wc_seq ?_
    refine wc_region ?_
    refine wl_val hW rfl rfl (x_move rfl) ?_
    refine wl_val hW rfl rfl (x_move rfl) ?_
    refine wl_val hW rfl rfl (x_len Try.underlying26 rfl) ?_
    refine wl_val hW rfl rfl (x_lss rfl rfl) ?_
    refine wl_nil ?_
    refine nx_then ?_
    refine wc_dec rfl (fun hc => ?_) (fun hc => ?_)
    · replace hc : ((s : Nat) : Int) < es.length := hc
      have hlt : s < es.length := by omega
      obtain ⟨b, o, cap', bv, e1, hA, hC18, hb1, hok1⟩ := (hR.ext hE).at s hlt
      cases e1
      have hst := sizeL_take1 hlt
      have hcst := cost_le hok1
      refine wc_skip ?_
      refine nx_then ?_
      refine wc_seq ?_
      refine wc_block ?_
      refine wc_region ?_
      refine wl_val hW rfl rfl (x_move rfl) ?_
      refine wl_val hW rfl rfl (x_move rfl) ?_
      refine wl_val hW rfl rfl (x_move rfl) ?_
      refine wl_val hW rfl rfl (x_indexAddr Try.underlying26 ag25.siz rfl rfl (by omega) (by omega)) ?_
      refine wl_val hW rfl rfl (x_loadA ag25 rfl hC18 rfl) ?_
      refine wl_call hW rfl rfl (x_call en76 rfl) ((C76 hb1 hok1).inF hFF) ?_
      rintro _ wC ⟨rfl, hxC⟩
      replace hB6 := hB6.ext hxC
      replace hE := hE.trans hxC
      refine wl_val hW rfl rfl (x_addn (i := sizeL (es.take s)) (j := costE es[s]) rfl rfl (by omega)) ?_
      refine wl_val hW rfl rfl (x_assign rfl) ?_
      refine wl_nil ?_
      refine nx_block ?_
      refine nx_then ?_
      refine wc_region ?_
      refine wl_val hW rfl rfl (x_move rfl) ?_
      refine wl_val hW rfl rfl (x_inc (s := s) rfl (by omega)) ?_
      refine wl_val hW rfl rfl (x_assign rfl) ?_
      refine wl_nil ?_
      exact nx_next (s + 1) (by omega) ⟨⟨hlt, by rw [hst]; omega⟩, hE, hB6⟩ (by rw [hst]; repeat (first | exact sub_nil | refine sub_cons rfl ?_))
    · refine wc_exit ?_
      refine nx_then_exit ?_
      refine nx_then_exit ?_
      refine nx_block_exit ?_
      refine nx_then ?_
      have hse : s = es.length := by have h' : ¬ ((s : Nat) : Int) < es.length := hc; omega
      subst hse
      rw [List.take_length]
      refine wc_seq ?_
      refine wc_draw' 15 hW mixed (by kernel_rfl) (fun w0 hx0 => ?_)
      replace hB6 := hB6.ext hx0
      replace hE := hE.trans hx0
      obtain ⟨b, o, cap', bv, e1, hA, hC25, hb1, hok1⟩ := (hR.ext hE).at 0 hne
      cases e1
      obtain ⟨b', o', cap'', bv', e2, hA', hC32, hb2, hok2⟩ := (hR.ext hE).at (es.length - 1) (by omega)
      cases e2
      have hfk : (tabOf f lv es).a = (es[0]).k := by show (es.head?.map (·.k)).getD _ = _; rw [List.head?_eq_getElem?, List.getElem?_eq_getElem hne]; rfl
      have hlk : (tabOf f lv es).z = (es[es.length - 1]'(by omega)).k := by show (es.getLast?.map (·.k)).getD _ = _; rw [List.getLast?_eq_getElem?, List.getElem?_eq_getElem (by omega)]; rfl
      refine q_val rfl rfl (fun _ hx => x_move rfl) ?_
      refine q_val rfl rfl (fun _ hx => x_move rfl) ?_
      refine q_val rfl rfl (fun _ hx => x_move rfl) ?_
      refine q_val rfl rfl (fun _ hx => x_indexAddr Try.underlying26 ag25.siz rfl rfl (by omega) (by omega)) ?_
      refine q_val rfl rfl (fun _ hx => x_fieldAddr Try.underlying25 rfl fl9.siz rfl) ?_
      refine q_val rfl rfl (fun _ hx => x_load fl9 rfl (hx.cell (hC25 0 _ rfl))) ?_
      refine q_val rfl rfl (fun _ hx => x_move rfl) ?_
      refine q_val rfl rfl (fun _ hx => x_move rfl) ?_
      refine q_val rfl rfl (fun _ hx => x_len Try.underlying26 rfl) ?_
      refine q_val rfl rfl (fun _ hx => x_subn (i := es.length) (j := 1) rfl rfl (by omega) (by omega)) ?_
      refine q_val rfl rfl (fun _ hx => x_indexAddr Try.underlying26 ag25.siz rfl rfl (by omega) (by omega)) ?_
      refine q_val rfl rfl (fun _ hx => x_fieldAddr Try.underlying25 rfl fl9.siz rfl) ?_
      refine q_val rfl rfl (fun _ hx => x_load fl9 rfl (hx.cell (hC32 0 _ rfl))) ?_
      refine q_val rfl rfl (fun _ hx => x_move rfl) ?_
      refine q_val rfl rfl (fun _ hx => x_build87f (t := tabOf f lv es) rfl rfl (by rw [hfk]; rfl) (by rw [hlk]; rfl) rfl) ?_
      refine q_nil (tail0 (fun wt hxt => ?_))
      replace hB6 := hB6.ext hxt
      replace hE := hE.trans hxt
      refine wl_storeA hW rfl ag87 rfl rfl rfl rfl hB6 rfl ?_
      intro wS hBS hkS
      replace hB6 := hBS
      clear hBS
      replace hE := hE.store hkS g6
      refine wl_nil ?_
      refine nx_then ?_
      refine wc_ret ?_
      exact ends_ret (res_cell Try.results52 rfl (run_loadVar_cells ag87 hB6.cells rfl)) ⟨rfl, hE⟩
end Go.Proofs.Ytblbddamebbgaaa.K


/- Walks: a table added, tables dropped. -/
namespace Go.Proofs.Ytblbddamebbgaaa.K
open Go Go.RowKit
set_option linter.unusedVariables false
set_option linter.unusedSimpArgs false

theorem tflat_take : ∀ (ts : List Tb) (s : Nat), (ts.flatMap cellsT).take (s * 5) = (ts.take s).flatMap cellsT
  | [], s => by simp
  | t :: ts, 0 => by simp
  | t :: ts, s + 1 => by
    simp only [List.flatMap_cons, List.take_succ_cons]
    rw [show (s + 1) * 5 = (cellsT t).length + s * 5 from by rw [cellsT_len]; omega, List.take_length_add_append, tflat_take ts s]
theorem tflat_drop : ∀ (ts : List Tb) (s : Nat), (ts.flatMap cellsT).drop (s * 5) = (ts.drop s).flatMap cellsT
  | [], s => by simp
  | t :: ts, 0 => by simp
  | t :: ts, s + 1 => by
    simp only [List.flatMap_cons, List.drop_succ_cons]
    rw [show (s + 1) * 5 = (cellsT t).length + s * 5 from by rw [cellsT_len]; omega, List.drop_length_add_append, tflat_drop ts s]
/-- A slice of one table, made since w0. -/
def OneT (w0 : World) (t : Tb) : VP := fun u w => ∃ bt, u = .slice (some ⟨bt, 0, none⟩) 1 1 ∧ w0.heap.size ≤ bt ∧ Blk w bt (cellsT t) 87
theorem OneT.stable {w0 : World} {t : Tb} : Stable (OneT w0 t) := fun v w w' ⟨bt, h, h2, hB⟩ hx => ⟨bt, h, h2, hB.ext hx⟩
theorem q_buildT {F : Fence} {n m : Nat} {D : List Deferred} {L : Env} {w0 : World} {ops rest : List Oper} {d : Nat} {ty : TypeId} {pos : String} {af : Array Edge} {g : Option (Nat × Bool)} {x : Operand} {K : Env → List (Nat × VP) → Prop} {V : List (Nat × VP)} {t : Tb} (hg : wants L ops g = some true) (hd : Nat.blt d m = true) (hno : at' L d = none) (hx : ev L x = some (.agg (cellsT t).toArray))
    (k : QW F n Try.prog m D ops w0 K rest L ((d, OneT w0 t) :: V)) : QW F n Try.prog m D ops w0 K (⟨some d, .buildSlice 80 1 #[(0, x)], ty, pos, af, g⟩ :: rest) L V :=
  q_valp OneT.stable hg hd hno (fun w' hw => by
    obtain ⟨b, w'', hx, h1, h2, h3⟩ := x_buildSlice (P := Try.prog) (m := m) (D := D) (w := w') (ty := ty) (L := L) (vs := [.agg (cellsT t).toArray]) (sz := 5) (len := 1) (parts := [(0, x)]) Try.underlying80 ag87.siz Try.zeroValue87 (by simp only [partsOk, hx]; rfl) rfl rfl (by decide)
    exact ⟨_, w'', hx, ⟨b, rfl, Nat.le_trans hw.size h1, h2⟩, h3⟩) k
/-- How two tables compare. -/
def cmpT (s t : Tb) : Int := if s.l ≠ t.l then (if s.l < t.l then -1 else 1) else if s.a ≠ t.a then (if bl s.a.toList t.a.toList = true then -1 else 1) else if s.f < t.f then -1 else if t.f < s.f then 1 else 0
theorem C96d {w : World} {s t : Tb} : Rt Try.prog 96 [.agg (cellsT s).toArray, .agg (cellsT t).toArray] w fun r w' => r = .int .i64 (cmpT s t) ∧ Ext w w' := by
  have hW := hWw
  have hFF := hFw
  have hE : Ext w w := Keep.refl _ _
  refine rt_body Try.func96 rfl Try.ntmps96 rfl ?_
  refine wc_seq ?_
  refine wc_region ?_
  refine wl_box hW rfl rfl rfl rfl ?_
  intro b2 w2 hl2 hB2 hx2
  have g2 : w.heap.size ≤ b2 := Nat.le_trans hE.size hl2
  replace hE := hE.trans hx2
  refine wl_box hW rfl rfl rfl rfl ?_
  intro b3 w3 hl3 hB3 hx3
  have g3 : w.heap.size ≤ b3 := Nat.le_trans hE.size hl3
  have n3_2 : b3 ≠ b2 := Nat.ne_of_gt (Nat.lt_of_lt_of_le hB2.lt hl3)
  replace hB2 := hB2.ext hx3
  replace hE := hE.trans hx3
  refine wl_val hW rfl rfl (x_assign rfl) ?_
  refine wl_nil ?_
  refine nx_then ?_
  refine wc_seq ?_
  refine wc_seq ?_
  refine wc_region ?_
  refine wl_val hW rfl rfl (x_fieldAddr Try.underlying87 rfl fl3.siz rfl) ?_
  refine wl_val hW rfl rfl (x_load fl3 rfl (hB2.cell (o := 1) rfl)) ?_
  refine wl_val hW rfl rfl (x_fieldAddr Try.underlying87 rfl fl3.siz rfl) ?_
  refine wl_val hW rfl rfl (x_load fl3 rfl (hB3.cell (o := 1) rfl)) ?_
  refine wl_val hW rfl rfl (x_neq rfl rfl) ?_
  refine wl_nil ?_
  refine nx_then ?_
  refine wc_dec rfl (fun hc => ?_) (fun hc => ?_)
  · have h1 : s.l ≠ t.l := hc
    refine wc_seq ?_
    refine wc_seq ?_
    refine wc_region ?_
    refine wl_val hW rfl rfl (x_fieldAddr Try.underlying87 rfl fl3.siz rfl) ?_
    refine wl_val hW rfl rfl (x_load fl3 rfl (hB2.cell (o := 1) rfl)) ?_
    refine wl_val hW rfl rfl (x_fieldAddr Try.underlying87 rfl fl3.siz rfl) ?_
    refine wl_val hW rfl rfl (x_load fl3 rfl (hB3.cell (o := 1) rfl)) ?_
    refine wl_val hW rfl rfl (x_lss rfl rfl) ?_
    refine wl_nil ?_
    refine nx_then ?_
    refine wc_dec rfl (fun hc => ?_) (fun hc => ?_)
    · refine wc_seq ?_
      refine wc_region ?_
      refine wl_val hW rfl rfl (x_assign rfl) ?_
      refine wl_nil ?_
      refine nx_then ?_
      refine wc_ret ?_
      refine nx_then_ret ?_
      refine nx_then_ret ?_
      have h2 : s.l < t.l := hc
      exact ends_ret (res_tmp Try.results96 rfl) ⟨by rw [cmpT, if_pos h1, if_pos h2], hE⟩
    · refine wc_skip ?_
      refine nx_then ?_
      refine wc_seq ?_
      refine wc_region ?_
      refine wl_val hW rfl rfl (x_assign rfl) ?_
      refine wl_nil ?_
      refine nx_then ?_
      refine wc_ret ?_
      refine nx_then_ret ?_
      have h2 : ¬ s.l < t.l := hc
      exact ends_ret (res_tmp Try.results96 rfl) ⟨by rw [cmpT, if_pos h1, if_neg h2], hE⟩
  · have h1 : ¬ s.l ≠ t.l := hc
    refine wc_skip ?_
    refine nx_then ?_
    refine wc_seq ?_
    refine wc_seq ?_
    refine wc_region ?_
    refine wl_val hW rfl rfl (x_fieldAddr Try.underlying87 rfl fl9.siz rfl) ?_
    refine wl_val hW rfl rfl (x_load fl9 rfl (hB2.cell (o := 2) rfl)) ?_
    refine wl_val hW rfl rfl (x_fieldAddr Try.underlying87 rfl fl9.siz rfl) ?_
    refine wl_val hW rfl rfl (x_load fl9 rfl (hB3.cell (o := 2) rfl)) ?_
    refine wl_val hW rfl rfl (x_sneq rfl rfl) ?_
    refine wl_nil ?_
    refine nx_then ?_
    refine wc_bool rfl (fun hc => ?_) (fun hc => ?_)
    · have h2 : s.a ≠ t.a := fun e => by rw [e] at hc; simp at hc
      refine wc_seq ?_
      refine wc_seq ?_
      refine wc_region ?_
      refine wl_val hW rfl rfl (x_fieldAddr Try.underlying87 rfl fl9.siz rfl) ?_
      refine wl_val hW rfl rfl (x_load fl9 rfl (hB2.cell (o := 2) rfl)) ?_
      refine wl_val hW rfl rfl (x_fieldAddr Try.underlying87 rfl fl9.siz rfl) ?_
      refine wl_val hW rfl rfl (x_load fl9 rfl (hB3.cell (o := 2) rfl)) ?_
      refine wl_val hW rfl rfl (x_slss rfl rfl) ?_
      refine wl_nil ?_
      refine nx_then ?_
      refine wc_bool rfl (fun hc => ?_) (fun hc => ?_)
      · refine wc_seq ?_
        refine wc_region ?_
        refine wl_val hW rfl rfl (x_assign rfl) ?_
        refine wl_nil ?_
        refine nx_then ?_
        refine wc_ret ?_
        refine nx_then_ret ?_
        refine nx_then_ret ?_
        have h3 : bl s.a.toList t.a.toList = true := hc
        exact ends_ret (res_tmp Try.results96 rfl) ⟨by rw [cmpT, if_neg h1, if_pos h2, if_pos h3], hE⟩
      · refine wc_skip ?_
        refine nx_then ?_
        refine wc_seq ?_
        refine wc_region ?_
        refine wl_val hW rfl rfl (x_assign rfl) ?_
        refine wl_nil ?_
        refine nx_then ?_
        refine wc_ret ?_
        refine nx_then_ret ?_
        have h3 : ¬ bl s.a.toList t.a.toList = true := by rw [show bl s.a.toList t.a.toList = false from hc]; decide
        exact ends_ret (res_tmp Try.results96 rfl) ⟨by rw [cmpT, if_neg h1, if_pos h2, if_neg h3], hE⟩
    · have h2 : ¬ s.a ≠ t.a := fun h => h (ba_ext (by simpa using hc))
      refine wc_skip ?_
      refine nx_then ?_
      refine wc_seq ?_
      refine wc_seq ?_
      refine wc_region ?_
      refine wl_val hW rfl rfl (x_fieldAddr Try.underlying87 rfl fl3.siz rfl) ?_
      refine wl_val hW rfl rfl (x_load fl3 rfl (hB2.cell (o := 0) rfl)) ?_
      refine wl_val hW rfl rfl (x_fieldAddr Try.underlying87 rfl fl3.siz rfl) ?_
      refine wl_val hW rfl rfl (x_load fl3 rfl (hB3.cell (o := 0) rfl)) ?_
      refine wl_val hW rfl rfl (x_lss rfl rfl) ?_
      refine wl_nil ?_
      refine nx_then ?_
      refine wc_dec rfl (fun hc => ?_) (fun hc => ?_)
      · refine wc_seq ?_
        refine wc_region ?_
        refine wl_val hW rfl rfl (x_assign rfl) ?_
        refine wl_nil ?_
        refine nx_then ?_
        refine wc_ret ?_
        refine nx_then_ret ?_
        have h3 : s.f < t.f := hc
        exact ends_ret (res_tmp Try.results96 rfl) ⟨by rw [cmpT, if_neg h1, if_neg h2, if_pos h3], hE⟩
      · have h3 : ¬ s.f < t.f := hc
        refine wc_skip ?_
        refine nx_then ?_
        refine wc_seq ?_
        refine wc_seq ?_
        refine wc_region ?_
        refine wl_val hW rfl rfl (x_fieldAddr Try.underlying87 rfl fl3.siz rfl) ?_
        refine wl_val hW rfl rfl (x_load fl3 rfl (hB2.cell (o := 0) rfl)) ?_
        refine wl_val hW rfl rfl (x_fieldAddr Try.underlying87 rfl fl3.siz rfl) ?_
        refine wl_val hW rfl rfl (x_load fl3 rfl (hB3.cell (o := 0) rfl)) ?_
        refine wl_val hW rfl rfl (x_gtr rfl rfl) ?_
        refine wl_nil ?_
        refine nx_then ?_
        refine wc_dec rfl (fun hc => ?_) (fun hc => ?_)
        · refine wc_seq ?_
          refine wc_region ?_
          refine wl_val hW rfl rfl (x_assign rfl) ?_
          refine wl_nil ?_
          refine nx_then ?_
          refine wc_ret ?_
          refine nx_then_ret ?_
          have h4 : t.f < s.f := hc
          exact ends_ret (res_tmp Try.results96 rfl) ⟨by rw [cmpT, if_neg h1, if_neg h2, if_neg h3, if_pos h4], hE⟩
        · refine wc_skip ?_
          refine nx_then ?_
          refine wc_seq ?_
          refine wc_region ?_
          refine wl_val hW rfl rfl (x_assign rfl) ?_
          refine wl_nil ?_
          refine nx_then ?_
          refine wc_ret ?_
          have h4 : ¬ t.f < s.f := hc
          exact ends_ret (res_tmp Try.results96 rfl) ⟨by rw [cmpT, if_neg h1, if_neg h2, if_neg h3, if_neg h4], hE⟩
theorem C90 {A : Nat → Prop} {w : World} {v : Value} {ts : List Tb} {t : Tb} (hR : TRow A w v ts) (hl : ts.length ≤ 100000) : Rt Try.prog 90 [v, .agg (cellsT t).toArray] w fun r w' => (∃ (i : Nat) (ts' : List Tb), i ≤ ts.length ∧ ts' = ts.take i ++ t :: ts.drop i ∧ TOwn w.heap.size w' r ts') ∧ Ext w w' := by
  obtain ⟨ad, cap, rfl, hcap, hlen⟩ := hR.form
  replace hR := hR.mono (A' := fun k => k < w.heap.size) fun k hk _ => hk
  have hW := hWw
  have hFF := hFw
  have hE : Ext w w := Keep.refl _ _
  refine rt_body Try.func90 rfl Try.ntmps90 rfl ?_
  refine wc_seq ?_
  refine wc_region ?_
  refine wl_box hW rfl rfl rfl rfl ?_
  intro b3 w3 hl3 hB3 hx3
  have g3 : w.heap.size ≤ b3 := Nat.le_trans hE.size hl3
  replace hE := hE.trans hx3
  refine wl_val hW rfl rfl (x_assign rfl) ?_
  refine wl_nil ?_
  refine nx_then ?_
  refine wc_seq ?_
  refine wc_region ?_
  refine wl_val hW rfl rfl (x_assign rfl) ?_
  refine wl_nil ?_
  refine nx_then ?_
  refine wc_seq ?_
  refine wc_block ?_
  refine wc_loop (σ := Nat) (fun s => [(0, .slice ad ts.length cap), (3, .pointer (some ⟨b3, 0, none⟩)), (5, .int .i64 (s : Nat))]) (fun s w' => s ≤ ts.length ∧ Ext w w' ∧ Blk w' b3 (cellsT t) 87) (fun s => ts.length - s) 0 ?_ ?_ ?_
  · exact ⟨Nat.zero_le _, hE, hB3⟩
  · repeat (first | exact sub_nil | refine sub_cons rfl ?_)
  · rintro s wr ⟨hs, hE, hB3⟩
    refine wc_seq ?_
    refine wc_seq ?_
    refine wc_cutE (σ := Bool) (fun u => [(0, .slice ad ts.length cap), (3, .pointer (some ⟨b3, 0, none⟩)), (5, .int .i64 (s : Nat)), (19, .bool u)]) (fun u w' => (Ext wr w' ∧ (u = true → s < ts.length)) ∧ Blk w' b3 (cellsT t) 87) ?_ ?_
    · refine wc_draw' 13 hW mixed (by kernel_rfl) (fun w0 hx0 => ?_)
      replace hB3 := hB3.ext hx0
      replace hE := hE.trans hx0
      refine q_val rfl rfl (fun _ hx => x_move rfl) ?_
      refine q_val rfl rfl (fun _ hx => x_move rfl) ?_
      refine q_val rfl rfl (fun _ hx => x_len Try.underlying80 rfl) ?_
      refine q_val rfl rfl (fun _ hx => x_lss rfl rfl) ?_
      refine q_val rfl rfl (fun _ hx => x_move rfl) ?_
      refine q_dcases (d := 11) rfl (fun hg11 => ?_) (fun hg11 => ?_)
      · have hlt : s < ts.length := by have h' : ((s : Nat) : Int) < ts.length := hg11; omega
        obtain ⟨b, o, cap', e1, hA, hC14⟩ := (hR.ext hE).at s hlt
        cases e1
        refine q_val rfl rfl (fun _ hx => x_move rfl) ?_
        refine q_val rfl rfl (fun _ hx => x_move rfl) ?_
        refine q_val rfl rfl (fun _ hx => x_indexAddr Try.underlying80 ag87.siz rfl rfl (by omega) (by omega)) ?_
        refine q_val rfl rfl (fun _ hx => x_loadA ag87 rfl (hC14.ext hx) rfl) ?_
        refine q_val rfl rfl (fun _ hx => x_loadA ag87 rfl (hB3.ext hx).cells rfl) ?_
        refine q_call rfl rfl (fun _ => x_call en96 rfl) (fun w' hx => (C96d).inF hFF) ?_
        refine q_val rfl rfl (fun _ hx => x_lss rfl rfl) ?_
        refine q_val rfl rfl (fun _ hx => x_pickT rfl rfl) ?_
        refine q_nil (tail0 (fun wt hxt => ?_))
        replace hB3 := hB3.ext hxt
        replace hE := hE.trans hxt
        refine wl_nil ?_
        exact nx_cutE (decide (cmpT ts[s] t < 0)) (by repeat (first | exact sub_nil | refine sub_cons rfl ?_)) ⟨⟨hx0.trans hxt, fun _ => hlt⟩, hB3⟩
      · refine q_off rfl rfl ?_
        refine q_off rfl rfl ?_
        refine q_off rfl rfl ?_
        refine q_off rfl rfl ?_
        refine q_off rfl rfl ?_
        refine q_off rfl rfl ?_
        refine q_off rfl rfl ?_
        refine q_val rfl rfl (fun _ hx => x_pickF rfl rfl) ?_
        refine q_nil (tail0 (fun wt hxt => ?_))
        replace hB3 := hB3.ext hxt
        replace hE := hE.trans hxt
        refine wl_nil ?_
        exact nx_cutE false (by repeat (first | exact sub_nil | refine sub_cons rfl ?_)) ⟨⟨hx0.trans hxt, fun h => by cases h⟩, hB3⟩
    · rintro u w' ⟨⟨hxu, hu⟩, hB3⟩
      replace hE := hE.trans hxu
      refine nx_then ?_
      refine wc_bool rfl (fun hc => ?_) (fun hc => ?_)
      · refine wc_skip ?_
        refine nx_then ?_
        refine wc_block ?_
        refine wc_region ?_
        refine wl_val hW rfl rfl (x_move rfl) ?_
        refine wl_val hW rfl rfl (x_inc (s := s) rfl (by omega)) ?_
        refine wl_val hW rfl rfl (x_assign rfl) ?_
        refine wl_nil ?_
        refine nx_block ?_
        exact nx_next (s + 1) (by have := hu hc; omega) ⟨hu hc, hE, hB3⟩ (by repeat (first | exact sub_nil | refine sub_cons rfl ?_))
      · refine wc_exit ?_
        refine nx_then_exit ?_
        refine nx_then_exit ?_
        refine nx_block_exit ?_
        refine nx_then ?_
        refine wc_seq ?_
        refine wc_draw' 7 hW mixed (by kernel_rfl) (fun w0 hx0 => ?_)
        replace hB3 := hB3.ext hx0
        replace hE := hE.trans hx0
        have hRw := hR.ext hE
        have hsr : Src w0 ad (ts.flatMap cellsT) := grow_src cellsT_len (by decide) hRw
        have hfl : (ts.flatMap cellsT).length = ts.length * 5 := gflat_len cellsT_len ts
        have hsw := hE.size
        have hEw := hE
        refine q_buildEmp rfl rfl rfl Try.underlying80 ag87.siz Try.zeroValue87 ?_
        refine q_val rfl rfl (fun _ hx => x_move rfl) ?_
        refine q_val rfl rfl (fun _ hx => x_move rfl) ?_
        refine q_val rfl rfl (fun _ hx => x_sliceh (j := s) Try.underlying80 ag87.siz rfl rfl (by omega)) ?_
        refine q_appendE (s := 22) (k2 := s - 0) (news := (ts.flatMap cellsT).take (s * 5)) Try.underlying80 info87 rfl (by decide) rfl rfl rfl (List.mem_cons_self ..) (List.mem_append_left _ (List.mem_filterMap.2 ⟨.tmp 22, by simp [Op.operands, Call.operands], rfl⟩)) (fun _ => rfl) (by rw [List.length_take, hfl]; omega) (fun w' hw => (hsr.ext hw).take 5 cap) (fun u hu => tflat_one u (List.mem_of_mem_take hu)) (by omega) (by decide) ?_
        refine q_val rfl rfl (fun _ hx => x_loadA ag87 rfl (hB3.ext hx).cells rfl) ?_
        refine q_buildT rfl rfl rfl rfl ?_
        refine q_nil (tailm2 (d := 28) (d2 := 26) (List.mem_cons_self ..) (List.mem_cons_of_mem _ (List.mem_cons_self ..)) (fun wt v28 v26 hxt h28 h26 => ?_))
        replace hB3 := hB3.ext hxt
        replace hE := hE.trans hxt
        obtain ⟨b28, rfl, g28, hB28⟩ := h28
        refine wl_append (news := cellsT t) Try.underlying80 info87 rfl (by decide) hW rfl rfl rfl rfl h26 rfl (src_blk hB28) (fun u hu => List.all_eq_true.1 (cellsT_one t) u hu) (by omega) (by decide) hxt.size ?_
        intro v29 wA hO29 hkA hcA
        have hge26 : ∀ b, v26.ownBlock = some b → w0.heap.size ≤ b := fun b hb => (ownsRow_blk h26 hb).1
        have hge29 : ∀ b, v29.ownBlock = some b → w0.heap.size ≤ b := fun b hb => (ownsRow_blk hO29 hb).1
        have hK0 : Keep (fun k => k < w0.heap.size) w0 wA := (Keep.of_ext hxt).then hkA (fun k hk _ e => by have := hge26 k e.symm; omega)
        refine wl_val hW rfl rfl (x_assign rfl) ?_
        refine wl_nil ?_
        refine nx_then ?_
        refine wc_seq ?_
        refine wc_region ?_
        refine wl_val hW rfl rfl (x_move rfl) ?_
        refine wl_val hW rfl rfl (x_move rfl) ?_
        refine wl_val hW rfl rfl (x_move rfl) ?_
        refine wl_val hW rfl rfl (x_slicel (i := s) Try.underlying80 ag87.siz rfl rfl (by omega)) ?_
        refine wl_append (k2 := ts.length - s) (news := (ts.flatMap cellsT).drop (s * 5)) Try.underlying80 info87 rfl (by decide) hW rfl rfl rfl rfl hO29 (by rw [List.length_drop, hfl]; omega) ((grow_src cellsT_len (by decide) (hRw.keep hK0 (fun k hk _ => hk))).drop (fun h => List.drop_eq_nil_of_le (by rw [hfl]; omega))) (fun u hu => tflat_one u (List.mem_of_mem_drop hu)) (by omega) (by decide) (Nat.le_trans hxt.size hkA.size) ?_
        intro v33 wB hO33 hkB hcB
        have hK1 := hK0.then hkB (fun k hk h e => by have := hge29 k e.symm; omega)
        have hEB : Ext w wB := Keep.after hEw hK1 (fun k hk => by omega)
        refine wl_val hW rfl rfl (x_assign rfl) ?_
        refine wl_nil ?_
        refine nx_then ?_
        refine wc_ret ?_
        have hown : TOwn w.heap.size wB v33 (ts.take s ++ t :: ts.drop s) := by
          have h := ownsRow_base hO33 (fun b hb => Nat.le_trans hsw (ownsRow_blk hO33 hb).1)
          rw [tflat_take, tflat_drop] at h
          have e1 : (ts.take s ++ t :: ts.drop s).length = s - 0 + 1 + (ts.length - s) := by simp; omega
          have e2 : (ts.take s ++ t :: ts.drop s).flatMap cellsT = (ts.take s).flatMap cellsT ++ cellsT t ++ (ts.drop s).flatMap cellsT := by simp
          unfold TOwn
          rw [e1, e2]; exact h
        exact ends_ret (res_tmp Try.results90 rfl) ⟨⟨s, _, hs, rfl, hown⟩, hEB⟩
end Go.Proofs.Ytblbddamebbgaaa.K


/- Walk: tables dropped. -/
namespace Go.Proofs.Ytblbddamebbgaaa.K
open Go Go.RowKit
set_option linter.unusedVariables false
set_option linter.unusedSimpArgs false

/-- Without some files. -/
def dropF (ts : List Tb) (fs : List Int) : List Tb := ts.filter fun t => decide (t.f ∉ fs)
theorem cut_one : ∀ (l : List Tb) (i : Nat) (hi : i < l.length), (l.map (·.f)).Nodup → l.take i ++ l.drop (i + 1) = l.filter fun t => decide (t.f ≠ l[i].f)
  | [], i, hi, _ => by simp at hi
  | t :: l, 0, hi, hn => by
    rw [List.map_cons, List.nodup_cons] at hn
    simp only [List.take_zero, List.nil_append, List.drop_succ_cons, List.drop_zero, List.getElem_cons_zero]
    rw [List.filter_cons_of_neg (by simp)]
    exact (List.filter_eq_self.2 fun x hx => by rw [decide_eq_true_iff]; intro e; exact hn.1 (by rw [← e]; exact List.mem_map_of_mem (f := (·.f)) hx)).symm
  | t :: l, i + 1, hi, hn => by
    rw [List.map_cons, List.nodup_cons] at hn
    have hi' : i < l.length := by simpa using hi
    simp only [List.take_succ_cons, List.cons_append, List.drop_succ_cons, List.getElem_cons_succ]
    rw [List.filter_cons_of_pos (by rw [decide_eq_true_iff]; intro e; exact hn.1 (by rw [e]; exact List.mem_map_of_mem (f := (·.f)) (List.getElem_mem hi'))), cut_one l i hi' hn.2]
theorem dropF_nil (ts : List Tb) : dropF ts [] = ts := List.filter_eq_self.2 fun t _ => by simp
theorem dropF_snoc (ts : List Tb) (fs : List Int) (f : Int) : dropF ts (fs ++ [f]) = (dropF ts fs).filter fun t => decide (t.f ≠ f) := by
  unfold dropF
  rw [List.filter_filter]
  exact List.filter_congr fun t _ => by
    by_cases h1 : t.f = f <;> by_cases h2 : t.f ∈ fs <;> simp [h1, h2, List.mem_append]
    all_goals (rw [← h1]; exact h2)
theorem dropF_nodup {ts : List Tb} (h : (ts.map (·.f)).Nodup) (fs : List Int) : ((dropF ts fs).map (·.f)).Nodup := (List.filter_sublist.map _).nodup h
theorem dropF_le (ts : List Tb) (fs : List Int) : (dropF ts fs).length ≤ ts.length := List.length_filter_le _ _
theorem C88 {A A2 : Nat → Prop} {w : World} {v u : Value} {ts : List Tb} {fs : List Int} (hR : TRow A w v ts) (hI : IRow A2 w u fs) (hl : ts.length ≤ 100000) (hl2 : fs.length ≤ 100000) (hn : (ts.map (·.f)).Nodup) (hf : fs.Nodup) (hin : ∀ f ∈ fs, ∃ t ∈ ts, t.f = f) :
    Rt Try.prog 88 [v, u] w fun r w' => (∃ ov, r = .tuple #[ov, .bool true] ∧ TOwn w.heap.size w' ov (dropF ts fs)) ∧ Ext w w' := by
  obtain ⟨ad, cap, rfl, hcap, hlen⟩ := hR.form
  obtain ⟨ad2, cap2, rfl, hzl⟩ := hI.form
  replace hR := hR.mono (A' := fun k => k < w.heap.size) fun k hk _ => hk
  have hW := hWw
  have hFF := hFw
  have hE : Ext w w := Keep.refl _ _
  refine rt_body Try.func88 rfl Try.ntmps88 rfl ?_
  refine wc_seq ?_
  refine wc_region ?_
  refine wl_val hW rfl rfl (x_assign rfl) ?_
  refine wl_val hW rfl rfl (x_assign rfl) ?_
  refine wl_nil ?_
  refine nx_then ?_
  refine wc_seq ?_
  refine wc_region ?_
  refine wl_buildSlice (parts := []) hW rfl rfl Try.underlying80 ag87.siz Try.zeroValue87 rfl rfl rfl (by omega) ?_
  intro b9 w9 hl9 hB9 hx9
  have g9 : w.heap.size ≤ b9 := Nat.le_trans hE.size hl9
  replace hE := hE.trans hx9
  refine wl_val hW rfl rfl (x_move rfl) ?_
  have hsr : Src w9 ad (ts.flatMap cellsT) := grow_src cellsT_len (by decide) (hR.ext hE)
  have hfl : (ts.flatMap cellsT).length = ts.length * 5 := gflat_len cellsT_len ts
  refine wl_append Try.underlying80 info87 rfl (by decide) hW rfl rfl rfl rfl (owns_empty hB9 (Nat.le_refl _)) hfl hsr (fun u hu => tflat_one u hu) (by omega) (by decide) (Nat.le_of_lt hB9.lt) ?_
  intro v11 wA hO kA cA
  rw [Nat.zero_add, List.nil_append] at hO
  have kA' : Keep (· ≠ b9) w9 wA := kA.mono fun k _ h e => h (by cases e; rfl)
  replace hE := hE.store kA' g9
  have hO0 : TOwn w.heap.size wA v11 (dropF ts (fs.take 0)) := by rw [List.take_zero, dropF_nil]; exact ownsRow_base hO (fun b hb => Nat.le_trans g9 (ownsRow_blk hO hb).1)
  clear hB9
  refine wl_val hW rfl rfl (x_assign rfl) ?_
  refine wl_nil ?_
  refine nx_then ?_
  refine wc_seq ?_
  refine wc_seq ?_
  refine wc_region ?_
  refine wl_val hW rfl rfl (x_assign rfl) ?_
  refine wl_nil ?_
  refine nx_then ?_
  refine wc_block ?_
  refine wc_loop (σ := Nat × Value) (fun q => [(1, .slice ad2 fs.length cap2), (6, q.2), (7, .int .i64 (q.1 : Nat))]) (fun q w' => (q.1 ≤ fs.length ∧ TOwn w.heap.size w' q.2 (dropF ts (fs.take q.1))) ∧ Ext w w') (fun q => fs.length - q.1) (0, v11) ?_ ?_ ?_
  · exact ⟨⟨Nat.zero_le _, hO0⟩, hE⟩
  · repeat (first | exact sub_nil | refine sub_cons rfl ?_)
  · rintro ⟨s, ov⟩ wr ⟨⟨hs, hO⟩, hE⟩
    replace hs : s ≤ fs.length := hs
    replace hO : TOwn w.heap.size wr ov (dropF ts (fs.take s)) := hO
    refine wc_seq ?_
    refine wc_seq ?_
    refine wc_region ?_
    refine wl_val hW rfl rfl (x_move rfl) ?_
    refine wl_val hW rfl rfl (x_move rfl) ?_
    refine wl_val hW rfl rfl (x_len Try.underlying42 rfl) ?_
    refine wl_val hW rfl rfl (x_lss rfl rfl) ?_
    refine wl_nil ?_
    refine nx_then ?_
    refine wc_dec rfl (fun hc => ?_) (fun hc => ?_)
    · replace hc : ((s : Nat) : Int) < fs.length := hc
      have hlt : s < fs.length := by omega
      obtain ⟨b, o, cap', e1, hC21⟩ := (hI.ext hE).at s hlt
      cases e1
      obtain ⟨oa, oc, rfl, hoc⟩ := hO.form
      have hdl := dropF_le ts (fs.take s)
      obtain ⟨l, hlD⟩ : ∃ l, l = dropF ts (fs.take s) := ⟨_, rfl⟩
      have hln : (l.map (·.f)).Nodup := by rw [hlD]; exact dropF_nodup hn _
      rw [← hlD] at hO hoc hdl
      rw [← hlD]
      refine wc_skip ?_
      refine nx_then ?_
      refine wc_seq ?_
      refine wc_block ?_
      refine wc_seq ?_
      refine wc_region ?_
      refine wl_val hW rfl rfl (x_move rfl) ?_
      refine wl_val hW rfl rfl (x_move rfl) ?_
      refine wl_val hW rfl rfl (x_move rfl) ?_
      refine wl_val hW rfl rfl (x_indexAddr Try.underlying42 fl3.siz rfl rfl (by omega) (by omega)) ?_
      refine wl_val hW rfl rfl (x_load fl3 rfl (hC21 0 _ rfl)) ?_
      refine wl_call hW rfl rfl (x_call en89 rfl) ((C89 (f := fs[s]) (hO.row (by omega))).inF hFF) ?_
      rintro _ wC ⟨⟨p, rfl, hp⟩, hxC⟩
      have hsub : fs[s] ∉ fs.take s := by
        have h1 := hf
        rw [← List.take_append_drop s fs, List.nodup_append] at h1
        intro h
        exact h1.2.2 _ h _ (by rw [List.drop_eq_getElem_cons hlt]; exact List.mem_cons_self ..) rfl
      obtain ⟨i, hi, rfl, hfi⟩ : ∃ (i : Nat) (h : i < l.length), p = i ∧ l[i].f = fs[s] := by
        rcases hp with hp | ⟨-, hp⟩
        · exact hp
        · obtain ⟨t, ht, hft⟩ := hin fs[s] (List.getElem_mem hlt)
          exact absurd hft (hp t (by rw [hlD]; exact List.mem_filter.2 ⟨ht, decide_eq_true (by rw [hft]; exact hsub)⟩))
      have hOC := hO.ext hxC
      replace hE := hE.trans hxC
      refine wl_val hW rfl rfl (x_assign rfl) ?_
      refine wl_nil ?_
      refine nx_then ?_
      refine wc_seq ?_
      refine wc_seq ?_
      refine wc_region ?_
      refine wl_val hW rfl rfl (x_move rfl) ?_
      refine wl_val hW rfl rfl (x_lssF rfl rfl (by omega)) ?_
      refine wl_nil ?_
      refine nx_then ?_
      refine wc_false rfl ?_
      refine wc_skip ?_
      refine nx_then ?_
      refine wc_draw' 9 hW mixed (by kernel_rfl) (fun w0 hx0 => ?_)
      replace hE := hE.trans hx0
      have hO0 := hOC.ext hx0
      have hsr : Src w0 oa (l.flatMap cellsT) := grow_src cellsT_len (by decide) (hO0.row (by omega))
      have hfl : (l.flatMap cellsT).length = l.length * 5 := gflat_len cellsT_len l
      have hEw := hE
      have hsw := hE.size
      refine q_buildEmp rfl rfl rfl Try.underlying80 ag87.siz Try.zeroValue87 ?_
      refine q_val rfl rfl (fun _ hx => x_move rfl) ?_
      refine q_val rfl rfl (fun _ hx => x_move rfl) ?_
      refine q_val rfl rfl (fun _ hx => x_sliceh (j := i) Try.underlying80 ag87.siz rfl rfl (by omega)) ?_
      refine q_appendE (s := 26) (k2 := i - 0) (news := (l.flatMap cellsT).take (i * 5)) Try.underlying80 info87 rfl (by decide) rfl rfl rfl (List.mem_cons_self ..) (List.mem_append_left _ (List.mem_filterMap.2 ⟨.tmp 26, by simp [Op.operands, Call.operands], rfl⟩)) (fun _ => rfl) (by rw [List.length_take, hfl]; omega) (fun w' hw => (hsr.ext hw).take 5 oc) (fun u hu => tflat_one u (List.mem_of_mem_take hu)) (by omega) (by decide) ?_
      refine q_val rfl rfl (fun _ hx => x_move rfl) ?_
      refine q_val rfl rfl (fun _ hx => x_move rfl) ?_
      refine q_val rfl rfl (fun _ hx => x_inc (s := i) rfl (by omega)) ?_
      refine q_val rfl rfl (fun _ hx => x_slicel (i := i + 1) Try.underlying80 ag87.siz rfl rfl (by omega)) ?_
      refine q_nil (tailm2 (d := 30) (d2 := 26) (List.mem_cons_self ..) (List.mem_cons_of_mem _ (List.mem_cons_self ..)) (fun wt v30 v26 hxt h30 h26 => ?_))
      replace hE := hE.trans hxt
      refine wl_append (k2 := l.length - (i + 1)) (news := (l.flatMap cellsT).drop ((i + 1) * 5)) Try.underlying80 info87 rfl (by decide) hW rfl rfl rfl rfl h30 (by rw [List.length_drop, hfl]; omega) ((hsr.ext hxt).drop (fun h => List.drop_eq_nil_of_le (by rw [hfl]; omega))) (fun u hu => tflat_one u (List.mem_of_mem_drop hu)) (by omega) (by decide) hxt.size ?_
      intro v35 wA2 hO35 kA2 cA2
      have hge30 : ∀ b, v30.ownBlock = some b → w0.heap.size ≤ b := fun b hb => (ownsRow_blk h30 hb).1
      have hK0 : Keep (fun k => k < w0.heap.size) w0 wA2 := (Keep.of_ext hxt).then kA2 (fun k hk _ e => by have := hge30 k e.symm; omega)
      have hEB : Ext w wA2 := Keep.after hEw hK0 (fun k hk => by omega)
      have hown : TOwn w.heap.size wA2 v35 (dropF ts (fs.take (s + 1))) := by
        have h := ownsRow_base hO35 (fun b hb => Nat.le_trans hsw (ownsRow_blk hO35 hb).1)
        rw [tflat_take, tflat_drop] at h
        have e3 : dropF ts (fs.take (s + 1)) = l.take i ++ l.drop (i + 1) := by rw [← List.take_append_getElem hlt, dropF_snoc, ← hlD, cut_one l i hi hln, hfi]
        have e1 : (l.take i ++ l.drop (i + 1)).length = i - 0 + (l.length - (i + 1)) := by simp; omega
        unfold TOwn
        rw [e3, e1, List.flatMap_append]; exact h
      refine wl_val hW rfl rfl (x_assign rfl) ?_
      refine wl_nil ?_
      refine nx_block ?_
      refine nx_then ?_
      refine wc_region ?_
      refine wl_val hW rfl rfl (x_move rfl) ?_
      refine wl_val hW rfl rfl (x_inc (s := s) rfl (by omega)) ?_
      refine wl_val hW rfl rfl (x_assign rfl) ?_
      refine wl_nil ?_
      exact nx_next (s + 1, v35) (by dsimp only; omega) ⟨⟨hlt, hown⟩, hEB⟩ (by repeat (first | exact sub_nil | refine sub_cons rfl ?_))
    · refine wc_exit ?_
      refine nx_then_exit ?_
      refine nx_then_exit ?_
      refine nx_block_exit ?_
      have hse : s = fs.length := by have h' : ¬ ((s : Nat) : Int) < fs.length := hc; omega
      rw [hse, List.take_length] at hO
      refine nx_then ?_
      refine wc_seq ?_
      refine wc_region ?_
      refine wl_val hW rfl rfl (x_move rfl) ?_
      refine wl_val hW rfl rfl (x_assign rfl) ?_
      refine wl_val hW rfl rfl (x_assign rfl) ?_
      refine wl_nil ?_
      refine nx_then ?_
      refine wc_ret ?_
      exact ends_ret (res_tmp2 Try.results88 rfl rfl) ⟨⟨_, rfl, hO⟩, hE⟩
end Go.Proofs.Ytblbddamebbgaaa.K


/- Walk: an edit made. -/
namespace Go.Proofs.Ytblbddamebbgaaa.K
open Go Go.RowKit
set_option linter.unusedVariables false
set_option linter.unusedSimpArgs false

theorem build82f {ad : Option Addr} {n c : Nat} {p q r : Int} (w : World) : (Instr.build 82 [(0, Value.slice ad n c), (1, .int .u64 p), (2, .int .i64 q), (3, .int .i64 r)].toArray).run Try.prog w = .ok (.agg #[.slice ad n c, .int .u64 p, .int .i64 q, .int .i64 r]) w := by
  simp [Instr.build, run_underlying Try.underlying82, Try.zeroValue82, fl80.siz w, fl22.siz w, fl3.siz w]
  rfl
theorem x_build82f {m : Nat} {D : List Deferred} {L : Env} {w : World} {ty : TypeId} {x0 x1 x2 x3 : Operand} {ad : Option Addr} {n c : Nat} {p q r : Int} (h0 : ev L x0 = some (.slice ad n c)) (h1 : ev L x1 = some (.int .u64 p)) (h2 : ev L x2 = some (.int .i64 q)) (h3 : ev L x3 = some (.int .i64 r)) :
    Xv Try.prog m D L (.build 82 #[(0, x0), (1, x1), (2, x2), (3, x3)]) ty w (.agg #[.slice ad n c, .int .u64 p, .int .i64 q, .int .i64 r]) w :=
  x_build (parts := [(0, x0), (1, x1), (2, x2), (3, x3)]) Try.underlying82 Try.zeroValue82 (pv := [(0, .slice ad n c), (1, .int .u64 p), (2, .int .i64 q), (3, .int .i64 r)]) (fun a h => by show [(0, a.eval x0), (1, a.eval x1), (2, a.eval x2), (3, a.eval x3)] = _; rw [h.ev h0, h.ev h1, h.ev h2, h.ev h3]) build82f
/-- What a table must be that is added. -/
def okTab (t : Tb) : Prop := 0 ≤ t.f ∧ t.f ≤ 1099511627776 ∧ 0 ≤ t.l ∧ t.l ≤ 6 ∧ bl t.z.toList t.a.toList = false ∧ 0 ≤ t.s ∧ t.s ≤ 1099511627776
/-- Parted, without regard to places. -/
def PDm (l : List Tb) : Prop := ∀ a ∈ l, ∀ b ∈ l, a.f ≠ b.f → 1 ≤ a.l → a.l = b.l → bl b.z.toList a.a.toList = true ∨ bl a.z.toList b.a.toList = true
theorem PDm.perm {l l' : List Tb} (h : PDm l) (hp : l'.Perm l) : PDm l' := fun a ha b hb => h a (hp.mem_iff.1 ha) b (hp.mem_iff.1 hb)
theorem PDm.pd {l : List Tb} (h : PDm l) (hn : (l.map (·.f)).Nodup) : PD l := fun i j hi hj hji h1 h2 => h _ (List.getElem_mem hi) _ (List.getElem_mem hj) (fun e => by
  have h3 := (List.pairwise_iff_getElem.1 hn) j i (by simpa using hj) (by simpa using hi) hji
  simp at h3
  exact h3 e.symm) h1 h2
theorem x_sgtF {P : Program} {m : Nat} {D : List Deferred} {L : Env} {w : World} {ty t t' : TypeId} {x y : Operand} {s r : ByteArray} (hx : ev L x = some (.string s)) (hy : ev L y = some (.string r)) (h : bl r.toList s.toList = false) : Xv P m D L (.binOp .gtr t x y t') ty w (.bool false) w := by
  have := x_sgt (P := P) (m := m) (D := D) (t := t) (t' := t') (ty := ty) (w := w) hx hy
  rwa [h] at this
theorem C78 {A A1 A2 : Nat → Prop} {w : World} {tv av dv : Value} {ts adds : List Tb} {fs : List Int} (hR : TRow A w tv ts) (hA : TRow A1 w av adds) (hI : IRow A2 w dv fs) (hl : ts.length ≤ 30000) (hla : adds.length ≤ 30000) (hlf : fs.length ≤ 30000)
    (hn : (ts.map (·.f)).Nodup) (hf : fs.Nodup) (hin : ∀ f ∈ fs, ∃ t ∈ ts, t.f = f) (hn2 : ((adds ++ dropF ts fs).map (·.f)).Nodup) (hok : ∀ t ∈ adds, okTab t) (hP : PDm (adds ++ dropF ts fs)) :
    Rt Try.prog 78 [.agg #[tv, .int .u64 0, .int .i64 0, .int .i64 0], .agg #[av, dv, .int .u64 0, .int .i64 0, .int .i64 0]] w fun r w' => (∃ ov l, r = .tuple #[.agg #[ov, .int .u64 0, .int .i64 0, .int .i64 0], .int .i64 0] ∧ TOwn w.heap.size w' ov l ∧ l.Perm (adds ++ dropF ts fs)) ∧ Ext w w' := by
  obtain ⟨ad, cap, rfl, hcap, hlen⟩ := hR.form
  obtain ⟨ad2, cap2, rfl, hcap2, hlen2⟩ := hA.form
  obtain ⟨ad3, cap3, rfl, hzl⟩ := hI.form
  replace hR := hR.mono (A' := fun k => k < w.heap.size) fun k hk _ => hk
  replace hA := hA.mono (A' := fun k => k < w.heap.size) fun k hk _ => hk
  have hdl := dropF_le ts fs
  have hW := hWw
  have hFF := hFw
  have hE : Ext w w := Keep.refl _ _
  refine rt_body Try.func78 rfl Try.ntmps78 rfl ?_
  refine wc_seq ?_
  refine wc_region ?_
  refine wl_box hW rfl rfl rfl rfl ?_
  intro b2 w2 hl2 hB2 hx2
  have g2 : w.heap.size ≤ b2 := Nat.le_trans hE.size hl2
  replace hE := hE.trans hx2
  refine wl_box hW rfl rfl rfl rfl ?_
  intro b3 w3 hl3 hB3 hx3
  have g3 : w.heap.size ≤ b3 := Nat.le_trans hE.size hl3
  have n3_2 : b3 ≠ b2 := Nat.ne_of_gt (Nat.lt_of_lt_of_le hB2.lt hl3)
  replace hB2 := hB2.ext hx3
  replace hE := hE.trans hx3
  refine wl_alloc (cs := [.slice none 0 0, .int .u64 0, .int .i64 0, .int .i64 0]) hW rfl rfl Try.zeroValue82 rfl ?_
  intro b4 w4 hl4 hB4 hx4
  have g4 : w.heap.size ≤ b4 := Nat.le_trans hE.size hl4
  have n4_2 : b4 ≠ b2 := Nat.ne_of_gt (Nat.lt_of_lt_of_le hB2.lt hl4)
  replace hB2 := hB2.ext hx4
  have n4_3 : b4 ≠ b3 := Nat.ne_of_gt (Nat.lt_of_lt_of_le hB3.lt hl4)
  replace hB3 := hB3.ext hx4
  replace hE := hE.trans hx4
  refine wl_val hW rfl rfl (x_assign rfl) ?_
  refine wl_nil ?_
  refine nx_then ?_
  refine wc_seq ?_
  refine wc_region ?_
  refine wl_val hW rfl rfl (x_fieldAddr Try.underlying82 rfl fl80.siz rfl) ?_
  refine wl_val hW rfl rfl (x_load fl80 rfl (hB2.cell (o := 0) rfl)) ?_
  refine wl_val hW rfl rfl (x_fieldAddr Try.underlying90 rfl fl42.siz rfl) ?_
  refine wl_val hW rfl rfl (x_load fl42 rfl (hB3.cell (o := 1) rfl)) ?_
  refine wl_call hW rfl rfl (x_call en88 rfl) ((C88 (hR.ext hE) (hI.ext hE) (by omega) (by omega) hn hf hin).inF hFF) ?_
  rintro _ wC ⟨⟨dv2, rfl, hO0⟩, hxC⟩
  have hO : TOwn w.heap.size wC dv2 (dropF ts fs) := ownsRow_base hO0 (fun b hb => Nat.le_trans hE.size (ownsRow_blk hO0 hb).1)
  replace hB2 := hB2.ext hxC
  replace hB3 := hB3.ext hxC
  replace hB4 := hB4.ext hxC
  replace hE := hE.trans hxC
  refine wl_val hW rfl rfl (x_move rfl) ?_
  refine wl_val hW rfl rfl (x_extract rfl rfl) ?_
  refine wl_val hW rfl rfl (x_extract rfl rfl) ?_
  refine wl_val hW rfl rfl (x_assign rfl) ?_
  refine wl_val hW rfl rfl (x_assign rfl) ?_
  refine wl_nil ?_
  refine nx_then ?_
  refine wc_seq ?_
  refine wc_seq ?_
  refine wc_region ?_
  refine wl_val hW rfl rfl (x_move rfl) ?_
  refine wl_val hW rfl rfl (x_not rfl) ?_
  refine wl_nil ?_
  refine nx_then ?_
  refine wc_false rfl ?_
  refine wc_skip ?_
  refine nx_then ?_
  refine wc_seq ?_
  refine wc_seq ?_
  refine wc_region ?_
  refine wl_val hW rfl rfl (x_assign rfl) ?_
  refine wl_nil ?_
  refine nx_then ?_
  refine wc_block ?_
  refine wc_loop (σ := Nat × Value) (fun q => [(2, .pointer (some ⟨b2, 0, none⟩)), (3, .pointer (some ⟨b3, 0, none⟩)), (4, .pointer (some ⟨b4, 0, none⟩)), (6, q.2), (8, .int .i64 (q.1 : Nat))]) (fun q w' => (q.1 ≤ adds.length ∧ ∃ l, TOwn w.heap.size w' q.2 l ∧ l.Perm (adds.take q.1 ++ dropF ts fs)) ∧ Ext w w' ∧ Blk w' b2 [.slice ad ts.length cap, .int .u64 0, .int .i64 0, .int .i64 0] 82 ∧ Blk w' b3 [.slice ad2 adds.length cap2, .slice ad3 fs.length cap3, .int .u64 0, .int .i64 0, .int .i64 0] 90 ∧ Blk w' b4 [.slice none 0 0, .int .u64 0, .int .i64 0, .int .i64 0] 82) (fun q => adds.length - q.1) (0, dv2) ?_ ?_ ?_
  · exact ⟨⟨Nat.zero_le _, _, hO, by simp⟩, hE, hB2, hB3, hB4⟩
  · repeat (first | exact sub_nil | refine sub_cons rfl ?_)
  · rintro ⟨s, ov⟩ wr ⟨⟨hs, l, hO, hp⟩, hE, hB2, hB3, hB4⟩
    replace hs : s ≤ adds.length := hs
    replace hO : TOwn w.heap.size wr ov l := hO
    replace hp : l.Perm (adds.take s ++ dropF ts fs) := hp
    have hll : l.length ≤ 60000 := by have := hp.length_eq; simp at this; omega
    refine wc_seq ?_
    refine wc_seq ?_
    refine wc_region ?_
    refine wl_val hW rfl rfl (x_move rfl) ?_
    refine wl_val hW rfl rfl (x_fieldAddr Try.underlying90 rfl fl80.siz rfl) ?_
    refine wl_val hW rfl rfl (x_load fl80 rfl (hB3.cell (o := 0) rfl)) ?_
    refine wl_val hW rfl rfl (x_len Try.underlying80 rfl) ?_
    refine wl_val hW rfl rfl (x_lss rfl rfl) ?_
    refine wl_nil ?_
    refine nx_then ?_
    refine wc_dec rfl (fun hc => ?_) (fun hc => ?_)
    · replace hc : ((s : Nat) : Int) < adds.length := hc
      have hlt : s < adds.length := by omega
      obtain ⟨b, o, cap', e1, hAb, hC32⟩ := (hA.ext hE).at s hlt
      cases e1
      have hokt := hok _ (List.getElem_mem hlt)
      obtain ⟨ok1, ok2, ok3, ok4, ok5, ok6, ok7⟩ := hokt
      have hE79 := hE
      refine wc_skip ?_
      refine nx_then ?_
      refine wc_seq ?_
      refine wc_block ?_
      refine wc_seq ?_
      refine wc_region ?_
      refine wl_val hW rfl rfl (x_fieldAddr Try.underlying90 rfl fl80.siz rfl) ?_
      refine wl_val hW rfl rfl (x_load fl80 rfl (hB3.cell (o := 0) rfl)) ?_
      refine wl_val hW rfl rfl (x_move rfl) ?_
      refine wl_val hW rfl rfl (x_indexAddr Try.underlying80 ag87.siz rfl rfl (by omega) (by omega)) ?_
      refine wl_val hW rfl rfl (x_loadA ag87 rfl hC32 rfl) ?_
      refine wl_alloc (cs := [.int .i64 0, .int .i64 0, .string ⟨#[]⟩, .string ⟨#[]⟩, .int .i64 0]) hW rfl rfl Try.zeroValue87 rfl ?_
      intro b9 w9 hl9 hB9 hx9
      have g9 : w.heap.size ≤ b9 := Nat.le_trans hE.size hl9
      have n9_2 : b9 ≠ b2 := Nat.ne_of_gt (Nat.lt_of_lt_of_le hB2.lt hl9)
      replace hB2 := hB2.ext hx9
      have n9_3 : b9 ≠ b3 := Nat.ne_of_gt (Nat.lt_of_lt_of_le hB3.lt hl9)
      replace hB3 := hB3.ext hx9
      have n9_4 : b9 ≠ b4 := Nat.ne_of_gt (Nat.lt_of_lt_of_le hB4.lt hl9)
      replace hB4 := hB4.ext hx9
      replace hE := hE.trans hx9
      refine wl_storeA hW rfl ag87 rfl rfl rfl rfl hB9 rfl ?_
      intro wS hBS hkS
      replace hB2 := hB2.keep hkS n9_2.symm
      replace hB3 := hB3.keep hkS n9_3.symm
      replace hB4 := hB4.keep hkS n9_4.symm
      replace hB9 := hBS
      clear hBS
      replace hE := hE.store hkS g9
      have hO9 : TOwn w.heap.size wS ov l := (hO.ext hx9).keep hkS (fun b hb => by have := hO.lt hb; omega)
      refine wl_nil ?_
      refine nx_then ?_
      refine wc_seq ?_
      refine wc_seq ?_
      refine wc_cut [(2, .pointer (some ⟨b2, 0, none⟩)), (3, .pointer (some ⟨b3, 0, none⟩)), (4, .pointer (some ⟨b4, 0, none⟩)), (6, ov), (8, .int .i64 (s : Nat)), (9, .pointer (some ⟨b9, 0, none⟩)), (75, .bool false)] (fun w' => (Ext w w' ∧ TOwn w.heap.size w' ov l) ∧ Blk w' b2 [.slice ad ts.length cap, .int .u64 0, .int .i64 0, .int .i64 0] 82 ∧ Blk w' b3 [.slice (some ⟨b, o, none⟩) adds.length cap2, .slice ad3 fs.length cap3, .int .u64 0, .int .i64 0, .int .i64 0] 90 ∧ Blk w' b4 [.slice none 0 0, .int .u64 0, .int .i64 0, .int .i64 0] 82 ∧ Blk w' b9 (cellsT adds[s]) 87) ?_ ?_
      · refine wc_region ?_
        refine wl_val hW rfl rfl (x_fieldAddr Try.underlying87 rfl fl3.siz rfl) ?_
        refine wl_val hW rfl rfl (x_load fl3 rfl (hB9.cell (o := 0) rfl)) ?_
        refine wl_val hW rfl rfl (x_lssF rfl rfl (by omega)) ?_
        refine wl_val hW rfl rfl (x_move rfl) ?_
        refine wl_val hW rfl rfl (x_fieldAddr Try.underlying87 rfl fl3.siz rfl) ?_
        refine wl_val hW rfl rfl (x_load fl3 rfl (hB9.cell (o := 0) rfl)) ?_
        refine wl_val hW rfl rfl (x_gtrF rfl rfl (by omega)) ?_
        refine wl_val hW rfl rfl (x_pickF rfl rfl) ?_
        refine wl_val hW rfl rfl (x_move rfl) ?_
        refine wl_val hW rfl rfl (x_move rfl) ?_
        refine wl_val hW rfl rfl (x_fieldAddr Try.underlying87 rfl fl3.siz rfl) ?_
        refine wl_val hW rfl rfl (x_load fl3 rfl (hB9.cell (o := 0) rfl)) ?_
        refine wl_call hW rfl rfl (x_call en89 rfl) ((C89 (f := adds[s].f) (hO9.row (by omega))).inF hFF) ?_
        rintro _ wP ⟨⟨p, rfl, hpl⟩, hxC⟩
        have hp0 : p = -1 := by
          rcases hpl with ⟨i, hi, -, hfi⟩ | ⟨h, -⟩
          · have h1 : l[i] ∈ adds.take s ++ dropF ts fs := hp.mem_iff.1 (List.getElem_mem hi)
            have h2 := hn2
            rw [← List.take_append_drop s adds, List.drop_eq_getElem_cons hlt, List.append_assoc, List.cons_append] at h2
            have h3 := ((List.perm_middle (l₁ := adds.take s) (a := adds[s]) (l₂ := adds.drop (s + 1) ++ dropF ts fs)).map Tb.f).nodup_iff.1 h2
            rw [List.map_cons, List.nodup_cons] at h3
            refine absurd ?_ h3.1
            rw [← hfi]
            refine List.mem_map_of_mem (f := Tb.f) ?_
            rcases List.mem_append.1 h1 with h | h
            · exact List.mem_append_left _ h
            · exact List.mem_append_right _ (List.mem_append_right _ h)
          · exact h
        replace hB2 := hB2.ext hxC
        replace hB3 := hB3.ext hxC
        replace hB4 := hB4.ext hxC
        replace hB9 := hB9.ext hxC
        replace hE := hE.trans hxC
        refine wl_val hW rfl rfl (x_geqF rfl rfl (by omega)) ?_
        refine wl_val hW rfl rfl (x_pickF rfl rfl) ?_
        refine wl_val hW rfl rfl (x_move rfl) ?_
        refine wl_val hW rfl rfl (x_fieldAddr Try.underlying87 rfl fl3.siz rfl) ?_
        refine wl_val hW rfl rfl (x_load fl3 rfl (hB9.cell (o := 1) rfl)) ?_
        refine wl_val hW rfl rfl (x_lssF rfl rfl (by omega)) ?_
        refine wl_val hW rfl rfl (x_pickF rfl rfl) ?_
        refine wl_val hW rfl rfl (x_move rfl) ?_
        refine wl_val hW rfl rfl (x_fieldAddr Try.underlying87 rfl fl3.siz rfl) ?_
        refine wl_val hW rfl rfl (x_load fl3 rfl (hB9.cell (o := 1) rfl)) ?_
        refine wl_val hW rfl rfl (x_gtrF rfl rfl (by omega)) ?_
        refine wl_val hW rfl rfl (x_pickF rfl rfl) ?_
        refine wl_val hW rfl rfl (x_move rfl) ?_
        refine wl_val hW rfl rfl (x_fieldAddr Try.underlying87 rfl fl9.siz rfl) ?_
        refine wl_val hW rfl rfl (x_load fl9 rfl (hB9.cell (o := 2) rfl)) ?_
        refine wl_val hW rfl rfl (x_fieldAddr Try.underlying87 rfl fl9.siz rfl) ?_
        refine wl_val hW rfl rfl (x_load fl9 rfl (hB9.cell (o := 3) rfl)) ?_
        refine wl_val hW rfl rfl (x_sgtF rfl rfl ok5) ?_
        refine wl_val hW rfl rfl (x_pickF rfl rfl) ?_
        refine wl_val hW rfl rfl (x_move rfl) ?_
        refine wl_val hW rfl rfl (x_fieldAddr Try.underlying87 rfl fl3.siz rfl) ?_
        refine wl_val hW rfl rfl (x_load fl3 rfl (hB9.cell (o := 4) rfl)) ?_
        refine wl_val hW rfl rfl (x_lssF rfl rfl (by omega)) ?_
        refine wl_val hW rfl rfl (x_pickF rfl rfl) ?_
        refine wl_val hW rfl rfl (x_move rfl) ?_
        refine wl_val hW rfl rfl (x_fieldAddr Try.underlying87 rfl fl3.siz rfl) ?_
        refine wl_val hW rfl rfl (x_load fl3 rfl (hB9.cell (o := 4) rfl)) ?_
        refine wl_val hW rfl rfl (x_gtrF rfl rfl (by omega)) ?_
        refine wl_val hW rfl rfl (x_pickF rfl rfl) ?_
        refine wl_nil ?_
        exact nx_cut (by repeat (first | exact sub_nil | refine sub_cons rfl ?_)) ⟨⟨hE, hO9.ext hxC⟩, hB2, hB3, hB4, hB9⟩
      · rintro w' ⟨⟨hE, hO⟩, hB2, hB3, hB4, hB9⟩
        refine nx_then ?_
        refine wc_false rfl ?_
        refine wc_skip ?_
        refine nx_then ?_
        refine wc_region ?_
        refine wl_val hW rfl rfl (x_move rfl) ?_
        refine wl_val hW rfl rfl (x_loadA ag87 rfl hB9.cells rfl) ?_
        refine wl_call hW rfl rfl (x_call en90 rfl) ((C90 (t := adds[s]) (hO.row (by omega)) (by omega)).inF hFF) ?_
        rintro r wC ⟨⟨j, l', hj, hl', hO2⟩, hxC⟩
        have hO3 : TOwn w.heap.size wC r l' := ownsRow_base hO2 (fun b hb => Nat.le_trans hE.size (ownsRow_blk hO2 hb).1)
        have hp' : l'.Perm (adds.take (s + 1) ++ dropF ts fs) := by
          rw [hl']
          refine List.perm_middle.trans ?_
          rw [List.take_append_drop]
          refine (hp.cons _).trans ?_
          rw [← List.take_append_getElem hlt, List.append_assoc]
          exact List.perm_middle.symm
        replace hB2 := hB2.ext hxC
        replace hB3 := hB3.ext hxC
        replace hB4 := hB4.ext hxC
        replace hB9 := hB9.ext hxC
        replace hE := hE.trans hxC
        refine wl_val hW rfl rfl (x_assign rfl) ?_
        refine wl_nil ?_
        refine nx_block ?_
        refine nx_then ?_
        refine wc_region ?_
        refine wl_val hW rfl rfl (x_move rfl) ?_
        refine wl_val hW rfl rfl (x_inc (s := s) rfl (by omega)) ?_
        refine wl_val hW rfl rfl (x_assign rfl) ?_
        refine wl_nil ?_
        exact nx_next (s + 1, r) (by dsimp only; omega) ⟨⟨hlt, l', hO3, hp'⟩, hE, hB2, hB3, hB4⟩ (by repeat (first | exact sub_nil | refine sub_cons rfl ?_))
    · have hse : s = adds.length := by have h' : ¬ ((s : Nat) : Int) < adds.length := hc; omega
      rw [hse, List.take_length] at hp
      obtain ⟨oa, oc, rfl, hoc⟩ := hO.form
      refine wc_exit ?_
      refine nx_then_exit ?_
      refine nx_then_exit ?_
      refine nx_block_exit ?_
      refine nx_then ?_
      refine wc_seq ?_
      refine wc_seq ?_
      refine wc_region ?_
      refine wl_val hW rfl rfl (x_move rfl) ?_
      refine wl_val hW rfl rfl (x_len Try.underlying80 rfl) ?_
      refine wl_val hW rfl rfl (x_gtrF rfl rfl (by omega)) ?_
      refine wl_nil ?_
      refine nx_then ?_
      refine wc_false rfl ?_
      refine wc_skip ?_
      refine nx_then ?_
      refine wc_seq ?_
      refine wc_seq ?_
      refine wc_region ?_
      refine wl_val hW rfl rfl (x_move rfl) ?_
      refine wl_call hW rfl rfl (x_call en91 rfl) ((C91 (hO.row (by omega)) ((hP.perm hp).pd ((hp.map (·.f)).nodup_iff.2 hn2))).inF hFF) ?_
      rintro _ wP ⟨rfl, hxC⟩
      replace hB2 := hB2.ext hxC
      replace hB3 := hB3.ext hxC
      replace hB4 := hB4.ext hxC
      replace hE := hE.trans hxC
      have hOP := hO.ext hxC
      refine wl_val hW rfl rfl (x_not rfl) ?_
      refine wl_nil ?_
      refine nx_then ?_
      refine wc_false rfl ?_
      refine wc_skip ?_
      refine nx_then ?_
      refine wc_seq ?_
      refine wc_seq ?_
      refine wc_cut [(2, .pointer (some ⟨b2, 0, none⟩)), (3, .pointer (some ⟨b3, 0, none⟩)), (4, .pointer (some ⟨b4, 0, none⟩)), (6, .slice oa l.length oc), (131, .bool false)] (fun w' => w' = wP) ?_ ?_
      · refine wc_region ?_
        refine wl_val hW rfl rfl (x_fieldAddr Try.underlying90 rfl fl22.siz rfl) ?_
        refine wl_val hW rfl rfl (x_load fl22 rfl (hB3.cell (o := 2) rfl)) ?_
        refine wl_val hW rfl rfl (x_neqF rfl rfl rfl) ?_
        refine wl_val hW rfl rfl (x_move rfl) ?_
        refine wl_off hW rfl rfl ?_
        refine wl_off hW rfl rfl ?_
        refine wl_off hW rfl rfl ?_
        refine wl_off hW rfl rfl ?_
        refine wl_off hW rfl rfl ?_
        refine wl_val hW rfl rfl (x_pickF rfl rfl) ?_
        refine wl_val hW rfl rfl (x_move rfl) ?_
        refine wl_val hW rfl rfl (x_fieldAddr Try.underlying90 rfl fl3.siz rfl) ?_
        refine wl_val hW rfl rfl (x_load fl3 rfl (hB3.cell (o := 3) rfl)) ?_
        refine wl_val hW rfl rfl (x_neqF rfl rfl rfl) ?_
        refine wl_val hW rfl rfl (x_move rfl) ?_
        refine wl_off hW rfl rfl ?_
        refine wl_off hW rfl rfl ?_
        refine wl_off hW rfl rfl ?_
        refine wl_off hW rfl rfl ?_
        refine wl_off hW rfl rfl ?_
        refine wl_val hW rfl rfl (x_pickF rfl rfl) ?_
        refine wl_val hW rfl rfl (x_pickF rfl rfl) ?_
        refine wl_val hW rfl rfl (x_move rfl) ?_
        refine wl_val hW rfl rfl (x_fieldAddr Try.underlying90 rfl fl3.siz rfl) ?_
        refine wl_val hW rfl rfl (x_load fl3 rfl (hB3.cell (o := 4) rfl)) ?_
        refine wl_val hW rfl rfl (x_neqF rfl rfl rfl) ?_
        refine wl_val hW rfl rfl (x_move rfl) ?_
        refine wl_off hW rfl rfl ?_
        refine wl_off hW rfl rfl ?_
        refine wl_off hW rfl rfl ?_
        refine wl_off hW rfl rfl ?_
        refine wl_off hW rfl rfl ?_
        refine wl_val hW rfl rfl (x_pickF rfl rfl) ?_
        refine wl_val hW rfl rfl (x_pickF rfl rfl) ?_
        refine wl_val hW rfl rfl (x_move rfl) ?_
        refine wl_val hW rfl rfl (x_fieldAddr Try.underlying90 rfl fl3.siz rfl) ?_
        refine wl_val hW rfl rfl (x_load fl3 rfl (hB3.cell (o := 3) rfl)) ?_
        refine wl_val hW rfl rfl (x_gtrF rfl rfl (by omega)) ?_
        refine wl_val hW rfl rfl (x_pickF rfl rfl) ?_
        refine wl_val hW rfl rfl (x_move rfl) ?_
        refine wl_val hW rfl rfl (x_fieldAddr Try.underlying90 rfl fl3.siz rfl) ?_
        refine wl_val hW rfl rfl (x_load fl3 rfl (hB3.cell (o := 4) rfl)) ?_
        refine wl_val hW rfl rfl (x_gtrF rfl rfl (by omega)) ?_
        refine wl_val hW rfl rfl (x_pickF rfl rfl) ?_
        refine wl_nil ?_
        exact nx_cut (by repeat (first | exact sub_nil | refine sub_cons rfl ?_)) rfl
      · rintro _ rfl
        refine nx_then ?_
        refine wc_false rfl ?_
        refine wc_skip ?_
        refine nx_then ?_
        refine wc_seq ?_
        refine wc_region ?_
        refine wl_val hW rfl rfl (x_move rfl) ?_
        refine wl_val hW rfl rfl (x_fieldAddr Try.underlying82 rfl fl22.siz rfl) ?_
        refine wl_val hW rfl rfl (x_load fl22 rfl (hB2.cell (o := 1) rfl)) ?_
        refine wl_val hW rfl rfl (x_fieldAddr Try.underlying82 rfl fl3.siz rfl) ?_
        refine wl_val hW rfl rfl (x_load fl3 rfl (hB2.cell (o := 2) rfl)) ?_
        refine wl_val hW rfl rfl (x_fieldAddr Try.underlying82 rfl fl3.siz rfl) ?_
        refine wl_val hW rfl rfl (x_load fl3 rfl (hB2.cell (o := 3) rfl)) ?_
        refine wl_val hW rfl rfl (x_build82f rfl rfl rfl rfl) ?_
        refine wl_alloc (cs := [.slice none 0 0, .int .u64 0, .int .i64 0, .int .i64 0]) hW rfl rfl Try.zeroValue82 rfl ?_
        intro b10 w10 hl10 hB10 hx10
        have g10 : w.heap.size ≤ b10 := Nat.le_trans hE.size hl10
        have n10_2 : b10 ≠ b2 := Nat.ne_of_gt (Nat.lt_of_lt_of_le hB2.lt hl10)
        replace hB2 := hB2.ext hx10
        have n10_3 : b10 ≠ b3 := Nat.ne_of_gt (Nat.lt_of_lt_of_le hB3.lt hl10)
        replace hB3 := hB3.ext hx10
        have n10_4 : b10 ≠ b4 := Nat.ne_of_gt (Nat.lt_of_lt_of_le hB4.lt hl10)
        replace hB4 := hB4.ext hx10
        replace hE := hE.trans hx10
        refine wl_storeA hW rfl ag82 rfl rfl rfl rfl hB10 rfl ?_
        intro wS hBS hkS
        replace hB2 := hB2.keep hkS n10_2.symm
        replace hB3 := hB3.keep hkS n10_3.symm
        replace hB4 := hB4.keep hkS n10_4.symm
        replace hB10 := hBS
        clear hBS
        replace hE := hE.store hkS g10
        have hO10 := (hOP.ext hx10).keep hkS (fun b hb => by have := hOP.lt hb; omega)
        refine wl_nil ?_
        refine nx_then ?_
        refine wc_seq ?_
        refine wc_seq ?_
        refine wc_region ?_
        refine wl_val hW rfl rfl (x_fieldAddr Try.underlying90 rfl fl22.siz rfl) ?_
        refine wl_val hW rfl rfl (x_load fl22 rfl (hB3.cell (o := 2) rfl)) ?_
        refine wl_val hW rfl rfl (x_neqF rfl rfl rfl) ?_
        refine wl_nil ?_
        refine nx_then ?_
        refine wc_false rfl ?_
        refine wc_skip ?_
        refine nx_then ?_
        refine wc_seq ?_
        refine wc_seq ?_
        refine wc_region ?_
        refine wl_val hW rfl rfl (x_fieldAddr Try.underlying90 rfl fl3.siz rfl) ?_
        refine wl_val hW rfl rfl (x_load fl3 rfl (hB3.cell (o := 3) rfl)) ?_
        refine wl_val hW rfl rfl (x_neqF rfl rfl rfl) ?_
        refine wl_nil ?_
        refine nx_then ?_
        refine wc_false rfl ?_
        refine wc_skip ?_
        refine nx_then ?_
        refine wc_seq ?_
        refine wc_seq ?_
        refine wc_region ?_
        refine wl_val hW rfl rfl (x_fieldAddr Try.underlying90 rfl fl3.siz rfl) ?_
        refine wl_val hW rfl rfl (x_load fl3 rfl (hB3.cell (o := 4) rfl)) ?_
        refine wl_val hW rfl rfl (x_neqF rfl rfl rfl) ?_
        refine wl_nil ?_
        refine nx_then ?_
        refine wc_false rfl ?_
        refine wc_skip ?_
        refine nx_then ?_
        refine wc_seq ?_
        refine wc_region ?_
        refine wl_val hW rfl rfl (x_loadA ag82 rfl hB10.cells rfl) ?_
        refine wl_storeA hW rfl ag82 rfl rfl rfl rfl hB4 rfl ?_
        intro wT hBS hkS
        have hOT := hO10.keep hkS (fun b hb => hO10.ne hb hB4 (by decide))
        replace hB2 := hB2.keep hkS n4_2.symm
        replace hB3 := hB3.keep hkS n4_3.symm
        replace hB10 := hB10.keep hkS n10_4
        replace hB4 := hBS
        clear hBS
        replace hE := hE.store hkS g4
        refine wl_val hW rfl rfl (x_assign rfl) ?_
        refine wl_nil ?_
        refine nx_then ?_
        refine wc_ret ?_
        exact ends_ret (res_cell_tmp Try.results78 rfl (run_loadVar_cells ag82 hB4.cells rfl) rfl) ⟨⟨_, l, rfl, hOT, hp⟩, hE⟩
end Go.Proofs.Ytblbddamebbgaaa.K

