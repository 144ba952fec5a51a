/- What picking needs: shapes compared; append to a clipped row. -/
import Derived.Test.YtblbddamebbgaaaOj
import Derived.ArgAppend
import Derived.Laws.StructEq
namespace Go.Proofs.Ytblbddamebbgaaa.K
open Go Go.RowKit
set_option linter.unusedVariables false
set_option linter.unusedSectionVars false
set_option linter.unusedSimpArgs false

section
variable {F : Fence} {n : Nat} {Q : Exit → Act → World → Prop} {m : Nat} {D : List Deferred} {L : Env} {w w' : World} {ops rest : List Oper} {d : Nat} {ty t t' e : TypeId} {pos : String} {af : Array Edge} {g : Option (Nat × Bool)} {x y : Operand}
theorem run_eq78 {a b c a' b' c' : Int} (w : World) : (binOp .eql 78 (.agg #[.int .i64 a, .int .i64 b, .int .i64 c]) (.agg #[.int .i64 a', .int .i64 b', .int .i64 c'])).run Try.prog w = .ok (.bool (a == a' && (b == b' && c == c'))) w := by
  have hf := Try.underlying78
  have hff : Try.prog.underlying 78 = some (.struct (Try.prog.fieldsOf 78)) := by unfold Program.fieldsOf; rw [hf]
  rw [run_eql_struct, run_equalIn_agg _ _ _ _ _ hff (by kernel_rfl)]
  unfold Program.fieldsOf
  rw [hf]
  simp [Op.eqFields, part, sizeOf, typeInfo, run_equalIn_int w _ 3 .i64 .i64 _ _ Try.underlying3]
  by_cases h1 : a = a' <;> by_cases h2 : b = b' <;> by_cases h3 : c = c' <;> simp [h1, h2, h3]
theorem x_eq78 {a b c a' b' c' : Int} (hx : ev L x = some (.agg #[.int .i64 a, .int .i64 b, .int .i64 c])) (hy : ev L y = some (.agg #[.int .i64 a', .int .i64 b', .int .i64 c'])) : Xv Try.prog m D L (.binOp .eql 78 x y t') ty w (.bool (a == a' && (b == b' && c == c'))) w :=
  ⟨nofun, fun _ _ _ _ a h => by
    have hm : Try.prog.eqGuardType Try.prog.depth 78 = false := by kernel_rfl
    simp [execOp, h.ev hx, h.ev hy, run_eqGuard_agg (P := Try.prog) w .eql 78 x y _ _ hm, run_eq78]⟩
theorem build78 {a b c : Int} (w : World) : (Instr.build 78 [(0, Value.int .i64 a), (1, Value.int .i64 b), (2, Value.int .i64 c)].toArray).run Try.prog w = .ok (.agg #[.int .i64 a, .int .i64 b, .int .i64 c]) w := by
  simp [Instr.build, run_underlying Try.underlying78, Try.zeroValue78, fl3.siz w]
  rfl
theorem x_build78 {a b c : Int} : Xv Try.prog m D L (.build 78 #[(0, .const (.int .i64 a)), (1, .const (.int .i64 b)), (2, .const (.int .i64 c))]) ty w (.agg #[.int .i64 a, .int .i64 b, .int .i64 c]) w :=
  x_build (parts := [(0, .const (.int .i64 a)), (1, .const (.int .i64 b)), (2, .const (.int .i64 c))]) Try.underlying78 Try.zeroValue78 (pv := [(0, .int .i64 a), (1, .int .i64 b), (2, .int .i64 c)]) (fun a h => rfl) (fun w => build78 w)
theorem build95 {a : Int} (w : World) : (Instr.build 95 [(0, Value.int .i64 a), (2, Value.bool true)].toArray).run Try.prog w = .ok (.agg #[.int .i64 a, .slice none 0 0, .bool true]) w := by
  simp [Instr.build, run_underlying Try.underlying95, Try.zeroValue95, fl3.siz w, fl42.siz w, fl4.siz w]
  rfl
theorem x_build95 {a : Int} (hx : ev L x = some (.int .i64 a)) : Xv Try.prog m D L (.build 95 #[(0, x), (2, .const (.bool true))]) ty w (.agg #[.int .i64 a, .slice none 0 0, .bool true]) w :=
  x_build (parts := [(0, x), (2, .const (.bool true))]) Try.underlying95 Try.zeroValue95 (pv := [(0, .int .i64 a), (2, .bool true)]) (fun a h => by show [(0, a.eval x), (2, Value.bool true)] = _; rw [h.ev hx]) (fun w => build95 w)
theorem build95n (w : World) : (Instr.build 95 #[]).run Try.prog w = .ok (.agg #[.int .i64 0, .slice none 0 0, .bool false]) w := by
  simp [Instr.build, run_underlying Try.underlying95, Try.zeroValue95]
  rfl
theorem x_build95n : Xv Try.prog m D L (.build 95 #[]) ty w (.agg #[.int .i64 0, .slice none 0 0, .bool false]) w :=
  x_build (parts := []) Try.underlying95 Try.zeroValue95 (pv := []) (fun a h => rfl) (fun w => build95n w)
/-- append to a row whose slice is full: another row, or the same where nothing comes behind. -/
theorem wl_appendFull {A B : Nat → Prop} {v1 v2 : Value} {b o nn c2 k2 : Nat} {ad2 : Option Addr} {xs ys : List Tb} (hW : Wd F) (hg : wants L ops g = some true) (hd : Nat.blt d m = true) (hx : ev L x = some v1) (hv1 : v1 = .slice (some ⟨b, o, none⟩) nn nn) (hy : ev L y = some v2) (hv2 : v2 = .slice ad2 k2 c2)
    (h1 : TRow A w v1 xs) (h2 : TRow B w v2 ys) (hl : xs.length + ys.length ≤ 1048576) (h0 : 0 < xs.length)
    (k : ∀ v w', TRow (fun k => A k ∨ w.heap.size ≤ k) w' v (xs ++ ys) → Ext w w' → WL F n Try.prog Q m D ops rest ((d, v) :: L) w') : WL F n Try.prog Q m D ops (⟨some d, .call ⟨.builtin .append, #[x, y], #[80, 80]⟩, ty, pos, af, g⟩ :: rest) L w := by
  subst hv1; subst hv2
  obtain ⟨i0, hi, hz0, hz1, hz2⟩ := info_parts info87
  have e1 : nn = xs.length := by obtain ⟨ad, cap, e, -⟩ := h1; cases e; rfl
  have e2 : k2 = ys.length := by obtain ⟨ad, cap, e, -⟩ := h2; cases e; rfl
  have hs1 := grow_src cellsT_len (by decide) h1
  have hne1 : xs.flatMap cellsT ≠ [] := fun e => by have := congrArg List.length e; rw [gflat_len cellsT_len] at this; simp at this; omega
  obtain ⟨b1, o1, he1, hc1⟩ := hs1 hne1
  cases he1
  by_cases hy0 : ys = []
  · subst hy0
    have hk0 : k2 = 0 := e2
    subst hk0
    refine wl_val hW hg hd (v := .slice (some ⟨b, o, none⟩) nn nn) (w' := w) ⟨nofun, fun _ _ _ _ a h => ?_⟩ (k _ w (by rw [List.append_nil]; exact h1.mono fun k _ h => .inl h) (Keep.refl _ _))
    have hr : (Builtin.append_ #[80, 80] ty #[.slice (some ⟨b, o, none⟩) nn nn, .slice ad2 0 c2]).run Try.prog w = .ok (.slice (some ⟨b, o, none⟩) nn nn) w := by
      cases ad2 with
      | none => simp [Builtin.append_, run_underlying Try.underlying80, sizeOf, typeInfo, hi, Builtin.lenOf, Builtin.firstCells, storeCells]
      | some a2 =>
        have := run_append_room_cells (P := Try.prog) w 80 ty 87 i0 Try.underlying80 hi b o nn nn a2 0 c2 [] (by simp) (by simp) (by simp) (by omega) (by simp) (by simp)
        rw [show w.setCells b (o + nn * i0.size) [] = w from rfl] at this
        exact this
    simp [execOp, resolve, h.ev hx, h.ev hy, invoke, builtin, hr]
  · have hne2 : ys.flatMap cellsT ≠ [] := fun e => by have := congrArg List.length e; rw [gflat_len cellsT_len] at this; exact hy0 (List.eq_nil_of_length_eq_zero (by simp only [List.length_nil] at this; omega))
    obtain ⟨b2, o2, he2, hc2⟩ := grow_src cellsT_len (by decide) h2 hne2
    subst he2
    have hpos : 0 < ys.length := List.length_pos_iff.2 hy0
    obtain ⟨v', w', hr, ho, hg'⟩ := run_append_arg_grows (P := Try.prog) w 80 ty 87 i0 _ 5 56 Try.underlying80 hi hz0 hz1 hz2 rfl (by decide) ⟨b, o, none⟩ nn nn (xs.flatMap cellsT) (by rw [gflat_len cellsT_len, e1]) (fun j u hj => by rw [add_mk]; exact hc1 j u hj) ⟨b2, o2, none⟩ k2 c2 (ys.flatMap cellsT) (by rw [gflat_len cellsT_len, e2]) (fun j u hj => by rw [add_mk]; exact hc2 j u hj) (by omega) (by unfold maxLen; omega) (by omega)
    refine wl_val hW hg hd (v := v') (w' := w') ⟨nofun, fun _ _ _ _ a h => by simp [execOp, resolve, h.ev hx, h.ev hy, invoke, builtin, hr]⟩ (k _ w' ?_ (by have := Keep.grown hg'; exact this.mono fun k _ _ => by simp))
    have ho' : TOwn w.heap.size w' v' (xs ++ ys) := by unfold TOwn; rw [List.length_append, List.flatMap_append, ← e1, ← e2]; exact ho
    exact (ho'.row (by simp; omega)).mono fun k _ h => .inr h
end
/-- May a shape be? -/
def okS (z b t : Int) : Bool := decide (1 ≤ z ∧ z ≤ 100 ∧ 1 ≤ b ∧ b ≤ 1073741824 ∧ 1 ≤ t ∧ t ≤ 67108864)
/-- What a job is. -/
structure Jb where
  l : Int
  ins : List Int
  bot : Bool
/-- Which tables a job takes; what it is. -/
def jobAll (ts : List Tb) (n : Int) (l : List Tb) : List Tb := match l with
  | [] => []
  | t :: _ => l ++ overL ts (n + 1) (stretchL t.a t.z l).1 (stretchL t.a t.z l).2
def lowB (ts : List Tb) (f l : ByteArray) (n : Int) : Nat → Bool
  | 0 => true
  | k + 1 => lowB ts f l n k && (overL ts (n + k) f l).isEmpty
def jobOf (ts : List Tb) (n : Int) (l : List Tb) : Jb := match jobAll ts n l with
  | [] => ⟨n, [], true⟩
  | t :: r => ⟨n, (t :: r).map (·.f), lowB ts (stretchL t.a t.z (t :: r)).1 (stretchL t.a t.z (t :: r)).2 (n + 2) (5 - n).toNat⟩
theorem C93c {A : Nat → Prop} {w : World} {b o n c : Nat} {ts : List Tb} (hR : TRow A w (.slice (some ⟨b, o, none⟩) n c) ts) : Rt Try.prog 93 [.slice (some ⟨b, o, none⟩) n c] w fun r w' => r = .slice (some ⟨b, o, none⟩) n n ∧ Ext w w' :=
  (C93 hR).mono fun r w' ⟨h1, h2⟩ => ⟨by
    have e : (if n = 0 then some (⟨b, o, none⟩ : Addr) else (some (⟨b, o, none⟩ : Addr)).map (·.add (0 * 5))) = some ⟨b, o, none⟩ := by split <;> simp [add_mk]
    rw [h1, e, Nat.sub_zero], h2⟩
theorem TRow.full {A : Nat → Prop} {w : World} {ad : Option Addr} {n c : Nat} {ts : List Tb} (h : TRow A w (.slice ad n c) ts) : TRow A w (.slice ad n n) ts := by
  obtain ⟨ad', cap, e, h1, h2, h3⟩ := h
  cases e
  exact ⟨ad, _, rfl, Nat.le_refl _, h2, h3⟩
theorem lowB_succ {ts : List Tb} {f l : ByteArray} {n : Int} {k : Nat} : lowB ts f l n (k + 1) = (lowB ts f l n k && decide (((overL ts (n + k) f l).length : Int) = 0)) := by
  show (_ && _) = _
  congr 1
  cases overL ts (n + k) f l with
  | nil => rfl
  | cons x xs => simp; omega
theorem map_take_f {ts : List Tb} {s : Nat} (h : s < ts.length) : (ts.take (s + 1)).map (·.f) = (ts.take s).map (·.f) ++ [ts[s].f] := by
  have e : ts.take (s + 1) = ts.take s ++ [ts[s]] := by rw [List.take_add_one, List.getElem?_eq_getElem h]; rfl
  rw [e, List.map_append]; rfl
/-- Numbers collected read as a row. -/
theorem irow_own {base n : Nat} {w : World} {v : Value} {zs : List Int} (h : w.ownsRow base 3 1 v n (intCells zs)) (hl : zs.length ≤ 1099511627776) : IRow (fun k => base ≤ k) w v zs := by
  have hn : n = zs.length := by have := h.1; rw [intCells_len] at this; omega
  subst hn
  obtain ⟨ad, c, rfl, h1, h2, h3⟩ := owns_src h
  refine ⟨ad, c, rfl, hl, fun hne => ?_⟩
  have hne' : intCells zs ≠ [] := fun e => hne (by have := congrArg List.length e; rw [intCells_len] at this; exact List.eq_nil_of_length_eq_zero this)
  obtain ⟨b, o, rfl, hc⟩ := h2 hne'
  exact ⟨b, o, rfl, h3 hne' b rfl, fun i z hi => hc i _ (by simp [intCells, hi])⟩
theorem take_drop_one {ts : List Tb} {i : Nat} (h : i < ts.length) : (ts.take (i + 1)).drop i = [ts[i]] := by
  have e : ts.take (i + 1) = ts.take i ++ [ts[i]] := by rw [List.take_add_one, List.getElem?_eq_getElem h]; rfl
  rw [e, List.drop_append, List.drop_eq_nil_of_le (by simp; omega), List.length_take, Nat.min_eq_left (by omega), Nat.sub_self]
  rfl
/-- How many bytes a level may hold at most. -/
def capN (n : Nat) : Int := 1073741824 * 10 ^ (n - 1)
theorem capN_succ {n : Nat} (h : 1 ≤ n) : capN (n + 1) = capN n * 10 := by
  unfold capN
  obtain ⟨k, rfl⟩ : ∃ k, n = k + 1 := ⟨n - 1, by omega⟩
  rw [Nat.add_sub_cancel, Nat.add_sub_cancel, Int.pow_succ]
  omega
theorem capN_le {n : Nat} (h1 : 1 ≤ n) (h : n ≤ 6) : capN n ≤ 107374182400000 := by
  have : n = 1 ∨ n = 2 ∨ n = 3 ∨ n = 4 ∨ n = 5 ∨ n = 6 := by omega
  rcases this with rfl | rfl | rfl | rfl | rfl | rfl <;> decide
/-- What picking comes to. -/
def Picks (ts : List Tb) (z b t : Int) (is : Bool) (n : Nat) (l : List Tb) : Prop :=
  (is = false ∧ (okS z b t = true → ((levelL ts 0).length : Int) < z)) ∨
  (is = true ∧ okS z b t = true ∧ ((n = 0 ∧ l = levelL ts 0 ∧ z ≤ ((levelL ts 0).length : Int)) ∨ (1 ≤ n ∧ n ≤ 5 ∧ ((levelL ts 0).length : Int) < z ∧ ∃ x ∈ levelL ts (n : Nat), l = [x])))
/-! ### the chapter's example -/
section
variable {m : Nat} {D : List Deferred} {L : Env} {w : World} {ty : TypeId} {x : Operand}
theorem build87 {f : Int} {a z : ByteArray} (w : World) : (Instr.build 87 [(0, Value.int .i64 f), (2, Value.string a), (3, Value.string z)].toArray).run Try.prog w = .ok (.agg (cellsT ⟨f, 0, a, z, 0⟩).toArray) w := by
  simp [Instr.build, run_underlying Try.underlying87, Try.zeroValue87, fl3.siz w, fl9.siz w]
  rfl
theorem x_build87 {f : Int} {a z : ByteArray} : Xv Try.prog m D L (.build 87 #[(0, .const (.int .i64 f)), (2, .const (.string a)), (3, .const (.string z))]) ty w (.agg (cellsT ⟨f, 0, a, z, 0⟩).toArray) w :=
  x_build (parts := [(0, .const (.int .i64 f)), (2, .const (.string a)), (3, .const (.string z))]) Try.underlying87 Try.zeroValue87 (pv := [(0, .int .i64 f), (2, .string a), (3, .string z)]) (fun a h => rfl) (fun w => build87 w)
theorem build82 {ad : Option Addr} {n c : Nat} (w : World) : (Instr.build 82 [(0, Value.slice ad n c)].toArray).run Try.prog w = .ok (.agg #[.slice ad n c, .int .u64 0, .int .i64 0, .int .i64 0]) w := by
  simp [Instr.build, run_underlying Try.underlying82, Try.zeroValue82, fl80.siz w]
  rfl
theorem x_build82 {ad : Option Addr} {n c : Nat} (hx : ev L x = some (.slice ad n c)) : Xv Try.prog m D L (.build 82 #[(0, x)]) ty w (.agg #[.slice ad n c, .int .u64 0, .int .i64 0, .int .i64 0]) w :=
  x_build (parts := [(0, x)]) Try.underlying82 Try.zeroValue82 (pv := [(0, .slice ad n c)]) (fun a h => by show [(0, a.eval x)] = _; rw [h.ev hx]) build82
end
def kts : List Tb := [⟨1, 0, ⟨#[97]⟩, ⟨#[98]⟩, 0⟩, ⟨2, 0, ⟨#[98]⟩, ⟨#[99]⟩, 0⟩]
theorem kts_lev {n : Int} (h : n ≠ 0) : levelL kts n = [] := by
  simp [levelL, kts, Ne.symm h]
theorem kts_lev0 : levelL kts 0 = kts := by simp [levelL, kts]
theorem kts_over {n : Int} (h : n ≠ 0) (f l : ByteArray) : overL kts n f l = [] := by unfold overL; rw [kts_lev h]; rfl
theorem kts_low (f l : ByteArray) : ∀ k : Nat, lowB kts f l 2 k = true
  | 0 => rfl
  | k + 1 => by rw [lowB_succ, kts_low f l k, kts_over (by omega)]; rfl
theorem kts_job : jobOf kts 0 (levelL kts 0) = ⟨0, [1, 2], true⟩ := by
  rw [kts_lev0]
  have e : jobAll kts 0 kts = kts := by
    show kts ++ overL kts (0 + 1) _ _ = kts
    rw [kts_over (by decide), List.append_nil]
  have h2 : jobOf kts 0 kts = ⟨0, kts.map (·.f), lowB kts (stretchL ⟨#[97]⟩ ⟨#[98]⟩ kts).1 (stretchL ⟨#[97]⟩ ⟨#[98]⟩ kts).2 (0 + 2) (5 - 0 : Int).toNat⟩ := by
    unfold jobOf
    rw [e]
    rfl
  rw [h2]
  have h3 := kts_low (stretchL ⟨#[97]⟩ ⟨#[98]⟩ kts).1 (stretchL ⟨#[97]⟩ ⟨#[98]⟩ kts).2 5
  show (⟨0, _, lowB kts _ _ 2 5⟩ : Jb) = _
  rw [h3]; rfl
theorem kts_pick {is : Bool} {n : Nat} {l : List Tb} (h : Picks kts 2 10 10 is n l) : is = true ∧ n = 0 ∧ l = levelL kts 0 := by
  have hl : (levelL kts 0).length = 2 := by rw [kts_lev0]; rfl
  rcases h with ⟨h1, h2⟩ | ⟨h1, h2, ⟨h3, h4, h5⟩ | ⟨h3, h4, h5, h6⟩⟩
  · have := h2 (by decide); omega
  · exact ⟨h1, h3, h4⟩
  · omega
theorem kts_not {is : Bool} {n : Nat} {l : List Tb} (h : Picks kts 3 10 10 is n l) : is = false := by
  have hl : (levelL kts 0).length = 2 := by rw [kts_lev0]; rfl
  rcases h with ⟨h1, h2⟩ | ⟨h1, h2, ⟨h3, h4, h5⟩ | ⟨h3, h4, h5, x, hx, h6⟩⟩
  · exact h1
  · omega
  · rw [kts_lev (by omega)] at hx; cases hx
theorem town_blk {base b n : Nat} {w : World} {ts : List Tb} (hB : Blk w b (ts.flatMap cellsT) 87) (hn : ts.length = n) (hl : n ≤ 1099511627776) (hb : base ≤ b) : TOwn base w (.slice (some ⟨b, 0, none⟩) n n) ts := by
  subst hn
  refine ⟨gflat_len cellsT_len ts, .inr ⟨b, ts.length, (ts.flatMap cellsT).toArray, rfl, hb, hB, Nat.le_refl _, by unfold maxLen; omega, by rw [List.size_toArray, gflat_len cellsT_len], ?_⟩⟩
  rw [List.take_of_length_le (by rw [gflat_len cellsT_len]; exact Nat.le_refl _)]
theorem kts_sz : ∀ x ∈ kts, 0 ≤ x.s ∧ x.s ≤ 1099511627776 := fun x hx => by
  simp only [kts, List.mem_cons, List.not_mem_nil, or_false] at hx
  rcases hx with rfl | rfl <;> decide
end Go.Proofs.Ytblbddamebbgaaa.K
