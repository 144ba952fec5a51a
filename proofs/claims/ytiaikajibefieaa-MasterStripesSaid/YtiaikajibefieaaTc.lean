/- Blocks left by many ways; structs built and compared; own rows cut, put, appended to. -/
import Derived.Test.YtiaikajibefieaaTb
import Derived.ArgAppend
import Derived.Laws.StructEq
namespace Go.Proofs.Ytiaikajibefieaa.K
open Go Go.RowKit
set_option linter.unusedVariables false
set_option linter.unusedSectionVars false
set_option linter.unusedSimpArgs false
/-- A block that many ways leave: what then holds is told once. -/
def BlkK {σ : Type} (id m : Nat) (D : List Deferred) (L' : σ → Env) (I : σ → World → Prop) (Q : Exit → Act → World → Prop) : Exit → Act → World → Prop
  | .normal, a, w => ∃ s, Fr m D a (L' s) ∧ I s w
  | .exit j, a, w => if j = id then ∃ s, Fr m D a (L' s) ∧ I s w else Q (.exit j) a w
  | e, a, w => Q e a w
section
variable {F : Fence} {n : Nat} {P : Program} {Q : Exit → Act → World → Prop} {m : Nat} {D : List Deferred} {L : Env} {w w' : World} {σ : Type} {L' : σ → Env} {I : σ → World → Prop} {id : Nat}
theorem wc_blockK {c : Code} (L' : σ → Env) (I : σ → World → Prop) (k : ∀ s w', I s w' → NX Q m D .normal (L' s) w') (h : WC F n P (BlkK id m D L' I Q) m D c L w) : WC F n P Q m D (.block id c) L w :=
  wc_block fun a ha => wpIn_mono (h a ha) fun e a' w' hq => by
    cases e with
    | normal => obtain ⟨s, hf, hi⟩ := hq; exact k s w' hi a' hf
    | exit j =>
      show (if j = id then Q .normal a' w' else Q (.exit j) a' w')
      have hq : (if j = id then ∃ s, Fr m D a' (L' s) ∧ I s w' else Q (.exit j) a' w') := hq
      by_cases e : j = id
      · rw [if_pos e] at hq ⊢; obtain ⟨s, hf, hi⟩ := hq; exact k s w' hi a' hf
      · rw [if_neg e] at hq ⊢; exact hq
    | _ => exact hq
theorem nx_k (s : σ) (hs : Sub (L' s) L) (hi : I s w) : NX (BlkK id m D L' I Q) m D .normal L w := fun a ha => ⟨s, ha.sub hs, hi⟩
theorem nx_kx (s : σ) (hs : Sub (L' s) L) (hi : I s w) : NX (BlkK id m D L' I Q) m D (.exit id) L w := fun a ha => by
  show (if id = id then ∃ s, Fr m D a (L' s) ∧ I s w else Q (.exit id) a w)
  rw [if_pos rfl]; exact ⟨s, ha.sub hs, hi⟩
theorem nx_k_ret (k : NX Q m D .ret L w) : NX (BlkK id m D L' I Q) m D .ret L w := fun a ha => k a ha
theorem nx_k_other {j : Nat} (hne : Nat.beq j id = false) (k : NX Q m D (.exit j) L w) : NX (BlkK id m D L' I Q) m D (.exit j) L w := fun a ha => by
  have : j ≠ id := fun e => by subst e; rw [Nat.beq_refl] at hne; cases hne
  show (if j = id then ∃ s, Fr m D a (L' s) ∧ I s w else Q (.exit j) a w); rw [if_neg this]; exact k a ha
end
/-! ### structs -/
section
variable {m : Nat} {D : List Deferred} {L : Env} {w : World} {ty t' : TypeId} {x y z : Operand}
theorem build27z (w : World) : (Instr.build 27 #[]).run Try.prog w = .ok (.agg #[.int .i64 0, .slice none 0 0, .slice none 0 0]) w := by
  simp [Instr.build, run_underlying Try.underlying27, Try.zeroValue27]
  rfl
theorem x_build27z : Xv Try.prog m D L (.build 27 #[]) ty w (.agg #[.int .i64 0, .slice none 0 0, .slice none 0 0]) w :=
  x_build (parts := []) Try.underlying27 Try.zeroValue27 (pv := []) (fun a h => rfl) (fun w => build27z w)
theorem build35z (w : World) : (Instr.build 35 #[]).run Try.prog w = .ok (.agg #[.int .i64 0, .int .i64 0, .bool false]) w := by
  simp [Instr.build, run_underlying Try.underlying35, Try.zeroValue35]
  rfl
theorem x_build35z : Xv Try.prog m D L (.build 35 #[]) ty w (.agg #[.int .i64 0, .int .i64 0, .bool false]) w :=
  x_build (parts := []) Try.underlying35 Try.zeroValue35 (pv := []) (fun a h => rfl) (fun w => build35z w)
theorem build35 {a b : Int} {c : Bool} (w : World) : (Instr.build 35 [(0, Value.int .i64 a), (1, Value.int .i64 b), (2, Value.bool c)].toArray).run Try.prog w = .ok (.agg (cellsM ⟨a, b, c⟩).toArray) w := by
  simp [Instr.build, run_underlying Try.underlying35, Try.zeroValue35, fl3.siz w, fl4.siz w]
  rfl
theorem x_build35 {a b : Int} {c : Bool} (hx : ev L x = some (.int .i64 a)) (hy : ev L y = some (.int .i64 b)) (hz : ev L z = some (.bool c)) : Xv Try.prog m D L (.build 35 #[(0, x), (1, y), (2, z)]) ty w (.agg (cellsM ⟨a, b, c⟩).toArray) w :=
  x_build (parts := [(0, x), (1, y), (2, z)]) Try.underlying35 Try.zeroValue35 (pv := [(0, .int .i64 a), (1, .int .i64 b), (2, .bool c)]) (fun a h => by show [(0, a.eval x), (1, a.eval y), (2, a.eval z)] = _; rw [h.ev hx, h.ev hy, h.ev hz]) build35
theorem build35b {a b : Int} (w : World) : (Instr.build 35 [(0, Value.int .i64 a), (1, Value.int .i64 b)].toArray).run Try.prog w = .ok (.agg (cellsM ⟨a, b, false⟩).toArray) w := by
  simp [Instr.build, run_underlying Try.underlying35, Try.zeroValue35, fl3.siz w, fl4.siz w]
  rfl
theorem x_build35b {a b : Int} (hx : ev L x = some (.int .i64 a)) (hy : ev L y = some (.int .i64 b)) : Xv Try.prog m D L (.build 35 #[(0, x), (1, y)]) ty w (.agg (cellsM ⟨a, b, false⟩).toArray) w :=
  x_build (parts := [(0, x), (1, y)]) Try.underlying35 Try.zeroValue35 (pv := [(0, .int .i64 a), (1, .int .i64 b)]) (fun a h => by show [(0, a.eval x), (1, a.eval y)] = _; rw [h.ev hx, h.ev hy]) build35b
instance : DecidableEq Mb := fun a b => by
  rcases a with ⟨a1, a2, a3⟩; rcases b with ⟨b1, b2, b3⟩
  by_cases h : a1 = b1 ∧ a2 = b2 ∧ a3 = b3
  · exact isTrue (by obtain ⟨rfl, rfl, rfl⟩ := h; rfl)
  · exact isFalse (fun e => h (by cases e; exact ⟨rfl, rfl, rfl⟩))
theorem run_equal35 {p q : Mb} (w : World) : (Op.equalIn 10000 35 (.agg (cellsM p).toArray) (.agg (cellsM q).toArray)).run Try.prog w = .ok (decide (p = q)) w := by
  have hf := Try.underlying35
  have hff : Try.prog.underlying 35 = some (.struct (Try.prog.fieldsOf 35)) := by unfold Program.fieldsOf; rw [hf]
  rw [run_equalIn_agg _ _ _ _ _ hff (by kernel_rfl)]
  unfold Program.fieldsOf
  rw [hf]
  rcases p with ⟨a1, a2, a3⟩; rcases q with ⟨b1, b2, b3⟩
  simp [Op.eqFields, part, sizeOf, typeInfo, cellsM, run_equalIn_int w _ 3 .i64 .i64 _ _ Try.underlying3, run_equalIn_bool w _ 4 _ _ Try.underlying4]
  by_cases h1 : a1 = b1 <;> by_cases h2 : a2 = b2 <;> by_cases h3 : a3 = b3 <;> simp [h1, h2, h3]
theorem run_ne35 {p q : Mb} (w : World) : (binOp .neq 35 (.agg (cellsM p).toArray) (.agg (cellsM q).toArray)).run Try.prog w = .ok (.bool (decide (p ≠ q))) w := by
  rw [run_neq_struct, run_equal35]
  by_cases h : p = q <;> simp [h]
theorem x_neq35 {p q : Mb} (hx : ev L x = some (.agg (cellsM p).toArray)) (hy : ev L y = some (.agg (cellsM q).toArray)) : Xv Try.prog m D L (.binOp .neq 35 x y t') ty w (.bool (decide (p ≠ q))) w :=
  ⟨nofun, fun _ _ _ _ a h => by
    have hm : Try.prog.eqGuardType Try.prog.depth 35 = false := by kernel_rfl
    simp only [execOp, h.ev hx, h.ev hy]
    simp [cellsM, run_eqGuard_agg (P := Try.prog) w .neq 35 x y _ _ hm]
    have := run_ne35 (p := p) (q := q) w
    simp [cellsM] at this
    simp [this]⟩
end
section
variable {m : Nat} {D : List Deferred} {L : Env} {w : World} {ty t' : TypeId} {x y z : Operand}
theorem x_convU {s : Nat} {t1 t2 : TypeId} {d1 : TypeDesc} {q : IntKind} (h1 : Try.prog.underlying t1 = some d1) (h2 : Try.prog.underlying t2 = some (.int .u64)) (hx : ev L x = some (.int q s)) (hs : s < 4611686018427387904) : Xv Try.prog m D L (.convert t1 t2 x) ty w (.int .u64 (s : Int)) w :=
  ⟨nofun, fun _ _ _ _ a h => by
    have e : IntKind.u64.wrap (s : Int) = s := by rw [IntWalk.u64_in _ (by omega)]
    cases d1 <;> simp [execOp, h.ev hx, convert, run_underlying h1, run_underlying h2, Conv.intToInt, e]⟩
theorem x_convI {s : Nat} {t1 t2 : TypeId} {d1 : TypeDesc} {q : IntKind} (h1 : Try.prog.underlying t1 = some d1) (h2 : Try.prog.underlying t2 = some (.int .i64)) (hx : ev L x = some (.int q s)) (hs : s < 4611686018427387904) : Xv Try.prog m D L (.convert t1 t2 x) ty w (.int .i64 (s : Int)) w :=
  ⟨nofun, fun _ _ _ _ a h => by
    have e : IntKind.i64.wrap (s : Int) = s := by rw [IntWalk.i64_in _ (by omega)]
    cases d1 <;> simp [execOp, h.ev hx, convert, run_underlying h1, run_underlying h2, Conv.intToInt, e]⟩
theorem x_half {s : Nat} {t : TypeId} (hx : ev L x = some (.int .u64 s)) : Xv Try.prog m D L (.binOp .shr t x (.const (.int .u64 1)) t') ty w (.int .u64 ((s / 2 : Nat) : Int)) w :=
  ⟨nofun, fun _ _ _ _ a h => by
    have e : (s : Int).fdiv 2 = ((s / 2 : Nat) : Int) := by rw [Int.fdiv_eq_ediv_of_nonneg _ (by decide)]; omega
    have hc : a.eval (.const (.int .u64 1)) = .int .u64 1 := rfl
    simp only [execOp, h.ev hx, hc]
    simp [eqGuard, binOp, Op.shift, IntKind.bits, e]⟩
theorem x_minn {i j : Nat} {ts : Array TypeId} (hx : ev L x = some (.int .i64 i)) (hy : ev L y = some (.int .i64 j)) : Xv Try.prog m D L (.call ⟨.builtin .min, #[x, y], ts⟩) ty w (.int .i64 ((min i j : Nat) : Int)) w := by
  have := x_min (P := Try.prog) (m := m) (D := D) (ty := ty) (w := w) (ts := ts) hx hy
  rwa [show (if (j : Int) < (i : Int) then (j : Int) else (i : Int)) = ((min i j : Nat) : Int) from by split <;> omega] at this
theorem x_neq35F {p q : Mb} (hx : ev L x = some (.agg (cellsM p).toArray)) (hy : ev L y = some (.agg (cellsM q).toArray)) (h : p = q) : Xv Try.prog m D L (.binOp .neq 35 x y t') ty w (.bool false) w := by
  have := x_neq35 (m := m) (D := D) (L := L) (w := w) (ty := ty) (t' := t') hx hy
  rwa [show decide (p ≠ q) = false from by simp [h]] at this
end
/-! ### append to an empty slice; one struct appended -/
section
variable {F : Fence} {n : Nat} {P : Program} {Q : Exit → Act → World → Prop} {m : Nat} {D : List Deferred} {L : Env} {w w' : World} {ops rest : List Oper} {d : Nat} {ty t e : TypeId} {pos : String} {af : Array Edge} {g : Option (Nat × Bool)} {x y : Operand} {z : Value} {size bytes base : Nat}
theorem wl_appendE {b : Nat} {ad : Option Addr} {k2 c : Nat} {news : List Value} (ht : P.underlying t = some (.slice e)) (hin : (P.info? e).map (fun i => (i.zero, i.size, i.bytes)) = some (some z, size, bytes)) (hzs : z.cells.size = size) (hsz : 0 < size)
    (hW : Wd F) (hg : wants L ops g = some true) (hd : Nat.blt d m = true) (hx : ev L x = some (.slice (some ⟨b, 0, none⟩) 0 0)) (hy : ev L y = some (.slice ad k2 c)) (hB : Blk w b [] e) (hb : base ≤ b) (hl : news.length = k2 * size) (hnews : Src w ad news) (h1 : ∀ u ∈ news, u.oneCell' = true)
    (h63 : k2 ≤ 1099511627776) (hbytes : bytes ≤ 128) (kk : ∀ v' w', w'.ownsRow base e size v' k2 news → Ext w w' → WL F n P Q m D ops rest ((d, v') :: L) w') :
    WL F n P Q m D ops (⟨some d, .call ⟨.builtin .append, #[x, y], #[t, t]⟩, ty, pos, af, g⟩ :: rest) L w := by
  obtain ⟨v', w'', hr, ho, hx'⟩ := run_appE (P := P) (ty := ty) (c := c) ht hin hzs hsz hB hb hl hnews h1 h63 hbytes
  refine wl_val hW hg hd (v := v') (w' := w'') ⟨nofun, fun _ _ _ _ a h => ?_⟩ (kk v' w'' ho hx')
  simp [execOp, resolve, h.ev hx, h.ev hy, invoke, builtin, hr]
end
section
variable {α : Type} {F : Fence} {n : Nat} {P : Program} {Q : Exit → Act → World → Prop} {m : Nat} {D : List Deferred} {L : Env} {w w' : World} {ops rest : List Oper} {d : Nat} {ty t e : TypeId} {pos : String} {af : Array Edge} {g : Option (Nat × Bool)} {x y : Operand} {z : Value} {size bytes base : Nat} {enc : α → List Value} {xs ys : List α}
/-- A row appended to a row of one's own. -/
theorem wl_appG {v : Value} {ad : Option Addr} {k2 c : Nat} (ht : P.underlying t = some (.slice e)) (hin : (P.info? e).map (fun i => (i.zero, i.size, i.bytes)) = some (some z, size, bytes)) (hzs : z.cells.size = size) (hsz : 0 < size) (henc : ∀ x, (enc x).length = size) (hone : ∀ x, ∀ u ∈ enc x, u.oneCell' = true)
    (hW : Wd F) (hg : wants L ops g = some true) (hd : Nat.blt d m = true) (hx : ev L x = some v) (hy : ev L y = some (.slice ad k2 c)) (h : GOwn e size enc base w v xs) (hk : k2 = ys.length) (hnews : Src w ad (ys.flatMap enc))
    (h63 : xs.length + ys.length ≤ 1099511627776) (hbytes : bytes ≤ 128) (hbase : base ≤ w.heap.size)
    (kk : ∀ v' w', GOwn e size enc base w' v' (xs ++ ys) → Keep (fun k => some k ≠ v.ownBlock) w w' → (v'.ownBlock = v.ownBlock ∨ ∃ b, v'.ownBlock = some b ∧ w.heap.size ≤ b) → WL F n P Q m D ops rest ((d, v') :: L) w') :
    WL F n P Q m D ops (⟨some d, .call ⟨.builtin .append, #[x, y], #[t, t]⟩, ty, pos, af, g⟩ :: rest) L w := by
  subst hk
  refine wl_append ht hin hzs hsz hW hg hd hx hy h (gflat_len henc ys) hnews (fun u hu => by obtain ⟨y, -, hy⟩ := List.mem_flatMap.1 hu; exact hone y u hy) h63 hbytes hbase fun v' w' h5 h6 h7 => kk v' w' ?_ h6 h7
  unfold GOwn
  rw [List.length_append, List.flatMap_append]; exact h5
theorem GOwn.take {T : TypeId} {sz : Nat} {enc : α → List Value} {ad : Option Addr} {k c i : Nat} (henc : ∀ x, (enc x).length = sz) (h : GOwn T sz enc base w (.slice ad k c) xs) (hi : i ≤ xs.length) {ad' : Option Addr} (had : ad' = ad) : GOwn T sz enc base w (.slice ad' i c) (xs.take i) := by
  subst had
  rcases Nat.eq_zero_or_pos xs.length with h0 | h0
  · have : xs = [] := List.eq_nil_of_length_eq_zero h0
    subst this
    have : i = 0 := by simpa using hi
    subst this
    rcases h.2 with ⟨he, h0'⟩ | ⟨g, cap, cur, he, hb, hg, hc1, hc2, hc3, hc4⟩
    · cases he; exact gown_nil
    · cases he; exact ⟨by simp, .inr ⟨g, c, cur, rfl, hb, hg, Nat.zero_le _, hc2, hc3, by simp⟩⟩
  · obtain ⟨g, cs, rfl, rfl, h1, h2, h3, h4, h5, h6⟩ := h.blk henc h0
    have hl : (xs.take i).length = i := by simp; omega
    have e1 : (xs.take i).flatMap enc = (xs.flatMap enc).take (i * sz) := by
      have h7 : xs.flatMap enc = (xs.take i).flatMap enc ++ (xs.drop i).flatMap enc := by rw [← List.flatMap_append, List.take_append_drop]
      have h8 : ((xs.take i).flatMap enc).length = i * sz := by rw [gflat_len henc, hl]
      rw [h7, ← h8, List.take_left' rfl]
    have := gown_of_blk (xs := xs.take i) henc h3 h5 (by rw [hl]; omega) h4 h2 (by rw [hl, e1, ← h6, List.take_take, Nat.min_eq_left (Nat.mul_le_mul_right _ hi)])
    rw [hl] at this; exact this
end
theorem one_M (m : Mb) : ∀ u ∈ cellsM m, u.oneCell' = true := fun u hu => List.all_eq_true.1 (cellsM_one m) u hu
theorem one_I (z : Int) : ∀ u ∈ cellsI z, u.oneCell' = true := fun u hu => by rw [List.mem_singleton.1 hu]; rfl
end Go.Proofs.Ytiaikajibefieaa.K
