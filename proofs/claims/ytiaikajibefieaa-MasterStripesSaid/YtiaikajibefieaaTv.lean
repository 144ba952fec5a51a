/- Arguments read: configurations, commands, numbers; the row of a law that holds. -/
import Derived.Test.YtiaikajibefieaaRows
import Derived.Test.YtiaikajibefieaaTu
import Derived.WalkKit
import Derived.ProofKit
import Derived.OpenShut
import Derived.JoinedCond
import Derived.Handed
import Derived.Lib.SmallJoins
import Derived.Deep.Slices
import Derived.Deep.Strs
namespace Go.Proofs.Ytiaikajibefieaa.K
open Go Go.RowKit Go.ChangeShapes Go.WideShapes Go.ChangeAt
set_option linter.unusedVariables false
set_option linter.unusedSectionVars false
set_option linter.unusedSimpArgs false
set_option maxRecDepth 100000
section
variable {H : Type}
variable {enc : TypeId × Value → H} {w : World} {spare : Nat → Bool} {held : Bool} {fuel : Nat} {cs : List Value} {x : DataW H × List MemPlace}
theorem cellsOf3 : Try.prog.cellsOf 3 = 1 := by kernel_rfl
theorem cellsOf4 : Try.prog.cellsOf 4 = 1 := by kernel_rfl
theorem cellsOf24 : Try.prog.cellsOf 24 = 1 := by kernel_rfl
theorem cellsOf25 : Try.prog.cellsOf 25 = 1 := by kernel_rfl
theorem cellsOf27 : Try.prog.cellsOf 27 = 3 := by kernel_rfl
theorem cellsOf32 : Try.prog.cellsOf 32 = 4 := by kernel_rfl
theorem cellsOf35 : Try.prog.cellsOf 35 = 3 := by kernel_rfl
theorem addr_add0 (a : Addr) : a.add 0 = a := by cases a; simp [Addr.add]
theorem cell_spot {w : World} {a : Addr} {v : Value} (h : w.cell? a = some v) : a.spot = none := by
  unfold World.cell? at h
  split at h
  · cases hs : a.spot with
    | none => rfl
    | some s => rw [hs] at h; simp at h
  · cases h
theorem cells_at {a : Addr} {n : Nat} {cs : List Value} (h : w.cells? 0 a n = some cs) (h0 : 0 < n) : a.spot = none ∧ a.block < w.heap.size ∧ cs.length = n ∧ Cells w a.block a.off cs := by
  obtain ⟨-, hl, hg⟩ := World.cells?_some h
  have h1 := hg 0 h0
  rw [addr_add0] at h1
  have hv : cs[0]? = some (cs[0]'(by omega)) := List.getElem?_eq_getElem _
  rw [hv] at h1
  refine ⟨cell_spot h1, World.block_lt_of_cell? w _ h1, hl, fun j v hj => ?_⟩
  have hlt := (List.getElem?_eq_some_iff.1 hj).1
  have := hg j (by omega)
  rw [hj] at this
  obtain ⟨b, o, sp⟩ := a
  have hsp : sp = none := cell_spot h1
  subst hsp
  rw [add_mk] at this
  exact this
theorem list1 {α : Type} : ∀ {l : List α}, l.length = 1 → ∃ a, l = [a]
  | [a], _ => ⟨a, rfl⟩
theorem list3 {α : Type} : ∀ {l : List α}, l.length = 3 → ∃ a b c, l = [a, b, c]
  | [a, b, c], _ => ⟨a, b, c, rfl⟩
theorem list4 {α : Type} : ∀ {l : List α}, l.length = 4 → ∃ a b c d, l = [a, b, c, d]
  | [a, b, c, d], _ => ⟨a, b, c, d, rfl⟩
theorem open_num (h : DataW.trod enc Try.prog w 0 spare held fuel 3 cs = some x) : ∃ z, cs = cellsI z := by
  obtain ⟨z, rfl, -, -⟩ := DataW.trod_int Try.underlying3 h
  exact ⟨z, rfl⟩
theorem open_mb (h : DataW.trod enc Try.prog w 0 spare held fuel 35 cs = some x) : ∃ m, cs = cellsM m := by
  obtain ⟨y0, y1, y2, n, -, hl, h0, h1, h2⟩ := Go.Deep.trod_struct3 Try.underlying35 h
  rw [cellsOf35] at hl
  obtain ⟨c0, c1, c2, rfl⟩ := list3 hl
  replace h0 : DataW.trod enc Try.prog w 0 spare held n 3 ((([c0, c1, c2] : List Value).drop 0).take (Try.prog.cellsOf 3)) = some y0 := h0
  replace h1 : DataW.trod enc Try.prog w 0 spare held n 3 ((([c0, c1, c2] : List Value).drop 1).take (Try.prog.cellsOf 3)) = some y1 := h1
  replace h2 : DataW.trod enc Try.prog w 0 spare held n 4 ((([c0, c1, c2] : List Value).drop 2).take (Try.prog.cellsOf 4)) = some y2 := h2
  rw [cellsOf3] at h0 h1; rw [cellsOf4] at h2
  obtain ⟨a, e0, -, -⟩ := DataW.trod_int Try.underlying3 h0
  obtain ⟨b, e1, -, -⟩ := DataW.trod_int Try.underlying3 h1
  obtain ⟨g, e2, -⟩ := DataW.trod_bool Try.underlying4 h2
  simp at e0 e1 e2
  subst e0; subst e1; subst e2
  exact ⟨⟨a, b, g⟩, rfl⟩
theorem open_cm (h : DataW.trod enc Try.prog w 0 spare held fuel 32 cs = some x) : ∃ c, cs = cellsC c := by
  obtain ⟨y0, y1, y2, y3, n, -, hl, h0, h1, h2, h3⟩ := Go.Joins.trod_struct4 Try.underlying32 h
  rw [cellsOf32] at hl
  obtain ⟨c0, c1, c2, c3, rfl⟩ := list4 hl
  replace h0 : DataW.trod enc Try.prog w 0 spare held n 3 ((([c0, c1, c2, c3] : List Value).drop 0).take (Try.prog.cellsOf 3)) = some y0 := h0
  replace h1 : DataW.trod enc Try.prog w 0 spare held n 3 ((([c0, c1, c2, c3] : List Value).drop 1).take (Try.prog.cellsOf 3)) = some y1 := h1
  replace h2 : DataW.trod enc Try.prog w 0 spare held n 3 ((([c0, c1, c2, c3] : List Value).drop 2).take (Try.prog.cellsOf 3)) = some y2 := h2
  replace h3 : DataW.trod enc Try.prog w 0 spare held n 3 ((([c0, c1, c2, c3] : List Value).drop 3).take (Try.prog.cellsOf 3)) = some y3 := h3
  rw [cellsOf3] at h0 h1 h2 h3
  obtain ⟨a, e0, -, -⟩ := DataW.trod_int Try.underlying3 h0
  obtain ⟨b, e1, -, -⟩ := DataW.trod_int Try.underlying3 h1
  obtain ⟨c, e2, -, -⟩ := DataW.trod_int Try.underlying3 h2
  obtain ⟨d, e3, -, -⟩ := DataW.trod_int Try.underlying3 h3
  simp at e0 e1 e2 e3
  subst e0; subst e1; subst e2; subst e3
  exact ⟨⟨a, b, c, d⟩, rfl⟩
theorem open_grow {α : Type} {en : α → List Value} {ty e : TypeId} {sz : Nat} {v : Value} (hu : Try.prog.underlying ty = some (.slice e)) (hsz : Try.prog.cellsOf e = sz) (h0 : 0 < sz) (d0 : α)
    (hel : ∀ {fuel : Nat} {cs : List Value} {x : DataW H × List MemPlace}, DataW.trod enc Try.prog w 0 spare held fuel e cs = some x → ∃ a, cs = en a) (h : DataW.trod enc Try.prog w 0 spare held fuel ty [v] = some x) :
    ∃ ad n cap, v = .slice ad n cap ∧ (n ≤ 1099511627776 → ∃ l, n = l.length ∧ GRow sz en (fun k => k < w.heap.size) w (.slice ad n cap) l) := by
  rcases Go.Deep.open_slice hu h with ⟨he, -⟩ | ⟨a, len, cap, m, n, D, Pl, he, -, hl, -, hm, -, hx⟩
  · cases he; exact ⟨none, 0, 0, rfl, fun _ => ⟨[], rfl, grow_nil⟩⟩
  · cases he
    refine ⟨some a, len, cap, rfl, fun hlen => ?_⟩
    have hle : len ≤ m := by rw [hm]; split <;> omega
    have hent : ∀ i, i < len → ∃ c : α, w.cells? 0 (a.add (i * sz)) sz = some (en c) := fun i hi => by
      obtain ⟨cs', h1, h2⟩ := hx i (by omega)
      rw [hsz] at h1
      obtain ⟨c, rfl⟩ := hel h2
      exact ⟨c, h1⟩
    refine ⟨(List.range len).map fun i => if hi : i < len then (hent i hi).choose else d0, by simp, some a, cap, by simp, by simpa using hl, by simpa using hlen, fun hne => ?_⟩
    have hp : 0 < len := by
      rcases Nat.eq_zero_or_pos len with h | h
      · subst h; simp at hne
      · exact h
    obtain ⟨e0, h1⟩ := hent 0 hp
    rw [Nat.zero_mul, addr_add0] at h1
    obtain ⟨hsp, hlt, -, -⟩ := cells_at h1 h0
    obtain ⟨b, o, sp⟩ := a
    simp only at hsp hlt
    subst hsp
    refine ⟨b, o, rfl, hlt, hlt, fun i c hi => ?_⟩
    have hil : i < len := by have := (List.getElem?_eq_some_iff.1 hi).1; simpa using this
    rw [List.getElem?_map, List.getElem?_range hil] at hi
    simp only [Option.map_some, Option.some.injEq, dif_pos hil] at hi
    subst hi
    have h2 := (hent i hil).choose_spec
    generalize (hent i hil).choose = e1 at h2 ⊢
    obtain ⟨-, -, -, hC⟩ := cells_at h2 h0
    rw [add_mk] at hC
    exact hC
end
/-! ### the row of a law that holds -/
section
variable {H : Type} {enc : TypeId × Value → H} {P : Program} {W W' : World}
theorem trodAll_stays (hl : laidOutB P = true) (hb : Below W.heap.size W W') {sp : Nat → Bool} : ∀ (ts : List TypeId) (vs : List Value) (ds : List (DataW H)) (p : List MemPlace), (∀ t ∈ ts, P.readableRec t = true ∧ t < P.types.size) → (∀ x ∈ p, x.block < W.heap.size) → (∀ x ∈ p, sp x.block = true) →
    DataW.TrodAll enc P W 0 (fun _ => true) true ts vs ds p → DataW.TrodAll enc P W' 0 sp true ts vs ds p
  | [], vs, ds, p, _, _, _, h => by
    obtain ⟨rfl, rfl, rfl⟩ := trodAll_nil h
    exact trodAll_mk0
  | t :: ts, vs, ds, p, ht, hlt, hsp, h => by
    obtain ⟨v, vs', d, ds', p1, q, rfl, rfl, rfl, h1, h2⟩ := trodAll_cons h
    exact trodAll_cons_mk (WideElems.Trod_stays hl (ht t (by simp)).1 (ht t (by simp)).2 h1 (fun x hx => hb.same (hlt x (by simp [hx]))) (fun x hx => hsp x (by simp [hx])))
      (trodAll_stays hl hb ts vs' ds' q (fun t h => ht t (by simp [h])) (fun x hx => hlt x (by simp [hx])) (fun x hx => hsp x (by simp [hx])) h2)
theorem laidOut : laidOutB Try.prog = true := by kernel_rfl
theorem own : ownKnob Try.prog.godebug = none := by kernel_rfl
theorem post_true {f : Func} {s : ChangeSpec} {fresh handsOn again : Bool} {args : Array Value} {ds gs : List (DataW H)} {before : List MemPlace}
    (hW : DataW.Whole enc Try.prog f.params.toList s.vars false W args.toList ds gs before) (hv : s.vars = []) (hs : s.fn H (ds ++ gs) = { results := [.lit (.bool true)], args := ds })
    (ht : ∀ t ∈ f.params.toList, Try.prog.readableRec t = true ∧ t < Try.prog.types.size) (hr : f.resultTypes = #[4]) (hx : Ext W W') :
    s.post enc Try.prog f false fresh handsOn again W args (.bool true) W' := by
  have hb := hx.below
  have hlt : ∀ p ∈ before, p.block < W.heap.size := fun p hp => hW.lt p hp
  have hargs : ∀ sp : Nat → Bool, (∀ p ∈ before, sp p.block = true) → DataW.TrodAll enc Try.prog W' 0 sp true f.params.toList args.toList (s.fn H (ds ++ gs)).args before := fun sp hsp => by
    obtain ⟨p, q, hA, hV, rfl, -, -⟩ := hW
    rw [hv] at hV
    obtain ⟨rfl, rfl⟩ := trodVars_none hV
    rw [hs]
    simp only [List.append_nil] at hlt hsp ⊢
    exact trodAll_stays laidOut hb _ _ _ _ ht hlt hsp hA
  have hres : ∀ (b : Nat) (sp : Nat → Bool) (hd : Bool), DataW.TrodAll enc Try.prog W' b sp hd f.resultTypes.toList ((Value.bool true).resultList f.resultTypes.size) (s.fn H (ds ++ gs)).results [] := fun b sp hd => by
    rw [hs, hr]
    exact trodAll_cons_mk (shut_bool Try.underlying4 _) trodAll_mk0
  have hvars : ∀ sp : Nat → Bool, DataW.TrodVars enc Try.prog W' sp s.vars (s.fn H (ds ++ gs)).vars [] := fun sp => by
    rw [hs, hv]; rfl
  have hold : ∀ p ∈ before, (fun b => decide (b < W.heap.size)) p.block = true := fun p hp => by simpa using hlt p hp
  refine ⟨ds, gs, before, [], before, [], hW, hres _ _ _, hargs _ hold, hvars _, hb.frame _, fun _ => ?_⟩
  obtain ⟨_, _, _, _, _, hz, hn⟩ := hW
  refine ⟨ok_one hr rfl (okWide_bool_mk Try.underlying4 _), _, _, ([] ++ before) ++ [], ⟨[] ++ before, [], trodAll_append (hargs _ (fun _ _ => rfl)) (hres _ _ _), hvars _, rfl, ?_, fun h => by cases h⟩, ?_⟩
  · intro b off hp
    simp only [List.nil_append, List.append_nil] at hp
    rw [hb.frozen (p := ⟨b, off, none⟩) (hlt _ hp)]
    exact hz b off hp
  · intro p hp _
    simpa using hp
/-- One argument: of type 22, commands. -/
theorem open_cmds_arg {r : Reach} {b0 : Nat} {v : Value} {d : DataW H} {p : List MemPlace} (h : DataW.Trod enc Try.prog W 0 (fun _ => true) true 22 v d p) (hval : Value.okWide Try.prog W r b0 22 v) : ∃ ad n cap, v = .slice ad n cap ∧ (n ≤ 1099511627776 → ∃ l, n = l.length ∧ CRow (fun k => k < W.heap.size) W (.slice ad n cap) l) := by
  obtain ⟨a, len, cap, rfl⟩ := okWide_slice Try.underlying22 hval
  obtain ⟨n, hn⟩ := h
  exact open_grow Try.underlying22 cellsOf32 (by decide) (⟨0, 0, 0, 0⟩ : Cm) open_cm hn
/-- .. of type 32: a command. -/
theorem open_cm_arg {r : Reach} {b0 : Nat} {v : Value} {d : DataW H} {p : List MemPlace} (h : DataW.Trod enc Try.prog W 0 (fun _ => true) true 32 v d p) (hval : Value.okWide Try.prog W r b0 32 v) : ∃ c, v = .agg (cellsC c).toArray := by
  obtain ⟨cs, rfl, -⟩ := okWide_struct Try.underlying32 hval
  obtain ⟨n, hn⟩ := h
  obtain ⟨c, h1⟩ := open_cm hn
  have h1 : cs.toList = cellsC c := h1
  exact ⟨c, by rw [← h1]⟩
/-- .. of type 27: a configuration. -/
theorem open_cfg_arg {r : Reach} {b0 : Nat} {v : Value} {d : DataW H} {p : List MemPlace} (h : DataW.Trod enc Try.prog W 0 (fun _ => true) true 27 v d p) (hval : Value.okWide Try.prog W r b0 27 v) : ∃ e a1 n1 c1 a2 n2 c2, v = .agg #[.int .i64 e, .slice a1 n1 c1, .slice a2 n2 c2] ∧
    (n1 ≤ 1099511627776 → ∃ ms, n1 = ms.length ∧ MRow (fun k => k < W.heap.size) W (.slice a1 n1 c1) ms) ∧ (n2 ≤ 1099511627776 → ∃ zs, n2 = zs.length ∧ IRow (fun k => k < W.heap.size) W (.slice a2 n2 c2) zs) := by
  obtain ⟨cs, rfl, -⟩ := okWide_struct Try.underlying27 hval
  obtain ⟨n, hn⟩ := h
  obtain ⟨y0, y1, y2, m, -, hl, h0, h1, h2⟩ := Go.Deep.trod_struct3 Try.underlying27 hn
  rw [cellsOf27] at hl
  obtain ⟨u0, u1, u2, e⟩ := list3 hl
  rw [e] at h0 h1 h2
  replace h0 : DataW.trod enc Try.prog W 0 (fun _ => true) true m 3 ((([u0, u1, u2] : List Value).drop 0).take (Try.prog.cellsOf 3)) = some y0 := h0
  replace h1 : DataW.trod enc Try.prog W 0 (fun _ => true) true m 24 ((([u0, u1, u2] : List Value).drop 1).take (Try.prog.cellsOf 24)) = some y1 := h1
  replace h2 : DataW.trod enc Try.prog W 0 (fun _ => true) true m 25 ((([u0, u1, u2] : List Value).drop 2).take (Try.prog.cellsOf 25)) = some y2 := h2
  rw [cellsOf3] at h0; rw [cellsOf24] at h1; rw [cellsOf25] at h2
  obtain ⟨a, e0, -, -⟩ := DataW.trod_int Try.underlying3 h0
  obtain ⟨a1, n1, c1, e1, hr1⟩ := open_grow (v := u1) Try.underlying24 cellsOf35 (by decide) (⟨0, 0, false⟩ : Mb) open_mb h1
  obtain ⟨a2, n2, c2, e2, hr2⟩ := open_grow (v := u2) Try.underlying25 cellsOf3 (by decide) (0 : Int) open_num h2
  simp at e0
  subst e0; subst e1; subst e2
  refine ⟨a, a1, n1, c1, a2, n2, c2, ?_, hr1, hr2⟩
  have e' : cs.toList = [.int .i64 a, .slice a1 n1 c1, .slice a2 n2 c2] := e
  rw [show cs = cs.toList.toArray from rfl, e']
/-- .. of type 25: numbers. -/
theorem open_ints_arg {r : Reach} {b0 : Nat} {v : Value} {d : DataW H} {p : List MemPlace} (h : DataW.Trod enc Try.prog W 0 (fun _ => true) true 25 v d p) (hval : Value.okWide Try.prog W r b0 25 v) : ∃ ad n cap, v = .slice ad n cap ∧ (n ≤ 1099511627776 → ∃ l, n = l.length ∧ IRow (fun k => k < W.heap.size) W (.slice ad n cap) l) := by
  obtain ⟨a, len, cap, rfl⟩ := okWide_slice Try.underlying25 hval
  obtain ⟨n, hn⟩ := h
  exact open_grow Try.underlying25 cellsOf3 (by decide) (0 : Int) open_num hn
end
end Go.Proofs.Ytiaikajibefieaa.K
