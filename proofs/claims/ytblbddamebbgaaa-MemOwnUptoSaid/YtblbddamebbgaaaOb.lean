/- One table; what is seen of it. -/
import Derived.Test.YtblbddamebbgaaaZ6
namespace Go.Proofs.Ytblbddamebbgaaa.K
open Go Go.RowKit
set_option linter.unusedVariables false
set_option linter.unusedSectionVars false
set_option linter.unusedSimpArgs false

/-- A table alone, in blocks from base on; what it tells of itself is so, and what is gone bears no value. -/
structure Tbl (base : Nat) (w : World) (bt : Nat) (t : Td) : Prop where
  ebt : t.bt = bt
  tab : Tab (fun k => base ≤ k ∧ k < w.heap.size) w t
  ti : TI t
  okE : ∀ e ∈ t.E, okE e
theorem okE_clr (e : Ent) : okE (clr e) := fun h => by
  have h' : e.g = true := h
  simp [clr, h']
theorem okE_put {t t' : Td} {e : Ent} (h : ∀ x ∈ t.E, okE x) (hp : PutT t (clr e) t') : ∀ x ∈ t'.E, okE x := fun x hx => by
  rw [hp.E] at hx
  rcases insL_mem hx with h1 | h1
  · rw [h1]; exact okE_clr e
  · exact h x h1
section
variable {base bt : Nat} {w w' : World} {t t' : Td}
theorem Td.El (t : Td) : t.E.length = t.ns.length := by simp [Td.E]
theorem Tbl.ext (h : Tbl base w bt t) (hx : Ext w w') : Tbl base w' bt t := ⟨h.ebt, (h.tab.ext hx).mono fun k _ hk => ⟨hk.1, by have := hk.2; have := hx.size; omega⟩, h.ti, h.okE⟩
theorem Tbl.keep {S : Nat → Prop} (h : Tbl base w bt t) (hx : Keep S w w') (hS : ∀ k, base ≤ k → k < w.heap.size → S k) : Tbl base w' bt t := ⟨h.ebt, (h.tab.keep hx fun k _ hk => hS k hk.1 hk.2).mono fun k _ hk => ⟨hk.1, by have := hk.2; have := hx.size; omega⟩, h.ti, h.okE⟩
theorem tbl_new {ha : Nat} {dv : Value} {zs : List Int} (hT : Tab (fun k => base ≤ k) w ⟨bt, ha, [], 0, 0, dv, zs, 0⟩) : Tbl base w bt ⟨bt, ha, [], 0, 0, dv, zs, 0⟩ := ⟨rfl, hT.bound, ⟨rfl, rfl, rfl⟩, fun e he => by simp [Td.E] at he⟩
theorem Tbl.put {A : Nat → Prop} {e : Ent} {bv : Value} (h : Tbl base w bt t) (hby : Byts A w bv e.v) (hok : EntOk e) (hl : t.ns.length ≤ 100000) (hbase : base ≤ w.heap.size) :
    Rt Try.prog 29 [.pointer (some ⟨bt, 0, none⟩), .agg (cellsOf e bv).toArray] w fun r w' => ∃ t', Tbl base w' bt t' ∧ t'.E = insL (clr e) t.E ∧ t'.ns.length ≤ t.ns.length + 1 ∧ Keep (fun k => k < base) w w' ∧ Keep (fun k => k ∉ t.nb) w w' := by
  obtain rfl := h.ebt
  exact (C29n (h.tab.mono fun k _ hk => hk.1) h.ti hby hok hl hbase).mono fun r w' ⟨t', h1, h2, h3, h4, h5, h6, h7, h8⟩ => ⟨t', ⟨h1, h2.bound, h3, okE_put h.okE h5⟩, h4, h6, h7, h8⟩
theorem Tbl.len (h : Tbl base w bt t) : Rt Try.prog 31 [.pointer (some ⟨bt, 0, none⟩)] w fun v w' => v = .int .i64 t.E.length ∧ Ext w w' := by
  obtain rfl := h.ebt; exact (C31 h.tab).mono fun r w' ⟨h1, h2⟩ => ⟨by rw [h1, h.ti.cnt], h2⟩
theorem Tbl.size (h : Tbl base w bt t) : Rt Try.prog 32 [.pointer (some ⟨bt, 0, none⟩)] w fun v w' => v = .int .i64 (sizeL t.E : Nat) ∧ Ext w w' := by
  obtain rfl := h.ebt; exact (C32 h.tab).mono fun r w' ⟨h1, h2⟩ => ⟨by rw [h1, h.ti.sz], h2⟩
theorem Tbl.get {key : ByteArray} {up : Int} (h : Tbl base w bt t) (hlen : t.ns.length ≤ 1048576) :
    Rt Try.prog 36 [.pointer (some ⟨bt, 0, none⟩), .string key, .int .u64 up] w fun r w' => (∃ bv, r = .tuple #[.agg (cellsOf (gotE t.E key up) bv).toArray, .bool (newF t.E key up).isSome] ∧ FB w.heap.size w' bv (gotE t.E key up).v) ∧ Ext w w' := by
  obtain rfl := h.ebt; exact C36g h.tab hlen
theorem Tbl.all (h : Tbl base w bt t) (hlen : t.ns.length ≤ 1048576) : Rt Try.prog 30 [.pointer (some ⟨bt, 0, none⟩)] w fun r w' => Row (fun k => w.heap.size ≤ k) w' r t.E ∧ Ext w w' := by
  obtain rfl := h.ebt; exact C30g h.tab hlen
theorem Tbl.sorted (h : Tbl base w bt t) : Sorted t.E := tab_E_sorted h.tab
theorem Tbl.right (h : Tbl base w bt t) : rightB t.E = true := rightB_iff.2 ⟨h.okE, h.sorted⟩
end
theorem C23r {w : World} {v : Value} {es : List Ent} {up : Int} (hR : Row (fun k => k < w.heap.size) w v es) (hr : rightB es = true) : Rt Try.prog 23 [v, .int .u64 up] w fun r w' => (∃ rv, r = .tuple #[rv, .int .i64 0] ∧ Row (fun _ => True) w' rv (seenL up es)) ∧ Ext w w' :=
  (C23 hR).mono fun r w' ⟨⟨rv, h1, h2⟩, h3⟩ => ⟨by
    rw [hr] at h1 h2
    exact ⟨rv, h1, by rw [← rSeen_is]; exact h2⟩, h3⟩
/-- What is got and what is seen. -/
theorem got_seen {E : List Ent} {key : ByteArray} {up : Int} {k : Nat} (hs : Sorted E) (hk : k ≤ (seenL up E).length) (hno : ∀ (j : Nat) (h : j < (seenL up E).length), j < k → (seenL up E)[j].k ≠ key) (hhit : ∀ h : k < (seenL up E).length, (seenL up E)[k].k = key) :
    ((newF E key up).isSome && !(gotE E key up).g) = decide ((k : Int) < ((seenL up E).length : Int)) ∧ ∀ h : k < (seenL up E).length, gotE E key up = (seenL up E)[k] := by
  have h1 : ∀ h : k < (seenL up E).length, newF E key up = some (seenL up E)[k] ∧ (seenL up E)[k].g = false := fun h => by
    have := (seen_mem hs _).1 (List.getElem_mem h)
    rw [hhit h] at this
    exact this
  refine ⟨?_, fun h => by unfold gotE; rw [(h1 h).1]; rfl⟩
  by_cases h : k < (seenL up E).length
  · have h2 := h1 h
    unfold gotE
    rw [h2.1]
    simp [h2.2, h]
  · have h2 : ¬ ((k : Int) < ((seenL up E).length : Int)) := by omega
    rw [decide_eq_false h2]
    cases h3 : newF E key up with
    | none => rfl
    | some x =>
      have h4 : gotE E key up = x := by unfold gotE; rw [h3]; rfl
      rw [h4]
      cases h5 : x.g with
      | true => rfl
      | false =>
        exfalso
        have h6 : top up E key = some x := h3
        have h7 := (top_some hs).1 h6
        have h8 : x ∈ seenL up E := (seen_mem hs x).2 ⟨by rw [h7.2.1]; exact h6, h5⟩
        obtain ⟨j, hj, e⟩ := List.getElem_of_mem h8
        exact hno j hj (by omega) (by rw [e]; exact h7.2.1)
end Go.Proofs.Ytblbddamebbgaaa.K
