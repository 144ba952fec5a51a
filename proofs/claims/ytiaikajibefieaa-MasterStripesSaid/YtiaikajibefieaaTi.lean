/- append of zeros; slices that do not overlap; one number put between others. -/
import Derived.Test.YtiaikajibefieaaTh
import Derived.Laws.Externs
namespace Go.Proofs.Ytiaikajibefieaa.K
open Go Go.RowKit
set_option linter.unusedVariables false
set_option linter.unusedSectionVars false
set_option linter.unusedSimpArgs false
set_option maxRecDepth 100000
section
variable {F : Fence} {n : Nat} {Q : Exit → Act → World → Prop} {m : Nat} {D : List Deferred} {L : Env} {w w' : World} {ops rest : List Oper} {d : Nat} {ty : TypeId} {pos : String} {af : Array Edge} {g : Option (Nat × Bool)} {x y : Operand}
theorem wl_appZ {b i k c : Nat} {cs : List Value} (hW : Wd F) (hg : wants L ops g = some true) (hd : Nat.blt d m = true) (hx : ev L x = some (.slice (some ⟨b, 0, none⟩) i c)) (hy : ev L y = some (.int .i64 k)) (hB : Blk w b cs 3) (hcs : cs.length = c) (hi : i ≤ c) (h0 : 0 < k) (hgr : c < i + k) (hsm : i + k ≤ 1099511627776)
    (kk : ∀ b2 c2 cs2 w', w.heap.size ≤ b2 → Blk w' b2 cs2 3 → cs2.length = c2 → i + k ≤ c2 → c2 ≤ maxLen → cs2.take i = cs.take i → Ext w w' → WL F n Try.prog Q m D ops rest ((d, .slice (some ⟨b2, 0, none⟩) (i + k) c2) :: L) w') :
    WL F n Try.prog Q m D ops (⟨some d, .call ⟨.builtin .append, #[x, y], #[25, 3]⟩, ty, pos, af, g⟩ :: rest) L w := by
  obtain ⟨i0, hi0, hz0, hz1, hz2⟩ := info_parts info3
  have hol : (cs.take i).length = i * i0.size := by rw [hz1, List.length_take]; omega
  have hold := run_firstCells_some (P := Try.prog) w.drew i0.size i ⟨b, 0, none⟩ i c (cs.take i) hol (fun j u hj => by
    rw [add_mk]
    have h1 : cs[j]? = some u := by rw [List.getElem?_take] at hj; split at hj; exact hj; cases hj
    exact (ext_drew w).cell (hB.cell (by rw [Nat.zero_add]; exact h1)))
  have hfit := growslice_fits (need := i + k) (old := c) (bytes := i0.bytes) hgr (by rw [hz2]; omega)
  have hr := Lib.run_append_grow_zeros (P := Try.prog) w 25 3 ty 3 i0 _ .i64 .i64 Try.underlying25 Try.underlying3 hi0 hz0 (some ⟨b, 0, none⟩) i c (cs.take i) hold k h0 (by omega) hgr (by omega) (by rw [hz2]; omega) hfit
  have hge := grownCap_ge w (i + k) c 3
  have hle := grownCap_le_maxLen w (i + k) c 3 (by unfold maxLen; omega)
  obtain ⟨gc, hgc⟩ : ∃ gc, gc = grownCap w (i + k) c 3 := ⟨_, rfl⟩
  rw [← hgc] at hr hge hle
  refine wl_val hW hg hd (v := .slice (some ⟨w.heap.size, 0, none⟩) (i + k) gc) (w' := _) ⟨nofun, fun _ _ _ _ a h => ?_⟩ (kk w.heap.size gc ((cs.take i) ++ (Builtin.zeroCells (Value.int .i64 0).cells k).toList ++ (Builtin.zeroCells (Value.int .i64 0).cells (gc - (i + k))).toList) (w.drew.alloc (.cells ((cs.take i) ++ (Builtin.zeroCells (Value.int .i64 0).cells k).toList ++ (Builtin.zeroCells (Value.int .i64 0).cells (gc - (i + k))).toList).toArray 3)) (Nat.le_refl _) (blk_new w.drew _ 3) ?_ hge hle ?_ ((ext_drew w).trans (ext_alloc _ _)))
  · simp only [execOp, resolve, invoke, builtin]
    have e : ([x, y].map a.eval).toArray = #[.slice (some ⟨b, 0, none⟩) i c, .int .i64 k] := by simp [h.ev hx, h.ev hy]
    simp [h.ev hx, h.ev hy]
    simp [hr, List.append_assoc]
    refine congrArg (fun c => w.drew.alloc (.cells c 3)) ?_
    apply Array.ext'
    simp
  · simp [Builtin.zeroCells, Value.cells]; omega
  · rw [List.append_assoc, List.take_append_of_le_length (by rw [List.length_take]; omega), List.take_take, Nat.min_self]
theorem x_apart39 {bv g1 o c1 lb cb : Nat} {csv cs : List Value} {ts : Array TypeId} (hx : ev L x = some (.slice (some ⟨bv, 0, none⟩) 1 c1)) (hy : ev L y = some (.slice (some ⟨g1, o, none⟩) lb cb)) (hBv : Blk w bv csv 3) (hB : Blk w g1 cs 3) (hne : bv ≠ g1) (hcs : cs.length ≠ 0) : Xv Try.prog m D L (.call ⟨.value (.func 39), #[x, y], ts⟩) ty w (.bool false) w := by
  have hsh : ∀ {b : Nat} {l : List Value}, Blk w b l 3 → w.shape? b = some (3, l.length) := fun {b l} h => by
    unfold World.shape?
    unfold Blk at h
    rw [h]; simp
  have hov : (callFunc 39 #[.slice (some ⟨bv, 0, none⟩) 1 c1, .slice (some ⟨g1, o, none⟩) lb cb]).run Try.prog w = .ok (.value (.bool false)) w := by
    rw [run_callFunc_extern Try.func39 (by kernel_rfl) (by kernel_rfl) (by kernel_rfl) (e := Extern.SlicesOverlaps.overlaps #[25, 25] #[4]) (by kernel_rfl),
      Lib.run_overlaps_apart w 25 4 3 Try.underlying25 1 fl3.siz ⟨bv, 0, none⟩ ⟨g1, o, none⟩ 1 c1 lb cb hne 3 3 csv.length cs.length (hsh hBv) (hsh hB) hcs hBv.free hBv.free]
    rfl
  exact ⟨nofun, fun _ _ _ _ a h => by
    have h1 := h.evs (l := [x, y]) (vs := [.slice (some ⟨bv, 0, none⟩) 1 c1, .slice (some ⟨g1, o, none⟩) lb cb]) (by simp [evs, hx, hy])
    simp only [execOp, resolve, h1]
    simpa [Act.eval, Deferred.ofValue, invoke] using hov⟩
end
/-! ### cells of a row with a number put in -/
theorem iflat_map (zs : List Int) : zs.flatMap cellsI = zs.map (Value.int .i64) := by
  induction zs with
  | nil => rfl
  | cons z zs ih => rw [List.flatMap_cons, ih]; rfl
/-- The two copies, whichever comes first. -/
theorem ins_cells {cs : List Value} {zs : List Int} {x : Int} {i c : Nat} (hi : i < zs.length) (hct : cs.take i = (zs.take i).flatMap cellsI) (hcl : cs.length = c) (hc : zs.length + 1 ≤ c) :
    ((cs.take i ++ [Value.int .i64 x] ++ (zs.drop i).flatMap cellsI) ++ cs.drop (zs.length + 1)).length = c ∧ ((cs.take i ++ [Value.int .i64 x] ++ (zs.drop i).flatMap cellsI) ++ cs.drop (zs.length + 1)).take ((zs.take i ++ x :: zs.drop i).length * 1) = (zs.take i ++ x :: zs.drop i).flatMap cellsI := by
  have h1 : ((zs.drop i).flatMap cellsI).length = zs.length - i := by rw [iflat_map, List.length_map, List.length_drop]
  have h2 : (cs.take i ++ [Value.int .i64 x] ++ (zs.drop i).flatMap cellsI).length = zs.length + 1 := by simp only [List.length_append, List.length_take, h1, List.length_singleton]; omega
  have h3 : (zs.take i ++ x :: zs.drop i).length = zs.length + 1 := by simp; omega
  refine ⟨by rw [List.length_append, h2, List.length_drop]; omega, ?_⟩
  rw [h3, Nat.mul_one, List.take_left' h2, hct, List.flatMap_append, List.flatMap_cons, List.append_assoc]; rfl
end Go.Proofs.Ytiaikajibefieaa.K
