/- Entries and lists made by the program itself. -/
import Derived.Test.YtblbddamebbgaaaKs
import Derived.Lib.SlBytesConst
namespace Go.Proofs.Ytblbddamebbgaaa.K
open Go Go.RowKit
set_option linter.unusedVariables false
set_option linter.unusedSectionVars false
set_option linter.unusedSimpArgs false

theorem frozen_keep {w : World} {b : Nat} {cs : List Value} {t : TypeId} {k : Nat} (hB : Blk w b cs t) : Cells (w.freeze ⟨b, k, none⟩ 1) b 0 cs ∧ Keep (· ≠ b) w (w.freeze ⟨b, k, none⟩ 1) := by
  have hb : (w.freeze ⟨b, k, none⟩ 1).heap[b]? = some (.cells cs.toArray t (k, k + 1)) := by
    unfold Blk at hB
    unfold World.freeze
    rw [if_neg (by decide)]
    show (w.heap.modify b _)[b]? = _
    rw [Array.getElem?_modify, if_pos rfl, hB]; rfl
  refine ⟨fun j v hv => ?_, ⟨?_, ?_, ?_, ?_, fun k' hk hs => ?_⟩⟩
  · rw [cell_of_row _ b _ _ t _ hb, Nat.zero_add]; simpa using hv
  · unfold World.freeze; rw [if_neg (by decide)]
  · unfold World.freeze; rw [if_neg (by decide)]
  · unfold World.freeze; rw [if_neg (by decide)]
  · unfold World.freeze; rw [if_neg (by decide)]; show _ ≤ (w.heap.modify b _).size; rw [Array.size_modify]; exact Nat.le_refl _
  · unfold World.freeze; rw [if_neg (by decide)]; show (w.heap.modify b _)[k']? = _; rw [Array.getElem?_modify, if_neg (Ne.symm hs)]
theorem conv_same {w : World} {b n c : Nat} {cs : List Value} (hB : Blk w b cs 5) : ∃ w', (convert 23 23 (.slice (some ⟨b, 0, none⟩) n c)).run Try.prog w = .ok (.slice (some ⟨b, 0, none⟩) n c) w' ∧ Cells w' b 0 cs ∧ Keep (· ≠ b) w w' := by
  have hsh : w.shape? b = some (5, cs.length) := by unfold World.shape?; rw [hB]; simp
  refine ⟨w.freeze ⟨b, cs.length, none⟩ 1, ?_, frozen_keep hB⟩
  simp [convert, run_underlying Try.underlying23, run_underlying Try.underlying5, markStringish, hsh]
theorem build25 {k : ByteArray} {s : Int} {av : Option Addr} {n c : Nat} (w : World) : (Instr.build 25 [(0, Value.string k), (1, Value.int .u64 s), (3, .slice av n c)].toArray).run Try.prog w = .ok (.agg (cellsOf ⟨k, s, false, []⟩ (.slice av n c)).toArray) w := by
  simp [Instr.build, run_underlying Try.underlying25, Try.zeroValue25, fl9.siz w, fl22.siz w, fl4.siz w, fl23.siz w]
  rfl
theorem build25g {k : ByteArray} {s : Int} {g : Bool} (w : World) : (Instr.build 25 [(0, Value.string k), (1, Value.int .u64 s), (2, .bool g)].toArray).run Try.prog w = .ok (.agg (cellsOf ⟨k, s, g, []⟩ (.slice none 0 0)).toArray) w := by
  simp [Instr.build, run_underlying Try.underlying25, Try.zeroValue25, fl9.siz w, fl22.siz w, fl4.siz w, fl23.siz w]
  rfl
section
variable {F : Fence} {n : Nat} {Q : Exit → Act → World → Prop} {m : Nat} {D : List Deferred} {L : Env} {w : World} {ops rest : List Oper} {d : Nat} {ty : TypeId} {pos : String} {af : Array Edge} {g : Option (Nat × Bool)} {x : Operand}
theorem wl_convSame {b k c : Nat} {cs : List Value} (hW : Wd F) (hg : wants L ops g = some true) (hd : Nat.blt d m = true) (hx : ev L x = some (.slice (some ⟨b, 0, none⟩) k c)) (hB : Blk w b cs 5)
    (kk : ∀ w', Cells w' b 0 cs → Keep (· ≠ b) w w' → WL F n Try.prog Q m D ops rest ((d, .slice (some ⟨b, 0, none⟩) k c) :: L) w') : WL F n Try.prog Q m D ops (⟨some d, .convert 23 23 x, ty, pos, af, g⟩ :: rest) L w := by
  obtain ⟨w', hr, hC, hk⟩ := conv_same (n := k) (c := c) hB
  refine wl_val hW hg hd ⟨nofun, fun _ _ _ _ a h => ?_⟩ (kk w' hC hk)
  simp [execOp, h.ev hx, hr]
theorem x_buildE {k : ByteArray} {s : Int} {av : Option Addr} {n' c : Nat} (hx : ev L x = some (.slice av n' c)) : Xv Try.prog m D L (.build 25 #[(0, .const (.string k)), (1, .const (.int .u64 s)), (3, x)]) ty w (.agg (cellsOf ⟨k, s, false, []⟩ (.slice av n' c)).toArray) w :=
  x_build (parts := [(0, .const (.string k)), (1, .const (.int .u64 s)), (3, x)]) Try.underlying25 Try.zeroValue25 (pv := [(0, .string k), (1, .int .u64 s), (3, .slice av n' c)]) (fun a h => by show [(0, _), (1, _), (3, a.eval x)] = _; rw [h.ev hx]; rfl) build25
theorem x_buildG {k : ByteArray} {s : Int} {g : Bool} : Xv Try.prog m D L (.build 25 #[(0, .const (.string k)), (1, .const (.int .u64 s)), (2, .const (.bool g))]) ty w (.agg (cellsOf ⟨k, s, g, []⟩ (.slice none 0 0)).toArray) w :=
  x_build (parts := [(0, .const (.string k)), (1, .const (.int .u64 s)), (2, .const (.bool g))]) Try.underlying25 Try.zeroValue25 (pv := [(0, .string k), (1, .int .u64 s), (2, .bool g)]) (fun a h => by simp [Act.eval]) build25g
end
/-- One byte in cells of its own. -/
theorem byts_one {A : Nat → Prop} {w : World} {b : Nat} {u : UInt8} (hC : Cells w b 0 [.int .u8 u.toNat]) (hA : A b) : Byts A w (.slice (some ⟨b, 0, none⟩) 1 1) [u] :=
  ⟨_, 1, rfl, Nat.le_refl _, fun _ => ⟨b, 0, rfl, hA, fun i v hi => by
    have : i = 0 := by have := (List.getElem?_eq_some_iff.1 hi).1; simp at this; omega
    subst this
    simp at hi
    subst hi
    exact hC 0 _ rfl⟩⟩
/-- A list that lies in one block. -/
theorem row_of_blk {A : Nat → Prop} {w : World} {b : Nat} {es : List Ent} {bvs : List Value} (hl : bvs.length = es.length) (hB : Blk w b (flat es bvs) 25) (hA : A b) (hby : ∀ (i : Nat) (e : Ent) (bv : Value), es[i]? = some e → bvs[i]? = some bv → Byts A w bv e.v) (hok : ∀ e ∈ es, EntOk e) (hn : es.length ≤ 1099511627776) :
    Row A w (.slice (some ⟨b, 0, none⟩) es.length es.length) es :=
  ⟨_, _, rfl, Nat.le_refl _, hn, hok, fun _ => ⟨b, 0, rfl, hA, fun i e hi => by
    have hlt := (List.getElem?_eq_some_iff.1 hi).1
    have hbv : bvs[i]? = some (bvs[i]'(by omega)) := List.getElem?_eq_getElem _
    refine ⟨_, fun j u hj => ?_, hby i e _ hi hbv⟩
    have := flat_at es bvs i e _ hl hi hbv j u hj
    rw [Nat.zero_add]
    exact hB.cell this⟩⟩
/-- The chapter's example. -/
def kn : List Ent := [⟨⟨#[97]⟩, 5, false, [120]⟩, ⟨⟨#[97]⟩, 3, false, [121]⟩, ⟨⟨#[97]⟩, 1, false, [122]⟩, ⟨⟨#[98]⟩, 2, true, []⟩]
theorem k97 : (ByteArray.mk #[97]).toList = [97] := by rw [ByteArray.toList_eq]
theorem k98 : (ByteArray.mk #[98]).toList = [98] := by rw [ByteArray.toList_eq]
theorem bl_97_98 : bl [97] [98] = true := by decide
theorem kn_right : rightB kn = true := by
  rw [rightB_iff]
  refine ⟨by simp [kn, okE], ?_⟩
  simp [kn, Sorted, ltE, k97, k98, bl_97_98]
theorem kn_grps : grps 4 0 kn = [(0, [⟨⟨#[97]⟩, 5, false, [120]⟩, ⟨⟨#[97]⟩, 3, false, [121]⟩, ⟨⟨#[97]⟩, 1, false, [122]⟩]), (3, [⟨⟨#[98]⟩, 2, true, []⟩])] := by
  simp [kn, grps]
theorem kn_seen : seenL 4 kn = [⟨⟨#[97]⟩, 3, false, [121]⟩] := by unfold seenL; rw [show kn.length = 4 from rfl, kn_grps]; simp [seenG, newestN]
theorem kn_left0 : (leftL 3 false kn).length = 3 := by unfold leftL; rw [show kn.length = 4 from rfl, kn_grps]; simp [leftN, newestN]
theorem kn_left1 : (leftL 3 true kn).length = 2 := by unfold leftL; rw [show kn.length = 4 from rfl, kn_grps]; simp [leftN, newestN]
theorem kn_ok : ∀ e ∈ kn, EntOk e := by
  intro e he
  simp only [kn, List.mem_cons, List.not_mem_nil, or_false] at he
  rcases he with rfl | rfl | rfl | rfl <;> exact ⟨by decide, by decide, by decide, by decide⟩
end Go.Proofs.Ytblbddamebbgaaa.K
