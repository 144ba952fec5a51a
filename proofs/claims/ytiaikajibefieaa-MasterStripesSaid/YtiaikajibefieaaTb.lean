/- copy; configurations, members, commands: how they lie in memory. -/
import Derived.Test.YtiaikajibefieaaTa
namespace Go.Proofs.Ytiaikajibefieaa.K
open Go Go.RowKit
set_option linter.unusedVariables false
set_option linter.unusedSectionVars false
set_option linter.unusedSimpArgs false
section
variable {P : Program} {w : World} {t t' ty e : TypeId} {sz : Nat}
theorem run_copyG {b o n c k c2 : Nat} {ad : Option Addr} {cs news : List Value} {T : TypeId} (hu : P.underlying t = some (.slice e)) (hs : Siz P e sz) (hB : Blk w b cs T) (hl : news.length = Nat.min k n * sz) (hnews : Src w ad news) (h1 : ∀ u ∈ news, u.oneCell' = true) (hfit : o + news.length ≤ cs.length) :
    ∃ w', (Builtin.copy_ #[t, t'] ty #[.slice (some ⟨b, o, none⟩) n c, .slice ad k c2]).run P w = .ok (goInt (Nat.min k n)) w' ∧ Blk w' b (cs.take o ++ news ++ cs.drop (o + news.length)) T ∧ Keep (· ≠ b) w w' := by
  obtain ⟨w', hr, hB', hk, -⟩ := run_storeCells (P := P) news o 0 cs w hB (by omega) h1
  rw [Nat.add_zero] at hB'
  refine ⟨w', ?_, hB', hk⟩
  have hf : (Builtin.firstCells sz (Nat.min k n) (.slice ad k c2)).run P w = .ok news.toArray w := by
    cases ad with
    | none =>
      have hn0 : news = [] := Decidable.byContradiction fun h => by obtain ⟨b', o', h, -⟩ := hnews h; cases h
      subst hn0; rfl
    | some a =>
      have h2 := run_loadCells_list (P := P) w a news (fun j u hj => by
        obtain ⟨b', o', h, hc⟩ := hnews (by rintro rfl; simp at hj)
        cases h; rw [add_mk]; exact hc j u hj)
      rw [hl] at h2
      exact h2
  simp [Builtin.copy_, run_underlying hu, Builtin.lenOf, hs w, hf, hr]
end
section
variable {F : Fence} {n : Nat} {P : Program} {Q : Exit → Act → World → Prop} {m : Nat} {D : List Deferred} {L : Env} {w w' : World} {ops rest : List Oper} {d : Nat} {ty t t' e : TypeId} {pos : String} {af : Array Edge} {g : Option (Nat × Bool)} {x y : Operand} {sz : Nat}
theorem wl_copy {b o n1 c k c2 : Nat} {ad : Option Addr} {cs news : List Value} {T : TypeId} (hu : P.underlying t = some (.slice e)) (hs : Siz P e sz) (hW : Wd F) (hg : wants L ops g = some true) (hd : Nat.blt d m = true) (hx : ev L x = some (.slice (some ⟨b, o, none⟩) n1 c)) (hy : ev L y = some (.slice ad k c2))
    (hB : Blk w b cs T) (hl : news.length = Nat.min k n1 * sz) (hnews : Src w ad news) (h1 : ∀ u ∈ news, u.oneCell' = true) (hfit : o + news.length ≤ cs.length)
    (kk : ∀ w', Blk w' b (cs.take o ++ news ++ cs.drop (o + news.length)) T → Keep (· ≠ b) w w' → WL F n P Q m D ops rest ((d, goInt (Nat.min k n1)) :: L) w') :
    WL F n P Q m D ops (⟨some d, .call ⟨.builtin .copy, #[x, y], #[t, t']⟩, ty, pos, af, g⟩ :: rest) L w := by
  obtain ⟨w', hr, hB', hk⟩ := run_copyG (ty := ty) (t' := t') (c := c) (c2 := c2) hu hs hB hl hnews h1 hfit
  refine wl_val hW hg hd (v := goInt (Nat.min k n1)) (w' := w') ⟨nofun, fun _ _ _ _ a h => ?_⟩ (kk w' hB' hk)
  simp [execOp, resolve, h.ev hx, h.ev hy, invoke, builtin, hr]
theorem x_cap {A : Option Addr} {k c : Nat} {ts : Array TypeId} {t0 : TypeId} (hts : ts = #[t0]) (hu : P.underlying t0 = some (.slice e)) (hx : ev L x = some (.slice A k c)) : Xv P m D L (.call ⟨.builtin .cap, #[x], ts⟩) ty w (.int .i64 c) w :=
  ⟨nofun, fun _ _ _ _ a h => by subst hts; simp [execOp, resolve, h.ev hx, invoke, builtin, Builtin.cap_, run_underlying hu, goInt]⟩
end
/-! ### members, numbers, commands -/
structure Mb where
  n : Int
  b : Int
  w : Bool
def cellsM (m : Mb) : List Value := [.int .i64 m.n, .int .i64 m.b, .bool m.w]
theorem cellsM_len (m : Mb) : (cellsM m).length = 3 := rfl
theorem cellsM_one (m : Mb) : (cellsM m).all Value.oneCell' = true := rfl
theorem mflat_one {ms : List Mb} : ∀ u ∈ ms.flatMap cellsM, u.oneCell' = true := fun u hu => by
  obtain ⟨t, -, h⟩ := List.mem_flatMap.1 hu
  exact List.all_eq_true.1 (cellsM_one t) u h
def cellsI (z : Int) : List Value := [.int .i64 z]
theorem cellsI_len (z : Int) : (cellsI z).length = 1 := rfl
theorem iflat_one {zs : List Int} : ∀ u ∈ zs.flatMap cellsI, u.oneCell' = true := fun u hu => by
  obtain ⟨t, -, h⟩ := List.mem_flatMap.1 hu
  rw [List.mem_singleton.1 h]; rfl
structure Cm where
  k : Int
  n : Int
  b : Int
  e : Int
def cellsC (c : Cm) : List Value := [.int .i64 c.k, .int .i64 c.n, .int .i64 c.b, .int .i64 c.e]
theorem cellsC_len (c : Cm) : (cellsC c).length = 4 := rfl
abbrev MRow := GRow 3 cellsM
abbrev IRow := GRow 1 cellsI
abbrev CRow := GRow 4 cellsC
theorem info35 : (Try.prog.info? 35).map (fun i => (i.zero, i.size, i.bytes)) = some (some (.agg #[.int .i64 0, .int .i64 0, .bool false]), 3, 24) := by kernel_rfl
theorem info3 : (Try.prog.info? 3).map (fun i => (i.zero, i.size, i.bytes)) = some (some (.int .i64 0), 1, 8) := by kernel_rfl
/-! ### an own row, of whatever type -/
section
variable {α : Type} {sz : Nat} {enc : α → List Value} {w w' : World} {v : Value} {xs : List α} {base : Nat} {T : TypeId}
/-- A row of one's own. -/
def GOwn (T : TypeId) (sz : Nat) (enc : α → List Value) (base : Nat) (w : World) (v : Value) (xs : List α) : Prop := w.ownsRow base T sz v xs.length (xs.flatMap enc)
theorem GOwn.ext (h : GOwn T sz enc base w v xs) (hx : Ext w w') : GOwn T sz enc base w' v xs := ownsRow_keep h hx fun _ _ => trivial
theorem GOwn.keep {S : Nat → Prop} (h : GOwn T sz enc base w v xs) (hk : Keep S w w') (hS : ∀ b, v.ownBlock = some b → S b) : GOwn T sz enc base w' v xs := ownsRow_keep h hk hS
theorem GOwn.row (henc : ∀ x, (enc x).length = sz) (h : GOwn T sz enc base w v xs) (hl : xs.length ≤ 1099511627776) : GRow sz enc (fun k => base ≤ k) w v xs := gown_row henc h hl
theorem GOwn.form (h : GOwn T sz enc base w v xs) : ∃ ad c, v = .slice ad xs.length c ∧ xs.length ≤ c := by obtain ⟨ad, c, h, h1, -⟩ := owns_src h; exact ⟨ad, c, h, h1⟩
theorem GOwn.ge {b : Nat} (h : GOwn T sz enc base w v xs) (hb : v.ownBlock = some b) : base ≤ b := (ownsRow_blk h hb).1
theorem GOwn.lt {b : Nat} (h : GOwn T sz enc base w v xs) (hb : v.ownBlock = some b) : b < w.heap.size := by obtain ⟨-, cs, h2⟩ := ownsRow_blk h hb; exact h2.lt
theorem GOwn.ne {b b' : Nat} {cs : List Value} {T' : TypeId} (h : GOwn T sz enc base w v xs) (hb : v.ownBlock = some b) (hB : Blk w b' cs T') (hT : T' ≠ T) : b ≠ b' := by obtain ⟨-, cs', h2⟩ := ownsRow_blk h hb; exact h2.ne hB (fun e => hT e.symm)
theorem gown_nil : GOwn T sz enc base w (.slice none 0 0) [] := ⟨by simp, .inl ⟨rfl, rfl⟩⟩
theorem GOwn.rebase {base' : Nat} (h : GOwn T sz enc base w v xs) (hb : ∀ b, v.ownBlock = some b → base' ≤ b) : GOwn T sz enc base' w v xs := ownsRow_base h hb
/-- What the block of a row holds. -/
theorem GOwn.blk {ad : Option Addr} {n c : Nat} (henc : ∀ x, (enc x).length = sz) (h : GOwn T sz enc base w (.slice ad n c) xs) (hne : 0 < xs.length) : ∃ g cs, ad = some ⟨g, 0, none⟩ ∧ n = xs.length ∧ n ≤ c ∧ c ≤ maxLen ∧ Blk w g cs T ∧ cs.length = c * sz ∧ base ≤ g ∧ cs.take (xs.length * sz) = xs.flatMap enc := by
  have hfl := gflat_len henc xs
  rcases h.2 with ⟨he, h0⟩ | ⟨g, cap, cur, he, hb, hg, hc1, hc2, hc3, hc4⟩
  · omega
  · cases he
    exact ⟨g, cur.toList, rfl, rfl, hc1, hc2, by simpa [Blk] using hg, by simpa using hc3, hb, hc4⟩
/-- A block that begins with a row's cells. -/
theorem gown_of_blk {g c : Nat} {cs : List Value} (henc : ∀ x, (enc x).length = sz) (hB : Blk w g cs T) (hb : base ≤ g) (hc : xs.length ≤ c) (hl : cs.length = c * sz) (hc2 : c ≤ maxLen) (ht : cs.take (xs.length * sz) = xs.flatMap enc) : GOwn T sz enc base w (.slice (some ⟨g, 0, none⟩) xs.length c) xs :=
  ⟨gflat_len henc xs, .inr ⟨g, c, cs.toArray, rfl, hb, hB, hc, hc2, by simpa using hl, by simpa using ht⟩⟩
end
abbrev MOwn (base : Nat) (w : World) (v : Value) (ms : List Mb) : Prop := GOwn 35 3 cellsM base w v ms
abbrev IOwn (base : Nat) (w : World) (v : Value) (zs : List Int) : Prop := GOwn 3 1 cellsI base w v zs
end Go.Proofs.Ytiaikajibefieaa.K
