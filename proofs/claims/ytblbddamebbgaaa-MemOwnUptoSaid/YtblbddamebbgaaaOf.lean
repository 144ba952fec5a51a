/- What MemOwn needs: a loop with ranges over functions in it; the document's table alone; a table's sequence. -/
import Derived.Test.YtblbddamebbgaaaOd
namespace Go.Proofs.Ytblbddamebbgaaa.K
open Go Go.RowKit
set_option linter.unusedVariables false
set_option linter.unusedSectionVars false
set_option linter.unusedSimpArgs false

section
variable {F : Fence} {n : Nat} {P : Program} {Q : Exit → Act → World → Prop} {m : Nat} {D : List Deferred} {L : Env} {w : World} {v : Value}
/-- A loop whose rounds leave marks behind. -/
def NextD {σ : Type} (m : Nat) (Ds : σ → List Deferred) (env : σ → Env) (inv : σ → World → Prop) (μ : σ → Nat) (s : σ) (a : Act) (w : World) : Prop := ∃ s', μ s' < μ s ∧ inv s' w ∧ Fr m (Ds s') a (env s')
theorem wc_loopD {σ : Type} {c : Code} (Ds : σ → List Deferred) (env : σ → Env) (inv : σ → World → Prop) (μ : σ → Nat) (s0 : σ) (hD : Ds s0 = D) (h0 : inv s0 w) (hs : Sub (env s0) L)
    (round : ∀ s w, inv s w → WC F n P (Exit.then (NextD m Ds env inv μ s) Q) m (Ds s) c (env s) w) : WC F n P Q m D (.loop c) L w := by
  intro a ha
  have key : ∀ j s w a, μ s = j → inv s w → Fr m (Ds s) a (env s) → ∀ (b : Frame) (k : List Item) (cs : List Frame), b.roundOf = F.round → F.fn b.fn → F.room (cs.length + 1 + n) →
      ∃ e a' w', Q e a' w' ∧ ArrivesIn (Machine.fenced P F) P (lone (b.atR a (.code c :: .inLoop c :: k)) cs w) b k cs e a' w' := by
    intro j
    induction j using Nat.strongRecOn with
    | _ j ih =>
      intro s w a hj hI hf b k cs hro hb hr
      obtain ⟨e, a₁, w₁, hq, harr⟩ := round s w hI a hf b (.inLoop c :: k) cs hro hb hr
      cases e with
      | normal =>
        obtain ⟨s', hlt, hI₁, hf₁⟩ := hq
        obtain ⟨e₂, a₂, w₂, hq₂, harr₂⟩ := ih (μ s') (hj ▸ hlt) s' w₁ a₁ rfl hI₁ hf₁ b k cs hro hb hr
        exact ⟨e₂, a₂, w₂, hq₂, .of_steps (StepsIn.trans harr (.one (fenced_calm hb hr rfl) stepR_inLoop)) harr₂⟩
      | exit id => exact ⟨_, a₁, w₁, hq, .pass (x := .inLoop c) rfl (fun _ _ => .inl (by simp)) harr⟩
      | goto l => exact ⟨_, a₁, w₁, hq, .pass (x := .inLoop c) rfl (fun _ _ => .inl (by simp)) harr⟩
      | ret => exact ⟨_, a₁, w₁, hq, .pass (x := .inLoop c) rfl (fun _ _ => .inl (by simp)) harr⟩
      | panic ch => exact ⟨_, a₁, w₁, hq, .pass (x := .inLoop c) rfl (fun _ _ => .inl (by simp)) harr⟩
      | outgrown => exact ⟨_, a₁, w₁, hq, .pass (x := .inLoop c) rfl (fun _ _ => .inl (by simp)) harr⟩
  intro b k cs hro hb hr
  obtain ⟨e, a', w', hq, harr⟩ := key _ s0 w a rfl h0 (hD ▸ ha.sub hs) b k cs hro hb hr
  exact ⟨e, a', w', hq, .of_steps (.one (fenced_calm hb hr rfl) stepR_loop) harr⟩
theorem nx_nextD {σ : Type} {Ds : σ → List Deferred} {env : σ → Env} {inv : σ → World → Prop} {μ : σ → Nat} {s : σ} (s' : σ) (hμ : μ s' < μ s) (hD : Ds s' = D) (hi : inv s' w) (hs : Sub (env s') L) :
    NX (Exit.then (NextD m Ds env inv μ s) Q) m D .normal L w := fun a h => ⟨s', hμ, hi, hD ▸ h.sub hs⟩
/-- The records of the ranges taken away. -/
def takeAll : List Nat → World → World
  | [], w => w
  | B :: Bs, w => takeAll Bs (w.putObj B (.deferred none))
def Marks (Bs : List Nat) (w : World) : Prop := Bs.Nodup ∧ ∀ B ∈ Bs, w.heap[B]? = some (.deferred (some []))
theorem Marks.tail {B : Nat} {Bs : List Nat} (h : Marks (B :: Bs) w) : Marks Bs (w.putObj B (.deferred none)) := by
  obtain ⟨h1, h2⟩ := h
  obtain ⟨h3, h4⟩ := List.nodup_cons.1 h1
  exact ⟨h4, fun C hC => (World.putObj_heap_other (fun e => h3 (by subst e; exact hC))).trans (h2 C (by simp [hC]))⟩
theorem leaves_marks {fn : Func} {tmps : Array Value} {R : Ending → World → Prop} {u : FrameMode} (hu : u ≠ .run) : ∀ (Bs : List Nat) (w : World), Marks Bs w → LeavesInM F n P fn tmps R [] u (takeAll Bs w) → LeavesInM F n P fn tmps R (Bs.map mark) u w
  | [], w, _, h => h
  | B :: Bs, w, hm, h => ⟨hu, .inl ⟨B, _, rfl, run_takeDeferred (hm.2 B (by simp)), leaves_marks hu Bs _ hm.tail h⟩⟩
theorem ends_ret_marks {fn : Func} {R : Value → World → Prop} {Bs : List Nat} (hm : Marks Bs w) (hr : Res P fn m (Bs.map mark) L (takeAll Bs w) v) (k : R v (takeAll Bs w)) :
    NX (bodyPostM F n P fn (ok1 R)) m (Bs.map mark) .ret L w := fun a h => by
  show LeavesInM F n P fn a.tmps _ a.defers .returning w
  rw [h.defers]
  exact leaves_marks (by simp) Bs w hm ⟨v, hr a h, v, rfl, k⟩
theorem takeAll_blk {b : Nat} {cs : List Value} {t : TypeId} : ∀ (Bs : List Nat) (w : World), Marks Bs w → Blk w b cs t → Blk (takeAll Bs w) b cs t
  | [], w, _, h => h
  | B :: Bs, w, hm, h => takeAll_blk Bs _ hm.tail (h.nc (nc_put (hm.2 B (by simp)) (Nat.le_refl B)))
theorem takeAll_keep {S : Nat → Prop} {w0 : World} : ∀ (Bs : List Nat) (w : World), Marks Bs w → (∀ B ∈ Bs, w0.heap.size ≤ B) → Keep S w0 w → Keep S w0 (takeAll Bs w)
  | [], w, _, _, h => h
  | B :: Bs, w, hm, hB, h => takeAll_keep Bs _ hm.tail (fun C hC => hB C (by simp [hC])) (h.nc (nc_put (hm.2 B (by simp)) (Nat.le_refl B)) (hB B (by simp)))
/-- A range within a block, left by a break or gone through. -/
theorem wc_rangeB {id : Nat} {α σ : Type} {g : Operand} {p : Nat} {assign body : Code} {gf : Nat} {lb : List Value} (enc : α → Value) (S : Nat → Prop) (Yp : α → World → Prop) (Sd Sp : List α → Prop) (N : Nat)
    (hg : ev L g = some (.func (.func gf) #[] lb.toArray)) (he : Enters P gf) (hp : Nat.blt p m = true)
    (hseq : SeqY P gf lb enc S Yp Sd Sp N w) (hS : ∀ k, S k → k < w.heap.size) (hY : ∀ x A B, Yp x A → Nc w.heap.size A B → Yp x B)
    (I : List α → World → Prop) (Ix : Code → List α → World → Prop) (hI : ∀ s A B, I s A → Nc w.heap.size A B → I s B) (hIx : ∀ c s A B, Ix c s A → Nc w.heap.size A B → Ix c s B) (h0 : I [] w)
    (As : α → σ → World → Prop) (hAs : ∀ x s A B, As x s A → Nc w.heap.size A B → As x s B) (La : α → σ → Env)
    (hassign : ∀ (l : Nat) (pre : List α) (x : α) (A : World) (K : Act → World → Prop), I pre A → Yp x A → (∀ s B, Ext A B → As x s B → NX (fun _ a w => K a w) m [] .normal (La x s) B) → WC (Fence.wide.inRound l) 7 P (Exit.then K (fun _ _ _ => False)) m [] assign ((p, enc x) :: L) A)
    (hbody : ∀ (l : Nat) (pre : List α) (x : α) (s : σ) (A : World), I pre A → Yp x A → As x s A → pre.length < N → WC (Fence.wide.inRound l) 7 P (RoundQ w.heap.size S I Ix (pre ++ [x]) A) m [] body (La x s) A)
    (hcont : ∀ (B : Nat) (W : World), w.heap.size ≤ B → ((∃ xs, Sd xs ∧ I xs W) ∨ (∃ pre, Sp pre ∧ Ix (.exit id) pre W)) → W.heap[B]? = some (.deferred (some [])) → NX Q m (mark B :: D) .normal L W)
    (hno : ∀ c pre W, Sp pre → Ix c pre W → c = .exit id) :
    WC Fence.wide 9 P (Exit.inBlock id Q) m D (.rangeFunc g #[p] assign body) L w :=
  wc_rangeY enc S Yp Sd Sp N hg he hp hseq hS hY I Ix hI hIx h0 As hAs La hassign hbody
    (fun B xs W hB hs hi hk => nx_block (hcont B W hB (.inl ⟨xs, hs, hi⟩) hk))
    (fun B c pre W hB hs hi hk => by
      have hc := hno c pre W hs hi
      subst hc
      exact wc_exit (nx_block_exit (hcont B W hB (.inr ⟨pre, hs, hi⟩) hk)))
end
section
variable {m : Nat} {D : List Deferred} {L : Env} {w : World} {ty : TypeId}
theorem build53n (w : World) : (Instr.build 53 #[]).run Try.prog w = .ok (.agg [Value.slice none 0 0, .slice none 0 0, .slice none 0 0, .int .i64 0].toArray) w := by
  simp [Instr.build, run_underlying Try.underlying53, Try.zeroValue53]
  rfl
theorem x_build53n : Xv Try.prog m D L (.build 53 #[]) ty w (.agg [Value.slice none 0 0, .slice none 0 0, .slice none 0 0, .int .i64 0].toArray) w :=
  x_build (parts := []) Try.underlying53 Try.zeroValue53 (pv := []) (fun a h => rfl) (fun w => build53n w)
end
/-- A version laid in is there. -/
theorem insL_has (e : Ent) : ∀ L : List Ent, e ∈ insL e L
  | [] => by simp [insL]
  | x :: xs => by
    simp only [insL]
    split
    · exact List.mem_cons_of_mem _ (insL_has e xs)
    · split <;> simp
theorem insL_still {e y : Ent} : ∀ {L : List Ent}, y ∈ L → ∃ x ∈ insL e L, sameE x y
  | x :: xs, h => by
    simp only [insL]
    split
    · rcases List.mem_cons.1 h with rfl | h
      · exact ⟨y, by simp, rfl, rfl⟩
      · obtain ⟨z, h1, h2⟩ := insL_still (e := e) h
        exact ⟨z, List.mem_cons_of_mem _ h1, h2⟩
    · split
      · rename_i hz
        rcases List.mem_cons.1 h with rfl | h
        · exact ⟨e, by simp, sameE_symm (cmpE_zero.1 hz)⟩
        · exact ⟨y, by simp [h], rfl, rfl⟩
      · exact ⟨y, List.mem_cons_of_mem _ h, rfl, rfl⟩
theorem insAll_has : ∀ (n : Nat) (l : List Ent), l.length = n → ∀ e ∈ l, ∃ x ∈ insAll l, sameE x e
  | 0, l, hl, e, he => by
    have : l = [] := List.eq_nil_of_length_eq_zero hl
    subst this; cases he
  | n + 1, l, hl, e, he => by
    obtain ⟨l', f, rfl⟩ : ∃ l' f, l = l' ++ [f] := by
      rcases List.eq_nil_or_concat l with h | ⟨l', f, h⟩
      · subst h; simp at hl
      · exact ⟨l', f, by simpa using h⟩
    rw [insAll_snoc]
    rcases List.mem_append.1 he with h | h
    · obtain ⟨x, h1, h2⟩ := insAll_has n l' (by simpa using hl) e h
      obtain ⟨z, h3, h4⟩ := insL_still (e := clr f) h1
      exact ⟨z, h3, h4.1.trans h2.1, h4.2.trans h2.2⟩
    · simp at h; subst h
      exact ⟨clr e, insL_has _ _, rfl, rfl⟩
theorem newF_has {l : List Ent} {e : Ent} (he : e ∈ l) : (newF (insAll l) e.k e.s).isSome = true := by
  obtain ⟨x, h1, h2⟩ := insAll_has _ l rfl e he
  unfold newF
  rw [List.find?_isSome]
  exact ⟨x, h1, by simp [h2.1, h2.2]⟩
theorem Marks.ext {Bs : List Nat} {w w' : World} (h : Marks Bs w) (hx : Ext w w') : Marks Bs w' := ⟨h.1, fun B hB => (hx.block B (Array.getElem?_eq_some_iff.1 (h.2 B hB)).1 trivial).trans (h.2 B hB)⟩
theorem Marks.keep {Bs : List Nat} {w w' : World} {b : Nat} {cs : List Value} {t : TypeId} (h : Marks Bs w) (hk : Keep (· ≠ b) w w') (hB : Blk w b cs t) : Marks Bs w' := ⟨h.1, fun C hC => (hk.block C (Array.getElem?_eq_some_iff.1 (h.2 C hC)).1 (fun e => by
  have e' : C = b := e
  subst e'
  have h1 := h.2 C hC
  unfold Blk at hB
  rw [h1] at hB
  cases hB)).trans (h.2 C hC)⟩
theorem Marks.cons {B : Nat} {Bs : List Nat} {w : World} (h : Marks Bs w) (hB : w.heap[B]? = some (.deferred (some []))) (hn : B ∉ Bs) : Marks (B :: Bs) w := ⟨List.nodup_cons.2 ⟨hn, h.1⟩, fun C hC => by
  rcases List.mem_cons.1 hC with rfl | hC
  · exact hB
  · exact h.2 C hC⟩
theorem Marks.lt {B : Nat} {Bs : List Nat} {w : World} (h : Marks Bs w) (hB : B ∈ Bs) : B < w.heap.size := (Array.getElem?_eq_some_iff.1 (h.2 B hB)).1
theorem byts_cells {b n : Nat} {w : World} {l : List UInt8} (hC : Cells w b 0 (byteCells l)) (hn : l.length = n) : Byts (· = b) w (.slice (some ⟨b, 0, none⟩) n n) l :=
  ⟨_, n, by rw [hn], by omega, fun _ => ⟨b, 0, rfl, rfl, fun i u hi => hC i _ (by simp [byteCells, hi])⟩⟩
theorem gotE_len {E : List Ent} {key : ByteArray} {up : Int} (h : ∀ e ∈ E, EntOk e) : (gotE E key up).v.length ≤ 1099511627776 := by
  unfold gotE
  cases hf : newF E key up with
  | none => simp [z0]
  | some x =>
    have hf' := hf
    unfold newF at hf'
    have := (h x (List.mem_of_find?_eq_some hf')).v
    simp only [Option.getD_some]
    omega
theorem pre_at {α : Type} {f : α → Ent} {pre : List α} {x : α} {E : List Ent} (h : (pre ++ [x]).map f <+: E) (hl : pre.length < E.length) : E[pre.length] = f x := by
  obtain ⟨r, hr⟩ := h
  subst hr
  simp
/-- The version that comes behind all. -/
def zz : Ent := ⟨⟨#[122, 122]⟩, 1152921504606846976, false, [108, 97, 116, 101, 114]⟩
theorem zz_ok : EntOk zz := ⟨by decide, by decide, by decide, by decide⟩
section
variable {base bt : Nat} {w w' : World} {t t' : Td}
/-- Put, told of where the table lies. -/
theorem Tbl.putO {A : Nat → Prop} {e : Ent} {bv : Value} {O : Nat → Prop} (h : Tbl base w bt t) (hO : Tab O w t) (hby : Byts A w bv e.v) (hok : EntOk e) (hl : t.ns.length ≤ 100000) :
    Rt Try.prog 29 [.pointer (some ⟨bt, 0, none⟩), .agg (cellsOf e bv).toArray] w fun r w' => ∃ t', t'.bt = bt ∧ Tab (fun k => O k ∨ w.heap.size ≤ k) w' t' ∧ TI t' ∧ (∀ x ∈ t'.E, K.okE x) ∧ t'.E = insL (clr e) t.E ∧ t'.ns.length ≤ t.ns.length + 1 ∧ Keep (fun k => ¬ O k) w w' := by
  obtain rfl := h.ebt
  have hle := t.El
  have h5 := sizeL_le t.E (tab_E_ok hO)
  refine (C29 hO hby hok (by rw [h.ti.cnt]; omega) (by rw [h.ti.sz]; omega)).mono fun u w' ⟨t', h6, h7, h8⟩ => ⟨t', h7.1, h6, h.ti.put h7, okE_put h.okE h7, h7.E, ?_, h8.mono fun k _ hk hm => hk (hO.own k hm)⟩
  have := (insL_len (clr e) t.E).2
  rw [← h7.E, hle, t'.El] at this
  exact this
theorem Tbl.keep0 {S : Nat → Prop} (h : Tbl base w bt t) (hx : Keep S w w') (hS : ∀ k, k < w.heap.size → S k) : Tbl base w' bt t := h.keep hx fun k _ hk => hS k hk
theorem Tbl.seq (h : Tbl base w bt t) (hlen : t.ns.length ≤ 1048576) : Rt Try.prog 37 [.pointer (some ⟨bt, 0, none⟩)] w fun r w' => (∃ b5 rv, r = .func (.func 87) #[] #[.pointer (some ⟨b5, 0, none⟩)] ∧ w.heap.size ≤ b5 ∧ Blk w' b5 [rv] 26 ∧ Row (fun k => k ∉ t.nb ∧ k ≠ b5) w' rv t.E) ∧ Ext w w' := by
  obtain rfl := h.ebt
  obtain ⟨p, hb⟩ := below_ex (kE ⟨#[]⟩) t.ns h.tab.sorted
  have hp := below_empty (tab_E_ok h.tab) hb
  subst hp
  refine (C37 h.tab hb hlen).mono fun r w' ⟨⟨b5, rv, h1, h2, h3, h4⟩, h5⟩ => ⟨⟨b5, rv, h1, h2, h3, ?_⟩, h5⟩
  exact h4.mono fun k _ hk => ⟨hk.1.elim (fun h => h.2.2) (fun h' hm => by have := h.tab.nb_lt hm; omega), hk.2⟩
end
/-- The document's table alone: its block br, the rest from block base on; no draws. -/
structure RefM (base br : Nat) (w : World) (r : Rd) : Prop where
  ebr : r.br = br
  ex : ∃ A : Nat → Prop, RefT (fun _ => False) A w r ∧ ∀ k, A k → base ≤ k
  b2 : ∀ b, r.lv.ownBlock = some b → base ≤ b
  b3 : ∀ b, r.hv.ownBlock = some b → base ≤ b
  hl : r.hs.length = r.L.length
  hc : r.came = r.L.length
section
variable {base br : Nat} {w w' : World} {r r' : Rd}
theorem RPut.lens {e : Ent} (h : RPut r e r') (hl : r.hs.length = r.L.length) (hc : r.came = r.L.length) : r'.hs.length = r'.L.length ∧ r'.came = r'.L.length := by
  obtain ⟨-, -, -, p, hb, h⟩ := h
  have hp := hb.le
  rcases h with ⟨h1, h2, h3, h4⟩ | ⟨h1, h2, h3, h4⟩
  · rw [h2, h3, h4, List.length_set]; exact ⟨hl, hc⟩
  · rw [h2, h3, h4]; simp; omega
theorem RefM.ext (h : RefM base br w r) (hx : Ext w w') : RefM base br w' r := by
  obtain ⟨A, h1, h2⟩ := h.ex
  exact ⟨h.ebr, ⟨A, h1.ext hx, h2⟩, h.b2, h.b3, h.hl, h.hc⟩
theorem RefM.put {B : Nat → Prop} {e : Ent} {bv : Value} (h : RefM base br w r) (hby : Byts B w bv e.v) (hok : EntOk e) (hl : r.L.length ≤ 100000) (hbase : base ≤ w.heap.size) :
    Rt Try.prog 35 [.pointer (some ⟨br, 0, none⟩), .agg (cellsOf e bv).toArray] w fun _ w' => ∃ r', RefM base br w' r' ∧ r'.L = insL (clr e) r.L ∧ r'.L.length ≤ r.L.length + 1 ∧ Keep (fun k => k ≠ br ∧ k < base) w w' := by
  obtain rfl := h.ebr
  obtain ⟨A, h1, h2⟩ := h.ex
  refine (C35 h1 hby hok (by omega) h.hl (by rw [h.hc]; omega) (fun b hb h => h)).mono fun u w' ⟨r', h5, h6, h7, h8, h9⟩ => ⟨r', ⟨h6.1, ⟨_, h5, fun k hk => hk.elim (h2 k) (fun h => by omega)⟩, fun b hb => (h7 b hb).elim (h.b2 b) (fun h => by omega), fun b hb => (h8 b hb).elim (h.b3 b) (fun h => by omega), (h6.lens h.hl h.hc).1, (h6.lens h.hl h.hc).2⟩, h6.L, by rw [h6.L]; exact (insL_len _ _).2, h9.mono fun k _ hk => ⟨hk.1, fun e => by have := h.b2 k e.symm; omega⟩⟩
theorem RefM.tb (h : RefM base br w r) : Blk w br [r.dv, r.lv, r.hv, .int .i64 ((r.came : Nat) : Int)] 53 := by
  obtain ⟨A, h1, h2⟩ := h.ex; rw [← h.ebr]; exact h1.tb
theorem RefM.row (h : RefM base br w r) (hl : r.L.length ≤ 1048576) : ∃ v, r.lv = v ∧ Row (fun k => base ≤ k) w v r.L := by
  obtain ⟨A, h1, h2⟩ := h.ex
  exact ⟨_, rfl, ((h1.ll.rebase h.b2).row (by omega)).mono fun k _ hk => hk.elim (h2 k) id⟩
theorem refM_new {b : Nat} (hB : Blk w b [.slice none 0 0, .slice none 0 0, .slice none 0 0, .int .i64 0] 53) : RefM base b w ⟨b, .slice none 0 0, .slice none 0 0, .slice none 0 0, [], [], [], 0⟩ :=
  ⟨rfl, ⟨fun _ => False, ⟨hB, ⟨none, 0, rfl, Nat.zero_le _, fun h => absurd rfl h⟩, own_nil _ _ _, ⟨rfl, .inl ⟨rfl, rfl⟩⟩, fun k h => h.elim⟩, fun k h => h.elim⟩, nofun, nofun, rfl, rfl⟩
end
end Go.Proofs.Ytblbddamebbgaaa.K
