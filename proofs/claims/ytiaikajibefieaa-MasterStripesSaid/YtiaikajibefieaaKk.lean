/- A drawn region in which one operation turns a block: all others may come behind it. -/
import Derived.Test.YtiaikajibefieaaKd
namespace Go.Proofs.Ytiaikajibefieaa.K
open Go Go.RowKit
set_option linter.unusedVariables false
set_option linter.unusedSectionVars false
set_option linter.unusedSimpArgs false

/-- What a value's fact must bear: if the operation is the special one: what the others do; else what it does too. -/
def StableS (S : Nat → Prop) (b : Bool) (p : VP) : Prop := ∀ v w w', p v w → Keep (fun k => b = false → S k) w w' → p v w'
/-- A free operation; b: it is the special one, which may turn what lies outside S. -/
def Free1S (S : Nat → Prop) (b : Bool) (F : Fence) (n : Nat) (P : Program) (m : Nat) (D : List Deferred) (ops : List Oper) (w0 : World) (o : Oper) (L : Env) (V : List (Nat × VP)) (R : VP) : Prop :=
  ∀ w', Keep (fun k => b = false → S k) w0 w' → ∀ a, Fr m D a L → (∀ q ∈ V, q.1 ∈ looks ops o → ∃ v, a.tmps[q.1]? = some v ∧ q.2 v w') → (Region.wanted o (yielded ops.toArray a.tmps) = true ∧ Does F n P a.eval o w' (fun v w'' => R v w'' ∧ Keep (fun k => b = true → S k) w' w'')) ∨ (Region.wanted o (yielded ops.toArray a.tmps) = false ∧ R undef w')
def QWS (S : Nat → Prop) (sp : Nat) (F : Fence) (n : Nat) (P : Program) (m : Nat) (D : List Deferred) (ops : List Oper) (w0 : World) (K : Env → List (Nat × VP) → Prop) : Nat → List Oper → Env → List (Nat × VP) → Prop
  | _, [], L, V => K L V
  | i, o :: rest, L, V => ∃ d, o.dst = some d ∧ Nat.blt d m = true ∧
      ((∃ c, Free1S S (decide (i = sp)) F n P m D ops w0 o L V (fun v _ => v = c) ∧ QWS S sp F n P m D ops w0 K (i + 1) rest ((d, c) :: L) V) ∨
       (∃ p, StableS S (decide (i = sp)) p ∧ at' L d = none ∧ Free1S S (decide (i = sp)) F n P m D ops w0 o L V p ∧ QWS S sp F n P m D ops w0 K (i + 1) rest L ((d, p) :: V)))
def TailS (S : Nat → Prop) (F : Fence) (n : Nat) (P : Program) (Q : Exit → Act → World → Prop) (m : Nat) (D : List Deferred) (ops tail : List Oper) (w0 : World) (L : Env) (V : List (Nat × VP)) : Prop :=
  ∀ w', Keep S w0 w' → ∀ (L' : Env), (∀ q ∈ V, ∃ v, at' L' q.1 = some v ∧ q.2 v w') → Sub L L' → WL F n P Q m D ops tail L' w'

section
variable {F : Fence} {n : Nat} {P : Program} {Q : Exit → Act → World → Prop} {m : Nat} {D : List Deferred} {ops : List Oper} {w0 : World} {a0 : Act} {L0 : Env} {T : Nat → Prop} {sp : Nat}
structure ObS (S' : Nat → Prop) (sp : Nat) (F : Fence) (n : Nat) (P : Program) (m : Nat) (D : List Deferred) (ops : List Oper) (w0 : World) (S : Nat → Sp) (L : Env) (V : List (Nat × VP)) (i : Nat) (o : Oper) : Prop where
  stable : StableS S' (decide (i = sp)) (S i).holds
  slot : ∃ d, o.dst = some d ∧ Nat.blt d m = true ∧ (∀ q, S i = .p q → at' (Lc ops S L i) d = none)
  does : Free1S S' (decide (i = sp)) F n P m D ops w0 o (Lc ops S L i) (Vc ops S V i) (S i).holds

theorem stableS_c {S : Nat → Prop} {b : Bool} (c : Value) : StableS S b (Sp.c c).holds := fun _ _ _ h _ => h

theorem qw_specsS {K : Env → List (Nat × VP) → Prop} {L : Env} {V : List (Nat × VP)} : ∀ (rest : List Oper) (i : Nat) (S : Nat → Sp), (∀ j o, rest[j]? = some o → ops[i + j]? = some o) →
    QWS T sp F n P m D ops w0 K i rest (Lc ops S L i) (Vc ops S V i) →
    ∃ S' : Nat → Sp, (∀ j, j < i → S' j = S j) ∧ (∀ j o, i ≤ j → rest[j - i]? = some o → ObS T sp F n P m D ops w0 S' L V j o) ∧ K (Lc ops S' L (i + rest.length)) (Vc ops S' V (i + rest.length))
  | [], i, S, ho, h => ⟨S, fun _ _ => rfl, fun j o _ hj => by simp at hj, h⟩
  | o :: rest, i, S, ho, h => by
    have hoi : ops[i]? = some o := by have := ho 0 o (by simp); simpa using this
    have ho' : ∀ j o', rest[j]? = some o' → ops[i + 1 + j]? = some o' := fun j o' hj => by
      have := ho (j + 1) o' (by simpa using hj); rwa [show i + (j + 1) = i + 1 + j from by omega] at this
    obtain ⟨d, hd, hdm, h⟩ := h
    have hg : gdst ops i = some d := by rw [gdst_eq, hoi]; simpa using hd
    have key : ∀ s : Sp, StableS T (decide (i = sp)) s.holds → (∀ q, s = .p q → at' (Lc ops S L i) d = none) → Free1S T (decide (i = sp)) F n P m D ops w0 o (Lc ops S L i) (Vc ops S V i) s.holds →
        QWS T sp F n P m D ops w0 K (i + 1) rest (Lc ops (fun k => if k = i then s else S k) L (i + 1)) (Vc ops (fun k => if k = i then s else S k) V (i + 1)) →
        ∃ S' : Nat → Sp, (∀ j, j < i → S' j = S j) ∧ (∀ j o', i ≤ j → (o :: rest)[j - i]? = some o' → ObS T sp F n P m D ops w0 S' L V j o') ∧ K (Lc ops S' L (i + (o :: rest).length)) (Vc ops S' V (i + (o :: rest).length)) := by
      intro s hst hnone hf hq
      obtain ⟨S', h1, h2, h3⟩ := qw_specsS rest (i + 1) (fun k => if k = i then s else S k) ho' hq
      have hLc : ∀ (S1 S2 : Nat → Sp) k, (∀ j, j < k → S1 j = S2 j) → Lc ops S1 L k = Lc ops S2 L k := by
        intro S1 S2 k
        induction k with
        | zero => intro _; rfl
        | succ k ih => intro he; simp only [Lc]; rw [he k (by omega), ih (fun j hj => he j (by omega))]
      have hVc : ∀ (S1 S2 : Nat → Sp) k, (∀ j, j < k → S1 j = S2 j) → Vc ops S1 V k = Vc ops S2 V k := by
        intro S1 S2 k
        induction k with
        | zero => intro _; rfl
        | succ k ih => intro he; simp only [Vc]; rw [he k (by omega), ih (fun j hj => he j (by omega))]
      have hlow : ∀ j, j < i → S' j = S j := fun j hj => by rw [h1 j (by omega)]; simp [show j ≠ i from by omega]
      have hSi : S' i = s := by rw [h1 i (by omega)]; simp
      refine ⟨S', hlow, fun j o' hij hj => ?_, by rw [List.length_cons, show i + (rest.length + 1) = i + 1 + rest.length from by omega]; exact h3⟩
      by_cases e : j = i
      · subst e
        simp at hj
        subst hj
        have hL := hLc S' S j hlow
        have hV := hVc S' S j hlow
        exact ⟨by rw [hSi]; exact hst, ⟨d, hd, hdm, fun q hq' => by rw [hL]; rw [hSi] at hq'; exact hnone q hq'⟩, by rw [hSi, hL, hV]; exact hf⟩
      · refine h2 j o' (by omega) ?_
        have : j - i = (j - (i + 1)) + 1 := by omega
        rw [this, List.getElem?_cons_succ] at hj
        exact hj
    have hLk : ∀ s : Sp, Lc ops (fun k => if k = i then s else S k) L i = Lc ops S L i := by
      intro s
      have : ∀ k, k ≤ i → Lc ops (fun k => if k = i then s else S k) L k = Lc ops S L k := by
        intro k
        induction k with
        | zero => intro _; rfl
        | succ k ih => intro hk; simp only [Lc]; rw [ih (by omega), if_neg (by omega : k ≠ i)]
      exact this i (Nat.le_refl _)
    have hVk : ∀ s : Sp, Vc ops (fun k => if k = i then s else S k) V i = Vc ops S V i := by
      intro s
      have : ∀ k, k ≤ i → Vc ops (fun k => if k = i then s else S k) V k = Vc ops S V k := by
        intro k
        induction k with
        | zero => intro _; rfl
        | succ k ih => intro hk; simp only [Vc]; rw [ih (by omega), if_neg (by omega : k ≠ i)]
      exact this i (Nat.le_refl _)
    rcases h with ⟨c, hf, hq⟩ | ⟨p, hst, hnone, hf, hq⟩
    · refine key (.c c) (stableS_c c) (fun q h => by cases h) hf ?_
      simp only [Lc, Vc, hg, if_pos, hLk, hVk]
      exact hq
    · refine key (.p p) hst (fun _ _ => hnone) hf ?_
      simp only [Lc, Vc, hg, if_pos, hLk, hVk]
      exact hq

structure InvS (T : Nat → Prop) (sp : Nat) (m : Nat) (D : List Deferred) (ops : List Oper) (N : Nat) (w0 : World) (S : Nat → Sp) (L0 : Env) (listed : Array Bool) (a : Act) (w : World) : Prop where
  size : listed.size = ops.length
  tail : ∀ i, N ≤ i → i < ops.length → listed.getD i false = false
  pc : PC ops (fun i => listed.getD i false)
  ext : Keep (fun k => listed.getD sp false = true → T k) w0 w
  tsize : a.tmps.size = m
  defers : a.defers = D
  old : ∀ s v, at' L0 s = some v → (∀ i, i < N → gdst ops i = some s → listed.getD i false = false) → a.tmps[s]? = some v
  new : ∀ i, i < N → listed.getD i false = true → ∀ d, gdst ops i = some d → ∃ v, a.tmps[d]? = some v ∧ (S i).holds v w

theorem any_freeS {N : Nat} {S : Nat → Sp} {V : List (Nat × VP)} (hW : Wd F) (hc : Chk ops N) (hL0 : ∀ s v, at' L0 s = some v → s < m) (hob : ∀ i o, i < N → ops[i]? = some o → ObS T sp F n P m D ops w0 S L0 [] i o) (hV : V = Vc ops S [] N)
    (htail : TailS T F n P Q m D ops (ops.drop N) w0 (Lc ops S L0 N) V) :
    ∀ (fuel : Nat) (listed : Array Bool) (a : Act) (w : World), InvS T sp m D ops N w0 S L0 listed a w → ops.length - N + ((List.range N).filter fun i => !listed.getD i false).length ≤ fuel →
      wpAnyIn F n P .any ops.toArray Q fuel listed a w := by
  have hNl := free_len hc
  have hslot : ∀ i, i < N → ∃ o d, ops[i]? = some o ∧ o.dst = some d ∧ gdst ops i = some d ∧ d < m := fun i hi => by
    obtain ⟨o, ho, -, -⟩ := hc.free i hi
    obtain ⟨d, hd, hdm, -⟩ := (hob i o hi ho).slot
    exact ⟨o, d, ho, hd, by rw [gdst_eq, ho]; simpa using hd, by simpa using hdm⟩
  -- what is known of a slot of which Lc says something, once all that write it have come up
  have hread : ∀ (listed : Array Bool) (a : Act) (w : World), InvS T sp m D ops N w0 S L0 listed a w → ∀ i s v, i ≤ N → at' (Lc ops S L0 i) s = some v → (∀ j, j < N → gdst ops j = some s → (j < i ∧ listed.getD j false = true) ∨ (i ≤ j ∧ listed.getD j false = false)) → a.tmps[s]? = some v := by
    intro listed a w hI i s v hi hs hall
    rcases lc_some i hs with ⟨j, hj, hg, hS⟩ | ⟨h1, h2⟩
    · obtain ⟨u, hu, hh⟩ := hI.new j (by omega) ((hall j (by omega) hg).elim (fun h => h.2) (fun h => absurd h.1 (by omega))) s hg
      rw [hS] at hh
      have : u = v := hh
      rw [← this]; exact hu
    · refine hI.old s v h1 (fun j hj hg => ?_)
      rcases hall j hj hg with hall' | hall'
      case inr => exact hall'.2
      exfalso
      have hji := hall'.1
      cases hSj : S j with
      | c c => exact h2 j hji c hg hSj
      | p q =>
        obtain ⟨o, d, ho, hd, hgd, -⟩ := hslot j hj
        obtain ⟨d', hd', -, hn⟩ := (hob j o hj ho).slot
        rw [hd] at hd'; cases hd'
        rw [hg] at hgd; cases hgd
        have := lc_none j (hn q hSj)
        rw [this] at h1; cases h1
  have hfin : ∀ (listed : Array Bool) (a : Act) (w : World), InvS T sp m D ops N w0 S L0 listed a w → (∀ i, i < N → listed.getD i false = true) → wpListIn F n P ops.toArray Q (ops.drop N) a w := by
    intro listed a w hI hall
    refine htail w (hI.ext.mono fun k _ h _ => h) ((List.range m).map fun i => (i, a.tmps.getD i undef)) (fun q hq => ?_) (fun s v hs => ?_) a ⟨hI.tsize, hI.defers, fun s v hs => ?_⟩
    · rw [hV] at hq
      obtain ⟨j, hj, hgj, hSj⟩ := vc_mem N hq
      obtain ⟨v, hv, hh⟩ := hI.new j hj (hall j hj) q.1 hgj
      obtain ⟨oj, dj, hoj, hdj, hgj', hm⟩ := hslot j hj
      rw [hgj] at hgj'; cases hgj'
      refine ⟨v, ?_, by rw [hSj] at hh; exact hh⟩
      rw [at_tab_mem _ (List.mem_range.2 hm), Array.getD_eq_getD_getElem?, hv]; rfl
    · have hv := hread listed a w hI N s v (Nat.le_refl _) hs (fun j hj hgj => .inl ⟨hj, hall j hj⟩)
      have hsm : s < m := by rw [← hI.tsize]; exact (Array.getElem?_eq_some_iff.1 hv).1
      rw [at_tab_mem _ (List.mem_range.2 hsm), Array.getD_eq_getD_getElem?, hv]; rfl
    · obtain ⟨h1, h2⟩ := at_tab _ hs
      rw [List.mem_range] at h1
      rw [h2, Array.getD_eq_getD_getElem?, Array.getElem?_eq_getElem (by rw [hI.tsize]; exact h1)]; rfl
  intro fuel
  induction fuel with
  | zero =>
    intro listed a w hI hf
    have h0 : ops.length = N := by omega
    have hall : ∀ i, i < N → listed.getD i false = true := fun i hi => by
      have hz : ((List.range N).filter fun i => !listed.getD i false) = [] := List.eq_nil_of_length_eq_zero (by omega)
      rw [List.filter_eq_nil_iff] at hz
      simpa using hz i (List.mem_range.2 hi)
    exact any_tail hc 0 N listed a w (Nat.le_refl _) hNl hI.size (fun i hi => by rw [hall i (by omega)]; exact (decide_eq_true (by omega)).symm) (by omega) (hfin listed a w hI hall)
  | succ fuel ih =>
    intro listed a w hI hf
    by_cases hall : ∀ i, i < N → listed.getD i false = true
    · have hz : ((List.range N).filter fun i => !listed.getD i false) = [] := by
        rw [List.filter_eq_nil_iff]; intro i hi; simp [hall i (List.mem_range.1 hi)]
      rw [hz] at hf
      exact any_tail hc (fuel + 1) N listed a w (Nat.le_refl _) hNl hI.size (fun i hi => by
        by_cases h : i < N
        · rw [hall i h, decide_eq_true h]
        · rw [hI.tail i (by omega) hi, decide_eq_false h]) (by simp at hf; omega) (hfin listed a w hI hall)
    · have hex : ∃ i, i < N ∧ listed.getD i false = false := by
        refine Classical.byContradiction fun hne => hall fun i hi => ?_
        cases hl : listed.getD i false with
        | true => rfl
        | false => exact absurd ⟨i, hi, hl⟩ hne
      refine ⟨fun hr => ?_, fun i hi => ?_⟩
      · exfalso
        obtain ⟨i0, hi0, h1, h2⟩ := least (fun i => listed.getD i false) N hex
        have hlt : i0 < ops.length := by omega
        have : i0 ∈ Region.ready .any ops.toArray listed := ready_iff.2 ⟨ops[i0], List.getElem?_eq_getElem hlt, by rw [gd (b := true) (c := false) (by rw [hI.size]; exact hlt)]; exact h1, fun j hj => h2 j (hc.back i0 _ (List.getElem?_eq_getElem hlt) j hj)⟩
        rw [hr] at this; cases this
      · obtain ⟨o, ho, h1, h2⟩ := ready_iff.1 hi
        have hlt := (List.getElem?_eq_some_iff.1 ho).1
        have hiN : i < N := by
          refine Classical.byContradiction fun hge => ?_
          obtain ⟨j0, hj0, hun⟩ := hex
          have := hc.all i (by omega) hlt (fun j => listed.getD j false) hI.pc (fun o' ho' j hj => by rw [ho] at ho'; cases ho'; exact h2 j hj) j0 (by omega)
          rw [hun] at this; cases this
        have hun : listed.getD i false = false := by rw [gd (b := false) (c := true) (by rw [hI.size]; exact hlt)]; exact h1
        obtain ⟨o', ho', hpl, hlk⟩ := hc.free i hiN
        rw [ho] at ho'; cases ho'
        obtain ⟨hst, ⟨d, hd, hdm, hnone⟩, hdoes⟩ := hob i o hiN ho
        have hg : gdst ops i = some d := by rw [gdst_eq, ho]; simpa using hd
        have hdm' : d < m := by simpa using hdm
        have hlcm : ∀ s v, at' (Lc ops S L0 i) s = some v → s < m := fun s v hs => by
          rcases lc_some i hs with ⟨j, hj, hgj, -⟩ | ⟨h, -⟩
          · obtain ⟨oj, dj, hoj, hdj, hgj', hm⟩ := hslot j (by omega)
            rw [hgj] at hgj'; cases hgj'; exact hm
          · exact hL0 s v h
        -- the frame that holds the constants of all that stand ahead of it in the text
        let st : Act := { a with tmps := Array.ofFn (n := m) fun s => (at' (Lc ops S L0 i) s.1).getD (a.tmps.getD s.1 undef) }
        have hstar : ∀ s, (∀ v, at' (Lc ops S L0 i) s = some v → a.tmps[s]? = some v) → st.tmps[s]? = a.tmps[s]? := fun s h => by
          show (Array.ofFn (n := m) fun s => (at' (Lc ops S L0 i) s.1).getD (a.tmps.getD s.1 undef))[s]? = _
          rw [Array.getElem?_ofFn]
          by_cases hs : s < m
          · rw [dif_pos hs]
            cases hat : at' (Lc ops S L0 i) s with
            | none => simp [Array.getD_eq_getD_getElem?, Array.getElem?_eq_getElem (show s < a.tmps.size by rw [hI.tsize]; exact hs)]
            | some v => simp [h v hat]
          · rw [dif_neg hs, Array.getElem?_eq_none (by rw [hI.tsize]; omega)]
        have hfr : Fr m D st (Lc ops S L0 i) := by
          refine ⟨by simp [st], hI.defers, fun s v hs => ?_⟩
          have hsm := hlcm s v hs
          show (Array.ofFn (n := m) fun s => (at' (Lc ops S L0 i) s.1).getD (a.tmps.getD s.1 undef))[s]? = _
          rw [Array.getElem?_ofFn, dif_pos hsm]; simp [hs]
        have hlook : ∀ s ∈ looks ops o, st.tmps[s]? = a.tmps[s]? := fun s hs => hstar s fun v hv => hread listed a w hI i s v (by omega) hv fun j hj hgj => by
          rcases hlk s hs j hj hgj with hn | ⟨oj, hoj, hn⟩
          · exact .inl ⟨hc.back i o ho j hn, h2 j hn⟩
          · refine .inr ⟨Nat.le_of_lt (hc.back j oj hoj i hn), ?_⟩
            cases hlj : listed.getD j false with
            | false => rfl
            | true =>
              have hli : listed.getD i false = true := hI.pc j oj hoj hlj i hn
              rw [hun] at hli; cases hli
        have hopd : ∀ x ∈ o.op.operands, st.eval x = a.eval x := fun x hx => by
          cases x with
          | tmp t =>
            have := hlook t (List.mem_append_left _ (List.mem_filterMap.2 ⟨.tmp t, by simpa using hx, rfl⟩))
            show st.tmps.getD t undef = a.tmps.getD t undef
            rw [Array.getD_eq_getD_getElem?, Array.getD_eq_getD_getElem?, this]
          | _ => rfl
        have hexec : execOp st.eval o = execOp a.eval o := execOp_congr o (fun cs b h => by rw [h] at hpl; cases hpl) hopd
        have hwant : Region.wanted o (yielded ops.toArray st.tmps) = Region.wanted o (yielded ops.toArray a.tmps) := by
          unfold Region.wanted
          cases hgd : o.guard with
          | none => rfl
          | some p =>
            obtain ⟨j, want⟩ := p
            have hy : yielded ops.toArray st.tmps j = yielded ops.toArray a.tmps j := by
              simp only [yielded, List.getElem?_toArray]
              cases hgj : (ops[j]?).bind (·.dst) with
              | none => rfl
              | some dj =>
                have := hlook dj (List.mem_append_right _ (by rw [hgd]; simp only [gdst_eq, hgj]; simp))
                simp only [Option.bind_some, this]
            simp only [hy]
        have hnd : ∀ c, o.op ≠ .defer c := fun c h => by rw [h] at hpl; cases hpl
        have hnext : ∀ v w'', (S i).holds v w'' → Keep (fun k => decide (i = sp) = true → T k) w w'' → wpAnyIn F n P .any ops.toArray Q fuel (listed.setIfInBounds i true) (a.put o.dst v) w'' := by
          intro v w'' hh hx
          have hsz : i < listed.size := by rw [hI.size]; exact hlt
          refine ih _ _ _ ⟨by simp [hI.size], fun k hk hkl => ?_, fun k ok hok hk j hj => ?_, (hI.ext.mono fun k _ h hl => h (by rw [getD_set hsz]; split <;> first | rfl | exact hl)).trans (hx.mono fun k _ h hd => h (by rw [getD_set hsz, if_pos (of_decide_eq_true hd)])), ?_, hI.defers ▸ by rw [hd]; rfl, fun s u hs hk => ?_, fun k hk hkl dk hgk => ?_⟩ ?_
          · rw [getD_set hsz, if_neg (by omega)]; exact hI.tail k hk hkl
          · simp only [getD_set hsz] at hk ⊢
            by_cases e : i = j
            · rw [if_pos e]
            · rw [if_neg e]
              by_cases ek : i = k
              · subst ek; rw [ho] at hok; cases hok; exact h2 j hj
              · rw [if_neg ek] at hk; exact hI.pc k ok hok hk j hj
          · rw [hd]; simp [Act.put, hI.tsize]
          · have hne : d ≠ s := fun e => by
              subst e
              have := hk i hiN hg
              rw [getD_set hsz, if_pos rfl] at this; cases this
            rw [hd]
            simp only [Act.put, Array.getElem?_setIfInBounds_ne hne]
            exact hI.old s u hs fun j hj hgj => by
              have := hk j hj hgj
              rw [getD_set hsz] at this
              by_cases e : i = j
              · rw [if_pos e] at this; cases this
              · rw [if_neg e] at this; exact this
          · rw [getD_set hsz] at hkl
            by_cases e : i = k
            · subst e
              rw [hg] at hgk; cases hgk
              exact ⟨v, by rw [hd]; simp [Act.put, hI.tsize, hdm'], hh⟩
            · rw [if_neg e] at hkl
              have hne : d ≠ dk := fun e' => by subst e'; exact hc.ne hiN hk e hg hgk
              obtain ⟨u, hu, hhu⟩ := hI.new k hk hkl dk hgk
              obtain ⟨ok, -, hok, -⟩ := hslot k hk
              exact ⟨u, by rw [hd]; simp only [Act.put, Array.getElem?_setIfInBounds_ne hne]; exact hu, (hob k ok hk hok).stable u w w'' hhu (hx.mono fun j _ h hd => h (decide_eq_false fun e' => e ((of_decide_eq_true hd).trans e'.symm)))⟩
          · have := filter_lt (p := fun k => !(listed.setIfInBounds i true).getD k false) (q := fun k => !listed.getD k false) (List.range N) (fun k _ hk => by
              simp only [getD_set hsz] at hk
              by_cases e : i = k
              · rw [if_pos e] at hk; cases hk
              · rw [if_neg e] at hk; exact hk) ⟨i, List.mem_range.2 hiN, by simp [hun], by simp [getD_set hsz]⟩
            omega
        unfold wpOpIn
        rw [List.getElem?_toArray, ho]
        simp only
        have hvs : ∀ q ∈ Vc ops S [] i, q.1 ∈ looks ops o → ∃ v, st.tmps[q.1]? = some v ∧ q.2 v w := fun q hq hlo => by
          obtain ⟨j, hj, hgj, hSj⟩ := vc_mem i hq
          obtain ⟨v, hv, hh⟩ := hI.new j (by omega) (h2 j ((hlk q.1 hlo j (by omega) hgj).elim id fun ⟨oj, hoj, hn⟩ => absurd (hc.back j oj hoj i hn) (by omega))) q.1 hgj
          exact ⟨v, by rw [hlook q.1 hlo]; exact hv, by rw [hSj] at hh; exact hh⟩
        have hext : Keep (fun k => decide (i = sp) = false → T k) w0 w := hI.ext.mono fun k _ h hl => by
          refine h (decide_eq_false fun e => ?_)
          rw [← e, hun] at hl; cases hl
        rcases hdoes w hext st hfr hvs with ⟨hw, hdo⟩ | ⟨hw, hr⟩
        · rw [if_pos (hwant ▸ hw)]
          cases hdo with
          | val v w' h hr => exact wpIn_value hW hnd (by rw [← hexec]; exact h) (hnext v w' hr.1 hr.2)
          | call f args w' h hcl =>
            rcases hcl with ⟨hF, hcl⟩
            have hx : (execOp a.eval o).run P w = .ok (.enter f args) w' := by rw [← hexec]; exact h
            exact wpIn_entered hW hnd hx ⟨hF, hcl⟩ (fun v w'' hr => hnext v w'' hr.1 hr.2)
        · rw [if_neg (by rw [← hwant, hw]; simp)]
          exact ⟨fun f _ => hW.fn f, hnext undef w hr (Keep.refl _ _)⟩

/-- **A region that draws its order.** -/
theorem wc_drawS {id : Nat} {L : Env} {w : World} (N : Nat) (hW : Wd F) (hm : P.follows .mixedOrders = true) (hck : freeOk ops N = true)
    (hq : QWS T sp F n P m D ops w.drew (TailS T F n P Q m D ops (ops.drop N) w.drew) 0 (ops.take N) L []) : WC F n P Q m D (.region id ops.toArray true) L w := by
  intro a ha
  have hc := chk_of hck
  obtain ⟨S, -, h2, h3⟩ := qw_specsS (T := T) (sp := sp) (F := F) (n := n) (P := P) (m := m) (D := D) (ops := ops) (w0 := w.drew) (L := L) (V := []) (ops.take N) 0 (fun _ => .c undef) (fun j o hj => by
    rw [Nat.zero_add]
    rw [List.getElem?_take] at hj
    split at hj
    · exact hj
    · cases hj) hq
  have hlen : (ops.take N).length = N := by rw [List.length_take]; have := free_len hc; omega
  rw [Nat.zero_add, hlen] at h3
  refine wpIn_region_any hm ?_
  have hmem : ∀ s v, at' L s = some v → s < m := fun s v hs => by rw [← ha.size]; exact (Array.getElem?_eq_some_iff.1 (ha.get s v hs)).1
  have hfalse : ∀ i, (Array.replicate ops.length false).getD i false = false := fun i => by
    rw [Array.getD_eq_getD_getElem?, Array.getElem?_replicate]; split <;> rfl
  have := any_freeS (T := T) (sp := sp) (Q := Q) (N := N) (S := S) (V := Vc ops S [] N) hW hc hmem (fun i o hi ho => h2 i o (Nat.zero_le _) (by rw [Nat.sub_zero, List.getElem?_take_of_lt hi]; exact ho)) rfl h3 ops.length
    (Array.replicate ops.length false) a w.drew ⟨by simp, fun i _ _ => hfalse i, (fun i o _ h => absurd ((hfalse i).symm.trans h) Bool.false_ne_true), Keep.refl _ _, ha.size, ha.defers, fun s v hs _ => ha.get s v hs, (fun i _ h => absurd ((hfalse i).symm.trans h) Bool.false_ne_true)⟩
    (by
      have : ((List.range N).filter fun i => !(Array.replicate ops.length false).getD i false).length ≤ N := by
        have := List.length_filter_le (fun i => !(Array.replicate ops.length false).getD i false) (List.range N)
        simpa using this
      have := free_len hc
      omega)
  simpa using this
end

section
variable {F : Fence} {n : Nat} {P : Program} {Q : Exit → Act → World → Prop} {m : Nat} {D : List Deferred} {L : Env} {w w' w0 : World}
variable {ops tail : List Oper} {rest : List Oper} {d i sp : Nat} {ty : TypeId} {pos : String} {af : Array Edge} {g : Option (Nat × Bool)} {v : Value} {K : Env → List (Nat × VP) → Prop} {V : List (Nat × VP)} {S : Nat → Prop}
theorem qs_nil (k : K L V) : QWS S sp F n P m D ops w0 K i [] L V := k
theorem qs_val {op : Op} (hg : wants L ops g = some true) (hd : Nat.blt d m = true) (hx : ∀ w', Keep S w0 w' → Xv P m D L op ty w' v w') (k : QWS S sp F n P m D ops w0 K (i + 1) rest ((d, v) :: L) V) :
    QWS S sp F n P m D ops w0 K i (⟨some d, op, ty, pos, af, g⟩ :: rest) L V :=
  ⟨d, rfl, hd, .inl ⟨v, fun w' hw a h _ => .inl ⟨h.wanted (o := ⟨some d, op, ty, pos, af, g⟩) hg, .val v w' ((hx w' (hw.mono fun k _ h _ => h)).2 _ _ _ _ a h) ⟨rfl, Keep.refl _ _⟩⟩, k⟩⟩
theorem qs_valp {op : Op} {p : VP} (hne : i ≠ sp) (hp : StableS S false p) (hg : wants L ops g = some true) (hd : Nat.blt d m = true) (hno : at' L d = none) (hx : ∀ w', Keep S w0 w' → ∃ v w'', Xv P m D L op ty w' v w'' ∧ p v w'' ∧ Ext w' w'') (k : QWS S sp F n P m D ops w0 K (i + 1) rest L ((d, p) :: V)) :
    QWS S sp F n P m D ops w0 K i (⟨some d, op, ty, pos, af, g⟩ :: rest) L V :=
  ⟨d, rfl, hd, .inr ⟨p, by rw [decide_eq_false hne]; exact hp, hno, fun w' hw a h _ => by
    obtain ⟨v, w'', hx, hpv, he⟩ := hx w' (hw.mono fun k _ h _ => h)
    exact .inl ⟨h.wanted (o := ⟨some d, op, ty, pos, af, g⟩) hg, .val v w'' (hx.2 _ _ _ _ a h) ⟨hpv, he.mono fun _ _ _ => trivial⟩⟩, k⟩⟩
/-- The special operation: it reads one slot of whose value only q is known, and may turn what lies outside S. -/
theorem qs_sp {op : Op} {p q : VP} {s : Nat} (hi : i = sp) (hp : StableS S true p) (hg : wants L ops g = some true) (hd : Nat.blt d m = true) (hno : at' L d = none) (hs : (s, q) ∈ V) (hlo : s ∈ looks ops ⟨some d, op, ty, pos, af, g⟩)
    (hx : ∀ w' u, Ext w0 w' → q u w' → ∃ v w'', Xv P m D ((s, u) :: L) op ty w' v w'' ∧ p v w'' ∧ Keep S w' w'') (k : QWS S sp F n P m D ops w0 K (i + 1) rest L ((d, p) :: V)) :
    QWS S sp F n P m D ops w0 K i (⟨some d, op, ty, pos, af, g⟩ :: rest) L V :=
  ⟨d, rfl, hd, .inr ⟨p, by rw [decide_eq_true hi]; exact hp, hno, fun w' hw a h hvs => by
    rw [decide_eq_true hi] at hw
    obtain ⟨u, hu, hq⟩ := hvs _ hs hlo
    obtain ⟨v, w'', hx, hpv, he⟩ := hx w' u (hw.mono fun _ _ _ h => by cases h) hq
    refine .inl ⟨h.wanted (o := ⟨some d, op, ty, pos, af, g⟩) hg, .val v w'' (hx.2 _ _ _ _ a ⟨h.size, h.defers, fun j v hj => ?_⟩) ⟨hpv, by rw [decide_eq_true hi]; exact he.mono fun _ _ h => h rfl⟩⟩
    rw [at_cons] at hj
    split at hj
    · rename_i e; subst e; cases hj; exact hu
    · exact h.get j v hj, k⟩⟩
theorem tailS2 {p p2 : VP} {d2 : Nat} (k : ∀ w' v v2, Keep S w0 w' → p v w' → p2 v2 w' → WL F n P Q m D ops tail ((d, v) :: (d2, v2) :: L) w') : TailS S F n P Q m D ops tail w0 L [(d, p), (d2, p2)] := fun w' hw L' hv hs => by
  obtain ⟨v, h1, h2⟩ := hv (d, p) (by simp)
  obtain ⟨v2, h3, h4⟩ := hv (d2, p2) (by simp)
  exact wl_sub (sub_cons h1 (sub_cons h3 hs)) (k w' v v2 hw h2 h4)
theorem wc_drawS' {id : Nat} (T : Nat → Prop) (sp : Nat) (N : Nat) (hW : Wd F) (hm : P.follows .mixedOrders = true) (hck : freeOk ops N = true)
    (hq : ∀ w0, Ext w w0 → QWS T sp F n P m D ops w0 (TailS T F n P Q m D ops (ops.drop N) w0) 0 (ops.take N) L []) : WC F n P Q m D (.region id ops.toArray true) L w := wc_drawS N hW hm hck (hq _ (ext_drew w))
end
end Go.Proofs.Ytiaikajibefieaa.K
