/- The engine, part 20: regions that draw their order, the step and the whole. Conditions: none. -/
import Derived.Test.YtkiolflkkbfaiaaDoorEngS
set_option linter.unusedVariables false
set_option linter.unusedSimpArgs false
namespace Go.Eng
open Go.RowKit
section
variable {E : Env} {ti : TypeId → Option TI} {ops : Array Oper} {st0 : St} {p : Nat → Patch} {b : Nat → Bool} {a : Act} {w : World} {o : Oper} {sl sl' : Nat → Slot} {bl : Blks} {nx : Nat} {q : Patch} {Q : Exit → Act → World → Prop}
variable {rvs : Array ResultVar} {QR : List RR → Prop} {QD : Ex → St → Prop}

theorem readsOp {t : Nat} (h : Operand.tmp t ∈ o.op.operands.toList) : t ∈ readsOf ops sl o := List.mem_append_left _ (tmpsOf_mem h)
theorem opDet_congr (h : ∀ t ∈ readsOf ops sl o, sl' t = sl t) (hd : OpDet E ti ops sl bl nx o q) : OpDet E ti ops sl' bl nx o q := by
  have hst : ∀ lits, stepPT ti E.gt sl' bl nx lits o = stepPT ti E.gt sl bl nx lits o := fun lits => step_congr (fun t ht => h t (readsOp ht))
  unfold OpDet at hd ⊢
  split at hd
  · rename_i e; rw [hst]; exact hd
  · rename_i g e
    obtain ⟨lits, c, hl, hc, p0, h1, h2⟩ := hd
    have hr : ∀ x ∈ lits, sl' x.1 = sl x.1 := fun x hx => h x.1 (List.mem_append_right _ (by rw [hl]; exact List.mem_map.2 ⟨x, hx, rfl⟩))
    refine ⟨lits, c, ?_, by rw [condOf_congr hr]; exact hc, p0, fun e => by rw [hst]; exact h1 e, h2⟩
    rw [← hl]
    unfold guardLits at hl ⊢
    rw [e] at hl ⊢
    simp only at hl ⊢
    split at hl
    · rename_i t ht
      have : sl' t = sl t := by
        refine hr (t, g.2) ?_
        split at hl <;> injection hl with hl <;> rw [← hl] <;> simp
      rw [this]
    · cases hl
theorem names_congr (h : ∀ t ∈ readsOf ops sl o, sl' t = sl t) : namesOf E.gt sl' o = namesOf E.gt sl o := by
  unfold namesOf
  have : ∀ (l : List Operand), (∀ x ∈ l, evOp E.gt sl' x = evOp E.gt sl x) → l.flatMap (fun x => refsS (evOp E.gt sl' x)) = l.flatMap (fun x => refsS (evOp E.gt sl x)) := by
    intro l hl
    induction l with
    | nil => rfl
    | cons x r ih => rw [List.flatMap_cons, List.flatMap_cons, hl x (by simp), ih (fun y hy => hl y (List.mem_cons_of_mem _ hy))]
  exact this _ (fun x hx => evOp_congr (fun t e => h t (readsOp (e ▸ hx))))
def Closed (ops : Array Oper) (b : Nat → Bool) : Prop := ∀ i, i < ops.size → b i = true → ∀ j, ((Region.before ops).getD i 0).testBit j = true → b j = true
variable (hf : ∀ j, j < ops.size → Fact E ti ops st0 p j) (hb : Closed ops b) {i : Nat} (hi : i < ops.size) (hbi : b i = false) (hbef : ∀ j, ((Region.before ops).getD i 0).testBit j = true → b j = true)
 include hf hb hi hbi hbef in
theorem no_clash : (∀ j, j < i → b j = false → NoClash (dn E ops st0 p j) (dn E ops st0 p i)) ∧ (∀ j, i < j → j < ops.size → b j = true → NoClash (dn E ops st0 p i) (dn E ops st0 p j)) := by
  refine ⟨fun j hj hbj => clash_spec ((hf i hi).apart j hj) ?_, fun j hj hjn hbj => clash_spec ((hf j hjn).apart i hj) ?_⟩
  · rw [Bool.eq_false_iff]
    intro h
    rw [hbef j h] at hbj; cases hbj
  · rw [Bool.eq_false_iff]
    intro h
    rw [hb j hjn hbj i h] at hbi; cases hbi
 include hf hb hi hbi hbef in
theorem slots_same {t : Nat} (ht : t ∈ (dn E ops st0 p i).rs) : slB ops st0 p b ops.size t = lookS (stT ops st0 p i).slots t := by
  obtain ⟨n1, n2⟩ := no_clash hf hb hi hbi hbef
  rw [(stT_spec i).1, slB_agree (b := b) (b' := fun j => decide (j < i)) ops.size (fun j hj hne hd => ?_)]
  · have hup := slB_up (ops := ops) (st0 := st0) (p := p) (b := fun j => decide (j < i)) (t := t) (k := i) (ops.size - i) (fun j h1 h2 h3 => by simp at h3; omega)
    rw [show i + (ops.size - i) = ops.size by omega] at hup
    rw [hup]
    exact slB_agree i (fun j hj hne => absurd (by simp [hj]) hne)
  · have hw : t ∈ (dn E ops st0 p j).ws := by show t ∈ (opAt ops j).dst.toList; rw [hd]; simp
    by_cases hji : j < i
    · refine (n1 j hji ?_).wr t hw ht
      cases h : b j
      · rfl
      · rw [h] at hne; simp [hji] at hne
    · have hbj : b j = true := by
        cases h : b j
        · rw [h] at hne; simp [hji] at hne
        · rfl
      have : j ≠ i := fun e => by rw [e, hbi] at hbj; cases hbj
      exact (n2 j (by omega) hj hbj).rw' t ht hw
 include hf hb hi hbi hbef in
theorem blks_same {n : Nat} (ht : n ∈ (dn E ops st0 p i).rn) : blB st0 p b ops.size n = lookB (stT ops st0 p i).blks n := by
  obtain ⟨n1, n2⟩ := no_clash hf hb hi hbi hbef
  rw [(stT_spec i).2.1, blB_agree (b := b) (b' := fun j => decide (j < i)) ops.size (fun j hj hne hd => ?_)]
  · have hup := blB_up (st0 := st0) (p := p) (b := fun j => decide (j < i)) (n := n) (k := i) (ops.size - i) (fun j h1 h2 h3 => by simp at h3; omega)
    rw [show i + (ops.size - i) = ops.size by omega] at hup
    rw [hup]
    exact blB_agree i (fun j hj hne => absurd (by simp [hj]) hne)
  · have hw : n ∈ (dn E ops st0 p j).wn := hd
    by_cases hji : j < i
    · refine (n1 j hji ?_).nwr n hw ht
      cases h : b j
      · rfl
      · rw [h] at hne; simp [hji] at hne
    · have hbj : b j = true := by
        cases h : b j
        · rw [h] at hne; simp [hji] at hne
        · rfl
      have : j ≠ i := fun e => by rw [e, hbi] at hbj; cases hbj
      exact (n2 j (by omega) hj hbj).nrw n ht hw
theorem restrict_sub {bl : Blks} {l : List Nat} : Sub (restrict bl l) bl := by
  intro n k h
  unfold restrict at h
  split at h
  · exact h
  · cases h
def bset (b : Nat → Bool) (i : Nat) (j : Nat) : Bool := b j || decide (j = i)
 include hf hb hi hbi hbef in
theorem draw_step (g : Glob E ti) (hs : Sim E (slB ops st0 p b ops.size) (blB st0 p b ops.size) (UB st0 b ops.size) a w) :
    (Region.wanted (opAt ops i) (yielded ops a.tmps) = true → (opAt ops i).wp E.P a w (fun a' w' => Sim E (slB ops st0 p (bset b i) ops.size) (blB st0 p (bset b i) ops.size) (UB st0 (bset b i) ops.size) a' w') Q) ∧
    (Region.wanted (opAt ops i) (yielded ops a.tmps) = false → Sim E (slB ops st0 p (bset b i) ops.size) (blB st0 p (bset b i) ops.size) (UB st0 (bset b i) ops.size) (a.put (opAt ops i).dst undef) w) := by
  obtain ⟨n1, n2⟩ := no_clash hf hb hi hbi hbef
  have hF := hf i hi
  have hsl : ∀ t ∈ readsOf ops (lookS (stT ops st0 p i).slots) (opAt ops i), slB ops st0 p b ops.size t = lookS (stT ops st0 p i).slots t := fun t ht => slots_same hf hb hi hbi hbef ht
  have hres : restrict (lookB (stT ops st0 p i).blks) (namesOf E.gt (lookS (stT ops st0 p i).slots) (opAt ops i)) = restrict (blB st0 p b ops.size) (namesOf E.gt (lookS (stT ops st0 p i).slots) (opAt ops i)) := by
    funext n
    unfold restrict
    split
    · rename_i h
      exact (blks_same hf hb hi hbi hbef (natIn_mem.1 h)).symm
    · rfl
  have hdet := opDet_congr (bl := restrict (blB st0 p b ops.size) (namesOf E.gt (lookS (stT ops st0 p i).slots) (opAt ops i))) hsl (by rw [← hres]; exact hF.det)
  rw [(stT_spec i).2.2] at hdet
  -- what comes out
  have e1 : setS (slB ops st0 p b ops.size) (opAt ops i).dst (p i).slot = slB ops st0 p (bset b i) ops.size := by
    funext t
    by_cases hd : (opAt ops i).dst = some t
    · rw [hd, setS_at]
      have hup := slB_up (ops := ops) (st0 := st0) (p := p) (b := bset b i) (t := t) (k := i + 1) (ops.size - (i + 1)) (fun j h1 h2 h3 hdj => by
        have hbj : b j = true := by
          unfold bset at h3
          cases h : b j
          · rw [h] at h3; simp at h3; omega
          · rfl
        refine (n2 j (by omega) (by omega) hbj).ww t ?_ ?_
        · show t ∈ (opAt ops i).dst.toList; rw [hd]; simp
        · show t ∈ (opAt ops j).dst.toList; rw [hdj]; simp)
      rw [show i + 1 + (ops.size - (i + 1)) = ops.size by omega] at hup
      rw [hup, show slB ops st0 p (bset b i) (i + 1) = (match bset b i i with
        | true => setS (slB ops st0 p (bset b i) i) (opAt ops i).dst (p i).slot
        | false => slB ops st0 p (bset b i) i) from rfl, show bset b i i = true by simp [bset]]
      simp only
      rw [hd, setS_at]
    · rw [setS_none hd]
      refine slB_agree ops.size (fun j hj hne => ?_)
      by_cases e : j = i
      · rw [e]; exact hd
      · exact absurd (by simp [bset, e]) hne
  have e2 : setB (blB st0 p b ops.size) (p i).blks = blB st0 p (bset b i) ops.size := by
    funext n
    by_cases hd : n ∈ (p i).blks.map (·.1)
    · have hup := blB_up (st0 := st0) (p := p) (b := bset b i) (n := n) (k := i + 1) (ops.size - (i + 1)) (fun j h1 h2 h3 hdj => by
        have hbj : b j = true := by
          unfold bset at h3
          cases h : b j
          · rw [h] at h3; simp at h3; omega
          · rfl
        exact (n2 j (by omega) (by omega) hbj).nww n hd hdj)
      rw [show i + 1 + (ops.size - (i + 1)) = ops.size by omega] at hup
      rw [hup, show blB st0 p (bset b i) (i + 1) = (match bset b i i with
        | true => setB (blB st0 p (bset b i) i) (p i).blks
        | false => blB st0 p (bset b i) i) from rfl, show bset b i i = true by simp [bset]]
      exact setB_yes hd
    · rw [setB_not hd]
      refine blB_agree ops.size (fun j hj hne => ?_)
      by_cases e : j = i
      · rw [e]; exact hd
      · exact absurd (by simp [bset, e]) hne
  have e3 : Un (UB st0 b ops.size) (st0.next + 8 * i) = UB st0 (bset b i) ops.size := by
    funext m
    apply propext
    constructor
    · rintro ((h | ⟨j, h1, h2, h3⟩) | h)
      · exact .inl h
      · exact .inr ⟨j, h1, by simp [bset, h2], h3⟩
      · exact .inr ⟨i, hi, by simp [bset], h⟩
    · rintro (h | ⟨j, h1, h2, h3⟩)
      · exact .inl (.inl h)
      · by_cases e : j = i
        · subst e; exact .inr h3
        · exact .inl (.inr ⟨j, h1, by simpa [bset, e] using h2, h3⟩)
  obtain ⟨ψ, hs⟩ := hs
  have hlean : ∀ d, (opAt ops i).dst = some d → d + 1 ≤ E.n ∧ mentions d (stT ops st0 p i).slots = false := by
    intro d e
    have hl := hF.lean
    rw [e] at hl
    unfold leans at hl
    simp only at hl
    split at hl
    · rename_i h; exact ⟨Nat.le_of_ble_eq_true h, hl⟩
    · cases hl
  have c : Ctx E ti ψ (slB ops st0 p b ops.size) (blB st0 p b ops.size) (UB st0 b ops.size) (st0.next + 8 * i) a w (opAt ops i).dst := by
    refine ⟨fun m h1 h2 h3 => ?_, g.good, g.hti, hs, fun d e t l s' hsl' x hx => ?_, fun d e => (hlean d e).1⟩
    · rcases h3 with h3 | ⟨j, h3, h4, h5, h6⟩
      · omega
      · have : j = i := by omega
        subst this
        rw [hbi] at h4; cases h4
    · obtain ⟨_, hm⟩ := hlean d e
      rcases slB_from (ops := ops) (st0 := st0) (p := p) (b := b) (t := t) ops.size with h | ⟨j, h1, h2, h3, h4⟩
      · rw [h] at hsl'
        exact mentions_spec (mentions_tail hm) t l s' hsl' x hx
      · rw [h4] at hsl'
        by_cases hji : j < i
        · have hmem := mem_slots (st0 := st0) (p := p) h3 hji
          rw [hsl'] at hmem
          exact litOn_spec (mentions_mem hm hmem) x hx
        · have hne : j ≠ i := fun e' => by rw [e', hbi] at h2; cases h2
          intro exd
          refine (n2 j (by omega) h1 h2).wr d (by show d ∈ (opAt ops i).dst.toList; rw [e]; simp) ?_
          have hdj := (hf j h1).det
          unfold OpDet at hdj
          show d ∈ readsOf ops (lookS (stT ops st0 p j).slots) (opAt ops j)
          split at hdj
          · rw [hsl'] at hdj; exact absurd hdj.2 (by simp [Slot.isG])
          · obtain ⟨lits, c, hl, hc, p0, _, hgp⟩ := hdj
            obtain ⟨_, g2, _⟩ := gPatch_spec hgp
            rw [g2] at hsl'
            injection hsl' with hsl' _
            subst hsl'
            refine List.mem_append_right _ ?_
            rw [hl]
            exact List.mem_map.2 ⟨x, hx, exd⟩
  have hsound := opDet_sound (Q := Q) restrict_sub c hdet
  rw [e1, e2, e3] at hsound
  exact hsound
end
end Go.Eng
