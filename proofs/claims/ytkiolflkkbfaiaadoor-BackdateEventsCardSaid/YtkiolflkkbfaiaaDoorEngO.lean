/- The engine, part 15: trees that hold; one operation under its guard. Conditions: none. -/
import Derived.Test.YtkiolflkkbfaiaaDoorEngN
set_option linter.unusedVariables false
set_option linter.unusedSimpArgs false
namespace Go.Eng
open Go.RowKit

def St.OK (E : Env) (st : St) (a : Act) (w : World) : Prop := Sim E (lookS st.slots) (lookB st.blks) (fun m => m < st.next) a w
/-- What stands at a return. -/
def RetOK (E : Env) (rvs : Array ResultVar) (QR : List RR → Prop) (a : Act) (w : World) : Prop :=
  a.defers = [] ∧ Below E.w0.heap.size E.w0 w ∧ ∃ rr v, QR rr ∧ (results { (default : Func) with results := rvs } a.tmps).run E.P w = .ok v w ∧
    ∃ okr : Nat → Prop, (∀ b, okr b → (E.ok0 b ∨ E.w0.heap.size ≤ b) ∧ b < w.heap.size) ∧ RetRep E.P E.w0.heap.size w okr rr v
def Post (E : Env) (rvs : Array ResultVar) (QR : List RR → Prop) (K : Ex → St → Prop) : Exit → Act → World → Prop
  | .normal, a, w => ∃ st, St.OK E st a w ∧ K .normal st
  | .exit id, a, w => ∃ st, St.OK E st a w ∧ K (.exit id) st
  | .ret, a, w => RetOK E rvs QR a w
  | _, _, _ => False
/-- THE TREE HOLDS. -/
def T.Holds (E : Env) (rvs : Array ResultVar) (QR : List RR → Prop) (QD : Ex → St → Prop) : T → Prop
  | .fail => False
  | .ret rs => QR rs
  | .done e st => QD e st
  | .ite c t e => (c = true → t.Holds E rvs QR QD) ∧ (c = false → e.Holds E rvs QR QD)
  | .need c p k => (c = true → p) ∧ k.Holds E rvs QR QD
  | .opt c o k => ∃ x, (c = true → o = some x) ∧ (k x).Holds E rvs QR QD
  | .call c f args k => ∃ rs, (c = true → Spec E.P E.gt f args rs) ∧ (k rs).Holds E rvs QR QD
  | .anyNil rows k => ∀ b, (b = true → rows = []) → (k b).Holds E rvs QR QD
  | .loop body st k => ∀ a w, St.OK E st a w → (Code.loop body).wp E.P (Post E rvs QR fun e st' => (k e st').Holds E rvs QR QD) a w
  | .cut b st k => ∀ a w, St.OK E st a w → b.wp E.P (Post E rvs QR fun e st' => (k e st').Holds E rvs QR QD) a w

section
variable {E : Env} {ti : TypeId → Option TI} {ψ ψ' : Nat → Value} {sl : Nat → Slot} {bl bl' bl0 : Blks} {U : Nat → Prop} {nx : Nat} {a : Act} {w w' : World} {dst : Option Nat} {o : Oper} {R : Patch → Prop} {Q : Exit → Act → World → Prop}
variable {rvs : Array ResultVar} {QR : List RR → Prop} {QD : Ex → St → Prop}

/-- p is what the operation leaves, whatever the run. -/
def PT.Det (P : Program) (gt : Nat → Option (List D)) : PT → Patch → Prop
  | .fail, _ => False
  | .ok p, q => q = p
  | .need h k, q => h ∧ PT.Det P gt k q
  | .opt o k, q => ∃ x, o = some x ∧ PT.Det P gt (k x) q
  | .call f as k, q => ∃ rs, Spec P gt f as rs ∧ PT.Det P gt (k rs) q
  | .anyNil _ _, _ => False
theorem PT.Det.all {P : Program} {gt : Nat → Option (List D)} : ∀ {pt : PT} {p : Patch}, pt.Det P gt p → pt.All P gt (fun q => q = p)
  | .fail, _, h => h
  | .ok p, q, h => h.symm
  | .need h k, q, h' => ⟨h'.1, h'.2.all⟩
  | .opt o k, q, ⟨x, h1, h2⟩ => ⟨x, h1, h2.all⟩
  | .call f as k, q, ⟨x, h1, h2⟩ => ⟨x, h1, h2.all⟩
  | .anyNil _ _, _, h => h.elim
theorem ofPT_all {k : Patch → T} : ∀ {pt : PT}, (T.ofPT pt k).Holds E rvs QR QD → pt.All E.P E.gt (fun p => (k p).Holds E rvs QR QD)
  | .fail, h => h
  | .ok p, h => h
  | .need h k', h' => ⟨h'.1 rfl, ofPT_all h'.2⟩
  | .opt o k', ⟨x, h1, h2⟩ => ⟨x, h1 rfl, ofPT_all h2⟩
  | .call f as k', ⟨x, h1, h2⟩ => ⟨x, h1 rfl, ofPT_all h2⟩
  | .anyNil rows k', h => fun b hb => ofPT_all (h b hb)
theorem ofPTg_det {k : Patch → T} {c : Bool} : ∀ {pt : PT}, (T.ofPTg c pt k).Holds E rvs QR QD → ∃ p, (c = true → pt.Det E.P E.gt p) ∧ (k p).Holds E rvs QR QD
  | .fail, h => h.elim
  | .ok p, h => ⟨p, fun _ => rfl, h⟩
  | .need h k', h' => by
    obtain ⟨p, h1, h2⟩ := ofPTg_det h'.2
    exact ⟨p, fun e => ⟨h'.1 e, h1 e⟩, h2⟩
  | .opt o k', ⟨x, hx, h'⟩ => by
    obtain ⟨p, h1, h2⟩ := ofPTg_det h'
    exact ⟨p, fun e => ⟨x, hx e, h1 e⟩, h2⟩
  | .call f as k', ⟨x, hx, h'⟩ => by
    obtain ⟨p, h1, h2⟩ := ofPTg_det h'
    exact ⟨p, fun e => ⟨x, hx e, h1 e⟩, h2⟩
  | .anyNil rows k', h => h.elim
/-- One operation, under its guard: what it leaves. -/
def OpDet (E : Env) (ti : TypeId → Option TI) (ops : Array Oper) (sl : Nat → Slot) (bl : Blks) (nx : Nat) (o : Oper) (p : Patch) : Prop :=
  match o.guard with
  | none => (stepPT ti E.gt sl bl nx [] o).Det E.P E.gt p ∧ p.slot.isG = false
  | some _ => ∃ lits c, guardLits ops sl o = some lits ∧ condOf sl lits = some c ∧ ∃ p0, (c = true → (stepPT ti E.gt sl bl nx lits o).Det E.P E.gt p0) ∧ gPatch o.dst bl lits p0 = some p
theorem exOp_det {ops : Array Oper} {st : St} {bl : Blks} {k : Patch → T} (hg : o.guard.isSome = true) (h : (exOp ti E.gt ops o st bl k).Holds E rvs QR QD) :
    ∃ p, OpDet E ti ops (lookS st.slots) bl st.next o p ∧ (k p).Holds E rvs QR QD := by
  unfold exOp at h
  unfold OpDet
  split at h
  · rename_i e; rw [e] at hg; cases hg
  · rename_i g e
    split at h
    · exact h.elim
    · rename_i lits hl
      split at h
      · exact h.elim
      · rename_i c hc
        obtain ⟨p0, h1, h2⟩ := ofPTg_det h
        split at h2
        · rename_i q hq
          refine ⟨q, ?_, h2⟩
          rw [e]
          exact ⟨lits, c, hl, hc, p0, h1, hq⟩
        · exact h2.elim
theorem exOpD_det {ops : Array Oper} {st : St} {bl : Blks} {k : Patch → T} (h : (exOpD ti E.gt ops o st bl k).Holds E rvs QR QD) :
    ∃ p, OpDet E ti ops (lookS st.slots) bl st.next o p ∧ (k p).Holds E rvs QR QD := by
  unfold exOpD at h
  split at h
  · rename_i e
    obtain ⟨p, h1, h2⟩ := ofPTg_det h
    split at h2
    · exact h2.elim
    · rename_i hp
      refine ⟨p, ?_, h2⟩
      unfold OpDet
      rw [e]
      exact ⟨h1 rfl, hp⟩
  · rename_i g e
    exact exOp_det (by rw [e]; rfl) h
/-! #### Guards -/
theorem cond_spec (h : SimP E ψ sl bl U a w) : ∀ {lits : List (Nat × Bool)} {c : Bool}, condOf sl lits = some c → (litsHold a.tmps lits ↔ c = true)
  | [], c, h' => by
    simp [condOf] at h'
    subst h'
    exact ⟨fun _ => rfl, fun _ x hx => by cases hx⟩
  | (t, b) :: r, c, h' => by
    unfold condOf at h'
    have cons : litsHold a.tmps ((t, b) :: r) ↔ a.tmps.getD t undef = .bool b ∧ litsHold a.tmps r := by
      constructor
      · exact fun hh => ⟨hh (t, b) (by simp), fun x hx => hh x (List.mem_cons_of_mem _ hx)⟩
      · rintro ⟨h1, h2⟩ x hx
        rcases List.mem_cons.1 hx with rfl | hx
        · exact h1
        · exact h2 x hx
    have val : ∀ x c', condOf sl r = some c' → (litsHold a.tmps r → a.tmps.getD t undef = .bool x) → (litsHold a.tmps ((t, b) :: r) ↔ ((x == b) && c') = true) := by
      intro x c' hc hx
      have ih := cond_spec h hc
      rw [cons, Bool.and_eq_true, ih]
      constructor
      · rintro ⟨h1, h2⟩
        have := hx (ih.2 h2)
        rw [h1] at this
        injection this with this
        exact ⟨by rw [this]; simp, h2⟩
      · rintro ⟨h1, h2⟩
        refine ⟨?_, h2⟩
        rw [hx (ih.2 h2), eq_of_beq h1]
    split at h'
    · cases h'
    · rename_i c' hc
      split at h'
      · rename_i x hs
        injection h' with h'
        subst h'
        refine val x c' hc (fun _ => ?_)
        have := h.slots t
        rw [hs] at this
        exact Rep.bool_inv (w := w) this
      · rename_i l x hs
        split at h'
        · rename_i hsub
          injection h' with h'
          subst h'
          refine val x c' hc (fun hr => ?_)
          have := h.slots t
          rw [hs] at this
          exact Rep.bool_inv (w := w) (this.1 (subL_spec hsub hr))
        · cases h'
      · cases h'
theorem yielded_iff {ops : Array Oper} {j t : Nat} {b : Bool} (ht : (ops[j]?).bind (·.dst) = some t) : (yielded ops a.tmps j == some b) = true ↔ a.tmps.getD t undef = .bool b := by
  unfold yielded
  rw [ht]
  simp only [Option.bind_some, Array.getD_eq_getD_getElem?]
  cases hv : a.tmps[t]? with
  | none => simp [undef]
  | some v => cases v <;> simp [hv]
theorem guard_spec (h : SimP E ψ sl bl U a w) {ops : Array Oper} {lits : List (Nat × Bool)} {c : Bool} (hl : guardLits ops sl o = some lits) (hc : condOf sl lits = some c) :
    (Region.wanted o (yielded ops a.tmps) = true ↔ c = true) ∧ litsHold a.tmps lits = (c = true) := by
  have hcs := cond_spec h hc
  refine ⟨?_, propext hcs⟩
  rw [← hcs]
  unfold guardLits at hl
  unfold Region.wanted
  split at hl
  · rename_i e
    injection hl with hl
    subst hl
    simp [litsHold, e]
  · rename_i j b e
    split at hl
    · rename_i t ht
      simp only [e]
      rw [yielded_iff ht]
      split at hl
      · rename_i l s hs
        injection hl with hl
        subst hl
        constructor
        · intro hv x hx
          have hsl := h.slots t
          rw [hs] at hsl
          rcases List.mem_cons.1 hx with rfl | hx
          · exact hv
          · refine Classical.byContradiction fun hn => ?_
            have := hsl.2 (fun hh => hn (hh x hx))
            rw [hv] at this
            cases this
        · exact fun hh => hh (t, b) (by simp)
      · injection hl with hl
        subst hl
        simp [litsHold]
    · cases hl
end
end Go.Eng
