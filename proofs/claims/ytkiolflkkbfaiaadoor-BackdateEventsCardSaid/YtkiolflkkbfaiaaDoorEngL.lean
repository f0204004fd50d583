/- The engine, part 12: closures made, calls. Conditions: none. -/
import Derived.Test.YtkiolflkkbfaiaaDoorEngK
set_option linter.unusedVariables false
set_option linter.unusedSimpArgs false
namespace Go.Eng
open Go.RowKit
section
variable {E : Env} {ti : TypeId → Option TI} {ψ ψ' : Nat → Value} {sl : Nat → Slot} {bl bl' bl0 : Blks} {U : Nat → Prop} {nx : Nat} {a : Act} {w w' : World} {dst : Option Nat} {o : Oper} {R : Patch → Prop} {Q : Exit → Act → World → Prop}

def RowAt (w : World) (ok : Nat → Prop) (r : List D) (v : Value) : Prop := ∃ ad : Addr, v = .pointer (some ad) ∧ ok ad.block ∧ (∀ d ∈ r, d.isCell = true) ∧ ∀ (j : Nat) (d : D), r[j]? = some d → ∃ u, w.cell? (ad.add j) = some u ∧ Rep w ok u d
theorem caps_frz (hsub : Sub bl0 bl) : ∀ {L : List Slot} {cs : List (List D)} {p : Pch}, capsOf bl0 L = some (cs, p) → Frz bl p
  | [], cs, p, h => by simp [capsOf] at h; rw [h.2]; exact Frz.nil
  | s :: L, cs, p, h => by
    unfold capsOf at h
    split at h
    · rename_i e; cases e
    · rename_i n r e
      obtain ⟨e1, e2⟩ := List.cons.inj e
      subst e1 e2
      split at h
      · rename_i rs hb
        split at h
        · rename_i ds p1 rest q h1 h2
          simp at h
          obtain ⟨rfl, rfl⟩ := h
          have := Frz.append (Frz.box (hsub _ _ hb) (cellsD_sub hsub h1)) (caps_frz hsub h2)
          simpa using this
        · cases h
      · split at h
        · rename_i rest q h2
          simp at h
          obtain ⟨rfl, rfl⟩ := h
          exact caps_frz hsub h2
        · cases h
      · cases h
    · rename_i cs' r e
      obtain ⟨e1, e2⟩ := List.cons.inj e
      subst e1 e2
      split at h
      · rename_i rest q h2
        simp at h
        obtain ⟨rfl, rfl⟩ := h
        exact caps_frz hsub h2
      · cases h
    · cases h
theorem caps_rep (hsub : Sub bl0 bl) (h : SimP E ψ sl bl U a w) {p : Pch} (hp : Frz bl p) : ∀ {L : List Slot} {vs : List Value} {cs : List (List D)} {q : Pch}, capsOf bl0 L = some (cs, q) → (∀ y ∈ q, y ∈ p) → vs.length = L.length →
    (∀ (i : Nat) (s : Slot) (v : Value), L[i]? = some s → vs[i]? = some v → SlotRep w (okS E bl ψ w) ψ bl a.tmps s v) →
    cs.length = vs.length ∧ ∀ (i : Nat) (r : List D) (v : Value), cs[i]? = some r → vs[i]? = some v → RowAt w (okS E (setB bl p) ψ w) r v
  | [], [], cs, q, hc, _, _, _ => by
    simp [capsOf] at hc
    obtain ⟨rfl, rfl⟩ := hc
    exact ⟨rfl, fun i r v hi => by simp at hi⟩
  | [], _ :: _, _, _, _, _, hl, _ => by simp at hl
  | _ :: _, [], _, _, _, _, hl, _ => by simp at hl
  | s :: L, v :: vs, cs, q, hc, hq, hl, hv => by
    have hk := (h.frz hp).1
    have hs2 := (h.frz hp).2
    have cons : ∀ (r0 : List D) (rest : List (List D)) (q' : Pch), capsOf bl0 L = some (rest, q') → (∀ y ∈ q', y ∈ p) → RowAt w (okS E (setB bl p) ψ w) r0 v →
        (r0 :: rest).length = (v :: vs).length ∧ ∀ (i : Nat) (r : List D) (v' : Value), (r0 :: rest)[i]? = some r → (v :: vs)[i]? = some v' → RowAt w (okS E (setB bl p) ψ w) r v' := by
      intro r0 rest q' h2 hq' hrow
      obtain ⟨i1, i2⟩ := caps_rep hsub h hp h2 hq' (vs := vs) (by simpa using hl) (fun i s v h1 h2 => hv (i + 1) s v (by simpa using h1) (by simpa using h2))
      refine ⟨by simp [i1], fun i r v' hi hj => ?_⟩
      cases i with
      | zero => simp at hi hj; subst hi hj; exact hrow
      | succ i => exact i2 i r v' (by simpa using hi) (by simpa using hj)
    unfold capsOf at hc
    split at hc
    · rename_i e; cases e
    · rename_i n r e
      obtain ⟨e1, e2⟩ := List.cons.inj e
      subst e1 e2
      have hbox := hv 0 _ v rfl rfl
      split at hc
      · rename_i rs hb
        split at hc
        · rename_i ds p1 rest q1 h1 h2
          simp at hc
          obtain ⟨rfl, rfl⟩ := hc
          refine cons ds rest q1 h2 (fun y hy => hq y (by simp [hy])) ?_
          have hb := hsub _ _ hb
          obtain ⟨b, e1, e2⟩ := hbox (name_some hb)
          have hfz := frz_box hp hb (cellsD_sub hsub h1) (hq _ (by simp))
          obtain ⟨b', f1, f2, f3, f4⟩ := hs2.blks n _ hfz
          rw [e1] at f1
          injection f1 with f1
          injection f1 with f1
          injection f1 with f1
          subst f1
          refine ⟨⟨b, 0, none⟩, e2, f2, f3, fun j d hj => ?_⟩
          rw [add_plain, Nat.zero_add]
          exact f4 j d hj
        · cases hc
      · rename_i ds hb
        split at hc
        · rename_i rest q1 h2
          simp at hc
          obtain ⟨rfl, rfl⟩ := hc
          refine cons ds rest q1 h2 hq ?_
          have hb := hsub _ _ hb
          obtain ⟨b, e1, e2⟩ := hbox (name_some hb)
          obtain ⟨b', f1, f2, f3, f4⟩ := h.blks n _ hb
          rw [e1] at f1
          injection f1 with f1
          injection f1 with f1
          injection f1 with f1
          subst f1
          refine ⟨⟨b, 0, none⟩, e2, hk.ok _ f2, f3, fun j d hj => ?_⟩
          rw [add_plain, Nat.zero_add]
          obtain ⟨u, u1, u2⟩ := f4 j d hj
          exact ⟨u, u1, hk.rep u2⟩
        · cases hc
      · cases hc
    · rename_i cs' r e
      obtain ⟨e1, e2⟩ := List.cons.inj e
      subst e1 e2
      split at hc
      · rename_i rest q1 h2
        simp at hc
        obtain ⟨rfl, rfl⟩ := hc
        refine cons cs' rest q1 h2 hq ?_
        obtain ⟨ad, e1, e2, e3, e4⟩ := hv 0 _ v rfl rfl
        refine ⟨ad, by simpa [Addr.add] using e1, hk.ok _ e2, e3, fun j d hj => ?_⟩
        obtain ⟨u, u1, u2⟩ := e4 j d hj
        exact ⟨u, u1, hk.rep u2⟩
      · cases hc
    · cases hc
theorem op_makeFunc (hsub : Sub bl0 bl) {f : FuncId} {first captured : Array Operand} {L : List Slot} (ho : o.op = .makeFunc (.func f) first captured) (h0 : first.toList = []) (c : Ctx E ti ψ sl bl U nx a w o.dst) (hl : L.length = captured.size)
    (hX : ∀ (i : Nat) (s : Slot) (v : Value), L[i]? = some s → (captured.toList.map a.eval)[i]? = some v → SlotRep w (okS E bl ψ w) ψ bl a.tmps s v) (h : (ptMakeFunc bl0 f L).All E.P E.gt R) : o.wp E.P a w (Next E sl bl U nx o.dst R) Q := by
  unfold ptMakeFunc at h
  split at h
  · rename_i cs p hc
    have hp := caps_frz hsub hc
    obtain ⟨i1, i2⟩ := caps_rep hsub c.sim hp hc (fun y hy => hy) (vs := captured.toList.map a.eval) (by simp [hl]) hX
    have hf0 : first = #[] := by rw [← Array.toList_inj]; exact h0
    subst hf0
    refine wp_val (v := .func (.func f) #[] (captured.map a.eval)) (by simp [execOp, ho, Instr.makeFunc]) (c.pureFrz hp h (fun m hm => by cases hm) (by simp) ?_)
    have hrow : ∀ i : Nat, ∃ ad : Addr, ∀ r, cs[i]? = some r → (captured.map a.eval)[i]? = some (.pointer (some ad)) ∧ okS E (setB bl p) ψ w ad.block ∧ (∀ d ∈ r, d.isCell = true) ∧ ∀ (j : Nat) (d : D), r[j]? = some d → ∃ u, w.cell? (ad.add j) = some u ∧ Rep w (okS E (setB bl p) ψ w) u d := by
      intro i
      cases hi : cs[i]? with
      | none => exact ⟨⟨0, 0, none⟩, fun r e => by cases e⟩
      | some r =>
        have hil := (List.getElem?_eq_some_iff.1 hi).1
        have hv : ∃ v, (captured.toList.map a.eval)[i]? = some v := ⟨_, List.getElem?_eq_getElem (by omega)⟩
        obtain ⟨v, hv⟩ := hv
        obtain ⟨ad, e1, e2, e3, e4⟩ := i2 i r v hi hv
        refine ⟨ad, fun r' e => ?_⟩
        injection e with e
        subst e
        refine ⟨?_, e2, e3, e4⟩
        rw [← e1, ← hv]
        simp
    let ads : Nat → Addr := fun i => Classical.choose (hrow i)
    have hads := fun i => Classical.choose_spec (hrow i)
    have hcell : ∀ i j : Nat, ∃ u, ∀ r d, cs[i]? = some r → r[j]? = some d → w.cell? ((ads i).add j) = some u ∧ Rep w (okS E (setB bl p) ψ w) u d := by
      intro i j
      cases hi : cs[i]? with
      | none => exact ⟨undef, fun r d e => by cases e⟩
      | some r =>
        cases hj : r[j]? with
        | none => exact ⟨undef, fun r' d e e' => by injection e with e; subst e; rw [hj] at e'; cases e'⟩
        | some d =>
          obtain ⟨u, hu⟩ := (hads i r hi).2.2.2 j d hj
          exact ⟨u, fun r' d' e e' => by injection e with e; subst e; rw [hj] at e'; injection e' with e'; subst e'; exact hu⟩
    refine Rep.fn f cs _ ads (fun i j => Classical.choose (hcell i j)) (by simp at i1; simp; omega) (fun r hr d hd => ?_) (fun i hi => ?_) (fun i r j d hi hj => (Classical.choose_spec (hcell i j) r d hi hj).1) (fun i r j d hi hj => (Classical.choose_spec (hcell i j) r d hi hj).2)
    · obtain ⟨i, hi⟩ := List.mem_iff_getElem?.1 hr
      exact (hads i r hi).2.2.1 d hd
    · obtain ⟨h1, h2, _⟩ := hads i _ (List.getElem?_eq_getElem hi)
      exact ⟨h1, h2⟩
  · exact h.elim
end
end Go.Eng
