/- The engine, part 17: regions that draw their order, first half: what an operation leans on. Conditions: none. -/
import Derived.Test.YtkiolflkkbfaiaaDoorEngP
set_option linter.unusedVariables false
set_option linter.unusedSimpArgs false
namespace Go.Eng
open Go.RowKit
section
variable {E : Env} {ti : TypeId → Option TI} {gt : Nat → Option (List D)} {sl sl' : Nat → Slot} {bl : Blks} {nx : Nat} {o : Oper} {lits : List (Nat × Bool)}

theorem tmpsOf_mem {t : Nat} : ∀ {l : List Operand}, Operand.tmp t ∈ l → t ∈ tmpsOf l
  | x :: r, h => by
    rcases List.mem_cons.1 h with rfl | h
    · simp [tmpsOf]
    · have ih := tmpsOf_mem h
      cases x <;> simp [tmpsOf, ih]
theorem evOp_congr {x : Operand} (h : ∀ t, x = .tmp t → sl t = sl' t) : evOp gt sl x = evOp gt sl' x := by
  cases x with
  | tmp t => exact h t rfl
  | _ => rfl
theorem evG_congr {x : Operand} (h : ∀ t, x = .tmp t → sl t = sl' t) : evG gt sl lits x = evG gt sl' lits x := by
  unfold evG
  rw [evOp_congr h]
theorem map_ev {xs : List Operand} {f g : Operand → Slot} (h : ∀ x ∈ xs, f x = g x) : xs.map f = xs.map g := List.map_congr_left h
/-- An operation's tree leans on the slots of its operands alone. -/
theorem step_congr (h : ∀ t, Operand.tmp t ∈ o.op.operands.toList → sl t = sl' t) : stepPT ti gt sl bl nx lits o = stepPT ti gt sl' bl nx lits o := by
  have hx : ∀ (l : List (Nat × Bool)) (x : Operand), x ∈ o.op.operands.toList → evG gt sl l x = evG gt sl' l x := fun l x hx => evG_congr (fun t e => h t (e ▸ hx))
  unfold stepPT
  cases ho : o.op <;> rw [ho] at hx <;> simp only [Op.operands] at hx <;> unfold opPT <;> simp only [ho] <;> try rfl
  case pick c a b =>
    have h1 := fun l => hx l c (by simp)
    have h2 := fun l => hx l a (by simp)
    have h3 := fun l => hx l b (by simp)
    unfold pickPT
    cases c <;> simp only [h1, h2, h3]
  case move x => rw [hx lits x (by simp)]
  case assign x => rw [hx lits x (by simp)]
  case box t x => rw [hx lits x (by simp)]
  case load t x => rw [hx lits x (by simp)]
  case nilCheck x => rw [hx lits x (by simp)]
  case unOp op t x => rw [hx lits x (by simp)]
  case convert s d x => rw [hx lits x (by simp)]
  case fieldAddr s x f => rw [hx lits x (by simp)]
  case field s x f => rw [hx lits x (by simp)]
  case extract x i => rw [hx lits x (by simp)]
  case store t x y => rw [hx lits x (by simp), hx lits y (by simp)]
  case binOp op t x y u => rw [hx lits x (by simp), hx lits y (by simp)]
  case makeSlice t x y => rw [hx lits x (by simp), hx lits y (by simp)]
  case indexAddr t x y => rw [hx lits x (by simp), hx lits y (by simp)]
  case index t x y => rw [hx lits x (by simp), hx lits y (by simp)]
  case build t ps =>
    congr 1
    refine List.map_congr_left fun p hp => ?_
    rw [hx lits p.2 (by simp; exact ⟨p.1, by simpa using hp⟩)]
  case buildSlice t n ps =>
    congr 1
    refine List.map_congr_left fun p hp => ?_
    rw [hx lits p.2 (by simp; exact ⟨p.1, by simpa using hp⟩)]
  case slice t x lo hi mx =>
    have h1 : lo.map (evG gt sl lits) = lo.map (evG gt sl' lits) := by
      cases lo with
      | none => rfl
      | some y => simp only [Option.map_some, hx lits y (by simp)]
    have h2 : hi.map (evG gt sl lits) = hi.map (evG gt sl' lits) := by
      cases hi with
      | none => rfl
      | some y => simp only [Option.map_some, hx lits y (by simp)]
    have h3 : mx.map (evG gt sl lits) = mx.map (evG gt sl' lits) := by
      cases mx with
      | none => rfl
      | some y => simp only [Option.map_some, hx lits y (by simp)]
    rw [hx lits x (by simp), h1, h2, h3]
  case makeFunc f first captured =>
    cases f with
    | func f =>
      simp only
      rw [map_ev (g := evG gt sl' lits) (xs := captured.toList) (fun x hx' => hx lits x (by simp; exact .inr (by simpa using hx')))]
    | _ => rfl
  case call c =>
    obtain ⟨callee, args, argTypes⟩ := c
    cases callee with
    | builtin b => simp only; rw [map_ev (g := evG gt sl' lits) (xs := args.toList) (fun x hx' => hx lits x (by simp [Call.operands]; simpa using hx'))]
    | value f => simp only; rw [map_ev (g := evG gt sl' lits) (xs := args.toList) (fun x hx' => hx lits x (by simp [Call.operands]; exact .inr (by simpa using hx'))), hx lits f (by simp [Call.operands])]
    | _ => rfl
end
end Go.Eng
