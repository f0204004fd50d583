/- The engine, part 25: a function's contract from its tree. Conditions: none. -/
import Derived.Test.YtkiolflkkbfaiaaDoorEngX
set_option linter.unusedVariables false
set_option linter.unusedSimpArgs false
namespace Go.Eng
open Go.RowKit

def argSlot : Arg → Slot
  | .val d => .rv (.val d)
  | .row cs => .row cs 0
def argSlots : Nat → List Arg → List (Nat × Slot)
  | _, [] => []
  | i, a :: r => (i, argSlot a) :: argSlots (i + 1) r
def st0 (args : List Arg) : St := { slots := argSlots 0 args, blks := [], next := 0 }
/-- What follows the body: at its end as at a return. -/
def k0 (ti : TypeId → Option TI) (rs : List ResultVar) : Ex → St → T
  | .normal, st => retT ti st rs
  | .exit _, _ => .fail
theorem argSlots_look : ∀ (l : List Arg) (n i : Nat), lookS (argSlots n l) i = if n ≤ i then match l[i - n]? with
    | some a => argSlot a
    | none => .unit
    else .unit
  | [], n, i => by simp [argSlots, lookS]
  | a :: r, n, i => by
    show lookS ((n, argSlot a) :: argSlots (n + 1) r) i = _
    rw [lookS_cons, argSlots_look r (n + 1) i]
    by_cases h : i = n
    · subst h; simp
    · rw [if_neg h]
      by_cases h2 : n + 1 ≤ i
      · rw [if_pos h2, if_pos (by omega), show i - n = (i - (n + 1)) + 1 by omega, List.getElem?_cons_succ]
      · rw [if_neg h2, if_neg (by omega)]
/-- A FUNCTION: its contract, from its body's tree. -/
theorem spec_of {P : Program} {gt : Nat → Option (List D)} {ti : TypeId → Option TI} {f : FuncId} {fn : Func} {c : Code} {args : List Arg} {rr : List RR} {n : Nat} {rs : List ResultVar}
    (hm : P.follows .mixedOrders = true) (hti : ∀ t i, ti t = some i → tiOf P t = some i) (hf : P.funcs[f]? = some fn) (hb : fn.body = some c) (hname : (fn.name == "runtime.NumGoroutine") = false) (hn : fn.ntmps = n) (hle : args.length ≤ n) (hrs : fn.results = rs.toArray)
    (h : ∀ E : Env, E.P = P → E.gt = gt → E.n = n → E.Good → (exec n ti gt rs c (st0 args) (k0 ti rs)).Holds E rs.toArray (fun r => weakL r rr) (fun _ _ => False)) : Spec P gt f args rr := by
  intro w vs ok hok hglob hsz hargs
  refine .inl ⟨⟨fn, hf, by rw [hb]; rfl, hname⟩, calls_of_wp hf hb ?_⟩
  let E : Env := ⟨P, gt, w, ok, n⟩
  have g : Glob E ti := ⟨⟨hok, hglob⟩, hti⟩
  have hokS : ∀ b, ok b → okS E (lookB (st0 args).blks) (fun _ => undef) w b := fun b hb => ⟨fun _ => hb, hok b hb, fun nm k hk => by cases hk⟩
  have hs : St.OK E (st0 args) { tmps := vs ++ Array.replicate (fn.ntmps - vs.size) undef, defers := [] } w := by
    refine ⟨fun _ => undef, ?_, rfl, Below.refl _ _, fun i => ?_, fun nm k hk => (by cases hk), fun nm nm' k k' hk => (by cases hk), fun nm _ => rfl, fun i m hm => ?_, fun nm cs hk => (by cases hk), fun i l l' s' e => ?_⟩
    · simp [E]; omega
    · show SlotRep _ _ _ _ _ (lookS (argSlots 0 args) i) _
      rw [argSlots_look, if_pos (Nat.zero_le _), Nat.sub_zero]
      cases hi : args[i]? with
      | none => trivial
      | some x =>
        have hil := (List.getElem?_eq_some_iff.1 hi).1
        have hx := hargs i x hi
        have e : (vs ++ Array.replicate (fn.ntmps - vs.size) undef).getD i undef = vs.getD i undef := by
          rw [Array.getD_eq_getD_getElem?, Array.getElem?_append_left (by omega), Array.getD_eq_getD_getElem?]
        show SlotRep _ _ _ _ _ (argSlot x) ((vs ++ Array.replicate (fn.ntmps - vs.size) undef).getD i undef)
        rw [e]
        cases x with
        | val d => exact Rep.mono (fun _ _ => rfl) hokS hx
        | row cs =>
          obtain ⟨ad, h1, h2, h3, h4⟩ := hx
          refine ⟨ad, by simpa [Addr.add] using h1, hokS _ h2, h3, fun j d hj => ?_⟩
          obtain ⟨u, u1, u2⟩ := h4 j d hj
          exact ⟨u, u1, u2.mono (fun _ _ => rfl) hokS⟩
    · change m ∈ refsS (lookS (argSlots 0 args) i) at hm
      rw [argSlots_look, if_pos (Nat.zero_le _)] at hm
      cases hi : args[i - 0]? with
      | none => rw [hi] at hm; cases hm
      | some x => rw [hi] at hm; cases x <;> cases hm
    · change lookS (argSlots 0 args) i = _ at e
      rw [argSlots_look, if_pos (Nat.zero_le _)] at e
      cases hi : args[i - 0]? with
      | none => rw [hi] at e; cases e
      | some x => rw [hi] at e; cases x <;> cases e
  have fin : ∀ a' w', RetOK E rs.toArray (fun r => weakL r rr) a' w' → a'.defers = [] ∧ ∃ v, (results fn a'.tmps).run P w' = .ok v w' ∧ ∃ v', Ending.returned v = .returned v' ∧ Below w.heap.size w w' ∧ ∃ okr : Nat → Prop, (∀ b, okr b → (ok b ∨ w.heap.size ≤ b) ∧ b < w'.heap.size) ∧ RetRep P w.heap.size w' okr rr v' := by
    rintro a' w' ⟨h1, h2, rr', v, hwk, h3, okr, h4, h5⟩
    refine ⟨h1, v, ?_, v, rfl, h2, ret_weak hwk h4 h5⟩
    rw [← h3]
    unfold results
    rw [hrs]
  refine wp_mono (exec_wp (QD := fun _ _ => False) g hm c _ _ _ w hs (h E rfl rfl rfl g.good)) (fun e a' w' he => ?_)
  cases e with
  | normal =>
    obtain ⟨st', h1, h2⟩ := he
    exact fin a' w' (ret_sound (QD := fun _ _ => False) g h1 h2)
  | exit id =>
    obtain ⟨st', h1, h2⟩ := he
    exact h2.elim
  | ret => exact fin a' w' he
  | goto l => exact he.elim
  | panic ch => exact he.elim
  | outgrown => exact he.elim
end Go.Eng
