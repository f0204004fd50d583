/- Plain lemmas: numbers that fit, places in lists, loops. Conditions: none. -/
import Derived.Test.YtkiolflkkbfaiaaDoorEngA2
set_option linter.unusedVariables false
set_option linter.unusedSimpArgs false
namespace Go.Cb
open Go.Eng

abbrev w64 (n : Int) : Int := IntKind.wrap .i64 n
theorem w64_in {n : Int} (h1 : -9223372036854775808 ≤ n) (h2 : n ≤ 9223372036854775807) : IntKind.wrap .i64 n = n := by
  unfold IntKind.wrap IntKind.bits IntKind.signed
  simp only
  split <;> rename_i h <;> simp at h <;> omega
theorem w64_nat {n : Nat} (h : n ≤ 9223372036854775806) : IntKind.wrap .i64 ((n : Int) + 1) = ((n + 1 : Nat) : Int) := by
  rw [w64_in] <;> omega
theorem w64_succ {n : Nat} (h : n ≤ 9223372036854775806) : IntKind.wrap .i64 ((n : Int) + 1) = (n : Int) + 1 := by
  rw [w64_in] <;> omega
theorem getI_nat {τ : Type} (l : List τ) (n : Nat) : getI l (n : Int) = l[n]? := by
  unfold getI
  rw [if_pos (by omega)]
  rfl
theorem getI_lt {τ : Type} (l : List τ) (n : Nat) (h : n < l.length) : getI l (n : Int) = some l[n] := by
  rw [getI_nat, List.getElem?_eq_getElem h]
theorem getI_some {τ : Type} {l : List τ} {n : Int} (h0 : 0 ≤ n) (h : n < l.length) : ∃ x, getI l n = some x ∧ l[n.toNat]? = some x ∧ x ∈ l := by
  have : n.toNat < l.length := by omega
  refine ⟨l[n.toNat], ?_, List.getElem?_eq_getElem this, List.getElem_mem this⟩
  unfold getI
  rw [if_pos h0, List.getElem?_eq_getElem this]

section
variable {σ ρ : Type}
theorem iter_step {B : σ → Option (σ ⊕ ρ)} {s s' : σ} (h : B s = some (.inl s')) : Iter B s = Iter B s' := by rw [Iter_eq, h]
theorem iter_end {B : σ → Option (σ ⊕ ρ)} {s : σ} {r : ρ} (h : B s = some (.inr r)) : Iter B s = some r := by rw [Iter_eq, h]
theorem iter_map {B : σ → Option (σ ⊕ ρ)} {s : σ} {A : Option ρ} (h : B s = A.map .inr) : Iter B s = A := by
  rw [Iter_eq, h]; cases A <;> rfl
/-- n rounds. -/
theorem iter_upto {B : σ → Option (σ ⊕ ρ)} (n : Nat) (st : Nat → σ) (step : ∀ i, i < n → B (st i) = some (.inl (st (i + 1)))) : Iter B (st 0) = Iter B (st n) := by
  induction n with
  | zero => rfl
  | succ n ih => rw [ih (fun i hi => step i (by omega)), iter_step (step n (by omega))]
theorem iter_run {B : σ → Option (σ ⊕ ρ)} {s0 : σ} {r : Option ρ} (n : Nat) (st : Nat → σ) (h0 : st 0 = s0) (step : ∀ i, i < n → B (st i) = some (.inl (st (i + 1)))) (fin : Iter B (st n) = r) : Iter B s0 = r := by
  rw [← h0, iter_upto n st step, fin]
/-- Rounds up to n, or out before. -/
theorem iter_find {B : σ → Option (σ ⊕ ρ)} (n : Nat) (st : Nat → σ) (q : Nat → Bool) (step : ∀ i, i < n → q i = false → B (st i) = some (.inl (st (i + 1)))) :
    (∃ i, i < n ∧ q i = true ∧ (∀ k, k < i → q k = false) ∧ Iter B (st 0) = Iter B (st i)) ∨ ((∀ k, k < n → q k = false) ∧ Iter B (st 0) = Iter B (st n)) := by
  induction n with
  | zero => exact .inr ⟨fun k h => by omega, rfl⟩
  | succ n ih =>
    rcases ih (fun i hi => step i (by omega)) with ⟨i, h1, h2, h3, h4⟩ | ⟨h1, h2⟩
    · exact .inl ⟨i, by omega, h2, h3, h4⟩
    · cases hq : q n with
      | true => exact .inl ⟨n, by omega, hq, h1, h2⟩
      | false =>
        refine .inr ⟨fun k hk => ?_, by rw [h2, iter_step (step n (by omega) hq)]⟩
        by_cases h : k = n
        · subst h; exact hq
        · exact h1 k (by omega)
end
theorem take_succ_of {τ : Type} (l : List τ) (i : Nat) (h : i < l.length) : l.take (i + 1) = l.take i ++ [l[i]] := by
  rw [List.take_add_one, List.getElem?_eq_getElem h]; rfl
end Go.Cb
