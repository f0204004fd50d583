/- The engine, part 18: regions that draw their order. Conditions: none. -/
import Derived.Test.YtkiolflkkbfaiaaDoorEngQ
set_option linter.unusedVariables false
set_option linter.unusedSimpArgs false
namespace Go.Eng
open Go.RowKit

/-! ### The states by what has been done -/
section
variable (ops : Array Oper) (st0 : St) (p : Nat → Patch) (b : Nat → Bool)
def opAt (i : Nat) : Oper := ops.getD i default
def stT : Nat → St
  | 0 => st0
  | i + 1 => (stT i).put (opAt ops i).dst (p i)
def slB : Nat → Nat → Slot
  | 0 => lookS st0.slots
  | i + 1 => match b i with
    | true => setS (slB i) (opAt ops i).dst (p i).slot
    | false => slB i
def blB : Nat → Blks
  | 0 => lookB st0.blks
  | i + 1 => match b i with
    | true => setB (blB i) (p i).blks
    | false => blB i
def UB (n : Nat) (m : Nat) : Prop := m < st0.next ∨ ∃ i, i < n ∧ b i = true ∧ st0.next + 8 * i ≤ m ∧ m < st0.next + 8 * i + 8
end
section
variable {ops : Array Oper} {st0 : St} {p : Nat → Patch} {b b' : Nat → Bool}
theorem setS_none {sl : Nat → Slot} {dst : Option Nat} {s : Slot} {t : Nat} (h : dst ≠ some t) : setS sl dst s t = sl t := by
  cases dst with
  | none => rfl
  | some d => exact setS_ne (fun e => h (by rw [e]))
theorem setB_not {bl : Blks} {q : Pch} {n : Nat} (h : n ∉ q.map (·.1)) : setB bl q n = bl n := by
  unfold setB
  have : q.find? (fun x => Nat.beq n x.1) = none := by
    rw [List.find?_eq_none]
    intro x hx e
    exact h (List.mem_map.2 ⟨x, hx, (Nat.eq_of_beq_eq_true e).symm⟩)
  rw [this]
theorem setB_yes {bl bl' : Blks} {q : Pch} {n : Nat} (h : n ∈ q.map (·.1)) : setB bl q n = setB bl' q n := by
  unfold setB
  obtain ⟨x, hx, e⟩ := List.mem_map.1 h
  cases hf : q.find? (fun x => Nat.beq n x.1) with
  | some y => rfl
  | none =>
    rw [List.find?_eq_none] at hf
    exact absurd (by rw [← e]; simp) (hf x hx)
theorem slB_agree {t : Nat} : ∀ k, (∀ j, j < k → b j ≠ b' j → (opAt ops j).dst ≠ some t) → slB ops st0 p b k t = slB ops st0 p b' k t
  | 0, _ => rfl
  | k + 1, h => by
    have ih := slB_agree k (fun j hj => h j (by omega))
    unfold slB
    cases hb : b k <;> cases hb' : b' k <;> simp only
    · exact ih
    · rw [setS_none (h k (by omega) (by rw [hb, hb']; simp))]; exact ih
    · rw [setS_none (h k (by omega) (by rw [hb, hb']; simp))]; exact ih
    · unfold setS
      split
      · split
        · rfl
        · exact ih
      · exact ih
theorem blB_agree {n : Nat} : ∀ k, (∀ j, j < k → b j ≠ b' j → n ∉ (p j).blks.map (·.1)) → blB st0 p b k n = blB st0 p b' k n
  | 0, _ => rfl
  | k + 1, h => by
    have ih := blB_agree k (fun j hj => h j (by omega))
    unfold blB
    cases hb : b k <;> cases hb' : b' k <;> simp only
    · exact ih
    · rw [setB_not (h k (by omega) (by rw [hb, hb']; simp))]; exact ih
    · rw [setB_not (h k (by omega) (by rw [hb, hb']; simp))]; exact ih
    · by_cases hn : n ∈ (p k).blks.map (·.1)
      · exact setB_yes hn
      · rw [setB_not hn, setB_not hn]; exact ih
theorem slB_up {t : Nat} {k : Nat} : ∀ m, (∀ j, k ≤ j → j < k + m → b j = true → (opAt ops j).dst ≠ some t) → slB ops st0 p b (k + m) t = slB ops st0 p b k t
  | 0, _ => rfl
  | m + 1, h => by
    have ih := slB_up m (fun j h1 h2 => h j h1 (by omega))
    rw [show slB ops st0 p b (k + (m + 1)) = (match b (k + m) with
      | true => setS (slB ops st0 p b (k + m)) (opAt ops (k + m)).dst (p (k + m)).slot
      | false => slB ops st0 p b (k + m)) from rfl]
    cases hb : b (k + m) <;> simp only
    · exact ih
    · rw [setS_none (h (k + m) (by omega) (by omega) hb)]; exact ih
theorem blB_up {n : Nat} {k : Nat} : ∀ m, (∀ j, k ≤ j → j < k + m → b j = true → n ∉ (p j).blks.map (·.1)) → blB st0 p b (k + m) n = blB st0 p b k n
  | 0, _ => rfl
  | m + 1, h => by
    have ih := blB_up m (fun j h1 h2 => h j h1 (by omega))
    rw [show blB st0 p b (k + (m + 1)) = (match b (k + m) with
      | true => setB (blB st0 p b (k + m)) (p (k + m)).blks
      | false => blB st0 p b (k + m)) from rfl]
    cases hb : b (k + m) <;> simp only
    · exact ih
    · rw [setB_not (h (k + m) (by omega) (by omega) hb)]; exact ih
theorem stT_spec : ∀ i, lookS (stT ops st0 p i).slots = slB ops st0 p (fun _ => true) i ∧ lookB (stT ops st0 p i).blks = blB st0 p (fun _ => true) i ∧ (stT ops st0 p i).next = st0.next + 8 * i
  | 0 => ⟨rfl, rfl, rfl⟩
  | i + 1 => by
    obtain ⟨h1, h2, h3⟩ := stT_spec i
    refine ⟨?_, ?_, ?_⟩
    · show lookS ((stT ops st0 p i).put _ _).slots = _
      rw [lookS_put, h1]; rfl
    · show lookB ((p i).blks ++ (stT ops st0 p i).blks) = _
      rw [lookB_append, h2]; rfl
    · show (stT ops st0 p i).next + 8 = _
      rw [h3]; omega
/-- Where a slot comes from. -/
theorem slB_from {t : Nat} : ∀ k, slB ops st0 p b k t = lookS st0.slots t ∨ ∃ j, j < k ∧ b j = true ∧ (opAt ops j).dst = some t ∧ slB ops st0 p b k t = (p j).slot
  | 0 => .inl rfl
  | k + 1 => by
    have ih := slB_from (t := t) k
    unfold slB
    cases hb : b k <;> simp only
    · rcases ih with h | ⟨j, h1, h2, h3, h4⟩
      · exact .inl h
      · exact .inr ⟨j, by omega, h2, h3, h4⟩
    · by_cases hd : (opAt ops k).dst = some t
      · refine .inr ⟨k, by omega, hb, hd, ?_⟩
        rw [hd, setS_at]
      · rw [setS_none hd]
        rcases ih with h | ⟨j, h1, h2, h3, h4⟩
        · exact .inl h
        · exact .inr ⟨j, by omega, h2, h3, h4⟩
theorem mem_slots {j : Nat} {t : Nat} (hd : (opAt ops j).dst = some t) : ∀ {i : Nat}, j < i → (t, (p j).slot) ∈ (stT ops st0 p i).slots
  | 0, h => by omega
  | i + 1, h => by
    show _ ∈ ((stT ops st0 p i).put (opAt ops i).dst (p i)).slots
    by_cases e : j = i
    · subst e
      simp [St.put, hd]
    · have ih := mem_slots hd (i := i) (by omega)
      unfold St.put
      simp only
      split
      · exact List.mem_cons_of_mem _ ih
      · exact ih
theorem mentions_mem {d t : Nat} {l : List (Nat × Bool)} {s : Slot} : ∀ {sl : List (Nat × Slot)}, mentions d sl = false → (t, .gval l s) ∈ sl → litOn d l = false
  | [], _, h => by cases h
  | x :: r, hm, h => by
    rcases List.mem_cons.1 h with e | h
    · subst e
      unfold mentions at hm
      split at hm
      · cases hm
      · rename_i hh; exact hh
    · refine mentions_mem ?_ h
      obtain ⟨y, z⟩ := x
      cases z <;> simp only [mentions] at hm <;> try exact hm
      split at hm
      · cases hm
      · exact hm
theorem mentions_tail {d : Nat} : ∀ {i : Nat}, mentions d (stT ops st0 p i).slots = false → mentions d st0.slots = false
  | 0, h => h
  | i + 1, h => by
    refine mentions_tail (i := i) ?_
    change mentions d ((stT ops st0 p i).put (opAt ops i).dst (p i)).slots = false at h
    unfold St.put at h
    simp only at h
    split at h
    · cases hz : (p i).slot <;> rw [hz] at h <;> simp only [mentions] at h <;> try exact h
      split at h
      · cases h
      · exact h
    · exact h
end
end Go.Eng
