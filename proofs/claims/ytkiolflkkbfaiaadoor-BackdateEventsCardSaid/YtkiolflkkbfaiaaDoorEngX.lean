/- The engine, part 24: a result of one's own, read as data. Conditions: none. -/
import Derived.Test.YtkiolflkkbfaiaaDoorEngW
set_option linter.unusedVariables false
set_option linter.unusedSimpArgs false
namespace Go.Eng
open Go.RowKit

/-- What is one's own may be handed back as data. -/
def RR.weak : RR → RR → Prop
  | r, s => r = s ∨ ∃ e rows, r = .own e rows ∧ s = .val (.slice rows)
def weakL : List RR → List RR → Prop
  | [], [] => True
  | r :: rs, s :: ss => RR.weak r s ∧ weakL rs ss
  | _, _ => False
theorem weakL_spec : ∀ {rs ss : List RR}, weakL rs ss → rs.length = ss.length ∧ ∀ (i : Nat) (s : RR), ss[i]? = some s → ∃ r, rs[i]? = some r ∧ RR.weak r s
  | [], [], _ => ⟨rfl, fun i s h => by simp at h⟩
  | [], _ :: _, h => h.elim
  | _ :: _, [], h => h.elim
  | r :: rs, s :: ss, h => by
    obtain ⟨i1, i2⟩ := weakL_spec h.2
    refine ⟨by simp [i1], fun i x hi => ?_⟩
    cases i with
    | zero => simp at hi; subst hi; exact ⟨r, rfl, h.1⟩
    | succ i => obtain ⟨y, y1, y2⟩ := i2 i x (by simpa using hi); exact ⟨y, by simpa using y1, y2⟩
theorem weakL_refl : ∀ {rs : List RR}, weakL rs rs
  | [] => trivial
  | r :: rs => ⟨.inl rfl, weakL_refl⟩
theorem ret_weak {P : Program} {B : Nat} {w : World} {ok : Nat → Prop} {okr : Nat → Prop} {rs ss : List RR} {v : Value} (hw : weakL rs ss) (hb : ∀ b, okr b → (ok b ∨ B ≤ b) ∧ b < w.heap.size) (h : RetRep P B w okr rs v) :
    ∃ okr' : Nat → Prop, (∀ b, okr' b → (ok b ∨ B ≤ b) ∧ b < w.heap.size) ∧ RetRep P B w okr' ss v := by
  obtain ⟨vs, v1, v2, v3, v4⟩ := h
  obtain ⟨w1, w2⟩ := weakL_spec hw
  have hsub : ∀ b, okr b → (okr b ∨ ∃ i e rows, rs[i]? = some (.own e rows) ∧ ss[i]? = some (.val (.slice rows)) ∧ ptrBlock (vs.getD i undef) = some b) := fun b h => .inl h
  refine ⟨fun b => okr b ∨ ∃ i e rows, rs[i]? = some (.own e rows) ∧ ss[i]? = some (.val (.slice rows)) ∧ ptrBlock (vs.getD i undef) = some b, fun b hb' => ?_, vs, by rw [v1, w1], v2, fun i s hi => ?_, fun i j r s hi hj ho1 ho2 hne => ?_⟩
  · rcases hb' with h | ⟨i, e, rows, h1, h2, h3⟩
    · exact hb b h
    · obtain ⟨xs, x1, x2, _⟩ := v3 i _ h1
      have := owns_block x2 h3
      exact ⟨.inr this.1, this.2⟩
  · obtain ⟨r, hr, hrs⟩ := w2 i s hi
    have hv := v3 i r hr
    rcases hrs with rfl | ⟨e, rows, rfl, rfl⟩
    · cases r with
      | val d => exact Rep.mono (fun _ _ => rfl) hsub hv
      | own e rows =>
        obtain ⟨xs, x1, x2, x3, x4, x5, x6⟩ := hv
        refine ⟨xs, x1, x2, x3, x4, fun i' r j d hi' hj => ?_, fun b hb' h => ?_⟩
        · obtain ⟨u, u1, u2⟩ := x5 i' r j d hi' hj
          exact ⟨u, u1, u2.mono (fun _ _ => rfl) hsub⟩
        · rcases h with h | ⟨k, e', rows', h1, h2, h3⟩
          · exact x6 b hb' h
          · have hik : i ≠ k := fun e => by subst e; rw [hi] at h2; injection h2 with h2; cases h2
            rcases v4 i k _ _ hr h1 rfl rfl hik with h4 | h4
            · rw [h4] at hb'; cases hb'
            · exact h4 (by rw [hb', h3])
    · obtain ⟨xs, x1, x2, x3, x4, x5, x6⟩ := hv
      exact rep_of_row x1 x2 x3 x4 (fun i' r j d hi' hj => by
        obtain ⟨u, u1, u2⟩ := x5 i' r j d hi' hj
        exact ⟨u, u1, u2.mono (fun _ _ => rfl) hsub⟩) (fun b hb' => .inr ⟨i, e, rows, hr, hi, hb'⟩)
  · obtain ⟨r', hr', hrs'⟩ := w2 i r hi
    obtain ⟨s', hs', hss'⟩ := w2 j s hj
    rcases hrs' with rfl | ⟨e, rows, rfl, rfl⟩
    · rcases hss' with rfl | ⟨e, rows, rfl, rfl⟩
      · exact v4 i j _ _ hr' hs' ho1 ho2 hne
      · cases ho2
    · cases ho1
end Go.Eng
