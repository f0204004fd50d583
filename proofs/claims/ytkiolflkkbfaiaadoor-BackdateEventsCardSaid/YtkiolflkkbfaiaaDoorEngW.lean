/- The engine, part 23: code and functions. Conditions: none. -/
import Derived.Test.YtkiolflkkbfaiaaDoorEngV
set_option linter.unusedVariables false
set_option linter.unusedSimpArgs false
namespace Go.Eng
open Go.RowKit
section
variable {E : Env} {ti : TypeId → Option TI} {rs : List ResultVar} {QR : List RR → Prop} {QD : Ex → St → Prop}

/-- CODE: what its tree says, its run does. -/
theorem exec_wp (g : Glob E ti) (hm : E.P.follows .mixedOrders = true) : ∀ (c : Code) (st : St) (k : Ex → St → T) (a : Act) (w : World), St.OK E st a w → (exec E.n ti E.gt rs c st k).Holds E rs.toArray QR QD →
    c.wp E.P (Post E rs.toArray QR fun e st' => (k e st').Holds E rs.toArray QR QD) a w := by
  intro c
  induction c with
  | skip => intro st k a w hs h; exact wp_skip ⟨st, hs, h⟩
  | region id ops d =>
    intro st k a w hs h
    cases d with
    | false => exact region_wp g (K := fun st' => k .normal st') (fun st a w hs h => ⟨st, hs, h⟩) hs h
    | true =>
      unfold exec at h
      split at h
      · exact h.elim
      · rename_i hb
        exact region_draw_wp g hm (K := fun st' => k .normal st') (fun st a w hs h => ⟨st, hs, h⟩) hb hs h
  | seq x y ihx ihy =>
    intro st k a w hs h
    refine wp_seq (wp_mono (ihx st _ a w hs h) (fun e a' w' he => ?_))
    cases e with
    | normal =>
      obtain ⟨st', h1, h2⟩ := he
      dsimp only at h2
      split at h2
      · exact h2 a' w' h1
      · exact ihy st' k a' w' h1 h2
    | exit id =>
      obtain ⟨st', h1, h2⟩ := he
      exact ⟨st', h1, h2⟩
    | ret => exact he
    | goto l => exact he.elim
    | panic ch => exact he.elim
    | outgrown => exact he.elim
  | cond c x y ihx ihy =>
    intro st k a w hs h
    unfold exec at h
    split at h
    · rename_i b hc
      obtain ⟨ψ, hs'⟩ := hs
      have hv := ev_rep hs' g.good c
      rw [hc] at hv
      have hv := Rep.bool_inv (w := w) hv
      exact wp_cond_split hv (fun hb => ihx st k a w ⟨ψ, hs'⟩ (h.1 hb)) (fun hb => ihy st k a w ⟨ψ, hs'⟩ (h.2 hb))
    · exact h.elim
  | block id body ih =>
    intro st k a w hs h
    refine wp_block (wp_mono (ih st _ a w hs h) (fun e a' w' he => ?_))
    cases e with
    | normal => exact he
    | exit j =>
      obtain ⟨st', h1, h2⟩ := he
      dsimp only at h2
      show if j = id then Post E rs.toArray QR (fun e st' => T.Holds E rs.toArray QR QD (k e st')) Exit.normal a' w' else Post E rs.toArray QR (fun e st' => T.Holds E rs.toArray QR QD (k e st')) (Exit.exit j) a' w'
      split at h2
      · rename_i hj
        rw [if_pos (Nat.eq_of_beq_eq_true hj)]
        exact ⟨st', h1, h2⟩
      · rename_i hj
        rw [if_neg (by intro e; subst e; simp at hj)]
        exact ⟨st', h1, h2⟩
    | ret => exact he
    | goto l => exact he.elim
    | panic ch => exact he.elim
    | outgrown => exact he.elim
  | loop body ih => intro st k a w hs h; exact h a w hs
  | exit id => intro st k a w hs h; exact wp_exit ⟨st, hs, h⟩
  | ret => intro st k a w hs h; exact wp_ret (ret_sound g hs h)
  | _ => intros; rename_i h; exact h.elim
end
end Go.Eng
