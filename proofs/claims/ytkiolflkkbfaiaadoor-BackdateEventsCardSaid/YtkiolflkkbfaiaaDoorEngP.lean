/- The engine, part 16: regions that keep the text's order. Conditions: none. -/
import Derived.Test.YtkiolflkkbfaiaaDoorEngO
set_option linter.unusedVariables false
set_option linter.unusedSimpArgs false
namespace Go.Eng
open Go.RowKit
section
variable {E : Env} {ti : TypeId → Option TI} {ψ ψ' : Nat → Value} {sl sl' : Nat → Slot} {bl bl' bl0 : Blks} {U : Nat → Prop} {nx : Nat} {a : Act} {w w' : World} {dst : Option Nat} {o : Oper} {R : Patch → Prop} {Q : Exit → Act → World → Prop}
variable {rvs : Array ResultVar} {QR : List RR → Prop} {QD : Ex → St → Prop}

theorem condOf_congr : ∀ {l : List (Nat × Bool)}, (∀ x ∈ l, sl' x.1 = sl x.1) → condOf sl' l = condOf sl l
  | [], _ => rfl
  | (t, b) :: r, h => by
    unfold condOf
    rw [condOf_congr (fun x hx => h x (List.mem_cons_of_mem _ hx)), h (t, b) (by simp)]
theorem litOnO_spec {l : List (Nat × Bool)} (h : litOnO dst l = false) : ∀ d, dst = some d → ∀ x ∈ l, x.1 ≠ d := by
  intro d hd x hx
  subst hd
  exact litOn_spec h x hx
theorem gPatch_spec {lits : List (Nat × Bool)} {p q : Patch} (h : gPatch dst bl lits p = some q) : p.blks = [] ∧ q = ⟨.gval lits p.slot, []⟩ ∧ litOnO dst lits = false ∧ (∀ l s, p.slot ≠ .gval l s) ∧ ∀ n ∈ refsS p.slot, (bl n).isSome = true := by
  unfold gPatch at h
  split at h
  · rename_i h1 h2 h3 h4
    injection h with h
    exact ⟨h1, h.symm, h2, fun l s e => (by rw [e] at h3; cases h3), allB_mem (p := fun n => (bl n).isSome) h4⟩
  · cases h
theorem setS_at {d : Nat} {s : Slot} : setS sl (some d) s d = s := by simp [setS]
theorem setS_ne {d i : Nat} {s : Slot} (h : i ≠ d) : setS sl (some d) s i = sl i := by simp [setS, h]
theorem lookS_cons (d : Nat) (x : Slot) (s : List (Nat × Slot)) (i : Nat) : lookS ((d, x) :: s) i = if i = d then x else lookS s i := by
  conv => lhs; unfold lookS
  by_cases h : i = d
  · subst h; simp
  · have : Nat.beq i d = false := by rw [Bool.eq_false_iff]; exact fun e => h (Nat.eq_of_beq_eq_true e)
    simp [this, h]
/-- A slot is told otherwise. -/
theorem SimP.reslot {s s' : Slot} {d : Nat} (h : SimP E ψ (setS sl (some d) s) bl U a w) (hs : ∀ v, SlotRep w (okS E bl ψ w) ψ bl a.tmps s v → SlotRep w (okS E bl ψ w) ψ bl a.tmps s' v) (hr : ∀ m ∈ refsS s', m ∈ refsS s) (hg : ∀ l l' u, s' ≠ .gval l (.gval l' u)) :
    SimP E ψ (setS sl (some d) s') bl U a w := by
  refine ⟨h.size, h.defers, h.below, fun i => ?_, h.blks, h.apart, h.names, fun i m hm => ?_, h.brefs, fun i l l' u e => ?_⟩
  · by_cases e : i = d
    · subst e
      have := h.slots i
      rw [setS_at] at this ⊢
      exact hs _ this
    · have := h.slots i
      rw [setS_ne e] at this ⊢
      exact this
  · by_cases e : i = d
    · subst e
      rw [setS_at] at hm
      exact h.refs i m (by rw [setS_at]; exact hr m hm)
    · rw [setS_ne e] at hm
      exact h.refs i m (by rw [setS_ne e]; exact hm)
  · by_cases e' : i = d
    · subst e'
      rw [setS_at] at e
      exact hg _ _ _ e
    · rw [setS_ne e'] at e
      exact h.gg i l l' u (by rw [setS_ne e']; exact e)
theorem opDet_sound {ops : Array Oper} {p : Patch} (hsub : Sub bl0 bl) (c : Ctx E ti ψ sl bl U nx a w o.dst) (h : OpDet E ti ops sl bl0 nx o p) :
    (Region.wanted o (yielded ops a.tmps) = true → o.wp E.P a w (fun a' w' => Sim E (setS sl o.dst p.slot) (setB bl p.blks) (Un U nx) a' w') Q) ∧
    (Region.wanted o (yielded ops a.tmps) = false → Sim E (setS sl o.dst p.slot) (setB bl p.blks) (Un U nx) (a.put o.dst undef) w) := by
  unfold OpDet at h
  split at h
  · rename_i e
    refine ⟨fun _ => ?_, fun hw => by simp [Region.wanted, e] at hw⟩
    refine Oper.wp_mono (fun a' w' hn => ?_) (op_any hsub c (lits := []) (fun x hx => by cases hx) h.1.all)
    obtain ⟨q, hq, hs, _⟩ := hn
    rw [← hq]; exact hs
  · rename_i g e
    obtain ⟨lits, cc, hl, hc, p0, h1, hgp⟩ := h
    obtain ⟨g1, g2, g3, g4, g5⟩ := gPatch_spec hgp
    subst g2
    obtain ⟨hw1, hw2⟩ := guard_spec c.sim hl hc
    refine ⟨fun hw => ?_, fun hw => ?_⟩
    · have hcc := hw1.1 hw
      refine Oper.wp_mono (fun a' w' hn => ?_) (op_any hsub c (lits := lits) (by rw [hw2]; exact hcc) (h1 hcc).all)
      obtain ⟨q, rfl, ⟨ψ', hs⟩, _⟩ := hn
      rw [g1] at hs
      rw [setB_nil] at hs ⊢
      refine ⟨ψ', ?_⟩
      cases hd : o.dst with
      | none => rw [hd] at hs; exact hs
      | some d =>
        rw [hd] at hs g3
        have hne := litOnO_spec g3 d rfl
        refine hs.reslot (fun v hv => ⟨fun _ => hv, fun hn => (hn ?_).elim⟩) (fun m hm => hm) (fun l l' u e => ?_)
        · refine (cond_spec hs ?_).2 hcc
          rw [condOf_congr (sl := sl) (fun x hx => ?_), hc]
          simp [setS, hne x hx]
        · injection e with _ e
          exact g4 _ _ e
    · have hcc : ¬ litsHold a.tmps lits := by
        rw [hw2]
        intro hh
        rw [hw1.2 hh] at hw; cases hw
      rw [setB_nil]
      refine ⟨ψ, c.sim.pure (Un.old (U := U) (nx := nx)) (fun m hm => ?_) (fun l l' u e => ?_) c.hmen c.hds ?_⟩
      · have hb := g5 m hm
        obtain ⟨k, hk⟩ := Option.isSome_iff_exists.1 hb
        exact .inl (c.sim.name_lt (hsub _ _ hk))
      · injection e with _ e
        exact g4 _ _ e
      · have hlit : litsHold (a.put o.dst undef).tmps lits ↔ litsHold a.tmps lits := by
          have hx : ∀ x ∈ lits, (a.put o.dst undef).tmps.getD x.1 undef = a.tmps.getD x.1 undef := by
            intro x hx
            rw [put_getD]
            cases hd : o.dst with
            | none => rfl
            | some d =>
              rw [hd] at g3
              simp [litOnO_spec g3 d rfl x hx]
          constructor
          · intro hh x hm; rw [← hx x hm]; exact hh x hm
          · intro hh x hm; rw [hx x hm]; exact hh x hm
        exact ⟨fun hh => (hcc (hlit.1 hh)).elim, fun _ => rfl⟩
theorem un_next (n : Nat) : Un (fun m => m < n) n = fun m => m < n + 8 := by
  funext m
  apply propext
  unfold Un
  constructor
  · rintro (h | h) <;> omega
  · intro h
    by_cases hm : m < n
    · exact .inl hm
    · exact .inr ⟨by omega, by omega⟩
theorem okput {st : St} {p : Patch} {a' : Act} {w' : World} (h : Sim E (setS (lookS st.slots) dst p.slot) (setB (lookB st.blks) p.blks) (Un (fun m => m < st.next) st.next) a' w') : St.OK E (st.put dst p) a' w' := by
  unfold St.OK
  rw [lookS_put, show (st.put dst p).blks = p.blks ++ st.blks from rfl, lookB_append, show (st.put dst p).next = st.next + 8 from rfl, ← un_next]
  exact h
structure Glob (E : Env) (ti : TypeId → Option TI) : Prop where
  good : E.Good
  hti : ∀ t i, ti t = some i → tiOf E.P t = some i
theorem mkCtx (g : Glob E ti) {st : St} {ψ : Nat → Value} (hs : SimP E ψ (lookS st.slots) (lookB st.blks) (fun m => m < st.next) a w) (hl : leans E.n dst st.slots = false) : Ctx E ti ψ (lookS st.slots) (lookB st.blks) (fun m => m < st.next) st.next a w dst := by
  have hd : ∀ d, dst = some d → d + 1 ≤ E.n ∧ mentions d st.slots = false := by
    intro d e
    subst e
    unfold leans at hl
    simp only at hl
    split at hl
    · rename_i h; exact ⟨Nat.le_of_ble_eq_true h, hl⟩
    · cases hl
  exact ⟨fun m h1 h2 h3 => by omega, g.good, g.hti, hs, fun d e i l s' h x hx => mentions_spec (hd d e).2 i l s' h x hx, fun d e => (hd d e).1⟩
/-- A REGION THAT KEEPS THE TEXT'S ORDER. -/
theorem exOps_wp (g : Glob E ti) {ops : Array Oper} {K : St → T} {Q : Exit → Act → World → Prop} (hQ : ∀ st a w, St.OK E st a w → (K st).Holds E rvs QR QD → Q .normal a w) : ∀ (l : List Oper) (st : St) (a : Act) (w : World),
    St.OK E st a w → (exOps E.n ti E.gt ops l st K).Holds E rvs QR QD → wpList E.P ops Q l a w
  | [], st, a, w, hs, h => hQ st a w hs h
  | o :: r, st, a, w, ⟨ψ, hs⟩, h => by
    unfold exOps at h
    split at h
    · exact h.elim
    · rename_i hl
      have c := mkCtx g hs hl
      unfold wpList
      cases hg : o.guard with
      | none =>
        have hw : Region.wanted o (yielded ops a.tmps) = true := by simp [Region.wanted, hg]
        rw [if_pos hw]
        left
        unfold exOp at h
        rw [hg] at h
        refine Oper.wp_mono (fun a' w' hn => ?_) (op_any (fun _ _ h => h) c (lits := []) (fun x hx => by cases hx) (ofPT_all h))
        obtain ⟨p, hp, hs', _⟩ := hn
        exact exOps_wp g hQ r _ a' w' (okput hs') hp
      | some gg =>
        obtain ⟨p, hp1, hp2⟩ := exOp_det (by rw [hg]; rfl) h
        obtain ⟨s1, s2⟩ := opDet_sound (Q := Q) (fun _ _ h => h) c hp1
        by_cases hw : Region.wanted o (yielded ops a.tmps) = true
        · rw [if_pos hw]
          left
          exact Oper.wp_mono (fun a' w' hn => exOps_wp g hQ r _ a' w' (okput hn) hp2) (s1 hw)
        · rw [if_neg hw]
          exact exOps_wp g hQ r _ _ w (okput (s2 (by simpa using hw))) hp2
theorem clear_spec : ∀ (l : List Oper) (s : List (Nat × Slot)) (i : Nat), lookS (clearG l s) i = lookS s i ∨ lookS (clearG l s) i = .unit
  | [], s, i => .inl rfl
  | o :: r, s, i => by
    unfold clearG
    split
    · rename_i d hg hd
      rcases clear_spec r ((d, .unit) :: s) i with h | h
      · rw [h]
        rw [lookS_cons]
        split
        · exact .inr rfl
        · exact .inl rfl
      · exact .inr h
    · exact clear_spec r s i
theorem ok_clear {st : St} (l : List Oper) (h : St.OK E st a w) : St.OK E (st.clear l) a w := by
  obtain ⟨ψ, h⟩ := h
  refine ⟨ψ, h.size, h.defers, h.below, fun i => ?_, h.blks, h.apart, h.names, fun i m hm => ?_, h.brefs, fun i l' l'' s' e => ?_⟩
  · rcases clear_spec l st.slots i with e | e
    · show SlotRep _ _ _ _ _ (lookS (clearG l st.slots) i) _
      rw [e]; exact h.slots i
    · show SlotRep _ _ _ _ _ (lookS (clearG l st.slots) i) _
      rw [e]; trivial
  · rcases clear_spec l st.slots i with e | e
    · exact h.refs i m (by rw [← e]; exact hm)
    · rw [show lookS (st.clear l).slots i = .unit from e] at hm; cases hm
  · rcases clear_spec l st.slots i with e' | e'
    · exact h.gg i l' l'' s' (by rw [← e']; exact e)
    · rw [show lookS (st.clear l).slots i = .unit from e'] at e; cases e
theorem region_wp (g : Glob E ti) {id : Nat} {ops : Array Oper} {K : St → T} {Q : Exit → Act → World → Prop} (hQ : ∀ st a w, St.OK E st a w → (K st).Holds E rvs QR QD → Q .normal a w) {st : St} (hs : St.OK E st a w)
    (h : (exOps E.n ti E.gt ops ops.toList st fun st' => K (st'.clear ops.toList)).Holds E rvs QR QD) : (Code.region id ops false).wp E.P Q a w :=
  wp_region_list (exOps_wp g (K := fun st' => K (st'.clear ops.toList)) (fun st a w hs h => hQ _ a w (ok_clear _ hs) h) _ st a w hs h)
end
end Go.Eng
