/- The engine, part 14: any operation; guards. Conditions: none. -/
import Derived.Test.YtkiolflkkbfaiaaDoorEngM
set_option linter.unusedVariables false
set_option linter.unusedSimpArgs false
namespace Go.Eng
open Go.RowKit
section
variable {E : Env} {ti : TypeId → Option TI} {ψ ψ' : Nat → Value} {sl : Nat → Slot} {bl bl' bl0 : Blks} {U : Nat → Prop} {nx : Nat} {a : Act} {w w' : World} {dst : Option Nat} {o : Oper} {R : Patch → Prop} {Q : Exit → Act → World → Prop}

theorem const_rep {ok : Nat → Prop} {tm : Array Value} (v : Value) : SlotRep w ok ψ bl tm (constSlot v) v := by
  unfold constSlot
  split
  · exact Rep.int _ _
  · exact Rep.bool _
  · split
    · rename_i s h
      exact Rep.str _ (Nat.le_of_ble_eq_true h)
    · trivial
  · rfl
  · trivial
theorem const_refs (v : Value) : refsS (constSlot v) = [] ∧ ∀ l s, constSlot v ≠ .gval l s := by
  unfold constSlot
  split
  · exact ⟨rfl, by simp⟩
  · exact ⟨rfl, by simp⟩
  · split <;> exact ⟨rfl, by simp⟩
  · exact ⟨rfl, by simp⟩
  · exact ⟨rfl, by simp⟩
theorem ev_rep (h : SimP E ψ sl bl U a w) (hg : E.Good) (x : Operand) : SlotRep w (okS E bl ψ w) ψ bl a.tmps (evOp E.gt sl x) (a.eval x) := by
  cases x with
  | tmp t => exact h.slots t
  | const v => exact const_rep v
  | global g =>
    show SlotRep _ _ _ _ _ (match E.gt g with | some cs => Slot.row cs 0 | none => Slot.unit) _
    cases hgt : E.gt g with
    | none => trivial
    | some cs =>
      obtain ⟨h1, h2, h3⟩ := h.glob hg g cs hgt
      exact ⟨⟨g, 0, none⟩, by simp [Act.eval, Addr.add], h1, h2, fun j d hj => by rw [add_plain, Nat.zero_add]; exact h3 j d hj⟩
  | func f =>
    exact Rep.fn f [] #[] (fun _ => ⟨0, 0, none⟩) (fun _ _ => undef) rfl (by simp) (fun i hi => by simp at hi) (fun i r j d hi => by simp at hi) (fun i r j d hi => by simp at hi)
theorem ev_refs (h : SimP E ψ sl bl U a w) (x : Operand) : ∀ m ∈ refsS (evOp E.gt sl x), U m := by
  intro m hm
  cases x with
  | tmp t => exact h.refs t m hm
  | const v => rw [evOp, (const_refs v).1] at hm; cases hm
  | global g =>
    unfold evOp at hm
    cases hgt : E.gt g with
    | none => simp [hgt, refsS] at hm
    | some cs => simp [hgt, refsS] at hm
  | func f => simp [evOp, refsS, refsR] at hm
theorem ev_gg (h : SimP E ψ sl bl U a w) (x : Operand) : ∀ l l' s', evOp E.gt sl x ≠ .gval l (.gval l' s') := by
  intro l l' s' e
  cases x with
  | tmp t => exact h.gg t l l' s' e
  | const v => exact (const_refs v).2 _ _ e
  | global g =>
    unfold evOp at e
    cases hgt : E.gt g <;> simp [hgt] at e
  | func f => simp [evOp] at e
theorem litB_spec {tm : Array Value} {x : Nat × Bool} : ∀ {l : List (Nat × Bool)}, litB x l = true → litsHold tm l → tm.getD x.1 undef = .bool x.2
  | [], h, _ => by cases h
  | y :: r, h, hl => by
    unfold litB at h
    split at h
    · rename_i h1 h2 h3
      have := hl y (by simp)
      rw [Nat.eq_of_beq_eq_true h1, this, h2, h3]
    · rename_i h1 h2 h3
      have := hl y (by simp)
      rw [Nat.eq_of_beq_eq_true h1, this, h2, h3]
    · exact litB_spec h (fun z hz => hl z (List.mem_cons_of_mem _ hz))
theorem subL_spec {tm : Array Value} : ∀ {l m : List (Nat × Bool)}, subL l m = true → litsHold tm m → litsHold tm l
  | [], _, _, _ => fun x hx => by cases hx
  | x :: r, m, h, hm => by
    unfold subL at h
    split at h
    · rename_i h1
      intro y hy
      rcases List.mem_cons.1 hy with rfl | hy
      · exact litB_spec h1 hm
      · exact subL_spec h hm y hy
    · cases h
theorem evG_rep (h : SimP E ψ sl bl U a w) (hg : E.Good) {lits : List (Nat × Bool)} (hl : litsHold a.tmps lits) (x : Operand) :
    SlotRep w (okS E bl ψ w) ψ bl a.tmps (evG E.gt sl lits x) (a.eval x) ∧ (∀ m ∈ refsS (evG E.gt sl lits x), U m) ∧ ∀ l s, evG E.gt sl lits x ≠ .gval l s := by
  have h1 := ev_rep h hg x
  have h2 := ev_refs h x
  have h3 := ev_gg h x
  unfold evG
  split
  · rename_i l s e
    rw [e] at h1 h2
    split
    · rename_i hs
      exact ⟨h1.1 (subL_spec hs hl), h2, fun l' s' e' => h3 l l' s' (by rw [e, e'])⟩
    · exact ⟨trivial, fun m hm => (by cases hm), by simp⟩
  · rename_i hne
    exact ⟨h1, h2, fun l s e => hne l s e⟩
theorem list_eval {xs : Array Operand} {ev : Operand → Slot} {ok : Nat → Prop} {tm : Array Value} (hev : ∀ x, SlotRep w ok ψ bl tm (ev x) (a.eval x)) : ∀ (i : Nat) (s : Slot) (v : Value), (xs.toList.map ev)[i]? = some s → (xs.toList.map a.eval)[i]? = some v → SlotRep w ok ψ bl tm s v := by
  intro i s v h1 h2
  rw [List.getElem?_map] at h1 h2
  obtain ⟨x, hx, rfl⟩ := Option.map_eq_some_iff.1 h1
  rw [hx] at h2
  simp at h2
  rw [← h2]
  exact hev x
theorem opt_rep {x : Option Operand} {ev : Operand → Slot} {ok : Nat → Prop} {tm : Array Value} (hev : ∀ x, SlotRep w ok ψ bl tm (ev x) (a.eval x)) : OptRep w ok ψ bl tm (x.map ev) (x.map a.eval) := by
  cases x with
  | none => trivial
  | some x => exact hev x
theorem arr_one {α : Type} {x : α} {a : Array α} (h : a.toList = [x]) : a = #[x] := by rw [← Array.toList_inj]; exact h
theorem arr_two {α : Type} {x y : α} {a : Array α} (h : a.toList = [x, y]) : a = #[x, y] := by rw [← Array.toList_inj]; exact h
theorem map_one {f : Operand → Slot} {l : List Operand} {s : Slot} (h : l.map f = [s]) : ∃ x, l = [x] ∧ f x = s := by
  match l, h with
  | [x], h => exact ⟨x, rfl, by simpa using h⟩
theorem map_two {f : Operand → Slot} {l : List Operand} {s u : Slot} (h : l.map f = [s, u]) : ∃ x y, l = [x, y] ∧ f x = s ∧ f y = u := by
  match l, h with
  | [x, y], h => exact ⟨x, y, rfl, by simpa using h⟩
/-- ANY OPERATION. -/
theorem op_any (hsub : Sub bl0 bl) (c : Ctx E ti ψ sl bl U nx a w o.dst) {lits : List (Nat × Bool)} (hl : litsHold a.tmps lits) (h : (stepPT ti E.gt sl bl0 nx lits o).All E.P E.gt R) : o.wp E.P a w (Next E sl bl U nx o.dst R) Q := by
  have hE := c.hti
  have hev := fun x => (evG_rep c.sim c.good hl x).1
  have hrf := fun x => (evG_rep c.sim c.good hl x).2.1
  have hng := fun x => (evG_rep c.sim c.good hl x).2.2
  unfold stepPT at h
  split at h
  · rename_i x y z ho
    unfold pickPT at h
    split at h
    · rename_i t
      refine op_pick ho c (hev _) (fun e => (evG_rep c.sim c.good ?_ y).1) (fun e => (evG_rep c.sim c.good ?_ z).1) h
      · intro q hq
        rcases List.mem_cons.1 hq with rfl | hq
        · exact e
        · exact hl q hq
      · intro q hq
        rcases List.mem_cons.1 hq with rfl | hq
        · exact e
        · exact hl q hq
    · exact op_pick ho c (hev _) (fun _ => hev _) (fun _ => hev _) h
  · unfold opPT at h
    split at h
    · rename_i x ho
      split at h
      · exact h.elim
      · exact op_move ho c (hev x) (hrf x) (hng x) h
    · rename_i x ho
      exact op_assign hE ho c (hev x) (hrf x) h
    · rename_i x y z ho
      exact op_pick ho c (hev _) (fun _ => hev _) (fun _ => hev _) h
    · rename_i t ho
      exact op_alloc hE ho c h
    · rename_i t x ho
      exact op_box hE hsub ho c (hev x) (hrf x) h
    · rename_i t ps ho
      exact op_build hE hsub ho c (fun x _ => hev x.2) h
    · rename_i t n ps ho
      exact op_buildSlice hE hsub ho c (fun x _ => hev x.2) h
    · rename_i t x ho
      exact op_load hE hsub ho c (hev x) h
    · rename_i t x y ho
      exact op_store hE hsub ho c (hev x) (hev y) (hrf y) h
    · rename_i x ho
      exact op_nilCheck hsub ho c (hev x) (hrf x) h
    · rename_i op t x y u ho
      exact op_bin hE ho c (hev x) (hev y) h
    · rename_i op t x ho
      exact op_un ho c (hev x) h
    · rename_i s d x ho
      exact op_convert hE ho c (hev x) h
    · rename_i t l cc ho
      exact op_makeSlice hE ho c (hev l) (hev cc) h
    · rename_i t x lo hi mx ho
      exact op_slice hE hsub ho c (hev x) (opt_rep hev) (opt_rep hev) (opt_rep hev) h
    · rename_i s x f ho
      exact op_fieldAddr hE hsub ho c (hev x) (hrf x) h
    · rename_i s x f ho
      exact op_field hE ho c (hev x) h
    · rename_i t x i ho
      exact op_indexAddr hE hsub ho c (hev x) (hev i) (hrf x) h
    · rename_i t x i ho
      exact op_index hE ho c (hev x) (hev i) h
    · rename_i x i ho
      exact op_extract ho c (hev x) (hrf x) h
    · rename_i f first captured ho
      split at h
      · rename_i h0
        exact op_makeFunc hsub ho h0 c (by simp) (list_eval hev) h
      · exact h.elim
    · rename_i cl ho
      split at h
      · rename_i b hc
        unfold ptBuiltin at h
        split at h
        · rename_i t X ht hx
          obtain ⟨x, h1, h2⟩ := map_one hx
          subst h2
          exact op_len hE hsub ho hc (arr_one ht) (arr_one h1) c (hev x) h
        · rename_i t u X Y ht hx
          split at h
          · rename_i htu
            obtain ⟨x, y, h1, h2, h3⟩ := map_two hx
            subst h2 h3
            have htu := Nat.eq_of_beq_eq_true htu
            subst htu
            exact op_append hE hsub ho hc (arr_two ht) (arr_two h1) c (hev x) (hev y) h
          · exact h.elim
        · exact op_min false ho hc c (by simp) (by simpa using list_eval hev) h
        · exact op_min true ho hc c (by simp) (by simpa using list_eval hev) h
        · exact h.elim
      · rename_i f hc
        exact op_call hsub ho hc c (hev f) (by simp) (list_eval hev) h
      · exact h.elim
    · exact h.elim
end
end Go.Eng
