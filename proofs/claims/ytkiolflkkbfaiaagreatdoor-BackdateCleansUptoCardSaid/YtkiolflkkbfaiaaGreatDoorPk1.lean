/- Parts of a proof, merged: The engine, part 14: any operation; guards. · The engine, part 15: trees that hold; one operation under its guard. · The engine, part 16: regions that keep the text's order. · The engine, part 17: regions that draw their order, first half: what an operation leans on. · The engine, part 18: regions that draw their order. · The engine, part 19: regions that draw their order, the facts of the text's run. · The engine, part 20: regions that draw their order, the step and the whole. · The engine, part 21: regions that draw their order, whole. · The engine, part 22: code and functions. · The engine, part 23: code and functions. · The engine, part 24: a result of one's own, read as data. · The engine, part 25: a function's contract from its tree. · The engine, part 26: a state brought to a plain form: live temporaries, names in order. · The engine, part 27: trees and what they compute: rules, node by node. · The engine, part 28: words that printed proofs use. · The engine, part 29: what an argument reads as, as plain data. · The engine, part 30: from a contract to what a law's row asks. · The engine, part 31: arrays at an index, two functions of the model's own, loops of rules. · The plain types, and how a value of each lies in memory. · The types of the program that the functions name. · What each argument reads as. · balance.At: the range over movements. · balance.At: what it computes, in plain Lean, and that it does. Conditions: none. -/
import Derived.Test.YtkiolflkkbfaiaaGreatDoorPk0
import Derived.LoopN
import Derived.OpenShut
import Derived.Carry
import Derived.ProofKit
import Derived.Deep.DeepHandedRow
import Derived.Lib.LaidTab
import Derived.Laws.Externs
import Derived.Test.YtkiolflkkbfaiaaGreatDoorProg
import Derived.KernelRfl
import Derived.RangeFuncNested
import Derived.RangeFuncBound
import Derived.RangeFuncCalls
import Derived.RangeFuncLeaves
import Derived.Shelf.Abstract
import Derived.Shelf.RegionOpen
import Derived.WalkKit
import Derived.OwnWalkIn
import Derived.TacticsInMore
import Derived.LoopNIn
import Derived.LoopIn
import Derived.Laws.CopyRow
set_option linter.unusedVariables false
set_option linter.unusedSimpArgs false
namespace Go.Eng
open Go.RowKit
section
variable {E : Env} {ti : TypeId → Option TI} {ψ ψ' : Nat → Value} {sl : Nat → Slot} {bl bl' bl0 : Blks} {U : Nat → Prop} {nx : Nat} {a : Act} {w w' : World} {dst : Option Nat} {o : Oper} {R : Patch → Prop} {Q : Exit → Act → World → Prop}
theorem const_rep {ok : Nat → Prop} {tm : Array Value} (v : Value) : SlotRep w ok ψ bl tm (constSlot v) v := by
  unfold constSlot
  split
  · exact Rep.int _ _
  · exact Rep.bool _
  · split
    · rename_i s h
      exact Rep.str _ (Nat.le_of_ble_eq_true h)
    · trivial
  · rfl
  · trivial
theorem const_refs (v : Value) : refsS (constSlot v) = [] ∧ ∀ l s, constSlot v ≠ .gval l s := by
  unfold constSlot
  split
  · exact ⟨rfl, by simp⟩
  · exact ⟨rfl, by simp⟩
  · split <;> exact ⟨rfl, by simp⟩
  · exact ⟨rfl, by simp⟩
  · exact ⟨rfl, by simp⟩
theorem ev_rep (h : SimP E ψ sl bl U a w) (hg : E.Good) (x : Operand) : SlotRep w (okS E bl ψ w) ψ bl a.tmps (evOp E.gt sl x) (a.eval x) := by
  cases x with
  | tmp t => exact h.slots t
  | const v => exact const_rep v
  | global g =>
    show SlotRep _ _ _ _ _ (match E.gt g with | some cs => Slot.row cs 0 | none => Slot.unit) _
    cases hgt : E.gt g with
    | none => trivial
    | some cs =>
      obtain ⟨h1, h2, h3⟩ := h.glob hg g cs hgt
      exact ⟨⟨g, 0, none⟩, by simp [Act.eval, Addr.add], h1, h2, fun j d hj => by rw [add_plain, Nat.zero_add]; exact h3 j d hj⟩
  | func f =>
    exact Rep.fn f [] #[] (fun _ => ⟨0, 0, none⟩) (fun _ _ => undef) rfl (by simp) (fun i hi => by simp at hi) (fun i r j d hi => by simp at hi) (fun i r j d hi => by simp at hi)
theorem ev_refs (h : SimP E ψ sl bl U a w) (x : Operand) : ∀ m ∈ refsS (evOp E.gt sl x), U m := by
  intro m hm
  cases x with
  | tmp t => exact h.refs t m hm
  | const v => rw [evOp, (const_refs v).1] at hm; cases hm
  | global g =>
    unfold evOp at hm
    cases hgt : E.gt g with
    | none => simp [hgt, refsS] at hm
    | some cs => simp [hgt, refsS] at hm
  | func f => simp [evOp, refsS, refsR] at hm
theorem ev_gg (h : SimP E ψ sl bl U a w) (x : Operand) : ∀ l l' s', evOp E.gt sl x ≠ .gval l (.gval l' s') := by
  intro l l' s' e
  cases x with
  | tmp t => exact h.gg t l l' s' e
  | const v => exact (const_refs v).2 _ _ e
  | global g =>
    unfold evOp at e
    cases hgt : E.gt g <;> simp [hgt] at e
  | func f => simp [evOp] at e
theorem litB_spec {tm : Array Value} {x : Nat × Bool} : ∀ {l : List (Nat × Bool)}, litB x l = true → litsHold tm l → tm.getD x.1 undef = .bool x.2
  | [], h, _ => by cases h
  | y :: r, h, hl => by
    unfold litB at h
    split at h
    · rename_i h1 h2 h3
      have := hl y (by simp)
      rw [Nat.eq_of_beq_eq_true h1, this, h2, h3]
    · rename_i h1 h2 h3
      have := hl y (by simp)
      rw [Nat.eq_of_beq_eq_true h1, this, h2, h3]
    · exact litB_spec h (fun z hz => hl z (List.mem_cons_of_mem _ hz))
theorem subL_spec {tm : Array Value} : ∀ {l m : List (Nat × Bool)}, subL l m = true → litsHold tm m → litsHold tm l
  | [], _, _, _ => fun x hx => by cases hx
  | x :: r, m, h, hm => by
    unfold subL at h
    split at h
    · rename_i h1
      intro y hy
      rcases List.mem_cons.1 hy with rfl | hy
      · exact litB_spec h1 hm
      · exact subL_spec h hm y hy
    · cases h
theorem evG_rep (h : SimP E ψ sl bl U a w) (hg : E.Good) {lits : List (Nat × Bool)} (hl : litsHold a.tmps lits) (x : Operand) :
    SlotRep w (okS E bl ψ w) ψ bl a.tmps (evG E.gt sl lits x) (a.eval x) ∧ (∀ m ∈ refsS (evG E.gt sl lits x), U m) ∧ ∀ l s, evG E.gt sl lits x ≠ .gval l s := by
  have h1 := ev_rep h hg x
  have h2 := ev_refs h x
  have h3 := ev_gg h x
  unfold evG
  split
  · rename_i l s e
    rw [e] at h1 h2
    split
    · rename_i hs
      exact ⟨h1.1 (subL_spec hs hl), h2, fun l' s' e' => h3 l l' s' (by rw [e, e'])⟩
    · exact ⟨trivial, fun m hm => (by cases hm), by simp⟩
  · rename_i hne
    exact ⟨h1, h2, fun l s e => hne l s e⟩
theorem list_eval {xs : Array Operand} {ev : Operand → Slot} {ok : Nat → Prop} {tm : Array Value} (hev : ∀ x, SlotRep w ok ψ bl tm (ev x) (a.eval x)) : ∀ (i : Nat) (s : Slot) (v : Value), (xs.toList.map ev)[i]? = some s → (xs.toList.map a.eval)[i]? = some v → SlotRep w ok ψ bl tm s v := by
  intro i s v h1 h2
  rw [List.getElem?_map] at h1 h2
  obtain ⟨x, hx, rfl⟩ := Option.map_eq_some_iff.1 h1
  rw [hx] at h2
  simp at h2
  rw [← h2]
  exact hev x
theorem opt_rep {x : Option Operand} {ev : Operand → Slot} {ok : Nat → Prop} {tm : Array Value} (hev : ∀ x, SlotRep w ok ψ bl tm (ev x) (a.eval x)) : OptRep w ok ψ bl tm (x.map ev) (x.map a.eval) := by
  cases x with
  | none => trivial
  | some x => exact hev x
theorem arr_one {α : Type} {x : α} {a : Array α} (h : a.toList = [x]) : a = #[x] := by rw [← Array.toList_inj]; exact h
theorem arr_two {α : Type} {x y : α} {a : Array α} (h : a.toList = [x, y]) : a = #[x, y] := by rw [← Array.toList_inj]; exact h
theorem map_one {f : Operand → Slot} {l : List Operand} {s : Slot} (h : l.map f = [s]) : ∃ x, l = [x] ∧ f x = s := by
  match l, h with
  | [x], h => exact ⟨x, rfl, by simpa using h⟩
theorem map_two {f : Operand → Slot} {l : List Operand} {s u : Slot} (h : l.map f = [s, u]) : ∃ x y, l = [x, y] ∧ f x = s ∧ f y = u := by
  match l, h with
  | [x, y], h => exact ⟨x, y, rfl, by simpa using h⟩
theorem op_any (hsub : Sub bl0 bl) (c : Ctx E ti ψ sl bl U nx a w o.dst) {lits : List (Nat × Bool)} (hl : litsHold a.tmps lits) (h : (stepPT ti E.gt sl bl0 nx lits o).All E.P E.gt R) : o.wp E.P a w (Next E sl bl U nx o.dst R) Q := by
  have hE := c.hti
  have hev := fun x => (evG_rep c.sim c.good hl x).1
  have hrf := fun x => (evG_rep c.sim c.good hl x).2.1
  have hng := fun x => (evG_rep c.sim c.good hl x).2.2
  unfold stepPT at h
  split at h
  · rename_i x y z ho
    unfold pickPT at h
    split at h
    · rename_i t
      refine op_pick ho c (hev _) (fun e => (evG_rep c.sim c.good ?_ y).1) (fun e => (evG_rep c.sim c.good ?_ z).1) h
      · intro q hq
        rcases List.mem_cons.1 hq with rfl | hq
        · exact e
        · exact hl q hq
      · intro q hq
        rcases List.mem_cons.1 hq with rfl | hq
        · exact e
        · exact hl q hq
    · exact op_pick ho c (hev _) (fun _ => hev _) (fun _ => hev _) h
  · unfold opPT at h
    split at h
    · rename_i x ho
      split at h
      · exact h.elim
      · exact op_move ho c (hev x) (hrf x) (hng x) h
    · rename_i x ho
      exact op_assign hE ho c (hev x) (hrf x) h
    · rename_i x y z ho
      exact op_pick ho c (hev _) (fun _ => hev _) (fun _ => hev _) h
    · rename_i t ho
      exact op_alloc hE ho c h
    · rename_i t x ho
      exact op_box hE hsub ho c (hev x) (hrf x) h
    · rename_i t ps ho
      exact op_build hE hsub ho c (fun x _ => hev x.2) h
    · rename_i t n ps ho
      exact op_buildSlice hE hsub ho c (fun x _ => hev x.2) h
    · rename_i t x ho
      exact op_load hE hsub ho c (hev x) h
    · rename_i t x y ho
      exact op_store hE hsub ho c (hev x) (hev y) (hrf y) h
    · rename_i x ho
      exact op_nilCheck hsub ho c (hev x) (hrf x) h
    · rename_i op t x y u ho
      exact op_bin hE ho c (hev x) (hev y) h
    · rename_i op t x ho
      exact op_un ho c (hev x) h
    · rename_i s d x ho
      split at h
      · exact op_convert_bytes hE hsub ho c (hev x) h
      · exact op_convert hE ho c (hev x) h
    · rename_i t l cc ho
      exact op_makeSlice hE ho c (hev l) (hev cc) h
    · rename_i t x lo hi mx ho
      exact op_slice hE hsub ho c (hev x) (opt_rep hev) (opt_rep hev) (opt_rep hev) h
    · rename_i s x f ho
      exact op_fieldAddr hE hsub ho c (hev x) (hrf x) h
    · rename_i s x f ho
      exact op_field hE ho c (hev x) h
    · rename_i t x i ho
      exact op_indexAddr hE hsub ho c (hev x) (hev i) (hrf x) h
    · rename_i t x i ho
      exact op_index hE ho c (hev x) (hev i) h
    · rename_i x i ho
      exact op_extract ho c (hev x) (hrf x) h
    · rename_i f first captured ho
      split at h
      · rename_i h0
        exact op_makeFunc hsub ho h0 c (by simp) (list_eval hev) h
      · exact h.elim
    · rename_i cl ho
      split at h
      · rename_i b hc
        unfold ptBuiltin at h
        split at h
        · rename_i t X ht hx
          obtain ⟨x, h1, h2⟩ := map_one hx
          subst h2
          exact op_len hE hsub ho hc (arr_one ht) (arr_one h1) c (hev x) h
        · rename_i t u X Y ht hx
          split at h
          · rename_i htu
            obtain ⟨x, y, h1, h2, h3⟩ := map_two hx
            subst h2 h3
            have htu := Nat.eq_of_beq_eq_true htu
            subst htu
            exact op_append hE hsub ho hc (arr_two ht) (arr_two h1) c (hev x) (hev y) h
          · exact h.elim
        · exact op_min false ho hc c (by simp) (by simpa using list_eval hev) h
        · exact op_min true ho hc c (by simp) (by simpa using list_eval hev) h
        · exact h.elim
      · rename_i f hc
        exact op_call hsub ho hc c (hev f) (by simp) (list_eval hev) h
      · exact h.elim
    · exact h.elim
end
end Go.Eng
set_option linter.unusedVariables false
set_option linter.unusedSimpArgs false
namespace Go.Eng
open Go.RowKit
def St.OK (E : Env) (st : St) (a : Act) (w : World) : Prop := Sim E (lookS st.slots) (lookB st.blks) (fun m => m < st.next) a w
def RetOK (E : Env) (rvs : Array ResultVar) (QR : List RR → Prop) (a : Act) (w : World) : Prop :=
  a.defers = [] ∧ Below E.w0.heap.size E.w0 w ∧ ∃ rr v, QR rr ∧ (results { (default : Func) with results := rvs } a.tmps).run E.P w = .ok v w ∧
    ∃ okr : Nat → Prop, (∀ b, okr b → (E.ok0 b ∨ E.w0.heap.size ≤ b) ∧ b < w.heap.size) ∧ RetRep E.P E.w0.heap.size w okr rr v
def Post (E : Env) (rvs : Array ResultVar) (QR : List RR → Prop) (K : Ex → St → Prop) : Exit → Act → World → Prop
  | .normal, a, w => ∃ st, St.OK E st a w ∧ K .normal st
  | .exit id, a, w => ∃ st, St.OK E st a w ∧ K (.exit id) st
  | .ret, a, w => RetOK E rvs QR a w
  | _, _, _ => False
def T.Holds (E : Env) (rvs : Array ResultVar) (QR : List RR → Prop) (QD : Ex → St → Prop) : T → Prop
  | .fail => False
  | .ret rs => QR rs
  | .done e st => QD e st
  | .ite c t e => (c = true → t.Holds E rvs QR QD) ∧ (c = false → e.Holds E rvs QR QD)
  | .need c p k => (c = true → p) ∧ k.Holds E rvs QR QD
  | .opt c o k => ∃ x, (c = true → o = some x) ∧ (k x).Holds E rvs QR QD
  | .call c f args k => ∃ rs, (c = true → Spec E.P E.gt f args rs) ∧ (k rs).Holds E rvs QR QD
  | .anyNil rows k => ∀ b, (b = true → rows = []) → (k b).Holds E rvs QR QD
  | .loop body st k => ∀ a w, St.OK E st a w → (Code.loop body).wp E.P (Post E rvs QR fun e st' => (k e st').Holds E rvs QR QD) a w
  | .cut b st k => ∀ a w, St.OK E st a w → b.wp E.P (Post E rvs QR fun e st' => (k e st').Holds E rvs QR QD) a w
section
variable {E : Env} {ti : TypeId → Option TI} {ψ ψ' : Nat → Value} {sl : Nat → Slot} {bl bl' bl0 : Blks} {U : Nat → Prop} {nx : Nat} {a : Act} {w w' : World} {dst : Option Nat} {o : Oper} {R : Patch → Prop} {Q : Exit → Act → World → Prop}
variable {rvs : Array ResultVar} {QR : List RR → Prop} {QD : Ex → St → Prop}
def PT.Det (P : Program) (gt : Nat → Option (List D)) : PT → Patch → Prop
  | .fail, _ => False
  | .ok p, q => q = p
  | .need h k, q => h ∧ PT.Det P gt k q
  | .opt o k, q => ∃ x, o = some x ∧ PT.Det P gt (k x) q
  | .call f as_ k, q => ∃ rs, Spec P gt f as_ rs ∧ PT.Det P gt (k rs) q
  | .anyNil _ _, _ => False
theorem PT.Det.all {P : Program} {gt : Nat → Option (List D)} : ∀ {pt : PT} {p : Patch}, pt.Det P gt p → pt.All P gt (fun q => q = p)
  | .fail, _, h => h
  | .ok p, q, h => h.symm
  | .need h k, q, h' => ⟨h'.1, h'.2.all⟩
  | .opt o k, q, ⟨x, h1, h2⟩ => ⟨x, h1, h2.all⟩
  | .call f as_ k, q, ⟨x, h1, h2⟩ => ⟨x, h1, h2.all⟩
  | .anyNil _ _, _, h => h.elim
theorem ofPT_all {k : Patch → T} : ∀ {pt : PT}, (T.ofPT pt k).Holds E rvs QR QD → pt.All E.P E.gt (fun p => (k p).Holds E rvs QR QD)
  | .fail, h => h
  | .ok p, h => h
  | .need h k', h' => ⟨h'.1 rfl, ofPT_all h'.2⟩
  | .opt o k', ⟨x, h1, h2⟩ => ⟨x, h1 rfl, ofPT_all h2⟩
  | .call f as_ k', ⟨x, h1, h2⟩ => ⟨x, h1 rfl, ofPT_all h2⟩
  | .anyNil rows k', h => fun b hb => ofPT_all (h b hb)
theorem ofPTg_det {k : Patch → T} {c : Bool} : ∀ {pt : PT}, (T.ofPTg c pt k).Holds E rvs QR QD → ∃ p, (c = true → pt.Det E.P E.gt p) ∧ (k p).Holds E rvs QR QD
  | .fail, h => h.elim
  | .ok p, h => ⟨p, fun _ => rfl, h⟩
  | .need h k', h' => by
    obtain ⟨p, h1, h2⟩ := ofPTg_det h'.2
    exact ⟨p, fun e => ⟨h'.1 e, h1 e⟩, h2⟩
  | .opt o k', ⟨x, hx, h'⟩ => by
    obtain ⟨p, h1, h2⟩ := ofPTg_det h'
    exact ⟨p, fun e => ⟨x, hx e, h1 e⟩, h2⟩
  | .call f as_ k', ⟨x, hx, h'⟩ => by
    obtain ⟨p, h1, h2⟩ := ofPTg_det h'
    exact ⟨p, fun e => ⟨x, hx e, h1 e⟩, h2⟩
  | .anyNil rows k', h => h.elim
def OpDet (E : Env) (ti : TypeId → Option TI) (ops : Array Oper) (sl : Nat → Slot) (bl : Blks) (nx : Nat) (o : Oper) (p : Patch) : Prop :=
  match o.guard with
  | none => (stepPT ti E.gt sl bl nx [] o).Det E.P E.gt p ∧ p.slot.isG = false
  | some _ => ∃ lits c, guardLits ops sl o = some lits ∧ condOf sl lits = some c ∧ ∃ p0, (c = true → (stepPT ti E.gt sl bl nx lits o).Det E.P E.gt p0) ∧ gPatch o.dst bl lits p0 = some p
theorem exOp_det {ops : Array Oper} {st : St} {bl : Blks} {k : Patch → T} (hg : o.guard.isSome = true) (h : (exOp ti E.gt ops o st bl k).Holds E rvs QR QD) :
    ∃ p, OpDet E ti ops (lookS st.slots) bl st.next o p ∧ (k p).Holds E rvs QR QD := by
  unfold exOp at h
  unfold OpDet
  split at h
  · rename_i e; rw [e] at hg; cases hg
  · rename_i g e
    split at h
    · exact h.elim
    · rename_i lits hl
      split at h
      · exact h.elim
      · rename_i c hc
        obtain ⟨p0, h1, h2⟩ := ofPTg_det h
        split at h2
        · rename_i q hq
          refine ⟨q, ?_, h2⟩
          rw [e]
          exact ⟨lits, c, hl, hc, p0, h1, hq⟩
        · exact h2.elim
theorem exOpD_det {ops : Array Oper} {st : St} {bl : Blks} {k : Patch → T} (h : (exOpD ti E.gt ops o st bl k).Holds E rvs QR QD) :
    ∃ p, OpDet E ti ops (lookS st.slots) bl st.next o p ∧ (k p).Holds E rvs QR QD := by
  unfold exOpD at h
  split at h
  · rename_i e
    obtain ⟨p, h1, h2⟩ := ofPTg_det h
    split at h2
    · exact h2.elim
    · rename_i hp
      refine ⟨p, ?_, h2⟩
      unfold OpDet
      rw [e]
      exact ⟨h1 rfl, hp⟩
  · rename_i g e
    exact exOp_det (by rw [e]; rfl) h
theorem cond_spec (h : SimP E ψ sl bl U a w) : ∀ {lits : List (Nat × Bool)} {c : Bool}, condOf sl lits = some c → (litsHold a.tmps lits ↔ c = true)
  | [], c, h' => by
    simp [condOf] at h'
    subst h'
    exact ⟨fun _ => rfl, fun _ x hx => by cases hx⟩
  | (t, b) :: r, c, h' => by
    unfold condOf at h'
    have cons : litsHold a.tmps ((t, b) :: r) ↔ a.tmps.getD t undef = .bool b ∧ litsHold a.tmps r := by
      constructor
      · exact fun hh => ⟨hh (t, b) (by simp), fun x hx => hh x (List.mem_cons_of_mem _ hx)⟩
      · rintro ⟨h1, h2⟩ x hx
        rcases List.mem_cons.1 hx with rfl | hx
        · exact h1
        · exact h2 x hx
    have val : ∀ x c', condOf sl r = some c' → (litsHold a.tmps r → a.tmps.getD t undef = .bool x) → (litsHold a.tmps ((t, b) :: r) ↔ ((x == b) && c') = true) := by
      intro x c' hc hx
      have ih := cond_spec h hc
      rw [cons, Bool.and_eq_true, ih]
      constructor
      · rintro ⟨h1, h2⟩
        have := hx (ih.2 h2)
        rw [h1] at this
        injection this with this
        exact ⟨by rw [this]; simp, h2⟩
      · rintro ⟨h1, h2⟩
        refine ⟨?_, h2⟩
        rw [hx (ih.2 h2), eq_of_beq h1]
    split at h'
    · cases h'
    · rename_i c' hc
      split at h'
      · rename_i x hs
        injection h' with h'
        subst h'
        refine val x c' hc (fun _ => ?_)
        have := h.slots t
        rw [hs] at this
        exact Rep.bool_inv (w := w) this
      · rename_i l x hs
        split at h'
        · rename_i hsub
          injection h' with h'
          subst h'
          refine val x c' hc (fun hr => ?_)
          have := h.slots t
          rw [hs] at this
          exact Rep.bool_inv (w := w) (this.1 (subL_spec hsub hr))
        · cases h'
      · cases h'
theorem yielded_iff {ops : Array Oper} {j t : Nat} {b : Bool} (ht : (ops[j]?).bind (·.dst) = some t) : (yielded ops a.tmps j == some b) = true ↔ a.tmps.getD t undef = .bool b := by
  unfold yielded
  rw [ht]
  simp only [Option.bind_some, Array.getD_eq_getD_getElem?]
  cases hv : a.tmps[t]? with
  | none => simp [undef]
  | some v => cases v <;> simp [hv]
theorem guard_spec (h : SimP E ψ sl bl U a w) {ops : Array Oper} {lits : List (Nat × Bool)} {c : Bool} (hl : guardLits ops sl o = some lits) (hc : condOf sl lits = some c) :
    (Region.wanted o (yielded ops a.tmps) = true ↔ c = true) ∧ litsHold a.tmps lits = (c = true) := by
  have hcs := cond_spec h hc
  refine ⟨?_, propext hcs⟩
  rw [← hcs]
  unfold guardLits at hl
  unfold Region.wanted
  split at hl
  · rename_i e
    injection hl with hl
    subst hl
    simp [litsHold, e]
  · rename_i j b e
    split at hl
    · rename_i t ht
      simp only [e]
      rw [yielded_iff ht]
      split at hl
      · rename_i l s hs
        injection hl with hl
        subst hl
        constructor
        · intro hv x hx
          have hsl := h.slots t
          rw [hs] at hsl
          rcases List.mem_cons.1 hx with rfl | hx
          · exact hv
          · refine Classical.byContradiction fun hn => ?_
            have := hsl.2 (fun hh => hn (hh x hx))
            rw [hv] at this
            cases this
        · exact fun hh => hh (t, b) (by simp)
      · injection hl with hl
        subst hl
        simp [litsHold]
    · cases hl
end
end Go.Eng
set_option linter.unusedVariables false
set_option linter.unusedSimpArgs false
namespace Go.Eng
open Go.RowKit
section
variable {E : Env} {ti : TypeId → Option TI} {ψ ψ' : Nat → Value} {sl sl' : Nat → Slot} {bl bl' bl0 : Blks} {U : Nat → Prop} {nx : Nat} {a : Act} {w w' : World} {dst : Option Nat} {o : Oper} {R : Patch → Prop} {Q : Exit → Act → World → Prop}
variable {rvs : Array ResultVar} {QR : List RR → Prop} {QD : Ex → St → Prop}
theorem condOf_congr : ∀ {l : List (Nat × Bool)}, (∀ x ∈ l, sl' x.1 = sl x.1) → condOf sl' l = condOf sl l
  | [], _ => rfl
  | (t, b) :: r, h => by
    unfold condOf
    rw [condOf_congr (fun x hx => h x (List.mem_cons_of_mem _ hx)), h (t, b) (by simp)]
theorem litOnO_spec {l : List (Nat × Bool)} (h : litOnO dst l = false) : ∀ d, dst = some d → ∀ x ∈ l, x.1 ≠ d := by
  intro d hd x hx
  subst hd
  exact litOn_spec h x hx
theorem gPatch_spec {lits : List (Nat × Bool)} {p q : Patch} (h : gPatch dst bl lits p = some q) : p.blks = [] ∧ q = ⟨.gval lits p.slot, []⟩ ∧ litOnO dst lits = false ∧ (∀ l s, p.slot ≠ .gval l s) ∧ ∀ n ∈ refsS p.slot, (bl n).isSome = true := by
  unfold gPatch at h
  split at h
  · rename_i h1 h2 h3 h4
    injection h with h
    exact ⟨h1, h.symm, h2, fun l s e => (by rw [e] at h3; cases h3), allB_mem (p := fun n => (bl n).isSome) h4⟩
  · cases h
theorem setS_at {d : Nat} {s : Slot} : setS sl (some d) s d = s := by simp [setS]
theorem setS_ne {d i : Nat} {s : Slot} (h : i ≠ d) : setS sl (some d) s i = sl i := by simp [setS, h]
theorem lookS_cons (d : Nat) (x : Slot) (s : List (Nat × Slot)) (i : Nat) : lookS ((d, x) :: s) i = if i = d then x else lookS s i := by
  conv => lhs; unfold lookS
  by_cases h : i = d
  · subst h; simp
  · have : Nat.beq i d = false := by rw [Bool.eq_false_iff]; exact fun e => h (Nat.eq_of_beq_eq_true e)
    simp [this, h]
theorem SimP.reslot {s s' : Slot} {d : Nat} (h : SimP E ψ (setS sl (some d) s) bl U a w) (hs : ∀ v, SlotRep w (okS E bl ψ w) ψ bl a.tmps s v → SlotRep w (okS E bl ψ w) ψ bl a.tmps s' v) (hr : ∀ m ∈ refsS s', m ∈ refsS s) (hg : ∀ l l' u, s' ≠ .gval l (.gval l' u)) :
    SimP E ψ (setS sl (some d) s') bl U a w := by
  refine ⟨h.size, h.defers, h.below, fun i => ?_, h.blks, h.apart, h.names, fun i m hm => ?_, h.brefs, fun i l l' u e => ?_⟩
  · by_cases e : i = d
    · subst e
      have := h.slots i
      rw [setS_at] at this ⊢
      exact hs _ this
    · have := h.slots i
      rw [setS_ne e] at this ⊢
      exact this
  · by_cases e : i = d
    · subst e
      rw [setS_at] at hm
      exact h.refs i m (by rw [setS_at]; exact hr m hm)
    · rw [setS_ne e] at hm
      exact h.refs i m (by rw [setS_ne e]; exact hm)
  · by_cases e' : i = d
    · subst e'
      rw [setS_at] at e
      exact hg _ _ _ e
    · rw [setS_ne e'] at e
      exact h.gg i l l' u (by rw [setS_ne e']; exact e)
theorem opDet_sound {ops : Array Oper} {p : Patch} (hsub : Sub bl0 bl) (c : Ctx E ti ψ sl bl U nx a w o.dst) (h : OpDet E ti ops sl bl0 nx o p) :
    (Region.wanted o (yielded ops a.tmps) = true → o.wp E.P a w (fun a' w' => Sim E (setS sl o.dst p.slot) (setB bl p.blks) (Un U nx) a' w') Q) ∧
    (Region.wanted o (yielded ops a.tmps) = false → Sim E (setS sl o.dst p.slot) (setB bl p.blks) (Un U nx) (a.put o.dst undef) w) := by
  unfold OpDet at h
  split at h
  · rename_i e
    refine ⟨fun _ => ?_, fun hw => by simp [Region.wanted, e] at hw⟩
    refine Oper.wp_mono (fun a' w' hn => ?_) (op_any hsub c (lits := []) (fun x hx => by cases hx) h.1.all)
    obtain ⟨q, hq, hs, _⟩ := hn
    rw [← hq]; exact hs
  · rename_i g e
    obtain ⟨lits, cc, hl, hc, p0, h1, hgp⟩ := h
    obtain ⟨g1, g2, g3, g4, g5⟩ := gPatch_spec hgp
    subst g2
    obtain ⟨hw1, hw2⟩ := guard_spec c.sim hl hc
    refine ⟨fun hw => ?_, fun hw => ?_⟩
    · have hcc := hw1.1 hw
      refine Oper.wp_mono (fun a' w' hn => ?_) (op_any hsub c (lits := lits) (by rw [hw2]; exact hcc) (h1 hcc).all)
      obtain ⟨q, rfl, ⟨ψ', hs⟩, _⟩ := hn
      rw [g1] at hs
      rw [setB_nil] at hs ⊢
      refine ⟨ψ', ?_⟩
      cases hd : o.dst with
      | none => rw [hd] at hs; exact hs
      | some d =>
        rw [hd] at hs g3
        have hne := litOnO_spec g3 d rfl
        refine hs.reslot (fun v hv => ⟨fun _ => hv, fun hn => (hn ?_).elim⟩) (fun m hm => hm) (fun l l' u e => ?_)
        · refine (cond_spec hs ?_).2 hcc
          rw [condOf_congr (sl := sl) (fun x hx => ?_), hc]
          simp [setS, hne x hx]
        · injection e with _ e
          exact g4 _ _ e
    · have hcc : ¬ litsHold a.tmps lits := by
        rw [hw2]
        intro hh
        rw [hw1.2 hh] at hw; cases hw
      rw [setB_nil]
      refine ⟨ψ, c.sim.pure (Un.old (U := U) (nx := nx)) (fun m hm => ?_) (fun l l' u e => ?_) c.hmen c.hds ?_⟩
      · have hb := g5 m hm
        obtain ⟨k, hk⟩ := Option.isSome_iff_exists.1 hb
        exact .inl (c.sim.name_lt (hsub _ _ hk))
      · injection e with _ e
        exact g4 _ _ e
      · have hlit : litsHold (a.put o.dst undef).tmps lits ↔ litsHold a.tmps lits := by
          have hx : ∀ x ∈ lits, (a.put o.dst undef).tmps.getD x.1 undef = a.tmps.getD x.1 undef := by
            intro x hx
            rw [put_getD]
            cases hd : o.dst with
            | none => rfl
            | some d =>
              rw [hd] at g3
              simp [litOnO_spec g3 d rfl x hx]
          constructor
          · intro hh x hm; rw [← hx x hm]; exact hh x hm
          · intro hh x hm; rw [hx x hm]; exact hh x hm
        exact ⟨fun hh => (hcc (hlit.1 hh)).elim, fun _ => rfl⟩
theorem un_next (n : Nat) : Un (fun m => m < n) n = fun m => m < n + 8 := by
  funext m
  apply propext
  unfold Un
  constructor
  · rintro (h | h) <;> omega
  · intro h
    by_cases hm : m < n
    · exact .inl hm
    · exact .inr ⟨by omega, by omega⟩
theorem okput {st : St} {p : Patch} {a' : Act} {w' : World} (h : Sim E (setS (lookS st.slots) dst p.slot) (setB (lookB st.blks) p.blks) (Un (fun m => m < st.next) st.next) a' w') : St.OK E (st.put dst p) a' w' := by
  unfold St.OK
  rw [lookS_put, show (st.put dst p).blks = p.blks ++ st.blks from rfl, lookB_append, show (st.put dst p).next = st.next + 8 from rfl, ← un_next]
  exact h
structure Glob (E : Env) (ti : TypeId → Option TI) : Prop where
  good : E.Good
  hti : ∀ t i, ti t = some i → tiOf E.P t = some i
theorem mkCtx (g : Glob E ti) {st : St} {ψ : Nat → Value} (hs : SimP E ψ (lookS st.slots) (lookB st.blks) (fun m => m < st.next) a w) (hl : leans E.n dst st.slots = false) : Ctx E ti ψ (lookS st.slots) (lookB st.blks) (fun m => m < st.next) st.next a w dst := by
  have hd : ∀ d, dst = some d → d + 1 ≤ E.n ∧ mentions d st.slots = false := by
    intro d e
    subst e
    unfold leans at hl
    simp only at hl
    split at hl
    · rename_i h; exact ⟨Nat.le_of_ble_eq_true h, hl⟩
    · cases hl
  exact ⟨fun m h1 h2 h3 => by omega, g.good, g.hti, hs, fun d e i l s' h x hx => mentions_spec (hd d e).2 i l s' h x hx, fun d e => (hd d e).1⟩
theorem exOps_wp (g : Glob E ti) {ops : Array Oper} {K : St → T} {Q : Exit → Act → World → Prop} (hQ : ∀ st a w, St.OK E st a w → (K st).Holds E rvs QR QD → Q .normal a w) : ∀ (l : List Oper) (st : St) (a : Act) (w : World),
    St.OK E st a w → (exOps E.n ti E.gt ops l st K).Holds E rvs QR QD → wpList E.P ops Q l a w
  | [], st, a, w, hs, h => hQ st a w hs h
  | o :: r, st, a, w, ⟨ψ, hs⟩, h => by
    unfold exOps at h
    split at h
    · exact h.elim
    · rename_i hl
      have c := mkCtx g hs hl
      unfold wpList
      cases hg : o.guard with
      | none =>
        have hw : Region.wanted o (yielded ops a.tmps) = true := by simp [Region.wanted, hg]
        rw [if_pos hw]
        left
        unfold exOp at h
        rw [hg] at h
        refine Oper.wp_mono (fun a' w' hn => ?_) (op_any (fun _ _ h => h) c (lits := []) (fun x hx => by cases hx) (ofPT_all h))
        obtain ⟨p, hp, hs', _⟩ := hn
        exact exOps_wp g hQ r _ a' w' (okput hs') hp
      | some gg =>
        obtain ⟨p, hp1, hp2⟩ := exOp_det (by rw [hg]; rfl) h
        obtain ⟨s1, s2⟩ := opDet_sound (Q := Q) (fun _ _ h => h) c hp1
        by_cases hw : Region.wanted o (yielded ops a.tmps) = true
        · rw [if_pos hw]
          left
          exact Oper.wp_mono (fun a' w' hn => exOps_wp g hQ r _ a' w' (okput hn) hp2) (s1 hw)
        · rw [if_neg hw]
          exact exOps_wp g hQ r _ _ w (okput (s2 (by simpa using hw))) hp2
theorem clear_spec : ∀ (l : List Oper) (s : List (Nat × Slot)) (i : Nat), lookS (clearG l s) i = lookS s i ∨ lookS (clearG l s) i = .unit
  | [], s, i => .inl rfl
  | o :: r, s, i => by
    unfold clearG
    split
    · rename_i d hg hd
      rcases clear_spec r ((d, .unit) :: s) i with h | h
      · rw [h]
        rw [lookS_cons]
        split
        · exact .inr rfl
        · exact .inl rfl
      · exact .inr h
    · exact clear_spec r s i
theorem ok_clear {st : St} (l : List Oper) (h : St.OK E st a w) : St.OK E (st.clear l) a w := by
  obtain ⟨ψ, h⟩ := h
  refine ⟨ψ, h.size, h.defers, h.below, fun i => ?_, h.blks, h.apart, h.names, fun i m hm => ?_, h.brefs, fun i l' l'' s' e => ?_⟩
  · rcases clear_spec l st.slots i with e | e
    · show SlotRep _ _ _ _ _ (lookS (clearG l st.slots) i) _
      rw [e]; exact h.slots i
    · show SlotRep _ _ _ _ _ (lookS (clearG l st.slots) i) _
      rw [e]; trivial
  · rcases clear_spec l st.slots i with e | e
    · exact h.refs i m (by rw [← e]; exact hm)
    · rw [show lookS (st.clear l).slots i = .unit from e] at hm; cases hm
  · rcases clear_spec l st.slots i with e' | e'
    · exact h.gg i l' l'' s' (by rw [← e']; exact e)
    · rw [show lookS (st.clear l).slots i = .unit from e'] at e; cases e
theorem region_wp (g : Glob E ti) {id : Nat} {ops : Array Oper} {K : St → T} {Q : Exit → Act → World → Prop} (hQ : ∀ st a w, St.OK E st a w → (K st).Holds E rvs QR QD → Q .normal a w) {st : St} (hs : St.OK E st a w)
    (h : (exOps E.n ti E.gt ops ops.toList st fun st' => K (st'.clear ops.toList)).Holds E rvs QR QD) : (Code.region id ops false).wp E.P Q a w :=
  wp_region_list (exOps_wp g (K := fun st' => K (st'.clear ops.toList)) (fun st a w hs h => hQ _ a w (ok_clear _ hs) h) _ st a w hs h)
end
end Go.Eng
set_option linter.unusedVariables false
set_option linter.unusedSimpArgs false
namespace Go.Eng
open Go.RowKit
section
variable {E : Env} {ti : TypeId → Option TI} {gt : Nat → Option (List D)} {sl sl' : Nat → Slot} {bl : Blks} {nx : Nat} {o : Oper} {lits : List (Nat × Bool)}
theorem tmpsOf_mem {t : Nat} : ∀ {l : List Operand}, Operand.tmp t ∈ l → t ∈ tmpsOf l
  | x :: r, h => by
    rcases List.mem_cons.1 h with rfl | h
    · simp [tmpsOf]
    · have ih := tmpsOf_mem h
      cases x <;> simp [tmpsOf, ih]
theorem evOp_congr {x : Operand} (h : ∀ t, x = .tmp t → sl t = sl' t) : evOp gt sl x = evOp gt sl' x := by
  cases x with
  | tmp t => exact h t rfl
  | _ => rfl
theorem evG_congr {x : Operand} (h : ∀ t, x = .tmp t → sl t = sl' t) : evG gt sl lits x = evG gt sl' lits x := by
  unfold evG
  rw [evOp_congr h]
theorem map_ev {xs : List Operand} {f g : Operand → Slot} (h : ∀ x ∈ xs, f x = g x) : xs.map f = xs.map g := List.map_congr_left h
theorem step_congr (h : ∀ t, Operand.tmp t ∈ o.op.operands.toList → sl t = sl' t) : stepPT ti gt sl bl nx lits o = stepPT ti gt sl' bl nx lits o := by
  have hx : ∀ (l : List (Nat × Bool)) (x : Operand), x ∈ o.op.operands.toList → evG gt sl l x = evG gt sl' l x := fun l x hx => evG_congr (fun t e => h t (e ▸ hx))
  unfold stepPT
  cases ho : o.op <;> rw [ho] at hx <;> simp only [Op.operands] at hx <;> unfold opPT <;> simp only [ho] <;> try rfl
  case pick c a b =>
    have h1 := fun l => hx l c (by simp)
    have h2 := fun l => hx l a (by simp)
    have h3 := fun l => hx l b (by simp)
    unfold pickPT
    cases c <;> simp only [h1, h2, h3]
  case move x => rw [hx lits x (by simp)]
  case assign x => rw [hx lits x (by simp)]
  case box t x => rw [hx lits x (by simp)]
  case load t x => rw [hx lits x (by simp)]
  case nilCheck x => rw [hx lits x (by simp)]
  case unOp op t x => rw [hx lits x (by simp)]
  case convert s d x => rw [hx lits x (by simp)]
  case fieldAddr s x f => rw [hx lits x (by simp)]
  case field s x f => rw [hx lits x (by simp)]
  case extract x i => rw [hx lits x (by simp)]
  case store t x y => rw [hx lits x (by simp), hx lits y (by simp)]
  case binOp op t x y u => rw [hx lits x (by simp), hx lits y (by simp)]
  case makeSlice t x y => rw [hx lits x (by simp), hx lits y (by simp)]
  case indexAddr t x y => rw [hx lits x (by simp), hx lits y (by simp)]
  case index t x y => rw [hx lits x (by simp), hx lits y (by simp)]
  case build t ps =>
    congr 1
    refine List.map_congr_left fun p hp => ?_
    rw [hx lits p.2 (by simp; exact ⟨p.1, by simpa using hp⟩)]
  case buildSlice t n ps =>
    congr 1
    refine List.map_congr_left fun p hp => ?_
    rw [hx lits p.2 (by simp; exact ⟨p.1, by simpa using hp⟩)]
  case slice t x lo hi mx =>
    have h1 : lo.map (evG gt sl lits) = lo.map (evG gt sl' lits) := by
      cases lo with
      | none => rfl
      | some y => simp only [Option.map_some, hx lits y (by simp)]
    have h2 : hi.map (evG gt sl lits) = hi.map (evG gt sl' lits) := by
      cases hi with
      | none => rfl
      | some y => simp only [Option.map_some, hx lits y (by simp)]
    have h3 : mx.map (evG gt sl lits) = mx.map (evG gt sl' lits) := by
      cases mx with
      | none => rfl
      | some y => simp only [Option.map_some, hx lits y (by simp)]
    rw [hx lits x (by simp), h1, h2, h3]
  case makeFunc f first captured =>
    cases f with
    | func f =>
      simp only
      rw [map_ev (g := evG gt sl' lits) (xs := captured.toList) (fun x hx' => hx lits x (by simp; exact .inr (by simpa using hx')))]
    | _ => rfl
  case call c =>
    obtain ⟨callee, args, argTypes⟩ := c
    cases callee with
    | builtin b => simp only; rw [map_ev (g := evG gt sl' lits) (xs := args.toList) (fun x hx' => hx lits x (by simp [Call.operands]; simpa using hx'))]
    | value f => simp only; rw [map_ev (g := evG gt sl' lits) (xs := args.toList) (fun x hx' => hx lits x (by simp [Call.operands]; exact .inr (by simpa using hx'))), hx lits f (by simp [Call.operands])]
    | _ => rfl
end
end Go.Eng
set_option linter.unusedVariables false
set_option linter.unusedSimpArgs false
namespace Go.Eng
open Go.RowKit
section
variable (ops : Array Oper) (st0 : St) (p : Nat → Patch) (b : Nat → Bool)
def opAt (i : Nat) : Oper := ops.getD i default
def stT : Nat → St
  | 0 => st0
  | i + 1 => (stT i).put (opAt ops i).dst (p i)
def slB : Nat → Nat → Slot
  | 0 => lookS st0.slots
  | i + 1 => match b i with
    | true => setS (slB i) (opAt ops i).dst (p i).slot
    | false => slB i
def blB : Nat → Blks
  | 0 => lookB st0.blks
  | i + 1 => match b i with
    | true => setB (blB i) (p i).blks
    | false => blB i
def UB (n : Nat) (m : Nat) : Prop := m < st0.next ∨ ∃ i, i < n ∧ b i = true ∧ st0.next + 8 * i ≤ m ∧ m < st0.next + 8 * i + 8
end
section
variable {ops : Array Oper} {st0 : St} {p : Nat → Patch} {b b' : Nat → Bool}
theorem setS_none {sl : Nat → Slot} {dst : Option Nat} {s : Slot} {t : Nat} (h : dst ≠ some t) : setS sl dst s t = sl t := by
  cases dst with
  | none => rfl
  | some d => exact setS_ne (fun e => h (by rw [e]))
theorem setB_not {bl : Blks} {q : Pch} {n : Nat} (h : n ∉ q.map (·.1)) : setB bl q n = bl n := by
  unfold setB
  have : q.find? (fun x => Nat.beq n x.1) = none := by
    rw [List.find?_eq_none]
    intro x hx e
    exact h (List.mem_map.2 ⟨x, hx, (Nat.eq_of_beq_eq_true e).symm⟩)
  rw [this]
theorem setB_yes {bl bl' : Blks} {q : Pch} {n : Nat} (h : n ∈ q.map (·.1)) : setB bl q n = setB bl' q n := by
  unfold setB
  obtain ⟨x, hx, e⟩ := List.mem_map.1 h
  cases hf : q.find? (fun x => Nat.beq n x.1) with
  | some y => rfl
  | none =>
    rw [List.find?_eq_none] at hf
    exact absurd (by rw [← e]; simp) (hf x hx)
theorem slB_agree {t : Nat} : ∀ k, (∀ j, j < k → b j ≠ b' j → (opAt ops j).dst ≠ some t) → slB ops st0 p b k t = slB ops st0 p b' k t
  | 0, _ => rfl
  | k + 1, h => by
    have ih := slB_agree k (fun j hj => h j (by omega))
    unfold slB
    cases hb : b k <;> cases hb' : b' k <;> simp only
    · exact ih
    · rw [setS_none (h k (by omega) (by rw [hb, hb']; simp))]; exact ih
    · rw [setS_none (h k (by omega) (by rw [hb, hb']; simp))]; exact ih
    · unfold setS
      split
      · split
        · rfl
        · exact ih
      · exact ih
theorem blB_agree {n : Nat} : ∀ k, (∀ j, j < k → b j ≠ b' j → n ∉ (p j).blks.map (·.1)) → blB st0 p b k n = blB st0 p b' k n
  | 0, _ => rfl
  | k + 1, h => by
    have ih := blB_agree k (fun j hj => h j (by omega))
    unfold blB
    cases hb : b k <;> cases hb' : b' k <;> simp only
    · exact ih
    · rw [setB_not (h k (by omega) (by rw [hb, hb']; simp))]; exact ih
    · rw [setB_not (h k (by omega) (by rw [hb, hb']; simp))]; exact ih
    · by_cases hn : n ∈ (p k).blks.map (·.1)
      · exact setB_yes hn
      · rw [setB_not hn, setB_not hn]; exact ih
theorem slB_up {t : Nat} {k : Nat} : ∀ m, (∀ j, k ≤ j → j < k + m → b j = true → (opAt ops j).dst ≠ some t) → slB ops st0 p b (k + m) t = slB ops st0 p b k t
  | 0, _ => rfl
  | m + 1, h => by
    have ih := slB_up m (fun j h1 h2 => h j h1 (by omega))
    rw [show slB ops st0 p b (k + (m + 1)) = (match b (k + m) with
      | true => setS (slB ops st0 p b (k + m)) (opAt ops (k + m)).dst (p (k + m)).slot
      | false => slB ops st0 p b (k + m)) from rfl]
    cases hb : b (k + m) <;> simp only
    · exact ih
    · rw [setS_none (h (k + m) (by omega) (by omega) hb)]; exact ih
theorem blB_up {n : Nat} {k : Nat} : ∀ m, (∀ j, k ≤ j → j < k + m → b j = true → n ∉ (p j).blks.map (·.1)) → blB st0 p b (k + m) n = blB st0 p b k n
  | 0, _ => rfl
  | m + 1, h => by
    have ih := blB_up m (fun j h1 h2 => h j h1 (by omega))
    rw [show blB st0 p b (k + (m + 1)) = (match b (k + m) with
      | true => setB (blB st0 p b (k + m)) (p (k + m)).blks
      | false => blB st0 p b (k + m)) from rfl]
    cases hb : b (k + m) <;> simp only
    · exact ih
    · rw [setB_not (h (k + m) (by omega) (by omega) hb)]; exact ih
theorem stT_spec : ∀ i, lookS (stT ops st0 p i).slots = slB ops st0 p (fun _ => true) i ∧ lookB (stT ops st0 p i).blks = blB st0 p (fun _ => true) i ∧ (stT ops st0 p i).next = st0.next + 8 * i
  | 0 => ⟨rfl, rfl, rfl⟩
  | i + 1 => by
    obtain ⟨h1, h2, h3⟩ := stT_spec i
    refine ⟨?_, ?_, ?_⟩
    · show lookS ((stT ops st0 p i).put _ _).slots = _
      rw [lookS_put, h1]; rfl
    · show lookB ((p i).blks ++ (stT ops st0 p i).blks) = _
      rw [lookB_append, h2]; rfl
    · show (stT ops st0 p i).next + 8 = _
      rw [h3]; omega
theorem slB_from {t : Nat} : ∀ k, slB ops st0 p b k t = lookS st0.slots t ∨ ∃ j, j < k ∧ b j = true ∧ (opAt ops j).dst = some t ∧ slB ops st0 p b k t = (p j).slot
  | 0 => .inl rfl
  | k + 1 => by
    have ih := slB_from (t := t) k
    unfold slB
    cases hb : b k <;> simp only
    · rcases ih with h | ⟨j, h1, h2, h3, h4⟩
      · exact .inl h
      · exact .inr ⟨j, by omega, h2, h3, h4⟩
    · by_cases hd : (opAt ops k).dst = some t
      · refine .inr ⟨k, by omega, hb, hd, ?_⟩
        rw [hd, setS_at]
      · rw [setS_none hd]
        rcases ih with h | ⟨j, h1, h2, h3, h4⟩
        · exact .inl h
        · exact .inr ⟨j, by omega, h2, h3, h4⟩
theorem mem_slots {j : Nat} {t : Nat} (hd : (opAt ops j).dst = some t) : ∀ {i : Nat}, j < i → (t, (p j).slot) ∈ (stT ops st0 p i).slots
  | 0, h => by omega
  | i + 1, h => by
    show _ ∈ ((stT ops st0 p i).put (opAt ops i).dst (p i)).slots
    by_cases e : j = i
    · subst e
      simp [St.put, hd]
    · have ih := mem_slots hd (i := i) (by omega)
      unfold St.put
      simp only
      split
      · exact List.mem_cons_of_mem _ ih
      · exact ih
theorem mentions_mem {d t : Nat} {l : List (Nat × Bool)} {s : Slot} : ∀ {sl : List (Nat × Slot)}, mentions d sl = false → (t, .gval l s) ∈ sl → litOn d l = false
  | [], _, h => by cases h
  | x :: r, hm, h => by
    rcases List.mem_cons.1 h with e | h
    · subst e
      unfold mentions at hm
      split at hm
      · cases hm
      · rename_i hh; exact hh
    · refine mentions_mem ?_ h
      obtain ⟨y, z⟩ := x
      cases z <;> simp only [mentions] at hm <;> try exact hm
      split at hm
      · cases hm
      · exact hm
theorem mentions_tail {d : Nat} : ∀ {i : Nat}, mentions d (stT ops st0 p i).slots = false → mentions d st0.slots = false
  | 0, h => h
  | i + 1, h => by
    refine mentions_tail (i := i) ?_
    change mentions d ((stT ops st0 p i).put (opAt ops i).dst (p i)).slots = false at h
    unfold St.put at h
    simp only at h
    split at h
    · cases hz : (p i).slot <;> rw [hz] at h <;> simp only [mentions] at h <;> try exact h
      split at h
      · cases h
      · exact h
    · exact h
end
end Go.Eng
set_option linter.unusedVariables false
set_option linter.unusedSimpArgs false
namespace Go.Eng
open Go.RowKit
section
variable {E : Env} {ti : TypeId → Option TI} {ops : Array Oper} {st0 : St} {rvs : Array ResultVar} {QR : List RR → Prop} {QD : Ex → St → Prop}
def dn (E : Env) (ops : Array Oper) (st0 : St) (p : Nat → Patch) (i : Nat) : Done := doneOf E.gt ops (stT ops st0 p i) i (opAt ops i) (p i)
structure Fact (E : Env) (ti : TypeId → Option TI) (ops : Array Oper) (st0 : St) (p : Nat → Patch) (i : Nat) : Prop where
  det : OpDet E ti ops (lookS (stT ops st0 p i).slots) (restrict (lookB (stT ops st0 p i).blks) (namesOf E.gt (lookS (stT ops st0 p i).slots) (opAt ops i))) (stT ops st0 p i).next (opAt ops i) (p i)
  lean : leans E.n (opAt ops i).dst (stT ops st0 p i).slots = false
  apart : ∀ j, j < i → clash ((Region.before ops).getD i 0) (dn E ops st0 p j) (dn E ops st0 p i) = false
theorem stT_congr {p q : Nat → Patch} : ∀ {i : Nat}, (∀ j, j < i → p j = q j) → stT ops st0 p i = stT ops st0 q i
  | 0, _ => rfl
  | i + 1, h => by
    have ih := stT_congr (i := i) (fun j hj => h j (by omega))
    show (stT ops st0 p i).put _ _ = (stT ops st0 q i).put _ _
    rw [ih, h i (by omega)]
theorem dn_congr {p q : Nat → Patch} {i : Nat} (h : ∀ j, j ≤ i → p j = q j) : dn E ops st0 p i = dn E ops st0 q i := by
  unfold dn
  rw [stT_congr (fun j hj => h j (by omega)), h i (Nat.le_refl _)]
theorem fact_congr {p q : Nat → Patch} {i : Nat} (h : ∀ j, j ≤ i → p j = q j) (hf : Fact E ti ops st0 p i) : Fact E ti ops st0 q i := by
  have e := stT_congr (ops := ops) (st0 := st0) (p := p) (q := q) (i := i) (fun j hj => h j (by omega))
  refine ⟨?_, ?_, fun j hj => ?_⟩
  · rw [← e, ← h i (Nat.le_refl _)]; exact hf.det
  · rw [← e]; exact hf.lean
  · rw [← dn_congr (p := p) (q := q) (fun k hk => h k (by omega)), ← dn_congr (p := p) (q := q) h]
    exact hf.apart j hj
theorem clashes_mem {b : Nat} {y : Done} : ∀ {l : List Done}, clashes b y l = false → ∀ x ∈ l, clash b x y = false
  | [], _, x, hx => by cases hx
  | z :: r, h, x, hx => by
    unfold clashes at h
    split at h
    · cases h
    · rename_i hz
      rcases List.mem_cons.1 hx with rfl | hx
      · exact hz
      · exact clashes_mem h x hx
theorem facts_of {K : St → T} : ∀ (r : List Oper) (i : Nat) (ds : List Done) (pp : Nat → Patch), ops.toList.drop i = r → (∀ j, j < i → Fact E ti ops st0 pp j) → (∀ j, j < i → dn E ops st0 pp j ∈ ds) →
    (exDraw E.n ti E.gt ops (Region.before ops) r i ds (stT ops st0 pp i) K).Holds E rvs QR QD → i ≤ ops.size →
    ∃ p : Nat → Patch, (∀ j, j < ops.size → Fact E ti ops st0 p j) ∧ (K (stT ops st0 p ops.size)).Holds E rvs QR QD
  | [], i, ds, pp, hr, hf, hd, h, hi => by
    have hle : ops.size ≤ i := by
      have := List.drop_eq_nil_iff.1 hr
      simpa using this
    have e : i = ops.size := by omega
    subst e
    exact ⟨pp, hf, h⟩
  | o :: r, i, ds, pp, hr, hf, hd, h, hi => by
    have hlt : i < ops.size := by
      refine Classical.byContradiction fun hn => ?_
      have : ops.toList.drop i = [] := List.drop_eq_nil_iff.2 (by simpa using hn)
      rw [this] at hr; cases hr
    have ho : opAt ops i = o := by
      have h1 : (ops.toList.drop i)[0]? = some o := by rw [hr]; rfl
      rw [List.getElem?_drop] at h1
      simp at h1
      unfold opAt
      simp [Array.getD_eq_getD_getElem?, h1]
    have hr' : ops.toList.drop (i + 1) = r := by
      rw [← List.drop_drop, hr]; rfl
    unfold exDraw at h
    split at h
    · exact h.elim
    · rename_i hl
      obtain ⟨q, hq, hk⟩ := exOpD_det h
      split at hk
      · exact hk.elim
      · rename_i hc
        let pp' : Nat → Patch := fun j => if j = i then q else pp j
        have hpp : ∀ j, j < i → pp j = pp' j := fun j hj => (if_neg (by omega)).symm
        have hqi : pp' i = q := if_pos rfl
        have est : stT ops st0 pp' i = stT ops st0 pp i := (stT_congr hpp).symm
        have edn : dn E ops st0 pp' i = doneOf E.gt ops (stT ops st0 pp i) i o q := by
          unfold dn
          rw [est, ho, hqi]
        have est' : stT ops st0 pp' (i + 1) = (stT ops st0 pp i).put o.dst q := by
          show (stT ops st0 pp' i).put (opAt ops i).dst (pp' i) = _
          rw [est, ho, hqi]
        refine facts_of r (i + 1) (doneOf E.gt ops (stT ops st0 pp i) i o q :: ds) pp' hr' (fun j hj => ?_) (fun j hj => ?_) (by rw [est']; exact hk) hlt
        · by_cases e : j = i
          · subst e
            refine ⟨?_, ?_, fun k hk => ?_⟩
            · rw [est, ho, hqi]; exact hq
            · rw [est, ho]; exact hl
            · rw [edn]
              refine clashes_mem hc _ ?_
              rw [← dn_congr (p := pp) (q := pp') (fun m hm => hpp m (by omega))]
              exact hd k hk
          · exact fact_congr (fun k hk => hpp k (by omega)) (hf j (by omega))
        · by_cases e : j = i
          · subst e
            rw [edn]; exact List.mem_cons_self ..
          · rw [← dn_congr (p := pp) (q := pp') (fun m hm => hpp m (by omega))]
            exact List.mem_cons_of_mem _ (hd j (by omega))
theorem natIn_mem {n : Nat} : ∀ {l : List Nat}, natIn n l = true ↔ n ∈ l
  | [] => by simp [natIn]
  | m :: r => by
    have ih := natIn_mem (n := n) (l := r)
    unfold natIn
    split
    · rename_i h
      have := Nat.eq_of_beq_eq_true h
      simp [this]
    · rename_i h
      have : n ≠ m := fun e => by subst e; simp at h
      simp [this, ih]
theorem meets_false {l m : List Nat} (h : meets l m = false) : ∀ n, n ∈ l → n ∈ m → False := by
  induction l with
  | nil => intro n hn; cases hn
  | cons x r ih =>
    intro n hn hm
    unfold meets at h
    split at h
    · cases h
    · rename_i hx
      rcases List.mem_cons.1 hn with rfl | hn
      · rw [natIn_mem.2 hm] at hx; cases hx
      · exact ih h n hn hm
structure NoClash (x y : Done) : Prop where
  wr : ∀ n, n ∈ x.ws → n ∈ y.rs → False
  ww : ∀ n, n ∈ x.ws → n ∈ y.ws → False
  rw' : ∀ n, n ∈ x.rs → n ∈ y.ws → False
  nwr : ∀ n, n ∈ x.wn → n ∈ y.rn → False
  nww : ∀ n, n ∈ x.wn → n ∈ y.wn → False
  nrw : ∀ n, n ∈ x.rn → n ∈ y.wn → False
theorem clash_spec {b : Nat} {x y : Done} (h : clash b x y = false) (hb : b.testBit x.i = false) : NoClash x y := by
  unfold clash at h
  rw [hb] at h
  simp only [Bool.or_eq_false_iff] at h
  obtain ⟨⟨⟨⟨⟨h1, h2⟩, h3⟩, h4⟩, h5⟩, h6⟩ := h
  exact ⟨meets_false h1, meets_false h2, meets_false h3, meets_false h4, meets_false h5, meets_false h6⟩
end
end Go.Eng
set_option linter.unusedVariables false
set_option linter.unusedSimpArgs false
namespace Go.Eng
open Go.RowKit
section
variable {E : Env} {ti : TypeId → Option TI} {ops : Array Oper} {st0 : St} {p : Nat → Patch} {b : Nat → Bool} {a : Act} {w : World} {o : Oper} {sl sl' : Nat → Slot} {bl : Blks} {nx : Nat} {q : Patch} {Q : Exit → Act → World → Prop}
variable {rvs : Array ResultVar} {QR : List RR → Prop} {QD : Ex → St → Prop}
theorem readsOp {t : Nat} (h : Operand.tmp t ∈ o.op.operands.toList) : t ∈ readsOf ops sl o := List.mem_append_left _ (tmpsOf_mem h)
theorem opDet_congr (h : ∀ t ∈ readsOf ops sl o, sl' t = sl t) (hd : OpDet E ti ops sl bl nx o q) : OpDet E ti ops sl' bl nx o q := by
  have hst : ∀ lits, stepPT ti E.gt sl' bl nx lits o = stepPT ti E.gt sl bl nx lits o := fun lits => step_congr (fun t ht => h t (readsOp ht))
  unfold OpDet at hd ⊢
  split at hd
  · rename_i e; rw [hst]; exact hd
  · rename_i g e
    obtain ⟨lits, c, hl, hc, p0, h1, h2⟩ := hd
    have hr : ∀ x ∈ lits, sl' x.1 = sl x.1 := fun x hx => h x.1 (List.mem_append_right _ (by rw [hl]; exact List.mem_map.2 ⟨x, hx, rfl⟩))
    refine ⟨lits, c, ?_, by rw [condOf_congr hr]; exact hc, p0, fun e => by rw [hst]; exact h1 e, h2⟩
    rw [← hl]
    unfold guardLits at hl ⊢
    rw [e] at hl ⊢
    simp only at hl ⊢
    split at hl
    · rename_i t ht
      have : sl' t = sl t := by
        refine hr (t, g.2) ?_
        split at hl <;> injection hl with hl <;> rw [← hl] <;> simp
      rw [this]
    · cases hl
theorem names_congr (h : ∀ t ∈ readsOf ops sl o, sl' t = sl t) : namesOf E.gt sl' o = namesOf E.gt sl o := by
  unfold namesOf
  have : ∀ (l : List Operand), (∀ x ∈ l, evOp E.gt sl' x = evOp E.gt sl x) → l.flatMap (fun x => refsS (evOp E.gt sl' x)) = l.flatMap (fun x => refsS (evOp E.gt sl x)) := by
    intro l hl
    induction l with
    | nil => rfl
    | cons x r ih => rw [List.flatMap_cons, List.flatMap_cons, hl x (by simp), ih (fun y hy => hl y (List.mem_cons_of_mem _ hy))]
  exact this _ (fun x hx => evOp_congr (fun t e => h t (readsOp (e ▸ hx))))
def Closed (ops : Array Oper) (b : Nat → Bool) : Prop := ∀ i, i < ops.size → b i = true → ∀ j, ((Region.before ops).getD i 0).testBit j = true → b j = true
variable (hf : ∀ j, j < ops.size → Fact E ti ops st0 p j) (hb : Closed ops b) {i : Nat} (hi : i < ops.size) (hbi : b i = false) (hbef : ∀ j, ((Region.before ops).getD i 0).testBit j = true → b j = true)
 include hf hb hi hbi hbef in
theorem no_clash : (∀ j, j < i → b j = false → NoClash (dn E ops st0 p j) (dn E ops st0 p i)) ∧ (∀ j, i < j → j < ops.size → b j = true → NoClash (dn E ops st0 p i) (dn E ops st0 p j)) := by
  refine ⟨fun j hj hbj => clash_spec ((hf i hi).apart j hj) ?_, fun j hj hjn hbj => clash_spec ((hf j hjn).apart i hj) ?_⟩
  · rw [Bool.eq_false_iff]
    intro h
    rw [hbef j h] at hbj; cases hbj
  · rw [Bool.eq_false_iff]
    intro h
    rw [hb j hjn hbj i h] at hbi; cases hbi
 include hf hb hi hbi hbef in
theorem slots_same {t : Nat} (ht : t ∈ (dn E ops st0 p i).rs) : slB ops st0 p b ops.size t = lookS (stT ops st0 p i).slots t := by
  obtain ⟨n1, n2⟩ := no_clash hf hb hi hbi hbef
  rw [(stT_spec i).1, slB_agree (b := b) (b' := fun j => decide (j < i)) ops.size (fun j hj hne hd => ?_)]
  · have hup := slB_up (ops := ops) (st0 := st0) (p := p) (b := fun j => decide (j < i)) (t := t) (k := i) (ops.size - i) (fun j h1 h2 h3 => by simp at h3; omega)
    rw [show i + (ops.size - i) = ops.size by omega] at hup
    rw [hup]
    exact slB_agree i (fun j hj hne => absurd (by simp [hj]) hne)
  · have hw : t ∈ (dn E ops st0 p j).ws := by show t ∈ (opAt ops j).dst.toList; rw [hd]; simp
    by_cases hji : j < i
    · refine (n1 j hji ?_).wr t hw ht
      cases h : b j
      · rfl
      · rw [h] at hne; simp [hji] at hne
    · have hbj : b j = true := by
        cases h : b j
        · rw [h] at hne; simp [hji] at hne
        · rfl
      have : j ≠ i := fun e => by rw [e, hbi] at hbj; cases hbj
      exact (n2 j (by omega) hj hbj).rw' t ht hw
 include hf hb hi hbi hbef in
theorem blks_same {n : Nat} (ht : n ∈ (dn E ops st0 p i).rn) : blB st0 p b ops.size n = lookB (stT ops st0 p i).blks n := by
  obtain ⟨n1, n2⟩ := no_clash hf hb hi hbi hbef
  rw [(stT_spec i).2.1, blB_agree (b := b) (b' := fun j => decide (j < i)) ops.size (fun j hj hne hd => ?_)]
  · have hup := blB_up (st0 := st0) (p := p) (b := fun j => decide (j < i)) (n := n) (k := i) (ops.size - i) (fun j h1 h2 h3 => by simp at h3; omega)
    rw [show i + (ops.size - i) = ops.size by omega] at hup
    rw [hup]
    exact blB_agree i (fun j hj hne => absurd (by simp [hj]) hne)
  · have hw : n ∈ (dn E ops st0 p j).wn := hd
    by_cases hji : j < i
    · refine (n1 j hji ?_).nwr n hw ht
      cases h : b j
      · rfl
      · rw [h] at hne; simp [hji] at hne
    · have hbj : b j = true := by
        cases h : b j
        · rw [h] at hne; simp [hji] at hne
        · rfl
      have : j ≠ i := fun e => by rw [e, hbi] at hbj; cases hbj
      exact (n2 j (by omega) hj hbj).nrw n ht hw
theorem restrict_sub {bl : Blks} {l : List Nat} : Sub (restrict bl l) bl := by
  intro n k h
  unfold restrict at h
  split at h
  · exact h
  · cases h
def bset (b : Nat → Bool) (i : Nat) (j : Nat) : Bool := b j || decide (j = i)
 include hf hb hi hbi hbef in
theorem draw_step (g : Glob E ti) (hs : Sim E (slB ops st0 p b ops.size) (blB st0 p b ops.size) (UB st0 b ops.size) a w) :
    (Region.wanted (opAt ops i) (yielded ops a.tmps) = true → (opAt ops i).wp E.P a w (fun a' w' => Sim E (slB ops st0 p (bset b i) ops.size) (blB st0 p (bset b i) ops.size) (UB st0 (bset b i) ops.size) a' w') Q) ∧
    (Region.wanted (opAt ops i) (yielded ops a.tmps) = false → Sim E (slB ops st0 p (bset b i) ops.size) (blB st0 p (bset b i) ops.size) (UB st0 (bset b i) ops.size) (a.put (opAt ops i).dst undef) w) := by
  obtain ⟨n1, n2⟩ := no_clash hf hb hi hbi hbef
  have hF := hf i hi
  have hsl : ∀ t ∈ readsOf ops (lookS (stT ops st0 p i).slots) (opAt ops i), slB ops st0 p b ops.size t = lookS (stT ops st0 p i).slots t := fun t ht => slots_same hf hb hi hbi hbef ht
  have hres : restrict (lookB (stT ops st0 p i).blks) (namesOf E.gt (lookS (stT ops st0 p i).slots) (opAt ops i)) = restrict (blB st0 p b ops.size) (namesOf E.gt (lookS (stT ops st0 p i).slots) (opAt ops i)) := by
    funext n
    unfold restrict
    split
    · rename_i h
      exact (blks_same hf hb hi hbi hbef (natIn_mem.1 h)).symm
    · rfl
  have hdet := opDet_congr (bl := restrict (blB st0 p b ops.size) (namesOf E.gt (lookS (stT ops st0 p i).slots) (opAt ops i))) hsl (by rw [← hres]; exact hF.det)
  rw [(stT_spec i).2.2] at hdet
  have e1 : setS (slB ops st0 p b ops.size) (opAt ops i).dst (p i).slot = slB ops st0 p (bset b i) ops.size := by
    funext t
    by_cases hd : (opAt ops i).dst = some t
    · rw [hd, setS_at]
      have hup := slB_up (ops := ops) (st0 := st0) (p := p) (b := bset b i) (t := t) (k := i + 1) (ops.size - (i + 1)) (fun j h1 h2 h3 hdj => by
        have hbj : b j = true := by
          unfold bset at h3
          cases h : b j
          · rw [h] at h3; simp at h3; omega
          · rfl
        refine (n2 j (by omega) (by omega) hbj).ww t ?_ ?_
        · show t ∈ (opAt ops i).dst.toList; rw [hd]; simp
        · show t ∈ (opAt ops j).dst.toList; rw [hdj]; simp)
      rw [show i + 1 + (ops.size - (i + 1)) = ops.size by omega] at hup
      rw [hup, show slB ops st0 p (bset b i) (i + 1) = (match bset b i i with
        | true => setS (slB ops st0 p (bset b i) i) (opAt ops i).dst (p i).slot
        | false => slB ops st0 p (bset b i) i) from rfl, show bset b i i = true by simp [bset]]
      simp only
      rw [hd, setS_at]
    · rw [setS_none hd]
      refine slB_agree ops.size (fun j hj hne => ?_)
      by_cases e : j = i
      · rw [e]; exact hd
      · exact absurd (by simp [bset, e]) hne
  have e2 : setB (blB st0 p b ops.size) (p i).blks = blB st0 p (bset b i) ops.size := by
    funext n
    by_cases hd : n ∈ (p i).blks.map (·.1)
    · have hup := blB_up (st0 := st0) (p := p) (b := bset b i) (n := n) (k := i + 1) (ops.size - (i + 1)) (fun j h1 h2 h3 hdj => by
        have hbj : b j = true := by
          unfold bset at h3
          cases h : b j
          · rw [h] at h3; simp at h3; omega
          · rfl
        exact (n2 j (by omega) (by omega) hbj).nww n hd hdj)
      rw [show i + 1 + (ops.size - (i + 1)) = ops.size by omega] at hup
      rw [hup, show blB st0 p (bset b i) (i + 1) = (match bset b i i with
        | true => setB (blB st0 p (bset b i) i) (p i).blks
        | false => blB st0 p (bset b i) i) from rfl, show bset b i i = true by simp [bset]]
      exact setB_yes hd
    · rw [setB_not hd]
      refine blB_agree ops.size (fun j hj hne => ?_)
      by_cases e : j = i
      · rw [e]; exact hd
      · exact absurd (by simp [bset, e]) hne
  have e3 : Un (UB st0 b ops.size) (st0.next + 8 * i) = UB st0 (bset b i) ops.size := by
    funext m
    apply propext
    constructor
    · rintro ((h | ⟨j, h1, h2, h3⟩) | h)
      · exact .inl h
      · exact .inr ⟨j, h1, by simp [bset, h2], h3⟩
      · exact .inr ⟨i, hi, by simp [bset], h⟩
    · rintro (h | ⟨j, h1, h2, h3⟩)
      · exact .inl (.inl h)
      · by_cases e : j = i
        · subst e; exact .inr h3
        · exact .inl (.inr ⟨j, h1, by simpa [bset, e] using h2, h3⟩)
  obtain ⟨ψ, hs⟩ := hs
  have hlean : ∀ d, (opAt ops i).dst = some d → d + 1 ≤ E.n ∧ mentions d (stT ops st0 p i).slots = false := by
    intro d e
    have hl := hF.lean
    rw [e] at hl
    unfold leans at hl
    simp only at hl
    split at hl
    · rename_i h; exact ⟨Nat.le_of_ble_eq_true h, hl⟩
    · cases hl
  have c : Ctx E ti ψ (slB ops st0 p b ops.size) (blB st0 p b ops.size) (UB st0 b ops.size) (st0.next + 8 * i) a w (opAt ops i).dst := by
    refine ⟨fun m h1 h2 h3 => ?_, g.good, g.hti, hs, fun d e t l s' hsl' x hx => ?_, fun d e => (hlean d e).1⟩
    · rcases h3 with h3 | ⟨j, h3, h4, h5, h6⟩
      · omega
      · have : j = i := by omega
        subst this
        rw [hbi] at h4; cases h4
    · obtain ⟨_, hm⟩ := hlean d e
      rcases slB_from (ops := ops) (st0 := st0) (p := p) (b := b) (t := t) ops.size with h | ⟨j, h1, h2, h3, h4⟩
      · rw [h] at hsl'
        exact mentions_spec (mentions_tail hm) t l s' hsl' x hx
      · rw [h4] at hsl'
        by_cases hji : j < i
        · have hmem := mem_slots (st0 := st0) (p := p) h3 hji
          rw [hsl'] at hmem
          exact litOn_spec (mentions_mem hm hmem) x hx
        · have hne : j ≠ i := fun e' => by rw [e', hbi] at h2; cases h2
          intro exd
          refine (n2 j (by omega) h1 h2).wr d (by show d ∈ (opAt ops i).dst.toList; rw [e]; simp) ?_
          have hdj := (hf j h1).det
          unfold OpDet at hdj
          show d ∈ readsOf ops (lookS (stT ops st0 p j).slots) (opAt ops j)
          split at hdj
          · rw [hsl'] at hdj; exact absurd hdj.2 (by simp [Slot.isG])
          · obtain ⟨lits, c, hl, hc, p0, _, hgp⟩ := hdj
            obtain ⟨_, g2, _⟩ := gPatch_spec hgp
            rw [g2] at hsl'
            injection hsl' with hsl' _
            subst hsl'
            refine List.mem_append_right _ ?_
            rw [hl]
            exact List.mem_map.2 ⟨x, hx, exd⟩
  have hsound := opDet_sound (Q := Q) restrict_sub c hdet
  rw [e1, e2, e3] at hsound
  exact hsound
end
end Go.Eng
set_option linter.unusedVariables false
set_option linter.unusedSimpArgs false
namespace Go.Eng
open Go.RowKit
section
variable {E : Env} {ti : TypeId → Option TI} {ops : Array Oper} {st0 : St} {p : Nat → Patch} {b : Nat → Bool} {a : Act} {w : World} {Q : Exit → Act → World → Prop}
variable {rvs : Array ResultVar} {QR : List RR → Prop} {QD : Ex → St → Prop}
def bitsOf (acc : Array Nat) (o : Oper) : Nat := o.after.foldl (fun s e => if Region.binds .any e then s ||| 2 ^ e.on ||| acc.getD e.on 0 else s) 0
theorem bits_spec {acc : Array Nat} {o : Oper} {j : Nat} (h : (bitsOf acc o).testBit j = true) : ∃ e ∈ o.after.toList, Region.binds .any e = true ∧ (e.on = j ∨ (acc.getD e.on 0).testBit j = true) := by
  unfold bitsOf at h
  rw [← Array.foldl_toList] at h
  have key : ∀ (l : List Edge) (s : Nat), (l.foldl (fun s e => if Region.binds .any e then s ||| 2 ^ e.on ||| acc.getD e.on 0 else s) s).testBit j = true → s.testBit j = true ∨ ∃ e ∈ l, Region.binds .any e = true ∧ (e.on = j ∨ (acc.getD e.on 0).testBit j = true) := by
    intro l
    induction l with
    | nil => intro s h; exact .inl h
    | cons e r ih =>
      intro s h
      rw [List.foldl_cons] at h
      rcases ih _ h with h1 | ⟨e', h1, h2⟩
      · split at h1
        · rename_i hb
          rw [Nat.testBit_or, Nat.testBit_or, Bool.or_eq_true, Bool.or_eq_true, Nat.testBit_two_pow] at h1
          rcases h1 with (h1 | h1) | h1
          · exact .inl h1
          · exact .inr ⟨e, by simp, hb, .inl (by simpa using h1)⟩
          · exact .inr ⟨e, by simp, hb, .inr h1⟩
        · exact .inl h1
      · exact .inr ⟨e', List.mem_cons_of_mem _ h1, h2⟩
  rcases key _ _ h with h1 | h1
  · simp at h1
  · exact h1
theorem before_spec : ∀ i, i < ops.size → ∀ j, ((Region.before ops).getD i 0).testBit j = true → ∃ e ∈ (opAt ops i).after.toList, Region.binds .any e = true ∧ (e.on = j ∨ ((Region.before ops).getD e.on 0).testBit j = true) := by
  have key : ∀ (l : List Oper) (done : List Oper) (acc : Array Nat), acc.size = done.length → (∀ i, i < acc.size → ∀ j, (acc.getD i 0).testBit j = true → ∃ e ∈ (((done ++ l)[i]?).getD default).after.toList, Region.binds .any e = true ∧ (e.on = j ∨ (acc.getD e.on 0).testBit j = true)) →
      ∀ i, i < (done ++ l).length → ∀ j, ((l.foldl (fun acc o => acc.push (bitsOf acc o)) acc).getD i 0).testBit j = true → ∃ e ∈ (((done ++ l)[i]?).getD default).after.toList, Region.binds .any e = true ∧ (e.on = j ∨ ((l.foldl (fun acc o => acc.push (bitsOf acc o)) acc).getD e.on 0).testBit j = true) := by
    intro l
    induction l with
    | nil => intro done acc hs h i hi; exact h i (by simpa [hs] using hi)
    | cons o r ih =>
      intro done acc hs h i hi j hj
      rw [List.foldl_cons] at hj ⊢
      have e1 : done ++ o :: r = (done ++ [o]) ++ r := by simp
      rw [e1] at hi ⊢
      have keep : ∀ k j, (acc.getD k 0).testBit j = true → ((acc.push (bitsOf acc o)).getD k 0).testBit j = true := by
        intro k j hk
        by_cases hks : k < acc.size
        · rw [Array.getD_eq_getD_getElem?, Array.getElem?_push, if_neg (by omega), ← Array.getD_eq_getD_getElem?]; exact hk
        · rw [Array.getD_eq_getD_getElem?, Array.getElem?_eq_none (by omega)] at hk
          simp at hk
      refine ih (done ++ [o]) (acc.push (bitsOf acc o)) (by simp [hs]) (fun i hi j hj => ?_) i hi j hj
      rw [Array.size_push] at hi
      by_cases his : i < acc.size
      · rw [Array.getD_eq_getD_getElem?, Array.getElem?_push, if_neg (by omega), ← Array.getD_eq_getD_getElem?] at hj
        obtain ⟨e, x1, x2, x3⟩ := h i his j hj
        rw [e1] at x1
        exact ⟨e, x1, x2, x3.imp id (keep _ _)⟩
      · have : i = acc.size := by omega
        subst this
        rw [Array.getD_eq_getD_getElem?, Array.getElem?_push, if_pos rfl] at hj
        obtain ⟨e, x1, x2, x3⟩ := bits_spec hj
        refine ⟨e, ?_, x2, x3.imp id (keep _ _)⟩
        rw [List.append_assoc, List.getElem?_append_right (by omega), hs]
        simpa using x1
  intro i hi j hj
  have hk := key ops.toList [] #[] rfl (fun i hi => by simp at hi) i (by simpa using hi) j
  have hdef : Region.before ops = ops.toList.foldl (fun acc o => acc.push (bitsOf acc o)) #[] := by
    unfold Region.before
    rw [← Array.foldl_toList]; rfl
  rw [hdef] at hj ⊢
  have := hk hj
  simpa [opAt, Array.getD_eq_getD_getElem?] using this
theorem backs_spec : ∀ (l : List Oper) (i : Nat), backs i l = true → ∀ k o, l[k]? = some o → ∀ e ∈ o.after.toList, Region.binds .any e = true → e.on < i + k
  | [], _, _, k, o, hk, _, _, _ => by simp at hk
  | x :: r, i, h, k, o, hk, e, he, hb => by
    unfold backs at h
    split at h
    · rename_i h1
      cases k with
      | zero =>
        simp at hk
        subst hk
        have := allB_mem (p := fun e : Edge => match Region.binds .any e with | true => Nat.ble (e.on + 1) i | false => true) h1 e he
        simp only [hb] at this
        have := Nat.le_of_ble_eq_true this
        omega
      | succ k =>
        have := backs_spec r (i + 1) h k o (by simpa using hk) e he hb
        omega
    · cases h
theorem mem_ready {listed : Array Bool} {i : Nat} : i ∈ Region.ready .any ops listed ↔ i < ops.size ∧ listed.getD i true = false ∧ ∀ e ∈ (opAt ops i).after.toList, Region.binds .any e = true → listed.getD e.on false = true := by
  unfold Region.ready
  rw [List.mem_filter, List.mem_range]
  constructor
  · rintro ⟨h1, h2⟩
    have ho : ops[i]? = some (opAt ops i) := by simp [opAt, Array.getD_eq_getD_getElem?, h1]
    rw [ho] at h2
    simp only [Bool.and_eq_true, Bool.not_eq_true', Option.map_some, Option.getD_some, Array.all_eq_true'] at h2
    refine ⟨h1, h2.1, fun e he hb => ?_⟩
    have := h2.2 e (by simpa using he)
    simpa [hb] using this
  · rintro ⟨h1, h2, h3⟩
    have ho : ops[i]? = some (opAt ops i) := by simp [opAt, Array.getD_eq_getD_getElem?, h1]
    refine ⟨h1, ?_⟩
    rw [ho]
    simp only [Bool.and_eq_true, Bool.not_eq_true', Option.map_some, Option.getD_some, Array.all_eq_true']
    refine ⟨h2, fun e he => ?_⟩
    cases hb : Region.binds .any e
    · rfl
    · simp [h3 e (by simpa using he) hb]
theorem sim_drew {sl : Nat → Slot} {bl : Blks} {U : Nat → Prop} (h : Sim E sl bl U a w) : Sim E sl bl U a { w with drawn := w.drawn + 1 } := by
  obtain ⟨ψ, h⟩ := h
  have := h.next (dst := none) (v := undef) (s := .unit) (U' := U) (bl' := bl) (ψ' := ψ) (w' := w.drew) (fun _ h => h) ⟨fun _ _ => rfl, fun _ h => h, fun _ _ h => ⟨h, rfl⟩⟩ (Below.refl _ _).drew (fun nm k hk => .inl ⟨h.name_lt hk, hk, fun _ _ _ => rfl⟩) h.apart h.names (fun m hm => by cases hm) h.brefs (by simp) (fun d e => by cases e) (fun d e => by cases e) trivial
  exact ⟨ψ, this⟩
def todo (n : Nat) (listed : Array Bool) : Nat := ((List.range n).filter fun j => !listed.getD j false).length
theorem todo_set {n : Nat} {listed : Array Bool} {i : Nat} (hi : i < n) (hs : listed.size = n) (h : listed.getD i true = false) : todo n (listed.setIfInBounds i true) + 1 ≤ todo n listed := by
  have e : ((List.range n).filter fun j => !(listed.setIfInBounds i true).getD j false) = (((List.range n).filter fun j => !listed.getD j false).filter fun j => decide (j ≠ i)) := by
    rw [List.filter_filter]
    refine List.filter_congr fun j hj => ?_
    simp only [Array.getD_eq_getD_getElem?]
    by_cases e : j = i
    · subst e
      rw [Array.getElem?_setIfInBounds_self_of_lt (by omega)]
      simp
    · rw [Array.getElem?_setIfInBounds_ne (fun h => e h.symm)]
      simp [e]
  unfold todo
  rw [e]
  refine List.length_filter_lt_length_iff_exists.2 ⟨i, ?_, by simp⟩
  rw [List.mem_filter]
  refine ⟨List.mem_range.2 hi, ?_⟩
  have hlt : i < listed.size := by omega
  simp [Array.getD_eq_getD_getElem?, hlt] at h ⊢
  exact h
def bL (listed : Array Bool) (j : Nat) : Bool := listed.getD j false
theorem bL_true {listed : Array Bool} {j : Nat} (h : j < listed.size) : listed.getD j true = bL listed j := by
  simp [bL, Array.getD_eq_getD_getElem?, h]
theorem bL_lt {listed : Array Bool} {j : Nat} (h : bL listed j = true) : j < listed.size := by
  refine Classical.byContradiction fun hn => ?_
  simp [bL, Array.getD_eq_getD_getElem?, Array.getElem?_eq_none (by omega : listed.size ≤ j)] at h
theorem bL_set {listed : Array Bool} {i : Nat} (hi : i < listed.size) : bL (listed.setIfInBounds i true) = bset (bL listed) i := by
  funext j
  unfold bset bL
  simp only [Array.getD_eq_getD_getElem?]
  by_cases e : j = i
  · subst e
    rw [Array.getElem?_setIfInBounds_self_of_lt hi]
    simp
  · rw [Array.getElem?_setIfInBounds_ne (fun h => e h.symm)]
    simp [e]
theorem draw_any (g : Glob E ti) (hf : ∀ j, j < ops.size → Fact E ti ops st0 p j) (hback : backs 0 ops.toList = true) (hQ : ∀ a w, St.OK E (stT ops st0 p ops.size) a w → Q .normal a w) : ∀ (fuel : Nat) (listed : Array Bool) (a : Act) (w : World),
    listed.size = ops.size → Closed ops (bL listed) → todo ops.size listed ≤ fuel → Sim E (slB ops st0 p (bL listed) ops.size) (blB st0 p (bL listed) ops.size) (UB st0 (bL listed) ops.size) a w → wpAny E.P .any ops Q fuel listed a w := by
  have hedge : ∀ i, i < ops.size → ∀ e ∈ (opAt ops i).after.toList, Region.binds .any e = true → e.on < i := by
    intro i hi e he hb
    have := backs_spec ops.toList 0 hback i (opAt ops i) (by simp [opAt, Array.getD_eq_getD_getElem?, hi]) e he hb
    omega
  have fin : ∀ (listed : Array Bool) (a : Act) (w : World), listed.size = ops.size → Region.ready .any ops listed = [] → Sim E (slB ops st0 p (bL listed) ops.size) (blB st0 p (bL listed) ops.size) (UB st0 (bL listed) ops.size) a w → Q .normal a w := by
    intro listed a w hsz hnil hs
    have all : ∀ i, i < ops.size → bL listed i = true := by
      intro i
      induction i using Nat.strongRecOn with
      | _ i ih =>
        intro hi
        refine Classical.byContradiction fun hn => ?_
        have : i ∈ Region.ready .any ops listed := mem_ready.2 ⟨hi, by rw [bL_true (by omega)]; simpa using hn, fun e he hb => ih e.on (hedge i hi e he hb) (by have := hedge i hi e he hb; omega)⟩
        rw [hnil] at this; cases this
    refine hQ a w ?_
    unfold St.OK
    obtain ⟨h1, h2, h3⟩ := stT_spec (ops := ops) (st0 := st0) (p := p) ops.size
    rw [h1, h2, h3]
    have e1 : slB ops st0 p (fun _ => true) ops.size = slB ops st0 p (bL listed) ops.size := by
      funext t
      exact slB_agree ops.size (fun j hj hne => absurd (all j hj).symm hne)
    have e2 : blB st0 p (fun _ => true) ops.size = blB st0 p (bL listed) ops.size := by
      funext t
      exact blB_agree ops.size (fun j hj hne => absurd (all j hj).symm hne)
    have e3 : (fun m => m < st0.next + 8 * ops.size) = UB st0 (bL listed) ops.size := by
      funext m
      apply propext
      constructor
      · intro h
        by_cases hm : m < st0.next
        · exact .inl hm
        · exact .inr ⟨(m - st0.next) / 8, by omega, all _ (by omega), by omega, by omega⟩
      · rintro (h | ⟨j, h1, h2, h3, h4⟩) <;> omega
    rw [e1, e2, e3]
    exact hs
  intro fuel
  induction fuel with
  | zero =>
    intro listed a w hsz hcl htd hs
    have hnil : Region.ready .any ops listed = [] := by
      cases hr : Region.ready .any ops listed with
      | nil => rfl
      | cons i r =>
        obtain ⟨h1, h2, _⟩ := mem_ready.1 (show i ∈ Region.ready .any ops listed by rw [hr]; simp)
        have := todo_set h1 hsz h2
        omega
    exact ⟨hnil, fin listed a w hsz hnil hs⟩
  | succ fuel ih =>
    intro listed a w hsz hcl htd hs
    refine ⟨fun hnil => fin listed a w hsz hnil hs, fun i hi => ?_⟩
    obtain ⟨h1, h2, h3⟩ := mem_ready.1 hi
    have hbi : bL listed i = false := by rw [← bL_true (by omega)]; exact h2
    have hbef : ∀ j, ((Region.before ops).getD i 0).testBit j = true → bL listed j = true := by
      intro j hj
      obtain ⟨e, x1, x2, x3⟩ := before_spec i h1 j hj
      have hon := h3 e x1 x2
      rcases x3 with x3 | x3
      · rw [← x3]; exact hon
      · exact hcl e.on (by have := bL_lt hon; omega) hon j x3
    obtain ⟨s1, s2⟩ := draw_step (Q := Q) hf hcl h1 hbi hbef g hs
    rw [← bL_set (by omega)] at s1 s2
    have hcl' : Closed ops (bL (listed.setIfInBounds i true)) := by
      rw [bL_set (by omega)]
      intro k hk hbk j hj
      unfold bset at hbk ⊢
      rw [Bool.or_eq_true] at hbk ⊢
      rcases hbk with hbk | hbk
      · exact .inl (hcl k hk hbk j hj)
      · have : k = i := by simpa using hbk
        subst this
        exact .inl (hbef j hj)
    have htd' : todo ops.size (listed.setIfInBounds i true) ≤ fuel := by
      have := todo_set h1 hsz h2
      omega
    have ho : ops[i]? = some (opAt ops i) := by simp [opAt, Array.getD_eq_getD_getElem?, h1]
    unfold wpOp
    rw [ho]
    simp only
    by_cases hw : Region.wanted (opAt ops i) (yielded ops a.tmps) = true
    · rw [if_pos hw]
      exact .inl (Oper.wp_mono (fun a' w' h => ih _ a' w' (by simpa using hsz) hcl' htd' h) (s1 hw))
    · rw [if_neg hw]
      exact ih _ _ w (by simpa using hsz) hcl' htd' (s2 (by simpa using hw))
theorem region_draw_wp (g : Glob E ti) (hm : E.P.follows .mixedOrders = true) {id : Nat} {K : St → T} (hQ : ∀ st a w, St.OK E st a w → (K st).Holds E rvs QR QD → Q .normal a w) (hback : backs 0 ops.toList = true) {st : St} (hs : St.OK E st a w)
    (h : (exDraw E.n ti E.gt ops (Region.before ops) ops.toList 0 [] st fun st' => K (st'.clear ops.toList)).Holds E rvs QR QD) : (Code.region id ops true).wp E.P Q a w := by
  obtain ⟨p, hf, hk⟩ := facts_of (st0 := st) ops.toList 0 [] (fun _ => default) rfl (fun j hj => by omega) (fun j hj => by omega) h (Nat.zero_le _)
  refine wp_region_any hm (draw_any (st0 := st) (p := p) g hf hback (fun a w hs => hQ _ a w (ok_clear _ hs) hk) ops.size _ a _ (by simp) ?_ ?_ ?_)
  · intro i hi hb
    simp [bL, Array.getD_eq_getD_getElem?, hi] at hb
  · unfold todo
    exact Nat.le_trans (List.length_filter_le _ _) (by simp)
  · have hz : bL (Array.replicate ops.size false) = fun _ => false := by
      funext j
      unfold bL
      by_cases hj : j < ops.size <;> simp [Array.getD_eq_getD_getElem?, hj]
    rw [hz]
    have e1 : ∀ k, slB ops st p (fun _ => false) k = lookS st.slots := by
      intro k
      induction k with
      | zero => rfl
      | succ k ih => exact ih
    have e2 : ∀ k, blB st p (fun _ => false) k = lookB st.blks := by
      intro k
      induction k with
      | zero => rfl
      | succ k ih => exact ih
    have e3 : UB st (fun _ => false) ops.size = fun m => m < st.next := by
      funext m
      apply propext
      constructor
      · rintro (h | ⟨j, _, h, _⟩)
        · exact h
        · cases h
      · exact .inl
    rw [e1, e2, e3]
    exact sim_drew hs
end
end Go.Eng
set_option linter.unusedVariables false
set_option linter.unusedSimpArgs false
namespace Go.Eng
open Go.RowKit
section
variable {E : Env} {ti : TypeId → Option TI} {ψ : Nat → Value} {sl : Nat → Slot} {bl bl0 : Blks} {U : Nat → Prop} {a : Act} {w : World} {R : Patch → Prop} {Q : Exit → Act → World → Prop}
variable {rvs : Array ResultVar} {QR : List RR → Prop} {QD : Ex → St → Prop}
theorem load_run (hE : ∀ t i, ti t = some i → tiOf E.P t = some i) (hsub : Sub bl0 bl) {t : TypeId} {X : Slot} {V : Value} {tm : Array Value} (hs : SimP E ψ sl bl U a w) (hX : SlotRep w (okS E bl ψ w) ψ bl tm X V) (h : (ptLoad ti bl0 t X).All E.P E.gt R) :
    ∃ ad v r p, V = .pointer (some ad) ∧ (loadVar t ad).run E.P w = .ok v w ∧ R ⟨.rv r, p⟩ ∧ Frz bl p ∧ RVRep w (okS E (setB bl p) ψ w) ψ (setB bl p) r v ∧ ∀ m ∈ refsR r, U m := by
  unfold ptLoad at h
  split at h
  · exact h.elim
  · rename_i i hi
    obtain ⟨info, z, d0, g1, g2, g3, g4, g5, g6, g7, g8⟩ := ti_info hE hi
    split at h
    · -- a box
      rename_i n off
      split at h
      · rename_i cs hb
        have hb := hsub _ _ hb
        obtain ⟨b, vs, tt, k1, k2, k3, k4, k5⟩ := hs.blks n _ hb
        obtain ⟨b', e1, e2⟩ := hX (name_some hb)
        rw [k1] at e1
        injection e1 with e1; injection e1 with e1; injection e1 with e1
        subst e1
        have cellAt : ∀ j, j < vs.size → w.cell? ((⟨b, 0, none⟩ : Addr).add j) = some (vs.getD j undef) := by
          intro j hj
          rw [add_plain, Nat.zero_add]
          simp [World.cell?, k3, Array.getD_eq_getD_getElem?, hj]
        split at h
        · rename_i ha
          split at h
          · rename_i rs hp
            split at h
            · rename_i ds p hc
              have hc := cellsD_sub hsub hc
              have hfz := cellsD_frz hc
              obtain ⟨f1, f2, f3⟩ := cellsD_spec hc
              obtain ⟨q1, q2, q3, q4⟩ := partAt_spec hp
              obtain ⟨vs', hr', hrep⟩ := load_cells (P := E.P) (w := w) (ok := okS E (setB bl p) ψ w) (ds := ds) (ad := ⟨b, off, none⟩) f1 (fun j d hj => by
                obtain ⟨r, q', h1, h2, h3⟩ := f3 j d hj
                have hjl := (List.getElem?_eq_some_iff.1 h1).1
                rw [q3 j (by omega)] at h1
                have hv := (k5 (off + j) r h1).1
                refine ⟨vs.getD (off + j) undef, ?_, hs.toD hfz h2 h3 hv⟩
                have := cellAt (off + j) (by omega)
                rw [add_plain] at this ⊢
                rw [Nat.zero_add] at this
                exact this)
              refine ⟨_, .agg vs', _, _, e2, ?_, h, hfz, hrep, fun m hm => by cases hm⟩
              simp only [loadVar, Sem.run_bind, run_isAgg g2, ← g4, ha, Result.andThen_ok, if_true, run_size g1]
              rw [f2, q1, g5] at hr'
              simp [hr']
            · exact h.elim
          · exact h.elim
        · rename_i ha
          split at h
          · exact h.elim
          · rename_i r hne hp
            obtain ⟨q1, q2, q3, q4⟩ := partAt_spec hp
            have hr : cs[off]? = some r := by have := q3 0 (by omega); simpa using this.symm
            have hv := (k5 off r hr).1
            refine ⟨_, vs.getD off undef, _, [], e2, ?_, h, Frz.nil, hv, fun m hm => hs.brefs n cs hb r (List.mem_of_getElem? hr) m hm⟩
            have := cellAt off (by rw [k4]; omega)
            rw [add_plain, Nat.zero_add] at this
            simp only [loadVar, Sem.run_bind, run_isAgg g2, ← g4, ha, Result.andThen_ok, Bool.false_eq_true, if_false]
            simp [this]
          · exact h.elim
      · rename_i cs hb
        have hb := hsub _ _ hb
        obtain ⟨b, k1, k2, k3, k4⟩ := hs.blks n _ hb
        obtain ⟨b', e1, e2⟩ := hX (name_some hb)
        rw [k1] at e1
        injection e1 with e1; injection e1 with e1; injection e1 with e1
        subst e1
        obtain ⟨l1, l2⟩ := load_row (w := w) (ok := okS E bl ψ w) g1 g2 (cs := cs) (ad := ⟨b, 0, none⟩) (off := off) k3 (fun j d hj => by
          rw [add_plain, Nat.zero_add]; exact k4 j d hj)
        rw [add_plain, Nat.zero_add] at l1 l2
        split at h
        · rename_i ha
          split at h
          · rename_i ds hp
            obtain ⟨v, hv1, hv2⟩ := l1 ds (by rw [← g4]; exact ha) (by rw [← g5]; exact hp)
            exact ⟨_, _, .val _, [], e2, hv1, h, Frz.nil, hv2, fun m hm => by cases hm⟩
          · exact h.elim
        · rename_i ha
          split at h
          · rename_i d hp
            obtain ⟨v, hv1, hv2⟩ := l2 d (by rw [← g4]; exact ha) hp
            exact ⟨_, _, .val _, [], e2, hv1, h, Frz.nil, hv2, fun m hm => by cases hm⟩
          · exact h.elim
      · exact h.elim
    · -- a frozen row
      rename_i cs off
      obtain ⟨ad, e1, e2, e3, e4⟩ := hX
      obtain ⟨l1, l2⟩ := load_row (w := w) (ok := okS E bl ψ w) g1 g2 (cs := cs) (ad := ad) (off := off) e3 e4
      split at h
      · rename_i ha
        split at h
        · rename_i ds hp
          obtain ⟨v, hv1, hv2⟩ := l1 ds (by rw [← g4]; exact ha) (by rw [← g5]; exact hp)
          exact ⟨_, _, .val _, [], e1, hv1, h, Frz.nil, hv2, fun m hm => by cases hm⟩
        · exact h.elim
      · rename_i ha
        split at h
        · rename_i d hp
          obtain ⟨v, hv1, hv2⟩ := l2 d (by rw [← g4]; exact ha) hp
          exact ⟨_, _, .val _, [], e1, hv1, h, Frz.nil, hv2, fun m hm => by cases hm⟩
        · exact h.elim
    · -- an element of a row of the call's own
      rename_i n j sz off
      split at h
      · rename_i e rows hb
        have hb := hsub _ _ hb
        obtain ⟨cs, hj, h⟩ := h
        dsimp only at h
        obtain ⟨xs, k1, k2, k3, k4, k5⟩ := hs.blks n _ hb
        obtain ⟨b, m, cc, e1, e2⟩ := hX (name_some hb)
        have hsz : cs.length = szOf E.P e := k3 cs (List.mem_of_getElem? hj)
        have hcur : ∃ cur, w.heap[b]? = some (.cells cur e (0, 0)) ∧ cur.toList.take (rows.length * szOf E.P e) = xs := by
          rcases k2.2 with ⟨hv, hn⟩ | ⟨g, cap, cur, hv, _, hg, _, _, _, ht⟩
          · rw [hv] at e1; cases e1
          · rw [hv] at e1
            injection e1 with e1; injection e1 with e1; injection e1 with e1
            subst e1
            exact ⟨cur, hg, ht⟩
        obtain ⟨cur, hg, ht⟩ := hcur
        have lr := fun off' => load_row (w := w) (ok := okS E bl ψ w) g1 g2 (cs := cs) (ad := ⟨b, j * szOf E.P e, none⟩) (off := off') (k4 cs (List.mem_of_getElem? hj)) (fun i d hi => by
          obtain ⟨u, hu, hr⟩ := k5 j cs i d hj hi
          refine ⟨u, ?_, hr⟩
          rw [add_plain]
          rw [← ht, List.getElem?_take] at hu
          split at hu
          · simp only [World.cell?, hg]
            simpa using hu
          · cases hu)
        split at h
        · rename_i hz ha
          have hz : cs.length = sz := Nat.eq_of_beq_eq_true hz
          split at h
          · rename_i ds hp
            obtain ⟨v, hv1, hv2⟩ := (lr off).1 ds (by rw [← g4]; exact ha) (by rw [← g5]; exact hp)
            rw [add_plain, ← hsz, hz] at hv1
            exact ⟨_, _, .val _, [], e2, hv1, h, Frz.nil, hv2, fun m hm => by cases hm⟩
          · exact h.elim
        · rename_i hz ha
          have hz : cs.length = sz := Nat.eq_of_beq_eq_true hz
          split at h
          · rename_i d hp
            obtain ⟨v, hv1, hv2⟩ := (lr off).2 d (by rw [← g4]; exact ha) hp
            rw [add_plain, ← hsz, hz] at hv1
            exact ⟨_, _, .val _, [], e2, hv1, h, Frz.nil, hv2, fun m hm => by cases hm⟩
          · exact h.elim
        · exact h.elim
      · exact h.elim
    · exact h.elim
theorem setB_in {p : Pch} {n : Nat} {k : Blk} (h : setB bl p n = some k) (hne : bl n ≠ some k) : (n, some k) ∈ p := by
  unfold setB at h
  split at h
  · rename_i x hx
    have h1 := List.find?_some hx
    have h2 := List.mem_of_find?_eq_some hx
    have : n = x.1 := Nat.eq_of_beq_eq_true h1
    rw [this, ← h]
    exact h2
  · exact absurd h hne
theorem okS_more {p q : Pch} (hp : Frz bl p) (hq : Frz bl q) (hpq : ∀ y ∈ p, y ∈ q) {b : Nat} (h : okS E (setB bl p) ψ w b) : okS E (setB bl q) ψ w b := by
  refine ⟨h.1, h.2.1, fun nm k hk hl => h.2.2 nm k ?_ hl⟩
  have hb := setB_frz_live hq hk hl
  rcases setB_frz hp nm with h1 | ⟨e, rows, h1, h2⟩ | ⟨cs, ds, q', h1, h2, h3, h4⟩
  · rw [h1]; exact hb
  · exfalso
    have hm := setB_in h2 (by rw [h1]; simp)
    have := frz_own hq h1 (hpq _ hm)
    rw [this] at hk
    injection hk with hk
    subst hk
    cases hl
  · exfalso
    have hm := setB_in h2 (by rw [h1]; simp)
    have := frz_box hq h1 h3 (hpq _ hm)
    rw [this] at hk
    injection hk with hk
    subst hk
    cases hl
theorem rv_more {p q : Pch} (hp : Frz bl p) (hq : Frz bl q) (hpq : ∀ y ∈ p, y ∈ q) {r : RV} {v : Value} (h : RVRep w (okS E (setB bl p) ψ w) ψ (setB bl p) r v) : RVRep w (okS E (setB bl q) ψ w) ψ (setB bl q) r v := by
  cases r with
  | val d => exact Rep.mono (fun _ _ => rfl) (fun b hb => okS_more hp hq hpq hb) h
  | own m => intro hs; exact h (by rw [setB_frz_some hp, ← setB_frz_some hq]; exact hs)
  | nils => exact h
  | any => trivial
theorem res_run (g : Glob E ti) {st : St} (hs : SimP E ψ (lookS st.slots) (lookB st.blks) U a w) {x : ResultVar} {r : RV} {p : Pch} (h : resOf ti st x = some (r, p)) :
    ∃ v, (match x with
      | .tmp t => pure (a.tmps.getD t undef)
      | .cell c t => do loadVar t (← asAddr (a.tmps.getD c undef)) : Sem Value).run E.P w = .ok v w ∧ Frz (lookB st.blks) p ∧ RVRep w (okS E (setB (lookB st.blks) p) ψ w) ψ (setB (lookB st.blks) p) r v := by
  unfold resOf at h
  split at h
  · rename_i t
    split at h
    · rename_i r' hr
      injection h with h
      injection h with h1 h2
      subst h1 h2
      have := hs.slots t
      rw [hr] at this
      exact ⟨_, by simp, Frz.nil, this⟩
    · cases h
  · rename_i c t
    split at h
    · rename_i r' p' hl
      injection h with h
      injection h with h1 h2
      subst h1 h2
      obtain ⟨ad, v, r2, p2, e1, e2, e3, e4, e5, e6⟩ := load_run (R := fun q => q = ⟨.rv r', p'⟩) g.hti (fun _ _ h => h) hs (hs.slots c) (by rw [hl]; rfl)
      injection e3 with e31 e32
      injection e31 with e31
      subst e31 e32
      refine ⟨v, ?_, e4, e5⟩
      simp [e1, asAddr, e2]
    · cases h
def resSem (tmps : Array Value) : ResultVar → Sem Value
  | .tmp t => pure (tmps.getD t undef)
  | .cell c t => do loadVar t (← asAddr (tmps.getD c undef))
theorem run_mapM {P : Program} {α : Type} {f : α → Sem Value} : ∀ {l : List α} {vs : List Value}, l.length = vs.length → (∀ (i : Nat) (x : α) (v : Value), l[i]? = some x → vs[i]? = some v → (f x).run P w = .ok v w) → (l.mapM f).run P w = .ok vs w
  | [], [], _, _ => by simp
  | [], _ :: _, h, _ => by simp at h
  | _ :: _, [], h, _ => by simp at h
  | x :: l, v :: vs, hl, h => by
    have h0 := h 0 x v rfl rfl
    have ih := run_mapM (l := l) (vs := vs) (by simpa using hl) (fun i y u hy hu => h (i + 1) y u (by simpa using hy) (by simpa using hu))
    simp [List.mapM_cons, h0, ih]
theorem results_run {P : Program} {rs : List ResultVar} {tmps : Array Value} {vs : List Value} (h : (rs.mapM (resSem tmps)).run P w = .ok vs w) : (results { (default : Func) with results := rs.toArray } tmps).run P w = .ok (tupV vs) w := by
  have e : (results { (default : Func) with results := rs.toArray } tmps) = (do let vs ← rs.toArray.mapM (resSem tmps); pure (if h : vs.size = 1 then vs[0] else .tuple vs)) := by
    unfold results
    congr 1
  rw [e, List.mapM_toArray]
  simp only [Sem.run_bind, Sem.run_map, h]
  simp only [Result.andThen_ok, Sem.run_pure]
  match vs with
  | [] => rfl
  | [u] => rfl
  | _ :: _ :: _ => simp [tupV]
theorem mapO_spec {α β : Type} {f : α → Option β} : ∀ {l : List α} {m : List β}, mapO f l = some m → m.length = l.length ∧ ∀ (i : Nat) (x : α), l[i]? = some x → ∃ y, m[i]? = some y ∧ f x = some y
  | [], m, h => by simp [mapO] at h; subst h; exact ⟨rfl, fun i x hi => by simp at hi⟩
  | a :: r, m, h => by
    unfold mapO at h
    split at h
    · rename_i y ys h1 h2
      injection h with h
      subst h
      obtain ⟨i1, i2⟩ := mapO_spec h2
      refine ⟨by simp [i1], fun i x hi => ?_⟩
      cases i with
      | zero => simp at hi; subst hi; exact ⟨y, rfl, h1⟩
      | succ i => obtain ⟨z, z1, z2⟩ := i2 i x (by simpa using hi); exact ⟨z, by simpa using z1, z2⟩
    · cases h
theorem distinct_spec : ∀ {l : List RV}, distinct (ownNames l) = true → ∀ (i j m : Nat), l[i]? = some (.own m) → l[j]? = some (.own m) → i = j
  | [], _, i, j, m, h, _ => by simp at h
  | x :: r, hd, i, j, m, hi, hj => by
    have tail : distinct (ownNames r) = true := by
      cases x <;> simp only [ownNames] at hd <;> try exact hd
      unfold distinct at hd
      split at hd
      · cases hd
      · exact hd
    have mem : ∀ {l : List RV} {k : Nat}, l[k]? = some (.own m) → m ∈ ownNames l := by
      intro l
      induction l with
      | nil => intro k h; simp at h
      | cons y s ih =>
        intro k h
        cases k with
        | zero => simp at h; subst h; simp [ownNames]
        | succ k =>
          have := ih (k := k) (by simpa using h)
          cases y <;> simp [ownNames, this]
    have head : x = .own m → m ∈ ownNames r → False := by
      intro e hm
      subst e
      simp only [ownNames] at hd
      unfold distinct at hd
      rw [natIn_mem.2 hm] at hd
      cases hd
    cases i with
    | zero =>
      cases j with
      | zero => rfl
      | succ j => exact (head (by simpa using hi) (mem (k := j) (by simpa using hj))).elim
    | succ i =>
      cases j with
      | zero => exact (head (by simpa using hj) (mem (k := i) (by simpa using hi))).elim
      | succ j => rw [distinct_spec tail i j m (by simpa using hi) (by simpa using hj)]
theorem frz_flat {l : List (RV × Pch)} (h : ∀ x ∈ l, Frz bl x.2) : Frz bl (l.flatMap (·.2)) := by
  induction l with
  | nil => exact Frz.nil
  | cons x r ih =>
    rw [List.flatMap_cons]
    exact (h x (by simp)).append (ih (fun y hy => h y (List.mem_cons_of_mem _ hy)))
theorem ret_sound (g : Glob E ti) {rs : List ResultVar} {st : St} (hs : St.OK E st a w) (h : (retT ti st rs).Holds E rs.toArray QR QD) : RetOK E rs.toArray QR a w := by
  obtain ⟨ψ, hs⟩ := hs
  unfold retT at h
  split at h
  · exact h.elim
  · rename_i l hl
    split at h
    · rename_i rr hd hrr
      obtain ⟨l1, l2⟩ := mapO_spec hl
      obtain ⟨m1, m2⟩ := mapO_spec hrr
      rw [lookB_append] at m2
      have hres : ∀ i : Nat, ∃ v, ∀ (x : ResultVar) (y : RV × Pch), rs[i]? = some x → l[i]? = some y → (resSem a.tmps x).run E.P w = .ok v w ∧ Frz (lookB st.blks) y.2 ∧ RVRep w (okS E (setB (lookB st.blks) y.2) ψ w) ψ (setB (lookB st.blks) y.2) y.1 v := by
        intro i
        cases hx : rs[i]? with
        | none => exact ⟨undef, fun x y e => by cases e⟩
        | some x =>
          obtain ⟨y, hy, hr⟩ := l2 i x hx
          obtain ⟨v, v1, v2, v3⟩ := res_run g hs (r := y.1) (p := y.2) (by rw [hr])
          refine ⟨v, fun x' y' e e' => ?_⟩
          injection e with e
          subst e
          rw [hy] at e'
          injection e' with e'
          subst e'
          refine ⟨?_, v2, v3⟩
          cases x <;> exact v1
      have hfz : ∀ y ∈ l, Frz (lookB st.blks) y.2 := by
        intro y hy
        obtain ⟨i, hi⟩ := List.mem_iff_getElem?.1 hy
        obtain ⟨v, hv⟩ := hres i
        have hil := (List.getElem?_eq_some_iff.1 hi).1
        exact (hv rs[i] y (List.getElem?_eq_getElem (by omega)) hi).2.1
      have hp := frz_flat hfz
      have hs2 := (hs.frz hp).2
      let f : Nat → Value := fun i => Classical.choose (hres i)
      have hfs := fun i => Classical.choose_spec (hres i)
      have hvl : ((List.range rs.length).map f).length = rs.length := by simp
      have hat : ∀ i, i < rs.length → ((List.range rs.length).map f)[i]? = some (f i) := by intro i hi; simp [hi]
      have hgd : ∀ i, i < rs.length → ((List.range rs.length).map f).getD i undef = f i := by intro i hi; simp [List.getD_eq_getElem?_getD, hi]
      have hrun : (rs.mapM (resSem a.tmps)).run E.P w = .ok ((List.range rs.length).map f) w := by
        refine run_mapM (by simp) (fun i x v hx hv => ?_)
        have hil := (List.getElem?_eq_some_iff.1 hx).1
        rw [hat i hil] at hv
        injection hv with hv
        subst hv
        exact (hfs i x l[i] hx (List.getElem?_eq_getElem (by omega))).1
      have hrv : ∀ (i : Nat) (y : RV × Pch), l[i]? = some y → RVRep w (okS E (setB (lookB st.blks) (l.flatMap (·.2))) ψ w) ψ (setB (lookB st.blks) (l.flatMap (·.2))) y.1 (f i) := by
        intro i y hy
        have hil := (List.getElem?_eq_some_iff.1 hy).1
        have hx := hfs i rs[i] y (List.getElem?_eq_getElem (by omega)) hy
        exact rv_more hx.2.1 hp (fun z hz => List.mem_flatMap.2 ⟨y, List.mem_of_getElem? hy, hz⟩) hx.2.2
      have hlen : rr.length = rs.length := by rw [m1, List.length_map, l1]
      have one : ∀ (i : Nat) (r : RR), rr[i]? = some r → ∃ y, l[i]? = some y ∧ retRR (setB (lookB st.blks) (l.flatMap (·.2))) y.1 = some r := by
        intro i r hi
        have hil := (List.getElem?_eq_some_iff.1 hi).1
        have hy : l[i]? = some l[i] := List.getElem?_eq_getElem (by omega)
        obtain ⟨z, z1, z2⟩ := m2 i l[i].1 (by rw [List.getElem?_map, hy]; rfl)
        rw [hi] at z1
        injection z1 with z1
        subst z1
        exact ⟨l[i], hy, z2⟩
      have own : ∀ (i : Nat) (e : TypeId) (rows : List (List D)), rr[i]? = some (.own e rows) → ∃ n, (∃ q, l[i]? = some (.own n, q)) ∧ setB (lookB st.blks) (l.flatMap (·.2)) n = some (.vec e rows) ∧ f i = ψ n := by
        intro i e rows hi
        obtain ⟨⟨y, q⟩, hy, hr⟩ := one i _ hi
        have hv := hrv i _ hy
        dsimp only at hr hv
        unfold retRR at hr
        split at hr
        · cases hr
        · rename_i n
          split at hr
          · rename_i e' rows' hb
            injection hr with hr
            injection hr with h1 h2
            subst h1 h2
            exact ⟨n, ⟨q, hy⟩, hb, hv (by rw [hb]; rfl)⟩
          · cases hr
          · cases hr
        · cases hr
        · cases hr
      refine ⟨hs.defers, hs.below, rr, _, h, results_run hrun, okS E (setB (lookB st.blks) (l.flatMap (·.2))) ψ w, fun b hb => ⟨?_, hb.2.1⟩, _, by rw [hvl, hlen], rfl, fun i r hi => ?_, fun i j r s hi hj ho1 ho2 hne => ?_⟩
      · by_cases hlt : b < E.w0.heap.size
        · exact .inl (hb.1 hlt)
        · exact .inr (by omega)
      · have hil := (List.getElem?_eq_some_iff.1 hi).1
        rw [hgd i (by omega)]
        obtain ⟨⟨y, q⟩, hy, hr⟩ := one i r hi
        have hv := hrv i _ hy
        dsimp only at hr hv
        unfold retRR at hr
        split at hr
        · injection hr with hr
          subst hr
          exact hv
        · rename_i n
          split at hr
          · rename_i e rows hb
            injection hr with hr
            subst hr
            have hψ : f i = ψ n := hv (by rw [hb]; rfl)
            obtain ⟨xs, x1, x2, x3, x4, x5⟩ := hs2.blks n _ hb
            refine ⟨xs, x1, by rw [hψ]; exact x2, x3, x4, x5, fun b hb' hok => ?_⟩
            exact hok.2.2 n _ hb rfl (by rw [← hψ]; exact hb')
          · rename_i rows hb
            injection hr with hr
            subst hr
            have hψ : f i = ψ n := hv (by rw [hb]; rfl)
            show Rep w _ (f i) _
            rw [hψ]
            exact hs2.blks n _ hb
          · cases hr
        · injection hr with hr
          subst hr
          have hψ : f i = .slice none 0 0 := hv
          show Rep w _ (f i) _
          rw [hψ]
          exact .slice none 0 0 [] 0 ⟨0, 0, none⟩ (fun _ _ => undef) rfl (Nat.le_refl _) (by omega) (by simp) (by simp) (fun h => by omega) (fun i r j d hi => by simp at hi) (fun i r j d hi => by simp at hi)
        · cases hr
      · have hil := (List.getElem?_eq_some_iff.1 hi).1
        have hjl := (List.getElem?_eq_some_iff.1 hj).1
        rw [hgd i (by omega), hgd j (by omega)]
        cases r with
        | val d => cases ho1
        | own e rows =>
          cases s with
          | val d => cases ho2
          | own e' rows' =>
            obtain ⟨n, ⟨q, n1⟩, n2, n3⟩ := own i e rows hi
            obtain ⟨n', ⟨q', n1'⟩, n2', n3'⟩ := own j e' rows' hj
            rw [n3, n3']
            refine hs2.apart n n' _ _ n2 n2' rfl rfl (fun e => hne ?_)
            subst e
            exact distinct_spec hd i j n (by rw [List.getElem?_map, n1]; rfl) (by rw [List.getElem?_map, n1']; rfl)
    · exact h.elim
end
end Go.Eng
set_option linter.unusedVariables false
set_option linter.unusedSimpArgs false
namespace Go.Eng
open Go.RowKit
section
variable {E : Env} {ti : TypeId → Option TI} {rs : List ResultVar} {QR : List RR → Prop} {QD : Ex → St → Prop}
theorem exec_wp (g : Glob E ti) (hm : E.P.follows .mixedOrders = true) : ∀ (c : Code) (st : St) (k : Ex → St → T) (a : Act) (w : World), St.OK E st a w → (exec E.n ti E.gt rs c st k).Holds E rs.toArray QR QD →
    c.wp E.P (Post E rs.toArray QR fun e st' => (k e st').Holds E rs.toArray QR QD) a w := by
  intro c
  induction c with
  | skip => intro st k a w hs h; exact wp_skip ⟨st, hs, h⟩
  | region id ops d =>
    intro st k a w hs h
    cases d with
    | false => exact region_wp g (K := fun st' => k .normal st') (fun st a w hs h => ⟨st, hs, h⟩) hs h
    | true =>
      unfold exec at h
      split at h
      · exact h.elim
      · rename_i hb
        exact region_draw_wp g hm (K := fun st' => k .normal st') (fun st a w hs h => ⟨st, hs, h⟩) hb hs h
  | seq x y ihx ihy =>
    intro st k a w hs h
    refine wp_seq (wp_mono (ihx st _ a w hs h) (fun e a' w' he => ?_))
    cases e with
    | normal =>
      obtain ⟨st', h1, h2⟩ := he
      dsimp only at h2
      split at h2
      · exact h2 a' w' h1
      · exact ihy st' k a' w' h1 h2
    | exit id =>
      obtain ⟨st', h1, h2⟩ := he
      exact ⟨st', h1, h2⟩
    | ret => exact he
    | goto l => exact he.elim
    | panic ch => exact he.elim
    | outgrown => exact he.elim
  | cond c x y ihx ihy =>
    intro st k a w hs h
    unfold exec at h
    split at h
    · rename_i b hc
      obtain ⟨ψ, hs'⟩ := hs
      have hv := ev_rep hs' g.good c
      rw [hc] at hv
      have hv := Rep.bool_inv (w := w) hv
      exact wp_cond_split hv (fun hb => ihx st k a w ⟨ψ, hs'⟩ (h.1 hb)) (fun hb => ihy st k a w ⟨ψ, hs'⟩ (h.2 hb))
    · exact h.elim
  | block id body ih =>
    intro st k a w hs h
    refine wp_block (wp_mono (ih st _ a w hs h) (fun e a' w' he => ?_))
    cases e with
    | normal => exact he
    | exit j =>
      obtain ⟨st', h1, h2⟩ := he
      dsimp only at h2
      show if j = id then Post E rs.toArray QR (fun e st' => T.Holds E rs.toArray QR QD (k e st')) Exit.normal a' w' else Post E rs.toArray QR (fun e st' => T.Holds E rs.toArray QR QD (k e st')) (Exit.exit j) a' w'
      split at h2
      · rename_i hj
        rw [if_pos (Nat.eq_of_beq_eq_true hj)]
        exact ⟨st', h1, h2⟩
      · rename_i hj
        rw [if_neg (by intro e; subst e; simp at hj)]
        exact ⟨st', h1, h2⟩
    | ret => exact he
    | goto l => exact he.elim
    | panic ch => exact he.elim
    | outgrown => exact he.elim
  | loop body ih => intro st k a w hs h; exact h a w hs
  | exit id => intro st k a w hs h; exact wp_exit ⟨st, hs, h⟩
  | ret => intro st k a w hs h; exact wp_ret (ret_sound g hs h)
  | _ => intros; rename_i h; exact h.elim
end
end Go.Eng
set_option linter.unusedVariables false
set_option linter.unusedSimpArgs false
namespace Go.Eng
open Go.RowKit
def RR.weak : RR → RR → Prop
  | r, s => r = s ∨ ∃ e rows, r = .own e rows ∧ s = .val (.slice rows)
def weakL : List RR → List RR → Prop
  | [], [] => True
  | r :: rs, s :: ss => RR.weak r s ∧ weakL rs ss
  | _, _ => False
theorem weakL_spec : ∀ {rs ss : List RR}, weakL rs ss → rs.length = ss.length ∧ ∀ (i : Nat) (s : RR), ss[i]? = some s → ∃ r, rs[i]? = some r ∧ RR.weak r s
  | [], [], _ => ⟨rfl, fun i s h => by simp at h⟩
  | [], _ :: _, h => h.elim
  | _ :: _, [], h => h.elim
  | r :: rs, s :: ss, h => by
    obtain ⟨i1, i2⟩ := weakL_spec h.2
    refine ⟨by simp [i1], fun i x hi => ?_⟩
    cases i with
    | zero => simp at hi; subst hi; exact ⟨r, rfl, h.1⟩
    | succ i => obtain ⟨y, y1, y2⟩ := i2 i x (by simpa using hi); exact ⟨y, by simpa using y1, y2⟩
theorem weakL_refl : ∀ {rs : List RR}, weakL rs rs
  | [] => trivial
  | r :: rs => ⟨.inl rfl, weakL_refl⟩
theorem ret_weak {P : Program} {B : Nat} {w : World} {ok : Nat → Prop} {okr : Nat → Prop} {rs ss : List RR} {v : Value} (hw : weakL rs ss) (hb : ∀ b, okr b → (ok b ∨ B ≤ b) ∧ b < w.heap.size) (h : RetRep P B w okr rs v) :
    ∃ okr' : Nat → Prop, (∀ b, okr' b → (ok b ∨ B ≤ b) ∧ b < w.heap.size) ∧ RetRep P B w okr' ss v := by
  obtain ⟨vs, v1, v2, v3, v4⟩ := h
  obtain ⟨w1, w2⟩ := weakL_spec hw
  have hsub : ∀ b, okr b → (okr b ∨ ∃ i e rows, rs[i]? = some (.own e rows) ∧ ss[i]? = some (.val (.slice rows)) ∧ ptrBlock (vs.getD i undef) = some b) := fun b h => .inl h
  refine ⟨fun b => okr b ∨ ∃ i e rows, rs[i]? = some (.own e rows) ∧ ss[i]? = some (.val (.slice rows)) ∧ ptrBlock (vs.getD i undef) = some b, fun b hb' => ?_, vs, by rw [v1, w1], v2, fun i s hi => ?_, fun i j r s hi hj ho1 ho2 hne => ?_⟩
  · rcases hb' with h | ⟨i, e, rows, h1, h2, h3⟩
    · exact hb b h
    · obtain ⟨xs, x1, x2, _⟩ := v3 i _ h1
      have := owns_block x2 h3
      exact ⟨.inr this.1, this.2⟩
  · obtain ⟨r, hr, hrs⟩ := w2 i s hi
    have hv := v3 i r hr
    rcases hrs with rfl | ⟨e, rows, rfl, rfl⟩
    · cases r with
      | val d => exact Rep.mono (fun _ _ => rfl) hsub hv
      | own e rows =>
        obtain ⟨xs, x1, x2, x3, x4, x5, x6⟩ := hv
        refine ⟨xs, x1, x2, x3, x4, fun i' r j d hi' hj => ?_, fun b hb' h => ?_⟩
        · obtain ⟨u, u1, u2⟩ := x5 i' r j d hi' hj
          exact ⟨u, u1, u2.mono (fun _ _ => rfl) hsub⟩
        · rcases h with h | ⟨k, e', rows', h1, h2, h3⟩
          · exact x6 b hb' h
          · have hik : i ≠ k := fun e => by subst e; rw [hi] at h2; injection h2 with h2; cases h2
            rcases v4 i k _ _ hr h1 rfl rfl hik with h4 | h4
            · rw [h4] at hb'; cases hb'
            · exact h4 (by rw [hb', h3])
    · obtain ⟨xs, x1, x2, x3, x4, x5, x6⟩ := hv
      exact rep_of_row x1 x2 x3 x4 (fun i' r j d hi' hj => by
        obtain ⟨u, u1, u2⟩ := x5 i' r j d hi' hj
        exact ⟨u, u1, u2.mono (fun _ _ => rfl) hsub⟩) (fun b hb' => .inr ⟨i, e, rows, hr, hi, hb'⟩)
  · obtain ⟨r', hr', hrs'⟩ := w2 i r hi
    obtain ⟨s', hs', hss'⟩ := w2 j s hj
    rcases hrs' with rfl | ⟨e, rows, rfl, rfl⟩
    · rcases hss' with rfl | ⟨e, rows, rfl, rfl⟩
      · exact v4 i j _ _ hr' hs' ho1 ho2 hne
      · cases ho2
    · cases ho1
end Go.Eng
set_option linter.unusedVariables false
set_option linter.unusedSimpArgs false
namespace Go.Eng
open Go.RowKit
def argSlot : Arg → Slot
  | .val d => .rv (.val d)
  | .row cs => .row cs 0
def argSlots : Nat → List Arg → List (Nat × Slot)
  | _, [] => []
  | i, a :: r => (i, argSlot a) :: argSlots (i + 1) r
def st0 (args : List Arg) : St := { slots := argSlots 0 args, blks := [], next := 0 }
def k0 (ti : TypeId → Option TI) (rs : List ResultVar) : Ex → St → T
  | .normal, st => retT ti st rs
  | .exit _, _ => .fail
theorem argSlots_look : ∀ (l : List Arg) (n i : Nat), lookS (argSlots n l) i = if n ≤ i then match l[i - n]? with
    | some a => argSlot a
    | none => .unit
    else .unit
  | [], n, i => by simp [argSlots, lookS]
  | a :: r, n, i => by
    show lookS ((n, argSlot a) :: argSlots (n + 1) r) i = _
    rw [lookS_cons, argSlots_look r (n + 1) i]
    by_cases h : i = n
    · subst h; simp
    · rw [if_neg h]
      by_cases h2 : n + 1 ≤ i
      · rw [if_pos h2, if_pos (by omega), show i - n = (i - (n + 1)) + 1 by omega, List.getElem?_cons_succ]
      · rw [if_neg h2, if_neg (by omega)]
theorem spec_of {P : Program} {gt : Nat → Option (List D)} {ti : TypeId → Option TI} {f : FuncId} {fn : Func} {c : Code} {args : List Arg} {rr : List RR} {n : Nat} {rs : List ResultVar}
    (hm : P.follows .mixedOrders = true) (hti : ∀ t i, ti t = some i → tiOf P t = some i) (hf : P.funcs[f]? = some fn) (hb : fn.body = some c) (hname : (fn.name == "runtime.NumGoroutine") = false) (hn : fn.ntmps = n) (hle : args.length ≤ n) (hrs : fn.results = rs.toArray)
    (h : ∀ E : Env, E.P = P → E.gt = gt → E.n = n → E.Good → (exec n ti gt rs c (st0 args) (k0 ti rs)).Holds E rs.toArray (fun r => weakL r rr) (fun _ _ => False)) : Spec P gt f args rr := by
  intro w vs ok hok hglob hsz hargs
  refine .inl ⟨⟨fn, hf, by rw [hb]; rfl, hname⟩, calls_of_wp hf hb ?_⟩
  let E : Env := ⟨P, gt, w, ok, n⟩
  have g : Glob E ti := ⟨⟨hok, hglob⟩, hti⟩
  have hokS : ∀ b, ok b → okS E (lookB (st0 args).blks) (fun _ => undef) w b := fun b hb => ⟨fun _ => hb, hok b hb, fun nm k hk => by cases hk⟩
  have hs : St.OK E (st0 args) { tmps := vs ++ Array.replicate (fn.ntmps - vs.size) undef, defers := [] } w := by
    refine ⟨fun _ => undef, ?_, rfl, Below.refl _ _, fun i => ?_, fun nm k hk => (by cases hk), fun nm nm' k k' hk => (by cases hk), fun nm _ => rfl, fun i m hm => ?_, fun nm cs hk => (by cases hk), fun i l l' s' e => ?_⟩
    · simp [E]; omega
    · show SlotRep _ _ _ _ _ (lookS (argSlots 0 args) i) _
      rw [argSlots_look, if_pos (Nat.zero_le _), Nat.sub_zero]
      cases hi : args[i]? with
      | none => trivial
      | some x =>
        have hil := (List.getElem?_eq_some_iff.1 hi).1
        have hx := hargs i x hi
        have e : (vs ++ Array.replicate (fn.ntmps - vs.size) undef).getD i undef = vs.getD i undef := by
          rw [Array.getD_eq_getD_getElem?, Array.getElem?_append_left (by omega), Array.getD_eq_getD_getElem?]
        show SlotRep _ _ _ _ _ (argSlot x) ((vs ++ Array.replicate (fn.ntmps - vs.size) undef).getD i undef)
        rw [e]
        cases x with
        | val d => exact Rep.mono (fun _ _ => rfl) hokS hx
        | row cs =>
          obtain ⟨ad, h1, h2, h3, h4⟩ := hx
          refine ⟨ad, by simpa [Addr.add] using h1, hokS _ h2, h3, fun j d hj => ?_⟩
          obtain ⟨u, u1, u2⟩ := h4 j d hj
          exact ⟨u, u1, u2.mono (fun _ _ => rfl) hokS⟩
    · change m ∈ refsS (lookS (argSlots 0 args) i) at hm
      rw [argSlots_look, if_pos (Nat.zero_le _)] at hm
      cases hi : args[i - 0]? with
      | none => rw [hi] at hm; cases hm
      | some x => rw [hi] at hm; cases x <;> cases hm
    · change lookS (argSlots 0 args) i = _ at e
      rw [argSlots_look, if_pos (Nat.zero_le _)] at e
      cases hi : args[i - 0]? with
      | none => rw [hi] at e; cases e
      | some x => rw [hi] at e; cases x <;> cases e
  have fin : ∀ a' w', RetOK E rs.toArray (fun r => weakL r rr) a' w' → a'.defers = [] ∧ ∃ v, (results fn a'.tmps).run P w' = .ok v w' ∧ ∃ v', Ending.returned v = .returned v' ∧ Below w.heap.size w w' ∧ ∃ okr : Nat → Prop, (∀ b, okr b → (ok b ∨ w.heap.size ≤ b) ∧ b < w'.heap.size) ∧ RetRep P w.heap.size w' okr rr v' := by
    rintro a' w' ⟨h1, h2, rr', v, hwk, h3, okr, h4, h5⟩
    refine ⟨h1, v, ?_, v, rfl, h2, ret_weak hwk h4 h5⟩
    rw [← h3]
    unfold results
    rw [hrs]
  refine wp_mono (exec_wp (QD := fun _ _ => False) g hm c _ _ _ w hs (h E rfl rfl rfl g.good)) (fun e a' w' he => ?_)
  cases e with
  | normal =>
    obtain ⟨st', h1, h2⟩ := he
    exact fin a' w' (ret_sound (QD := fun _ _ => False) g h1 h2)
  | exit id =>
    obtain ⟨st', h1, h2⟩ := he
    exact h2.elim
  | ret => exact fin a' w' he
  | goto l => exact he.elim
  | panic ch => exact he.elim
  | outgrown => exact he.elim
end Go.Eng
set_option linter.unusedVariables false
set_option linter.unusedSimpArgs false
namespace Go.Eng
open Go.RowKit
def idxIn (m : Nat) : List Nat → Nat → Option Nat
  | [], _ => none
  | n :: r, i => match Nat.beq n m with
    | true => some i
    | false => idxIn m r (i + 1)
def renR (bl : Blks) (ns : List Nat) : RV → RV
  | .val d => .val d
  | .nils => .nils
  | .any => .any
  | .own m => match bl m with
    | some (.fro rows) => .val (.slice rows)
    | some (.vec _ _) => match idxIn m ns 0 with
      | some i => .own i
      | none => .any
    | _ => .any
def renS (bl : Blks) (ns : List Nat) : Slot → Slot
  | .rv r => .rv (renR bl ns r)
  | .row cs o => .row cs o
  | .box m o => match bl m with
    | some (.frob cs) => .row cs o
    | some (.box _) => match idxIn m ns 0 with
      | some i => .box i o
      | none => .unit
    | _ => .unit
  | _ => .unit
def renB (bl : Blks) (ns : List Nat) : Option Blk → Option Blk
  | some (.box cs) => some (.box (cs.map (renR bl ns)))
  | some (.vec e rows) => some (.vec e rows)
  | _ => none
def ownsR (bl : Blks) : RV → List Nat
  | .own m => match bl m with
    | some (.vec _ _) => [m]
    | _ => []
  | _ => []
def froR (bl : Blks) : RV → Pch
  | .own m => match bl m with
    | some (.vec _ rows) => [(m, some (.fro rows))]
    | _ => []
  | _ => []
def cat {α β : Type} (f : α → List β) : List α → List β
  | [] => []
  | a :: r => f a ++ cat f r
theorem mem_cat {α β : Type} {f : α → List β} {b : β} : ∀ {l : List α}, b ∈ cat f l → ∃ a ∈ l, b ∈ f a
  | [], h => by cases h
  | a :: r, h => by
    rcases List.mem_append.1 h with h | h
    · exact ⟨a, by simp, h⟩
    · obtain ⟨x, x1, x2⟩ := mem_cat h; exact ⟨x, List.mem_cons_of_mem _ x1, x2⟩
def frzAt (sl : Nat → Slot) (bl : Blks) : Nat × Bool → Pch
  | (_, false) => []
  | (i, true) => match sl i with
    | .rv r => froR bl r
    | .box m _ => match bl m with
      | some (.box cs) => cat (froR bl) cs
      | _ => []
    | _ => []
def namesAt (sl : Nat → Slot) (bl : Blks) (x : Nat × Bool) : List Nat := match sl x.1 with
  | .rv r => ownsR bl r
  | .box m _ => match bl m with
    | some (.box cs) => m :: cat (ownsR bl) cs
    | _ => []
  | _ => []
def nub : List Nat → List Nat → List Nat
  | [], _ => []
  | n :: r, seen => match natIn n seen with
    | true => nub r seen
    | false => n :: nub r (n :: seen)
def numB (bl : Blks) (ns : List Nat) : List Nat → Nat → List (Nat × Option Blk)
  | [], _ => []
  | n :: r, i => (i, renB bl ns (bl n)) :: numB bl ns r (i + 1)
def canon1 (live : List (Nat × Bool)) (sl : Nat → Slot) (bl : Blks) : St :=
  let ns := nub (cat (namesAt sl bl) live) []
  match distinct ns with
  | true => { slots := live.map fun x => (x.1, renS bl ns (sl x.1)), blks := numB bl ns ns 0, next := ns.length }
  | false => { slots := [], blks := [], next := 0 }
def canon (live : List (Nat × Bool)) (st : St) : St :=
  canon1 live (lookS st.slots) (lookB (cat (frzAt (lookS st.slots) (lookB st.blks)) live ++ st.blks))
section
variable {E : Env} {ψ : Nat → Value} {sl : Nat → Slot} {bl : Blks} {U : Nat → Prop} {a : Act} {w : World}
theorem froR_frz {r : RV} : Frz bl (froR bl r) := by
  intro x hx
  unfold froR at hx
  split at hx
  · split at hx
    · rename_i m e rows hb
      simp at hx
      subst hx
      exact .inl ⟨e, rows, hb, rfl⟩
    · cases hx
  · cases hx
theorem frzAt_frz {live : List (Nat × Bool)} : Frz bl (cat (frzAt sl bl) live) := by
  intro x hx
  obtain ⟨y, _, hy⟩ := mem_cat hx
  have h1 : ∃ r, x ∈ froR bl r := by
    unfold frzAt at hy
    split at hy
    · cases hy
    · split at hy
      · exact ⟨_, hy⟩
      · split at hy
        · obtain ⟨r, _, hr⟩ := mem_cat hy; exact ⟨r, hr⟩
        · cases hy
      · cases hy
  obtain ⟨r, hr⟩ := h1
  rcases froR_frz x hr with h | ⟨cs, ds, q, g1, g2, g3, g4⟩
  · exact .inl h
  · unfold froR at hr
    split at hr
    · split at hr
      · simp at hr; subst hr; cases g2
      · cases hr
    · cases hr
theorem idxIn_spec {m : Nat} : ∀ {l : List Nat} {i k : Nat}, idxIn m l i = some k → i ≤ k ∧ l[k - i]? = some m
  | [], _, _, h => by cases h
  | n :: r, i, k, h => by
    unfold idxIn at h
    split at h
    · rename_i hb
      injection h with h
      subst h
      exact ⟨Nat.le_refl _, by simp [Nat.eq_of_beq_eq_true hb]⟩
    · obtain ⟨h1, h2⟩ := idxIn_spec h
      refine ⟨by omega, ?_⟩
      rw [show k - i = (k - (i + 1)) + 1 by omega, List.getElem?_cons_succ]
      exact h2
theorem natIn_spec {n : Nat} : ∀ {l : List Nat}, natIn n l = false → n ∉ l
  | [], _ => by simp
  | m :: r, h => by
    unfold natIn at h
    split at h
    · cases h
    · rename_i hb
      intro hm
      rcases List.mem_cons.1 hm with rfl | hm
      · simp at hb
      · exact natIn_spec h hm
theorem distinct_nth : ∀ {l : List Nat}, distinct l = true → ∀ (i j n : Nat), l[i]? = some n → l[j]? = some n → i = j
  | [], _, i, j, n, h, _ => by simp at h
  | m :: r, hd, i, j, n, hi, hj => by
    unfold distinct at hd
    split at hd
    · cases hd
    · rename_i hn
      have hn := natIn_spec hn
      cases i with
      | zero =>
        cases j with
        | zero => rfl
        | succ j =>
          simp at hi hj
          subst hi
          exact (hn (List.mem_of_getElem? hj)).elim
      | succ i =>
        cases j with
        | zero =>
          simp at hi hj
          subst hj
          exact (hn (List.mem_of_getElem? hi)).elim
        | succ j =>
          simp at hi hj
          rw [distinct_nth hd i j n hi hj]
theorem numB_look {ns : List Nat} : ∀ (l : List Nat) (i nm : Nat), lookB (numB bl ns l i) nm = if i ≤ nm then match l[nm - i]? with
    | some n => renB bl ns (bl n)
    | none => none
    else none
  | [], i, nm => by simp [numB, lookB]
  | n :: r, i, nm => by
    show lookB ((i, renB bl ns (bl n)) :: numB bl ns r (i + 1)) nm = _
    unfold lookB
    split
    · rename_i hb
      have := Nat.eq_of_beq_eq_true hb
      subst this
      simp
    · rename_i hb
      rw [numB_look r (i + 1) nm]
      have hne : nm ≠ i := fun e => by subst e; simp at hb
      by_cases h2 : i + 1 ≤ nm
      · rw [if_pos h2, if_pos (by omega), show nm - i = (nm - (i + 1)) + 1 by omega, List.getElem?_cons_succ]
      · rw [if_neg h2, if_neg (by omega)]
theorem map_look {f : Nat → Slot} : ∀ (l : List (Nat × Bool)) (i : Nat), lookS (l.map fun x => (x.1, f x.1)) i = .unit ∨ lookS (l.map fun x => (x.1, f x.1)) i = f i
  | [], i => .inl rfl
  | x :: r, i => by
    show lookS ((x.1, f x.1) :: r.map fun x => (x.1, f x.1)) i = _ ∨ lookS ((x.1, f x.1) :: r.map fun x => (x.1, f x.1)) i = _
    unfold lookS
    split
    · rename_i hb
      rw [Nat.eq_of_beq_eq_true hb]
      exact .inr rfl
    · exact map_look r i
theorem canon1_ok (live : List (Nat × Bool)) (h : SimP E ψ sl bl U a w) : ∃ ψ', SimP E ψ' (lookS (canon1 live sl bl).slots) (lookB (canon1 live sl bl).blks) (fun m => m < (canon1 live sl bl).next) a w := by
  unfold canon1
  generalize nub (cat (namesAt sl bl) live) [] = ns
  dsimp only
  split
  · rename_i hd
    have hds := distinct_nth hd
    let ψ' : Nat → Value := fun j => ψ (ns.getD j 0)
    let bl' : Blks := lookB (numB bl ns ns 0)
    have hbl : ∀ nm, bl' nm = match ns[nm]? with
        | some n => renB bl ns (bl n)
        | none => none := fun nm => by
      show lookB (numB bl ns ns 0) nm = _
      rw [numB_look, if_pos (Nat.zero_le _), Nat.sub_zero]
    have hb1 : ∀ nm k, bl' nm = some k → ∃ n k0, ns[nm]? = some n ∧ ψ' nm = ψ n ∧ bl n = some k0 ∧ renB bl ns (some k0) = some k ∧ k0.live = true ∧ k.live = true := by
      intro nm k hk
      rw [hbl] at hk
      cases hn : ns[nm]? with
      | none => rw [hn] at hk; cases hk
      | some n =>
        rw [hn] at hk
        dsimp only at hk
        have hψ : ψ' nm = ψ n := by show ψ (ns.getD nm 0) = _; simp [List.getD_eq_getElem?_getD, hn]
        cases hb : bl n with
        | none => rw [hb] at hk; cases hk
        | some k0 =>
          rw [hb] at hk
          cases k0 with
          | box cs => simp only [renB] at hk; injection hk with hk; subst hk; exact ⟨n, _, rfl, hψ, hb, rfl, rfl, rfl⟩
          | vec e rows => simp only [renB] at hk; injection hk with hk; subst hk; exact ⟨n, _, rfl, hψ, hb, rfl, rfl, rfl⟩
          | fro rows => cases hk
          | frob cs => cases hk
    have hok : ∀ b, okS E bl ψ w b → okS E bl' ψ' w b := by
      rintro b ⟨o1, o2, o3⟩
      refine ⟨o1, o2, fun nm k hk hl => ?_⟩
      obtain ⟨n, k0, _, hψ, hb, _, hl0, _⟩ := hb1 nm k hk
      rw [hψ]
      exact o3 n k0 hb hl0
    have hidx : ∀ m i, idxIn m ns 0 = some i → ψ' i = ψ m ∧ i < ns.length := by
      intro m i hi
      obtain ⟨_, h2⟩ := idxIn_spec hi
      simp at h2
      refine ⟨by show ψ (ns.getD i 0) = _; simp [List.getD_eq_getElem?_getD, h2], (List.getElem?_eq_some_iff.1 h2).1⟩
    have hrv : ∀ r v, RVRep w (okS E bl ψ w) ψ bl r v → RVRep w (okS E bl' ψ' w) ψ' bl' (renR bl ns r) v := by
      intro r v hr
      cases r with
      | val d => exact Rep.mono (fun _ _ => rfl) hok hr
      | nils => exact hr
      | any => trivial
      | own m =>
        unfold renR
        dsimp only
        split
        · rename_i rows hb
          have hv := hr (by rw [hb]; rfl)
          subst hv
          exact Rep.mono (fun _ _ => rfl) hok (h.blks m _ hb)
        · rename_i e rows hb
          split
          · rename_i i hi
            intro _
            rw [(hidx m i hi).1]
            exact hr (by rw [hb]; rfl)
          · trivial
        · trivial
    have hrefR : ∀ r, ∀ m ∈ refsR (renR bl ns r), m < ns.length := by
      intro r m hm
      cases r with
      | val d => cases hm
      | nils => cases hm
      | any => cases hm
      | own n =>
        unfold renR at hm
        dsimp only at hm
        split at hm
        · cases hm
        · split at hm
          · rename_i i hi
            simp [refsR] at hm
            subst hm
            exact (hidx n _ hi).2
          · cases hm
        · cases hm
    have hslot : ∀ s v, SlotRep w (okS E bl ψ w) ψ bl a.tmps s v → SlotRep w (okS E bl' ψ' w) ψ' bl' a.tmps (renS bl ns s) v := by
      intro s v hs
      cases s with
      | rv r => exact hrv r v hs
      | row cs o =>
        obtain ⟨ad, h1, h2, h3, h4⟩ := hs
        refine ⟨ad, h1, hok _ h2, h3, fun j d hj => ?_⟩
        obtain ⟨u, h5, h6⟩ := h4 j d hj
        exact ⟨u, h5, Rep.mono (fun _ _ => rfl) hok h6⟩
      | box m o =>
        unfold renS
        dsimp only
        split
        · rename_i cs hb
          obtain ⟨b, e1, e2⟩ := hs (by rw [hb]; rfl)
          obtain ⟨b', g1, g2, g3, g4⟩ := h.blks m _ hb
          rw [e1] at g1
          injection g1 with g1; injection g1 with g1; injection g1 with g1
          subst g1
          refine ⟨⟨b, 0, none⟩, by rw [add_plain, Nat.zero_add]; exact e2, hok _ g2, g3, fun j d hj => ?_⟩
          obtain ⟨u, u1, u2⟩ := g4 j d hj
          exact ⟨u, by rw [add_plain, Nat.zero_add]; exact u1, Rep.mono (fun _ _ => rfl) hok u2⟩
        · rename_i cs hb
          split
          · rename_i i hi
            intro _
            rw [(hidx m i hi).1]
            exact hs (by rw [hb]; rfl)
          · trivial
        · trivial
      | unit => trivial
      | gval l s => trivial
      | tup l => trivial
      | vel n i sz off => trivial
    have hrefS : ∀ s, ∀ m ∈ refsS (renS bl ns s), m < ns.length := by
      intro s m hm
      cases s with
      | rv r => exact hrefR r m hm
      | box n o =>
        unfold renS at hm
        dsimp only at hm
        split at hm
        · cases hm
        · split at hm
          · rename_i i hi
            simp [refsS] at hm
            subst hm
            exact (hidx n _ hi).2
          · cases hm
        · cases hm
      | _ => cases hm
    have hgg : ∀ s l s', renS bl ns s ≠ .gval l s' := by
      intro s l s' e
      cases s with
      | box n o =>
        unfold renS at e
        dsimp only at e
        split at e
        · cases e
        · split at e <;> cases e
        · cases e
      | _ => cases e
    refine ⟨ψ', h.size, h.defers, h.below, fun i => ?_, fun nm k hk => ?_, fun nm nm' k k' hk hk' hl hl' hne => ?_, fun nm hn => ?_, fun i m hm => ?_, fun nm cs hk r hr m hm => ?_, fun i l l' s' => ?_⟩
    · rcases map_look (f := fun i => renS bl ns (sl i)) live i with e | e
      · show SlotRep w (okS E bl' ψ' w) ψ' bl' a.tmps (lookS (live.map fun x => (x.1, renS bl ns (sl x.1))) i) _
        rw [e]; trivial
      · show SlotRep w (okS E bl' ψ' w) ψ' bl' a.tmps (lookS (live.map fun x => (x.1, renS bl ns (sl x.1))) i) _
        rw [e]; exact hslot _ _ (h.slots i)
    · obtain ⟨n, k0, hn, hψ, hb, hren, _, _⟩ := hb1 nm k hk
      have hrep := h.blks n k0 hb
      cases k0 with
      | box cs =>
        simp only [renB] at hren
        injection hren with hren
        subst hren
        obtain ⟨b, vs, t, g1, g2, g3, g4, g5⟩ := hrep
        refine ⟨b, vs, t, hψ.trans g1, g2, g3, by simp [g4], fun j r hj => ?_⟩
        rw [List.getElem?_map] at hj
        obtain ⟨r0, hr0, rfl⟩ := Option.map_eq_some_iff.1 hj
        refine ⟨hrv r0 _ (g5 j r0 hr0).1, fun d hd => ?_⟩
        cases r0 with
        | val d' => exact (g5 j _ hr0).2 d hd
        | nils => cases hd
        | any => cases hd
        | own m =>
          unfold renR at hd
          dsimp only at hd
          split at hd
          · injection hd with hd; subst hd; rfl
          · split at hd <;> cases hd
          · cases hd
      | vec e rows =>
        simp only [renB] at hren
        injection hren with hren
        subst hren
        obtain ⟨xs, g1, g2, g3, g4, g5⟩ := hrep
        refine ⟨xs, g1, by show World.ownsRow _ _ _ _ (ψ' nm) _ _; rw [hψ]; exact g2, g3, g4, fun i r j d hi hj => ?_⟩
        obtain ⟨u, u1, u2⟩ := g5 i r j d hi hj
        exact ⟨u, u1, Rep.mono (fun _ _ => rfl) hok u2⟩
      | fro rows => cases hren
      | frob cs => cases hren
    · obtain ⟨n, k0, hn, hψ, hb, _, hl0, _⟩ := hb1 nm k hk
      obtain ⟨n', k0', hn', hψ', hb', _, hl0', _⟩ := hb1 nm' k' hk'
      rw [hψ, hψ']
      exact h.apart n n' k0 k0' hb hb' hl0 hl0' (fun e => hne (hds nm nm' n hn (by rw [e]; exact hn')))
    · show bl' nm = none
      rw [hbl]
      have : ns[nm]? = none := by simp; exact Nat.le_of_not_lt hn
      rw [this]
    · rcases map_look (f := fun i => renS bl ns (sl i)) live i with e | e
      · change m ∈ refsS (lookS (live.map fun x => (x.1, renS bl ns (sl x.1))) i) at hm
        rw [e] at hm; cases hm
      · change m ∈ refsS (lookS (live.map fun x => (x.1, renS bl ns (sl x.1))) i) at hm
        rw [e] at hm; exact hrefS _ m hm
    · obtain ⟨n, k0, hn, hψ, hb, hren, _, _⟩ := hb1 nm _ hk
      cases k0 with
      | box cs0 =>
        simp only [renB] at hren
        injection hren with hren
        injection hren with hren
        subst hren
        obtain ⟨r0, _, rfl⟩ := List.mem_map.1 hr
        exact hrefR r0 m hm
      | vec e rows => cases hren
      | fro rows => cases hren
      | frob cs => cases hren
    · rcases map_look (f := fun i => renS bl ns (sl i)) live i with e | e
      · show lookS (live.map fun x => (x.1, renS bl ns (sl x.1))) i ≠ _
        rw [e]; simp
      · show lookS (live.map fun x => (x.1, renS bl ns (sl x.1))) i ≠ _
        rw [e]; exact hgg _ _ _
  · refine ⟨ψ, h.size, h.defers, h.below, fun i => trivial, ?_, ?_, fun nm _ => rfl, ?_, ?_, ?_⟩
    · intro nm k hk; cases hk
    · intro nm nm' k k' hk; cases hk
    · intro i m hm; cases hm
    · intro nm cs hk; cases hk
    · intro i l l' s' e; cases e
theorem canon_ok (live : List (Nat × Bool)) {st : St} (h : St.OK E st a w) : St.OK E (canon live st) a w := by
  obtain ⟨ψ, h⟩ := h
  have h2 := (h.frz (p := cat (frzAt (lookS st.slots) (lookB st.blks)) live) frzAt_frz).2
  rw [← lookB_append] at h2
  exact canon1_ok live h2
end
end Go.Eng
set_option linter.unusedVariables false
set_option linter.unusedSimpArgs false
namespace Go.Eng
open Go.RowKit
def iterN {σ ρ : Type} (B : σ → Option (σ ⊕ ρ)) : Nat → σ → Option ρ
  | 0, _ => none
  | n + 1, s => match B s with
    | none => none
    | some (.inl s') => iterN B n s'
    | some (.inr r) => some r
def FUEL : Nat := 18446744073709551616
def Iter {σ ρ : Type} (B : σ → Option (σ ⊕ ρ)) (s : σ) : Option ρ := iterN B FUEL s
theorem iterN_le {σ ρ : Type} {B : σ → Option (σ ⊕ ρ)} : ∀ {n m : Nat} {s : σ} {r : ρ}, n ≤ m → iterN B n s = some r → iterN B m s = some r
  | 0, _, _, _, _, h => by cases h
  | n + 1, 0, _, _, hle, _ => by omega
  | n + 1, m + 1, s, r, hle, h => by
    unfold iterN at h ⊢
    cases hb : B s with
    | none => rw [hb] at h; cases h
    | some x =>
      rw [hb] at h
      cases x with
      | inl s' => exact iterN_le (by omega) h
      | inr r' => exact h
theorem iter_of {σ ρ : Type} {B : σ → Option (σ ⊕ ρ)} {n : Nat} {s : σ} {r : ρ} (hn : n ≤ FUEL) (h : iterN B n s = some r) : Iter B s = some r := iterN_le hn h
theorem iter_spec {σ ρ : Type} {B : σ → Option (σ ⊕ ρ)} {s : σ} {r : ρ} (h : Iter B s = some r) : ∃ n, iterN B n s = some r := ⟨FUEL, h⟩
inductive V where
  | fail
  | ret
  | done (e : Ex)
  | ite (c : Bool)
  | need (c : Bool) (p : Prop)
  | opt (c : Bool) (o : Option (List D))
  | call (c : Bool) (f : FuncId) (args : List Arg)
  | anyNil (rows : List (List D))
  | loop
  | cut
def T.view : T → V
  | .fail => .fail
  | .ret _ => .ret
  | .done e _ => .done e
  | .ite c _ _ => .ite c
  | .need c p _ => .need c p
  | .opt c o _ => .opt c o
  | .call c f as_ _ => .call c f as_
  | .anyNil rows _ => .anyNil rows
  | .loop _ _ _ => .loop
  | .cut _ _ _ => .cut
def T.rets : T → List RR
  | .ret rs => rs
  | _ => []
def T.nx : T → T
  | .need _ _ k => k
  | .ite _ t _ => t
  | _ => .fail
def T.ne : T → T
  | .ite _ _ e => e
  | _ => .fail
def T.no (x : List D) : T → T
  | .opt _ _ k => k x
  | _ => .fail
def T.nc (rs : List RR) : T → T
  | .call _ _ _ k => k rs
  | _ => .fail
def T.nn (b : Bool) : T → T
  | .anyNil _ k => k b
  | _ => .fail
def T.cd : T → Code
  | .loop c _ _ => c
  | .cut c _ _ => c
  | _ => .skip
def T.st : T → St
  | .loop _ s _ => s
  | .cut _ s _ => s
  | .done _ s => s
  | _ => { slots := [], blks := [], next := 0 }
def T.kk : T → Ex → St → T
  | .loop _ _ k => k
  | .cut _ _ k => k
  | _ => fun _ _ => .fail
structure Cx where
  P : Program
  gt : Nat → Option (List D)
  ti : TypeId → Option TI
  n : Nat
  rvs : List ResultVar
structure Cx.OK (c : Cx) : Prop where
  mixed : c.P.follows .mixedOrders = true
  ti : ∀ t i, c.ti t = some i → tiOf c.P t = some i
structure EnvOf (c : Cx) (E : Env) : Prop where
  P : E.P = c.P
  gt : E.gt = c.gt
  n : E.n = c.n
  good : E.Good
structure Sat (c : Cx) {ρ : Type} (R : ρ → List RR → Prop) (D : Env → ρ → Ex → St → Prop) (t : T) (F : Option ρ) : Prop where
  run : ∀ E, EnvOf c E → ∀ r, F = some r → t.Holds E c.rvs.toArray (R r) (D E r)
def Cx.ex (c : Cx) (code : Code) (st : St) (k : Ex → St → T) : T := exec c.n c.ti c.gt c.rvs code st k
def DoesP (P : Program) (gt : Nat → Option (List D)) {τ : Type} (fid : FuncId) (args : List Arg) (enc : τ → List RR) (f : Option τ) : Prop := ∀ r, f = some r → Spec P gt fid args (enc r)
section
variable {c : Cx} {ρ : Type} {R : ρ → List RR → Prop} {D : Env → ρ → Ex → St → Prop} {t : T}
theorem Sat.none : Sat c R D t none := ⟨fun _ _ _ h => by cases h⟩
theorem Sat.ite {b : Bool} {A B : Option ρ} (ht : t.view = .ite b) (hA : Sat c R D t.nx A) (hB : Sat c R D t.ne B) : Sat c R D t (if b = true then A else B) := by
  refine ⟨fun E hE r h => ?_⟩
  cases t <;> cases ht
  refine ⟨fun e => hA.run E hE r ?_, fun e => hB.run E hE r ?_⟩
  · subst e; simpa using h
  · subst e; simpa using h
theorem Sat.need {g : Bool} {p q : Prop} [Decidable q] {A : Option ρ} (ht : t.view = .need g p) (hp : q → g = true → p) (hA : Sat c R D t.nx A) : Sat c R D t (if q then A else .none) := by
  refine ⟨fun E hE r h => ?_⟩
  cases t <;> cases ht
  split at h
  · rename_i hq; exact ⟨hp hq, hA.run E hE r h⟩
  · cases h
theorem Sat.need0 {g : Bool} {p : Prop} {A : Option ρ} (ht : t.view = .need g p) (hp : p) (hA : Sat c R D t.nx A) : Sat c R D t A := by
  refine ⟨fun E hE r h => ?_⟩
  cases t <;> cases ht
  exact ⟨fun _ => hp, hA.run E hE r h⟩
theorem Sat.opt {τ : Type} {o : Option (List Eng.D)} {x : Option τ} {enc : τ → List Eng.D} {A : τ → Option ρ} (ht : t.view = .opt true o) (ho : o = x.map enc) (hA : ∀ y, Sat c R D (t.no (enc y)) (A y)) : Sat c R D t (x.bind A) := by
  refine ⟨fun E hE r h => ?_⟩
  cases t <;> cases ht
  cases x with
  | none => cases h
  | some y => exact ⟨enc y, fun _ => ho, (hA y).run E hE r h⟩
theorem Sat.optG {τ : Type} {g : Bool} {o : Option (List Eng.D)} {x : Option τ} {d : τ} {enc : τ → List Eng.D} {A : τ → Option ρ} (ht : t.view = .opt g o) (ho : o = x.map enc) (hA : ∀ y, Sat c R D (t.no (enc y)) (A y)) :
    Sat c R D t ((if g = true then x else some d).bind A) := by
  refine ⟨fun E hE r h => ?_⟩
  cases t <;> cases ht
  cases g with
  | false =>
    rw [if_neg (by simp)] at h
    exact ⟨enc d, fun e => (by cases e), (hA d).run E hE r h⟩
  | true =>
    rw [if_pos rfl] at h
    cases x with
    | none => cases h
    | some y => exact ⟨enc y, fun _ => ho, (hA y).run E hE r h⟩
theorem Sat.call {τ : Type} {fid : FuncId} {args : List Arg} {enc : τ → List RR} {f : Option τ} {A : τ → Option ρ} (hs : DoesP c.P c.gt fid args enc f) (ht : t.view = .call true fid args) (hA : ∀ y, Sat c R D (t.nc (enc y)) (A y)) :
    Sat c R D t (f.bind A) := by
  refine ⟨fun E hE r h => ?_⟩
  cases t <;> cases ht
  cases f with
  | none => cases h
  | some y => exact ⟨enc y, fun _ => by rw [hE.P, hE.gt]; exact hs y rfl, (hA y).run E hE r h⟩
theorem Sat.callG {τ : Type} {g : Bool} {d : τ} {fid : FuncId} {args : List Arg} {enc : τ → List RR} {f : Option τ} {A : τ → Option ρ} (hs : DoesP c.P c.gt fid args enc f) (ht : t.view = .call g fid args) (hA : ∀ y, Sat c R D (t.nc (enc y)) (A y)) :
    Sat c R D t ((if g = true then f else some d).bind A) := by
  refine ⟨fun E hE r h => ?_⟩
  cases t <;> cases ht
  cases g with
  | false =>
    rw [if_neg (by simp)] at h
    exact ⟨enc d, fun e => (by cases e), (hA d).run E hE r h⟩
  | true =>
    rw [if_pos rfl] at h
    cases f with
    | none => cases h
    | some y => exact ⟨enc y, fun _ => by rw [hE.P, hE.gt]; exact hs y rfl, (hA y).run E hE r h⟩
theorem Sat.ret {r : ρ} (ht : t.view = .ret) (hr : R r t.rets) : Sat c R D t (some r) := by
  refine ⟨fun E hE r' h => ?_⟩
  injection h with h
  subst h
  cases t <;> cases ht
  exact hr
theorem exec_env {c : Cx} (hc : c.OK) {E : Env} (hE : EnvOf c E) {code : Code} {st : St} {k : Ex → St → T} {QR : List RR → Prop} {QD : Ex → St → Prop} {a : Act} {w : World} (hs : St.OK E st a w)
    (h : (c.ex code st k).Holds E c.rvs.toArray QR QD) : code.wp E.P (Post E c.rvs.toArray QR fun e st' => (k e st').Holds E c.rvs.toArray QR QD) a w := by
  have g : Glob E c.ti := ⟨hE.good, by rw [hE.P]; exact hc.ti⟩
  refine exec_wp g (by rw [hE.P]; exact hc.mixed) code st k a w hs ?_
  rw [hE.n, hE.gt]
  exact h
theorem Sat.go {A : Option ρ} (hc : c.OK) (ht : t.view = .cut) (h : Sat c R D (c.ex t.cd t.st t.kk) A) : Sat c R D t A := by
  refine ⟨fun E hE r hr => ?_⟩
  cases t <;> cases ht
  exact fun a w hs => exec_env hc hE hs (h.run E hE r hr)
theorem Sat.cut {σ : Type} {S : σ → St} {J : σ → Option ρ} {s0 : σ} (live : List (Nat × Bool)) (hc : c.OK) (ht : t.view = .cut) (hs : canon live t.st = S s0) {code : Code} {kk : Ex → St → T} (hcd : t.cd = code) (hkk : t.kk = kk) (hJ : ∀ s, Sat c R D (c.ex code (S s) kk) (J s)) : Sat c R D t (J s0) := by
  subst hcd hkk
  refine ⟨fun E hE r hr => ?_⟩
  cases t <;> cases ht
  rename_i body st k
  intro a w h
  have h2 := canon_ok live h
  rw [show canon live st = S s0 from hs] at h2
  exact exec_env hc hE h2 ((hJ s0).run E hE r hr)
def loopR {σ ρ : Type} (R : ρ → List RR → Prop) (x : σ ⊕ ρ) (rs : List RR) : Prop := ∃ r, x = .inr r ∧ R r rs
def loopD {σ ρ : Type} (c : Cx) (R : ρ → List RR → Prop) (D : Env → ρ → Ex → St → Prop) (S : σ → St) (live : List (Nat × Bool)) (kk : Ex → St → T) (E : Env) (x : σ ⊕ ρ) : Ex → St → Prop
  | .normal, st => ∃ s, x = .inl s ∧ canon live st = S s
  | .exit id, st => ∃ r, x = .inr r ∧ (kk (.exit id) st).Holds E c.rvs.toArray (R r) (D E r)
theorem Sat.loop {σ : Type} {S : σ → St} {B : σ → Option (σ ⊕ ρ)} {s0 : σ} (live : List (Nat × Bool)) (hc : c.OK) (ht : t.view = .loop) (hs : canon live t.st = S s0) {code : Code} {kk : Ex → St → T} (hcd : t.cd = code) (hkk : t.kk = kk)
    (hB : ∀ s, Sat c (loopR R) (loopD c R D S live kk) (c.ex code (S s) T.done) (B s)) : Sat c R D t (Iter B s0) := by
  subst hcd hkk
  refine ⟨fun E hE r hr => ?_⟩
  cases t <;> cases ht
  rename_i body st k
  obtain ⟨n, hn⟩ := iter_spec hr
  have key : ∀ (n : Nat) (s : σ) (a : Act) (w : World), iterN B n s = some r → St.OK E (S s) a w → Code.rounds E.P body (Post E c.rvs.toArray (R r) fun e st' => (k e st').Holds E c.rvs.toArray (R r) (D E r)) n a w := by
    intro n
    induction n with
    | zero => intro s a w h; cases h
    | succ n ih =>
      intro s a w h ho
      unfold iterN at h
      cases hb : B s with
      | none => rw [hb] at h; cases h
      | some x =>
        rw [hb] at h
        have hwp := exec_env hc hE ho ((hB s).run E hE x hb)
        refine wp_mono hwp (fun e a' w' he => ?_)
        cases e with
        | normal =>
          obtain ⟨st', h1, s', rfl, h3⟩ := he
          have h4 := canon_ok live h1
          rw [h3] at h4
          exact ih s' a' w' h h4
        | exit id =>
          obtain ⟨st', h1, r', rfl, h3⟩ := he
          injection h with h
          subst h
          exact ⟨st', h1, h3⟩
        | ret =>
          obtain ⟨h1, h2, rr, v, ⟨r', hx, h3⟩, h4⟩ := he
          subst hx
          injection h with h
          subst h
          exact ⟨h1, h2, rr, v, h3, h4⟩
        | goto l => exact he.elim
        | panic ch => exact he.elim
        | outgrown => exact he.elim
  intro a w h
  have h2 := canon_ok live h
  rw [show canon live st = S s0 from hs] at h2
  exact wp_loop_rounds n (key n s0 a w hn h2)
theorem Sat.next {σ : Type} {S : σ → St} {live : List (Nat × Bool)} {kk : Ex → St → T} {s : σ} {R' : σ ⊕ ρ → List RR → Prop} (ht : t.view = .done .normal) (hs : canon live t.st = S s) : Sat c R' (loopD c R D S live kk) t (some (.inl s)) := by
  refine ⟨fun E hE r h => ?_⟩
  injection h with h
  subst h
  cases t <;> cases ht
  exact ⟨s, rfl, hs⟩
theorem Sat.out {σ : Type} {S : σ → St} {live : List (Nat × Bool)} {kk : Ex → St → T} {id : Nat} {A : Option ρ} {R' : σ ⊕ ρ → List RR → Prop} (ht : t.view = .done (.exit id)) (hA : Sat c R D (kk (.exit id) t.st) A) : Sat c R' (loopD c R D S live kk) t (A.map .inr) := by
  refine ⟨fun E hE x h => ?_⟩
  cases t <;> cases ht
  cases A with
  | none => cases h
  | some r =>
    simp at h
    subst h
    exact ⟨r, rfl, hA.run E hE r rfl⟩
theorem Sat.retL {σ : Type} {D' : Env → σ ⊕ ρ → Ex → St → Prop} {A : Option ρ} (ht : t.view = .ret) (hA : Sat c R D t A) : Sat c (loopR R) D' t (A.map .inr) := by
  refine ⟨fun E hE x h => ?_⟩
  cases A with
  | none => cases h
  | some r =>
    simp at h
    subst h
    have := hA.run E hE r rfl
    cases t <;> cases ht
    exact ⟨r, rfl, this⟩
end
def wk1 : Bool → RR → RR
  | true, .own _ rows => .val (.slice rows)
  | _, r => r
def wk : List Bool → List RR → List RR
  | b :: bs, r :: rs => wk1 b r :: wk bs rs
  | _, rs => rs
theorem wk1_weak : ∀ (b : Bool) (r : RR), RR.weak r (wk1 b r)
  | true, .own e rows => .inr ⟨e, rows, rfl, rfl⟩
  | true, .val d => .inl rfl
  | false, r => .inl rfl
theorem wk_weak : ∀ (bs : List Bool) (rs : List RR), weakL rs (wk bs rs)
  | [], rs => weakL_refl
  | b :: bs, [] => trivial
  | b :: bs, r :: rs => ⟨wk1_weak b r, wk_weak bs rs⟩
def R0 {ρ : Type} (enc : ρ → List RR) (r : ρ) (rs : List RR) : Prop := weakL rs (enc r)
def D0 {ρ : Type} (E : Env) (r : ρ) (e : Ex) (st : St) : Prop := False
theorem Sat.ret0 {c : Cx} {ρ : Type} {D : Env → ρ → Ex → St → Prop} {t : T} {enc : ρ → List RR} {r : ρ} (bs : List Bool) (ht : t.view = .ret) (hr : wk bs t.rets = enc r) : Sat c (R0 enc) D t (some r) :=
  Sat.ret ht (by show weakL _ _; rw [← hr]; exact wk_weak _ _)
theorem does_of {c : Cx} (hc : c.OK) {ρ : Type} {fid : FuncId} {fn : Func} {code : Code} {args : List Arg} {enc : ρ → List RR} {F : Option ρ} (hf : c.P.funcs[fid]? = some fn) (hb : fn.body = some code)
    (hname : (fn.name == "runtime.NumGoroutine") = false) (hn : fn.ntmps = c.n) (hle : Nat.ble args.length c.n = true) (hrs : fn.results = c.rvs.toArray)
    (h : Sat c (R0 enc) D0 (c.ex code (st0 args) (k0 c.ti c.rvs)) F) : DoesP c.P c.gt fid args enc F := by
  intro r hr
  exact spec_of hc.mixed hc.ti hf hb hname hn (Nat.le_of_ble_eq_true hle) hrs (fun E h1 h2 h3 h4 => h.run E ⟨h1, h2, h3, h4⟩ r hr)
end Go.Eng
set_option linter.unusedVariables false
set_option linter.unusedSimpArgs false
namespace Go.Eng
open Go.RowKit
abbrev bs (l : List UInt8) : ByteArray := ⟨⟨l⟩⟩
def eInt (k : IntKind) (n : Int) : List D := [.int k n]
def eBool (b : Bool) : List D := [.bool b]
def eStr (s : ByteArray) : List D := [.str s]
def eSl {τ : Type} (enc : τ → List D) (l : List τ) : List D := [.slice (List.map enc l)]
def getI {τ : Type} (l : List τ) (n : Int) : Option τ := if 0 ≤ n then l[n.toNat]? else none
def subl {τ : Type} (l : List τ) (lo hi : Int) : List τ := (l.take hi.toNat).drop lo.toNat
theorem getRow_map {τ : Type} (enc : τ → List D) (l : List τ) (n : Int) : getRow (List.map enc l) n = (getI l n).map enc := by
  unfold getRow getI
  split
  · rw [List.getElem?_map]
  · rfl
theorem getRow_rows {τ : Type} {enc : τ → List D} {l : List τ} {rows : List (List D)} (h : rows = List.map enc l) (n : Int) : getRow rows n = (getI l n).map enc := by
  subst h; exact getRow_map enc l n
theorem getEl_map {τ : Type} (enc : τ → List D) (l : List τ) (n : Nat) : (List.map enc l)[n]? = (l[n]?).map enc := List.getElem?_map ..
theorem getEl_rows {τ : Type} {enc : τ → List D} {l : List τ} {rows : List (List D)} (h : rows = List.map enc l) (n : Nat) : rows[n]? = (l[n]?).map enc := by
  subst h; exact getEl_map enc l n
theorem map_len {τ : Type} (enc : τ → List D) (sz : Nat) (h : ∀ x, (enc x).length = sz) (l : List τ) : ∀ r ∈ List.map enc l, r.length = sz := by
  intro r hr
  obtain ⟨x, _, rfl⟩ := List.mem_map.1 hr
  exact h x
theorem sliceRows_map {τ : Type} (enc : τ → List D) (l : List τ) (lo hi : Int) : sliceRows (List.map enc l) lo hi = List.map enc (subl l lo hi) := by
  simp [sliceRows, subl, List.map_take, List.map_drop]
def sub : Code → List Bool → Code
  | .seq a _, false :: p => sub a p
  | .seq _ b, true :: p => sub b p
  | .cond _ a _, false :: p => sub a p
  | .cond _ _ b, true :: p => sub b p
  | .block _ c, _ :: p => sub c p
  | .loop c, _ :: p => sub c p
  | c, _ => c
def Cx.kAt (x : Cx) : Code → List Bool → (Ex → St → T) → Ex → St → T
  | .seq a b, false :: p, k => x.kAt a p fun e s => match e with
    | .normal => match joins a with
      | true => .cut b s k
      | false => exec x.n x.ti x.gt x.rvs b s k
    | .exit id => k (.exit id) s
  | .seq _ b, true :: p, k => x.kAt b p k
  | .cond _ a _, false :: p, k => x.kAt a p k
  | .cond _ _ b, true :: p, k => x.kAt b p k
  | .block id c, _ :: p, k => x.kAt c p fun e s => match e with
    | .normal => k .normal s
    | .exit j => match Nat.beq j id with
      | true => k .normal s
      | false => k (.exit j) s
  | .loop c, _ :: p, _ => x.kAt c p T.done
  | _, _, k => k
def lookT : List (Nat × TI) → Nat → Option TI
  | [], _ => none
  | (j, x) :: r, i => match Nat.beq i j with
    | true => some x
    | false => lookT r i
def AllTi (P : Program) : List (Nat × TI) → Prop
  | [] => True
  | x :: r => tiOf P x.1 = some x.2 ∧ AllTi P r
theorem lookT_ok {P : Program} : ∀ {l : List (Nat × TI)}, AllTi P l → ∀ t i, lookT l t = some i → tiOf P t = some i
  | [], _, t, i, h => by cases h
  | (j, x) :: r, ha, t, i, h => by
    unfold lookT at h
    split at h
    · rename_i hb
      injection h with h
      subst h
      rw [Nat.eq_of_beq_eq_true hb]
      exact ha.1
    · exact lookT_ok ha.2 t i h
def T.isSome : T → Bool
  | .opt _ (some _) _ => true
  | _ => false
def T.ov : T → List D
  | .opt _ (some x) _ => x
  | _ => []
section
variable {c : Cx} {ρ : Type} {R : ρ → List RR → Prop} {D : Env → ρ → Ex → St → Prop} {t : T}
theorem Sat.iteT {A : Option ρ} (ht : t.view = .ite true) (hA : Sat c R D t.nx A) : Sat c R D t A := by
  refine ⟨fun E hE r h => ?_⟩
  cases t <;> cases ht
  exact ⟨fun _ => hA.run E hE r h, fun e => (by cases e)⟩
theorem Sat.iteF {A : Option ρ} (ht : t.view = .ite false) (hA : Sat c R D t.ne A) : Sat c R D t A := by
  refine ⟨fun E hE r h => ?_⟩
  cases t <;> cases ht
  exact ⟨fun e => (by cases e), fun _ => hA.run E hE r h⟩
theorem Sat.optC {A : Option ρ} (ht : t.isSome = true) (hA : Sat c R D (t.no t.ov) A) : Sat c R D t A := by
  refine ⟨fun E hE r h => ?_⟩
  cases t with
  | opt g o k =>
    cases o with
    | none => cases ht
    | some x => exact ⟨x, fun _ => rfl, hA.run E hE r h⟩
  | _ => cases ht
theorem Sat.anyNil {τ : Type} {l : List τ} {enc : τ → List Eng.D} {A A' : Option ρ} (ht : t.view = .anyNil (List.map enc l)) (he : l = [] → A = A') (hA' : Sat c R D (t.nn true) A') (hA : Sat c R D (t.nn false) A) : Sat c R D t A := by
  refine ⟨fun E hE r h => ?_⟩
  cases t <;> cases ht
  intro b hb
  cases b with
  | false => exact hA.run E hE r h
  | true =>
    have := he (List.map_eq_nil_iff.1 (hb rfl))
    exact hA'.run E hE r (this ▸ h)
end
theorem DoesP.cast {P : Program} {gt : Nat → Option (List D)} {τ : Type} {fid : FuncId} {args args' : List Arg} {enc : τ → List RR} {f : Option τ} (h : args = args') (hs : DoesP P gt fid args' enc f) : DoesP P gt fid args enc f := by
  subst h; exact hs
end Go.Eng
set_option linter.unusedVariables false
set_option linter.unusedSimpArgs false
namespace Go.Eng
open Go.RowKit
def RepL (W : World) (ok : Nat → Prop) (cs : List Value) (ds : List D) : Prop :=
  cs.length = ds.length ∧ (∀ d ∈ ds, D.isCell d = true) ∧ ∀ (j : Nat) (v : Value) (d : D), cs[j]? = some v → ds[j]? = some d → Rep W ok v d
theorem RepL.nil {W : World} {ok : Nat → Prop} : RepL W ok [] [] := ⟨rfl, by simp, fun j v d h => by simp at h⟩
theorem RepL.append {W : World} {ok : Nat → Prop} {cs cs' : List Value} {ds ds' : List D} (h : RepL W ok cs ds) (h' : RepL W ok cs' ds') : RepL W ok (cs ++ cs') (ds ++ ds') := by
  refine ⟨by simp [h.1, h'.1], fun d hd => ?_, fun j v d hv hd => ?_⟩
  · rcases List.mem_append.1 hd with hd | hd
    · exact h.2.1 d hd
    · exact h'.2.1 d hd
  · by_cases hj : j < cs.length
    · rw [List.getElem?_append_left hj] at hv
      rw [List.getElem?_append_left (by rw [← h.1]; exact hj)] at hd
      exact h.2.2 j v d hv hd
    · rw [List.getElem?_append_right (by omega)] at hv
      rw [List.getElem?_append_right (by rw [← h.1]; omega), ← h.1] at hd
      exact h'.2.2 _ v d hv hd
structure BulkOK {H : Type} (β : DataW H → Nat) : Prop where
  str : ∀ b, b.length ≤ β (.lit (.string b))
  len : ∀ es sp, es.length ≤ β (.slice es sp)
  el : ∀ es sp d, d ∈ es → β d ≤ β (.slice es sp)
  part : ∀ ps d, d ∈ ps → β d ≤ β (.agg ps)
structure OpensF (P : Program) (W : World) (fuel : Nat) (t : TypeId) {τ : Type} (enc : τ → List D) (good : Nat → τ → Prop) : Prop where
  run : ∀ {H : Type} (eH : TypeId × Value → H) (β : DataW H → Nat), BulkOK β → ∀ (cs : List Value) (x : DataW H × List MemPlace) (n : Nat),
    DataW.trod eH P W 0 (fun _ => true) true fuel t cs = some x → β x.1 ≤ n → ∃ y, good n y ∧ RepL W (fun b => b < W.heap.size) cs (enc y)
theorem exists_list {τ : Type} {p : Nat → τ → Prop} : ∀ {n : Nat}, (∀ i, i < n → ∃ y, p i y) → ∃ l : List τ, l.length = n ∧ ∀ (i : Nat) (y : τ), l[i]? = some y → p i y
  | 0, _ => ⟨[], rfl, fun i y h => by simp at h⟩
  | n + 1, h => by
    obtain ⟨l, h1, h2⟩ := exists_list (fun i hi => h i (Nat.lt_succ_of_lt hi))
    obtain ⟨y, hy⟩ := h n (Nat.lt_succ_self n)
    refine ⟨l ++ [y], by simp [h1], fun i z hz => ?_⟩
    by_cases hi : i < l.length
    · rw [List.getElem?_append_left hi] at hz
      exact h2 i z hz
    · rw [List.getElem?_append_right (by omega)] at hz
      have hi0 : i - l.length = 0 := by
        have := (List.getElem?_eq_some_iff.1 hz).1
        simp at this
        omega
      rw [hi0] at hz
      simp at hz
      subst hz
      have : i = n := by omega
      subst this
      exact hy
def gInt (k : IntKind) (n : Nat) (x : Int) : Prop := (Lit.int k x).wf = true
def gBool (n : Nat) (x : Bool) : Prop := True
def gStr (n : Nat) (x : ByteArray) : Prop := x.size ≤ n ∧ x.size ≤ maxLen
def gList {τ : Type} (g : Nat → τ → Prop) (n : Nat) (l : List τ) : Prop := l.length ≤ n ∧ ∀ y ∈ l, g n y
section
variable {P : Program} {W : World} {fuel : Nat} {t : TypeId}
theorem repL_one {ok : Nat → Prop} {v : Value} {d : D} (hc : d.isCell = true) (h : Rep W ok v d) : RepL W ok [v] [d] := by
  refine ⟨rfl, by simpa using hc, fun j v' d' hv hd => ?_⟩
  cases j with
  | zero => simp at hv hd; subst hv hd; exact h
  | succ j => simp at hv
theorem OpensF.int {k : IntKind} (hu : P.underlying t = some (.int k)) : OpensF P W fuel t (eInt k) (gInt k) := by
  refine ⟨fun {H} eH β hβ cs x n h hn => ?_⟩
  obtain ⟨m, rfl, rfl, hw⟩ := DataW.trod_int hu h
  exact ⟨m, hw, repL_one rfl (.int _ _)⟩
theorem OpensF.bool (hu : P.underlying t = some .bool) : OpensF P W fuel t eBool gBool := by
  refine ⟨fun {H} eH β hβ cs x n h hn => ?_⟩
  obtain ⟨m, rfl, rfl⟩ := DataW.trod_bool hu h
  exact ⟨m, trivial, repL_one rfl (.bool _)⟩
theorem OpensF.str (hu : P.underlying t = some .string) : OpensF P W fuel t eStr gStr := by
  refine ⟨fun {H} eH β hβ cs x n h hn => ?_⟩
  obtain ⟨s, rfl, rfl, hs⟩ := DataW.trod_string hu h
  have h1 := hβ.str s.data.toList
  have h2 : s.data.toList.length = s.size := by rw [Array.length_toList]; rfl
  exact ⟨s, ⟨by dsimp only at hn; omega, hs⟩, repL_one rfl (.str _ hs)⟩
theorem cells?_spec {a : Addr} {n : Nat} {cs : List Value} (h : W.cells? 0 a n = some cs) : cs.length = n ∧ ∀ j, j < n → W.cell? (a.add j) = cs[j]? := by
  unfold World.cells? at h
  rw [if_pos (Nat.zero_le _)] at h
  exact ⟨by simpa using mapM_some_length h, fun j hj => mapM_some_get h j j (by simp [hj])⟩
theorem cell?_lt {a : Addr} {v : Value} (h : W.cell? a = some v) : a.block < W.heap.size := by
  unfold World.cell? at h
  cases hb : W.heap[a.block]? with
  | none => rw [hb] at h; cases h
  | some o => exact (Array.getElem?_eq_some_iff.1 hb).1
theorem OpensF.slice {e : TypeId} {τ : Type} {enc : τ → List D} {good : Nat → τ → Prop} (sz : Nat) (hu : P.underlying t = some (.slice e)) (hz : P.cellsOf e = sz) (hpos : 0 < sz) (hlen : ∀ y, (enc y).length = sz)
    (he : ∀ m, m < fuel → OpensF P W m e enc good) : OpensF P W fuel t (eSl enc) (gList good) := by
  refine ⟨fun {H} eH β hβ cs x n h hn => ?_⟩
  rcases DataW.trod_slice hu h with ⟨rfl, rfl⟩ | ⟨a, len, cap, elems, rest, m, rfl, rfl, rfl, -, h1, h2, h3, h4, -, -⟩
  · refine ⟨[], ⟨by simp, by simp⟩, repL_one rfl ?_⟩
    exact .slice none 0 0 [] sz ⟨0, 0, none⟩ (fun _ _ => undef) rfl (Nat.le_refl _) (by omega) (by simp) (by simp) (fun h => by omega) (fun i r j d hi => by simp at hi) (fun i r j d hi => by simp at hi)
  · have hel : ∀ i, i < len → ∃ y ci, good n y ∧ W.cells? 0 (a.add (i * sz)) sz = some ci ∧ RepL W (fun b => b < W.heap.size) ci (enc y) := by
      intro i hi
      have h5 := h4 i hi
      have hil : i < elems.length := by omega
      rw [List.getElem?_eq_getElem hil, hz] at h5
      obtain ⟨ci, h6, h7⟩ := Option.bind_eq_some_iff.1 h5
      obtain ⟨y, hy1, hy2⟩ := (he m (Nat.lt_succ_self m)).run eH β hβ ci elems[i] n h7 (Nat.le_trans (hβ.el _ _ _ (List.mem_map.2 ⟨elems[i], List.getElem_mem hil, rfl⟩)) hn)
      exact ⟨y, ci, hy1, h6, hy2⟩
    obtain ⟨l, l1, l2⟩ := exists_list (p := fun i y => ∃ ci, good n y ∧ W.cells? 0 (a.add (i * sz)) sz = some ci ∧ RepL W (fun b => b < W.heap.size) ci (enc y)) hel
    have hrep : Rep W (fun b => b < W.heap.size) (.slice (some a) len cap) (.slice (List.map enc l)) := by
      have hrow : ∀ (i : Nat) (r : List D), (List.map enc l)[i]? = some r → i < len ∧ ∃ y ci, l[i]? = some y ∧ r = enc y ∧ W.cells? 0 (a.add (i * sz)) sz = some ci ∧ RepL W (fun b => b < W.heap.size) ci (enc y) := by
        intro i r hi
        rw [List.getElem?_map] at hi
        obtain ⟨y, hy, rfl⟩ := Option.map_eq_some_iff.1 hi
        have hlt := (List.getElem?_eq_some_iff.1 hy).1
        obtain ⟨ci, _, h6, h7⟩ := l2 i y hy
        exact ⟨by omega, y, ci, hy, rfl, h6, h7⟩
      refine .slice (some a) len cap (List.map enc l) sz a (fun i j => (W.cell? (a.add (i * sz + j))).getD undef) (by simp [l1]) h1 (by simpa [maxLen] using h2) (fun r hr => ?_) (fun r hr => ?_) (fun h0 => ⟨rfl, ?_⟩) (fun i r j d hi hj => ?_) (fun i r j d hi hj => ?_)
      · obtain ⟨y, _, rfl⟩ := List.mem_map.1 hr
        exact hlen y
      · obtain ⟨i, hi, hr⟩ := List.getElem_of_mem hr
        obtain ⟨_, y, ci, _, rfl, _, h7⟩ := hrow i r (by rw [List.getElem?_eq_getElem hi, hr])
        exact h7.2.1
      · have hl0 : 0 < l.length := by omega
        obtain ⟨_, y, ci, hy, _, h6, h7⟩ := hrow 0 (enc l[0]) (by rw [List.getElem?_map, List.getElem?_eq_getElem hl0]; rfl)
        obtain ⟨c1, c2⟩ := cells?_spec h6
        have h8 := c2 0 hpos
        rw [List.getElem?_eq_getElem (by omega)] at h8
        have := cell?_lt h8
        simpa [add_block] using this
      · obtain ⟨_, y, ci, hy, rfl, h6, h7⟩ := hrow i r hi
        obtain ⟨c1, c2⟩ := cells?_spec h6
        have hjl : j < sz := by rw [← hlen y]; exact (List.getElem?_eq_some_iff.1 hj).1
        have h8 := c2 j hjl
        rw [add_add, List.getElem?_eq_getElem (by omega)] at h8
        show W.cell? _ = some ((W.cell? (a.add (i * sz + j))).getD undef)
        rw [h8]
        rfl
      · obtain ⟨_, y, ci, hy, rfl, h6, h7⟩ := hrow i r hi
        obtain ⟨c1, c2⟩ := cells?_spec h6
        have hjl : j < sz := by rw [← hlen y]; exact (List.getElem?_eq_some_iff.1 hj).1
        have h8 := c2 j hjl
        rw [add_add, List.getElem?_eq_getElem (by omega)] at h8
        show Rep W _ ((W.cell? (a.add (i * sz + j))).getD undef) d
        rw [h8]
        exact h7.2.2 j _ d (List.getElem?_eq_getElem (by omega)) hj
    refine ⟨l, ⟨?_, fun y hy => ?_⟩, repL_one rfl hrep⟩
    · have := hβ.len (elems.map (·.1)) (rest.map (·.1))
      simp only [List.length_map] at this
      dsimp only at hn
      omega
    · obtain ⟨i, hi, rfl⟩ := List.getElem_of_mem hy
      obtain ⟨_, h8, _⟩ := l2 i l[i] (List.getElem?_eq_getElem hi)
      exact h8
structure OpensFs (P : Program) (W : World) (fuel : Nat) (fs : List (TypeId × Nat × Nat)) (off total : Nat) {τ : Type} (enc : τ → List D) (good : Nat → τ → Prop) : Prop where
  run : ∀ {H : Type} (eH : TypeId × Value → H) (β : DataW H → Nat), BulkOK β → ∀ (cs : List Value) (n : Nat),
    (∀ f ∈ fs, ∃ x, DataW.trod eH P W 0 (fun _ => true) true fuel f.1 ((cs.drop f.2.1).take f.2.2) = some x ∧ β x.1 ≤ n) → ∃ y, good n y ∧ RepL W (fun b => b < W.heap.size) ((cs.drop off).take total) (enc y)
theorem OpensFs.nil {off : Nat} : OpensFs P W fuel [] off 0 (fun _ : Unit => []) (fun _ _ => True) := by
  refine ⟨fun {H} eH β hβ cs n h => ?_⟩
  exact ⟨(), trivial, by simpa using RepL.nil⟩
theorem OpensFs.cons {f : TypeId} {off sz total : Nat} {fs : List (TypeId × Nat × Nat)} {τ υ : Type} {enc : τ → List D} {good : Nat → τ → Prop} {encs : υ → List D} {goods : Nat → υ → Prop}
    (h : OpensF P W fuel f enc good) (hs : OpensFs P W fuel fs (off + sz) total encs goods) :
    OpensFs P W fuel ((f, off, sz) :: fs) off (sz + total) (fun y : τ × υ => enc y.1 ++ encs y.2) (fun n y => good n y.1 ∧ goods n y.2) := by
  refine ⟨fun {H} eH β hβ cs n hf => ?_⟩
  obtain ⟨x, h1, h2⟩ := hf _ List.mem_cons_self
  obtain ⟨y, y1, y2⟩ := h.run eH β hβ _ _ n h1 h2
  obtain ⟨z, z1, z2⟩ := hs.run eH β hβ cs n (fun g hg => hf g (List.mem_cons_of_mem _ hg))
  refine ⟨(y, z), ⟨y1, z1⟩, ?_⟩
  have e : (cs.drop off).take (sz + total) = (cs.drop off).take sz ++ (cs.drop (off + sz)).take total := by
    rw [List.take_add, List.drop_drop]
  rw [e]
  exact y2.append z2
theorem OpensF.struct {fs : List (TypeId × Nat × Nat)} {total : Nat} {τ υ : Type} {encs : τ → List D} {goods : Nat → τ → Prop} {enc : υ → List D} {good : Nat → υ → Prop} (of : τ → υ) (hk : kindOf P t = .struct fs) (hsz : ∀ f ∈ fs, P.cellsOf f.1 = f.2.2) (hz : P.cellsOf t = total)
    (hs : ∀ m, m < fuel → OpensFs P W m fs 0 total encs goods) (hg : ∀ n y, goods n y → good n (of y)) (he : ∀ y, encs y = enc (of y)) : OpensF P W fuel t enc good := by
  refine ⟨fun {H} eH β hβ cs x n h hn => ?_⟩
  obtain ⟨fields, hu, rfl⟩ := kind_struct hk
  obtain ⟨xs, m, rfl, rfl, h1, h2, h3⟩ := DataW.trod_struct hu h
  obtain ⟨y, y1, y2⟩ := (hs m (Nat.lt_succ_self m)).run eH β hβ cs n (fun f hf => by
    obtain ⟨g, hg, rfl⟩ := List.mem_map.1 hf
    obtain ⟨i, hi, rfl⟩ := List.getElem_of_mem hg
    have hi' : i < fields.size := by simpa using hi
    have := h3 i fields[i] (by simp [hi'])
    have hs' := hsz _ hf
    dsimp only at hs' ⊢
    simp only [Array.getElem_toList] at hs' ⊢
    rw [← hs', this, List.getElem?_eq_getElem (by omega)]
    exact ⟨_, rfl, Nat.le_trans (hβ.part _ _ (List.mem_map.2 ⟨xs[i], List.getElem_mem _, rfl⟩)) hn⟩)
  refine ⟨of y, hg n y y1, ?_⟩
  rw [← he]
  rw [List.drop_zero, List.take_of_length_le (by omega)] at y2
  exact y2
theorem OpensF.array {k : Nat} {e : TypeId} {fs : List (TypeId × Nat × Nat)} {total : Nat} {τ υ : Type} {encs : τ → List D} {goods : Nat → τ → Prop} {enc : υ → List D} {good : Nat → υ → Prop} (of : τ → υ) (hu : P.underlying t = some (.array k e))
    (hsz : ∀ f ∈ fs, ∃ i, i < k ∧ f = (e, i * P.cellsOf e, P.cellsOf e)) (hz : P.cellsOf t = total)
    (hs : ∀ m, m < fuel → OpensFs P W m fs 0 total encs goods) (hg : ∀ n y, goods n y → good n (of y)) (he : ∀ y, encs y = enc (of y)) : OpensF P W fuel t enc good := by
  refine ⟨fun {H} eH β hβ cs x n h hn => ?_⟩
  obtain ⟨xs, m, rfl, rfl, h1, h2, h3⟩ := DataW.trod_array hu h
  obtain ⟨y, y1, y2⟩ := (hs m (Nat.lt_succ_self m)).run eH β hβ cs n (fun f hf => by
    obtain ⟨i, hi, rfl⟩ := hsz f hf
    have := h3 i hi
    dsimp only
    rw [this, List.getElem?_eq_getElem (by omega)]
    exact ⟨_, rfl, Nat.le_trans (hβ.part _ _ (List.mem_map.2 ⟨xs[i], List.getElem_mem _, rfl⟩)) hn⟩)
  refine ⟨of y, hg n y y1, ?_⟩
  rw [← he]
  rw [List.drop_zero, List.take_of_length_le (by omega)] at y2
  exact y2
theorem open_arg {τ : Type} {enc : τ → List D} {good : Nat → τ → Prop} (ho : ∀ m, OpensF P W m t enc good) {H : Type} {eH : TypeId × Value → H} {β : DataW H → Nat} (hβ : BulkOK β) {v : Value} {d : DataW H} {ps : List MemPlace} {n : Nat}
    (h : DataW.Trod eH P W 0 (fun _ => true) true t v d ps) (hn : β d ≤ n) : ∃ y, good n y ∧ RepL W (fun b => b < W.heap.size) v.cells.toList (enc y) := by
  obtain ⟨fuel, h⟩ := h
  exact (ho fuel).run eH β hβ _ _ n h hn
theorem rep_of_cells {ok : Nat → Prop} {v : Value} {d : D} (h : RepL W ok v.cells.toList [d]) (hv : ∀ cs, v ≠ .agg cs) : Rep W ok v d := by
  have : v.cells = #[v] := by
    cases v <;> first | rfl | exact absurd rfl (hv _)
  rw [this] at h
  exact h.2.2 0 v d rfl rfl
theorem rep_agg {ok : Nat → Prop} {cs : Array Value} {ds : List D} (h : RepL W ok cs.toList ds) : Rep W ok (.agg cs) (.agg ds) := by
  refine .agg cs ds (by have := h.1; simpa using this) h.2.1 (fun i d hi => ?_)
  have hl : i < cs.size := by have h1 := h.1; have h2 := (List.getElem?_eq_some_iff.1 hi).1; simp at h1; omega
  have : cs.toList[i]? = some (cs.getD i undef) := by simp [Array.getD_eq_getD_getElem?, hl]
  exact h.2.2 i _ d this hi
end
end Go.Eng
namespace Go.Eng
def allSz (P : Program) (fs : List (TypeId × Nat × Nat)) : Bool := fs.all fun f => Nat.beq (P.cellsOf f.1) f.2.2
theorem allSz_spec {P : Program} {fs : List (TypeId × Nat × Nat)} (h : allSz P fs = true) : ∀ f ∈ fs, P.cellsOf f.1 = f.2.2 := by
  intro f hf
  exact Nat.eq_of_beq_eq_true (List.all_eq_true.1 h f hf)
def arrFs (e sz : Nat) (k : Nat) : List (TypeId × Nat × Nat) := (List.range k).map fun i => (e, i * sz, sz)
theorem arrFs_spec {P : Program} {e k : Nat} {fs : List (TypeId × Nat × Nat)} (sz : Nat) (hz : P.cellsOf e = sz) (h : fs = arrFs e sz k) : ∀ f ∈ fs, ∃ i, i < k ∧ f = (e, i * P.cellsOf e, P.cellsOf e) := by
  subst h
  intro f hf
  obtain ⟨i, hi, rfl⟩ := List.mem_map.1 hf
  exact ⟨i, by simpa using hi, by rw [hz]⟩
end Go.Eng
set_option linter.unusedVariables false
set_option linter.unusedSimpArgs false
namespace Go.Eng
open Go.RowKit Go.ChangeShapes
theorem calls_of_does {P : Program} {f : FuncId} {fn : Func} {c : Code} (hf : P.funcs[f]? = some fn) (hb : fn.body = some c) (hname : (fn.name == "runtime.NumGoroutine") = false) {vs : Array Value} {w : World} {R : Value → World → Prop} (h : Does P f vs w R) :
    Calls P f vs w fun e w' => ∃ v, e = .returned v ∧ R v w' := by
  rcases h with ⟨_, h⟩ | ⟨v, h, _⟩
  · exact h
  · simp [callFunc, hf, hb] at h
    split at h <;> cases h
theorem law_calls {P : Program} {gt : Nat → Option (List D)} {f : FuncId} {fn : Func} {c : Code} {args : List Arg} (hf : P.funcs[f]? = some fn) (hb : fn.body = some c) (hname : (fn.name == "runtime.NumGoroutine") = false)
    (hs : Spec P gt f args [.val (.bool true)]) {W : World} {vs : Array Value} (hg : GlobOK gt W (fun b => b < W.heap.size)) (hl : vs.size = args.length) (ha : ∀ (i : Nat) (a : Arg), args[i]? = some a → ArgRep W (fun b => b < W.heap.size) a (vs.getD i undef)) :
    Calls P f vs W fun e W' => e = .returned (.bool true) ∧ Below W.heap.size W W' := by
  refine (calls_of_does hf hb hname (hs W vs _ (fun b h => h) hg hl ha)).mono (fun e W' h => ?_)
  obtain ⟨v, rfl, h1, okr, h2, us, h3, h4, h5, h6⟩ := h
  match us, h3 with
  | [u], _ =>
    have h7 := h5 0 _ rfl
    have h8 := Rep.bool_inv (w := W') h7
    exact ⟨by rw [h4]; show Ending.returned u = _; rw [show u = Value.bool true from h8], h1⟩
theorem post_of_below {H : Type} {enc : TypeId × Value → H} {P : Program} {f : Func} {s : ChangeSpec} {apart fresh handsOn again : Bool} {W W' : World} {args : Array Value} {v : Value} {ds gs : List (DataW H)} {before pa pv : List MemPlace}
    (hW : DataW.Whole enc P f.params.toList s.vars apart W args.toList ds gs before)
    (hres : ∀ (b : Nat) (sp : Nat → Bool) (hd : Bool), DataW.TrodAll enc P W' b sp hd f.resultTypes.toList (v.resultList f.resultTypes.size) (s.fn H (ds ++ gs)).results [])
    (hargs : ∀ sp : Nat → Bool, (∀ p ∈ before, sp p.block = true) → DataW.TrodAll enc P W' 0 sp true f.params.toList args.toList (s.fn H (ds ++ gs)).args pa)
    (hvars : ∀ sp : Nat → Bool, (∀ p ∈ before, sp p.block = true) → DataW.TrodVars enc P W' sp s.vars (s.fn H (ds ++ gs)).vars pv)
    (hps : before = pa ++ pv) (hbl : Below W.heap.size W W')
    (hok : ∀ (j : Nat) (t : TypeId) (r : Value), f.resultTypes[j]? = some t → (v.resultList f.resultTypes.size)[j]? = some r → Value.okWide P W' .any 0 t r) :
    s.post enc P f apart fresh handsOn again W args v W' := by
  have hold : ∀ p ∈ before, (fun b => decide (b < W.heap.size)) p.block = true := fun p hp => by simpa using hW.lt p hp
  have hlt : ∀ p ∈ before, p.block < W.heap.size := fun p hp => hW.lt p hp
  refine ⟨ds, gs, before, [], pa, pv, hW, hres _ _ _, hargs _ hold, hvars _ hold, World.keptBut_mono (fun p hp => ⟨hp, ?_⟩) (hbl.frame (· ∈ before)), fun _ => ?_⟩
  · rw [hps, List.mem_append] at hp
    exact Or.inr hp
  · obtain ⟨_, _, _, _, _, hz, hn⟩ := hW
    refine ⟨hok, _, _, ([] ++ pa) ++ pv, ⟨[] ++ pa, pv, trodAll_append (hargs _ (fun _ _ => rfl)) (hres _ _ _), hvars _ (fun _ _ => rfl), rfl, ?_, ?_⟩, ?_⟩
    · intro b off hp
      have hp' : MemPlace.cell b off ∈ before := by rw [hps]; simpa using hp
      rw [hbl.frozen (p := ⟨b, off, none⟩) (hlt _ hp')]
      exact hz b off hp'
    · intro ha
      have := hn ha
      rw [hps] at this
      simpa using this
    · intro p hp _
      rw [hps]
      simpa using hp
theorem args_again {H : Type} {enc : TypeId × Value → H} {P : Program} (hl : laidOutB P = true) {W W' : World} (hb : Below W.heap.size W W') (sp : Nat → Bool) : ∀ {ts : List TypeId} {vs : List Value} {ds : List (DataW H)} {ps : List MemPlace},
    (∀ t ∈ ts, P.readableRec t = true ∧ t < P.types.size) → DataW.TrodAll enc P W 0 (fun _ => true) true ts vs ds ps → (∀ p ∈ ps, p.block < W.heap.size) → (∀ p ∈ ps, sp p.block = true) → DataW.TrodAll enc P W' 0 sp true ts vs ds ps := by
  intro ts
  induction ts with
  | nil => intro vs ds ps ht h hlt hsp; cases vs <;> cases ds <;> first | exact h | exact h.elim
  | cons t ts ih =>
    intro vs ds ps ht h hlt hsp
    match vs, ds, h with
    | v :: vs, d :: ds, ⟨p, q, h1, h2, h3⟩ =>
      subst h3
      refine ⟨p, q, ?_, ih (fun u hu => ht u (List.mem_cons_of_mem _ hu)) h2 (fun x hx => hlt x (List.mem_append_right _ hx)) (fun x hx => hsp x (List.mem_append_right _ hx)), rfl⟩
      exact WideElems.Trod_stays hl (ht t List.mem_cons_self).1 (ht t List.mem_cons_self).2 h1 (fun x hx => hb.same (hlt x (List.mem_append_left _ hx))) (fun x hx => hsp x (List.mem_append_left _ hx))
end Go.Eng
namespace Go.Eng
open Go.RowKit
theorem okWide_noagg {P : Program} {W : World} {r : Reach} {b0 : Nat} {t : TypeId} {v : Value} (hu : (kindOf P t).isAgg = false) (hk : ∃ d, P.underlying t = some d) (h : Value.okWide P W r b0 t v) : ∀ cs, v ≠ .agg cs := by
  rintro cs rfl
  obtain ⟨d, hd⟩ := hk
  unfold kindOf at hu
  rw [hd] at hu
  cases d <;> simp [Value.okWide, Cell.okWide, Cell.ok, hd, TK.isAgg] at h hu
theorem okWide_agg {P : Program} {W : World} {r : Reach} {b0 : Nat} {t : TypeId} {v : Value} (hu : (kindOf P t).isAgg = true) (h : Value.okWide P W r b0 t v) : ∃ cs, v = .agg cs := by
  unfold kindOf at hu
  unfold Value.okWide at h
  cases hd : P.underlying t with
  | none => rw [hd] at hu; cases hu
  | some d =>
    rw [hd] at hu h
    cases d <;> first | (cases hu; done) | exact ⟨_, h.choose_spec.1⟩
theorem arg_cell {P : Program} {W : World} {r : Reach} {b0 : Nat} {t : TypeId} {v : Value} {d : D} (hu : (kindOf P t).isAgg = false) (hk : ∃ d, P.underlying t = some d) (h : Value.okWide P W r b0 t v) (hr : RepL W (fun b => b < W.heap.size) v.cells.toList [d]) :
    ArgRep W (fun b => b < W.heap.size) (.val d) v := rep_of_cells hr (okWide_noagg hu hk h)
theorem arg_agg {P : Program} {W : World} {r : Reach} {b0 : Nat} {t : TypeId} {v : Value} {ds : List D} (hu : (kindOf P t).isAgg = true) (h : Value.okWide P W r b0 t v) (hr : RepL W (fun b => b < W.heap.size) v.cells.toList ds) :
    ArgRep W (fun b => b < W.heap.size) (.val (.agg ds)) v := by
  obtain ⟨cs, rfl⟩ := okWide_agg hu h
  exact rep_agg hr
end Go.Eng
namespace Go.Eng
def allRead (P : Program) (ts : List TypeId) : Bool := ts.all fun t => P.readableRec t && decide (t < P.types.size)
theorem allRead_spec {P : Program} {ts : List TypeId} (h : allRead P ts = true) : ∀ t ∈ ts, P.readableRec t = true ∧ t < P.types.size := by
  intro t ht
  have := List.all_eq_true.1 h t ht
  simpa using this
end Go.Eng
set_option linter.unusedVariables false
set_option linter.unusedSimpArgs false
namespace Go.Eng
open Go.RowKit
section
variable {c : Cx} {ρ : Type} {R : ρ → List RR → Prop} {D : Env → ρ → Ex → St → Prop} {t : T}
theorem Sat.needH {g : Bool} {p q : Prop} [Decidable q] {A : Option ρ} (ht : t.view = .need g p) (hp : q → g = true → p) (hA : q → Sat c R D t.nx A) : Sat c R D t (if q then A else .none) := by
  refine ⟨fun E hE r h => ?_⟩
  cases t <;> cases ht
  split at h
  · rename_i hq; exact ⟨hp hq, (hA hq).run E hE r h⟩
  · cases h
end
theorem drop_flatMap {τ : Type} (enc : τ → List D) (sz : Nat) (hl : ∀ y, (enc y).length = sz) : ∀ (els : List τ) (i : Nat), (els.flatMap enc).drop (i * sz) = (els.drop i).flatMap enc
  | [], i => by simp
  | y :: r, 0 => by simp
  | y :: r, i + 1 => by
    have h := drop_flatMap enc sz hl r i
    rw [List.flatMap_cons, show (i + 1) * sz = (enc y).length + i * sz by rw [hl]; rw [Nat.succ_mul]; omega, List.drop_append, List.drop_eq_nil_of_le (by omega)]
    simp [h]
theorem getPart_arr {τ : Type} {enc : τ → List D} {els : List τ} {cells : List D} (sz : Nat) (hc : cells = els.flatMap enc) (hl : ∀ y, (enc y).length = sz) (n : Int) (h0 : 0 ≤ n) (hs : 0 < sz) : getPart cells (0 + n.toNat * sz) sz = (getI els n).map enc := by
  subst hc
  unfold getPart getI
  rw [if_pos h0, Nat.zero_add]
  have hlen : (els.flatMap enc).length = els.length * sz := by
    induction els with
    | nil => simp
    | cons y r ih => rw [List.flatMap_cons, List.length_append, ih, hl, List.length_cons, Nat.succ_mul]; omega
  rw [hlen]
  by_cases hn : n.toNat < els.length
  · have : (n.toNat + 1) * sz ≤ els.length * sz := Nat.mul_le_mul_right _ hn
    rw [if_pos (by rw [Nat.succ_mul] at this; exact this), drop_flatMap enc sz hl, List.getElem?_eq_getElem hn, List.drop_eq_getElem_cons hn, List.flatMap_cons]
    simp [hl]
  · rw [List.getElem?_eq_none (by omega)]
    have : els.length * sz ≤ n.toNat * sz := Nat.mul_le_mul_right _ (by omega)
    rw [if_neg (by omega)]
    rfl
def bitsAdd64 (x y c : Int) : Option (Int × Int) := if 0 ≤ x ∧ 0 ≤ y ∧ 0 ≤ c ∧ c ≤ 1 then some ((x + y + c) % 18446744073709551616, (x + y + c) / 18446744073709551616) else none
def bitsSub64 (x y c : Int) : Option (Int × Int) := if 0 ≤ x ∧ 0 ≤ y ∧ 0 ≤ c ∧ c ≤ 1 ∧ y + c ≤ 18446744073709551616 then some ((x - y - c) % 18446744073709551616, if x < y + c then 1 else 0) else none
def sub64E : Array Value → Sem Value := fun args => do
  let (x, y, b) ← Extern.MathBitsCarry.three "Sub64" args
  pure (Extern.MathBitsCarry.pair ((x + Extern.MathBitsCarry.m64 - y - b) % Extern.MathBitsCarry.m64) (if x < y + b then 1 else 0))
theorem run_sub64E {P : Program} (x y b : Nat) (hb : b ≤ 1) (w : World) :
    (sub64E #[.int .u64 x, .int .u64 y, .int .u64 b]).run P w =
      .ok (.tuple #[.int .u64 (((x + 18446744073709551616 - y - b) % 18446744073709551616 : Nat) : Int), .int .u64 ((if x < y + b then 1 else 0 : Nat) : Int)]) w := by
  have : b = 0 ∨ b = 1 := by omega
  rcases this with rfl | rfl <;> rfl
theorem does_pair {P : Program} {gt : Nat → Option (List D)} {f : FuncId} {x y c p q : Int} {F : Option (Int × Int)} (hF : ∀ r, F = some r → r = (p, q))
    (hr : (F.isSome = true) → ∀ w, (callFunc f #[.int .u64 x, .int .u64 y, .int .u64 c]).run P w = .ok (.value (.tuple #[.int .u64 p, .int .u64 q])) w) :
    DoesP P gt f [.val (.int .u64 x), .val (.int .u64 y), .val (.int .u64 c)] (fun r : Int × Int => [.val (.int .u64 r.1), .val (.int .u64 r.2)]) F := by
  intro r hr' w vs ok hok hg hsz ha
  obtain rfl := hF r hr'
  have e0 := Rep.int_inv (w := w) (show Rep w ok (vs.getD 0 undef) (.int .u64 x) from ha 0 _ rfl)
  have e1 := Rep.int_inv (w := w) (show Rep w ok (vs.getD 1 undef) (.int .u64 y) from ha 1 _ rfl)
  have e2 := Rep.int_inv (w := w) (show Rep w ok (vs.getD 2 undef) (.int .u64 c) from ha 2 _ rfl)
  have hvs : vs = #[.int .u64 x, .int .u64 y, .int .u64 c] := by
    apply Array.ext
    · simpa using hsz
    · intro i h1 h2
      have h1' := h1
      simp at h2
      have hg : ∀ k, k < vs.size → vs[k]? = some (vs.getD k undef) := fun k hk => by simp [Array.getD_eq_getD_getElem?, hk]
      match i, h2 with
      | 0, _ => have := hg 0 h1'; rw [e0] at this; simpa [Array.getElem?_eq_getElem h1'] using this
      | 1, _ => have := hg 1 h1'; rw [e1] at this; simpa [Array.getElem?_eq_getElem h1'] using this
      | 2, _ => have := hg 2 h1'; rw [e2] at this; simpa [Array.getElem?_eq_getElem h1'] using this
  subst hvs
  refine .inr ⟨_, hr (by rw [hr']; rfl) w, Below.refl _ _, fun _ => False, fun b h => h.elim, [.int .u64 p, .int .u64 q], rfl, rfl, fun i r hi => ?_, fun i j r s hi hj h1 => ?_⟩
  · match i, hi with
    | 0, hi => simp at hi; subst hi; exact Rep.int _ _
    | 1, hi => simp at hi; subst hi; exact Rep.int _ _
    | n + 2, hi => simp at hi
  · match i, hi with
    | 0, hi => simp at hi; subst hi; cases h1
    | 1, hi => simp at hi; subst hi; cases h1
    | n + 2, hi => simp at hi
theorem does_bitsAdd64 {P : Program} {gt : Nat → Option (List D)} {f : FuncId} {fn : Func} (hf : P.funcs[f]? = some fn) (hname : (fn.name == "runtime.NumGoroutine") = false) (hb : fn.body.isNone = true) (hn : Extern.findNext fn = none) (he : Extern.find fn = some add64Entry) {x y c : Int} :
    DoesP P gt f [.val (.int .u64 x), .val (.int .u64 y), .val (.int .u64 c)] (fun r : Int × Int => [.val (.int .u64 r.1), .val (.int .u64 r.2)]) (bitsAdd64 x y c) := by
  refine does_pair (p := (x + y + c) % 18446744073709551616) (q := (x + y + c) / 18446744073709551616) (fun r h => ?_) (fun h w => ?_)
  · unfold bitsAdd64 at h
    split at h
    · injection h with h; exact h.symm
    · cases h
  · unfold bitsAdd64 at h
    split at h
    · rename_i hh
      rw [run_callFunc_extern hf hname hb hn he, run_add64 x y c hh.1 hh.2.1 hh.2.2.1 hh.2.2.2]
      rfl
    · cases h
theorem does_bitsSub64 {P : Program} {gt : Nat → Option (List D)} {f : FuncId} {fn : Func} (hf : P.funcs[f]? = some fn) (hname : (fn.name == "runtime.NumGoroutine") = false) (hb : fn.body.isNone = true) (hn : Extern.findNext fn = none) (he : Extern.find fn = some sub64E) {x y c : Int} :
    DoesP P gt f [.val (.int .u64 x), .val (.int .u64 y), .val (.int .u64 c)] (fun r : Int × Int => [.val (.int .u64 r.1), .val (.int .u64 r.2)]) (bitsSub64 x y c) := by
  refine does_pair (p := (x - y - c) % 18446744073709551616) (q := if x < y + c then 1 else 0) (fun r h => ?_) (fun h w => ?_)
  · unfold bitsSub64 at h
    split at h
    · injection h with h; exact h.symm
    · cases h
  · unfold bitsSub64 at h
    split at h
    · rename_i hh
      obtain ⟨X, rfl⟩ := Int.eq_ofNat_of_zero_le hh.1
      obtain ⟨Y, rfl⟩ := Int.eq_ofNat_of_zero_le hh.2.1
      obtain ⟨k, rfl⟩ := Int.eq_ofNat_of_zero_le hh.2.2.1
      rw [run_callFunc_extern hf hname hb hn he, run_sub64E X Y k (by omega)]
      simp only [Result.andThen]
      have e1 : (((X + 18446744073709551616 - Y - k) % 18446744073709551616 : Nat) : Int) = ((X : Int) - Y - k) % 18446744073709551616 := by omega
      have e2 : ((if X < Y + k then 1 else 0 : Nat) : Int) = if (X : Int) < Y + k then 1 else 0 := by split <;> split <;> omega
      rw [e1, e2]
    · cases h
theorem allU8_map (l : List Int) : allU8 (List.map (eInt .u8) l) := by
  intro r hr
  obtain ⟨n, _, rfl⟩ := List.mem_map.1 hr
  exact ⟨n, rfl⟩
end Go.Eng
namespace Go.Eng
theorem getRow_mapE {τ : Type} {enc enc1 : τ → List D} (h : enc = enc1) (l : List τ) (n : Int) : getRow (List.map enc l) n = (getI l n).map enc1 := by
  subst h; exact getRow_map enc l n
theorem getEl_mapE {τ : Type} {enc enc1 : τ → List D} (h : enc = enc1) (l : List τ) (n : Nat) : (List.map enc l)[n]? = (l[n]?).map enc1 := by
  subst h; exact getEl_map enc l n
end Go.Eng
set_option linter.unusedVariables false
set_option linter.unusedSimpArgs false
namespace Go.Cb
open Go.Eng Go.RowKit
structure ApiCurrency where
  Code : ByteArray
  Digits : Int
  deriving Inhabited
structure ApiCalendar where
  Name : ByteArray
  Weekend : (List Int)
  Holidays : (List Int)
  deriving Inhabited
structure ApiGl where
  Id : Int
  Parent : Int
  Kind : Int
  Name : ByteArray
  deriving Inhabited
structure ApiPlan where
  Cash : Int
  Deposits : Int
  InterestPaid : Int
  InterestEarned : Int
  FeeEarned : Int
  Tax : Int
  Clearing : Int
  Loans : Int
  LoanInterest : Int
  Penalty : Int
  Provision : Int
  ProvisionCost : Int
  Loss : Int
  Recovery : Int
  deriving Inhabited
structure ApiTier where
  From : Int
  Ppm : Int
  deriving Inhabited
structure ApiInterest where
  Tiers : (List ApiTier)
  Marginal : Bool
  Basis : Int
  Mode : Int
  Keep : Bool
  deriving Inhabited
structure ApiExpr where
  Op : Int
  N : Int
  S : ByteArray
  Args : (List ApiExpr)
instance : Inhabited ApiExpr := ⟨⟨default, default, default, []⟩⟩
structure ApiFee where
  Name : ByteArray
  Event : Int
  When : ApiExpr
  Amount : ApiExpr
  deriving Inhabited
structure ApiRule where
  Name : ByteArray
  Window : Int
  Amount : ApiExpr
  deriving Inhabited
structure ApiProduct where
  Name : ByteArray
  Currency : ByteArray
  Calendar : ByteArray
  From : Int
  Every : Int
  Overdraft : Int
  TaxPpm : Int
  Credit : ApiInterest
  Debit : ApiInterest
  Fees : (List ApiFee)
  Rules : (List ApiRule)
  deriving Inhabited
structure ApiAccount where
  Id : Int
  Opened : Int
  Closed : Int
  Extra : Int
  Owner : ByteArray
  Product : ByteArray
  Number : ByteArray
  deriving Inhabited
structure ApiLeg where
  Account : Int
  Amount : Int
  Currency : ByteArray
  deriving Inhabited
structure ApiEntry where
  Id : Int
  Booked : Int
  Value : Int
  Kind : Int
  Auth : Int
  Period : Int
  Key : ByteArray
  Text : ByteArray
  Legs : (List ApiLeg)
  Chain : Int
  deriving Inhabited
structure ApiHold where
  Id : Int
  Account : Int
  Amount : Int
  From : Int
  To : Int
  Key : ByteArray
  deriving Inhabited
structure ApiBlock where
  Id : Int
  Account : Int
  Kind : Int
  Amount : Int
  From : Int
  To : Int
  Source : ByteArray
  deriving Inhabited
structure ApiBooks where
  Currencies : (List ApiCurrency)
  Calendars : (List ApiCalendar)
  Chart : (List ApiGl)
  Plan : ApiPlan
  Products : (List ApiProduct)
  Accounts : (List ApiAccount)
  Journal : (List ApiEntry)
  Holds : (List ApiHold)
  Blocks : (List ApiBlock)
  deriving Inhabited
structure ApiWide where
  Hi : Int
  Lo : Int
  deriving Inhabited
structure ApiPeriod where
  Account : Int
  From : Int
  To : Int
  Credit : Int
  Debit : Int
  Tax : Int
  Count : Int
  CreditRest : ApiWide
  DebitRest : ApiWide
  deriving Inhabited
structure ApiVar where
  Name : ByteArray
  Type' : Int
  deriving Inhabited
structure ApiMoney where
  Currency : ByteArray
  Amount : Int
  deriving Inhabited
structure ApiAccrual where
  Account : Int
  Day : Int
  Balance : Int
  Credit : ApiWide
  Debit : ApiWide
  deriving Inhabited
structure ApiSlice where
  Amount : Int
  Ppm : Int
  deriving Inhabited
structure WideSize where
  hi : Int
  lo : Int
  deriving Inhabited
structure RoundingStep where
  negative : Int
  positive : Int
  deriving Inhabited
structure Corebankref01Mag where
  H : Int
  L : Int
  deriving Inhabited
def ApiCurrency.enc (x : ApiCurrency) : List D := [.str x.Code, .int .i64 x.Digits]
def ApiCalendar.enc (x : ApiCalendar) : List D := [.str x.Name, .slice (List.map (eInt .i64) x.Weekend), .slice (List.map (eInt .i64) x.Holidays)]
def ApiGl.enc (x : ApiGl) : List D := [.int .i64 x.Id, .int .i64 x.Parent, .int .i64 x.Kind, .str x.Name]
def ApiPlan.enc (x : ApiPlan) : List D := [.int .i64 x.Cash, .int .i64 x.Deposits, .int .i64 x.InterestPaid, .int .i64 x.InterestEarned, .int .i64 x.FeeEarned, .int .i64 x.Tax, .int .i64 x.Clearing, .int .i64 x.Loans, .int .i64 x.LoanInterest, .int .i64 x.Penalty, .int .i64 x.Provision, .int .i64 x.ProvisionCost, .int .i64 x.Loss, .int .i64 x.Recovery]
def ApiTier.enc (x : ApiTier) : List D := [.int .i64 x.From, .int .i64 x.Ppm]
def ApiInterest.enc (x : ApiInterest) : List D := [.slice (List.map ApiTier.enc x.Tiers), .bool x.Marginal, .int .i64 x.Basis, .int .i64 x.Mode, .bool x.Keep]
theorem ApiExpr.lt {x y : ApiExpr} (h : y ∈ x.Args) : SizeOf.sizeOf y < SizeOf.sizeOf x := by
  cases x
  have := List.sizeOf_lt_of_mem h
  simp at *
  omega
def ApiExpr.enc (x : ApiExpr) : List D := [.int .i64 x.Op, .int .i64 x.N, .str x.S, .slice (x.Args.attach.map fun y => y.1.enc)]
  termination_by SizeOf.sizeOf x
  decreasing_by exact ApiExpr.lt y.2
def ApiExpr.enc1 (x : ApiExpr) : List D := [.int .i64 x.Op, .int .i64 x.N, .str x.S, .slice (List.map ApiExpr.enc x.Args)]
theorem ApiExpr.enc_eq : ApiExpr.enc = ApiExpr.enc1 := by
  funext x
  unfold ApiExpr.enc ApiExpr.enc1
  simp
def ApiFee.enc (x : ApiFee) : List D := [.str x.Name, .int .i64 x.Event, .int .i64 x.When.Op, .int .i64 x.When.N, .str x.When.S, .slice (List.map ApiExpr.enc x.When.Args), .int .i64 x.Amount.Op, .int .i64 x.Amount.N, .str x.Amount.S, .slice (List.map ApiExpr.enc x.Amount.Args)]
def ApiRule.enc (x : ApiRule) : List D := [.str x.Name, .int .i64 x.Window, .int .i64 x.Amount.Op, .int .i64 x.Amount.N, .str x.Amount.S, .slice (List.map ApiExpr.enc x.Amount.Args)]
def ApiProduct.enc (x : ApiProduct) : List D := [.str x.Name, .str x.Currency, .str x.Calendar, .int .i64 x.From, .int .i64 x.Every, .int .i64 x.Overdraft, .int .i64 x.TaxPpm, .slice (List.map ApiTier.enc x.Credit.Tiers), .bool x.Credit.Marginal, .int .i64 x.Credit.Basis, .int .i64 x.Credit.Mode, .bool x.Credit.Keep, .slice (List.map ApiTier.enc x.Debit.Tiers), .bool x.Debit.Marginal, .int .i64 x.Debit.Basis, .int .i64 x.Debit.Mode, .bool x.Debit.Keep, .slice (List.map ApiFee.enc x.Fees), .slice (List.map ApiRule.enc x.Rules)]
def ApiAccount.enc (x : ApiAccount) : List D := [.int .i64 x.Id, .int .i64 x.Opened, .int .i64 x.Closed, .int .i64 x.Extra, .str x.Owner, .str x.Product, .str x.Number]
def ApiLeg.enc (x : ApiLeg) : List D := [.int .i64 x.Account, .int .i64 x.Amount, .str x.Currency]
def ApiEntry.enc (x : ApiEntry) : List D := [.int .i64 x.Id, .int .i64 x.Booked, .int .i64 x.Value, .int .i64 x.Kind, .int .i64 x.Auth, .int .i64 x.Period, .str x.Key, .str x.Text, .slice (List.map ApiLeg.enc x.Legs), .int .u64 x.Chain]
def ApiHold.enc (x : ApiHold) : List D := [.int .i64 x.Id, .int .i64 x.Account, .int .i64 x.Amount, .int .i64 x.From, .int .i64 x.To, .str x.Key]
def ApiBlock.enc (x : ApiBlock) : List D := [.int .i64 x.Id, .int .i64 x.Account, .int .i64 x.Kind, .int .i64 x.Amount, .int .i64 x.From, .int .i64 x.To, .str x.Source]
def ApiBooks.enc (x : ApiBooks) : List D := [.slice (List.map ApiCurrency.enc x.Currencies), .slice (List.map ApiCalendar.enc x.Calendars), .slice (List.map ApiGl.enc x.Chart), .int .i64 x.Plan.Cash, .int .i64 x.Plan.Deposits, .int .i64 x.Plan.InterestPaid, .int .i64 x.Plan.InterestEarned, .int .i64 x.Plan.FeeEarned, .int .i64 x.Plan.Tax, .int .i64 x.Plan.Clearing, .int .i64 x.Plan.Loans, .int .i64 x.Plan.LoanInterest, .int .i64 x.Plan.Penalty, .int .i64 x.Plan.Provision, .int .i64 x.Plan.ProvisionCost, .int .i64 x.Plan.Loss, .int .i64 x.Plan.Recovery, .slice (List.map ApiProduct.enc x.Products), .slice (List.map ApiAccount.enc x.Accounts), .slice (List.map ApiEntry.enc x.Journal), .slice (List.map ApiHold.enc x.Holds), .slice (List.map ApiBlock.enc x.Blocks)]
def ApiWide.enc (x : ApiWide) : List D := [.int .i64 x.Hi, .int .u64 x.Lo]
def ApiPeriod.enc (x : ApiPeriod) : List D := [.int .i64 x.Account, .int .i64 x.From, .int .i64 x.To, .int .i64 x.Credit, .int .i64 x.Debit, .int .i64 x.Tax, .int .i64 x.Count, .int .i64 x.CreditRest.Hi, .int .u64 x.CreditRest.Lo, .int .i64 x.DebitRest.Hi, .int .u64 x.DebitRest.Lo]
def ApiVar.enc (x : ApiVar) : List D := [.str x.Name, .int .i64 x.Type']
def ApiMoney.enc (x : ApiMoney) : List D := [.str x.Currency, .int .i64 x.Amount]
def ApiAccrual.enc (x : ApiAccrual) : List D := [.int .i64 x.Account, .int .i64 x.Day, .int .i64 x.Balance, .int .i64 x.Credit.Hi, .int .u64 x.Credit.Lo, .int .i64 x.Debit.Hi, .int .u64 x.Debit.Lo]
def ApiSlice.enc (x : ApiSlice) : List D := [.int .i64 x.Amount, .int .i64 x.Ppm]
def WideSize.enc (x : WideSize) : List D := [.int .u64 x.hi, .int .u64 x.lo]
def RoundingStep.enc (x : RoundingStep) : List D := [.int .i64 x.negative, .int .i64 x.positive]
def Corebankref01Mag.enc (x : Corebankref01Mag) : List D := [.int .u64 x.H, .int .u64 x.L]
def ApiCurrency.good (n : Nat) (x : ApiCurrency) : Prop := gStr n x.Code ∧ (gInt .i64) n x.Digits
def ApiCalendar.good (n : Nat) (x : ApiCalendar) : Prop := gStr n x.Name ∧ (gList (gInt .i64)) n x.Weekend ∧ (gList (gInt .i64)) n x.Holidays
def ApiGl.good (n : Nat) (x : ApiGl) : Prop := (gInt .i64) n x.Id ∧ (gInt .i64) n x.Parent ∧ (gInt .i64) n x.Kind ∧ gStr n x.Name
def ApiPlan.good (n : Nat) (x : ApiPlan) : Prop := (gInt .i64) n x.Cash ∧ (gInt .i64) n x.Deposits ∧ (gInt .i64) n x.InterestPaid ∧ (gInt .i64) n x.InterestEarned ∧ (gInt .i64) n x.FeeEarned ∧ (gInt .i64) n x.Tax ∧ (gInt .i64) n x.Clearing ∧ (gInt .i64) n x.Loans ∧ (gInt .i64) n x.LoanInterest ∧ (gInt .i64) n x.Penalty ∧ (gInt .i64) n x.Provision ∧ (gInt .i64) n x.ProvisionCost ∧ (gInt .i64) n x.Loss ∧ (gInt .i64) n x.Recovery
def ApiTier.good (n : Nat) (x : ApiTier) : Prop := (gInt .i64) n x.From ∧ (gInt .i64) n x.Ppm
def ApiInterest.good (n : Nat) (x : ApiInterest) : Prop := (gList ApiTier.good) n x.Tiers ∧ gBool n x.Marginal ∧ (gInt .i64) n x.Basis ∧ (gInt .i64) n x.Mode ∧ gBool n x.Keep
inductive ApiExpr.good (n : Nat) : ApiExpr → Prop where
  | mk {x : ApiExpr} : (gInt .i64) n x.Op → (gInt .i64) n x.N → gStr n x.S → (x.Args.length ≤ n) → (∀ y ∈ x.Args, ApiExpr.good n y) → ApiExpr.good n x
def ApiFee.good (n : Nat) (x : ApiFee) : Prop := gStr n x.Name ∧ (gInt .i64) n x.Event ∧ ApiExpr.good n x.When ∧ ApiExpr.good n x.Amount
def ApiRule.good (n : Nat) (x : ApiRule) : Prop := gStr n x.Name ∧ (gInt .i64) n x.Window ∧ ApiExpr.good n x.Amount
def ApiProduct.good (n : Nat) (x : ApiProduct) : Prop := gStr n x.Name ∧ gStr n x.Currency ∧ gStr n x.Calendar ∧ (gInt .i64) n x.From ∧ (gInt .i64) n x.Every ∧ (gInt .i64) n x.Overdraft ∧ (gInt .i64) n x.TaxPpm ∧ ApiInterest.good n x.Credit ∧ ApiInterest.good n x.Debit ∧ (gList ApiFee.good) n x.Fees ∧ (gList ApiRule.good) n x.Rules
def ApiAccount.good (n : Nat) (x : ApiAccount) : Prop := (gInt .i64) n x.Id ∧ (gInt .i64) n x.Opened ∧ (gInt .i64) n x.Closed ∧ (gInt .i64) n x.Extra ∧ gStr n x.Owner ∧ gStr n x.Product ∧ gStr n x.Number
def ApiLeg.good (n : Nat) (x : ApiLeg) : Prop := (gInt .i64) n x.Account ∧ (gInt .i64) n x.Amount ∧ gStr n x.Currency
def ApiEntry.good (n : Nat) (x : ApiEntry) : Prop := (gInt .i64) n x.Id ∧ (gInt .i64) n x.Booked ∧ (gInt .i64) n x.Value ∧ (gInt .i64) n x.Kind ∧ (gInt .i64) n x.Auth ∧ (gInt .i64) n x.Period ∧ gStr n x.Key ∧ gStr n x.Text ∧ (gList ApiLeg.good) n x.Legs ∧ (gInt .u64) n x.Chain
def ApiHold.good (n : Nat) (x : ApiHold) : Prop := (gInt .i64) n x.Id ∧ (gInt .i64) n x.Account ∧ (gInt .i64) n x.Amount ∧ (gInt .i64) n x.From ∧ (gInt .i64) n x.To ∧ gStr n x.Key
def ApiBlock.good (n : Nat) (x : ApiBlock) : Prop := (gInt .i64) n x.Id ∧ (gInt .i64) n x.Account ∧ (gInt .i64) n x.Kind ∧ (gInt .i64) n x.Amount ∧ (gInt .i64) n x.From ∧ (gInt .i64) n x.To ∧ gStr n x.Source
def ApiBooks.good (n : Nat) (x : ApiBooks) : Prop := (gList ApiCurrency.good) n x.Currencies ∧ (gList ApiCalendar.good) n x.Calendars ∧ (gList ApiGl.good) n x.Chart ∧ ApiPlan.good n x.Plan ∧ (gList ApiProduct.good) n x.Products ∧ (gList ApiAccount.good) n x.Accounts ∧ (gList ApiEntry.good) n x.Journal ∧ (gList ApiHold.good) n x.Holds ∧ (gList ApiBlock.good) n x.Blocks
def ApiWide.good (n : Nat) (x : ApiWide) : Prop := (gInt .i64) n x.Hi ∧ (gInt .u64) n x.Lo
def ApiPeriod.good (n : Nat) (x : ApiPeriod) : Prop := (gInt .i64) n x.Account ∧ (gInt .i64) n x.From ∧ (gInt .i64) n x.To ∧ (gInt .i64) n x.Credit ∧ (gInt .i64) n x.Debit ∧ (gInt .i64) n x.Tax ∧ (gInt .i64) n x.Count ∧ ApiWide.good n x.CreditRest ∧ ApiWide.good n x.DebitRest
def ApiVar.good (n : Nat) (x : ApiVar) : Prop := gStr n x.Name ∧ (gInt .i64) n x.Type'
def ApiMoney.good (n : Nat) (x : ApiMoney) : Prop := gStr n x.Currency ∧ (gInt .i64) n x.Amount
def ApiAccrual.good (n : Nat) (x : ApiAccrual) : Prop := (gInt .i64) n x.Account ∧ (gInt .i64) n x.Day ∧ (gInt .i64) n x.Balance ∧ ApiWide.good n x.Credit ∧ ApiWide.good n x.Debit
def ApiSlice.good (n : Nat) (x : ApiSlice) : Prop := (gInt .i64) n x.Amount ∧ (gInt .i64) n x.Ppm
def WideSize.good (n : Nat) (x : WideSize) : Prop := (gInt .u64) n x.hi ∧ (gInt .u64) n x.lo
def RoundingStep.good (n : Nat) (x : RoundingStep) : Prop := (gInt .i64) n x.negative ∧ (gInt .i64) n x.positive
def Corebankref01Mag.good (n : Nat) (x : Corebankref01Mag) : Prop := (gInt .u64) n x.H ∧ (gInt .u64) n x.L
end Go.Cb
set_option linter.unusedVariables false
set_option linter.unusedSimpArgs false
namespace Go.Cb
open Go.Eng Go.RowKit
open Go.Proofs
def gtab : List D := [.int .i64 0, .int .i64 0, .int .i64 1, .int .i64 0, .int .i64 0, .int .i64 1, .int .i64 0, .int .i64 0, .int .i64 1, .int .i64 1]
def gt : Nat → Option (List D) := fun g => match Nat.beq g 0 with
  | true => some gtab
  | false => none
def tis : List (Nat × TI) := [(3, { kind := .int .i64, size := 1, bytes := 8, zero := [.val (.int .i64 0)], eqok := false }),
  (4, { kind := .bool, size := 1, bytes := 1, zero := [.val (.bool false)], eqok := false }),
  (5, { kind := .int .u8, size := 1, bytes := 1, zero := [.val (.int .u8 0)], eqok := false }),
  (9, { kind := .str, size := 1, bytes := 16, zero := [.val (.str (bs []))], eqok := false }),
  (22, { kind := .slice 63, size := 1, bytes := 24, zero := [.nils], eqok := false }),
  (23, { kind := .slice 66, size := 1, bytes := 24, zero := [.nils], eqok := false }),
  (24, { kind := .slice 68, size := 1, bytes := 24, zero := [.nils], eqok := false }),
  (26, { kind := .struct [(3, 0, 1), (3, 1, 1), (3, 2, 1), (3, 3, 1), (3, 4, 1), (3, 5, 1), (3, 6, 1), (3, 7, 1), (3, 8, 1), (3, 9, 1), (3, 10, 1), (3, 11, 1), (3, 12, 1), (3, 13, 1)], size := 14, bytes := 112, zero := [.val (.int .i64 0), .val (.int .i64 0), .val (.int .i64 0), .val (.int .i64 0), .val (.int .i64 0), .val (.int .i64 0), .val (.int .i64 0), .val (.int .i64 0), .val (.int .i64 0), .val (.int .i64 0), .val (.int .i64 0), .val (.int .i64 0), .val (.int .i64 0), .val (.int .i64 0)], eqok := true }),
  (27, { kind := .slice 80, size := 1, bytes := 24, zero := [.nils], eqok := false }),
  (28, { kind := .slice 45, size := 1, bytes := 24, zero := [.nils], eqok := false }),
  (29, { kind := .slice 43, size := 1, bytes := 24, zero := [.nils], eqok := false }),
  (30, { kind := .slice 88, size := 1, bytes := 24, zero := [.nils], eqok := false }),
  (31, { kind := .slice 92, size := 1, bytes := 24, zero := [.nils], eqok := false }),
  (33, { kind := .struct [(22, 0, 1), (23, 1, 1), (24, 2, 1), (26, 3, 14), (27, 17, 1), (28, 18, 1), (29, 19, 1), (30, 20, 1), (31, 21, 1)], size := 22, bytes := 304, zero := [.nils, .nils, .nils, .val (.int .i64 0), .val (.int .i64 0), .val (.int .i64 0), .val (.int .i64 0), .val (.int .i64 0), .val (.int .i64 0), .val (.int .i64 0), .val (.int .i64 0), .val (.int .i64 0), .val (.int .i64 0), .val (.int .i64 0), .val (.int .i64 0), .val (.int .i64 0), .val (.int .i64 0), .nils, .nils, .nils, .nils, .nils], eqok := true }),
  (34, { kind := .slice 51, size := 1, bytes := 24, zero := [.nils], eqok := false }),
  (37, { kind := .int .i64, size := 1, bytes := 8, zero := [.val (.int .i64 0)], eqok := false }),
  (40, { kind := .slice 124, size := 1, bytes := 24, zero := [.nils], eqok := false }),
  (41, { kind := .int .u64, size := 1, bytes := 8, zero := [.val (.int .u64 0)], eqok := false }),
  (43, { kind := .struct [(3, 0, 1), (3, 1, 1), (3, 2, 1), (3, 3, 1), (3, 4, 1), (3, 5, 1), (9, 6, 1), (9, 7, 1), (40, 8, 1), (41, 9, 1)], size := 10, bytes := 112, zero := [.val (.int .i64 0), .val (.int .i64 0), .val (.int .i64 0), .val (.int .i64 0), .val (.int .i64 0), .val (.int .i64 0), .val (.str (bs [])), .val (.str (bs [])), .nils, .val (.int .u64 0)], eqok := true }),
  (45, { kind := .struct [(3, 0, 1), (3, 1, 1), (3, 2, 1), (3, 3, 1), (9, 4, 1), (9, 5, 1), (9, 6, 1)], size := 7, bytes := 80, zero := [.val (.int .i64 0), .val (.int .i64 0), .val (.int .i64 0), .val (.int .i64 0), .val (.str (bs [])), .val (.str (bs [])), .val (.str (bs []))], eqok := true }),
  (49, { kind := .struct [(3, 0, 1), (41, 1, 1)], size := 2, bytes := 16, zero := [.val (.int .i64 0), .val (.int .u64 0)], eqok := true }),
  (51, { kind := .struct [(3, 0, 1), (3, 1, 1), (3, 2, 1), (3, 3, 1), (3, 4, 1), (3, 5, 1), (3, 6, 1), (49, 7, 2), (49, 9, 2)], size := 11, bytes := 88, zero := [.val (.int .i64 0), .val (.int .i64 0), .val (.int .i64 0), .val (.int .i64 0), .val (.int .i64 0), .val (.int .i64 0), .val (.int .i64 0), .val (.int .i64 0), .val (.int .u64 0), .val (.int .i64 0), .val (.int .u64 0)], eqok := true }),
  (58, { kind := .slice 3, size := 1, bytes := 24, zero := [.nils], eqok := false }),
  (63, { kind := .struct [(9, 0, 1), (3, 1, 1)], size := 2, bytes := 24, zero := [.val (.str (bs [])), .val (.int .i64 0)], eqok := true }),
  (66, { kind := .struct [(9, 0, 1), (58, 1, 1), (58, 2, 1)], size := 3, bytes := 64, zero := [.val (.str (bs [])), .nils, .nils], eqok := true }),
  (68, { kind := .struct [(3, 0, 1), (3, 1, 1), (3, 2, 1), (9, 3, 1)], size := 4, bytes := 40, zero := [.val (.int .i64 0), .val (.int .i64 0), .val (.int .i64 0), .val (.str (bs []))], eqok := true }),
  (74, { kind := .slice 166, size := 1, bytes := 24, zero := [.nils], eqok := false }),
  (76, { kind := .struct [(74, 0, 1), (4, 1, 1), (3, 2, 1), (3, 3, 1), (4, 4, 1)], size := 5, bytes := 56, zero := [.nils, .val (.bool false), .val (.int .i64 0), .val (.int .i64 0), .val (.bool false)], eqok := true }),
  (77, { kind := .slice 112, size := 1, bytes := 24, zero := [.nils], eqok := false }),
  (78, { kind := .slice 115, size := 1, bytes := 24, zero := [.nils], eqok := false }),
  (80, { kind := .struct [(9, 0, 1), (9, 1, 1), (9, 2, 1), (3, 3, 1), (3, 4, 1), (3, 5, 1), (3, 6, 1), (76, 7, 5), (76, 12, 5), (77, 17, 1), (78, 18, 1)], size := 19, bytes := 240, zero := [.val (.str (bs [])), .val (.str (bs [])), .val (.str (bs [])), .val (.int .i64 0), .val (.int .i64 0), .val (.int .i64 0), .val (.int .i64 0), .nils, .val (.bool false), .val (.int .i64 0), .val (.int .i64 0), .val (.bool false), .nils, .val (.bool false), .val (.int .i64 0), .val (.int .i64 0), .val (.bool false), .nils, .nils], eqok := true }),
  (88, { kind := .struct [(3, 0, 1), (3, 1, 1), (3, 2, 1), (3, 3, 1), (3, 4, 1), (9, 5, 1)], size := 6, bytes := 56, zero := [.val (.int .i64 0), .val (.int .i64 0), .val (.int .i64 0), .val (.int .i64 0), .val (.int .i64 0), .val (.str (bs []))], eqok := true }),
  (92, { kind := .struct [(3, 0, 1), (3, 1, 1), (3, 2, 1), (3, 3, 1), (3, 4, 1), (3, 5, 1), (9, 6, 1)], size := 7, bytes := 64, zero := [.val (.int .i64 0), .val (.int .i64 0), .val (.int .i64 0), .val (.int .i64 0), .val (.int .i64 0), .val (.int .i64 0), .val (.str (bs []))], eqok := true }),
  (108, { kind := .slice 110, size := 1, bytes := 24, zero := [.nils], eqok := false }),
  (110, { kind := .struct [(3, 0, 1), (3, 1, 1), (9, 2, 1), (108, 3, 1)], size := 4, bytes := 56, zero := [.val (.int .i64 0), .val (.int .i64 0), .val (.str (bs [])), .nils], eqok := true }),
  (112, { kind := .struct [(9, 0, 1), (3, 1, 1), (110, 2, 4), (110, 6, 4)], size := 10, bytes := 136, zero := [.val (.str (bs [])), .val (.int .i64 0), .val (.int .i64 0), .val (.int .i64 0), .val (.str (bs [])), .nils, .val (.int .i64 0), .val (.int .i64 0), .val (.str (bs [])), .nils], eqok := true }),
  (115, { kind := .struct [(9, 0, 1), (3, 1, 1), (110, 2, 4)], size := 6, bytes := 80, zero := [.val (.str (bs [])), .val (.int .i64 0), .val (.int .i64 0), .val (.int .i64 0), .val (.str (bs [])), .nils], eqok := true }),
  (124, { kind := .struct [(3, 0, 1), (3, 1, 1), (9, 2, 1)], size := 3, bytes := 32, zero := [.val (.int .i64 0), .val (.int .i64 0), .val (.str (bs []))], eqok := true }),
  (128, { kind := .slice 157, size := 1, bytes := 24, zero := [.nils], eqok := false }),
  (142, { kind := .slice 169, size := 1, bytes := 24, zero := [.nils], eqok := false }),
  (154, { kind := .struct [(49, 0, 2), (49, 2, 2)], size := 4, bytes := 32, zero := [.val (.int .i64 0), .val (.int .u64 0), .val (.int .i64 0), .val (.int .u64 0)], eqok := true }),
  (157, { kind := .struct [(3, 0, 1), (3, 1, 1), (3, 2, 1), (49, 3, 2), (49, 5, 2)], size := 7, bytes := 56, zero := [.val (.int .i64 0), .val (.int .i64 0), .val (.int .i64 0), .val (.int .i64 0), .val (.int .u64 0), .val (.int .i64 0), .val (.int .u64 0)], eqok := true }),
  (166, { kind := .struct [(3, 0, 1), (3, 1, 1)], size := 2, bytes := 16, zero := [.val (.int .i64 0), .val (.int .i64 0)], eqok := true }),
  (169, { kind := .struct [(9, 0, 1), (3, 1, 1)], size := 2, bytes := 24, zero := [.val (.str (bs [])), .val (.int .i64 0)], eqok := true }),
  (172, { kind := .slice 175, size := 1, bytes := 24, zero := [.nils], eqok := false }),
  (175, { kind := .struct [(9, 0, 1), (3, 1, 1)], size := 2, bytes := 24, zero := [.val (.str (bs [])), .val (.int .i64 0)], eqok := true }),
  (178, { kind := .slice 9, size := 1, bytes := 24, zero := [.nils], eqok := false }),
  (186, { kind := .slice 212, size := 1, bytes := 24, zero := [.nils], eqok := false }),
  (190, { kind := .struct [(41, 0, 1), (41, 1, 1)], size := 2, bytes := 16, zero := [.val (.int .u64 0), .val (.int .u64 0)], eqok := true }),
  (202, { kind := .slice 5, size := 1, bytes := 24, zero := [.nils], eqok := false }),
  (212, { kind := .struct [(3, 0, 1), (3, 1, 1)], size := 2, bytes := 16, zero := [.val (.int .i64 0), .val (.int .i64 0)], eqok := true }),
  (235, { kind := .struct [(41, 0, 1), (41, 1, 1)], size := 2, bytes := 16, zero := [.val (.int .u64 0), .val (.int .u64 0)], eqok := true }),
  (242, { kind := .int .u64, size := 1, bytes := 8, zero := [.val (.int .u64 0)], eqok := false }),
  (244, { kind := .struct [(3, 0, 1), (3, 1, 1)], size := 2, bytes := 16, zero := [.val (.int .i64 0), .val (.int .i64 0)], eqok := true }),
  (245, { kind := .array 5 244, size := 10, bytes := 80, zero := [.val (.int .i64 0), .val (.int .i64 0), .val (.int .i64 0), .val (.int .i64 0), .val (.int .i64 0), .val (.int .i64 0), .val (.int .i64 0), .val (.int .i64 0), .val (.int .i64 0), .val (.int .i64 0)], eqok := false }),
  (256, { kind := .other, size := 1, bytes := 16, zero := [.any], eqok := false }),
  (259, { kind := .array 13 3, size := 13, bytes := 104, zero := [.val (.int .i64 0), .val (.int .i64 0), .val (.int .i64 0), .val (.int .i64 0), .val (.int .i64 0), .val (.int .i64 0), .val (.int .i64 0), .val (.int .i64 0), .val (.int .i64 0), .val (.int .i64 0), .val (.int .i64 0), .val (.int .i64 0), .val (.int .i64 0)], eqok := false })]
theorem tis_ok : AllTi Tryz.prog tis := ⟨by kernel_rfl, by kernel_rfl, by kernel_rfl, by kernel_rfl, by kernel_rfl, by kernel_rfl, by kernel_rfl, by kernel_rfl, by kernel_rfl, by kernel_rfl, by kernel_rfl, by kernel_rfl, by kernel_rfl, by kernel_rfl, by kernel_rfl, by kernel_rfl, by kernel_rfl, by kernel_rfl, by kernel_rfl, by kernel_rfl, by kernel_rfl, by kernel_rfl, by kernel_rfl, by kernel_rfl, by kernel_rfl, by kernel_rfl, by kernel_rfl, by kernel_rfl, by kernel_rfl, by kernel_rfl, by kernel_rfl, by kernel_rfl, by kernel_rfl, by kernel_rfl, by kernel_rfl, by kernel_rfl, by kernel_rfl, by kernel_rfl, by kernel_rfl, by kernel_rfl, by kernel_rfl, by kernel_rfl, by kernel_rfl, by kernel_rfl, by kernel_rfl, by kernel_rfl, by kernel_rfl, by kernel_rfl, by kernel_rfl, by kernel_rfl, by kernel_rfl, by kernel_rfl, by kernel_rfl, by kernel_rfl, by kernel_rfl, by kernel_rfl, by kernel_rfl, trivial⟩
noncomputable def cx (n : Nat) (rvs : List ResultVar) : Cx := ⟨Tryz.prog, gt, lookT tis, n, rvs⟩
theorem c_ok {n : Nat} {rvs : List ResultVar} : (cx n rvs).OK := ⟨by kernel_rfl, lookT_ok tis_ok⟩
end Go.Cb
set_option linter.unusedVariables false
set_option linter.unusedSimpArgs false
namespace Go.Cb
open Go.Eng Go.RowKit
open Go.Proofs
theorem o_ApiCurrency {W : World} : ∀ m, OpensF Tryz.prog W m 63 ApiCurrency.enc ApiCurrency.good :=
  fun q => OpensF.struct (fs := [(9, 0, 1), (3, 1, 1)]) (fun (y : ByteArray × Int × Unit) => (⟨y.1, y.2.1⟩ : ApiCurrency)) (by kernel_rfl) (allSz_spec (by kernel_rfl)) (by kernel_rfl) (fun m _ => (OpensFs.cons ((fun m => OpensF.str (by kernel_rfl)) m) (OpensFs.cons ((fun m => OpensF.int (k := .i64) (by kernel_rfl)) m) OpensFs.nil))) (fun n y h => ⟨h.1, h.2.1⟩) (fun y => by kernel_rfl)
theorem o_ApiCalendar {W : World} : ∀ m, OpensF Tryz.prog W m 66 ApiCalendar.enc ApiCalendar.good :=
  fun q => OpensF.struct (fs := [(9, 0, 1), (58, 1, 1), (58, 2, 1)]) (fun (y : ByteArray × (List Int) × (List Int) × Unit) => (⟨y.1, y.2.1, y.2.2.1⟩ : ApiCalendar)) (by kernel_rfl) (allSz_spec (by kernel_rfl)) (by kernel_rfl) (fun m _ => (OpensFs.cons ((fun m => OpensF.str (by kernel_rfl)) m) (OpensFs.cons ((fun m => OpensF.slice (e := 3) 1 (by kernel_rfl) (by kernel_rfl) (by decide) (fun _ => rfl) (fun k _ => (fun m => OpensF.int (k := .i64) (by kernel_rfl)) k)) m) (OpensFs.cons ((fun m => OpensF.slice (e := 3) 1 (by kernel_rfl) (by kernel_rfl) (by decide) (fun _ => rfl) (fun k _ => (fun m => OpensF.int (k := .i64) (by kernel_rfl)) k)) m) OpensFs.nil)))) (fun n y h => ⟨h.1, h.2.1, h.2.2.1⟩) (fun y => by kernel_rfl)
theorem o_ApiGl {W : World} : ∀ m, OpensF Tryz.prog W m 68 ApiGl.enc ApiGl.good :=
  fun q => OpensF.struct (fs := [(3, 0, 1), (3, 1, 1), (3, 2, 1), (9, 3, 1)]) (fun (y : Int × Int × Int × ByteArray × Unit) => (⟨y.1, y.2.1, y.2.2.1, y.2.2.2.1⟩ : ApiGl)) (by kernel_rfl) (allSz_spec (by kernel_rfl)) (by kernel_rfl) (fun m _ => (OpensFs.cons ((fun m => OpensF.int (k := .i64) (by kernel_rfl)) m) (OpensFs.cons ((fun m => OpensF.int (k := .i64) (by kernel_rfl)) m) (OpensFs.cons ((fun m => OpensF.int (k := .i64) (by kernel_rfl)) m) (OpensFs.cons ((fun m => OpensF.str (by kernel_rfl)) m) OpensFs.nil))))) (fun n y h => ⟨h.1, h.2.1, h.2.2.1, h.2.2.2.1⟩) (fun y => by kernel_rfl)
theorem o_ApiPlan {W : World} : ∀ m, OpensF Tryz.prog W m 26 ApiPlan.enc ApiPlan.good :=
  fun q => OpensF.struct (fs := [(3, 0, 1), (3, 1, 1), (3, 2, 1), (3, 3, 1), (3, 4, 1), (3, 5, 1), (3, 6, 1), (3, 7, 1), (3, 8, 1), (3, 9, 1), (3, 10, 1), (3, 11, 1), (3, 12, 1), (3, 13, 1)]) (fun (y : Int × Int × Int × Int × Int × Int × Int × Int × Int × Int × Int × Int × Int × Int × Unit) => (⟨y.1, y.2.1, y.2.2.1, y.2.2.2.1, y.2.2.2.2.1, y.2.2.2.2.2.1, y.2.2.2.2.2.2.1, y.2.2.2.2.2.2.2.1, y.2.2.2.2.2.2.2.2.1, y.2.2.2.2.2.2.2.2.2.1, y.2.2.2.2.2.2.2.2.2.2.1, y.2.2.2.2.2.2.2.2.2.2.2.1, y.2.2.2.2.2.2.2.2.2.2.2.2.1, y.2.2.2.2.2.2.2.2.2.2.2.2.2.1⟩ : ApiPlan)) (by kernel_rfl) (allSz_spec (by kernel_rfl)) (by kernel_rfl) (fun m _ => (OpensFs.cons ((fun m => OpensF.int (k := .i64) (by kernel_rfl)) m) (OpensFs.cons ((fun m => OpensF.int (k := .i64) (by kernel_rfl)) m) (OpensFs.cons ((fun m => OpensF.int (k := .i64) (by kernel_rfl)) m) (OpensFs.cons ((fun m => OpensF.int (k := .i64) (by kernel_rfl)) m) (OpensFs.cons ((fun m => OpensF.int (k := .i64) (by kernel_rfl)) m) (OpensFs.cons ((fun m => OpensF.int (k := .i64) (by kernel_rfl)) m) (OpensFs.cons ((fun m => OpensF.int (k := .i64) (by kernel_rfl)) m) (OpensFs.cons ((fun m => OpensF.int (k := .i64) (by kernel_rfl)) m) (OpensFs.cons ((fun m => OpensF.int (k := .i64) (by kernel_rfl)) m) (OpensFs.cons ((fun m => OpensF.int (k := .i64) (by kernel_rfl)) m) (OpensFs.cons ((fun m => OpensF.int (k := .i64) (by kernel_rfl)) m) (OpensFs.cons ((fun m => OpensF.int (k := .i64) (by kernel_rfl)) m) (OpensFs.cons ((fun m => OpensF.int (k := .i64) (by kernel_rfl)) m) (OpensFs.cons ((fun m => OpensF.int (k := .i64) (by kernel_rfl)) m) OpensFs.nil))))))))))))))) (fun n y h => ⟨h.1, h.2.1, h.2.2.1, h.2.2.2.1, h.2.2.2.2.1, h.2.2.2.2.2.1, h.2.2.2.2.2.2.1, h.2.2.2.2.2.2.2.1, h.2.2.2.2.2.2.2.2.1, h.2.2.2.2.2.2.2.2.2.1, h.2.2.2.2.2.2.2.2.2.2.1, h.2.2.2.2.2.2.2.2.2.2.2.1, h.2.2.2.2.2.2.2.2.2.2.2.2.1, h.2.2.2.2.2.2.2.2.2.2.2.2.2.1⟩) (fun y => by kernel_rfl)
theorem o_ApiTier {W : World} : ∀ m, OpensF Tryz.prog W m 166 ApiTier.enc ApiTier.good :=
  fun q => OpensF.struct (fs := [(3, 0, 1), (3, 1, 1)]) (fun (y : Int × Int × Unit) => (⟨y.1, y.2.1⟩ : ApiTier)) (by kernel_rfl) (allSz_spec (by kernel_rfl)) (by kernel_rfl) (fun m _ => (OpensFs.cons ((fun m => OpensF.int (k := .i64) (by kernel_rfl)) m) (OpensFs.cons ((fun m => OpensF.int (k := .i64) (by kernel_rfl)) m) OpensFs.nil))) (fun n y h => ⟨h.1, h.2.1⟩) (fun y => by kernel_rfl)
theorem o_ApiInterest {W : World} : ∀ m, OpensF Tryz.prog W m 76 ApiInterest.enc ApiInterest.good :=
  fun q => OpensF.struct (fs := [(74, 0, 1), (4, 1, 1), (3, 2, 1), (3, 3, 1), (4, 4, 1)]) (fun (y : (List ApiTier) × Bool × Int × Int × Bool × Unit) => (⟨y.1, y.2.1, y.2.2.1, y.2.2.2.1, y.2.2.2.2.1⟩ : ApiInterest)) (by kernel_rfl) (allSz_spec (by kernel_rfl)) (by kernel_rfl) (fun m _ => (OpensFs.cons ((fun m => OpensF.slice (e := 166) 2 (by kernel_rfl) (by kernel_rfl) (by decide) (fun _ => rfl) (fun k _ => o_ApiTier k)) m) (OpensFs.cons ((fun m => OpensF.bool (by kernel_rfl)) m) (OpensFs.cons ((fun m => OpensF.int (k := .i64) (by kernel_rfl)) m) (OpensFs.cons ((fun m => OpensF.int (k := .i64) (by kernel_rfl)) m) (OpensFs.cons ((fun m => OpensF.bool (by kernel_rfl)) m) OpensFs.nil)))))) (fun n y h => ⟨h.1, h.2.1, h.2.2.1, h.2.2.2.1, h.2.2.2.2.1⟩) (fun y => by kernel_rfl)
theorem o_ApiExpr {W : World} : ∀ m, OpensF Tryz.prog W m 110 ApiExpr.enc ApiExpr.good := by
  intro m
  induction m using Nat.strongRecOn with
  | _ q ih =>
  rw [ApiExpr.enc_eq]
  exact OpensF.struct (fs := [(3, 0, 1), (3, 1, 1), (9, 2, 1), (108, 3, 1)]) (fun (y : Int × Int × ByteArray × (List ApiExpr) × Unit) => (⟨y.1, y.2.1, y.2.2.1, y.2.2.2.1⟩ : ApiExpr)) (by kernel_rfl) (allSz_spec (by kernel_rfl)) (by kernel_rfl) (fun m hm => (OpensFs.cons ((fun m => OpensF.int (k := .i64) (by kernel_rfl)) m) (OpensFs.cons ((fun m => OpensF.int (k := .i64) (by kernel_rfl)) m) (OpensFs.cons ((fun m => OpensF.str (by kernel_rfl)) m) (OpensFs.cons (OpensF.slice (e := 110) 4 (by kernel_rfl) (by kernel_rfl) (by decide) (fun _ => by rw [ApiExpr.enc_eq]; rfl) (fun k hk => ih k (by omega))) OpensFs.nil))))) (fun n y h => .mk (h.1) (h.2.1) (h.2.2.1) (h.2.2.2.1.1) (h.2.2.2.1.2)) (fun y => by kernel_rfl)
theorem o_ApiExpr1 {W : World} : ∀ m, OpensF Tryz.prog W m 110 ApiExpr.enc1 ApiExpr.good := by
  rw [← ApiExpr.enc_eq]; exact o_ApiExpr
theorem o_ApiFee {W : World} : ∀ m, OpensF Tryz.prog W m 112 ApiFee.enc ApiFee.good :=
  fun q => OpensF.struct (fs := [(9, 0, 1), (3, 1, 1), (110, 2, 4), (110, 6, 4)]) (fun (y : ByteArray × Int × ApiExpr × ApiExpr × Unit) => (⟨y.1, y.2.1, y.2.2.1, y.2.2.2.1⟩ : ApiFee)) (by kernel_rfl) (allSz_spec (by kernel_rfl)) (by kernel_rfl) (fun m _ => (OpensFs.cons ((fun m => OpensF.str (by kernel_rfl)) m) (OpensFs.cons ((fun m => OpensF.int (k := .i64) (by kernel_rfl)) m) (OpensFs.cons (o_ApiExpr1 m) (OpensFs.cons (o_ApiExpr1 m) OpensFs.nil))))) (fun n y h => ⟨h.1, h.2.1, h.2.2.1, h.2.2.2.1⟩) (fun y => by kernel_rfl)
theorem o_ApiRule {W : World} : ∀ m, OpensF Tryz.prog W m 115 ApiRule.enc ApiRule.good :=
  fun q => OpensF.struct (fs := [(9, 0, 1), (3, 1, 1), (110, 2, 4)]) (fun (y : ByteArray × Int × ApiExpr × Unit) => (⟨y.1, y.2.1, y.2.2.1⟩ : ApiRule)) (by kernel_rfl) (allSz_spec (by kernel_rfl)) (by kernel_rfl) (fun m _ => (OpensFs.cons ((fun m => OpensF.str (by kernel_rfl)) m) (OpensFs.cons ((fun m => OpensF.int (k := .i64) (by kernel_rfl)) m) (OpensFs.cons (o_ApiExpr1 m) OpensFs.nil)))) (fun n y h => ⟨h.1, h.2.1, h.2.2.1⟩) (fun y => by kernel_rfl)
theorem o_ApiProduct {W : World} : ∀ m, OpensF Tryz.prog W m 80 ApiProduct.enc ApiProduct.good :=
  fun q => OpensF.struct (fs := [(9, 0, 1), (9, 1, 1), (9, 2, 1), (3, 3, 1), (3, 4, 1), (3, 5, 1), (3, 6, 1), (76, 7, 5), (76, 12, 5), (77, 17, 1), (78, 18, 1)]) (fun (y : ByteArray × ByteArray × ByteArray × Int × Int × Int × Int × ApiInterest × ApiInterest × (List ApiFee) × (List ApiRule) × Unit) => (⟨y.1, y.2.1, y.2.2.1, y.2.2.2.1, y.2.2.2.2.1, y.2.2.2.2.2.1, y.2.2.2.2.2.2.1, y.2.2.2.2.2.2.2.1, y.2.2.2.2.2.2.2.2.1, y.2.2.2.2.2.2.2.2.2.1, y.2.2.2.2.2.2.2.2.2.2.1⟩ : ApiProduct)) (by kernel_rfl) (allSz_spec (by kernel_rfl)) (by kernel_rfl) (fun m _ => (OpensFs.cons ((fun m => OpensF.str (by kernel_rfl)) m) (OpensFs.cons ((fun m => OpensF.str (by kernel_rfl)) m) (OpensFs.cons ((fun m => OpensF.str (by kernel_rfl)) m) (OpensFs.cons ((fun m => OpensF.int (k := .i64) (by kernel_rfl)) m) (OpensFs.cons ((fun m => OpensF.int (k := .i64) (by kernel_rfl)) m) (OpensFs.cons ((fun m => OpensF.int (k := .i64) (by kernel_rfl)) m) (OpensFs.cons ((fun m => OpensF.int (k := .i64) (by kernel_rfl)) m) (OpensFs.cons (o_ApiInterest m) (OpensFs.cons (o_ApiInterest m) (OpensFs.cons ((fun m => OpensF.slice (e := 112) 10 (by kernel_rfl) (by kernel_rfl) (by decide) (fun _ => rfl) (fun k _ => o_ApiFee k)) m) (OpensFs.cons ((fun m => OpensF.slice (e := 115) 6 (by kernel_rfl) (by kernel_rfl) (by decide) (fun _ => rfl) (fun k _ => o_ApiRule k)) m) OpensFs.nil)))))))))))) (fun n y h => ⟨h.1, h.2.1, h.2.2.1, h.2.2.2.1, h.2.2.2.2.1, h.2.2.2.2.2.1, h.2.2.2.2.2.2.1, h.2.2.2.2.2.2.2.1, h.2.2.2.2.2.2.2.2.1, h.2.2.2.2.2.2.2.2.2.1, h.2.2.2.2.2.2.2.2.2.2.1⟩) (fun y => by kernel_rfl)
theorem o_ApiAccount {W : World} : ∀ m, OpensF Tryz.prog W m 45 ApiAccount.enc ApiAccount.good :=
  fun q => OpensF.struct (fs := [(3, 0, 1), (3, 1, 1), (3, 2, 1), (3, 3, 1), (9, 4, 1), (9, 5, 1), (9, 6, 1)]) (fun (y : Int × Int × Int × Int × ByteArray × ByteArray × ByteArray × Unit) => (⟨y.1, y.2.1, y.2.2.1, y.2.2.2.1, y.2.2.2.2.1, y.2.2.2.2.2.1, y.2.2.2.2.2.2.1⟩ : ApiAccount)) (by kernel_rfl) (allSz_spec (by kernel_rfl)) (by kernel_rfl) (fun m _ => (OpensFs.cons ((fun m => OpensF.int (k := .i64) (by kernel_rfl)) m) (OpensFs.cons ((fun m => OpensF.int (k := .i64) (by kernel_rfl)) m) (OpensFs.cons ((fun m => OpensF.int (k := .i64) (by kernel_rfl)) m) (OpensFs.cons ((fun m => OpensF.int (k := .i64) (by kernel_rfl)) m) (OpensFs.cons ((fun m => OpensF.str (by kernel_rfl)) m) (OpensFs.cons ((fun m => OpensF.str (by kernel_rfl)) m) (OpensFs.cons ((fun m => OpensF.str (by kernel_rfl)) m) OpensFs.nil)))))))) (fun n y h => ⟨h.1, h.2.1, h.2.2.1, h.2.2.2.1, h.2.2.2.2.1, h.2.2.2.2.2.1, h.2.2.2.2.2.2.1⟩) (fun y => by kernel_rfl)
theorem o_ApiLeg {W : World} : ∀ m, OpensF Tryz.prog W m 124 ApiLeg.enc ApiLeg.good :=
  fun q => OpensF.struct (fs := [(3, 0, 1), (3, 1, 1), (9, 2, 1)]) (fun (y : Int × Int × ByteArray × Unit) => (⟨y.1, y.2.1, y.2.2.1⟩ : ApiLeg)) (by kernel_rfl) (allSz_spec (by kernel_rfl)) (by kernel_rfl) (fun m _ => (OpensFs.cons ((fun m => OpensF.int (k := .i64) (by kernel_rfl)) m) (OpensFs.cons ((fun m => OpensF.int (k := .i64) (by kernel_rfl)) m) (OpensFs.cons ((fun m => OpensF.str (by kernel_rfl)) m) OpensFs.nil)))) (fun n y h => ⟨h.1, h.2.1, h.2.2.1⟩) (fun y => by kernel_rfl)
theorem o_ApiEntry {W : World} : ∀ m, OpensF Tryz.prog W m 43 ApiEntry.enc ApiEntry.good :=
  fun q => OpensF.struct (fs := [(3, 0, 1), (3, 1, 1), (3, 2, 1), (3, 3, 1), (3, 4, 1), (3, 5, 1), (9, 6, 1), (9, 7, 1), (40, 8, 1), (41, 9, 1)]) (fun (y : Int × Int × Int × Int × Int × Int × ByteArray × ByteArray × (List ApiLeg) × Int × Unit) => (⟨y.1, y.2.1, y.2.2.1, y.2.2.2.1, y.2.2.2.2.1, y.2.2.2.2.2.1, y.2.2.2.2.2.2.1, y.2.2.2.2.2.2.2.1, y.2.2.2.2.2.2.2.2.1, y.2.2.2.2.2.2.2.2.2.1⟩ : ApiEntry)) (by kernel_rfl) (allSz_spec (by kernel_rfl)) (by kernel_rfl) (fun m _ => (OpensFs.cons ((fun m => OpensF.int (k := .i64) (by kernel_rfl)) m) (OpensFs.cons ((fun m => OpensF.int (k := .i64) (by kernel_rfl)) m) (OpensFs.cons ((fun m => OpensF.int (k := .i64) (by kernel_rfl)) m) (OpensFs.cons ((fun m => OpensF.int (k := .i64) (by kernel_rfl)) m) (OpensFs.cons ((fun m => OpensF.int (k := .i64) (by kernel_rfl)) m) (OpensFs.cons ((fun m => OpensF.int (k := .i64) (by kernel_rfl)) m) (OpensFs.cons ((fun m => OpensF.str (by kernel_rfl)) m) (OpensFs.cons ((fun m => OpensF.str (by kernel_rfl)) m) (OpensFs.cons ((fun m => OpensF.slice (e := 124) 3 (by kernel_rfl) (by kernel_rfl) (by decide) (fun _ => rfl) (fun k _ => o_ApiLeg k)) m) (OpensFs.cons ((fun m => OpensF.int (k := .u64) (by kernel_rfl)) m) OpensFs.nil))))))))))) (fun n y h => ⟨h.1, h.2.1, h.2.2.1, h.2.2.2.1, h.2.2.2.2.1, h.2.2.2.2.2.1, h.2.2.2.2.2.2.1, h.2.2.2.2.2.2.2.1, h.2.2.2.2.2.2.2.2.1, h.2.2.2.2.2.2.2.2.2.1⟩) (fun y => by kernel_rfl)
theorem o_ApiHold {W : World} : ∀ m, OpensF Tryz.prog W m 88 ApiHold.enc ApiHold.good :=
  fun q => OpensF.struct (fs := [(3, 0, 1), (3, 1, 1), (3, 2, 1), (3, 3, 1), (3, 4, 1), (9, 5, 1)]) (fun (y : Int × Int × Int × Int × Int × ByteArray × Unit) => (⟨y.1, y.2.1, y.2.2.1, y.2.2.2.1, y.2.2.2.2.1, y.2.2.2.2.2.1⟩ : ApiHold)) (by kernel_rfl) (allSz_spec (by kernel_rfl)) (by kernel_rfl) (fun m _ => (OpensFs.cons ((fun m => OpensF.int (k := .i64) (by kernel_rfl)) m) (OpensFs.cons ((fun m => OpensF.int (k := .i64) (by kernel_rfl)) m) (OpensFs.cons ((fun m => OpensF.int (k := .i64) (by kernel_rfl)) m) (OpensFs.cons ((fun m => OpensF.int (k := .i64) (by kernel_rfl)) m) (OpensFs.cons ((fun m => OpensF.int (k := .i64) (by kernel_rfl)) m) (OpensFs.cons ((fun m => OpensF.str (by kernel_rfl)) m) OpensFs.nil))))))) (fun n y h => ⟨h.1, h.2.1, h.2.2.1, h.2.2.2.1, h.2.2.2.2.1, h.2.2.2.2.2.1⟩) (fun y => by kernel_rfl)
theorem o_ApiBlock {W : World} : ∀ m, OpensF Tryz.prog W m 92 ApiBlock.enc ApiBlock.good :=
  fun q => OpensF.struct (fs := [(3, 0, 1), (3, 1, 1), (3, 2, 1), (3, 3, 1), (3, 4, 1), (3, 5, 1), (9, 6, 1)]) (fun (y : Int × Int × Int × Int × Int × Int × ByteArray × Unit) => (⟨y.1, y.2.1, y.2.2.1, y.2.2.2.1, y.2.2.2.2.1, y.2.2.2.2.2.1, y.2.2.2.2.2.2.1⟩ : ApiBlock)) (by kernel_rfl) (allSz_spec (by kernel_rfl)) (by kernel_rfl) (fun m _ => (OpensFs.cons ((fun m => OpensF.int (k := .i64) (by kernel_rfl)) m) (OpensFs.cons ((fun m => OpensF.int (k := .i64) (by kernel_rfl)) m) (OpensFs.cons ((fun m => OpensF.int (k := .i64) (by kernel_rfl)) m) (OpensFs.cons ((fun m => OpensF.int (k := .i64) (by kernel_rfl)) m) (OpensFs.cons ((fun m => OpensF.int (k := .i64) (by kernel_rfl)) m) (OpensFs.cons ((fun m => OpensF.int (k := .i64) (by kernel_rfl)) m) (OpensFs.cons ((fun m => OpensF.str (by kernel_rfl)) m) OpensFs.nil)))))))) (fun n y h => ⟨h.1, h.2.1, h.2.2.1, h.2.2.2.1, h.2.2.2.2.1, h.2.2.2.2.2.1, h.2.2.2.2.2.2.1⟩) (fun y => by kernel_rfl)
theorem o_ApiBooks {W : World} : ∀ m, OpensF Tryz.prog W m 33 ApiBooks.enc ApiBooks.good :=
  fun q => OpensF.struct (fs := [(22, 0, 1), (23, 1, 1), (24, 2, 1), (26, 3, 14), (27, 17, 1), (28, 18, 1), (29, 19, 1), (30, 20, 1), (31, 21, 1)]) (fun (y : (List ApiCurrency) × (List ApiCalendar) × (List ApiGl) × ApiPlan × (List ApiProduct) × (List ApiAccount) × (List ApiEntry) × (List ApiHold) × (List ApiBlock) × Unit) => (⟨y.1, y.2.1, y.2.2.1, y.2.2.2.1, y.2.2.2.2.1, y.2.2.2.2.2.1, y.2.2.2.2.2.2.1, y.2.2.2.2.2.2.2.1, y.2.2.2.2.2.2.2.2.1⟩ : ApiBooks)) (by kernel_rfl) (allSz_spec (by kernel_rfl)) (by kernel_rfl) (fun m _ => (OpensFs.cons ((fun m => OpensF.slice (e := 63) 2 (by kernel_rfl) (by kernel_rfl) (by decide) (fun _ => rfl) (fun k _ => o_ApiCurrency k)) m) (OpensFs.cons ((fun m => OpensF.slice (e := 66) 3 (by kernel_rfl) (by kernel_rfl) (by decide) (fun _ => rfl) (fun k _ => o_ApiCalendar k)) m) (OpensFs.cons ((fun m => OpensF.slice (e := 68) 4 (by kernel_rfl) (by kernel_rfl) (by decide) (fun _ => rfl) (fun k _ => o_ApiGl k)) m) (OpensFs.cons (o_ApiPlan m) (OpensFs.cons ((fun m => OpensF.slice (e := 80) 19 (by kernel_rfl) (by kernel_rfl) (by decide) (fun _ => rfl) (fun k _ => o_ApiProduct k)) m) (OpensFs.cons ((fun m => OpensF.slice (e := 45) 7 (by kernel_rfl) (by kernel_rfl) (by decide) (fun _ => rfl) (fun k _ => o_ApiAccount k)) m) (OpensFs.cons ((fun m => OpensF.slice (e := 43) 10 (by kernel_rfl) (by kernel_rfl) (by decide) (fun _ => rfl) (fun k _ => o_ApiEntry k)) m) (OpensFs.cons ((fun m => OpensF.slice (e := 88) 6 (by kernel_rfl) (by kernel_rfl) (by decide) (fun _ => rfl) (fun k _ => o_ApiHold k)) m) (OpensFs.cons ((fun m => OpensF.slice (e := 92) 7 (by kernel_rfl) (by kernel_rfl) (by decide) (fun _ => rfl) (fun k _ => o_ApiBlock k)) m) OpensFs.nil)))))))))) (fun n y h => ⟨h.1, h.2.1, h.2.2.1, h.2.2.2.1, h.2.2.2.2.1, h.2.2.2.2.2.1, h.2.2.2.2.2.2.1, h.2.2.2.2.2.2.2.1, h.2.2.2.2.2.2.2.2.1⟩) (fun y => by kernel_rfl)
theorem o_ApiWide {W : World} : ∀ m, OpensF Tryz.prog W m 49 ApiWide.enc ApiWide.good :=
  fun q => OpensF.struct (fs := [(3, 0, 1), (41, 1, 1)]) (fun (y : Int × Int × Unit) => (⟨y.1, y.2.1⟩ : ApiWide)) (by kernel_rfl) (allSz_spec (by kernel_rfl)) (by kernel_rfl) (fun m _ => (OpensFs.cons ((fun m => OpensF.int (k := .i64) (by kernel_rfl)) m) (OpensFs.cons ((fun m => OpensF.int (k := .u64) (by kernel_rfl)) m) OpensFs.nil))) (fun n y h => ⟨h.1, h.2.1⟩) (fun y => by kernel_rfl)
theorem o_ApiPeriod {W : World} : ∀ m, OpensF Tryz.prog W m 51 ApiPeriod.enc ApiPeriod.good :=
  fun q => OpensF.struct (fs := [(3, 0, 1), (3, 1, 1), (3, 2, 1), (3, 3, 1), (3, 4, 1), (3, 5, 1), (3, 6, 1), (49, 7, 2), (49, 9, 2)]) (fun (y : Int × Int × Int × Int × Int × Int × Int × ApiWide × ApiWide × Unit) => (⟨y.1, y.2.1, y.2.2.1, y.2.2.2.1, y.2.2.2.2.1, y.2.2.2.2.2.1, y.2.2.2.2.2.2.1, y.2.2.2.2.2.2.2.1, y.2.2.2.2.2.2.2.2.1⟩ : ApiPeriod)) (by kernel_rfl) (allSz_spec (by kernel_rfl)) (by kernel_rfl) (fun m _ => (OpensFs.cons ((fun m => OpensF.int (k := .i64) (by kernel_rfl)) m) (OpensFs.cons ((fun m => OpensF.int (k := .i64) (by kernel_rfl)) m) (OpensFs.cons ((fun m => OpensF.int (k := .i64) (by kernel_rfl)) m) (OpensFs.cons ((fun m => OpensF.int (k := .i64) (by kernel_rfl)) m) (OpensFs.cons ((fun m => OpensF.int (k := .i64) (by kernel_rfl)) m) (OpensFs.cons ((fun m => OpensF.int (k := .i64) (by kernel_rfl)) m) (OpensFs.cons ((fun m => OpensF.int (k := .i64) (by kernel_rfl)) m) (OpensFs.cons (o_ApiWide m) (OpensFs.cons (o_ApiWide m) OpensFs.nil)))))))))) (fun n y h => ⟨h.1, h.2.1, h.2.2.1, h.2.2.2.1, h.2.2.2.2.1, h.2.2.2.2.2.1, h.2.2.2.2.2.2.1, h.2.2.2.2.2.2.2.1, h.2.2.2.2.2.2.2.2.1⟩) (fun y => by kernel_rfl)
theorem o_p0 {W : World} : ∀ m, OpensF Tryz.prog W m 33 ApiBooks.enc ApiBooks.good := o_ApiBooks
theorem o_p1 {W : World} : ∀ m, OpensF Tryz.prog W m 34 (eSl ApiPeriod.enc) (gList ApiPeriod.good) := (fun m => OpensF.slice (e := 51) 11 (by kernel_rfl) (by kernel_rfl) (by decide) (fun _ => rfl) (fun k _ => o_ApiPeriod k))
theorem o_p2 {W : World} : ∀ m, OpensF Tryz.prog W m 3 (eInt .i64) (gInt .i64) := (fun m => OpensF.int (k := .i64) (by kernel_rfl))
end Go.Cb
namespace Go.Cb
open Go.RowKit Go.Shelf Go.Proofs
attribute [local go_sem] Oper.semAt_some
structure Mv where
  v0 : Value
  v3 : Value
  v4 : Value
  v5 : Value
  v6 : Value
  v7 : Value
  v9 : Value
  booked : Int
  value : Int
  legsV : Value
  legs : List (Int × Int × Value)
  one : ∀ v ∈ [v0, .int .i64 booked, .int .i64 value, v3, v4, v5, v6, v7, legsV, v9], v.oneCell' = true
def Mv.cells (e : Mv) : List Value := [e.v0, .int .i64 e.booked, .int .i64 e.value, e.v3, e.v4, e.v5, e.v6, e.v7, e.legsV, e.v9]
def LegsAt (n₀ : Nat) (W : World) (sv : Value) (ls : List (Int × Int × Value)) : Prop :=
  (∃ A cap, sv = .slice A 0 cap ∧ ls = []) ∨ ∃ b off cap, sv = .slice (some ⟨b, off, none⟩) ls.length cap ∧ b < n₀ ∧
    ∀ (k : Nat) x, ls[k]? = some x → W.cell? ⟨b, off + k * 3, none⟩ = some (.int .i64 x.1) ∧ W.cell? ⟨b, off + k * 3 + 1, none⟩ = some (.int .i64 x.2.1) ∧ W.cell? ⟨b, off + k * 3 + 2, none⟩ = some x.2.2 ∧ x.2.2.oneCell' = true
def JAt (n₀ : Nat) (W : World) (sv : Value) (js : List Mv) : Prop :=
  (∃ A cap, sv = .slice A 0 cap ∧ js = []) ∨ ∃ b off cap, sv = .slice (some ⟨b, off, none⟩) js.length cap ∧ b < n₀ ∧
    ∀ (i : Nat) e, js[i]? = some e → (∀ (j : Nat) v, e.cells[j]? = some v → W.cell? ⟨b, off + i * 10 + j, none⟩ = some v) ∧ LegsAt n₀ W e.legsV e.legs
def KeepsBut (B : Nat) (W W' : World) : Prop := W.heap.size ≤ W'.heap.size ∧ ∀ (k : Nat) (o : Obj), W.heap[k]? = some o → o.isCells = true → k ≠ B → W'.heap[k]? = some o
def mvLegs (acc : Int) (e : Mv) (ls : List (Int × Int × Value)) : List (Mv × Int) := (ls.filter fun x => x.1 == acc).map fun x => (e, x.2.1)
def mvs (acc : Int) (js : List Mv) : List (Mv × Int) := js.flatMap fun e => mvLegs acc e e.legs
set_option maxHeartbeats 1000000 in
theorem movements_in (F : Fence) (n : Nat) (h5 : F.fn 167) (hro : F.round = none) (a : Option Addr) (len cap : Nat) (acc : Int) (w : World) :
    CallsIn F n Tryz.prog 167 #[.slice a len cap, .int .i64 acc] w fun e w' => e = .returned (.func (.func 187) #[] #[.pointer (some ⟨w.heap.size, 0, none⟩), .pointer (some ⟨w.heap.size + 1, 0, none⟩)]) ∧ w' = (w.alloc (.cells #[.slice a len cap] 29)).alloc (.cells #[.int .i64 acc] 3) := by
  refine callsIn_of_wp Tryz.func167 rfl h5 ?_ hro
  simp only [Tryz.ntmps167, List.size_toArray, List.length_cons, List.length_nil, Nat.reduceAdd, Nat.reduceSub, Array.replicate_succ, Array.replicate_zero, List.push_toArray, List.append_toArray, List.nil_append, List.cons_append]
  gi_wp2
  go_ret
  exact ⟨rfl, rfl⟩
theorem store_new {P : Program} (W : World) (z cs : List Value) (t : TypeId) (hl : z.length = cs.length) (h1 : ∀ v ∈ cs, v.oneCell' = true) :
    (storeCells ⟨W.heap.size, 0, none⟩ cs 0).run P (W.alloc (.cells z.toArray t)) = .ok () (W.alloc (.cells cs.toArray t)) := by
  have hg : (W.alloc (.cells z.toArray t)).heap[W.heap.size]? = some (.cells z.toArray t (0, 0)) := by
    show (W.heap.push _)[W.heap.size]? = _
    simp
  rw [run_storeCells_at (P := P) W.heap.size 0 t cs 0 z.toArray _ hg (by simp [hl]) h1]
  congr 1
  simp only [Nat.add_zero, List.take_zero, List.nil_append, Nat.zero_add]
  rw [List.drop_eq_nil_of_le (by simp [hl])]
  simp only [List.append_nil, World.setRow, World.alloc]
  congr 1
  apply Array.ext_getElem?
  intro i
  rw [Array.getElem?_modify]
  by_cases hi : W.heap.size = i
  · subst hi; simp
  · rw [if_neg hi]
    simp only [Array.getElem?_push]
    have : i ≠ W.heap.size := fun e => hi e.symm
    simp [this]
theorem wpListIn_storeNew {F : Fence} {n : Nat} {P : Program} {W : World} {ops : Array Oper} {rest : List Oper} {o : Oper} {a : Act} {Q : Exit → Act → World → Prop} {z cs : List Value} {ty : TypeId}
    (hg : o.guard = none) (x v : Operand) (t : TypeId) (hop : o.op = .store t x v) (hx : a.eval x = .pointer (some ⟨W.heap.size, 0, none⟩)) (hv : a.eval v = .agg cs.toArray)
    (hs : (P.info? t).map (·.size) = some cs.length) (hl : z.length = cs.length) (h1 : ∀ v ∈ cs, v.oneCell' = true) (hK : wpListIn F n P ops Q rest (a.put o.dst undef) (W.alloc (.cells cs.toArray ty))) :
    wpListIn F n P ops Q (o :: rest) a (W.alloc (.cells z.toArray ty)) := by
  refine wpListIn_plain hg fun K' hK' => ?_
  unfold Oper.wpIn
  refine ⟨by simp [Oper.about, hop], ?_⟩
  rw [Oper.semAt_plain F _ _ (by rw [hop]; intro c hc'; cases hc')]
  have hsz : (sizeOf t).run P (W.alloc (.cells z.toArray ty)) = .ok cs.length (W.alloc (.cells z.toArray ty)) := by
    cases hi : P.info? t with
    | none => rw [hi] at hs; cases hs
    | some i => rw [hi] at hs; injection hs with hs; simp [sizeOf, typeInfo, hi, hs]
  have hst := store_new (P := P) W z cs ty hl h1
  simp [execOp, hop, hx, hv, Instr.storeAt, storeVar, hsz, Result.andThen, Value.cells, hst, Instr.sureAddr]
  exact hK' _ _ hK
theorem KeepsBut.refl (B : Nat) (W : World) : KeepsBut B W W := ⟨Nat.le_refl _, fun _ _ h _ _ => h⟩
theorem KeepsBut.alloc (B : Nat) (W : World) (o : Obj) : KeepsBut B W (W.alloc o) := by
  refine ⟨by show W.heap.size ≤ (W.heap.push o).size; simp, fun k p hk _ _ => ?_⟩
  have := (Array.getElem?_eq_some_iff.1 hk).1
  show (W.heap.push o)[k]? = _
  rw [Array.getElem?_push, if_neg (by omega)]
  exact hk
theorem cell_alloc_new (W : World) (cs : Array Value) (t : TypeId) (j : Nat) : (W.alloc (.cells cs t)).cell? ⟨W.heap.size, j, none⟩ = cs[j]? := by
  have h : (W.alloc (.cells cs t)).heap[W.heap.size]? = some (.cells cs t (0, 0)) := by
    show (W.heap.push _)[W.heap.size]? = _
    simp
  unfold World.cell?
  dsimp only
  rw [h]
  rfl
theorem KeepsBut.trans {B : Nat} {X Y Z : World} (h : KeepsBut B X Y) (k : KeepsBut B Y Z) : KeepsBut B X Z := ⟨Nat.le_trans h.1 k.1, fun i o hi ho hb => k.2 i o (h.2 i o hi ho hb) ho hb⟩
theorem KeepsBut.cell {B : Nat} {X Y : World} (h : KeepsBut B X Y) {p : Addr} {v : Value} (hp : p.block ≠ B) (hc : X.cell? p = some v) : Y.cell? p = some v := by
  unfold World.cell? at hc ⊢
  cases hb : X.heap[p.block]? with
  | none => rw [hb] at hc; cases hc
  | some o =>
    rw [hb] at hc
    cases o with
    | cells c t fr => rw [h.2 _ _ hb rfl hp]; exact hc
    | _ => cases hc
theorem LegsAt.keeps {n₀ B : Nat} {X Y : World} (hB : n₀ ≤ B) (h : KeepsBut B X Y) {sv : Value} {ls : List (Int × Int × Value)} (hl : LegsAt n₀ X sv ls) : LegsAt n₀ Y sv ls := by
  rcases hl with h1 | ⟨b, off, cap, h1, h2, h3⟩
  · exact .inl h1
  · exact .inr ⟨b, off, cap, h1, h2, fun k x hk => ⟨h.cell (by show b ≠ B; omega) (h3 k x hk).1, h.cell (by show b ≠ B; omega) (h3 k x hk).2.1, h.cell (by show b ≠ B; omega) (h3 k x hk).2.2.1, (h3 k x hk).2.2.2⟩⟩
theorem JAt.keeps {n₀ B : Nat} {X Y : World} (hB : n₀ ≤ B) (h : KeepsBut B X Y) {sv : Value} {js : List Mv} (hl : JAt n₀ X sv js) : JAt n₀ Y sv js := by
  rcases hl with h1 | ⟨b, off, cap, h1, h2, h3⟩
  · exact .inl h1
  · exact .inr ⟨b, off, cap, h1, h2, fun i e hi => ⟨fun j v hj => h.cell (by show b ≠ B; omega) ((h3 i e hi).1 j v hj), (h3 i e hi).2.keeps hB h⟩⟩
set_option linter.unusedVariables false
set_option maxRecDepth 100000 in
set_option maxHeartbeats 4000000 in
theorem movements1_in (F : Fence) (n : Nat) (h8 : F.fn 187) (hro : F.round = none) (hn : 1 ≤ n) (l B1 B2 n₀ BN b off cap : Nat) (js : List Mv) (acc : Int) (hBN : n₀ ≤ BN) (hB1 : B1 ≠ BN) (hB2 : B2 ≠ BN) (J Jx : List (Mv × Int) → World → Prop)
    (W : World) (hJ : AbidesFrom W.heap.size J) (hBW : BN < W.heap.size)
    (hY : ∀ pre x W, J pre W → pre.length < (mvs acc js).length → YieldAt F (n - 1) Tryz.prog l #[.agg x.1.cells.toArray, .int .i64 x.2] W fun e W' => (e = .returned (.bool true) ∧ J (pre ++ [x]) W' ∧ KeepsBut BN W W') ∨ (e = .returned (.bool false) ∧ Jx (pre ++ [x]) W'))
    (hc1 : W.cell? ⟨B1, 0, none⟩ = some (.slice (some ⟨b, off, none⟩) js.length cap)) (hc2 : W.cell? ⟨B2, 0, none⟩ = some (.int .i64 acc)) (hb : b < n₀)
    (hjs : ∀ (i : Nat) e, js[i]? = some e → (∀ (j : Nat) v, e.cells[j]? = some v → W.cell? ⟨b, off + i * 10 + j, none⟩ = some v) ∧ LegsAt n₀ W e.legsV e.legs) (hjl : js.length ≤ 9223372036854775807) (hll : ∀ e ∈ js, e.legs.length ≤ 9223372036854775807) (h0 : J [] W) :
    CallsIn F n Tryz.prog 187 #[.func (.yield l) #[] #[], .pointer (some ⟨B1, 0, none⟩), .pointer (some ⟨B2, 0, none⟩)] W fun e W' => (∃ v, e = .returned v) ∧ ((∃ xs, xs = mvs acc js ∧ J xs W') ∨ (∃ pre : List (Mv × Int), True ∧ Jx pre W')) := by
  refine callsIn_of_wp Tryz.func187 rfl h8 ?_ hro
  simp only [Tryz.ntmps187, List.size_toArray, List.length_cons, List.length_nil, Nat.reduceAdd, Nat.reduceSub, Array.replicate_succ, Array.replicate_zero, List.push_toArray, List.append_toArray, List.nil_append, List.cons_append]
  gi_wp2
  gi_loopw [10] (fun i wr => ∃ k : Nat, k ≤ js.length ∧ i = .int .i64 k ∧ J (mvs acc (js.take k)) wr ∧ KeepsBut BN W wr)
    (fun i _ => js.length - (intOf i).toNat)
  case atStart => exact ⟨0, Nat.zero_le _, rfl, h0, KeepsBut.refl _ _⟩
  case round =>
    rename World => wo
    obtain ⟨k, hk, rfl, hJs, hnx⟩ := hrel
    by_cases hlt : k < js.length
    · have hbN : b ≠ BN := by omega
      have hcx := fun (j : Nat) (v : Value) (hj : js[k].cells[j]? = some v) => hnx.cell (p := ⟨b, off + k * 10 + j, none⟩) hbN ((hjs k js[k] (List.getElem?_eq_getElem hlt)).1 j v hj)
      have hlg := ((hjs k js[k] (List.getElem?_eq_getElem hlt)).2).keeps hBN hnx
      have htk : mvs acc (js.take (k + 1)) = mvs acc (js.take k) ++ mvLegs acc js[k] js[k].legs := by
        unfold mvs
        rw [List.take_add_one, List.getElem?_eq_getElem hlt, List.flatMap_append]
        simp
      generalize hEe : js[k] = e at *
      have hwr := hnx.1
      have d8 : (wo.alloc (.cells e.cells.toArray 43)).cell? ⟨wo.heap.size, 8, none⟩ = some e.legsV := by
        rw [cell_alloc_new]; rfl
      have dAll : ∀ (j : Nat) v, e.cells[j]? = some v → (wo.alloc (.cells e.cells.toArray 43)).cell? ⟨wo.heap.size, j, none⟩ = some v := by
        intro j v hj
        rw [cell_alloc_new]; simpa using hj
      have hk1 : KeepsBut BN wo (wo.alloc (.cells e.cells.toArray 43)) := KeepsBut.alloc _ _ _
      have hJ1 : J (mvs acc (js.take k)) (wo.alloc (.cells e.cells.toArray 43)) := hJ _ _ _ none hJs (World.grownBy_alloc wo _ none) (fun r e => by cases e)
      have c0 := hcx 0 _ rfl
      have c1 := hcx 1 _ rfl
      have c2 := hcx 2 _ rfl
      have c3 := hcx 3 _ rfl
      have c4 := hcx 4 _ rfl
      have c5 := hcx 5 _ rfl
      have c6 := hcx 6 _ rfl
      have c7 := hcx 7 _ rfl
      have c8 := hcx 8 _ rfl
      have c9 := hcx 9 _ rfl
      clear hcx
      simp only [Nat.add_zero] at c0
      have ha2 : (wo.alloc (.cells e.cells.toArray 43)).cell? ⟨B2, 0, none⟩ = some (.int .i64 acc) := (hnx.trans hk1).cell (p := ⟨B2, 0, none⟩) hB2 hc2
      obtain ⟨W1, hW1⟩ : ∃ W1, wo.alloc (.cells e.cells.toArray 43) = W1 := ⟨_, rfl⟩
      rw [hW1] at d8 dAll hk1 hJ1 ha2
      have hbx : BN ≠ wo.heap.size := by omega
      rcases hlg.keeps hBN hk1 with ⟨A0, cap0, hlv, hl0⟩ | ⟨b2, off2, cap2, hlv, hb2, hls⟩
      · rw [hlv] at d8
        have hcs : e.cells = [e.v0, .int .i64 e.booked, .int .i64 e.value, e.v3, e.v4, e.v5, e.v6, e.v7, .slice A0 0 cap0, e.v9] := by simp only [Mv.cells, hlv]
        have h1c : ∀ v ∈ [e.v0, .int .i64 e.booked, .int .i64 e.value, e.v3, e.v4, e.v5, e.v6, e.v7, .slice A0 0 cap0, e.v9], v.oneCell' = true := hcs ▸ e.one
        rw [hcs] at hW1
        gi_wp2_with (refine wpListIn_storeNew (cs := [e.v0, .int .i64 e.booked, .int .i64 e.value, e.v3, e.v4, e.v5, e.v6, e.v7, .slice A0 0 cap0, e.v9]) (ty := 43) (z := [_, _, _, _, _, _, _, _, _, _]) rfl _ _ 43 rfl rfl rfl (by kernel_rfl) rfl h1c ?_; rw [hW1])
        gi_loopw [17] (fun i wr2 => i = .int .i64 0 ∧ J (mvs acc (js.take k)) wr2 ∧ KeepsBut BN W1 wr2) (fun _ _ => 0)
        case atStart => exact ⟨rfl, hJ1, KeepsBut.refl _ _⟩
        case round =>
          rename World => wr2
          obtain ⟨rfl, hJ2, hn2⟩ := hrel
          gi_wp2
          go_roundw
          case rel => exact ⟨k + 1, by omega, by simp, by rw [htk, hl0]; simpa [mvLegs] using hJ2, hnx.trans (hk1.trans hn2)⟩
          case measure => simp [intOf]; omega
      · rw [hlv] at d8
        have hcs : e.cells = [e.v0, .int .i64 e.booked, .int .i64 e.value, e.v3, e.v4, e.v5, e.v6, e.v7, .slice (some ⟨b2, off2, none⟩) e.legs.length cap2, e.v9] := by simp only [Mv.cells, hlv]
        have h1c : ∀ v ∈ [e.v0, .int .i64 e.booked, .int .i64 e.value, e.v3, e.v4, e.v5, e.v6, e.v7, .slice (some ⟨b2, off2, none⟩) e.legs.length cap2, e.v9], v.oneCell' = true := hcs ▸ e.one
        rw [hcs] at hW1
        gi_wp2_with (refine wpListIn_storeNew (cs := [e.v0, .int .i64 e.booked, .int .i64 e.value, e.v3, e.v4, e.v5, e.v6, e.v7, .slice (some ⟨b2, off2, none⟩) e.legs.length cap2, e.v9]) (ty := 43) (z := [_, _, _, _, _, _, _, _, _, _]) rfl _ _ 43 rfl rfl rfl (by kernel_rfl) rfl h1c ?_; rw [hW1])
        have hb2N : b2 ≠ BN := by omega
        have hlm := hll e (hEe ▸ List.getElem_mem hlt)
        gi_loopw [17] (fun i wr2 => ∃ m : Nat, m ≤ e.legs.length ∧ i = .int .i64 m ∧ J (mvs acc (js.take k) ++ mvLegs acc e (e.legs.take m)) wr2 ∧ KeepsBut BN W1 wr2) (fun i _ => e.legs.length - (intOf i).toNat)
        case atStart => exact ⟨0, Nat.zero_le _, rfl, by simpa [mvLegs] using hJ1, KeepsBut.refl _ _⟩
        case round =>
          rename World => wr2
          obtain ⟨m, hm, rfl, hJ2, hn2⟩ := hrel
          by_cases hlt2 : m < e.legs.length
          · obtain ⟨f0, f1, f2, f3⟩ := hls m e.legs[m] (List.getElem?_eq_getElem hlt2)
            have htm : mvLegs acc e (e.legs.take (m + 1)) = mvLegs acc e (e.legs.take m) ++ (if e.legs[m].1 = acc then [(e, e.legs[m].2.1)] else []) := by
              unfold mvLegs
              rw [List.take_add_one, List.getElem?_eq_getElem hlt2, List.filter_append, List.map_append]
              congr 1
              by_cases hq : e.legs[m].1 = acc <;> simp [hq]
            generalize hEx : e.legs[m] = x at *
            obtain ⟨xa, xb, xc⟩ := x
            dsimp only at f0 f1 f2 f3 htm
            have q0 := hn2.cell (p := ⟨b2, off2 + m * 3, none⟩) hb2N f0
            have q1 := hn2.cell (p := ⟨b2, off2 + m * 3 + 1, none⟩) hb2N f1
            have q2 := hn2.cell (p := ⟨b2, off2 + m * 3 + 2, none⟩) hb2N f2
            have h1x : ∀ v ∈ [Value.int .i64 xa, .int .i64 xb, xc], v.oneCell' = true := by
              intro v hv
              simp at hv
              rcases hv with rfl | rfl | rfl
              · rfl
              · rfl
              · exact f3
            have hk2 : KeepsBut BN wr2 (wr2.alloc (.cells [Value.int .i64 xa, .int .i64 xb, xc].toArray 124)) := KeepsBut.alloc _ _ _
            have hJ3 : J (mvs acc (js.take k) ++ mvLegs acc e (e.legs.take m)) (wr2.alloc (.cells [Value.int .i64 xa, .int .i64 xb, xc].toArray 124)) := hJ _ _ _ none hJ2 (World.grownBy_alloc wr2 _ none) (fun r e => by cases e)
            have g0 : (wr2.alloc (.cells [Value.int .i64 xa, .int .i64 xb, xc].toArray 124)).cell? ⟨wr2.heap.size, 0, none⟩ = some (.int .i64 xa) := by rw [cell_alloc_new]; rfl
            have g1 : (wr2.alloc (.cells [Value.int .i64 xa, .int .i64 xb, xc].toArray 124)).cell? ⟨wr2.heap.size, 1, none⟩ = some (.int .i64 xb) := by rw [cell_alloc_new]; rfl
            have hn3 := hn2.trans hk2
            have ha3 := hn3.cell (p := ⟨B2, 0, none⟩) hB2 ha2
            have hbx' : wo.heap.size ≠ BN := fun e => hbx e.symm
            obtain ⟨W2, hW2⟩ : ∃ W2, wr2.alloc (.cells [Value.int .i64 xa, .int .i64 xb, xc].toArray 124) = W2 := ⟨_, rfl⟩
            rw [hW2] at hk2 hJ3 g0 g1 hn3 ha3
            have e0 := hn3.cell (p := ⟨wo.heap.size, 0, none⟩) hbx' (dAll 0 _ (by rw [hcs]; rfl))
            have e1 := hn3.cell (p := ⟨wo.heap.size, 1, none⟩) hbx' (dAll 1 _ (by rw [hcs]; rfl))
            have e2 := hn3.cell (p := ⟨wo.heap.size, 2, none⟩) hbx' (dAll 2 _ (by rw [hcs]; rfl))
            have e3 := hn3.cell (p := ⟨wo.heap.size, 3, none⟩) hbx' (dAll 3 _ (by rw [hcs]; rfl))
            have e4 := hn3.cell (p := ⟨wo.heap.size, 4, none⟩) hbx' (dAll 4 _ (by rw [hcs]; rfl))
            have e5 := hn3.cell (p := ⟨wo.heap.size, 5, none⟩) hbx' (dAll 5 _ (by rw [hcs]; rfl))
            have e6 := hn3.cell (p := ⟨wo.heap.size, 6, none⟩) hbx' (dAll 6 _ (by rw [hcs]; rfl))
            have e7 := hn3.cell (p := ⟨wo.heap.size, 7, none⟩) hbx' (dAll 7 _ (by rw [hcs]; rfl))
            have e8 := hn3.cell (p := ⟨wo.heap.size, 8, none⟩) hbx' (dAll 8 _ (by rw [hcs]; rfl))
            have e9 := hn3.cell (p := ⟨wo.heap.size, 9, none⟩) hbx' (dAll 9 _ (by rw [hcs]; rfl))
            by_cases hq : acc = xa
            · subst hq
              have hN1 : mvs acc js = mvs acc (js.take (k + 1)) ++ mvs acc (js.drop (k + 1)) := by
                unfold mvs; rw [← List.flatMap_append, List.take_append_drop]
              have hN2 : mvLegs acc e e.legs = mvLegs acc e (e.legs.take (m + 1)) ++ mvLegs acc e (e.legs.drop (m + 1)) := by
                unfold mvLegs; rw [← List.map_append, ← List.filter_append, List.take_append_drop]
              obtain ⟨fn, tmps, assign, body, hy, hR⟩ := hY _ (e, xb) W2 hJ3 (by rw [hN1, htk, hN2, htm, if_pos rfl]; simp)
              dsimp only at hy
              rw [hcs] at hy
              gi_wp2_with (refine wpListIn_storeNew (cs := [Value.int .i64 acc, .int .i64 xb, xc]) (ty := 124) (z := [_, _, _]) rfl _ _ 124 rfl rfl rfl (by kernel_rfl) rfl h1x ?_; rw [hW2])
              refine hR.mono ?_
              rintro e3 W3 (⟨rfl, hJ4, hk4⟩ | ⟨rfl, hJx4⟩)
              · dsimp only
                gi_wp2
                go_roundw
                case rel => exact ⟨m + 1, by omega, by simp, by rw [htm]; simpa using hJ4, hn3.trans hk4⟩
                case measure => simp [intOf]; omega
              · dsimp only
                gi_wp2
                refine bodyPost_ret (results_none rfl _ _ _) rfl ?_
                exact ⟨⟨_, rfl⟩, .inr ⟨_, trivial, hJx4⟩⟩
            · have hqf : (xa == acc) = false := by simpa using fun e => hq e.symm
              gi_wp2_with (first | (refine wpListIn_storeNew (cs := [Value.int .i64 xa, .int .i64 xb, xc]) (ty := 124) (z := [_, _, _]) rfl _ _ 124 rfl rfl rfl (by kernel_rfl) rfl h1x ?_; rw [hW2]) | rw [hqf])
              refine ⟨fun f h => (by cases h), ?_⟩
              gi_wp2
              go_roundw
              case rel => exact ⟨m + 1, by omega, by simp, by rw [htm, if_neg (fun e => hq e.symm)]; simpa using hJ3, hn3⟩
              case measure => simp [intOf]; omega
          · obtain rfl : m = e.legs.length := by omega
            gi_wp2
            go_roundw
            case rel => exact ⟨k + 1, by omega, by simp, by rw [htk]; simpa using hJ2, hnx.trans (hk1.trans hn2)⟩
            case measure => simp [intOf]; omega
    · obtain rfl : k = js.length := by omega
      gi_wp2
      go_end0
      exact ⟨⟨_, rfl⟩, .inl ⟨_, rfl, by simpa using hJs⟩⟩
set_option maxRecDepth 100000 in
set_option maxHeartbeats 4000000 in
theorem movements1_nil (F : Fence) (n : Nat) (h8 : F.fn 187) (hro : F.round = none) (f : Fn) (B1 : Nat) (v2 : Value) (A0 : Option Addr) (cap0 : Nat) (J : World → Prop)
    (W : World) (hc1 : W.cell? ⟨B1, 0, none⟩ = some (.slice A0 0 cap0)) (h0 : J W) :
    CallsIn F n Tryz.prog 187 #[.func f #[] #[], .pointer (some ⟨B1, 0, none⟩), v2] W fun e W' => (∃ v, e = .returned v) ∧ J W' := by
  refine callsIn_of_wp Tryz.func187 rfl h8 ?_ hro
  simp only [Tryz.ntmps187, List.size_toArray, List.length_cons, List.length_nil, Nat.reduceAdd, Nat.reduceSub, Array.replicate_succ, Array.replicate_zero, List.push_toArray, List.append_toArray, List.nil_append, List.cons_append]
  gi_wp2
  gi_loopw [10] (fun i wr => i = .int .i64 0 ∧ J wr) (fun _ _ => 0)
  case atStart => exact ⟨rfl, h0⟩
  case round =>
    obtain ⟨rfl, hJ⟩ := hrel
    gi_wp2
    go_end0
    exact ⟨⟨_, rfl⟩, hJ⟩
theorem LegsAt.of_cells {n₀ : Nat} {X Y : World} (h : ∀ p v, p.block < n₀ → X.cell? p = some v → Y.cell? p = some v) {sv : Value} {ls : List (Int × Int × Value)} (hl : LegsAt n₀ X sv ls) : LegsAt n₀ Y sv ls := by
  rcases hl with h1 | ⟨b, off, cap, h1, h2, h3⟩
  · exact .inl h1
  · exact .inr ⟨b, off, cap, h1, h2, fun k x hk => ⟨h _ _ h2 (h3 k x hk).1, h _ _ h2 (h3 k x hk).2.1, h _ _ h2 (h3 k x hk).2.2.1, (h3 k x hk).2.2.2⟩⟩
theorem JAt.of_cells {n₀ : Nat} {X Y : World} (h : ∀ p v, p.block < n₀ → X.cell? p = some v → Y.cell? p = some v) {sv : Value} {js : List Mv} (hl : JAt n₀ X sv js) : JAt n₀ Y sv js := by
  rcases hl with h1 | ⟨b, off, cap, h1, h2, h3⟩
  · exact .inl h1
  · exact .inr ⟨b, off, cap, h1, h2, fun i e hi => ⟨fun j v hj => h _ _ h2 ((h3 i e hi).1 j v hj), (h3 i e hi).2.of_cells h⟩⟩
theorem Below.keep {n₀ : Nat} {X Y : World} (h : Below n₀ X Y) (p : Addr) (v : Value) (hp : p.block < n₀) (hc : X.cell? p = some v) : Y.cell? p = some v := (h.cell (p := p) hp).trans hc
theorem KeepsBut.putObj {B : Nat} (W : World) (l : Nat) (o o' : Obj) (h : W.heap[l]? = some o) (ho : o.isCells = false) : KeepsBut B W (W.putObj l o') := by
  have hg := grownBy_putObj' W l o'
  refine ⟨hg.size, fun k p hk hp _ => ?_⟩
  have hne : k ≠ l := by
    rintro rfl
    rw [h] at hk; cases hk; rw [ho] at hp; cases hp
  exact (hg.block k (Array.getElem?_eq_some_iff.1 hk).1 (fun e => hne (by cases e; rfl))).trans hk
theorem KeepsBut.setCell (B : Nat) (W : World) (v : Value) : KeepsBut B W (W.setCell ⟨B, 0, none⟩ v) := by
  have hg := grownBy_setCell' W B v
  exact ⟨hg.size, fun k p hk _ hne => (hg.block k (Array.getElem?_eq_some_iff.1 hk).1 (fun e => hne (by cases e; rfl))).trans hk⟩
theorem movements_stops (F : Fence) (n : Nat) (h8 : F.fn 187) (hro : F.round = none) (hn : 1 ≤ n) (B1 B2 n₀ BN : Nat) (sv : Value) (js : List Mv) (acc : Int) (hBN : n₀ ≤ BN) (hB1 : B1 ≠ BN) (hB2 : B2 ≠ BN)
    (w : World) (hB1w : B1 < w.heap.size) (hB2w : B2 < w.heap.size) (hBNw : BN < w.heap.size) (hn0 : n₀ ≤ w.heap.size)
    (hc1 : w.cell? ⟨B1, 0, none⟩ = some sv) (hc2 : w.cell? ⟨B2, 0, none⟩ = some (.int .i64 acc)) (hj : JAt n₀ w sv js)
    (hjl : js.length ≤ 9223372036854775807) (hll : ∀ e ∈ js, e.legs.length ≤ 9223372036854775807) :
    SeqStopsK F n Tryz.prog 187 #[.pointer (some ⟨B1, 0, none⟩), .pointer (some ⟨B2, 0, none⟩)] (fun x : Mv × Int => #[.agg x.1.cells.toArray, .int .i64 x.2]) (KeepsBut BN) (fun xs => xs = mvs acc js) (fun _ => True) (mvs acc js).length w := by
  intro l J Jx W hW hJ hJx hY h0
  have hk1 := Below.keep hW _ _ (show (⟨B1, 0, none⟩ : Addr).block < _ from hB1w) hc1
  have hk2 := Below.keep hW _ _ (show (⟨B2, 0, none⟩ : Addr).block < _ from hB2w) hc2
  have hjW : JAt n₀ W sv js := hj.of_cells fun p v hp hc => Below.keep hW p v (by omega) hc
  rcases hjW with ⟨A0, cap0, rfl, rfl⟩ | ⟨b, off, cap, rfl, hb, hjs⟩
  · refine (movements1_nil F n h8 hro (.yield l) B1 (.pointer (some ⟨B2, 0, none⟩)) A0 cap0 (J []) W hk1 h0).mono ?_
    rintro e W' ⟨h1, h2⟩
    exact ⟨h1, .inl ⟨_, rfl, h2⟩⟩
  · exact movements1_in F n h8 hro hn l B1 B2 n₀ BN b off cap js acc hBN hB1 hB2 J Jx W hJ (Nat.lt_of_lt_of_le hBNw hW.size) hY hk1 hk2 hb hjs hjl hll h0
def atStep (booked value : Int) (n : Int) (x : Mv × Int) : Int := if x.1.booked ≤ booked ∧ x.1.value ≤ value then wrap64 (n - x.2) else n
def atSum (booked value : Int) (xs : List (Mv × Int)) : Int := xs.foldl (atStep booked value) 0
theorem atSum_snoc (b v : Int) (xs : List (Mv × Int)) (x : Mv × Int) : atSum b v (xs ++ [x]) = atStep b v (atSum b v xs) x := by simp [atSum]
set_option maxRecDepth 100000 in
set_option maxHeartbeats 4000000 in
theorem At_in (F : Fence) (n : Nat) (h3 : F.fn 136) (h4 : F.fn 167) (h5 : F.fn 187) (hro : F.round = none) (hn : 6 ≤ n) (sa : Option Addr) (slen scap : Nat) (acc booked value : Int) (js : List Mv) (w : World) (hj : JAt w.heap.size w (.slice sa slen scap) js)
    (hjl : js.length ≤ 9223372036854775807) (hll : ∀ e ∈ js, e.legs.length ≤ 9223372036854775807) :
    CallsIn F n Tryz.prog 136 #[.slice sa slen scap, .int .i64 acc, .int .i64 booked, .int .i64 value] w fun e W' => e = .returned (.int .i64 (atSum booked value (mvs acc js))) ∧ Below w.heap.size w W' := by
  have h1 : 1 ≤ n := by omega
  refine callsIn_of_wp_marks Tryz.func136 rfl h3 ?_ hro
  simp only [Tryz.ntmps136, List.size_toArray, List.length_cons, List.length_nil, Nat.reduceAdd, Nat.reduceSub, Array.replicate_succ, Array.replicate_zero, List.push_toArray, List.append_toArray, List.nil_append, List.cons_append]
  gi_wp2_with (gi_at_call 167; refine (movements_in F (n - 1) h4 hro _ _ _ _ _).mono ?_; rintro e w' ⟨rfl, rfl⟩)
  have bA := Boxed.new w 3 (.int .i64 booked)
  have bA' := ((((bA.alloc (.cells #[.int .i64 value] 3)).alloc (.cells #[.int .i64 0] 3)).alloc (.cells #[.slice sa slen scap] 29)).alloc (.cells #[.int .i64 acc] 3))
  have bV := ((Boxed.new (w.alloc (.cells #[.int .i64 booked] 3)) 3 (.int .i64 value)).alloc (.cells #[.int .i64 0] 3)).alloc (.cells #[.slice sa slen scap] 29) |>.alloc (.cells #[.int .i64 acc] 3)
  have bN := (Boxed.new ((w.alloc (.cells #[.int .i64 booked] 3)).alloc (.cells #[.int .i64 value] 3)) 3 (.int .i64 0)).alloc (.cells #[.slice sa slen scap] 29) |>.alloc (.cells #[.int .i64 acc] 3)
  have bJ := (Boxed.new (((w.alloc (.cells #[.int .i64 booked] 3)).alloc (.cells #[.int .i64 value] 3)).alloc (.cells #[.int .i64 0] 3)) 29 (.slice sa slen scap)).alloc (.cells #[.int .i64 acc] 3)
  have bC := Boxed.new ((((w.alloc (.cells #[.int .i64 booked] 3)).alloc (.cells #[.int .i64 value] 3)).alloc (.cells #[.int .i64 0] 3)).alloc (.cells #[.slice sa slen scap] 29)) 3 (.int .i64 acc)
  have hB0 : Below w.heap.size w (((((w.alloc (.cells #[.int .i64 booked] 3)).alloc (.cells #[.int .i64 value] 3)).alloc (.cells #[.int .i64 0] 3)).alloc (.cells #[.slice sa slen scap] 29)).alloc (.cells #[.int .i64 acc] 3)) :=
    (((((Below.refl _ w).alloc (Nat.le_refl _) _).alloc (by simp) _).alloc (by simp; omega) _).alloc (by simp; omega) _).alloc (by simp; omega) _
  simp only [World.size_alloc] at bV bN bJ bC
  have hsz : (((((w.alloc (.cells #[.int .i64 booked] 3)).alloc (.cells #[.int .i64 value] 3)).alloc (.cells #[.int .i64 0] 3)).alloc (.cells #[.slice sa slen scap] 29)).alloc (.cells #[.int .i64 acc] 3)).heap.size = w.heap.size + 5 := by simp
  obtain ⟨W0, hW0⟩ : ∃ W0, (((((w.alloc (.cells #[.int .i64 booked] 3)).alloc (.cells #[.int .i64 value] 3)).alloc (.cells #[.int .i64 0] 3)).alloc (.cells #[.slice sa slen scap] 29)).alloc (.cells #[.int .i64 acc] 3)) = W0 := ⟨_, rfl⟩
  rw [hW0] at bA' bV bN bJ bC hB0 hsz ⊢
  clear hW0 bA
  refine wpIn_rangeFunc_ownH hro h1 (gf := 187) (lb := #[.pointer (some ⟨w.heap.size + 1 + 1 + 1, 0, none⟩), .pointer (some ⟨w.heap.size + 1 + 1 + 1 + 1, 0, none⟩)]) rfl h5 (enters_of Tryz.func187 (by kernel_rfl) rfl)
    (movements_stops F (n - 1) h5 hro (by omega) (w.heap.size + 1 + 1 + 1) (w.heap.size + 1 + 1 + 1 + 1) w.heap.size (w.heap.size + 1 + 1) _ js acc (by omega) (by omega) (by omega) W0 (by omega) (by omega) (by omega) (by omega) bJ.cell bC.cell
      (hj.of_cells fun p v hp hc => Below.keep hB0 p v hp hc) hjl hll)
    (fun h k => KeepsBut.trans h k) (fun W l o o' _ h ho _ => KeepsBut.putObj W l o o' h ho) (Below.refl _ _) (fun _ => rfl)
    (fun pre W => ((Boxed W (w.heap.size + 1 + 1) 3 (.int .i64 (atSum booked value pre)) ∧ Boxed W w.heap.size 3 (.int .i64 booked)) ∧ Boxed W (w.heap.size + 1) 3 (.int .i64 value)) ∧ Below w.heap.size w W)
    (fun _ _ _ => False)
    (OwnFrom.and (OwnFrom.and (OwnFrom.and (Own.from (boxed_own _ _ _) _) (Own.from (boxed_own _ _ _) _)) (Own.from (boxed_own _ _ _) _)) (ownFrom_below (Nat.le_refl _) (by omega)))
    (fun _ _ _ _ _ hs _ _ => hs)
    ⟨⟨⟨bN, bA'⟩, bV⟩, hB0⟩
    (fun x a' W => ∃ Bx, w.heap.size + 1 + 1 < Bx ∧ W.heap[Bx]? = some (.cells x.1.cells.toArray 43 (0, 0)) ∧ a' = { tmps := #[.slice sa slen scap, .int .i64 acc, .int .i64 booked, .int .i64 value, undef, undef, .pointer (some ⟨w.heap.size, 0, none⟩), .pointer (some ⟨w.heap.size + 1, 0, none⟩), .int .i64 0, .pointer (some ⟨w.heap.size + 1 + 1, 0, none⟩), .pointer (some ⟨Bx, 0, none⟩), .int .i64 x.2, .slice sa slen scap, .int .i64 acc, .func (.func 187) #[] #[.pointer (some ⟨w.heap.size + 1 + 1 + 1, 0, none⟩), .pointer (some ⟨w.heap.size + 1 + 1 + 1 + 1, 0, none⟩)], .agg x.1.cells.toArray, .int .i64 x.2, undef, undef, undef, undef, undef, undef, undef, undef, undef, undef, undef, undef, undef, undef], defers := [] })
    (fun x a' _ X Y row hs hg hr => by
      obtain ⟨Bx, h1, h2, h3⟩ := hs
      refine ⟨Bx, h1, (hg.block Bx (Array.getElem?_eq_some_iff.1 h2).1 (fun e => ?_)).trans h2, h3⟩
      obtain ⟨_, o, ho, hc⟩ := hr Bx e.symm
      rw [h2] at ho; cases ho; cases hc)
    ?assign ?body ?done ?stop
  case assign =>
    rintro l pre x W K ⟨⟨⟨bN1, bA1⟩, bV1⟩, hB1⟩ hK
    have hsW := hB1.size
    obtain ⟨W1, hW1⟩ : ∃ W1, W.alloc (.cells x.1.cells.toArray 43) = W1 := ⟨_, rfl⟩
    gi_wp2_with (refine wpListIn_storeNew (cs := x.1.cells) (ty := 43) (z := [_, _, _, _, _, _, _, _, _, _]) rfl _ _ 43 rfl rfl rfl (by kernel_rfl) rfl x.1.one ?_; rw [hW1])
    subst hW1
    exact hK _ _ ((KeepsOthers.alloc _ _).from _) (KeepsBut.alloc _ _ _) ⟨⟨⟨bN1.alloc _, bA1.alloc _⟩, bV1.alloc _⟩, hB1.alloc hB1.size _⟩ ⟨W.heap.size, bN1.lt, World.alloc_heap_new W _, rfl⟩
  case body =>
    rintro l pre x a' W hl ⟨r, hr⟩ ⟨⟨⟨bN1, bA1⟩, bV1⟩, hB1⟩ ⟨Bx, hBx, hX, rfl⟩ hlt
    have cN := bN1.cell
    have fN := bN1.frozen
    have cA := bA1.cell
    have cV := bV1.cell
    have c1 : W.cell? ⟨Bx, 1, none⟩ = some (.int .i64 x.1.booked) := by
      unfold World.cell?
      dsimp only
      rw [hX]
      rfl
    have c2 : W.cell? ⟨Bx, 2, none⟩ = some (.int .i64 x.1.value) := by
      unfold World.cell?
      dsimp only
      rw [hX]
      rfl
    by_cases hb : x.1.booked ≤ booked
    · by_cases hv : x.1.value ≤ value
      · gi_wp2
        exact ⟨(KeepsOthers.setCell _ _ _).from _, KeepsBut.setCell _ _ _, ⟨⟨by rw [atSum_snoc, atStep, if_pos ⟨hb, hv⟩]; exact bN1.set _, bA1.other (by omega) _⟩, bV1.other (by omega) _⟩, hB1.setCell (p := ⟨w.heap.size + 1 + 1, 0, none⟩) (by simp; omega) _⟩
      · gi_wp2
        exact ⟨KeepsFrom.refl _ _, KeepsBut.refl _ _, ⟨⟨by rw [atSum_snoc, atStep, if_neg (by omega)]; exact bN1, bA1⟩, bV1⟩, hB1⟩
    · gi_wp2
      exact ⟨KeepsFrom.refl _ _, KeepsBut.refl _ _, ⟨⟨by rw [atSum_snoc, atStep, if_neg (by omega)]; exact bN1, bA1⟩, bV1⟩, hB1⟩
  case done =>
    rintro D zs W hD rfl ⟨⟨⟨bN1, bA1⟩, bV1⟩, hB1⟩ hK
    have cN := bN1.cell
    gi_wp2
    refine ⟨by simp, .inl ⟨_, _, rfl, run_takeDeferred hK, ?_⟩⟩
    exact ⟨_, results_tmp rfl _ _ _, rfl, hB1.trans (belowK_b (w := w) (Nat.le_refl _) W D _ _ (by omega) hK rfl rfl)⟩
  case stop =>
    rintro D c pre W _ _ h _
    exact h.elim
end Go.Cb
set_option linter.unusedVariables false
namespace Go.Cb
open Go.Eng Go.RowKit Go.Proofs
def balStep (acc booked value : Int) (e : ApiEntry) (n : Int) (l : ApiLeg) : Int := if l.Account = acc then if e.Booked ≤ booked ∧ e.Value ≤ value then wrap64 (n - l.Amount) else n else n
def balSum (j : List ApiEntry) (acc booked value : Int) : Int := j.foldl (fun n e => e.Legs.foldl (balStep acc booked value e) n) 0
def balAt (j : List ApiEntry) (acc booked value : Int) : Option Int := some (balSum j acc booked value)
theorem gather {α β : Type} : ∀ {P : Nat → α → β → Prop} (xs : List α), (∀ i x, xs[i]? = some x → ∃ y, P i x y) → ∃ ys : List β, ys.length = xs.length ∧ ∀ i x y, xs[i]? = some x → ys[i]? = some y → P i x y
  | _, [], _ => ⟨[], rfl, fun i x y h => by simp at h⟩
  | P, a :: r, h => by
    obtain ⟨y, hy⟩ := h 0 a rfl
    obtain ⟨ys, hl, hs⟩ := gather (P := fun i => P (i + 1)) r (fun i x hx => h (i + 1) x hx)
    refine ⟨y :: ys, by simp [hl], fun i x z hx hz => ?_⟩
    cases i with
    | zero =>
      have e1 : a = x := Option.some.inj hx
      have e2 : y = z := Option.some.inj hz
      subst e1 e2
      exact hy
    | succ i => exact hs i x z hx hz
theorem spot_none {w : World} {a : Addr} {v : Value} (h : w.cell? a = some v) : a.spot = none := by
  unfold World.cell? at h
  split at h
  · split at h
    · cases h
    · rename_i h2
      simpa using h2
  · cases h
theorem legs_at {n₀ : Nat} {w : World} {ok : Nat → Prop} (hok : ∀ b, ok b → b < n₀) {v : Value} {ls : List ApiLeg} (h : Rep w ok v (.slice (List.map ApiLeg.enc ls))) :
    ∃ xs : List (Int × Int × Value), LegsAt n₀ w v xs ∧ xs.length ≤ 9223372036854775807 ∧ xs.map (fun x => (x.1, x.2.1)) = ls.map fun l => (l.Account, l.Amount) := by
  cases h with
  | slice A n c rows sz ad vs hl hc hm hsz hcell hA hv hr =>
    cases ls with
    | nil =>
      have : n = 0 := by simpa using hl.symm
      subst this
      exact ⟨[], .inl ⟨A, c, rfl, rfl⟩, by simp, rfl⟩
    | cons l0 lr =>
      have h3 : sz = 3 := (hsz (ApiLeg.enc l0) (List.mem_map_of_mem List.mem_cons_self)).symm
      subst h3
      have hn : 0 < n := by rw [← hl]; simp
      obtain ⟨rfl, hb⟩ := hA hn
      obtain ⟨b, off, sp⟩ := ad
      have hsp : sp = none := spot_none (hv 0 (ApiLeg.enc l0) 0 (.int .i64 l0.Account) rfl rfl)
      subst hsp
      refine ⟨(l0 :: lr).mapIdx fun k l => (l.Account, l.Amount, vs k 2), .inr ⟨b, off, c, ?_, hok b hb, ?_⟩, ?_, ?_⟩
      · have : n = ((l0 :: lr).mapIdx fun k l => (l.Account, l.Amount, vs k 2)).length := by rw [← hl]; simp
        rw [this]
      · intro k x hk
        rw [List.getElem?_mapIdx] at hk
        obtain ⟨l, hk1, rfl⟩ := Option.map_eq_some_iff.1 hk
        have hrow : (List.map ApiLeg.enc (l0 :: lr))[k]? = some (ApiLeg.enc l) := by rw [List.getElem?_map, hk1]; rfl
        have a0 := hv k _ 0 _ hrow rfl
        have a1 := hv k _ 1 _ hrow rfl
        have a2 := hv k _ 2 _ hrow rfl
        rw [add_plain, ← Nat.add_assoc] at a0 a1 a2
        rw [Rep.int_inv (hr k _ 0 _ hrow rfl)] at a0
        rw [Rep.int_inv (hr k _ 1 _ hrow rfl)] at a1
        exact ⟨a0, a1, a2, (Rep.one (hr k _ 2 _ hrow rfl) rfl).2⟩
      · have : ((l0 :: lr).mapIdx fun k l => (l.Account, l.Amount, vs k 2)).length = n := by rw [← hl]; simp
        omega
      · apply List.ext_getElem?
        intro k
        rw [List.getElem?_map, List.getElem?_mapIdx, List.getElem?_map]
        cases (l0 :: lr)[k]? <;> rfl
def MvOf (w : World) (n₀ : Nat) (e : ApiEntry) (m : Mv) : Prop := LegsAt n₀ w m.legsV m.legs ∧ m.legs.length ≤ 9223372036854775807 ∧ m.booked = e.Booked ∧ m.value = e.Value ∧ m.legs.map (fun x => (x.1, x.2.1)) = e.Legs.map fun l => (l.Account, l.Amount)
theorem journal_at {n₀ : Nat} {w : World} {ok : Nat → Prop} (hok : ∀ b, ok b → b < n₀) {v : Value} {j : List ApiEntry} (h : Rep w ok v (.slice (List.map ApiEntry.enc j))) :
    ∃ A n c, v = .slice A n c ∧ ∃ js : List Mv, JAt n₀ w v js ∧ js.length ≤ 9223372036854775807 ∧ js.length = j.length ∧ ∀ (i : Nat) (e : ApiEntry) (m : Mv), j[i]? = some e → js[i]? = some m → MvOf w n₀ e m := by
  cases h with
  | slice A n c rows sz ad vs hl hc hm hsz hcell hA hv hr =>
    refine ⟨A, n, c, rfl, ?_⟩
    cases j with
    | nil =>
      have : n = 0 := by simpa using hl.symm
      subst this
      exact ⟨[], .inl ⟨A, c, rfl, rfl⟩, by simp, rfl, fun i e m h => by simp at h⟩
    | cons l0 lr =>
      have h3 : sz = 10 := (hsz (ApiEntry.enc l0) (List.mem_map_of_mem List.mem_cons_self)).symm
      subst h3
      have hn : 0 < n := by rw [← hl]; simp
      obtain ⟨rfl, hb⟩ := hA hn
      obtain ⟨b, off, sp⟩ := ad
      have hsp : sp = none := spot_none (hv 0 (ApiEntry.enc l0) 0 (.int .i64 l0.Id) rfl rfl)
      subst hsp
      obtain ⟨js, hjl, hjs⟩ := gather (P := fun i e m => (∀ (k : Nat) u, (Mv.cells m)[k]? = some u → w.cell? ⟨b, off + i * 10 + k, none⟩ = some u) ∧ MvOf w n₀ e m) (l0 :: lr) (by
        intro i e hi
        have hrow : (List.map ApiEntry.enc (l0 :: lr))[i]? = some (ApiEntry.enc e) := by rw [List.getElem?_map, hi]; rfl
        have hcl : ∀ k d, (ApiEntry.enc e)[k]? = some d → w.cell? ⟨b, off + i * 10 + k, none⟩ = some (vs i k) := by
          intro k d hk
          have := hv i _ k d hrow hk
          rw [add_plain, ← Nat.add_assoc] at this
          exact this
        have e1 := Rep.int_inv (hr i _ 1 _ hrow rfl)
        have e2 := Rep.int_inv (hr i _ 2 _ hrow rfl)
        obtain ⟨xs, hx1, hx2, hx3⟩ := legs_at hok (hr i _ 8 _ hrow rfl)
        have one : ∀ k d, (ApiEntry.enc e)[k]? = some d → d.isCell = true → (vs i k).oneCell' = true := fun k d hk hd => (Rep.one (hr i _ k _ hrow hk) hd).2
        refine ⟨⟨vs i 0, vs i 3, vs i 4, vs i 5, vs i 6, vs i 7, vs i 9, e.Booked, e.Value, vs i 8, xs, ?_⟩, ?_, hx1, hx2, rfl, rfl, hx3⟩
        · intro u hu
          simp only [List.mem_cons, List.not_mem_nil, or_false] at hu
          rcases hu with rfl | rfl | rfl | rfl | rfl | rfl | rfl | rfl | rfl | rfl
          · exact one 0 _ rfl rfl
          · rfl
          · rfl
          · exact one 3 _ rfl rfl
          · exact one 4 _ rfl rfl
          · exact one 5 _ rfl rfl
          · exact one 6 _ rfl rfl
          · exact one 7 _ rfl rfl
          · exact one 8 _ rfl rfl
          · exact one 9 _ rfl rfl
        · intro k u hu
          match k, hu with
          | 0, hu => cases hu; exact hcl 0 _ rfl
          | 1, hu => cases hu; exact e1 ▸ hcl 1 _ rfl
          | 2, hu => cases hu; exact e2 ▸ hcl 2 _ rfl
          | 3, hu => cases hu; exact hcl 3 _ rfl
          | 4, hu => cases hu; exact hcl 4 _ rfl
          | 5, hu => cases hu; exact hcl 5 _ rfl
          | 6, hu => cases hu; exact hcl 6 _ rfl
          | 7, hu => cases hu; exact hcl 7 _ rfl
          | 8, hu => cases hu; exact hcl 8 _ rfl
          | 9, hu => cases hu; exact hcl 9 _ rfl
          | k + 10, hu => simp [Mv.cells] at hu)
      have hln : js.length = n := by rw [hjl, ← hl]; simp
      refine ⟨js, .inr ⟨b, off, c, by rw [hln], hok b hb, fun i m hm => ?_⟩, by omega, hjl, fun i e m h1 h2 => (hjs i e m h1 h2).2⟩
      have hi : i < (l0 :: lr).length := by rw [← hjl]; exact (List.getElem?_eq_some_iff.1 hm).1
      have := hjs i _ m (List.getElem?_eq_getElem hi) hm
      exact ⟨this.1, this.2.1⟩
theorem leg_sum (acc booked value : Int) (e : ApiEntry) (m : Mv) (h1 : m.booked = e.Booked) (h2 : m.value = e.Value) : ∀ (ls : List ApiLeg) (xs : List (Int × Int × Value)) (n : Int), xs.map (fun x => (x.1, x.2.1)) = ls.map (fun l => (l.Account, l.Amount)) →
    (mvLegs acc m xs).foldl (atStep booked value) n = ls.foldl (balStep acc booked value e) n
  | [], xs, n, h => by
    have : xs = [] := by simpa using h
    subst this; rfl
  | l :: r, [], n, h => by simp at h
  | l :: r, x :: xs, n, h => by
    simp only [List.map_cons, List.cons.injEq, Prod.mk.injEq] at h
    obtain ⟨⟨ha, hb⟩, hr⟩ := h
    rw [List.foldl_cons]
    have hs : mvLegs acc m (x :: xs) = (if x.1 = acc then [(m, x.2.1)] else []) ++ mvLegs acc m xs := by
      unfold mvLegs
      by_cases hq : x.1 = acc <;> simp [hq]
    rw [hs, List.foldl_append, leg_sum acc booked value e m h1 h2 r xs _ hr]
    congr 1
    unfold balStep
    rw [← ha, ← hb]
    split
    · simp [atStep, h1, h2]
    · rfl
theorem bal_sum (w : World) (n₀ : Nat) (acc booked value : Int) : ∀ (es : List ApiEntry) (js : List Mv) (n : Int), js.length = es.length → (∀ (i : Nat) (e : ApiEntry) (m : Mv), es[i]? = some e → js[i]? = some m → MvOf w n₀ e m) →
    (mvs acc js).foldl (atStep booked value) n = es.foldl (fun n e => e.Legs.foldl (balStep acc booked value e) n) n
  | [], js, n, hl, _ => by
    have : js = [] := by simpa using hl
    subst this; rfl
  | e :: r, [], n, hl, _ => by simp at hl
  | e :: r, m :: js, n, hl, h => by
    obtain ⟨_, _, h1, h2, h3⟩ := h 0 e m rfl rfl
    rw [List.foldl_cons]
    unfold mvs
    rw [List.flatMap_cons, List.foldl_append, leg_sum acc booked value e m h1 h2 _ _ _ h3]
    exact bal_sum w n₀ acc booked value r js _ (by simpa using hl) (fun i e' m' he hm => h (i + 1) e' m' he hm)
theorem s_balAt {gt : Nat → Option (List D)} (j : List ApiEntry) (acc booked value : Int) :
    DoesP Tryz.prog gt 136 [.val (.slice (List.map ApiEntry.enc j)), .val (.int .i64 acc), .val (.int .i64 booked), .val (.int .i64 value)] (fun r : Int => [.val (.int .i64 r)]) (balAt j acc booked value) := by
  intro r hr w vs ok hok hg hsz ha
  obtain rfl : balSum j acc booked value = r := Option.some.inj hr
  have e0 : Rep w ok (vs.getD 0 undef) (.slice (List.map ApiEntry.enc j)) := ha 0 _ rfl
  have e1 := Rep.int_inv (w := w) (show Rep w ok (vs.getD 1 undef) (.int .i64 acc) from ha 1 _ rfl)
  have e2 := Rep.int_inv (w := w) (show Rep w ok (vs.getD 2 undef) (.int .i64 booked) from ha 2 _ rfl)
  have e3 := Rep.int_inv (w := w) (show Rep w ok (vs.getD 3 undef) (.int .i64 value) from ha 3 _ rfl)
  obtain ⟨A, n, c, hs, js, hj, hjl, hjn, hjm⟩ := journal_at hok e0
  have hvs : vs = #[.slice A n c, .int .i64 acc, .int .i64 booked, .int .i64 value] := by
    apply Array.ext
    · simpa using hsz
    · intro i h1 h2
      have h1' := h1
      simp at h2
      have hg : ∀ k, k < vs.size → vs[k]? = some (vs.getD k undef) := fun k hk => by simp [Array.getD_eq_getD_getElem?, hk]
      match i, h2 with
      | 0, _ => have := hg 0 h1'; rw [hs] at this; simpa [Array.getElem?_eq_getElem h1'] using this
      | 1, _ => have := hg 1 h1'; rw [e1] at this; simpa [Array.getElem?_eq_getElem h1'] using this
      | 2, _ => have := hg 2 h1'; rw [e2] at this; simpa [Array.getElem?_eq_getElem h1'] using this
      | 3, _ => have := hg 3 h1'; rw [e3] at this; simpa [Array.getElem?_eq_getElem h1'] using this
  rw [hs] at hj
  subst hvs
  have hll : ∀ m ∈ js, m.legs.length ≤ 9223372036854775807 := by
    intro m hm
    obtain ⟨i, hi⟩ := List.getElem?_of_mem hm
    have hi' : i < j.length := by rw [← hjn]; exact (List.getElem?_eq_some_iff.1 hi).1
    exact (hjm i _ m (List.getElem?_eq_getElem hi') hi).2.1
  refine .inl ⟨⟨Tryz.f136, Tryz.func136, by kernel_rfl, by kernel_rfl⟩, callsIn_wide.1 ((At_in Fence.wide 6 trivial trivial trivial rfl (Nat.le_refl _) A n c acc booked value js w hj hjl hll).mono ?_)⟩
  rintro e w' ⟨rfl, hB⟩
  have hsum : atSum booked value (mvs acc js) = balSum j acc booked value := bal_sum w w.heap.size acc booked value j js 0 hjn hjm
  rw [hsum]
  refine ⟨_, rfl, hB, fun _ => False, fun b h => h.elim, [.int .i64 (balSum j acc booked value)], rfl, rfl, fun i r hi => ?_, fun i j r s hi hj h1 => ?_⟩
  · match i, hi with
    | 0, hi => simp at hi; subst hi; exact Rep.int _ _
    | n + 1, hi => simp at hi
  · match i, hi with
    | 0, hi => simp at hi; subst hi; cases h1
    | n + 1, hi => simp at hi
end Go.Cb
