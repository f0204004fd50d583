/- The engine, part 8: a step that writes memory. Conditions: none. -/
import Derived.Test.YtkiolflkkbfaiaaDoorEngG
set_option linter.unusedVariables false
set_option linter.unusedSimpArgs false
namespace Go.Eng
open Go.RowKit
section
variable {E : Env} {ti : TypeId → Option TI} {ψ ψ' : Nat → Value} {sl : Nat → Slot} {bl bl' bl0 : Blks} {U : Nat → Prop} {nx : Nat} {a : Act} {w w' : World} {dst : Option Nat} {o : Oper} {R : Patch → Prop} {Q : Exit → Act → World → Prop}

theorem setB_append (bl : Blks) (q p : Pch) : setB bl (q ++ p) = setB (setB bl p) q := by
  funext n
  unfold setB
  rw [List.find?_append]
  cases q.find? (fun x => Nat.beq n x.1) <;> rfl
theorem setB_cons (bl : Blks) (x : Nat × Option Blk) (p : Pch) (n : Nat) : setB bl (x :: p) n = if n = x.1 then x.2 else setB bl p n := by
  unfold setB
  simp only [List.find?]
  by_cases h : n = x.1
  · simp [h]
  · have : Nat.beq n x.1 = false := by rw [Bool.eq_false_iff]; exact fun e => h (Nat.eq_of_beq_eq_true e)
    simp [this, h]
theorem SimP.blk_lt (h : SimP E ψ sl bl U a w) {nm : Nat} {k : Blk} (hk : bl nm = some k) (hl : k.live = true) {b : Nat} (hb : ptrBlock (ψ nm) = some b) : E.w0.heap.size ≤ b ∧ b < w.heap.size := by
  have hr := h.blks nm k hk
  cases k with
  | box cs =>
    obtain ⟨b', vs, t, h1, h2, h3, _⟩ := hr
    rw [h1] at hb
    injection hb with hb
    subst hb
    exact ⟨h2, (Array.getElem?_eq_some_iff.1 h3).1⟩
  | vec e rows =>
    obtain ⟨xs, h1, h2, _⟩ := hr
    rcases h2.2 with ⟨hv, _⟩ | ⟨g, cap, cur, hv, hbg, hg, _⟩
    · rw [hv] at hb; cases hb
    · rw [hv] at hb
      injection hb with hb
      subst hb
      exact ⟨hbg, (Array.getElem?_eq_some_iff.1 hg).1⟩
  | fro rows => cases hl
  | frob cs => cases hl
/-- At most one of the call's own blocks is written (that of the name sp), and new ones. -/
structure Step (ψ ψ' : Nat → Value) (bl bl' : Blks) (U : Nat → Prop) (nx : Nat) (sp : Option Nat) (w w' : World) : Prop where
  os : w'.os = w.os
  tape : w'.tape = w.tape
  output : w'.output = w.output
  size : w.heap.size ≤ w'.heap.size
  heap : ∀ b, b < w.heap.size → (∀ m, sp = some m → ptrBlock (ψ m) ≠ some b) → w'.heap[b]? = w.heap[b]?
  spl : ∀ m, sp = some m → ∃ k, bl m = some k ∧ k.live = true
  psi : ∀ nm, U nm → ψ' nm = ψ nm
  old : ∀ nm k, U nm → bl' nm = some k → (bl nm = some k ∧ sp ≠ some nm) ∨ (sp = some nm ∧ k.live = true)
  new : ∀ nm k, ¬ U nm → bl' nm = some k → k.live = true ∧ (nx ≤ nm ∧ nm < nx + 8) ∧ ∀ b, ptrBlock (ψ' nm) = some b → (w.heap.size ≤ b ∧ b < w'.heap.size) ∨ (∃ m, sp = some m ∧ bl' m = none ∧ ptrBlock (ψ m) = some b)
  apart : ∀ nm nm' k k', ¬ U nm → ¬ U nm' → bl' nm = some k → bl' nm' = some k' → nm ≠ nm' → ptrBlock (ψ' nm) = none ∨ ptrBlock (ψ' nm) ≠ ptrBlock (ψ' nm')
theorem Step.below {sp : Option Nat} (st : Step ψ ψ' bl bl' U nx sp w w') (h : SimP E ψ sl bl U a w) : Below E.w0.heap.size w w' := by
  refine ⟨st.os, st.tape, st.output, st.size, fun b hb => st.heap b (Nat.lt_of_lt_of_le hb h.below.size) (fun m hm e => ?_)⟩
  obtain ⟨k, hk, hl⟩ := st.spl m hm
  have := (h.blk_lt hk hl e).1
  omega
theorem Step.keeps {sp : Option Nat} (st : Step ψ ψ' bl bl' U nx sp w w') (h : SimP E ψ sl bl U a w) : Keeps E ψ ψ' bl bl' U w w' := by
  refine ⟨fun b hb => st.heap b hb.2.1 (fun m hm e => ?_), fun b hb => ⟨hb.1, Nat.lt_of_lt_of_le hb.2.1 st.size, fun nm k hk hl e => ?_⟩, fun nm hn hs => ⟨?_, st.psi nm hn⟩⟩
  · obtain ⟨k, hk, hl⟩ := st.spl m hm
    exact hb.2.2 m k hk hl e
  · rcases Classical.em (U nm) with hn | hn
    · rw [st.psi nm hn] at e
      rcases st.old nm k hn hk with ⟨h1, _⟩ | ⟨h1, _⟩
      · exact hb.2.2 nm k h1 hl e
      · obtain ⟨k', hk', hl'⟩ := st.spl nm h1
        exact hb.2.2 nm k' hk' hl' e
    · rcases (st.new nm k hn hk).2.2 b e with ⟨h1, _⟩ | ⟨m, h1, _, h2⟩
      · have := hb.2.1; omega
      · obtain ⟨k', hk', hl'⟩ := st.spl m h1
        exact hb.2.2 m k' hk' hl' h2
  · obtain ⟨k, hk⟩ := Option.isSome_iff_exists.1 hs
    rcases st.old nm k hn hk with ⟨h1, _⟩ | ⟨h1, _⟩
    · rw [h1]; rfl
    · obtain ⟨k', hk', _⟩ := st.spl nm h1
      rw [hk']; rfl
theorem Step.sim {sp : Option Nat} (st : Step ψ ψ' bl bl' U nx sp w w') (h : SimP E ψ sl bl U a w) {v : Value} {s : Slot}
    (hblk : ∀ nm k, bl' nm = some k → (¬ U nm ∨ sp = some nm) → BlkRep E w' (okS E bl' ψ' w') ψ' bl' nm k)
    (hrefs : ∀ m ∈ refsS s, Un U nx m)
    (hbr : ∀ nm cs, (¬ U nm ∨ sp = some nm) → bl' nm = some (.box cs) → ∀ r ∈ cs, ∀ m ∈ refsR r, Un U nx m) (hgg : ∀ l s', s ≠ .gval l s')
    (hmen : ∀ d, dst = some d → ∀ i l s', sl i = .gval l s' → ∀ x ∈ l, x.1 ≠ d) (hds : ∀ d, dst = some d → d < E.n)
    (hs : SlotRep w' (okS E bl' ψ' w') ψ' bl' a.tmps s v) : SimP E ψ' (setS sl dst s) bl' (Un U nx) (a.put dst v) w' := by
  have hlive : ∀ nm k, U nm → bl' nm = some k → k.live = true → ∃ k', bl nm = some k' ∧ k'.live = true := by
    intro nm k hn hk hl
    rcases st.old nm k hn hk with ⟨h1, _⟩ | ⟨h1, _⟩
    · exact ⟨k, h1, hl⟩
    · exact st.spl nm h1
  have cross : ∀ nm nm' k k' b, U nm → ¬ U nm' → bl' nm = some k → bl' nm' = some k' → k.live = true → ptrBlock (ψ' nm) = some b → ptrBlock (ψ' nm') ≠ some b := by
    intro nm nm' k k' b hn hn' hk hk' hl hb hb'
    rw [st.psi nm hn] at hb
    obtain ⟨k1, h1, l1⟩ := hlive nm k hn hk hl
    have hlt := (h.blk_lt h1 l1 hb).2
    rcases (st.new nm' k' hn' hk').2.2 b hb' with ⟨h2, _⟩ | ⟨m, h2, h3, h4⟩
    · omega
    · obtain ⟨k2, h5, l5⟩ := st.spl m h2
      have hne : nm ≠ m := fun e => by rw [e, h3] at hk; cases hk
      rcases h.apart nm m k1 k2 h1 h5 l1 l5 hne with h6 | h6
      · rw [h6] at hb; cases hb
      · rw [hb, h4] at h6; exact h6 rfl
  refine h.next (Un.old (U := U) (nx := nx)) (st.keeps h) (st.below h) (fun nm k hk => ?_) (fun nm nm' k k' hk hk' hl hl' hne => ?_) (fun nm hn => ?_) hrefs (fun nm cs hk r hr m hm => ?_) (fun l l' s' => hgg l _) hmen hds (hs.tm hgg)
  · rcases Classical.em (U nm) with hn | hn
    · rcases st.old nm k hn hk with ⟨h1, h2⟩ | ⟨h1, _⟩
      · refine .inl ⟨hn, h1, fun b hl hb => ?_⟩
        refine st.heap b (h.blk_lt h1 hl hb).2 (fun m hm e => ?_)
        obtain ⟨k2, h5, l5⟩ := st.spl m hm
        rcases h.apart nm m k k2 h1 h5 hl l5 (fun e => h2 (by rw [e, hm])) with h6 | h6
        · rw [h6] at hb; cases hb
        · rw [hb, e] at h6; exact h6 rfl
      · exact .inr (hblk nm k hk (.inr h1))
    · exact .inr (hblk nm k hk (.inl hn))
  · rcases Classical.em (U nm) with hn | hn <;> rcases Classical.em (U nm') with hn' | hn'
    · obtain ⟨k1, h1, l1⟩ := hlive nm k hn hk hl
      obtain ⟨k2, h2, l2⟩ := hlive nm' k' hn' hk' hl'
      rw [st.psi nm hn, st.psi nm' hn']
      exact h.apart nm nm' k1 k2 h1 h2 l1 l2 hne
    · cases hb : ptrBlock (ψ' nm) with
      | none => exact .inl rfl
      | some b => exact .inr (fun e => cross nm nm' k k' b hn hn' hk hk' hl hb e.symm)
    · cases hb : ptrBlock (ψ' nm) with
      | none => exact .inl rfl
      | some b => exact .inr (fun e => cross nm' nm k' k b hn' hn hk' hk hl' e.symm hb)
    · exact st.apart nm nm' k k' hn hn' hk hk' hne
  · cases hk : bl' nm with
    | none => rfl
    | some k => exact absurd (Or.inr (st.new nm k (fun e => hn (.inl e)) hk).2.1) hn
  · rcases Classical.em (U nm) with hn | hn
    · rcases st.old nm _ hn hk with ⟨h1, _⟩ | ⟨h1, _⟩
      · exact .inl (h.brefs nm cs h1 r hr m hm)
      · exact hbr nm cs (.inr h1) hk r hr m hm
    · exact hbr nm cs (.inl hn) hk r hr m hm
/-- One new block of the name nx, at the memory's end. -/
theorem Step.alloc (h : SimP E ψ sl bl U a w) (hf : ¬ U nx) (k : Blk) (hl : k.live = true) (v : Value) (hv : ∀ b, ptrBlock v = some b → b = w.heap.size) (ob : Obj) :
    Step ψ (fun n => if n = nx then v else ψ n) bl (setB bl [(nx, some k)]) U nx none w (w.alloc ob) := by
  have hb : ∀ n, setB bl [(nx, some k)] n = if n = nx then some k else bl n := fun n => by rw [setB_cons]; rfl
  refine ⟨rfl, rfl, rfl, by simp, fun b hb _ => Below.heap_alloc w _ b hb, fun m e => (by cases e), fun nm hn => if_neg (by intro e; exact hf (e ▸ hn)), fun nm k' hn hk => ?_, fun nm k' hn hk => ?_, fun nm nm' k1 k2 hn hn' hk hk' hne => ?_⟩
  · rw [hb, if_neg (by intro e; exact hf (e ▸ hn))] at hk
    exact .inl ⟨hk, by simp⟩
  · rw [hb] at hk
    split at hk
    · rename_i e
      subst e
      injection hk with hk
      subst hk
      refine ⟨hl, ⟨Nat.le_refl _, by omega⟩, fun b hb => .inl ?_⟩
      rw [if_pos rfl] at hb
      rw [hv b hb]
      simp
    · rw [h.names nm hn] at hk; cases hk
  · rw [hb] at hk hk'
    split at hk
    · split at hk'
      · omega
      · rw [h.names nm' hn'] at hk'; cases hk'
    · rw [h.names nm hn] at hk; cases hk
/-- A box of one's own. -/
theorem Ctx.newBox (c : Ctx E ti ψ sl bl U nx a w dst) {cs : List RV} {vs : Array Value} {t : TypeId} (hl : vs.size = cs.length) (hc : ∀ (j : Nat) (r : RV), cs[j]? = some r → RVRep w (okS E bl ψ w) ψ bl r (vs.getD j undef) ∧ (∀ d, r = .val d → d.isCell = true))
    (hr : ∀ r ∈ cs, ∀ m ∈ refsR r, U m) (hR : R ⟨.box nx 0, [(nx, some (.box cs))]⟩) :
    Next E sl bl U nx dst R (a.put dst (.pointer (some ⟨w.heap.size, 0, none⟩))) (w.alloc (.cells vs t)) := by
  have st := Step.alloc c.sim (c.fresh nx (Nat.le_refl _) (by omega)) (.box cs) rfl (.pointer (some ⟨w.heap.size, 0, none⟩)) (fun b h => by injection h with h; exact h.symm) (.cells vs t)
  have hk := st.keeps c.sim
  refine ⟨_, hR, ⟨_, st.sim c.sim (fun nm k hk' hn => ?_) (fun m hm => ?_) (fun nm cs' hn hb r hr' m hm => ?_) (by simp) c.hmen c.hds ?_⟩, by simp⟩
  · rcases hn with hn | hn
    · rw [setB_cons] at hk'
      split at hk'
      · rename_i e
        subst e
        injection hk' with hk'
        subst hk'
        refine ⟨w.heap.size, vs, t, by simp [ptrBlock], c.sim.below.size, heap_alloc_new w _, hl, fun j r hj => ⟨hk.rv (hr r (List.mem_of_getElem? hj)) (hc j r hj).1, (hc j r hj).2⟩⟩
      · rw [setB_nil, c.sim.names nm hn] at hk'; cases hk'
    · cases hn
  · simp [refsS] at hm; exact .inr ⟨by omega, by omega⟩
  · rcases hn with hn | hn
    · rw [setB_cons] at hb
      split at hb
      · injection hb with hb
        injection hb with hb
        subst hb
        exact .inl (hr r hr' m hm)
      · rw [setB_nil, c.sim.names nm hn] at hb; cases hb
    · cases hn
  · intro _
    exact ⟨w.heap.size, by simp, rfl⟩
theorem zeroRV_rep {ok : Nat → Prop} (v : Value) : RVRep w ok ψ bl (zeroRV v) v ∧ (∀ d, zeroRV v = .val d → d.isCell = true) ∧ refsR (zeroRV v) = [] := by
  unfold zeroRV
  split
  · exact ⟨.int _ _, by rintro d ⟨⟩; rfl, rfl⟩
  · exact ⟨.bool _, by rintro d ⟨⟩; rfl, rfl⟩
  · split
    · rename_i s h
      exact ⟨.str _ (by omega), by rintro d ⟨⟩; rfl, rfl⟩
    · exact ⟨trivial, by rintro d ⟨⟩, rfl⟩
  · exact ⟨rfl, by rintro d ⟨⟩, rfl⟩
  · exact ⟨trivial, by rintro d ⟨⟩, rfl⟩
theorem op_alloc (hE : ∀ t i, ti t = some i → tiOf E.P t = some i) {t : TypeId} (ho : o.op = .alloc t) (c : Ctx E ti ψ sl bl U nx a w o.dst)
    (h : (ptAlloc ti nx t).All E.P E.gt R) : o.wp E.P a w (Next E sl bl U nx o.dst R) Q := by
  unfold ptAlloc at h
  split at h
  · rename_i i hi
    obtain ⟨info, z, d0, g1, g2, g3, g4, g5, g6, g7, _⟩ := ti_info hE hi
    rw [g7] at h
    have hn := c.newBox (R := R) (vs := z.cells) (t := t) (by simp) (fun j r hj => ?_) (fun r hr m hm => ?_) h
    · unfold Oper.wp
      simp [execOp, ho, Instr.alloc, zeroValue, typeInfo, g1, g3, newVar, newRow]
      exact hn
    · rw [List.getElem?_map] at hj
      obtain ⟨v, hv, rfl⟩ := Option.map_eq_some_iff.1 hj
      have hv' : z.cells.getD j undef = v := by
        rw [Array.getElem?_toList] at hv
        simp [Array.getD_eq_getD_getElem?, hv]
      rw [hv']
      exact ⟨(zeroRV_rep v).1, (zeroRV_rep (w := w) (ψ := ψ) (bl := bl) (ok := fun _ => True) v).2.1⟩
    · obtain ⟨v, _, rfl⟩ := List.mem_map.1 hr
      rw [(zeroRV_rep (w := w) (ψ := ψ) (bl := bl) (ok := fun _ => True) v).2.2] at hm
      cases hm
  · exact h.elim
theorem slice_own {r : RV} {m : Nat} {k : Blk} {v : Value} (h : SimP E ψ sl bl U a w) (hk : bl m = some k) (hb : (∃ e rows, k = .vec e rows) ∨ ∃ rows, k = .fro rows) : ∃ A n c, ψ m = .slice A n c := by
  have hr := h.blks m k hk
  rcases hb with ⟨e, rows, rfl⟩ | ⟨rows, rfl⟩
  · obtain ⟨xs, h1, h2, _⟩ := hr
    rcases h2.2 with ⟨hv, _⟩ | ⟨g, cap, cur, hv, _⟩
    · exact ⟨_, _, _, hv⟩
    · exact ⟨_, _, _, hv⟩
  · have hr : Rep w _ (ψ m) (.slice rows) := hr
    generalize ψ m = v at hr
    cases hr; exact ⟨_, _, _, rfl⟩
theorem rvCells_spec (c : SimP E ψ sl bl U a w) (hsub : Sub bl0 bl) {r : RV} {v : Value} {cs : List RV} (h : rvCells bl0 r = some cs) (hr : RVRep w (okS E bl ψ w) ψ bl r v) :
    v.cells.size = cs.length ∧ (∀ (j : Nat) (r' : RV), cs[j]? = some r' → RVRep w (okS E bl ψ w) ψ bl r' (v.cells.getD j undef) ∧ (∀ d, r' = .val d → d.isCell = true)) ∧ (∀ r' ∈ cs, refsR r' = refsR r) ∧ ∀ u ∈ v.cells, u.oneCell' = true := by
  have one : ∀ r0 : RV, (∀ d, r0 ≠ .val d) → (∃ A n c, v = .slice A n c) → RVRep w (okS E bl ψ w) ψ bl r0 v →
      v.cells.size = [r0].length ∧ (∀ (j : Nat) (r' : RV), [r0][j]? = some r' → RVRep w (okS E bl ψ w) ψ bl r' (v.cells.getD j undef) ∧ (∀ d, r' = .val d → d.isCell = true)) ∧ (∀ r' ∈ [r0], refsR r' = refsR r0) ∧ ∀ u ∈ v.cells, u.oneCell' = true := by
    rintro r0 h0 ⟨A, n, cc, rfl⟩ hr
    refine ⟨rfl, fun j r' hj => ?_, fun r' hr' => by simp at hr'; rw [hr'], fun u hu => ?_⟩
    · cases j with
      | zero =>
        simp at hj
        subst hj
        exact ⟨hr, fun d e => absurd e (h0 d)⟩
      | succ j => simp at hj
    · simp [Value.cells] at hu
      subst hu; rfl
  unfold rvCells at h
  split at h
  · rename_i d
    injection h with h
    subst h
    have hr : Rep w _ v d := hr
    obtain ⟨h1, h2, h3⟩ := hr.cells
    refine ⟨by simpa using h1, fun j r' hj => ?_, fun r' hr' => ?_, fun u hu => ?_⟩
    · rw [List.getElem?_map] at hj
      obtain ⟨e, he, rfl⟩ := Option.map_eq_some_iff.1 hj
      exact ⟨h3 j e he, fun d' hd' => by injection hd' with hd'; subst hd'; exact h2 _ (List.mem_of_getElem? he)⟩
    · obtain ⟨e, he, rfl⟩ := List.mem_map.1 hr'
      rfl
    · obtain ⟨j, hj, rfl⟩ := Array.mem_iff_getElem.1 hu
      have hjl : j < d.cells.length := by omega
      have := h3 j _ (List.getElem?_eq_getElem hjl)
      have e : v.cells.getD j undef = v.cells[j] := by simp [Array.getD_eq_getD_getElem?, hj]
      rw [e] at this
      exact (this.one (h2 _ (List.getElem_mem hjl))).2
  · rename_i m
    split at h
    · rename_i e rows hb
      injection h with h
      subst h
      obtain ⟨A, n, cc, hψ⟩ := slice_own (r := .nils) (v := undef) c (hsub _ _ hb) (.inl ⟨_, _, rfl⟩)
      exact one (.own m) (by simp) ⟨A, n, cc, (hr (name_some (hsub _ _ hb))).trans hψ⟩ hr
    · rename_i rows hb
      injection h with h
      subst h
      obtain ⟨A, n, cc, hψ⟩ := slice_own (r := .nils) (v := undef) c (hsub _ _ hb) (.inr ⟨_, rfl⟩)
      exact one (.own m) (by simp) ⟨A, n, cc, (hr (name_some (hsub _ _ hb))).trans hψ⟩ hr
    · cases h
  · injection h with h
    subst h
    exact one .nils (by simp) ⟨_, _, _, hr⟩ hr
  · cases h
theorem op_box (hE : ∀ t i, ti t = some i → tiOf E.P t = some i) (hsub : Sub bl0 bl) {t : TypeId} {x : Operand} {X : Slot} (ho : o.op = .box t x) (c : Ctx E ti ψ sl bl U nx a w o.dst) (hX : SlotRep w (okS E bl ψ w) ψ bl a.tmps X (a.eval x)) (hrf : ∀ m ∈ refsS X, U m)
    (h : (ptBoxOp ti bl0 nx t X).All E.P E.gt R) : o.wp E.P a w (Next E sl bl U nx o.dst R) Q := by
  unfold ptBoxOp at h
  cases hi : ti t with
  | none => simp only [hi, PT.All] at h
  | some i =>
    cases X with
    | rv r =>
      simp only [hi] at h
      split at h
      · rename_i cs hcs
        split at h
        · rename_i hb
          obtain ⟨h1, h2, h3, _⟩ := rvCells_spec c.sim hsub hcs (v := a.eval x) hX
          have hn := c.newBox (R := R) (t := t) h1 h2 (fun r' hr' m hm => hrf m (by rw [h3 r' hr'] at hm; exact hm)) h
          unfold Oper.wp
          simp [execOp, ho, Instr.box, newVar, newRow]
          exact hn
        · exact h.elim
      · exact h.elim
    | _ => simp only [hi, PT.All] at h
end
end Go.Eng
