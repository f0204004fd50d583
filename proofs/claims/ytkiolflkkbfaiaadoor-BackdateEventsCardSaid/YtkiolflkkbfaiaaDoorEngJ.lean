/- The engine, part 10: new rows, literals, appends. Conditions: none. -/
import Derived.Test.YtkiolflkkbfaiaaDoorEngI
set_option linter.unusedVariables false
set_option linter.unusedSimpArgs false
namespace Go.Eng
open Go.RowKit
section
variable {E : Env} {ti : TypeId → Option TI} {ψ ψ' : Nat → Value} {sl : Nat → Slot} {bl bl' bl0 : Blks} {U : Nat → Prop} {nx : Nat} {a : Act} {w w' : World} {dst : Option Nat} {o : Oper} {R : Patch → Prop} {Q : Exit → Act → World → Prop}

theorem Step.fresh (h : SimP E ψ sl bl U a w) (hf : ¬ U nx) (k : Blk) (hl : k.live = true) (v : Value) (hg : w.grownBy w' none) (hv : ∀ b, ptrBlock v = some b → w.heap.size ≤ b ∧ b < w'.heap.size) :
    Step ψ (fun n => if n = nx then v else ψ n) bl (setB bl [(nx, some k)]) U nx none w w' := by
  have hb : ∀ n, setB bl [(nx, some k)] n = if n = nx then some k else bl n := fun n => by rw [setB_cons]; rfl
  refine ⟨hg.os, hg.tape, hg.output, hg.size, fun b hb _ => hg.block b hb (by simp), fun m e => (by cases e), fun nm hn => if_neg (by intro e; exact hf (e ▸ hn)), fun nm k' hn hk => ?_, fun nm k' hn hk => ?_, fun nm nm' k1 k2 hn hn' hk hk' hne => ?_⟩
  · rw [hb, if_neg (by intro e; exact hf (e ▸ hn))] at hk
    exact .inl ⟨hk, by simp⟩
  · rw [hb] at hk
    split at hk
    · rename_i e
      subst e
      injection hk with hk
      subst hk
      refine ⟨hl, ⟨Nat.le_refl _, by omega⟩, fun b hb => .inl ?_⟩
      rw [if_pos rfl] at hb
      exact hv b hb
    · rw [h.names nm hn] at hk; cases hk
  · rw [hb] at hk hk'
    split at hk
    · split at hk'
      · omega
      · rw [h.names nm' hn'] at hk'; cases hk'
    · rw [h.names nm hn] at hk; cases hk
theorem owns_block {base : Nat} {e : TypeId} {size n : Nat} {v : Value} {xs : List Value} (h : w.ownsRow base e size v n xs) {b : Nat} (hb : ptrBlock v = some b) : base ≤ b ∧ b < w.heap.size := by
  rcases h.2 with ⟨hv, _⟩ | ⟨g, cap, cur, hv, hbg, hg, _⟩
  · rw [hv] at hb; cases hb
  · rw [hv] at hb
    injection hb with hb
    subst hb
    exact ⟨hbg, (Array.getElem?_eq_some_iff.1 hg).1⟩
theorem SimP.newVec (h : SimP E ψ sl bl U a w) (hf : ¬ U nx) (hg : w.grownBy w' none) {e : TypeId} {rows : List (List D)} {xs : List Value} {v : Value} (hsz : 0 < szOf E.P e) (hown : w'.ownsRow E.w0.heap.size e (szOf E.P e) v rows.length xs)
    (hvb : ∀ b, ptrBlock v = some b → w.heap.size ≤ b) (hw : ∀ r ∈ rows, r.length = szOf E.P e) (hc : ∀ r ∈ rows, ∀ d ∈ r, d.isCell = true)
    (hr : ∀ (i : Nat) (r : List D) (j : Nat) (d : D), rows[i]? = some r → r[j]? = some d → ∃ u, xs[i * szOf E.P e + j]? = some u ∧ Rep w (okS E bl ψ w) u d)
    (hmen : ∀ d, dst = some d → ∀ i l s', sl i = .gval l s' → ∀ x ∈ l, x.1 ≠ d) (hds : ∀ d, dst = some d → d < E.n) :
    SimP E (fun n => if n = nx then v else ψ n) (setS sl dst (.rv (.own nx))) (setB bl [(nx, some (.vec e rows))]) (Un U nx) (a.put dst v) w' := by
  have st := Step.fresh h hf (.vec e rows) rfl v hg (fun b hb => ⟨hvb b hb, (owns_block hown hb).2⟩)
  have hk := st.keeps h
  refine st.sim h (fun nm k hk' hn => ?_) (fun m hm => ?_) (fun nm cs' hn hb r hr' m hm => ?_) (by simp) hmen hds ?_
  · rcases hn with hn | hn
    · rw [setB_cons] at hk'
      split at hk'
      · rename_i e'
        simp only at e'
        subst e'
        injection hk' with hk'
        subst hk'
        refine ⟨xs, hsz, by simpa using hown, hw, hc, fun i r j d hi hj => ?_⟩
        obtain ⟨u, h1, h2⟩ := hr i r j d hi hj
        exact ⟨u, h1, hk.rep h2⟩
      · rw [setB_nil, h.names nm hn] at hk'; cases hk'
    · cases hn
  · simp [refsS, refsR] at hm; exact .inr ⟨by omega, by omega⟩
  · rcases hn with hn | hn
    · rw [setB_cons] at hb
      split at hb
      · injection hb with hb
        cases hb
      · rw [setB_nil, h.names nm hn] at hb; cases hb
    · cases hn
  · intro _
    simp
theorem grown_refl (w : World) (r : Option Nat) : w.grownBy w r := ⟨rfl, rfl, rfl, Nat.le_refl _, fun _ _ _ => rfl⟩
theorem op_assign (hE : ∀ t i, ti t = some i → tiOf E.P t = some i) {x : Operand} {X : Slot} (ho : o.op = .assign x) (c : Ctx E ti ψ sl bl U nx a w o.dst) (hX : SlotRep w (okS E bl ψ w) ψ bl a.tmps X (a.eval x)) (hr : ∀ m ∈ refsS X, U m)
    (h : (ptAssign ti nx o.type X).All E.P E.gt R) : o.wp E.P a w (Next E sl bl U nx o.dst R) Q := by
  have plain : (∀ l s, X ≠ .gval l s) → R ⟨X, []⟩ → o.wp E.P a w (Next E sl bl U nx o.dst R) Q := fun hg h =>
    wp_val (v := a.eval x) (by simp [execOp, ho]) (c.pure h hr hg hX)
  unfold ptAssign at h
  split at h
  · split at h
    · rename_i i hi
      obtain ⟨info, z, d0, g1, g2, g3, g4, g5, _⟩ := ti_info hE hi
      split at h
      · rename_i e hk
        split at h
        · rename_i ie hie
          obtain ⟨info', z', d0', k1, k2, k3, k4, k5, _⟩ := ti_info hE hie
          split at h
          · rename_i hsz
            have hsz := Nat.le_of_ble_eq_true hsz
            have hS : szOf E.P e = ie.size := by rw [szOf_info k1, k5]
            have hv : a.eval x = .slice none 0 0 := hX
            refine wp_val (v := .slice none 0 0) (by simp [execOp, ho, hv]) ⟨_, h, ⟨_, c.sim.newVec (c.fresh nx (Nat.le_refl _) (by omega)) (v := .slice none 0 0) (xs := []) (grown_refl w none) (by omega) (World.ownsRow_nil w _ e _) (fun b hb => by cases hb) (by simp) (by simp) (fun i r j d hi => by simp at hi) c.hmen c.hds⟩, by simp⟩
          · exact h.elim
        · exact h.elim
      · exact h.elim
    · exact h.elim
  · exact h.elim
  · rename_i hng
    exact plain (fun l s e => hng l s e) h

/-! ### Literals -/
theorem zero_rep {ok : Nat → Prop} {v : Value} {d : D} {q : Pch} (h : toD bl (zeroRV v) = some (d, q)) : Rep w ok v d ∧ q = [] := by
  unfold zeroRV at h
  split at h
  · simp [toD] at h; obtain ⟨rfl, rfl⟩ := h; exact ⟨.int _ _, rfl⟩
  · simp [toD] at h; obtain ⟨rfl, rfl⟩ := h; exact ⟨.bool _, rfl⟩
  · split at h
    · rename_i hs
      simp [toD] at h; obtain ⟨rfl, rfl⟩ := h; exact ⟨.str _ (by omega), rfl⟩
    · simp [toD] at h
  · simp [toD] at h
    obtain ⟨rfl, rfl⟩ := h
    exact ⟨.slice none 0 0 [] 0 ⟨0, 0, none⟩ (fun _ _ => undef) rfl (Nat.le_refl _) (by omega) (by simp) (by simp) (fun h => by omega) (fun i r j d hi => by simp at hi) (fun i r j d hi => by simp at hi), rfl⟩
  · simp [toD] at h
theorem zero_cells {ok : Nat → Prop} {z : Value} {ds : List D} {q : Pch} (h : cellsD bl (z.cells.toList.map zeroRV) = some (ds, q)) :
    z.cells.size = ds.length ∧ (∀ d ∈ ds, d.isCell = true) ∧ ∀ (j : Nat) (d : D), ds[j]? = some d → Rep w ok (z.cells.getD j undef) d := by
  obtain ⟨h1, h2, h3⟩ := cellsD_spec h
  refine ⟨by simp at h2; omega, h1, fun j d hj => ?_⟩
  obtain ⟨r, q', hr, hd, _⟩ := h3 j d hj
  rw [List.getElem?_map] at hr
  obtain ⟨v, hv, rfl⟩ := Option.map_eq_some_iff.1 hr
  have hv' : z.cells.getD j undef = v := by
    rw [Array.getElem?_toList] at hv
    simp [Array.getD_eq_getD_getElem?, hv]
  rw [hv']
  exact (zero_rep hd).1
theorem fold_set (off : Nat) : ∀ (l : List Value) (k : Nat) (cells : Array Value), off + k + l.length ≤ cells.size →
    ((l.zipIdx k).foldl (fun cs (c, j) => cs.setIfInBounds (off + j) c) cells).size = cells.size ∧
    ∀ j : Nat, ((l.zipIdx k).foldl (fun cs (c, j) => cs.setIfInBounds (off + j) c) cells)[j]? = if j < off + k then cells[j]? else if j < off + k + l.length then l[j - (off + k)]? else cells[j]?
  | [], k, cells, h => ⟨rfl, fun j => by
      simp only [List.zipIdx_nil, List.foldl_nil, List.length_nil, Nat.add_zero]
      by_cases hj : j < off + k <;> simp [hj]⟩
  | v :: l, k, cells, h => by
    simp only [List.zipIdx_cons, List.foldl_cons]
    simp only [List.length_cons] at h
    obtain ⟨i1, i2⟩ := fold_set off l (k + 1) (cells.setIfInBounds (off + k) v) (by simp; omega)
    refine ⟨by rw [i1]; simp, fun j => ?_⟩
    rw [i2 j]
    simp only [List.length_cons]
    by_cases h1 : j < off + k
    · rw [if_pos (by omega), if_pos h1, Array.getElem?_setIfInBounds_ne (by omega)]
    · rw [if_neg h1]
      by_cases h2 : j = off + k
      · subst h2
        rw [if_pos (by omega), if_pos (by omega), Array.getElem?_setIfInBounds_self_of_lt (by omega)]
        simp
      · rw [if_neg (by omega)]
        by_cases h3 : j < off + k + (l.length + 1)
        · rw [if_pos (by omega), if_pos h3, show j - (off + k) = (j - (off + (k + 1))) + 1 by omega]
          simp
        · rw [if_neg (by omega), if_neg h3, Array.getElem?_setIfInBounds_ne (by omega)]
theorem fillD_frz (hsub : Sub bl0 bl) (place : Nat → Option (Nat × Nat)) : ∀ (ps : List (Nat × Slot)) (cs ds : List D) (q : Pch), fillD bl0 place cs ps = some (ds, q) → Frz bl q
  | [], cs, ds, q, h => by simp [fillD] at h; rw [h.2]; exact Frz.nil
  | (i, s) :: ps, cs, ds, q, h => by
    unfold fillD at h
    split at h
    · rename_i off sz d p hpl hv
      split at h
      · split at h
        · rename_i cs' _ _ r q' hrec
          simp at h
          obtain ⟨rfl, rfl⟩ := h
          obtain ⟨rr, _, hd⟩ := valsOf_spec hsub hv
          exact (toD_frz hd).append (fillD_frz hsub place ps _ _ _ hrec)
        · cases h
      · cases h
    · cases h
theorem fill_rep (h : SimP E ψ sl bl U a w) (hsub : Sub bl0 bl) {p : Pch} (hp : Frz bl p) (place : Nat → Option (Nat × Nat)) (f : Operand → Slot) (g : Operand → Value) : ∀ (ps : List (Nat × Operand)) (cs ds : List D) (q : Pch) (vs : Array Value),
    (∀ x ∈ ps, SlotRep w (okS E bl ψ w) ψ bl a.tmps (f x.2) (g x.2)) → fillD bl0 place cs (ps.map fun x => (x.1, f x.2)) = some (ds, q) → (∀ y ∈ q, y ∈ p) →
    vs.size = cs.length → (∀ d ∈ cs, d.isCell = true) → (∀ (j : Nat) (d : D), cs[j]? = some d → Rep w (okS E (setB bl p) ψ w) (vs.getD j undef) d) →
    ∃ vs', Instr.fill place vs (ps.map fun x => (x.1, g x.2)) = some vs' ∧ vs'.size = ds.length ∧ (∀ d ∈ ds, d.isCell = true) ∧ (∀ (j : Nat) (d : D), ds[j]? = some d → Rep w (okS E (setB bl p) ψ w) (vs'.getD j undef) d) ∧ ds.length = cs.length
  | [], cs, ds, q, vs, _, hf, _, hl, hc, hr => by
    simp [fillD] at hf
    obtain ⟨rfl, rfl⟩ := hf
    exact ⟨vs, rfl, hl, hc, hr, rfl⟩
  | (i, x) :: ps, cs, ds, q, vs, hx, hf, hq, hl, hc, hr => by
    simp only [List.map_cons] at hf ⊢
    unfold fillD at hf
    split at hf
    · rename_i off sz d p' hpl hv
      split at hf
      · rename_i cs' hlen hsp
        split at hf
        · rename_i r q' hrec
          simp at hf
          obtain ⟨rfl, rfl⟩ := hf
          obtain ⟨rr, hfx, hd⟩ := valsOf_spec hsub hv
          have hxr := hx (i, x) (by simp)
          simp only at hxr
          rw [hfx] at hxr
          have hrep := h.toD hp hd (fun y hy => hq y (List.mem_append_left _ hy)) hxr
          obtain ⟨r1, r2, r3⟩ := hrep.cells
          obtain ⟨s1, rfl⟩ := splice_spec hsp
          have hlen := Nat.eq_of_beq_eq_true hlen
          obtain ⟨f1, f2⟩ := fold_set off (g x).cells.toList 0 vs (by simp; omega)
          have hz : (g x).cells.zipIdx.foldl (fun cs (c, j) => cs.setIfInBounds (off + j) c) vs = ((g x).cells.toList.zipIdx 0).foldl (fun cs (c, j) => cs.setIfInBounds (off + j) c) vs := by
            rw [← Array.foldl_toList, Array.toList_zipIdx]
          obtain ⟨vs', i1, i2, i3, i4, i5⟩ := fill_rep h hsub hp place f g ps _ _ _ (((g x).cells.toList.zipIdx 0).foldl (fun cs (c, j) => cs.setIfInBounds (off + j) c) vs) (fun y hy => hx y (List.mem_cons_of_mem _ hy)) hrec (fun y hy => hq y (List.mem_append_right _ hy))
            (by rw [f1, splice_len s1, hl]) (fun d' hd' => by
              rcases List.mem_append.1 hd' with hd' | hd'
              · rcases List.mem_append.1 hd' with hd' | hd'
                · exact hc d' (List.mem_of_mem_take hd')
                · exact r2 d' hd'
              · exact hc d' (List.mem_of_mem_drop hd')) (fun j d' hj => by
              have hlc : (g x).cells.toList.length = d.cells.length := by simpa using r1
              rw [splice_get s1] at hj
              rw [Array.getD_eq_getD_getElem?, f2 j, hlc, Nat.add_zero]
              split at hj
              · rename_i h1
                rw [if_pos h1]
                have := hr j d' hj
                rwa [Array.getD_eq_getD_getElem?] at this
              · rename_i h1
                rw [if_neg h1]
                split at hj
                · rename_i h2
                  rw [if_pos h2]
                  have := r3 _ d' hj
                  rw [Array.getD_eq_getD_getElem?] at this
                  simpa using this
                · rename_i h2
                  rw [if_neg h2]
                  have := hr j d' hj
                  rwa [Array.getD_eq_getD_getElem?] at this)
          refine ⟨vs', ?_, i2, i3, i4, by rw [i5, splice_len s1]⟩
          unfold Instr.fill
          simp only [hpl]
          rw [if_neg (by simp; omega), hz]
          exact i1
        · cases hf
      · cases hf
    · cases hf
end
end Go.Eng
