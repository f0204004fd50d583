/- The engine, part 9: stores, literals, new rows. Conditions: none. -/
import Derived.Test.YtkiolflkkbfaiaaDoorEngH
set_option linter.unusedVariables false
set_option linter.unusedSimpArgs false
namespace Go.Eng
open Go.RowKit
section
variable {E : Env} {ti : TypeId → Option TI} {ψ ψ' : Nat → Value} {sl : Nat → Slot} {bl bl' bl0 : Blks} {U : Nat → Prop} {nx : Nat} {a : Act} {w w' : World} {dst : Option Nat} {o : Oper} {R : Patch → Prop} {Q : Exit → Act → World → Prop}

theorem splice_get {α : Type} {cs new : List α} {off : Nat} (h : off + new.length ≤ cs.length) (j : Nat) : (cs.take off ++ new ++ cs.drop (off + new.length))[j]? = if j < off then cs[j]? else if j < off + new.length then new[j - off]? else cs[j]? := by
  have h1 : (cs.take off).length = off := by simp; omega
  by_cases hj : j < off
  · rw [if_pos hj, List.append_assoc, List.getElem?_append_left (by omega), List.getElem?_take, if_pos hj]
  · rw [if_neg hj, List.append_assoc, List.getElem?_append_right (by omega), h1]
    by_cases hk : j < off + new.length
    · rw [if_pos hk, List.getElem?_append_left (by omega)]
    · rw [if_neg hk, List.getElem?_append_right (by omega), List.getElem?_drop]
      congr 1
      omega
theorem splice_len {α : Type} {cs new : List α} {off : Nat} (h : off + new.length ≤ cs.length) : (cs.take off ++ new ++ cs.drop (off + new.length)).length = cs.length := by
  simp; omega
theorem splice_spec {α : Type} {cs new cs' : List α} {off : Nat} (h : splice cs off new = some cs') : off + new.length ≤ cs.length ∧ cs' = cs.take off ++ new ++ cs.drop (off + new.length) := by
  unfold splice at h
  split at h
  · rename_i hb
    injection h with h
    exact ⟨Nat.le_of_ble_eq_true hb, h.symm⟩
  · cases h
theorem arr_getD {l : List Value} {j : Nat} : l.toArray.getD j undef = l[j]?.getD undef := by
  simp [Array.getD_eq_getD_getElem?]
theorem run_storeVar_at {P : Program} {t ct : TypeId} {info : TypeInfo} (hi : P.info? t = some info) {b off : Nat} {cur : Array Value} {v : Value} (hg : w.heap[b]? = some (.cells cur ct (0, 0))) (hs : v.cells.size = info.size) (hl : off + v.cells.size ≤ cur.size) (h1 : ∀ u ∈ v.cells, u.oneCell' = true) :
    (Instr.storeAt t (.pointer (some ⟨b, off, none⟩)) v).run P w = .ok () (w.setRow b (cur.toList.take off ++ v.cells.toList ++ cur.toList.drop (off + v.cells.toList.length)).toArray) := by
  have hr := run_storeCells_at (P := P) b off ct v.cells.toList 0 cur w hg (by simpa using hl) (by simpa using h1)
  simp only [Nat.add_zero] at hr
  have hs' : (Instr.sureAddr (.pointer (some ⟨b, off, none⟩))).run P w = .ok ⟨b, off, none⟩ w := by simp [Instr.sureAddr]
  have hns : ¬ (v.cells.size ≠ info.size) := fun h => h hs
  simp only [Instr.storeAt, storeVar, Sem.run_bind, hs', Result.andThen_ok, run_size hi, hns, if_false, hr, ite_false]
/-- A step that writes a block of the call's own, in place. -/
theorem Step.write (h : SimP E ψ sl bl U a w) {n : Nat} {k k' : Blk} (hk : bl n = some k) (hl : k.live = true) (hl' : k'.live = true) {b : Nat} (hb : ptrBlock (ψ n) = some b) (cs : Array Value) :
    Step ψ ψ bl (setB bl [(n, some k')]) U nx (some n) w (w.setRow b cs) := by
  have hn := h.name_lt hk
  have hB : ∀ m, setB bl [(n, some k')] m = if m = n then some k' else bl m := fun m => by rw [setB_cons]; rfl
  refine ⟨rfl, rfl, rfl, by simp, fun b' hb' hne => setRow_other w b b' cs (fun e => hne n rfl (by rw [hb, e])), fun m e => ?_, fun _ _ => rfl, fun m k1 hm hk1 => ?_, fun m k1 hm hk1 => ?_, fun m m' k1 k2 hm hm' hk1 hk2 hne => ?_⟩
  · injection e with e
    subst e
    exact ⟨k, hk, hl⟩
  · rw [hB] at hk1
    split at hk1
    · rename_i e
      injection hk1 with hk1
      subst hk1 e
      exact .inr ⟨rfl, hl'⟩
    · rename_i hne
      exact .inl ⟨hk1, fun e => hne (by injection e with e; exact e.symm)⟩
  · rw [hB, if_neg (by intro e; exact hm (e ▸ hn)), h.names m hm] at hk1; cases hk1
  · rw [hB, if_neg (by intro e; exact hm (e ▸ hn)), h.names m hm] at hk1; cases hk1
theorem op_store (hE : ∀ t i, ti t = some i → tiOf E.P t = some i) (hsub : Sub bl0 bl) {t : TypeId} {x y : Operand} {X Y : Slot} (ho : o.op = .store t x y) (c : Ctx E ti ψ sl bl U nx a w o.dst) (hX : SlotRep w (okS E bl ψ w) ψ bl a.tmps X (a.eval x)) (hY : SlotRep w (okS E bl ψ w) ψ bl a.tmps Y (a.eval y))
    (hrY : ∀ m ∈ refsS Y, U m) (h : (ptStore ti bl0 t X Y).All E.P E.gt R) : o.wp E.P a w (Next E sl bl U nx o.dst R) Q := by
  unfold ptStore at h
  cases hti : ti t with
  | none => simp only [hti, PT.All] at h
  | some i =>
    obtain ⟨info, z, d0, g1, g2, g3, g4, g5, _⟩ := ti_info hE hti
    simp only [hti] at h
    cases X with
    | box n off =>
      cases Y with
      | rv r =>
        simp only at h
        split at h
        · rename_i cs new hb hnew
          split at h
          · rename_i cs' hlen hsp
            have hb := hsub _ _ hb
            obtain ⟨r1, r2, r3, r4⟩ := rvCells_spec c.sim hsub hnew (v := a.eval y) hY
            obtain ⟨b, vs, ct, b1, b2, b3, b4, b5⟩ := c.sim.blks n _ hb
            obtain ⟨b', e1, e2⟩ := hX (name_some hb)
            rw [b1] at e1
            injection e1 with e1
            injection e1 with e1
            injection e1 with e1
            subst e1
            obtain ⟨s1, rfl⟩ := splice_spec hsp
            have hbeq := Nat.eq_of_beq_eq_true hlen
            have hrun := run_storeVar_at (P := E.P) (off := off) (v := a.eval y) g1 b3 (by rw [r1, hbeq, g5]) (by rw [r1, b4]; omega) r4
            have hst := Step.write (nx := nx) c.sim (k' := .box (cs.take off ++ new ++ cs.drop (off + new.length))) hb rfl rfl (b := b) (by rw [b1]; rfl) (vs.toList.take off ++ (a.eval y).cells.toList ++ vs.toList.drop (off + (a.eval y).cells.toList.length)).toArray
            have hkp := hst.keeps c.sim
            refine wp_skipv (w' := _) ?_ ⟨_, h, ⟨_, hst.sim c.sim (fun nm k hk hn => ?_) (fun m hm => (by cases hm)) (fun nm cs1 hn hk r' hr' m hm => ?_) (by simp) c.hmen c.hds trivial⟩, by simp⟩
            · simp [execOp, ho, e2, hrun]
            · rcases hn with hn | hn
              · rw [setB_cons] at hk
                split at hk
                · rename_i he; exact absurd (c.sim.name_lt hb) (by simp only at he; rw [← he]; exact hn)
                · rw [setB_nil, c.sim.names nm hn] at hk; cases hk
              · injection hn with hn
                subst hn
                rw [setB_cons, if_pos rfl] at hk
                injection hk with hk
                subst hk
                have hl2 : (a.eval y).cells.toList.length = new.length := by simpa using r1
                have hvl : off + (a.eval y).cells.toList.length ≤ vs.toList.length := by rw [hl2]; simp; omega
                refine ⟨b, _, ct, b1, b2, setRow_heap w b vs _ ct (0, 0) b3, ?_, fun j r' hj => ?_⟩
                · simp only [List.size_toArray]
                  rw [splice_len hvl, splice_len s1]
                  simpa using b4
                · rw [arr_getD, splice_get hvl j]
                  rw [splice_get s1, ← hl2] at hj
                  split at hj
                  · rename_i hlt
                    rw [if_pos hlt]
                    have := b5 j r' hj
                    refine ⟨hkp.rv (c.sim.brefs n cs hb r' (List.mem_of_getElem? hj)) ?_, this.2⟩
                    simpa [Array.getD_eq_getD_getElem?] using this.1
                  · rename_i hlt
                    rw [if_neg hlt]
                    split at hj
                    · rename_i hlt2
                      rw [if_pos hlt2]
                      have := r2 (j - off) r' hj
                      refine ⟨hkp.rv (fun m hm => hrY m (by rw [r3 r' (List.mem_of_getElem? hj)] at hm; exact hm)) ?_, this.2⟩
                      simpa [Array.getD_eq_getD_getElem?] using this.1
                    · rename_i hlt2
                      rw [if_neg hlt2]
                      have := b5 j r' hj
                      refine ⟨hkp.rv (c.sim.brefs n cs hb r' (List.mem_of_getElem? hj)) ?_, this.2⟩
                      simpa [Array.getD_eq_getD_getElem?] using this.1
            · rcases hn with hn | hn
              · rw [setB_cons] at hk
                split at hk
                · rename_i he; exact absurd (c.sim.name_lt hb) (by simp only at he; rw [← he]; exact hn)
                · rw [setB_nil, c.sim.names nm hn] at hk; cases hk
              · injection hn with hn
                subst hn
                rw [setB_cons, if_pos rfl] at hk
                injection hk with hk
                injection hk with hk
                subst hk
                rcases List.mem_append.1 hr' with hr' | hr'
                · rcases List.mem_append.1 hr' with hr' | hr'
                  · exact .inl (c.sim.brefs n cs hb r' (List.mem_of_mem_take hr') m hm)
                  · exact .inl (hrY m (by rw [r3 r' hr'] at hm; exact hm))
                · exact .inl (c.sim.brefs n cs hb r' (List.mem_of_mem_drop hr') m hm)
          · exact h.elim
        · exact h.elim
      | _ => simp only [PT.All] at h
    | vel n j sz off =>
      cases Y with
      | rv r =>
        cases r with
        | val d =>
          simp only at h
          split at h
          · rename_i e rows hb
            split at h
            · rename_i hlen
              obtain ⟨cs, hcs, h⟩ := h
              dsimp only at h
              split at h
              · rename_i cs' hsz hsp
                have hb := hsub _ _ hb
                have hY : Rep w (okS E bl ψ w) (a.eval y) d := hY
                obtain ⟨r1, r2, r3⟩ := hY.cells
                obtain ⟨xs, b1, b2, b3, b4, b5⟩ := c.sim.blks n _ hb
                obtain ⟨b, nn, cc, e1, e2⟩ := hX (name_some hb)
                rcases b2.2 with ⟨hv, _⟩ | ⟨g, cap, cur, hv, hbg, hg, hnc, hcm, hcz, htake⟩
                · rw [e1] at hv; cases hv
                rw [e1] at hv
                injection hv with hv hv2 hv3
                injection hv with hv
                injection hv with hv
                subst hv hv2 hv3
                obtain ⟨s1, rfl⟩ := splice_spec hsp
                have hsz := Nat.eq_of_beq_eq_true hsz
                have hS : cs.length = szOf E.P e := b3 cs (List.mem_of_getElem? hcs)
                have hjr := (List.getElem?_eq_some_iff.1 hcs).1
                have hj1 : (j + 1) * szOf E.P e ≤ rows.length * szOf E.P e := Nat.mul_le_mul_right _ hjr
                have hj2 : rows.length * szOf E.P e ≤ cc * szOf E.P e := Nat.mul_le_mul_right _ hnc
                rw [Nat.add_mul, Nat.one_mul] at hj1
                have hszS : sz = szOf E.P e := by omega
                subst hszS
                have hbeq := Nat.eq_of_beq_eq_true hlen
                have hl2 : (a.eval y).cells.toList.length = d.cells.length := by simpa using r1
                have hone : ∀ u ∈ (a.eval y).cells, u.oneCell' = true := by
                  intro u hu
                  obtain ⟨q, hq, rfl⟩ := Array.mem_iff_getElem.1 hu
                  have hql : q < d.cells.length := by omega
                  have h3 := r3 q _ (List.getElem?_eq_getElem hql)
                  have e : (a.eval y).cells.getD q undef = (a.eval y).cells[q] := by simp [Array.getD_eq_getD_getElem?, hq]
                  rw [e] at h3
                  exact (h3.one (r2 _ (List.getElem_mem hql))).2
                have hrun := run_storeVar_at (P := E.P) (off := j * szOf E.P e + off) (v := a.eval y) g1 hg (by rw [r1, hbeq, g5]) (by rw [r1, hcz]; omega) hone
                have hst := Step.write (nx := nx) c.sim (k' := .vec e (rows.set j (cs.take off ++ d.cells ++ cs.drop (off + d.cells.length)))) hb rfl rfl (b := b) (by rw [e1]; rfl) (cur.toList.take (j * szOf E.P e + off) ++ (a.eval y).cells.toList ++ cur.toList.drop (j * szOf E.P e + off + (a.eval y).cells.toList.length)).toArray
                have hkp := hst.keeps c.sim
                have hcl : j * szOf E.P e + off + (a.eval y).cells.toList.length ≤ cur.toList.length := by rw [hl2]; simp only [Array.length_toList, hcz]; omega
                have hxl : xs.length = rows.length * szOf E.P e := b2.1
                have hxl2 : j * szOf E.P e + off + (a.eval y).cells.toList.length ≤ xs.length := by rw [hl2, hxl]; omega
                refine wp_skipv (w' := _) ?_ ⟨_, h, ⟨_, hst.sim c.sim (fun nm k hk hn => ?_) (fun m hm => (by cases hm)) (fun nm cs1 hn hk r' hr' m hm => ?_) (by simp) c.hmen c.hds trivial⟩, by simp⟩
                · simp [execOp, ho, e2, hrun]
                · rcases hn with hn | hn
                  · rw [setB_cons] at hk
                    split at hk
                    · rename_i he; exact absurd (c.sim.name_lt hb) (by simp only at he; rw [← he]; exact hn)
                    · rw [setB_nil, c.sim.names nm hn] at hk; cases hk
                  · injection hn with hn
                    subst hn
                    rw [setB_cons, if_pos rfl] at hk
                    injection hk with hk
                    subst hk
                    refine ⟨xs.take (j * szOf E.P e + off) ++ (a.eval y).cells.toList ++ xs.drop (j * szOf E.P e + off + (a.eval y).cells.toList.length), b1, ⟨?_, .inr ⟨b, cc, _, ?_, hbg, setRow_heap w b cur _ e (0, 0) hg, ?_, hcm, ?_, ?_⟩⟩, fun r hr => ?_, fun r hr d' hd' => ?_, fun i r q d' hi hq => ?_⟩
                    · rw [splice_len hxl2, hxl]; simp
                    · rw [e1]; simp
                    · simpa using hnc
                    · simp only [List.size_toArray]
                      rw [splice_len hcl]
                      simpa using hcz
                    · apply List.ext_getElem?
                      intro q
                      simp only [List.length_set]
                      rw [List.getElem?_take, splice_get hxl2, splice_get hcl, ← htake, List.getElem?_take]
                      by_cases hq : q < rows.length * szOf E.P e
                      · simp only [if_pos hq]
                      · rw [if_neg hq, if_neg hq, if_neg (by omega), if_neg (by rw [hl2]; omega)]
                    · rcases List.mem_or_eq_of_mem_set hr with hr | rfl
                      · exact b3 r hr
                      · rw [splice_len s1, hS]
                    · rcases List.mem_or_eq_of_mem_set hr with hr | rfl
                      · exact b4 r hr d' hd'
                      · rcases List.mem_append.1 hd' with hd' | hd'
                        · rcases List.mem_append.1 hd' with hd' | hd'
                          · exact b4 cs (List.mem_of_getElem? hcs) d' (List.mem_of_mem_take hd')
                          · exact r2 d' hd'
                        · exact b4 cs (List.mem_of_getElem? hcs) d' (List.mem_of_mem_drop hd')
                    · have old : ∀ (r0 : List D), rows[i]? = some r0 → r0[q]? = some d' → (i = j → q < off ∨ off + d.cells.length ≤ q) → ∃ u, (xs.take (j * szOf E.P e + off) ++ (a.eval y).cells.toList ++ xs.drop (j * szOf E.P e + off + (a.eval y).cells.toList.length))[i * szOf E.P e + q]? = some u ∧ Rep (w.setRow b (cur.toList.take (j * szOf E.P e + off) ++ (a.eval y).cells.toList ++ cur.toList.drop (j * szOf E.P e + off + (a.eval y).cells.toList.length)).toArray) (okS E (setB bl [(n, some (.vec e (rows.set j (cs.take off ++ d.cells ++ cs.drop (off + d.cells.length)))))]) ψ (w.setRow b (cur.toList.take (j * szOf E.P e + off) ++ (a.eval y).cells.toList ++ cur.toList.drop (j * szOf E.P e + off + (a.eval y).cells.toList.length)).toArray)) u d' := by
                        intro r0 h0 hq0 hne
                        obtain ⟨u, hu1, hu2⟩ := b5 i r0 q d' h0 hq0
                        refine ⟨u, ?_, hkp.rep hu2⟩
                        have hqS : q < szOf E.P e := by rw [← b3 r0 (List.mem_of_getElem? h0)]; exact (List.getElem?_eq_some_iff.1 hq0).1
                        rw [splice_get hxl2, hl2]
                        by_cases hij : i = j
                        · subst hij
                          rcases hne rfl with h5 | h5
                          · rw [if_pos (by omega)]; exact hu1
                          · rw [if_neg (by omega), if_neg (by omega)]; exact hu1
                        · rcases Nat.lt_or_gt_of_ne hij with h5 | h5
                          · have : (i + 1) * szOf E.P e ≤ j * szOf E.P e := Nat.mul_le_mul_right _ h5
                            rw [Nat.add_mul, Nat.one_mul] at this
                            rw [if_pos (by omega)]; exact hu1
                          · have : (j + 1) * szOf E.P e ≤ i * szOf E.P e := Nat.mul_le_mul_right _ h5
                            rw [Nat.add_mul, Nat.one_mul] at this
                            rw [if_neg (by omega), if_neg (by omega)]; exact hu1
                      rw [List.getElem?_set] at hi
                      split at hi
                      · rename_i hij
                        subst hij
                        injection hi with hi
                        subst hi
                        rw [splice_get s1] at hq
                        split at hq
                        · rename_i h5
                          exact old cs hcs hq (fun _ => .inl h5)
                        · rename_i h5
                          split at hq
                          · rename_i h6
                            have h3 := r3 (q - off) d' hq
                            have hlt : q - off < (a.eval y).cells.size := by rw [r1]; exact (List.getElem?_eq_some_iff.1 hq).1
                            refine ⟨(a.eval y).cells.getD (q - off) undef, ?_, hkp.rep h3⟩
                            rw [splice_get hxl2, hl2, if_neg (by omega), if_pos (by omega), show j * szOf E.P e + q - (j * szOf E.P e + off) = q - off by omega]
                            simp [Array.getD_eq_getD_getElem?, hlt]
                          · exact old cs hcs hq (fun _ => .inr (by omega))
                      · rename_i hij
                        exact old r hi hq (fun e => absurd e.symm hij)
                · rcases hn with hn | hn
                  · rw [setB_cons] at hk
                    split at hk
                    · rename_i he; exact absurd (c.sim.name_lt hb) (by simp only at he; rw [← he]; exact hn)
                    · rw [setB_nil, c.sim.names nm hn] at hk; cases hk
                  · injection hn with hn
                    subst hn
                    rw [setB_cons, if_pos rfl] at hk
                    injection hk with hk
                    cases hk
              · exact h.elim
            · exact h.elim
          · exact h.elim
        | _ => simp only [PT.All] at h
      | _ => simp only [PT.All] at h
    | _ => cases Y <;> simp only [PT.All] at h
end
end Go.Eng
