/- The engine, part 11: literals, make, append, closures as operations. Conditions: none. -/
import Derived.Test.YtkiolflkkbfaiaaDoorEngJ
set_option linter.unusedVariables false
set_option linter.unusedSimpArgs false
namespace Go.Eng
open Go.RowKit
section
variable {E : Env} {ti : TypeId → Option TI} {ψ ψ' : Nat → Value} {sl : Nat → Slot} {bl bl' bl0 : Blks} {U : Nat → Prop} {nx : Nat} {a : Act} {w w' : World} {dst : Option Nat} {o : Oper} {R : Patch → Prop} {Q : Exit → Act → World → Prop}

theorem places_some {fields : List Field} (h : ∀ f ∈ fields, (E.P.info? f.type).isSome = true) : fields.mapM (fun f => (E.P.info? f.type).map fun i => (f.offset, i.size)) = some (fields.map fun f => (f.offset, szOf E.P f.type)) := by
  induction fields with
  | nil => rfl
  | cons f fs ih =>
    obtain ⟨i, hi⟩ := Option.isSome_iff_exists.1 (h f (by simp))
    rw [List.mapM_cons, ih (fun g hg => h g (by simp [hg]))]
    simp [hi, szOf_info hi]
theorem op_build (hE : ∀ t i, ti t = some i → tiOf E.P t = some i) (hsub : Sub bl0 bl) {t : TypeId} {ps : Array (Nat × Operand)} {f : Operand → Slot} (ho : o.op = .build t ps) (c : Ctx E ti ψ sl bl U nx a w o.dst) (hX : ∀ x ∈ ps.toList, SlotRep w (okS E bl ψ w) ψ bl a.tmps (f x.2) (a.eval x.2))
    (h : (ptBuild ti bl0 t (ps.toList.map fun p => (p.1, f p.2))).All E.P E.gt R) : o.wp E.P a w (Next E sl bl U nx o.dst R) Q := by
  unfold ptBuild at h
  cases hti : ti t with
  | none => simp only [hti, PT.All] at h
  | some i =>
    obtain ⟨info, z, d0, g1, g2, g3, g4, g5, g6, g7, _⟩ := ti_info hE hti
    simp only [hti] at h
    split at h
    · rename_i zs q0 hz
      rw [g7] at hz
      obtain ⟨z1, z2, z3⟩ := zero_cells (w := w) (ok := fun _ => False) hz
      have fin : ∀ (place : Nat → Option (Nat × Nat)) ds p, fillD bl0 place zs (ps.toList.map fun p => (p.1, f p.2)) = some (ds, p) → R ⟨.rv (.val (.agg ds)), p⟩ → (∀ vs', Instr.fill place z.cells (ps.toList.map fun x => (x.1, a.eval x.2)) = some vs' → E.P.built t (ps.toList.map fun x => (x.1, a.eval x.2)) = some vs') → o.wp E.P a w (Next E sl bl U nx o.dst R) Q := by
        intro place ds p hf hR hb
        have hp := fillD_frz hsub place _ _ _ _ hf
        obtain ⟨vs', v1, v2, v3, v4, _⟩ := fill_rep c.sim hsub hp place f a.eval ps.toList zs ds p z.cells hX hf (fun y hy => hy) z1 z2 (fun j d hj => (z3 j d hj).mono (fun b hb => hb.elim) (fun b hb => hb.elim))
        have hrun := run_build (P := E.P) w t (ps.map fun x => (x.1, a.eval x.2)) vs' (by simpa using hb vs' v1)
        refine wp_val (v := .agg vs') ?_ (c.pureFrz hp hR (fun m hm => by cases hm) (by simp) (Rep.agg _ _ v2 v3 v4))
        simp [execOp, ho, hrun]
      split at h
      · rename_i fs hk
        obtain ⟨fields, hu, hfs⟩ := kind_struct (g4 ▸ hk)
        split at h
        · rename_i ds p hall hf
          refine fin _ _ _ hf h (fun vs' hv => ?_)
          have hall' : ∀ f ∈ fields.toList, (E.P.info? f.type).isSome = true := by
            intro fl hfl
            have h1 : (ti fl.type).isSome = true := by
              refine allB_mem (p := fun f => (ti f.1).isSome) hall (fl.type, fl.offset, szOf E.P fl.type) ?_
              rw [hfs]
              exact List.mem_map.2 ⟨fl, hfl, rfl⟩
            obtain ⟨ie, hie⟩ := Option.isSome_iff_exists.1 h1
            obtain ⟨info', _, _, k1, _⟩ := ti_info hE hie
            rw [k1]; rfl
          unfold Program.built
          simp only [g1, hu, g3, places_some hall']
          rw [← hv]
          congr 1
          funext j
          simp only [placeS, hfs, List.getElem?_toArray, List.getElem?_map]
          cases fields.toList[j]? <;> rfl
        · exact h.elim
      · rename_i n e hk
        have hu := kind_array (g4 ▸ hk)
        split at h
        · rename_i ie hie
          obtain ⟨info', z', d0', k1, k2, k3, k4, k5, _⟩ := ti_info hE hie
          split at h
          · rename_i ds p hf
            refine fin _ _ _ hf h (fun vs' hv => ?_)
            unfold Program.built
            simp only [g1, hu, g3, k1]
            rw [← k5]
            exact hv
          · exact h.elim
        · exact h.elim
      · exact h.elim
    · exact h.elim
/-! #### Rows out of a run of cells -/
theorem chunk_spec (S : Nat) (hS : 0 < S) : ∀ (n : Nat) (cs : List D), cs.length = n * S → (chunk S n cs).length = n ∧ (∀ r ∈ chunk S n cs, r.length = S ∧ ∀ d ∈ r, d ∈ cs) ∧ ∀ (i : Nat) (r : List D) (j : Nat) (d : D), (chunk S n cs)[i]? = some r → r[j]? = some d → cs[i * S + j]? = some d
  | 0, cs, h => ⟨rfl, fun r hr => (by cases hr), fun i r j d hi => by simp [chunk] at hi⟩
  | n + 1, cs, h => by
    rw [Nat.add_mul, Nat.one_mul] at h
    obtain ⟨i1, i2, i3⟩ := chunk_spec S hS n (cs.drop S) (by simp; omega)
    refine ⟨by simp [chunk, i1], fun r hr => ?_, fun i r j d hi hj => ?_⟩
    · rcases List.mem_cons.1 hr with rfl | hr
      · exact ⟨by simp; omega, fun d hd => List.mem_of_mem_take hd⟩
      · exact ⟨(i2 r hr).1, fun d hd => List.mem_of_mem_drop ((i2 r hr).2 d hd)⟩
    · cases i with
      | zero =>
        simp only [chunk, List.getElem?_cons_zero, Option.some.injEq] at hi
        subst hi
        rw [List.getElem?_take] at hj
        split at hj
        · simpa using hj
        · cases hj
      | succ i =>
        simp only [chunk, List.getElem?_cons_succ] at hi
        have := i3 i r j d hi hj
        rw [List.getElem?_drop] at this
        rw [show (i + 1) * S + j = S + (i * S + j) by rw [Nat.add_mul]; omega]
        exact this
theorem repeat_spec (z : List D) (S : Nat) (hz : z.length = S) (hS : 0 < S) : ∀ n, (repeatD z n).length = n * S ∧ (∀ d ∈ repeatD z n, d ∈ z) ∧ ∀ j d, (repeatD z n)[j]? = some d → z[j % S]? = some d
  | 0 => ⟨by simp [repeatD], fun d hd => (by cases hd), fun j d hj => by simp [repeatD] at hj⟩
  | n + 1 => by
    obtain ⟨i1, i2, i3⟩ := repeat_spec z S hz hS n
    refine ⟨by simp [repeatD, i1, hz, Nat.add_mul]; omega, fun d hd => ?_, fun j d hj => ?_⟩
    · rcases List.mem_append.1 hd with hd | hd
      · exact hd
      · exact i2 d hd
    · by_cases hlt : j < S
      · rw [repeatD, List.getElem?_append_left (by omega)] at hj
        rw [Nat.mod_eq_of_lt hlt]; exact hj
      · rw [repeatD, List.getElem?_append_right (by omega), hz] at hj
        have := i3 _ d hj
        rwa [← Nat.mod_eq_sub_mod (by omega)] at this
theorem made_get (z : Value) (n j : Nat) (hj : j < n) (hs : 0 < z.cells.size) : (madeCells z.cells n).getD j undef = z.cells.getD (j % z.cells.size) undef := by
  have : j % z.cells.size < z.cells.size := Nat.mod_lt _ hs
  simp [madeCells, Array.getD_eq_getD_getElem?, hj, this]
theorem op_buildSlice (hE : ∀ t i, ti t = some i → tiOf E.P t = some i) (hsub : Sub bl0 bl) {t : TypeId} {len : Nat} {ps : Array (Nat × Operand)} {f : Operand → Slot} (ho : o.op = .buildSlice t len ps) (c : Ctx E ti ψ sl bl U nx a w o.dst) (hX : ∀ x ∈ ps.toList, SlotRep w (okS E bl ψ w) ψ bl a.tmps (f x.2) (a.eval x.2))
    (h : (ptBuildSlice ti bl0 nx t len (ps.toList.map fun p => (p.1, f p.2))).All E.P E.gt R) : o.wp E.P a w (Next E sl bl U nx o.dst R) Q := by
  unfold ptBuildSlice at h
  cases hti : ti t with
  | none => simp only [hti, PT.All] at h
  | some i =>
    obtain ⟨info, z0, d0, g1, g2, g3, g4, g5, g6, g7, _⟩ := ti_info hE hti
    simp only [hti] at h
    split at h
    · rename_i e hk
      have hu := kind_slice (g4 ▸ hk)
      cases hie : ti e with
      | none => simp only [hie, PT.All] at h
      | some ie =>
        obtain ⟨info', z, d0', k1, k2, k3, k4, k5, k6, k7, _⟩ := ti_info hE hie
        simp only [hie] at h
        split at h
        · rename_i zs q0 hz hb1 hb2
          rw [k7] at hz
          have hb1 := Nat.le_of_ble_eq_true hb1
          have hb2 := Nat.le_of_ble_eq_true hb2
          split at h
          · rename_i ds p hzl hf
            have hzl := Nat.eq_of_beq_eq_true hzl
            obtain ⟨z1, z2, z3⟩ := zero_cells (w := w) (ok := fun _ => False) hz
            obtain ⟨p1, p2, p3⟩ := repeat_spec zs ie.size hzl (by omega) len
            have hS : szOf E.P e = ie.size := by rw [szOf_info k1, k5]
            have hp := fillD_frz hsub _ _ _ _ _ hf
            obtain ⟨vs', v1, v2, v3, v4, v5⟩ := fill_rep c.sim hsub hp _ f a.eval ps.toList (repeatD zs len) ds p (madeCells z.cells (len * ie.size)) hX hf (fun y hy => hy) (by rw [size_madeCells, p1]) (fun d hd => z2 d (p2 d hd)) (fun j d hj => by
              have hj2 := p3 j d hj
              have hjl : j < len * ie.size := by rw [← p1]; exact (List.getElem?_eq_some_iff.1 hj).1
              rw [made_get z _ j hjl (by omega), show z.cells.size = ie.size by omega]
              exact (z3 _ d hj2).mono (fun b hb => hb.elim) (fun b hb => hb.elim))
            have hrun : (Instr.buildSlice t len (ps.map fun x => (x.1, a.eval x.2))).run E.P w = .ok (.slice (some ⟨w.heap.size, 0, none⟩) len len) (w.alloc (.cells vs' e)) := by
              by_cases hpos : len * info'.size = 0
              · have hl0 : len = 0 := by
                  rcases Nat.mul_eq_zero.1 hpos with h1 | h1
                  · exact h1
                  · omega
                subst hl0
                have e1 : madeCells z.cells (0 * ie.size) = #[] := by simp [madeCells]
                rw [e1] at v1
                simp [Instr.buildSlice, run_underlying hu, sizeOf, typeInfo, k1, newRow, Array.range_zero']
                rw [k5] at v1
                rw [v1]
                simp
              · refine run_buildSlice (P := E.P) w t e len _ vs' info' z hu k1 k3 (by rw [← k5]; omega) hpos ?_
                rw [k5] at v1
                simpa [madeCells] using v1
            obtain ⟨c1, c2, c3⟩ := chunk_spec ie.size (by omega) len ds (by rw [v5, p1])
            have hs2 := (c.sim.frz hp).2
            have hlen : len ≤ maxLen := by
              have : len * 1 ≤ len * ie.size := Nat.mul_le_mul_left _ hb1
              simp only [maxLen]; omega
            have hown := World.ownsRow_lit (base := E.w0.heap.size) (e := e) (size := ie.size) w vs' len c.sim.below.size hlen (by rw [v2, v5, p1])
            refine wp_val (v := .slice (some ⟨w.heap.size, 0, none⟩) len len) (w' := w.alloc (.cells vs' e)) (by simp [execOp, ho, hrun]) ⟨_, h, ⟨fun n => if n = nx then .slice (some ⟨w.heap.size, 0, none⟩) len len else ψ n, ?_⟩, by simp⟩
            rw [show ((nx, some (Blk.vec e (chunk ie.size len ds))) :: p) = [(nx, some (Blk.vec e (chunk ie.size len ds)))] ++ p from rfl, setB_append]
            refine hs2.newVec (c.fresh nx (Nat.le_refl _) (by omega)) (v := .slice (some ⟨w.heap.size, 0, none⟩) len len) (World.grownBy_alloc w _ none) (by omega) (by rw [hS, c1]; exact hown) (fun b hb => by injection hb with hb; subst hb; exact Nat.le_refl _) (fun r hr => by rw [hS]; exact (c2 r hr).1) (fun r hr d hd => v3 d ((c2 r hr).2 d hd)) (fun i r j d hi hj => ?_) c.hmen c.hds
            have h1 := c3 i r j d hi hj
            have h2 := v4 _ d h1
            have hlt : i * ie.size + j < vs'.size := by rw [v2]; exact (List.getElem?_eq_some_iff.1 h1).1
            refine ⟨vs'.getD (i * ie.size + j) undef, ?_, h2⟩
            rw [hS]
            simp [Array.getD_eq_getD_getElem?, hlt]
          · exact h.elim
        · exact h.elim
    · exact h.elim
theorem op_makeSlice (hE : ∀ t i, ti t = some i → tiOf E.P t = some i) {t : TypeId} {x y : Operand} {X Y : Slot} (ho : o.op = .makeSlice t x y) (c : Ctx E ti ψ sl bl U nx a w o.dst) (hX : SlotRep w (okS E bl ψ w) ψ bl a.tmps X (a.eval x)) (hY : SlotRep w (okS E bl ψ w) ψ bl a.tmps Y (a.eval y))
    (h : (ptMakeSlice ti bl0 nx t X Y).All E.P E.gt R) : o.wp E.P a w (Next E sl bl U nx o.dst R) Q := by
  unfold ptMakeSlice at h
  cases hti : ti t with
  | none => simp only [hti, PT.All] at h
  | some i =>
    obtain ⟨info, z0, d0, g1, g2, g3, g4, g5, g6, g7, _⟩ := ti_info hE hti
    simp only [hti] at h
    split at h
    · rename_i e hk
      have hu := kind_slice (g4 ▸ hk)
      split at h
      · rename_i ie k1' n k2' m hie
        obtain ⟨info', z, d0', k1, k2, k3, k4, k5, k6, k7, _⟩ := ti_info hE hie
        have hx := Rep.int_inv (w := w) (show Rep w (okS E bl ψ w) (a.eval x) (.int k1' n) from hX)
        have hy := Rep.int_inv (w := w) (show Rep w (okS E bl ψ w) (a.eval y) (.int k2' m) from hY)
        split at h
        · rename_i zs q0 hz hb1 hb2
          rw [k7] at hz
          have hb1 := Nat.le_of_ble_eq_true hb1
          have hb2 := Nat.le_of_ble_eq_true hb2
          split at h
          · rename_i hzl
            have hzl := Nat.eq_of_beq_eq_true hzl
            obtain ⟨⟨n0, n1, n2⟩, h⟩ := h
            obtain ⟨z1, z2, z3⟩ := zero_cells (w := w) (ok := fun _ => False) hz
            have hS : szOf E.P e = ie.size := by rw [szOf_info k1, k5]
            have hm : m ≤ m * (ie.bytes : Int) := by
              have h1 : m * 1 ≤ m * (ie.bytes : Int) := Int.mul_le_mul_of_nonneg_left (by omega) (by omega)
              omega
            have hrun := run_make (P := E.P) w t e info' z hu k1 k3 k1' k2' n m n0 n1 (by rw [← k6, Int.mul_comm]; omega) (by omega)
            have hle : n.toNat * ie.size ≤ m.toNat * ie.size := Nat.mul_le_mul_right _ (by omega)
            have hown : (w.alloc (.cells (madeCells z.cells (m.toNat * info'.size)) e)).ownsRow E.w0.heap.size e (szOf E.P e) (.slice (some ⟨w.heap.size, 0, none⟩) n.toNat m.toNat) (List.replicate n.toNat zs).length ((madeCells z.cells (m.toNat * info'.size)).toList.take (n.toNat * ie.size)) := by
              rw [hS, ← k5]
              refine ⟨?_, .inr ⟨w.heap.size, m.toNat, _, ?_, c.sim.below.size, heap_alloc_new w _, ?_, ?_, size_madeCells _ _, ?_⟩⟩
              · rw [List.length_take, Array.length_toList, size_madeCells, List.length_replicate]; omega
              · rw [List.length_replicate]
              · rw [List.length_replicate]; omega
              · simp only [maxLen]; omega
              · rw [List.length_replicate]
            refine wp_val (v := .slice (some ⟨w.heap.size, 0, none⟩) n.toNat m.toNat) (by simp [execOp, ho, hx, hy, hrun]) ⟨_, h, ⟨_, c.sim.newVec (c.fresh nx (Nat.le_refl _) (by omega)) (World.grownBy_alloc w _ none) (by omega) hown (fun b hb => by injection hb with hb; subst hb; exact Nat.le_refl _) (fun r hr => ?_) (fun r hr d hd => ?_) (fun i r j d hi hj => ?_) c.hmen c.hds⟩, by simp⟩
            · rw [List.eq_of_mem_replicate hr, hS, hzl]
            · rw [List.eq_of_mem_replicate hr] at hd; exact z2 d hd
            · have hr := List.eq_of_mem_replicate (List.mem_of_getElem? hi)
              subst hr
              have hil := (List.getElem?_eq_some_iff.1 hi).1
              rw [List.length_replicate] at hil
              have hjl := (List.getElem?_eq_some_iff.1 hj).1
              have hi1 : (i + 1) * ie.size ≤ n.toNat * ie.size := Nat.mul_le_mul_right _ hil
              rw [Nat.add_mul, Nat.one_mul] at hi1
              refine ⟨z.cells.getD j undef, ?_, (z3 j d hj).mono (fun b hb => hb.elim) (fun b hb => hb.elim)⟩
              have hm2 := made_get z (m.toNat * info'.size) (i * ie.size + j) (by rw [← k5]; omega) (by omega)
              rw [show z.cells.size = ie.size by omega, Nat.add_comm (i * ie.size) j, Nat.add_mul_mod_self_right, Nat.mod_eq_of_lt (by omega), Nat.add_comm j (i * ie.size)] at hm2
              rw [hS, List.getElem?_take, if_pos (by omega), Array.getElem?_toList, ← hm2]
              have hlt : i * ie.size + j < (madeCells z.cells (m.toNat * info'.size)).size := by rw [size_madeCells, ← k5]; omega
              simp [Array.getD_eq_getD_getElem?, hlt]
          · exact h.elim
        · exact h.elim
      · exact h.elim
    · exact h.elim
/-! #### append -/
/-- What is appended: where it lies, what it reads as. -/
def SrcOK (S : Nat) (w : World) (ok : Nat → Prop) (new : List (List D)) (v : Value) : Prop :=
  (∀ r ∈ new, r.length = S) ∧ (∀ r ∈ new, ∀ d ∈ r, d.isCell = true) ∧ ∃ A c, v = .slice A new.length c ∧ (A = none → new = []) ∧
    ∀ ad, A = some ad → ∃ news : List Value, news.length = new.length * S ∧ (∀ (j : Nat) (u : Value), news[j]? = some u → w.cell? (ad.add j) = some u) ∧ (∀ u ∈ news, u.oneCell' = true) ∧
      ∀ (i : Nat) (r : List D) (j : Nat) (d : D), new[i]? = some r → r[j]? = some d → ∃ u, news[i * S + j]? = some u ∧ Rep w ok u d
theorem src_rep {S : Nat} (hS : 0 < S) {ok : Nat → Prop} {rows : List (List D)} {v : Value} (h : Rep w ok v (.slice rows)) (hw : ∀ r ∈ rows, r.length = S) : SrcOK S w ok rows v := by
  cases h with
  | slice A n c _ sz ad vs hl hc hm hsz hcell hA hv hr =>
    refine ⟨hw, hcell, A, c, by rw [hl], fun e => ?_, fun ad' e => ?_⟩
    · by_cases hn : 0 < n
      · rw [(hA hn).1] at e; cases e
      · exact List.eq_nil_of_length_eq_zero (by omega)
    · by_cases hn : 0 < n
      · have e2 := (hA hn).1
        rw [e] at e2
        injection e2 with e2
        subst e2
        have hne : rows ≠ [] := by intro e'; subst e'; simp at hl; omega
        obtain ⟨r0, hr0⟩ := List.exists_mem_of_ne_nil rows hne
        have hss : sz = S := (hsz r0 hr0).symm.trans (hw r0 hr0)
        subst hss
        have hat : ∀ k, k < rows.length * sz → ∃ r d, rows[k / sz]? = some r ∧ r[k % sz]? = some d := by
          intro k hk
          have h1 : k / sz < rows.length := by rw [Nat.div_lt_iff_lt_mul hS]; exact hk
          have h2 : k % sz < sz := Nat.mod_lt _ hS
          refine ⟨rows[k / sz], (rows[k / sz])[k % sz]'(by rw [hw _ (List.getElem_mem h1)]; exact h2), List.getElem?_eq_getElem h1, List.getElem?_eq_getElem _⟩
        refine ⟨(List.range (rows.length * sz)).map fun k => vs (k / sz) (k % sz), by simp, fun j u hj => ?_, fun u hu => ?_, fun i r j d hi hj => ?_⟩
        · have hjl := (List.getElem?_eq_some_iff.1 hj).1
          simp only [List.length_map, List.length_range] at hjl
          rw [List.getElem?_map, List.getElem?_range hjl] at hj
          simp only [Option.map_some, Option.some.injEq] at hj
          subst hj
          obtain ⟨r, d, h1, h2⟩ := hat j hjl
          have := hv _ r _ d h1 h2
          rwa [Nat.div_add_mod' j sz] at this
        · obtain ⟨k, hk, rfl⟩ := List.mem_map.1 hu
          obtain ⟨r, d, h1, h2⟩ := hat k (by simpa using hk)
          exact ((hr _ r _ d h1 h2).one (hcell r (List.mem_of_getElem? h1) d (List.mem_of_getElem? h2))).2
        · have hjl := (List.getElem?_eq_some_iff.1 hj).1
          rw [hw r (List.mem_of_getElem? hi)] at hjl
          have hil := (List.getElem?_eq_some_iff.1 hi).1
          have h1 : (i + 1) * sz ≤ rows.length * sz := Nat.mul_le_mul_right _ hil
          rw [Nat.add_mul, Nat.one_mul] at h1
          refine ⟨vs i j, ?_, hr i r j d hi hj⟩
          rw [List.getElem?_map, List.getElem?_range (by omega)]
          have e1 : (i * sz + j) / sz = i := by rw [Nat.mul_comm, Nat.mul_add_div hS, Nat.div_eq_of_lt hjl]; omega
          have e2 : (i * sz + j) % sz = j := by rw [Nat.mul_comm, Nat.mul_add_mod, Nat.mod_eq_of_lt hjl]
          simp [e1, e2]
      · have hr0 : rows = [] := List.eq_nil_of_length_eq_zero (by omega)
        subst hr0
        exact ⟨[], by simp, by simp, by simp, fun i r j d hi => by simp at hi⟩
theorem src_own {base S : Nat} (hS : 0 < S) {ok : Nat → Prop} {e : TypeId} {rows : List (List D)} {v : Value} {xs : List Value} (h : w.ownsRow base e S v rows.length xs) (hw : ∀ r ∈ rows, r.length = S) (hc : ∀ r ∈ rows, ∀ d ∈ r, d.isCell = true)
    (hr : ∀ (i : Nat) (r : List D) (j : Nat) (d : D), rows[i]? = some r → r[j]? = some d → ∃ u, xs[i * S + j]? = some u ∧ Rep w ok u d) : SrcOK S w ok rows v := by
  have hxl := h.1
  have hown := h
  rcases h.2 with ⟨hv, hn⟩ | ⟨g, cap, cur, hv, hbg, hg, hnc, hcm, hcs, htake⟩
  · have hr0 : rows = [] := List.eq_nil_of_length_eq_zero hn
    subst hr0
    subst hv
    exact ⟨by simp, by simp, none, 0, rfl, fun _ => rfl, fun ad e => by cases e⟩
  · subst hv
    refine ⟨hw, hc, _, cap, rfl, fun e => (by cases e), fun ad e => ?_⟩
    injection e with e
    subst e
    refine ⟨xs, hxl, hown.cells (g := g) rfl, fun u hu => ?_, hr⟩
    obtain ⟨k, hk, rfl⟩ := List.mem_iff_getElem.1 hu
    rw [hxl] at hk
    have h1 : k / S < rows.length := by rw [Nat.div_lt_iff_lt_mul hS]; exact hk
    have h2 : k % S < S := Nat.mod_lt _ hS
    have hl := hw _ (List.getElem_mem h1)
    obtain ⟨u, hu1, hu2⟩ := hr (k / S) rows[k / S] (k % S) _ (List.getElem?_eq_getElem h1) (List.getElem?_eq_getElem (by rw [hl]; exact h2))
    rw [Nat.div_add_mod' k S, List.getElem?_eq_getElem (by rw [hxl]; exact hk)] at hu1
    injection hu1 with hu1
    rw [hu1]
    exact (hu2.one (hc _ (List.getElem_mem h1) _ (List.getElem_mem _))).2
theorem newRows_spec (hsub : Sub bl0 bl) (h : SimP E ψ sl bl U a w) {e : TypeId} {sz : Nat} (hS : szOf E.P e = sz) (h0 : 0 < sz) {Y : Slot} {v : Value} {new : List (List D)} {cnd : Option Prop} (hn : newRows bl0 e sz Y = some (new, cnd)) (hc : ∀ p, cnd = some p → p) (hY : SlotRep w (okS E bl ψ w) ψ bl a.tmps Y v) :
    SrcOK sz w (okS E bl ψ w) new v := by
  unfold newRows at hn
  split at hn
  · simp at hn
    obtain ⟨rfl, rfl⟩ := hn
    exact src_rep h0 hY (hc _ rfl)
  · rename_i m
    split at hn
    · rename_i e' rows hb
      split at hn
      · rename_i hee
        simp at hn
        obtain ⟨rfl, rfl⟩ := hn
        have hb := hsub _ _ hb
        have hee := Nat.eq_of_beq_eq_true hee
        subst hee
        have hv : v = ψ m := hY (name_some hb)
        obtain ⟨xs, b1, b2, b3, b4, b5⟩ := h.blks m _ hb
        rw [hS] at b2 b3 b5
        rw [hv]
        exact src_own h0 b2 b3 b4 b5
      · cases hn
    · rename_i rows hb
      simp at hn
      obtain ⟨rfl, rfl⟩ := hn
      have hb := hsub _ _ hb
      have hv : v = ψ m := hY (name_some hb)
      rw [hv]
      exact src_rep h0 (h.blks m _ hb) (hc _ rfl)
    · cases hn
  · simp at hn
    obtain ⟨rfl, rfl⟩ := hn
    have hv : v = .slice none 0 0 := hY
    subst hv
    exact ⟨by simp, by simp, none, 0, rfl, fun _ => rfl, fun ad e => by cases e⟩
  · cases hn
theorem run_append_none {P : Program} (base : Nat) (t ty e : TypeId) (i : TypeInfo) (size : Nat) (ht : P.underlying t = some (.slice e)) (hi : P.info? e = some i)
    (v : Value) (n c : Nat) (xs : List Value) (hown : w.ownsRow base e size v n xs) :
    (Builtin.append_ #[t, t] ty #[v, .slice none 0 c]).run P w = .ok v w := by
  rcases hown.2 with ⟨rfl, rfl⟩ | ⟨g, cap, cur, rfl, _, _, hnc, _⟩
  · simp [Builtin.append_, run_underlying ht, sizeOf, typeInfo, hi, Builtin.lenOf, Builtin.firstCells]
  · simp [Builtin.append_, run_underlying ht, sizeOf, typeInfo, hi, Builtin.lenOf, Builtin.firstCells, hnc, storeCells]
theorem own_ptr {base : Nat} {e : TypeId} {size n : Nat} {v : Value} {xs : List Value} (h : w.ownsRow base e size v n xs) : v.ownBlock = ptrBlock v := by
  rcases h.2 with ⟨hv, _⟩ | ⟨g, cap, cur, hv, _⟩ <;> rw [hv] <;> rfl
/-- append onto rows of one's own (or nil): what comes back. -/
theorem run_append_any (hE : ∀ t i, ti t = some i → tiOf E.P t = some i) {t e ty : TypeId} {i ie : TI} (hti : ti t = some i) (hk : i.kind = .slice e) (hie : ti e = some ie) (hz1 : 1 ≤ ie.size) (hz2 : 1 ≤ ie.bytes) (hz3 : ie.zero.length = ie.size) {base : Nat} (hbase : base ≤ w.heap.size)
    {ok : Nat → Prop} {new : List (List D)} {y : Value} (hs : SrcOK (szOf E.P e) w ok new y) {v : Value} {n : Nat} {xs : List Value} (hown : w.ownsRow base e (szOf E.P e) v n xs) (hby : (n + new.length) * ie.bytes ≤ 140737488355328) :
    ∃ v' w' news, (Builtin.append_ #[t, t] ty #[v, y]).run E.P w = .ok v' w' ∧ w'.ownsRow base e (szOf E.P e) v' (n + new.length) (xs ++ news) ∧ w.grownBy w' v.ownBlock ∧ (v'.ownBlock = v.ownBlock ∨ v'.ownBlock = some w.heap.size) ∧
      ∀ (i : Nat) (r : List D) (j : Nat) (d : D), new[i]? = some r → r[j]? = some d → ∃ u, news[i * szOf E.P e + j]? = some u ∧ Rep w ok u d := by
  obtain ⟨info, z0, d0, g1, g2, g3, g4, g5, g6, g7, _⟩ := ti_info hE hti
  obtain ⟨info', z', d0', k1, k2, k3, k4, k5, k6, k7, _⟩ := ti_info hE hie
  have hu := kind_slice (g4 ▸ hk)
  obtain ⟨s1, s2, A, c, rfl, s3, s4⟩ := hs
  cases A with
  | none =>
    have hn := s3 rfl
    subst hn
    refine ⟨v, w, [], run_append_none base t ty e info' (szOf E.P e) hu k1 v n c xs hown, by simpa using hown, grown_refl w _, .inl rfl, fun i r j d hi => by simp at hi⟩
  | some ad =>
    obtain ⟨news, n1, n2, n3, n4⟩ := s4 ad rfl
    have hS : szOf E.P e = info'.size := szOf_info k1
    have hmax : n + new.length ≤ maxLen := by
      have : (n + new.length) * 1 ≤ (n + new.length) * ie.bytes := Nat.mul_le_mul_left _ hz2
      simp only [maxLen]; omega
    have hz : z'.cells.size = info'.size := by rw [k7, List.length_map, Array.length_toList] at hz3; omega
    obtain ⟨v', w', h1, h2, h3, h4, h5⟩ := run_append_own_at (P := E.P) w base t ty e info' z' (szOf E.P e) info'.bytes hu k1 k3 hS.symm rfl (by omega) (by omega) v n xs hown ad new.length c news n1 n2 n3 hmax (by rw [← k6]; exact hby) hbase
    exact ⟨v', w', news, h1, h2, h3, h5, n4⟩
theorem op_append (hE : ∀ t i, ti t = some i → tiOf E.P t = some i) (hsub : Sub bl0 bl) {cl : Call} {t : TypeId} {x y : Operand} {X Y : Slot} (ho : o.op = .call cl) (hc : cl.callee = .builtin .append) (ht : cl.argTypes = #[t, t]) (hx : cl.args = #[x, y]) (c : Ctx E ti ψ sl bl U nx a w o.dst)
    (hX : SlotRep w (okS E bl ψ w) ψ bl a.tmps X (a.eval x)) (hY : SlotRep w (okS E bl ψ w) ψ bl a.tmps Y (a.eval y)) (h : (ptAppend ti bl0 nx t X Y).All E.P E.gt R) : o.wp E.P a w (Next E sl bl U nx o.dst R) Q := by
  have run : ∀ v w', (Builtin.append_ #[t, t] o.type #[a.eval x, a.eval y]).run E.P w = .ok v w' → (execOp a.eval o).run E.P w = .ok (.value v) w' := by
    intro v w' hv
    simp [execOp, ho, resolve, hc, ht, hx, invoke, builtin, hv]
  have need : ∀ (cn : Option Prop) (q : Prop) (k : PT), (needO cn q k).All E.P E.gt R → (∀ p, cn = some p → p) ∧ q ∧ k.All E.P E.gt R := by
    intro cn q k hk
    unfold needO at hk
    split at hk
    · exact ⟨fun p e => (by injection e with e; subst e; exact hk.1.1), hk.1.2, hk.2⟩
    · exact ⟨fun p e => (by cases e), hk.1, hk.2⟩
  unfold ptAppend at h
  cases hti : ti t with
  | none => simp only [hti, PT.All] at h
  | some i =>
    simp only [hti] at h
    split at h
    · rename_i e hk
      cases hie : ti e with
      | none => simp only [hie, PT.All] at h
      | some ie =>
        obtain ⟨info', z', d0', k1, k2, k3, k4, k5, k6, k7, _⟩ := ti_info hE hie
        simp only [hie] at h
        have hS : szOf E.P e = ie.size := by rw [szOf_info k1, k5]
        have sizes : (match Nat.ble 1 ie.size, Nat.ble 1 ie.bytes with | true, true => Nat.beq ie.zero.length ie.size | _, _ => false) = true → 1 ≤ ie.size ∧ 1 ≤ ie.bytes ∧ ie.zero.length = ie.size := by
          intro h
          split at h
          · rename_i h1 h2
            exact ⟨Nat.le_of_ble_eq_true h1, Nat.le_of_ble_eq_true h2, Nat.eq_of_beq_eq_true h⟩
          · cases h
        split at h
        · rename_i new cnd hnew hsz
          obtain ⟨z1, z2, z3⟩ := sizes hsz
          obtain ⟨n1, n2, n3⟩ := need _ _ _ h
          have hv : a.eval x = .slice none 0 0 := hX
          have hsrc := newRows_spec hsub c.sim hS (by omega) hnew n1 hY
          rw [← hS] at hsrc
          obtain ⟨v', w', news, r1, r2, r3, r4, r5⟩ := run_append_any (ty := o.type) hE hti hk hie z1 z2 z3 c.sim.below.size hsrc (World.ownsRow_nil w E.w0.heap.size e (szOf E.P e)) (by rw [Nat.zero_add]; exact n2)
          have hw : ∀ r ∈ new, r.length = szOf E.P e := hsrc.1
          refine wp_val (run v' w' (by rw [hv]; exact r1)) ⟨_, n3, ⟨_, c.sim.newVec (c.fresh nx (Nat.le_refl _) (by omega)) r3 (by omega) (xs := news) (by simpa using r2) (fun b hb => ?_) hw hsrc.2.1 r5 c.hmen c.hds⟩, by simp⟩
          rw [← own_ptr r2] at hb
          rcases r4 with h4 | h4
          · rw [h4] at hb; cases hb
          · rw [h4] at hb; injection hb with hb; omega
        · rename_i new cnd m hnew hsz
          obtain ⟨z1, z2, z3⟩ := sizes hsz
          split at h
          · rename_i e' rows hb hso
            split at h
            · rename_i hee
              have hee := Nat.eq_of_beq_eq_true hee
              subst hee
              obtain ⟨n1, n2, n3⟩ := need _ _ _ h
              have hb := hsub _ _ hb
              have hsrc := newRows_spec hsub c.sim hS (by omega) hnew n1 hY
              rw [← hS] at hsrc
              have hv : a.eval x = ψ m := hX (name_some hb)
              obtain ⟨xs, b1, b2, b3, b4, b5⟩ := c.sim.blks m _ hb
              obtain ⟨v', w', news, r1, r2, r3, r4, r5⟩ := run_append_any (ty := o.type) hE hti hk hie z1 z2 z3 c.sim.below.size hsrc b2 n2
              have hmn := c.sim.name_lt hb
              have hB : ∀ n, setB bl [(m, none), (nx, some (.vec e (rows ++ new)))] n = if n = m then none else if n = nx then some (.vec e (rows ++ new)) else bl n := fun n => by rw [setB_cons, setB_cons]; rfl
              have hown := own_ptr b2
              have hown' := own_ptr r2
              have hf := c.fresh nx (Nat.le_refl _) (by omega)
              have hst : Step ψ (fun n => if n = nx then v' else ψ n) bl (setB bl [(m, none), (nx, some (.vec e (rows ++ new)))]) U nx (some m) w w' := by
                refine ⟨r3.os, r3.tape, r3.output, r3.size, fun b hb' hne => r3.block b hb' (fun e' => hne m rfl (by rw [← hown]; exact e'.symm)), fun m' e' => ?_, fun n hn => if_neg (by intro e; exact hf (e ▸ hn)), fun n k hn hk => ?_, fun n k hn hk => ?_, fun n n' k k' hn hn' hk hk' hne => ?_⟩
                · injection e' with e'
                  subst e'
                  exact ⟨_, hb, rfl⟩
                · rw [hB] at hk
                  split at hk
                  · cases hk
                  · rename_i hne
                    rw [if_neg (by intro e; exact hf (e ▸ hn))] at hk
                    exact .inl ⟨hk, fun e' => hne (by injection e' with e'; exact e'.symm)⟩
                · rw [hB, if_neg (by intro e; exact hn (e ▸ hmn))] at hk
                  split at hk
                  · rename_i e'
                    subst e'
                    injection hk with hk
                    subst hk
                    refine ⟨rfl, ⟨Nat.le_refl _, by omega⟩, fun b hb' => ?_⟩
                    rw [if_pos rfl] at hb'
                    rw [← hown'] at hb'
                    rcases r4 with h4 | h4
                    · refine .inr ⟨m, rfl, by rw [hB, if_pos rfl], by rw [← hown, ← h4]; exact hb'⟩
                    · left
                      rw [h4] at hb'
                      injection hb' with hb'
                      have := (owns_block r2 (b := b) (by rw [← hown', h4, hb'])).2
                      omega
                  · rw [c.sim.names n hn] at hk; cases hk
                · rw [hB, if_neg (by intro e; exact hn (e ▸ hmn))] at hk
                  rw [hB, if_neg (by intro e; exact hn' (e ▸ hmn))] at hk'
                  split at hk
                  · split at hk'
                    · omega
                    · rw [c.sim.names n' hn'] at hk'; cases hk'
                  · rw [c.sim.names n hn] at hk; cases hk
              have hkp := hst.keeps c.sim
              refine wp_val (run v' w' (by rw [hv]; exact r1)) ⟨_, n3, ⟨_, hst.sim c.sim (fun n k hk hn => ?_) (fun m' hm => ?_) (fun n cs' hn hk r hr m' hm => ?_) (by simp) c.hmen c.hds (fun _ => by simp)⟩, by simp⟩
              · rw [hB] at hk
                split at hk
                · cases hk
                · rename_i hne
                  rcases hn with hn | hn
                  · split at hk
                    · rename_i e'
                      subst e'
                      injection hk with hk
                      subst hk
                      refine ⟨xs ++ news, b1, ?_, fun r hr => ?_, fun r hr d hd => ?_, fun i r j d hi hj => ?_⟩
                      · simp only [List.length_append, if_true]; exact r2
                      · rcases List.mem_append.1 hr with hr | hr
                        · exact b3 r hr
                        · exact hsrc.1 r hr
                      · rcases List.mem_append.1 hr with hr | hr
                        · exact b4 r hr d hd
                        · exact hsrc.2.1 r hr d hd
                      · have hxl : xs.length = rows.length * szOf E.P e := b2.1
                        by_cases hlt : i < rows.length
                        · rw [List.getElem?_append_left hlt] at hi
                          obtain ⟨u, u1, u2⟩ := b5 i r j d hi hj
                          refine ⟨u, ?_, hkp.rep u2⟩
                          rw [List.getElem?_append_left (List.getElem?_eq_some_iff.1 u1).1]
                          exact u1
                        · rw [List.getElem?_append_right (by omega)] at hi
                          obtain ⟨u, u1, u2⟩ := r5 _ r j d hi hj
                          refine ⟨u, ?_, hkp.rep u2⟩
                          have hmul : i * szOf E.P e = rows.length * szOf E.P e + (i - rows.length) * szOf E.P e := by rw [← Nat.add_mul]; congr 1; omega
                          rw [List.getElem?_append_right (by omega), hxl, show i * szOf E.P e + j - rows.length * szOf E.P e = (i - rows.length) * szOf E.P e + j by omega]
                          exact u1
                    · rw [c.sim.names n hn] at hk; cases hk
                  · injection hn with hn
                    exact absurd hn.symm hne
              · simp [refsS, refsR] at hm; exact .inr ⟨by omega, by omega⟩
              · rw [hB] at hk
                split at hk
                · cases hk
                · split at hk
                  · injection hk with hk; cases hk
                  · rcases hn with hn | hn
                    · rw [c.sim.names n hn] at hk; cases hk
                    · rename_i hne _
                      injection hn with hn
                      exact absurd hn.symm hne
            · exact h.elim
          · exact h.elim
        · exact h.elim
    · exact h.elim
end
end Go.Eng
