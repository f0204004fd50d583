/- The engine, part 6: operations that make no memory of their own. Conditions: none. -/
import Derived.Test.YtkiolflkkbfaiaaDoorEngE
set_option linter.unusedVariables false
set_option linter.unusedSimpArgs false
namespace Go.Eng
open Go.RowKit
def Sub (bl0 bl : Blks) : Prop := ∀ n k, bl0 n = some k → bl n = some k
section
variable {E : Env} {ti : TypeId → Option TI} {ψ : Nat → Value} {sl : Nat → Slot} {bl bl0 : Blks} {U : Nat → Prop} {nx : Nat} {a : Act} {w : World} {dst : Option Nat} {o : Oper} {R : Patch → Prop} {Q : Exit → Act → World → Prop}

theorem toD_sub (hs : Sub bl0 bl) {r : RV} {x : D × Pch} (h : toD bl0 r = some x) : toD bl r = some x := by
  cases r with
  | own n =>
    simp only [toD] at h ⊢
    split at h
    · rename_i e rows hb; rw [hs _ _ hb]; exact h
    · rename_i rows hb; rw [hs _ _ hb]; exact h
    · cases h
  | _ => exact h
theorem cellsD_spec : ∀ {cs : List RV} {ds : List D} {q : Pch}, cellsD bl cs = some (ds, q) →
    (∀ d ∈ ds, D.isCell d = true) ∧ ds.length = cs.length ∧ ∀ (j : Nat) (d : D), ds[j]? = some d → ∃ r q', cs[j]? = some r ∧ toD bl r = some (d, q') ∧ ∀ y ∈ q', y ∈ q
  | [], ds, q, h => by
    simp [cellsD] at h
    obtain ⟨rfl, rfl⟩ := h
    exact ⟨by simp, rfl, fun j d hj => by simp at hj⟩
  | r :: rs, ds, q, h => by
    unfold cellsD at h
    split at h
    · rename_i d1 p1 h1
      split at h
      · rename_i hcl
        split at h
        · rename_i ds' q' h2
          simp at h
          obtain ⟨rfl, rfl⟩ := h
          obtain ⟨i1, i2, i3⟩ := cellsD_spec h2
          refine ⟨fun d hd => ?_, by simp [i2], fun j d hj => ?_⟩
          · rcases List.mem_cons.1 hd with rfl | hd
            · exact hcl
            · exact i1 d hd
          · cases j with
            | zero =>
              simp at hj
              subst hj
              exact ⟨r, p1, rfl, h1, fun y hy => List.mem_append_left _ hy⟩
            | succ j =>
              obtain ⟨r', q'', hr', hx, hy⟩ := i3 j d (by simpa using hj)
              exact ⟨r', q'', by simpa using hr', hx, fun y h => List.mem_append_right _ (hy y h)⟩
        · cases h
      · cases h
    · cases h
theorem cellsD_sub (hs : Sub bl0 bl) : ∀ {cs : List RV} {x : List D × Pch}, cellsD bl0 cs = some x → cellsD bl cs = some x
  | [], x, h => h
  | r :: rs, x, h => by
    unfold cellsD at h ⊢
    split at h
    · rename_i d1 p1 h1
      rw [toD_sub hs h1]
      split at h
      · rename_i hcl
        simp only [hcl]
        split at h
        · rename_i ds' q' h2
          rw [cellsD_sub hs h2]
          exact h
        · cases h
      · cases h
    · cases h
theorem valsOf_spec (hs : Sub bl0 bl) {s : Slot} {d : D} {p : Pch} (h : valsOf bl0 s = some (d, p)) : ∃ r, s = .rv r ∧ toD bl r = some (d, p) := by
  cases s with
  | rv r => exact ⟨r, rfl, toD_sub hs h⟩
  | _ => simp [valsOf] at h
theorem name_some {n : Nat} {k : Blk} (h : bl n = some k) : (bl n).isSome = true := by rw [h]; rfl

theorem Rep.int_inv {ok : Nat → Prop} {v : Value} {k : IntKind} {n : Int} (h : Rep w ok v (.int k n)) : v = .int k n := by cases h; rfl
theorem Rep.bool_inv {ok : Nat → Prop} {v : Value} {b : Bool} (h : Rep w ok v (.bool b)) : v = .bool b := by cases h; rfl
theorem Rep.str_inv {ok : Nat → Prop} {v : Value} {s : ByteArray} (h : Rep w ok v (.str s)) : v = .string s ∧ s.size ≤ 9223372036854775807 := by cases h; exact ⟨rfl, by assumption⟩
theorem Rep.agg_inv {ok : Nat → Prop} {v : Value} {cs : List D} (h : Rep w ok v (.agg cs)) : ∃ vx, v = .agg vx := by cases h; exact ⟨_, rfl⟩
/-! #### Plain ones -/
theorem op_un {op : UnOp} {t : TypeId} {x : Operand} {X : Slot} (ho : o.op = .unOp op t x) (c : Ctx E ti ψ sl bl U nx a w o.dst) (hX : SlotRep w (okS E bl ψ w) ψ bl a.tmps X (a.eval x)) (h : (ptUn op X).All E.P E.gt R) :
    o.wp E.P a w (Next E sl bl U nx o.dst R) Q := by
  unfold ptUn at h
  split at h
  · rename_i b
    generalize hx : a.eval x = vx at *
    cases hX
    exact wp_data (d := .bool (!b)) (v := .bool (!b)) c (by simp [execOp, ho, hx, Op.unary]) h (.bool _)
  · rename_i k n
    generalize hx : a.eval x = vx at *
    cases hX
    exact wp_data (d := .int k (k.wrap (0 - n))) (v := .int k (k.wrap (0 - n))) c (by simp [execOp, ho, hx, Op.unary, Op.intArith]) h (.int _ _)
  · rename_i k n
    generalize hx : a.eval x = vx at *
    cases hX
    exact wp_data (d := .int k (bitsI .xor k (if k.signed then -1 else k.max) n)) (v := .int k (bitsI .xor k (if k.signed then -1 else k.max) n)) c (by simp [execOp, ho, hx, Op.unary, Op.intBits, bitsI]) h (.int _ _)
  · exact h.elim
theorem op_convert (hE : ∀ t i, ti t = some i → tiOf E.P t = some i) {s t : TypeId} {x : Operand} {X : Slot} (ho : o.op = .convert s t x) (c : Ctx E ti ψ sl bl U nx a w o.dst) (hX : SlotRep w (okS E bl ψ w) ψ bl a.tmps X (a.eval x)) (h : (ptConvert ti s t X).All E.P E.gt R) :
    o.wp E.P a w (Next E sl bl U nx o.dst R) Q := by
  unfold ptConvert at h
  split at h
  · rename_i is it k0 n hs ht
    split at h
    · rename_i k hk
      obtain ⟨_, _, ds, _, gs, _⟩ := ti_info hE hs
      obtain ⟨_, _, dt, _, gt, _, g4, _⟩ := ti_info hE ht
      have hu := kind_int (g4 ▸ hk)
      generalize hx : a.eval x = vx at *
      cases hX
      refine wp_data (d := .int k (k.wrap n)) (v := .int k (k.wrap n)) c ?_ h (.int _ _)
      have hr : (convert s t (.int k0 n)).run E.P w = .ok (.int k (k.wrap n)) w := by
        simp only [convert, Sem.run_bind, run_underlying gs, run_underlying hu, Result.andThen_ok]
        cases ds <;> rfl
      simp [execOp, ho, hx, hr]
    · exact h.elim
  · exact h.elim
theorem op_extract {x : Operand} {i : Nat} {X : Slot} (ho : o.op = .extract x i) (c : Ctx E ti ψ sl bl U nx a w o.dst) (hX : SlotRep w (okS E bl ψ w) ψ bl a.tmps X (a.eval x)) (hr : ∀ m ∈ refsS X, U m) (h : (ptExtract X i).All E.P E.gt R) :
    o.wp E.P a w (Next E sl bl U nx o.dst R) Q := by
  unfold ptExtract at h
  split at h
  · rename_i rs
    split at h
    · rename_i r hi
      obtain ⟨vs, e1, e2, e3⟩ := hX
      have hlt : i < vs.size := by rw [e2]; exact (List.getElem?_eq_some_iff.1 hi).1
      refine wp_val (v := vs.getD i undef) ?_ (c.pure h (fun m hm => hr m (List.mem_flatMap.2 ⟨r, List.mem_of_getElem? hi, hm⟩)) (by simp) (e3 i r hi))
      simp [execOp, ho, e1, Instr.extract, Array.getD_eq_getD_getElem?, hlt]
    · exact h.elim
  · exact h.elim
theorem op_move {x : Operand} {X : Slot} (ho : o.op = .move x) (c : Ctx E ti ψ sl bl U nx a w o.dst) (hX : SlotRep w (okS E bl ψ w) ψ bl a.tmps X (a.eval x)) (hr : ∀ m ∈ refsS X, U m) (hg : ∀ l s, X ≠ .gval l s) (h : R ⟨X, []⟩) :
    o.wp E.P a w (Next E sl bl U nx o.dst R) Q :=
  wp_val (v := a.eval x) (by simp [execOp, ho]) (c.pure h hr hg hX)
theorem op_pick {x y z : Operand} {X Y Z : Slot} (ho : o.op = .pick x y z) (c : Ctx E ti ψ sl bl U nx a w o.dst) (hX : SlotRep w (okS E bl ψ w) ψ bl a.tmps X (a.eval x))
    (hY : a.eval x = .bool true → SlotRep w (okS E bl ψ w) ψ bl a.tmps Y (a.eval y)) (hZ : a.eval x = .bool false → SlotRep w (okS E bl ψ w) ψ bl a.tmps Z (a.eval z)) (h : (ptPick X Y Z).All E.P E.gt R) :
    o.wp E.P a w (Next E sl bl U nx o.dst R) Q := by
  unfold ptPick at h
  split at h
  · rename_i p q r
    have hX : Rep w (okS E bl ψ w) (a.eval x) (.bool p) := hX
    have hx : a.eval x = .bool p := hX.bool_inv
    cases p with
    | true =>
      have hY : Rep w (okS E bl ψ w) (a.eval y) (.bool q) := hY hx
      exact wp_data (d := .bool q) (v := a.eval y) c (by simp [execOp, ho, hx, asBool]) h hY
    | false =>
      have hZ : Rep w (okS E bl ψ w) (a.eval z) (.bool r) := hZ hx
      exact wp_data (d := .bool r) (v := a.eval z) c (by simp [execOp, ho, hx, asBool]) h hZ
  · exact h.elim

/-! #### Addresses and loads -/
theorem op_load (hE : ∀ t i, ti t = some i → tiOf E.P t = some i) (hsub : Sub bl0 bl) {t : TypeId} {x : Operand} {X : Slot} (ho : o.op = .load t x) (c : Ctx E ti ψ sl bl U nx a w o.dst) (hX : SlotRep w (okS E bl ψ w) ψ bl a.tmps X (a.eval x)) (h : (ptLoad ti bl0 t X).All E.P E.gt R) :
    o.wp E.P a w (Next E sl bl U nx o.dst R) Q := by
  have fin : ∀ (ad : Addr) (v : Value), a.eval x = .pointer (some ad) → (loadVar t ad).run E.P w = .ok v w → (execOp a.eval o).run E.P w = .ok (.value v) w := by
    intro ad v h1 h2
    simp [execOp, ho, h1, Instr.loadAt, Instr.sureAddr, h2]
  unfold ptLoad at h
  split at h
  · exact h.elim
  · rename_i i hi
    obtain ⟨info, z, d0, g1, g2, g3, g4, g5, g6, g7, g8⟩ := ti_info hE hi
    split at h
    · -- a box
      rename_i n off
      split at h
      · rename_i cs hb
        have hb := hsub _ _ hb
        obtain ⟨b, vs, tt, k1, k2, k3, k4, k5⟩ := c.sim.blks n _ hb
        obtain ⟨b', e1, e2⟩ := hX (name_some hb)
        rw [k1] at e1
        injection e1 with e1; injection e1 with e1; injection e1 with e1
        subst e1
        have cellAt : ∀ j, j < vs.size → w.cell? ((⟨b, 0, none⟩ : Addr).add j) = some (vs.getD j undef) := by
          intro j hj
          rw [add_plain, Nat.zero_add]
          simp [World.cell?, k3, Array.getD_eq_getD_getElem?, hj]
        split at h
        · rename_i ha
          split at h
          · rename_i rs hp
            split at h
            · rename_i ds p hc
              have hc := cellsD_sub hsub hc
              have hfz := cellsD_frz hc
              obtain ⟨f1, f2, f3⟩ := cellsD_spec hc
              obtain ⟨q1, q2, q3, q4⟩ := partAt_spec hp
              obtain ⟨vs', hr', hrep⟩ := load_cells (P := E.P) (w := w) (ok := okS E (setB bl p) ψ w) (ds := ds) (ad := ⟨b, off, none⟩) f1 (fun j d hj => by
                obtain ⟨r, q', h1, h2, h3⟩ := f3 j d hj
                have hjl := (List.getElem?_eq_some_iff.1 h1).1
                rw [q3 j (by omega)] at h1
                have hv := (k5 (off + j) r h1).1
                refine ⟨vs.getD (off + j) undef, ?_, c.sim.toD hfz h2 h3 hv⟩
                have := cellAt (off + j) (by omega)
                rw [add_plain] at this ⊢
                rw [Nat.zero_add] at this
                exact this)
              refine wp_val (v := .agg vs') (fin _ _ e2 ?_) (c.pureFrz hfz h (fun m hm => by cases hm) (by simp) hrep)
              simp only [loadVar, Sem.run_bind, run_isAgg g2, ← g4, ha, Result.andThen_ok, if_true, run_size g1]
              rw [f2, q1, g5] at hr'
              simp [hr']
            · exact h.elim
          · exact h.elim
        · rename_i ha
          split at h
          · exact h.elim
          · rename_i r hne hp
            obtain ⟨q1, q2, q3, q4⟩ := partAt_spec hp
            have hr : cs[off]? = some r := by have := q3 0 (by omega); simpa using this.symm
            have hv := (k5 off r hr).1
            refine wp_val (v := vs.getD off undef) (fin _ _ e2 ?_) (c.pure h (fun m hm => c.sim.brefs n cs hb r (List.mem_of_getElem? hr) m hm) (by simp) hv)
            have := cellAt off (by rw [k4]; omega)
            rw [add_plain, Nat.zero_add] at this
            simp only [loadVar, Sem.run_bind, run_isAgg g2, ← g4, ha, Result.andThen_ok, Bool.false_eq_true, if_false]
            simp [this]
          · exact h.elim
      · rename_i cs hb
        have hb := hsub _ _ hb
        obtain ⟨b, k1, k2, k3, k4⟩ := c.sim.blks n _ hb
        obtain ⟨b', e1, e2⟩ := hX (name_some hb)
        rw [k1] at e1
        injection e1 with e1; injection e1 with e1; injection e1 with e1
        subst e1
        obtain ⟨l1, l2⟩ := load_row (w := w) (ok := okS E bl ψ w) g1 g2 (cs := cs) (ad := ⟨b, 0, none⟩) (off := off) k3 (fun j d hj => by
          rw [add_plain, Nat.zero_add]; exact k4 j d hj)
        rw [add_plain, Nat.zero_add] at l1 l2
        split at h
        · rename_i ha
          split at h
          · rename_i ds hp
            obtain ⟨v, hv1, hv2⟩ := l1 ds (by rw [← g4]; exact ha) (by rw [← g5]; exact hp)
            exact wp_val (fin _ _ e2 hv1) (c.data h hv2)
          · exact h.elim
        · rename_i ha
          split at h
          · rename_i d hp
            obtain ⟨v, hv1, hv2⟩ := l2 d (by rw [← g4]; exact ha) hp
            exact wp_val (fin _ _ e2 hv1) (c.data h hv2)
          · exact h.elim
      · exact h.elim
    · -- a frozen row
      rename_i cs off
      obtain ⟨ad, e1, e2, e3, e4⟩ := hX
      obtain ⟨l1, l2⟩ := load_row (w := w) (ok := okS E bl ψ w) g1 g2 (cs := cs) (ad := ad) (off := off) e3 e4
      split at h
      · rename_i ha
        split at h
        · rename_i ds hp
          obtain ⟨v, hv1, hv2⟩ := l1 ds (by rw [← g4]; exact ha) (by rw [← g5]; exact hp)
          exact wp_val (fin _ _ e1 hv1) (c.data h hv2)
        · exact h.elim
      · rename_i ha
        split at h
        · rename_i d hp
          obtain ⟨v, hv1, hv2⟩ := l2 d (by rw [← g4]; exact ha) hp
          exact wp_val (fin _ _ e1 hv1) (c.data h hv2)
        · exact h.elim
    · -- an element of a row of the call's own
      rename_i n j sz off
      split at h
      · rename_i e rows hb
        have hb := hsub _ _ hb
        obtain ⟨cs, hj, h⟩ := h
        dsimp only at h
        obtain ⟨xs, k1, k2, k3, k4, k5⟩ := c.sim.blks n _ hb
        obtain ⟨b, m, cc, e1, e2⟩ := hX (name_some hb)
        have hsz : cs.length = szOf E.P e := k3 cs (List.mem_of_getElem? hj)
        have hcur : ∃ cur, w.heap[b]? = some (.cells cur e (0, 0)) ∧ cur.toList.take (rows.length * szOf E.P e) = xs := by
          rcases k2.2 with ⟨hv, hn⟩ | ⟨g, cap, cur, hv, _, hg, _, _, _, ht⟩
          · rw [hv] at e1; cases e1
          · rw [hv] at e1
            injection e1 with e1; injection e1 with e1; injection e1 with e1
            subst e1
            exact ⟨cur, hg, ht⟩
        obtain ⟨cur, hg, ht⟩ := hcur
        have lr := fun off' => load_row (w := w) (ok := okS E bl ψ w) g1 g2 (cs := cs) (ad := ⟨b, j * szOf E.P e, none⟩) (off := off') (k4 cs (List.mem_of_getElem? hj)) (fun i d hi => by
          obtain ⟨u, hu, hr⟩ := k5 j cs i d hj hi
          refine ⟨u, ?_, hr⟩
          rw [add_plain]
          rw [← ht, List.getElem?_take] at hu
          split at hu
          · simp only [World.cell?, hg]
            simpa using hu
          · cases hu)
        split at h
        · rename_i hz ha
          have hz : cs.length = sz := Nat.eq_of_beq_eq_true hz
          split at h
          · rename_i ds hp
            obtain ⟨v, hv1, hv2⟩ := (lr off).1 ds (by rw [← g4]; exact ha) (by rw [← g5]; exact hp)
            rw [add_plain, ← hsz, hz] at hv1
            exact wp_val (fin _ _ e2 hv1) (c.data h hv2)
          · exact h.elim
        · rename_i hz ha
          have hz : cs.length = sz := Nat.eq_of_beq_eq_true hz
          split at h
          · rename_i d hp
            obtain ⟨v, hv1, hv2⟩ := (lr off).2 d (by rw [← g4]; exact ha) hp
            rw [add_plain, ← hsz, hz] at hv1
            exact wp_val (fin _ _ e2 hv1) (c.data h hv2)
          · exact h.elim
        · exact h.elim
      · exact h.elim
    · exact h.elim

theorem op_nilCheck (hsub : Sub bl0 bl) {x : Operand} {X : Slot} (ho : o.op = .nilCheck x) (c : Ctx E ti ψ sl bl U nx a w o.dst) (hX : SlotRep w (okS E bl ψ w) ψ bl a.tmps X (a.eval x)) (hr : ∀ m ∈ refsS X, U m)
    (h : (ptNilCheck bl0 X).All E.P E.gt R) : o.wp E.P a w (Next E sl bl U nx o.dst R) Q := by
  unfold ptNilCheck at h
  split at h
  · rename_i n off
    split at h
    · rename_i k hb
      obtain ⟨b, e1, e2⟩ := hX (name_some (hsub _ _ hb))
      refine wp_val (v := a.eval x) ?_ (c.pure h hr (by simp) hX)
      simp [execOp, ho, e2]
    · exact h.elim
  · rename_i cs off
    have hX' := hX
    obtain ⟨ad, e1, e2, e3, e4⟩ := hX
    refine wp_val (v := a.eval x) ?_ (c.pure h hr (by simp) hX')
    simp [execOp, ho, e1]
  · exact h.elim
theorem run_fieldAt {P : Program} {s : TypeId} {fields : Array Field} (hu : P.underlying s = some (.struct fields)) {f : Nat} {ty : TypeId} {off k : Nat} (hf : (fields.toList.map fun f => (f.type, f.offset, szOf P f.type))[f]? = some (ty, off, k + 1)) (w : World) (ad : Addr) :
    (Instr.fieldAt s (.pointer (some ad)) f).run P w = .ok (.pointer (some (ad.add off))) w := by
  rw [List.getElem?_map, Option.map_eq_some_iff] at hf
  obtain ⟨fd, h1, h2⟩ := hf
  simp only [Prod.mk.injEq] at h2
  obtain ⟨h2, h3, h4⟩ := h2
  have hsz : (sizeOf fd.type).run P w = .ok (k + 1) w := by
    unfold szOf at h4
    split at h4
    · rename_i i hi; rw [run_size hi, h4]
    · cases h4
  have h1' : fields[f]? = some fd := by simpa using h1
  simp [Instr.fieldAt, run_underlying hu, h1', Instr.sureAddr, fieldPlace, hsz, h3]
theorem op_fieldAddr (hE : ∀ t i, ti t = some i → tiOf E.P t = some i) (hsub : Sub bl0 bl) {s : TypeId} {f : Nat} {x : Operand} {X : Slot} (ho : o.op = .fieldAddr s x f) (c : Ctx E ti ψ sl bl U nx a w o.dst) (hX : SlotRep w (okS E bl ψ w) ψ bl a.tmps X (a.eval x)) (hr : ∀ m ∈ refsS X, U m) (h : (ptFieldAddr ti bl0 s X f).All E.P E.gt R) :
    o.wp E.P a w (Next E sl bl U nx o.dst R) Q := by
  unfold ptFieldAddr at h
  split at h
  · exact h.elim
  · rename_i i hi
    obtain ⟨info, z, d0, g1, g2, g3, g4, _⟩ := ti_info hE hi
    split at h
    · rename_i fs hk
      obtain ⟨fields, f1, f2⟩ := kind_struct (g4 ▸ hk)
      split at h
      · rename_i ty off k hf
        have run : ∀ ad : Addr, a.eval x = .pointer (some ad) → (execOp a.eval o).run E.P w = .ok (.value (.pointer (some (ad.add off)))) w := by
          intro ad e
          simp [execOp, ho, e, run_fieldAt f1 (f2 ▸ hf) w ad]
        split at h
        · rename_i n o'
          split at h
          · rename_i k' hb
            have hb := hsub _ _ hb
            obtain ⟨b, e1, e2⟩ := hX (name_some hb)
            refine wp_val (run _ e2) (c.pure h hr (by simp) (fun _ => ⟨b, e1, ?_⟩))
            rw [add_plain]
          · exact h.elim
        · rename_i cs o'
          obtain ⟨ad, e1, e2, e3, e4⟩ := hX
          refine wp_val (run _ e1) (c.pure h (fun m hm => by cases hm) (by simp) ⟨ad, ?_, e2, e3, e4⟩)
          rw [add_add]
        · rename_i n j sz o'
          split at h
          · rename_i k' hb
            have hb := hsub _ _ hb
            obtain ⟨b, m, cc, e1, e2⟩ := hX (name_some hb)
            refine wp_val (run _ e2) (c.pure h hr (by simp) (fun _ => ⟨b, m, cc, e1, ?_⟩))
            rw [add_plain, Nat.add_assoc]
          · exact h.elim
        · exact h.elim
      · exact h.elim
    · exact h.elim
theorem op_field (hE : ∀ t i, ti t = some i → tiOf E.P t = some i) {s : TypeId} {f : Nat} {x : Operand} {X : Slot} (ho : o.op = .field s x f) (c : Ctx E ti ψ sl bl U nx a w o.dst) (hX : SlotRep w (okS E bl ψ w) ψ bl a.tmps X (a.eval x)) (h : (ptField ti s X f).All E.P E.gt R) :
    o.wp E.P a w (Next E sl bl U nx o.dst R) Q := by
  unfold ptField at h
  split at h
  · rename_i i cs hi
    obtain ⟨info, z, d0, g1, g2, g3, g4, _⟩ := ti_info hE hi
    split at h
    · rename_i fs hk
      obtain ⟨fields, f1, f2⟩ := kind_struct (g4 ▸ hk)
      split at h
      · rename_i ty off sz hf
        split at h
        · rename_i it hit
          obtain ⟨info', z', d0', k1, k2, k3, k4, k5, _⟩ := ti_info hE hit
          subst f2
          rw [List.getElem?_map, Option.map_eq_some_iff] at hf
          obtain ⟨fd, h1, h2⟩ := hf
          simp only [Prod.mk.injEq] at h2
          obtain ⟨h2, h3, h4⟩ := h2
          have h1' : fields[f]? = some fd := by simpa using h1
          have hX : Rep w (okS E bl ψ w) (a.eval x) (.agg cs) := hX
          obtain ⟨vx, hvx⟩ : ∃ vx, a.eval x = .agg vx := hX.agg_inv
          rw [hvx] at hX
          split at h
          · rename_i ha
            split at h
            · rename_i ds hp
              obtain ⟨v, hv1, hv2⟩ := run_part k1 k2 hX (k5 ▸ hp) (fun h => by rw [← k4, ha] at h; cases h)
              rw [← k4, ha] at hv2
              refine wp_val (v := v) ?_ (c.data h hv2)
              simp [execOp, ho, hvx, Instr.field, run_underlying f1, h1', asAgg, h2, h3, hv1]
            · exact h.elim
          · rename_i ha
            split at h
            · rename_i d hp
              -- a cell
              have hd : cs[off]? = some d := by have := (partAt_spec hp).2.2.1 0 (by omega); simpa using this.symm
              cases hX with
              | agg _ _ hl hc hrr =>
                have hlt : off < vx.size := by rw [hl]; exact (List.getElem?_eq_some_iff.1 hd).1
                refine wp_val (v := vx.getD off undef) ?_ (c.data h (hrr off d hd))
                have hpart : (part ty vx off).run E.P w = .ok (vx.getD off undef) w := by
                  simp only [part, Sem.run_bind, run_isAgg k2, ← k4, ha, Result.andThen_ok, Bool.false_eq_true, if_false]
                  simp [Array.getD_eq_getD_getElem?, hlt]
                simp [execOp, ho, hvx, Instr.field, run_underlying f1, h1', asAgg, h2, h3, hpart]
            · exact h.elim
        · exact h.elim
      · exact h.elim
    · exact h.elim
  · exact h.elim
theorem getRow_spec {rows : List (List D)} {n : Int} {r : List D} (h : getRow rows n = some r) : 0 ≤ n ∧ rows[n.toNat]? = some r ∧ n.toNat < rows.length := by
  unfold getRow at h
  split at h
  · exact ⟨by assumption, h, (List.getElem?_eq_some_iff.1 h).1⟩
  · cases h
theorem getPart_spec {cs ds : List D} {off n : Nat} (h : getPart cs off n = some ds) : partAt cs off n = some ds := by
  unfold getPart at h
  unfold partAt
  split at h
  · rename_i hle
    rw [show Nat.ble (off + n) cs.length = true from Nat.ble_eq_true_of_le hle]
    exact h
  · cases h
theorem Frz.box {m : Nat} {rs : List RV} {cs : List D} {p : Pch} (hb : bl m = some (.box rs)) (hc : cellsD bl rs = some (cs, p)) : Frz bl ((m, some (.frob cs)) :: p) := by
  intro x hx
  rcases List.mem_cons.1 hx with rfl | hx
  · exact .inr ⟨rs, cs, p, hb, rfl, hc, fun y hy => List.mem_cons_of_mem _ hy⟩
  · rcases cellsD_frz hc x hx with h1 | ⟨cs', ds, q', h1, h2, h3, h4⟩
    · exact .inl h1
    · exact .inr ⟨cs', ds, q', h1, h2, h3, fun y hy => List.mem_cons_of_mem _ (h4 y hy)⟩
theorem frz_box {m : Nat} {rs : List RV} {cs : List D} {p q : Pch} (h : Frz bl p) (hb : bl m = some (.box rs)) (hc : cellsD bl rs = some (cs, q)) (hm : (m, some (.frob cs)) ∈ p) : setB bl p m = some (.frob cs) := by
  refine setB_mem hm (fun x hx e => ?_)
  rcases h x hx with ⟨e', rows', h1, h2⟩ | ⟨cs', ds', q', h1, h2, h3, h4⟩
  · rw [e, hb] at h1; cases h1
  · rw [e, hb] at h1
    injection h1 with h1; injection h1 with h1
    subst h1
    rw [hc] at h3
    injection h3 with h3
    rw [h2, (Prod.mk.inj h3).1]
theorem op_indexAddr {lit : Bool} (hE : ∀ t i, ti t = some i → tiOf E.P t = some i) (hsub : Sub bl0 bl) {t : TypeId} {x y : Operand} {X Y : Slot} (ho : o.op = .indexAddr t x y) (c : Ctx E ti ψ sl bl U nx a w o.dst) (hX : SlotRep w (okS E bl ψ w) ψ bl a.tmps X (a.eval x)) (hY : SlotRep w (okS E bl ψ w) ψ bl a.tmps Y (a.eval y)) (hr : ∀ m ∈ refsS X, U m)
    (h : (ptIndexAddr ti bl0 lit t X Y).All E.P E.gt R) : o.wp E.P a w (Next E sl bl U nx o.dst R) Q := by
  unfold ptIndexAddr at h
  split at h
  · rename_i i k n hi
    obtain ⟨info, z, d0, g1, g2, g3, g4, _⟩ := ti_info hE hi
    have hy : a.eval y = .int k n := by
      have hY : Rep w (okS E bl ψ w) (a.eval y) (.int k n) := hY
      exact hY.int_inv
    split at h
    · rename_i e hk
      have hu := kind_slice (g4 ▸ hk)
      split at h
      · rename_i ie hie
        obtain ⟨info', z', d0', k1, k2, k3, k4, k5, _⟩ := ti_info hE hie
        have run : ∀ (A : Addr) (len cap : Nat), a.eval x = .slice (some A) len cap → 0 ≤ n → n < len → (execOp a.eval o).run E.P w = .ok (.value (.pointer (some (A.add (n.toNat * ie.size))))) w := by
          intro A len cap e1 e3 e4
          simp [execOp, ho, e1, hy, Instr.indexAt, asIntOf, run_underlying hu, run_size k1, ← k5, e3, e4]
        have frz : ∀ (rows : List (List D)), Rep w (okS E bl ψ w) (a.eval x) (.slice rows) → (PT.opt (getRow rows n) (rowPT ie.size)).All E.P E.gt R → o.wp E.P a w (Next E sl bl U nx o.dst R) Q := by
          intro rows hrep h
          obtain ⟨cs, hrow, h⟩ := h
          obtain ⟨n0, hrow, hlt⟩ := getRow_spec hrow
          unfold rowPT at h
          split at h
          · rename_i hz
            have hz : cs.length = ie.size := Nat.eq_of_beq_eq_true hz
            generalize hx : a.eval x = vx at *
            cases hrep with
            | slice A m cc _ sz ad vs hl hc hm hsz hcell hA hv hrr =>
              obtain ⟨hA1, hA2⟩ := hA (by omega)
              subst hA1
              have hs : sz = ie.size := by rw [← hsz cs (List.mem_of_getElem? hrow)]; exact hz
              subst hs
              refine wp_val (run ad m cc rfl n0 (by omega)) (c.pure h (fun m hm => by cases hm) (by simp) ⟨ad.add (n.toNat * ie.size), by rw [add_add, Nat.add_zero], by rw [add_block]; exact hA2, fun d hd => hcell cs (List.mem_of_getElem? hrow) d hd, fun j d hj => ⟨vs n.toNat j, ?_, hrr _ _ _ _ hrow hj⟩⟩)
              rw [add_add]
              exact hv _ _ _ _ hrow hj
          · exact h.elim
        split at h
        · rename_i rows
          exact frz rows hX h
        · rename_i m
          split at h
          · rename_i e' rows hb
            have hb := hsub _ _ hb
            split at h
            · rename_i he
              have he : e = e' := Nat.eq_of_beq_eq_true he
              subst he
              obtain ⟨cs, hrow, h⟩ := h
              obtain ⟨n0, hrow, hlt⟩ := getRow_spec hrow
              obtain ⟨xs, b1, b2, _⟩ := c.sim.blks m _ hb
              have hv : a.eval x = ψ m := hX (name_some hb)
              rcases b2.2 with ⟨hv', hn⟩ | ⟨g, cap, cur, hv', _⟩
              · omega
              · refine wp_val (run ⟨g, 0, none⟩ rows.length cap (hv.trans hv') n0 (by omega)) (c.pure h hr (by simp) (fun _ => ⟨g, rows.length, cap, hv', ?_⟩))
                rw [add_plain, Nat.zero_add, Nat.add_zero]
            · exact h.elim
          · rename_i rows hb
            have hb := hsub _ _ hb
            have hv : a.eval x = ψ m := hX (name_some hb)
            exact frz rows (hv ▸ c.sim.blks m _ hb) h
          · exact h.elim
        · exact h.elim
      · exact h.elim
    · rename_i len e hk
      have hu := kind_array (g4 ▸ hk)
      split at h
      · rename_i ie hie
        obtain ⟨info', z', d0', k1, k2, k3, k4, k5, _⟩ := ti_info hE hie
        have run : ∀ (A : Addr), a.eval x = .pointer (some A) → 0 ≤ n → n < len → (execOp a.eval o).run E.P w = .ok (.value (.pointer (some (A.add (n.toNat * ie.size))))) w := by
          intro A e1 e3 e4
          simp [execOp, ho, e1, hy, Instr.indexAt, asIntOf, run_underlying hu, run_size k1, ← k5, e3, e4, Instr.sureAddr]
        split at h
        · rename_i cs off
          obtain ⟨⟨n0, n1⟩, r, hp, h⟩ := h
          obtain ⟨q1, q2, q3, q4⟩ := partAt_spec (getPart_spec hp)
          obtain ⟨ad, e1, e2, e3, e4⟩ := hX
          refine wp_val (run _ e1 n0 n1) (c.pure h (fun m hm => by cases hm) (by simp) ⟨(ad.add off).add (n.toNat * ie.size), by rw [add_add _ _ 0, Nat.add_zero], by rw [add_block, add_block]; exact e2, fun d hd => e3 d (q4 d hd), fun j d hj => ?_⟩)
          have hjl := (List.getElem?_eq_some_iff.1 hj).1
          rw [q3 j (by omega)] at hj
          obtain ⟨u, hu1, hu2⟩ := e4 _ d hj
          exact ⟨u, by rw [add_add, add_add]; rw [← hu1]; congr 2; omega, hu2⟩
        · rename_i m off
          split at h
          · split at h
            · rename_i k' hb
              have hb := hsub _ _ hb
              obtain ⟨⟨n0, n1⟩, h⟩ := h
              obtain ⟨b, e1, e2⟩ := hX (name_some hb)
              exact wp_val (run _ e2 n0 n1) (c.pure h hr (by simp) (fun _ => ⟨b, e1, by rw [add_plain]⟩))
            · exact h.elim
          have boxed : ∀ (bl' : Blks) (b : Nat) (cs : List D), okS E bl' ψ w b → (∀ d ∈ cs, D.isCell d = true) → (∀ (j : Nat) (d : D), cs[j]? = some d → ∃ u, w.cell? ⟨b, j, none⟩ = some u ∧ Rep w (okS E bl' ψ w) u d) → ∀ r, getPart cs (off + n.toNat * ie.size) ie.size = some r →
              SlotRep w (okS E bl' ψ w) ψ bl' a.tmps (.row r 0) (.pointer (some ((⟨b, off, none⟩ : Addr).add (n.toNat * ie.size)))) := by
            intro bl' b cs hok hcell hcs r hp
            obtain ⟨q1, q2, q3, q4⟩ := partAt_spec (getPart_spec hp)
            refine ⟨(⟨b, off, none⟩ : Addr).add (n.toNat * ie.size), by rw [add_add _ _ 0, Nat.add_zero], by rw [add_block]; exact hok, fun d hd => hcell d (q4 d hd), fun j d hj => ?_⟩
            have hjl := (List.getElem?_eq_some_iff.1 hj).1
            rw [q3 j (by omega)] at hj
            obtain ⟨u, hu1, hu2⟩ := hcs _ d hj
            refine ⟨u, ?_, hu2⟩
            rw [add_plain, add_plain]
            exact hu1
          split at h
          · rename_i rs hb
            have hb := hsub _ _ hb
            split at h
            · rename_i cs p hc
              have hc := cellsD_sub hsub hc
              obtain ⟨⟨n0, n1⟩, r, hp, h⟩ := h
              obtain ⟨b, e1, e2⟩ := hX (name_some hb)
              have hfz := Frz.box hb hc
              have hm : setB bl ((m, some (.frob cs)) :: p) m = some (.frob cs) := frz_box hfz hb hc List.mem_cons_self
              obtain ⟨b', f1, f2, f3, f4⟩ := (c.sim.frz hfz).2.blks m _ hm
              rw [f1] at e1
              injection e1 with e1; injection e1 with e1; injection e1 with e1
              subst e1
              exact wp_val (run _ e2 n0 n1) (c.pureFrz hfz h (fun m hm => by cases hm) (by simp) (boxed _ b' cs f2 f3 f4 r hp))
            · exact h.elim
          · rename_i cs hb
            have hb := hsub _ _ hb
            obtain ⟨⟨n0, n1⟩, r, hp, h⟩ := h
            obtain ⟨b, e1, e2⟩ := hX (name_some hb)
            obtain ⟨b', f1, f2, f3, f4⟩ := c.sim.blks m _ hb
            rw [f1] at e1
            injection e1 with e1; injection e1 with e1; injection e1 with e1
            subst e1
            exact wp_val (run _ e2 n0 n1) (c.pure h (fun m hm => by cases hm) (by simp) (boxed _ b' cs f2 f3 f4 r hp))
          · exact h.elim
        · exact h.elim
      · exact h.elim
    · exact h.elim
  · exact h.elim
end
end Go.Eng
