/- The engine, part 7: cuts, lengths, literals, closures. Conditions: none. -/
import Derived.Test.YtkiolflkkbfaiaaDoorEngF
set_option linter.unusedVariables false
set_option linter.unusedSimpArgs false
namespace Go.Eng
open Go.RowKit
section
variable {E : Env} {ti : TypeId → Option TI} {ψ : Nat → Value} {sl : Nat → Slot} {bl bl0 : Blks} {U : Nat → Prop} {nx : Nat} {a : Act} {w : World} {dst : Option Nat} {o : Oper} {R : Patch → Prop} {Q : Exit → Act → World → Prop}

theorem bt_spec {s : ByteArray} {n : Int} (h0 : 0 ≤ n) (h : n < s.size) : ∃ b : UInt8, s[n.toNat]? = some b ∧ bt s n = b.toNat := by
  have hlt : n.toNat < s.size := by omega
  refine ⟨s[n.toNat], ?_, ?_⟩
  · simp [hlt]
  · simp [bt, hlt]
theorem op_index (hE : ∀ t i, ti t = some i → tiOf E.P t = some i) {t : TypeId} {x y : Operand} {X Y : Slot} (ho : o.op = .index t x y) (c : Ctx E ti ψ sl bl U nx a w o.dst) (hX : SlotRep w (okS E bl ψ w) ψ bl a.tmps X (a.eval x)) (hY : SlotRep w (okS E bl ψ w) ψ bl a.tmps Y (a.eval y))
    (h : (ptIndex ti t X Y).All E.P E.gt R) : o.wp E.P a w (Next E sl bl U nx o.dst R) Q := by
  unfold ptIndex at h
  split at h
  · rename_i i s k n hi
    obtain ⟨info, z, d0, g1, g2, g3, g4, _⟩ := ti_info hE hi
    have hx := Rep.str_inv (w := w) (show Rep w (okS E bl ψ w) (a.eval x) (.str s) from hX)
    have hy := Rep.int_inv (w := w) (show Rep w (okS E bl ψ w) (a.eval y) (.int k n) from hY)
    split at h
    · rename_i hk
      have hu := kind_str (g4 ▸ hk)
      obtain ⟨⟨n0, n1⟩, h⟩ := h
      obtain ⟨b, hb, he⟩ := bt_spec n0 n1
      refine wp_val (v := .int .u8 (bt s n)) ?_ (c.data h (.int _ _))
      simp [execOp, ho, hx.1, hy, Instr.index, asIntOf, run_underlying hu, n0, hb, he]
    · exact h.elim
  · rename_i i cs k n hi
    obtain ⟨info, z, d0, g1, g2, g3, g4, _⟩ := ti_info hE hi
    have hX : Rep w (okS E bl ψ w) (a.eval x) (.agg cs) := hX
    obtain ⟨vx, hx⟩ := hX.agg_inv
    have hy := Rep.int_inv (w := w) (show Rep w (okS E bl ψ w) (a.eval y) (.int k n) from hY)
    rw [hx] at hX
    split at h
    · rename_i len e hk
      have hu := kind_array (g4 ▸ hk)
      split at h
      · rename_i ie hie
        obtain ⟨info', z', d0', k1, k2, k3, k4, k5, _⟩ := ti_info hE hie
        split at h
        · rename_i ha
          obtain ⟨⟨n0, n1⟩, r, hp, h⟩ := h
          obtain ⟨v, hv1, hv2⟩ := run_part k1 k2 hX (k5 ▸ getPart_spec hp) (fun h => by rw [← k4, ha] at h; cases h)
          rw [← k4, ha] at hv2
          refine wp_val (v := v) ?_ (c.data h hv2)
          simp [execOp, ho, hx, hy, Instr.index, asIntOf, run_underlying hu, run_size k1, n0, n1, k5] at hv1 ⊢
          rw [hv1]; rfl
        · rename_i ha
          obtain ⟨⟨n0, n1⟩, r, hp, h⟩ := h
          dsimp only at h
          split at h
          · rename_i d
            have hd : cs[n.toNat * ie.size]? = some d := by have := (partAt_spec (getPart_spec hp)).2.2.1 0 (by omega); simpa using this.symm
            cases hX with
            | agg _ _ hl hc hrr =>
              have hlt : n.toNat * ie.size < vx.size := by rw [hl]; exact (List.getElem?_eq_some_iff.1 hd).1
              refine wp_val (v := vx.getD (n.toNat * ie.size) undef) ?_ (c.data h (hrr _ d hd))
              have hpart : (part e vx (n.toNat * info'.size)).run E.P w = .ok (vx.getD (n.toNat * ie.size) undef) w := by
                rw [← k5]
                simp only [part, Sem.run_bind, run_isAgg k2, ← k4, ha, Result.andThen_ok, Bool.false_eq_true, if_false]
                simp [Array.getD_eq_getD_getElem?, hlt]
              simp [execOp, ho, hx, hy, Instr.index, asIntOf, run_underlying hu, run_size k1, n0, n1, hpart]
          · exact h.elim
      · exact h.elim
    · exact h.elim
  · exact h.elim
/-! #### Cuts -/
theorem run_bound {P : Program} (w : World) (k : IntKind) (i : Int) (y : Nat) (code : BoundsCode) (h0 : 0 ≤ i) (h1 : i ≤ y) : (Instr.sliceBound (.int k i) y code).run P w = .ok i.toNat w := by
  simp [Instr.sliceBound, asIntOf, h0, h1]
/-- An optional bound: its slot, its value. -/
def OptRep (w : World) (ok : Nat → Prop) (ψ : Nat → Value) (bl : Blks) (tm : Array Value) : Option Slot → Option Value → Prop
  | none, none => True
  | some s, some v => SlotRep w ok ψ bl tm s v
  | _, _ => False
theorem opt_int {ok : Nat → Prop} {tm : Array Value} {s : Option Slot} {v : Option Value} {dflt n : Int} (h : OptRep w ok ψ bl tm s v) (hi : intOr s dflt = some n) : (v = none ∧ n = dflt) ∨ ∃ k, v = some (.int k n) := by
  cases s with
  | none =>
    cases v with
    | none => simp [intOr] at hi; exact .inl ⟨rfl, hi.symm⟩
    | some v => exact h.elim
  | some s =>
    cases v with
    | none => exact h.elim
    | some v =>
      unfold intOr at hi
      split at hi
      · rename_i e; cases e
      · rename_i k n' e
        injection hi with hi
        subst hi
        injection e with e
        subst e
        exact .inr ⟨k, by rw [Rep.int_inv (w := w) (show Rep w ok v (.int k n') from h)]⟩
      · cases hi
theorem run_bounds {P : Program} (w : World) (isS : Bool) (len cap : Nat) (lo hi : Option Value) (l h : Int) (hl : (lo = none ∧ l = 0) ∨ ∃ k, lo = some (.int k l)) (hh : (hi = none ∧ h = len) ∨ ∃ k, hi = some (.int k h)) (h0 : 0 ≤ l) (h1 : l ≤ h) (h2 : h ≤ cap) :
    (Instr.sliceBounds isS len cap lo hi none).run P w = .ok (l.toNat, h.toNat, cap) w := by
  have h3 : 0 ≤ h := by omega
  have h4 : ((h.toNat : Nat) : Int) = h := Int.toNat_of_nonneg h3
  have e1 : ∀ k, (Instr.sliceBound (.int k h) cap (if isS = true then .sliceAcap else .sliceAlen)).run P w = .ok h.toNat w := fun k => run_bound w k h cap _ h3 h2
  have e2 : ∀ k, (Instr.sliceBound (.int k l) h.toNat .sliceB).run P w = .ok l.toNat w := fun k => run_bound w k l h.toNat _ h0 (by omega)
  rcases hl with ⟨rfl, rfl⟩ | ⟨k, rfl⟩ <;> rcases hh with ⟨rfl, e⟩ | ⟨k', rfl⟩ <;>
    simp [Instr.sliceBounds, e1, e2]
  · omega
  · have e3 : h.toNat = len := by omega
    rw [← e3, e2]; rfl
theorem run_bounds3 {P : Program} (w : World) (len cap : Nat) (lo : Option Value) (l h m : Int) (kh km : IntKind) (hl : (lo = none ∧ l = 0) ∨ ∃ k, lo = some (.int k l)) (h0 : 0 ≤ l) (h1 : l ≤ h) (h2 : h ≤ m) (h3 : m ≤ cap) :
    (Instr.sliceBounds true len cap lo (some (.int kh h)) (some (.int km m))).run P w = .ok (l.toNat, h.toNat, m.toNat) w := by
  have e0 : ∀ code, (Instr.sliceBound (.int km m) cap code).run P w = .ok m.toNat w := fun code => run_bound w km m cap code (by omega) h3
  have e1 : ∀ code, (Instr.sliceBound (.int kh h) m.toNat code).run P w = .ok h.toNat w := fun code => run_bound w kh h m.toNat code (by omega) (by omega)
  have e2 : ∀ k code, (Instr.sliceBound (.int k l) h.toNat code).run P w = .ok l.toNat w := fun k code => run_bound w k l h.toNat code h0 (by omega)
  rcases hl with ⟨rfl, rfl⟩ | ⟨k, rfl⟩ <;> simp [Instr.sliceBounds, e0, e1, e2]
/-- A cut of rows that are read. -/
theorem rep_cut {ok : Nat → Prop} {A : Option Addr} {n c : Nat} {rows : List (List D)} (hr : Rep w ok (.slice A n c) (.slice rows)) {l h m : Nat} (h1 : l ≤ h) (h2 : h ≤ n) (h3 : h ≤ m) (h4 : m ≤ c) {sz : Nat} (hs : ∀ r ∈ rows, r.length = sz) :
    Rep w ok (.slice (if m = l then A else A.map (·.add (l * sz))) (h - l) (m - l)) (.slice ((rows.take h).drop l)) := by
  cases hr with
  | slice _ _ _ _ sz' ad vs hl hc hm hsz hcell hA hv hrr =>
    have hget : ∀ i r, ((rows.take h).drop l)[i]? = some r → i < h - l ∧ rows[l + i]? = some r := by
      intro i r hi
      rw [List.getElem?_drop, List.getElem?_take] at hi
      split at hi
      · exact ⟨by omega, hi⟩
      · cases hi
    have hmem : ∀ r ∈ (rows.take h).drop l, r ∈ rows := fun r hr => List.mem_of_mem_take (List.mem_of_mem_drop hr)
    refine .slice _ _ _ _ sz' (ad.add (l * sz')) (fun i j => vs (l + i) j) (by simp; omega) (by omega) (by omega) (fun r hr => hsz r (hmem r hr)) (fun r hr => hcell r (hmem r hr)) (fun hp => ?_) (fun i r j d hi hj => ?_) (fun i r j d hi hj => hrr _ _ _ _ (hget i r hi).2 hj)
    · obtain ⟨e, hok⟩ := hA (by omega)
      have hne : rows ≠ [] := by intro e'; subst e'; simp at hl; omega
      obtain ⟨r0, hr0⟩ := List.exists_mem_of_ne_nil rows hne
      have hss : sz = sz' := (hs r0 hr0).symm.trans (hsz r0 hr0)
      subst hss
      rw [if_neg (by omega), e]
      exact ⟨rfl, by rw [add_block]; exact hok⟩
    · have := hv (l + i) r j d (hget i r hi).2 hj
      rw [add_add, show l * sz' + (i * sz' + j) = (l + i) * sz' + j by rw [Nat.add_mul]; omega]
      exact this
theorem op_slice (hE : ∀ t i, ti t = some i → tiOf E.P t = some i) (hsub : Sub bl0 bl) {t : TypeId} {x : Operand} {lo hi mx : Option Operand} {X : Slot} {L H M : Option Slot} (ho : o.op = .slice t x lo hi mx) (c : Ctx E ti ψ sl bl U nx a w o.dst) (hX : SlotRep w (okS E bl ψ w) ψ bl a.tmps X (a.eval x))
    (hL : OptRep w (okS E bl ψ w) ψ bl a.tmps L (lo.map a.eval)) (hH : OptRep w (okS E bl ψ w) ψ bl a.tmps H (hi.map a.eval)) (hM : OptRep w (okS E bl ψ w) ψ bl a.tmps M (mx.map a.eval)) (h : (ptSlice ti bl0 t X L H M).All E.P E.gt R) :
    o.wp E.P a w (Next E sl bl U nx o.dst R) Q := by
  unfold ptSlice at h
  split at h
  · exact h.elim
  · rename_i i hti
    obtain ⟨info, z, d0, g1, g2, g3, g4, _⟩ := ti_info hE hti
    split at h
    · rename_i hk
      have hu := kind_str (g4 ▸ hk)
      split at h
      · rename_i s
        obtain ⟨hx, hsz⟩ := Rep.str_inv (w := w) (show Rep w (okS E bl ψ w) (a.eval x) (.str s) from hX)
        split at h
        · rename_i l hh hl' hh'
          obtain ⟨⟨n0, n1, n2⟩, h⟩ := h
          have hmx : mx = none := by cases mx with | none => rfl | some m => exact hM.elim
          have hb := run_bounds (P := E.P) w false s.size s.size (lo.map a.eval) (hi.map a.eval) l hh (opt_int hL hl') (opt_int hH hh') n0 n1 n2
          refine wp_val (v := .string (s.extract l.toNat hh.toNat)) ?_ (c.data h (.str _ (by rw [ByteArray.size_extract]; omega)))
          subst hmx
          simp [execOp, ho, hx, Instr.sliceAt, run_underlying hu, Instr.slice, hb]
        · exact h.elim
      · exact h.elim
    · rename_i e hk
      have hu := kind_slice (g4 ▸ hk)
      split at h
      · rename_i ie rows p hie hv
        obtain ⟨info', z', d0', k1, k2, k3, k4, k5, _⟩ := ti_info hE hie
        obtain ⟨r, rfl, hd⟩ := valsOf_spec hsub hv
        have hfz := toD_frz hd
        have hrep := c.sim.toD hfz hd (fun y hy => hy) hX
        obtain ⟨A, n, cc, hx⟩ : ∃ A n cc, a.eval x = .slice A n cc := by
          generalize a.eval x = vx at hrep
          cases hrep; exact ⟨_, _, _, rfl⟩
        rw [hx] at hrep
        have hlen : rows.length = n ∧ n ≤ cc := by cases hrep with | slice _ _ _ _ _ _ _ hl hc _ _ _ _ _ _ => exact ⟨hl, hc⟩
        split at h
        · rename_i l hh hl' hh'
          obtain ⟨⟨⟨n0, n1, n2⟩, hw⟩, h⟩ := h
          have hmx : mx = none := by cases mx with | none => rfl | some m => exact hM.elim
          have hb := run_bounds (P := E.P) w true n cc (lo.map a.eval) (hi.map a.eval) l hh (opt_int hL hl') (by rw [← hlen.1]; exact opt_int hH hh') n0 n1 (by omega)
          refine wp_val (v := .slice (if cc = l.toNat then A else A.map (·.add (l.toNat * ie.size))) (hh.toNat - l.toNat) (cc - l.toNat)) ?_ (c.pureFrz hfz h (fun m hm => by cases hm) (by simp) (rep_cut hrep (by omega) (by omega) (by omega) (Nat.le_refl _) hw))
          subst hmx
          simp [execOp, ho, hx, Instr.sliceAt, run_underlying hu, Instr.slice, hb, run_size k1, k5]
        · rename_i l hh km m hl' hh'
          split at h
          · rename_i hs
            obtain ⟨⟨⟨n0, n1, n2, n3⟩, hw⟩, h⟩ := h
            obtain ⟨mo, hmo⟩ : ∃ mo, mx = some mo := by cases mx with | none => exact hM.elim | some m => exact ⟨m, rfl⟩
            subst hmo
            have hmv := Rep.int_inv (w := w) (show Rep w (okS E bl ψ w) (a.eval mo) (.int km m) from hM)
            obtain ⟨ho', hho⟩ : ∃ ho', hi = some ho' := by cases hi with | none => exact hH.elim | some m => exact ⟨m, rfl⟩
            subst hho
            obtain ⟨kh, hhv⟩ : ∃ kh, a.eval ho' = .int kh hh := by
              rcases opt_int hH hh' with ⟨e, _⟩ | ⟨k, e⟩
              · cases e
              · injection e with e; exact ⟨k, e⟩
            have hb := run_bounds3 (P := E.P) w n cc (lo.map a.eval) l hh m kh km (opt_int hL hl') n0 n1 n2 (by omega)
            refine wp_val (v := .slice (if m.toNat = l.toNat then A else A.map (·.add (l.toNat * ie.size))) (hh.toNat - l.toNat) (m.toNat - l.toNat)) ?_ (c.pureFrz hfz h (fun m hm => by cases hm) (by simp) (rep_cut hrep (by omega) (by omega) (by omega) (by omega) hw))
            simp [execOp, ho, hx, Instr.sliceAt, run_underlying hu, Instr.slice, hmv, hhv, hb, run_size k1, k5]
          · exact h.elim
        · exact h.elim
      · exact h.elim
    · exact h.elim
theorem op_len (hE : ∀ t i, ti t = some i → tiOf E.P t = some i) (hsub : Sub bl0 bl) {cl : Call} {t : TypeId} {x : Operand} {X : Slot} (ho : o.op = .call cl) (hc : cl.callee = .builtin .len) (ht : cl.argTypes = #[t]) (hx : cl.args = #[x]) (c : Ctx E ti ψ sl bl U nx a w o.dst) (hX : SlotRep w (okS E bl ψ w) ψ bl a.tmps X (a.eval x))
    (h : (ptLen ti bl0 t X).All E.P E.gt R) : o.wp E.P a w (Next E sl bl U nx o.dst R) Q := by
  have run : ∀ v, (Builtin.len_ #[t] o.type #[a.eval x]).run E.P w = .ok v w → (execOp a.eval o).run E.P w = .ok (.value v) w := by
    intro v hv
    simp [execOp, ho, resolve, hc, ht, hx, invoke, builtin, hv]
  unfold ptLen at h
  split at h
  · exact h.elim
  · rename_i i hi
    obtain ⟨info, z, d0, g1, g2, g3, g4, _⟩ := ti_info hE hi
    split at h
    · rename_i s hk
      have hu := kind_str (g4 ▸ hk)
      obtain ⟨e, _⟩ := Rep.str_inv (w := w) (show Rep w (okS E bl ψ w) (a.eval x) (.str s) from hX)
      exact wp_val (run (.int .i64 s.size) (by simp [Builtin.len_, run_underlying hu, e, goInt])) (c.data h (.int _ _))
    · rename_i e hk
      have hu := kind_slice (g4 ▸ hk)
      have fin : ∀ A n cc (rows : List (List D)), a.eval x = .slice A n cc → rows.length = n → R ⟨.rv (.val (.int .i64 rows.length)), []⟩ → o.wp E.P a w (Next E sl bl U nx o.dst R) Q := by
        intro A n cc rows e1 e2 hR
        subst e2
        exact wp_val (run (.int .i64 rows.length) (by simp [Builtin.len_, run_underlying hu, e1, goInt])) (c.data hR (.int _ _))
      split at h
      · rename_i rows hr
        unfold rowsOf at hr
        split at hr
        · injection hr with hr
          subst hr
          have hX : Rep w (okS E bl ψ w) (a.eval x) (.slice _) := hX
          generalize hvx : a.eval x = vx at hX
          cases hX with
          | slice A n cc _ _ _ _ hl _ _ _ _ _ _ _ => exact fin A n cc _ hvx hl h
        · rename_i m
          split at hr
          · rename_i e' rows' hb
            injection hr with hr
            subst hr
            have hb := hsub _ _ hb
            have hv : a.eval x = ψ m := hX (name_some hb)
            obtain ⟨xs, b1, b2, _⟩ := c.sim.blks m _ hb
            rcases b2.2 with ⟨hv', hn⟩ | ⟨g, cap, cur, hv', _⟩
            · exact fin none 0 0 _ (hv.trans hv') hn h
            · exact fin _ _ cap _ (hv.trans hv') rfl h
          · rename_i rows' hb
            injection hr with hr
            subst hr
            have hb := hsub _ _ hb
            have hv : a.eval x = ψ m := hX (name_some hb)
            have hrep : Rep w (okS E bl ψ w) (ψ m) (.slice rows') := c.sim.blks m _ hb
            rw [← hv] at hrep
            generalize hvx : a.eval x = vx at hrep
            cases hrep with
            | slice A n cc _ _ _ _ hl _ _ _ _ _ _ _ => exact fin A n cc _ hvx hl h
          · cases hr
        · injection hr with hr
          subst hr
          exact fin none 0 0 [] hX rfl h
        · cases hr
      · exact h.elim
    · rename_i n e hk
      have hu := kind_array (g4 ▸ hk)
      refine wp_val (run (.int .i64 n) ?_) (c.data h (.int _ _))
      simp only [Builtin.len_, List.getElem?_toArray, List.getElem?_cons_zero, Sem.run_bind, run_underlying hu, Result.andThen_ok]
      cases a.eval x <;> rfl
    · exact h.elim
theorem fold_run {P : Program} {ok : Nat → Prop} {tm : Array Value} (w : World) (isMax : Bool) (k : IntKind) : ∀ (xs : List Slot) (vs : List Value) (m n : Int), xs.length = vs.length → (∀ (i : Nat) (s : Slot) (v : Value), xs[i]? = some s → vs[i]? = some v → SlotRep w ok ψ bl tm s v) → foldMin isMax k m xs = some n →
    (vs.foldlM (if isMax then Builtin.max2 else Builtin.min2) (.int k m)).run P w = .ok (.int k n) w
  | [], [], m, n, _, _, h => by simp [foldMin] at h; subst h; simp
  | [], _ :: _, _, _, hl, _, _ => by simp at hl
  | _ :: _, [], _, _, hl, _, _ => by simp at hl
  | s :: xs, v :: vs, m, n, hl, hv, h => by
    unfold foldMin at h
    split at h
    · rename_i e; cases e
    · rename_i k' b r e
      obtain ⟨e1, e2⟩ := List.cons.inj e
      subst e1 e2
      have hb := Rep.int_inv (w := w) (show Rep w ok v (.int k' b) from hv 0 _ v rfl rfl)
      subst hb
      have ih := fold_run (P := P) (ok := ok) (tm := tm) w isMax k xs vs _ n (by simpa using hl) (fun i s v h1 h2 => hv (i + 1) s v (by simpa using h1) (by simpa using h2)) h
      cases isMax
      · simp only [List.foldlM_cons, Bool.false_eq_true, if_false, Sem.run_bind, Builtin.min2, Sem.run_pure, Result.andThen_ok] at ih ⊢
        exact ih
      · simp only [List.foldlM_cons, if_true, Sem.run_bind, Builtin.max2, Sem.run_pure, Result.andThen_ok] at ih ⊢
        exact ih
    · cases h
theorem op_min (isMax : Bool) {cl : Call} {xs : List Slot} (ho : o.op = .call cl) (hc : cl.callee = .builtin (if isMax then .max else .min)) (c : Ctx E ti ψ sl bl U nx a w o.dst) (hl : xs.length = cl.args.size)
    (hX : ∀ (i : Nat) (s : Slot) (v : Value), xs[i]? = some s → (cl.args.map a.eval)[i]? = some v → SlotRep w (okS E bl ψ w) ψ bl a.tmps s v) (h : (ptMin isMax xs).All E.P E.gt R) : o.wp E.P a w (Next E sl bl U nx o.dst R) Q := by
  unfold ptMin at h
  split at h
  · rename_i k m r
    split at h
    · rename_i n hf
      obtain ⟨v0, vs, hvs⟩ : ∃ v0 vs, (cl.args.map a.eval).toList = v0 :: vs := by
        match hh : (cl.args.map a.eval).toList with
        | [] => have := congrArg List.length hh; simp at this; rw [this] at hl; simp at hl
        | v0 :: vs => exact ⟨v0, vs, rfl⟩
      have hget : ∀ i : Nat, (cl.args.map a.eval)[i]? = (v0 :: vs)[i]? := fun i => by rw [← hvs]; simp
      have h0 := Rep.int_inv (w := w) (show Rep w (okS E bl ψ w) v0 (.int k m) from hX 0 _ v0 rfl (by rw [hget]; rfl))
      subst h0
      have hlen : r.length = vs.length := by
        have := congrArg List.length hvs
        simp at this hl
        omega
      have hrun := fold_run (P := E.P) w isMax k r vs m n hlen (fun i s v h1 h2 => hX (i + 1) s v (by simpa using h1) (by rw [hget]; simpa using h2)) hf
      refine wp_val (v := .int k n) ?_ (c.data h (.int _ _))
      have hvs' : List.map a.eval cl.args.toList = .int k m :: vs := by rw [← hvs]; simp
      cases isMax
      · simp only [Bool.false_eq_true, if_false] at hc hrun
        simp [execOp, ho, resolve, hc, invoke, builtin, Builtin.min_, hvs', hrun]
      · simp only [if_true] at hc hrun
        simp [execOp, ho, resolve, hc, invoke, builtin, Builtin.max_, hvs', hrun]
    · exact h.elim
  · exact h.elim
end
end Go.Eng
