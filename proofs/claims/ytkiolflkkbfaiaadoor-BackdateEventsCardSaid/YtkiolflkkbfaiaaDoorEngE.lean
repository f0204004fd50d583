/- The engine, part 5: each operation, run from a state that fits. Conditions: none. -/
import Derived.Test.YtkiolflkkbfaiaaDoorEngD
set_option linter.unusedVariables false
set_option linter.unusedSimpArgs false
namespace Go.Eng
open Go.RowKit

structure Ctx (E : Env) (ti : TypeId → Option TI) (ψ : Nat → Value) (sl : Nat → Slot) (bl : Blks) (U : Nat → Prop) (nx : Nat) (a : Act) (w : World) (dst : Option Nat) : Prop where
  fresh : ∀ m, nx ≤ m → m < nx + 8 → ¬ U m
  good : E.Good
  hti : ∀ t i, ti t = some i → tiOf E.P t = some i
  sim : SimP E ψ sl bl U a w
  hmen : ∀ d, dst = some d → ∀ i l s', sl i = .gval l s' → ∀ x ∈ l, x.1 ≠ d
  hds : ∀ d, dst = some d → d < E.n
/-- The names that are taken, with the eight from nx on. -/
def Un (U : Nat → Prop) (nx : Nat) (m : Nat) : Prop := U m ∨ (nx ≤ m ∧ m < nx + 8)
theorem Un.old {U : Nat → Prop} {U : Nat → Prop} {nx : Nat} : ∀ m, U m → Un U nx m := fun _ h => .inl h
def Next (E : Env) (sl : Nat → Slot) (bl : Blks) (U : Nat → Prop) (nx : Nat) (dst : Option Nat) (R : Patch → Prop) (a' : Act) (w' : World) : Prop :=
  ∃ p, R p ∧ Sim E (setS sl dst p.slot) (setB bl p.blks) (Un U nx) a' w' ∧ ∀ l s, p.slot ≠ .gval l s
section
variable {E : Env} {ti : TypeId → Option TI} {ψ : Nat → Value} {sl : Nat → Slot} {bl : Blks} {U : Nat → Prop} {nx : Nat} {a : Act} {w : World} {dst : Option Nat} {o : Oper} {R : Patch → Prop} {Q : Exit → Act → World → Prop}

theorem wp_val {P : Program} {K : Act → World → Prop} {v : Value} {w' : World} (hrun : (execOp a.eval o).run P w = .ok (.value v) w') (h : K (a.put o.dst v) w') : o.wp P a w K Q := by
  unfold Oper.wp; rw [hrun]; exact h
theorem wp_skipv {P : Program} {K : Act → World → Prop} {w' : World} (hrun : (execOp a.eval o).run P w = .ok .skip w') (h : K (a.put o.dst undef) w') : o.wp P a w K Q := by
  unfold Oper.wp; rw [hrun]; exact h
theorem setB_nil (bl : Blks) : setB bl [] = bl := rfl
/-- A slot's word doesn't lean on the other temporaries, if it isn't a guarded one. -/
theorem SlotRep.tm {ok : Nat → Prop} {tm tm' : Array Value} {s : Slot} {v : Value} (hg : ∀ l s', s ≠ .gval l s') (h : SlotRep w ok ψ bl tm s v) : SlotRep w ok ψ bl tm' s v := by
  cases s with
  | gval l s => exact absurd rfl (hg l s)
  | _ => exact h
theorem Ctx.pure (c : Ctx E ti ψ sl bl U nx a w dst) {s : Slot} {v : Value} (hR : R ⟨s, []⟩) (hr : ∀ m ∈ refsS s, U m) (hg : ∀ l s', s ≠ .gval l s') (hs : SlotRep w (okS E bl ψ w) ψ bl a.tmps s v) : Next E sl bl U nx dst R (a.put dst v) w :=
  ⟨_, hR, ⟨ψ, c.sim.pure (Un.old (U := U) (nx := nx)) (fun m hm => .inl (hr m hm)) (fun l l' s' => hg l _) c.hmen c.hds (hs.tm hg)⟩, hg⟩
theorem Ctx.data (c : Ctx E ti ψ sl bl U nx a w dst) {d : D} {v : Value} (hR : R ⟨.rv (.val d), []⟩) (hs : Rep w (okS E bl ψ w) v d) : Next E sl bl U nx dst R (a.put dst v) w :=
  c.pure hR (fun m hm => by cases hm) (by simp) hs
theorem Ctx.pureFrz (c : Ctx E ti ψ sl bl U nx a w dst) {s : Slot} {v : Value} {p : Pch} (hp : Frz bl p) (hR : R ⟨s, p⟩) (hr : ∀ m ∈ refsS s, U m) (hg : ∀ l s', s ≠ .gval l s') (hs : SlotRep w (okS E (setB bl p) ψ w) ψ (setB bl p) a.tmps s v) : Next E sl bl U nx dst R (a.put dst v) w :=
  ⟨_, hR, ⟨ψ, (c.sim.frz hp).2.pure (Un.old (U := U) (nx := nx)) (fun m hm => .inl (hr m hm)) (fun l l' s' => hg l _) c.hmen c.hds (hs.tm hg)⟩, hg⟩
theorem wp_data {d : D} {v : Value} (c : Ctx E ti ψ sl bl U nx a w o.dst) (hrun : (execOp a.eval o).run E.P w = .ok (.value v) w) (hR : R ⟨.rv (.val d), []⟩) (hs : Rep w (okS E bl ψ w) v d) : o.wp E.P a w (Next E sl bl U nx o.dst R) Q :=
  wp_val hrun (c.data hR hs)

/-! #### int, bool, string operations -/
theorem run_bin_int {P : Program} {op : BinOp} {t : TypeId} {k : IntKind} {m n : Int} (w : World) (hop : op ≠ .shl) (hop' : op ≠ .shr) (h : (binI op k m n).All P E.gt R) :
    ∃ d v, R ⟨.rv (.val d), []⟩ ∧ Rep w (okS E bl ψ w) v d ∧ (binOp op t (.int k m) (.int k n)).run P w = .ok v w := by
  cases op <;> simp only [binI, PT.valOk, PT.All] at h <;> first
    | exact absurd rfl hop
    | exact absurd rfl hop'
    | exact ⟨_, _, h, .int _ _, by simp [binOp, Op.intArith, Op.intBits, Op.intCmp, bitsI]⟩
    | exact ⟨_, _, h, .bool _, by simp [binOp, Op.intArith, Op.intBits, Op.intCmp, bitsI]⟩
    | (obtain ⟨h0, h⟩ := h; exact ⟨_, _, h, .int _ _, by simp [binOp, Op.intDiv, h0]⟩)
theorem eqGuard_int {P : Program} (w : World) (op : BinOp) (t : TypeId) (x y : Operand) (k k' : IntKind) (m n : Int) : (eqGuard op t x y (.int k m) (.int k' n)).run P w = .ok () w := by
  unfold eqGuard; split <;> simp
theorem eqGuard_bool {P : Program} (w : World) (op : BinOp) (t : TypeId) (x y : Operand) (m n : Bool) : (eqGuard op t x y (.bool m) (.bool n)).run P w = .ok () w := by
  unfold eqGuard; split <;> simp
theorem eqGuard_str {P : Program} (w : World) (op : BinOp) (t : TypeId) (x y : Operand) (m n : ByteArray) : (eqGuard op t x y (.string m) (.string n)).run P w = .ok () w := by
  unfold eqGuard; split <;> simp
theorem eqGuard_slice {P : Program} (w : World) (op : BinOp) (t : TypeId) (x y : Operand) (A B : Option Addr) (n c m e : Nat) : (eqGuard op t x y (.slice A n c) (.slice B m e)).run P w = .ok () w := by
  unfold eqGuard; split <;> simp
theorem run_bin_str {P : Program} {op : BinOp} {t : TypeId} {m n : ByteArray} (w : World) (h : (binS op m n).All P E.gt R) :
    ∃ d v, R ⟨.rv (.val d), []⟩ ∧ Rep w (okS E bl ψ w) v d ∧ (binOp op t (.string m) (.string n)).run P w = .ok v w := by
  cases op <;> simp only [binS, PT.valOk, PT.All] at h
  case add =>
    obtain ⟨h0, h⟩ := h
    refine ⟨_, _, h, .str _ (by rw [ByteArray.size_append]; exact h0), ?_⟩
    have : ¬ (((m.size + n.size : Nat) : Int) > IntKind.i64.max) := by
      have e : IntKind.i64.max = 9223372036854775807 := by decide
      rw [e]; omega
    simp only [binOp, Op.stringOp]
    rw [if_neg this]
    rfl
  all_goals first
    | exact h.elim
    | exact ⟨_, _, h, .bool _, by simp [binOp, Op.stringOp]⟩
theorem kindEq_spec {k k' : IntKind} (h : kindEq k k' = true) : k = k' := by
  cases k <;> cases k' <;> simp [kindEq] at h <;> rfl
/-- One cell, or an aggregate: how a part reads. -/
def PartRep (w : World) (ok : Nat → Prop) (agg : Bool) (p : List D) (v : Value) : Prop := match agg with
  | true => Rep w ok v (.agg p)
  | false => ∃ d, p = [d] ∧ Rep w ok v d
theorem run_part {ok : Nat → Prop} {P : Program} {ty : TypeId} {info : TypeInfo} {d0 : TypeDesc} (hi : P.info? ty = some info) (hu : P.underlying ty = some d0) {xs : Array Value} {ds p : List D} {off : Nat} (hx : Rep w ok (.agg xs) (.agg ds)) (hp : partAt ds off info.size = some p)
    (h1 : (kindOf P ty).isAgg = false → info.size = 1) : ∃ v, (part ty xs off).run P w = .ok v w ∧ PartRep w ok (kindOf P ty).isAgg p v := by
  obtain ⟨q1, q2, q3, q4⟩ := partAt_spec hp
  cases hx with
  | agg _ _ hl hc hr =>
    simp only [part, Sem.run_bind, run_isAgg hu, Result.andThen_ok]
    cases ha : (kindOf P ty).isAgg with
    | true =>
      simp only [if_true, Sem.run_bind, run_size hi, Result.andThen_ok]
      refine ⟨.agg (xs.extract off (off + info.size)), rfl, .agg _ _ ?_ (fun d hd => hc d (q4 d hd)) (fun i d hd => ?_)⟩
      · simp; omega
      · have hil := (List.getElem?_eq_some_iff.1 hd).1
        rw [q3 i (by omega)] at hd
        have := hr (off + i) d hd
        have e : (xs.extract off (off + info.size)).getD i undef = xs.getD (off + i) undef := by
          simp only [Array.getD_eq_getD_getElem?]
          rw [Array.getElem?_extract, if_pos (by omega)]
        rw [e]; exact this
    | false =>
      have hs := h1 ha
      rw [hs] at q1 q2 q3
      have hlt : off < xs.size := by omega
      simp only [Bool.false_eq_true, if_false]
      obtain ⟨d, rfl⟩ : ∃ d, p = [d] := by
        match p, q1 with
        | [d], _ => exact ⟨d, rfl⟩
      have hd : ds[off]? = some d := by have := q3 0 (by omega); simpa using this.symm
      have := hr off d hd
      refine ⟨xs.getD off undef, ?_, d, rfl, this⟩
      simp [Array.getD_eq_getD_getElem?, hlt]
theorem eqT_run (hti : ∀ t i, ti t = some i → tiOf E.P t = some i) {ok : Nat → Prop} : ∀ (n m : Nat) (t : TypeId) (p q : List D) (b : Bool) (u v : Value), eqT ti n t p q = some b → PartRep w ok (kindOf E.P t).isAgg p u → PartRep w ok (kindOf E.P t).isAgg q v →
    (Op.equalIn (n + m) t u v).run E.P w = .ok b w := by
  intro n
  induction n with
  | zero => intro m t p q b u v h; simp [eqT] at h
  | succ n ih =>
    intro m t p q b u v h hu hv
    rw [show n + 1 + m = (n + m) + 1 by omega]
    unfold eqT at h
    split at h
    · cases h
    · rename_i i hi
      obtain ⟨info, z, d0, g1, g2, g3, g4, g5, g6, g7, g8⟩ := ti_info hti hi
      split at h
      · rename_i kk k a k' b' hk
        split at h
        · rename_i hkk
          have hkk := kindEq_spec hkk
          subst hkk
          injection h with h
          subst h
          rw [← g4, hk] at hu hv
          obtain ⟨_, e1, r1⟩ := hu
          obtain ⟨_, e2, r2⟩ := hv
          injection e1 with e1; subst e1
          injection e2 with e2; subst e2
          cases r1; cases r2
          exact run_equalIn_int w _ t _ kk _ _ (kind_int (g4 ▸ hk))
        · cases h
      · rename_i a b' hk
        injection h with h
        subst h
        rw [← g4, hk] at hu hv
        obtain ⟨_, e1, r1⟩ := hu
        obtain ⟨_, e2, r2⟩ := hv
        injection e1 with e1; subst e1
        injection e2 with e2; subst e2
        cases r1; cases r2
        exact run_equalIn_bool' w _ t _ _ (kind_bool (g4 ▸ hk))
      · rename_i a b' hk
        injection h with h
        subst h
        rw [← g4, hk] at hu hv
        obtain ⟨_, e1, r1⟩ := hu
        obtain ⟨_, e2, r2⟩ := hv
        injection e1 with e1; subst e1
        injection e2 with e2; subst e2
        cases r1; cases r2
        exact run_equalIn_string w _ t _ _ (kind_str (g4 ▸ hk))
      · rename_i fs hk
        split at h
        · rename_i hq
          obtain ⟨fields, f1, f2⟩ := kind_struct (g4 ▸ hk)
          rw [← g4, hk] at hu hv
          have hu : Rep w ok u (.agg _) := hu
          have hv : Rep w ok v (.agg _) := hv
          rw [g8] at hq
          unfold eqOk at hq
          rw [f1] at hq
          simp only [Bool.and_eq_true, Bool.not_eq_true'] at hq
          obtain ⟨⟨hq1, _⟩, hq2⟩ := hq
          have hf : E.P.fieldsOf t = fields := by simp [Program.fieldsOf, f1]
          cases hu with
          | agg xs _ hl hc hr =>
            cases hv with
            | agg ys _ hl' hc' hr' =>
              rw [run_equalIn_struct w _ t xs ys (by rw [hf]; exact f1) hq1, hf]
              subst f2
              have hx : Rep w ok (.agg xs) (.agg _) := .agg xs _ hl hc hr
              have hy : Rep w ok (.agg ys) (.agg _) := .agg ys _ hl' hc' hr'
              clear hl hc hr hl' hc' hr' f1 hf hk
              generalize fields.toList = fl at h hq2
              revert b h
              induction fl with
              | nil => intro b h; simp [eqFs] at h; subst h; simp [Op.eqFields]
              | cons f r ihf =>
                intro b h
                simp only [List.all_cons, Bool.and_eq_true] at hq2
                simp only [List.map_cons, eqFs] at h
                split at h
                · rename_i p1 q1 hp1 hq1'
                  split at h
                  · rename_i b1 c1 hb1 hc1
                    injection h with h
                    subst h
                    have ht : ∃ it, ti f.type = some it := by
                      cases n with
                      | zero => simp [eqT] at hb1
                      | succ n => unfold eqT at hb1; split at hb1; cases hb1; exact ⟨_, by assumption⟩
                    obtain ⟨it, hit⟩ := ht
                    obtain ⟨inf, z', d', k1, k2, k3, k4, k5, k6, k7, k8⟩ := ti_info hti hit
                    rw [szOf_info k1] at hp1 hq1'
                    have hone : (kindOf E.P f.type).isAgg = false → inf.size = 1 := by
                      intro ha
                      have e1 : p1.length = inf.size := (partAt_spec hp1).1
                      rw [← e1]
                      cases n with
                      | zero => simp [eqT] at hb1
                      | succ n =>
                        unfold eqT at hb1
                        rw [hit] at hb1
                        simp only at hb1
                        split at hb1
                        · rfl
                        · rfl
                        · rfl
                        · rename_i hkk; rw [← k4, hkk] at ha; simp [TK.isAgg] at ha
                        · cases hb1
                    obtain ⟨u1, hu1, hr1⟩ := run_part k1 k2 hx hp1 hone
                    obtain ⟨v1, hv1, hr2⟩ := run_part k1 k2 hy hq1' hone
                    have he := ih m f.type p1 q1 b1 u1 v1 hb1 hr1 hr2
                    have hne : f.name ≠ "_" := by simpa using hq2.1
                    simp only [Op.eqFields, if_pos hne, Sem.run_bind, hu1, hv1, he, Result.andThen_ok, Sem.run_ite, Sem.run_pure]
                    cases b1
                    · simp
                    · simp only [Bool.not_true, Bool.false_eq_true, if_false, Bool.true_and]
                      exact ihf hq2.2 c1 hc1
                  · cases h
                · cases h
        · cases h
      · cases h
theorem run_eq_slice {P : Program} {t e : TypeId} (hb : P.underlying t = some (.slice e)) (w : World) (A : Option Addr) (n c d : Nat) : (Op.equalIn (d + 1) t (.slice A n c) (.slice none 0 0)).run P w = .ok A.isNone w := by
  cases A <;> simp only [Op.equalIn, Sem.run_bind, run_underlying hb, Result.andThen_ok] <;> rfl
theorem run_binOp_eql {P : Program} {t : TypeId} {x y : Value} {b : Bool} (w : World) (h : (Op.equalIn 10000 t x y).run P w = .ok b w) (hx : (∃ b c, x = .bool b ∧ y = .bool c) ∨ (∃ A n c, x = .slice A n c ∧ y = .slice none 0 0)) :
    (binOp .eql t x y).run P w = .ok (.bool b) w ∧ (binOp .neq t x y).run P w = .ok (.bool (!b)) w := by
  rcases hx with ⟨b', c', rfl, rfl⟩ | ⟨A, n, c, rfl, rfl⟩ <;> constructor <;> simp only [binOp, Op.equal, Op.maxDepth, Sem.run_bind, h, Result.andThen_ok, Sem.run_pure]
theorem op_bin (hE : ∀ t i, ti t = some i → tiOf E.P t = some i) {op : BinOp} {t u : TypeId} {x y : Operand} {X Y : Slot} (ho : o.op = .binOp op t x y u) (c : Ctx E ti ψ sl bl U nx a w o.dst)
    (hX : SlotRep w (okS E bl ψ w) ψ bl a.tmps X (a.eval x)) (hY : SlotRep w (okS E bl ψ w) ψ bl a.tmps Y (a.eval y)) (h : (ptBin ti t op X Y).All E.P E.gt R) :
    o.wp E.P a w (Next E sl bl U nx o.dst R) Q := by
  have run : ∀ v, (eqGuard op t x y (a.eval x) (a.eval y)).run E.P w = .ok () w → (binOp op t (a.eval x) (a.eval y)).run E.P w = .ok v w → (execOp a.eval o).run E.P w = .ok (.value v) w := by
    intro v h1 h2
    simp [execOp, ho, h1, h2]
  unfold ptBin at h
  split at h
  · rename_i k m k' n
    generalize hx : a.eval x = vx at *
    generalize hy : a.eval y = vy at *
    cases hX; cases hY
    split at h
    · obtain ⟨h0, h⟩ := h
      refine wp_data (d := .int k (k.wrap (m * 2 ^ (min n.toNat k.bits)))) c (run (.int k (k.wrap (m * 2 ^ (min n.toNat k.bits)))) (eqGuard_int w _ _ _ _ _ _ _ _) ?_) h (.int _ _)
      simp [binOp, Op.shift, show ¬ n < 0 by omega]
    · obtain ⟨h0, h⟩ := h
      refine wp_data (d := .int k (m.fdiv (2 ^ (min n.toNat k.bits)))) c (run (.int k (m.fdiv (2 ^ (min n.toNat k.bits)))) (eqGuard_int w _ _ _ _ _ _ _ _) ?_) h (.int _ _)
      simp [binOp, Op.shift, show ¬ n < 0 by omega]
    · rename_i h1 h2
      split at h
      · rename_i hk
        have hk := kindEq_spec hk
        subst hk
        obtain ⟨d, v, hR, hrep, hrun⟩ := run_bin_int (E := E) (bl := bl) (ψ := ψ) (t := t) (P := E.P) w h1 h2 h
        exact wp_data c (run _ (eqGuard_int w _ _ _ _ _ _ _ _) hrun) hR hrep
      · exact h.elim
  · rename_i m n
    generalize hx : a.eval x = vx at *
    generalize hy : a.eval y = vy at *
    cases hX; cases hY
    obtain ⟨d, v, hR, hrep, hrun⟩ := run_bin_str (E := E) (bl := bl) (ψ := ψ) (t := t) (P := E.P) w h
    exact wp_data c (run _ (eqGuard_str w _ _ _ _ _ _) hrun) hR hrep
  · rename_i m n
    generalize hx : a.eval x = vx at *
    generalize hy : a.eval y = vy at *
    cases hX; cases hY
    split at h
    · rename_i i hi
      split at h
      · rename_i hk
        obtain ⟨info, z, d0, g1, g2, g3, g4, _⟩ := ti_info hE hi
        have hb : E.P.underlying t = some .bool := kind_bool (g4 ▸ hk)
        refine wp_data (d := .bool (m == n)) c (run (.bool (m == n)) (eqGuard_bool w _ _ _ _ _ _) ?_) h (.bool _)
        exact (run_binOp_eql w (run_equalIn_bool' w 9999 t m n hb) (.inl ⟨_, _, rfl, rfl⟩)).1
      · exact h.elim
    · rename_i i hi
      split at h
      · rename_i hk
        obtain ⟨info, z, d0, g1, g2, g3, g4, _⟩ := ti_info hE hi
        have hb : E.P.underlying t = some .bool := kind_bool (g4 ▸ hk)
        refine wp_data (d := .bool (!(m == n))) c (run (.bool (!(m == n))) (eqGuard_bool w _ _ _ _ _ _) ?_) h (.bool _)
        exact (run_binOp_eql w (run_equalIn_bool' w 9999 t m n hb) (.inl ⟨_, _, rfl, rfl⟩)).2
      · exact h.elim
    · exact h.elim
  · rename_i rows
    generalize hx : a.eval x = vx at *
    generalize hy : a.eval y = vy at *
    have hY : vy = .slice none 0 0 := hY
    subst hY
    cases hX with
    | slice A n cc _ sz ad vs hl hc hm hsz hcell hA hv hr =>
    split at h
    · rename_i i hi
      split at h
      · rename_i e hk
        obtain ⟨info, z, d0, g1, g2, g3, g4, _⟩ := ti_info hE hi
        have hb : E.P.underlying t = some (.slice e) := kind_slice (g4 ▸ hk)
        have hnil : A.isNone = true → rows = [] := by
          intro hA'
          cases A with
          | some x => simp at hA'
          | none =>
            rcases Nat.eq_zero_or_pos n with h0 | h0
            · exact List.eq_nil_of_length_eq_zero (by omega)
            · have := (hA h0).1; cases this
        refine wp_data (d := .bool A.isNone) c (run (.bool A.isNone) (eqGuard_slice w _ _ _ _ _ _ _ _ _ _) ?_) (h _ hnil) (.bool _)
        exact (run_binOp_eql w (run_eq_slice hb w A n cc 9999) (.inr ⟨_, _, _, rfl, rfl⟩)).1
      · exact h.elim
    · rename_i i hi
      split at h
      · rename_i e hk
        obtain ⟨info, z, d0, g1, g2, g3, g4, _⟩ := ti_info hE hi
        have hb : E.P.underlying t = some (.slice e) := kind_slice (g4 ▸ hk)
        have hnil : A.isNone = true → rows = [] := by
          intro hA'
          cases A with
          | some x => simp at hA'
          | none =>
            rcases Nat.eq_zero_or_pos n with h0 | h0
            · exact List.eq_nil_of_length_eq_zero (by omega)
            · have := (hA h0).1; cases this
        refine wp_data (d := .bool (!A.isNone)) c (run (.bool (!A.isNone)) (eqGuard_slice w _ _ _ _ _ _ _ _ _ _) ?_) (h _ hnil) (.bool _)
        exact (run_binOp_eql w (run_eq_slice hb w A n cc 9999) (.inr ⟨_, _, _, rfl, rfl⟩)).2
      · exact h.elim
    · exact h.elim
  · rename_i xs ys
    generalize hx : a.eval x = vx at *
    generalize hy : a.eval y = vy at *
    have hX : Rep w (okS E bl ψ w) vx (.agg xs) := hX
    have hY : Rep w (okS E bl ψ w) vy (.agg ys) := hY
    split at h
    · rename_i i hi
      split at h
      · rename_i fs b hk he
        obtain ⟨info, z, d0, g1, g2, g3, g4, g5, g6, g7, g8⟩ := ti_info hE hi
        have hq := eqT_run (w := w) (ok := okS E bl ψ w) hE 20 9980 t xs ys b vx vy he (by rw [← g4, hk]; exact hX) (by rw [← g4, hk]; exact hY)
        have heq : i.eqok = true := by
          unfold eqT at he
          rw [hi] at he
          simp only [hk] at he
          split at he
          · assumption
          · cases he
        rw [g8] at heq
        unfold eqOk at heq
        obtain ⟨fields, f1, f2⟩ := kind_struct (g4 ▸ hk)
        rw [f1] at heq
        simp only [Bool.and_eq_true, Bool.not_eq_true'] at heq
        cases hX with
        | agg cx _ _ _ _ =>
          cases hY with
          | agg cy _ _ _ _ =>
            refine wp_data (d := .bool b) c (run (.bool b) (run_eqGuard_agg w _ _ _ _ _ _ heq.1.2) ?_) h (.bool _)
            rw [run_eql_struct, hq]; rfl
      · exact h.elim
    · rename_i i hi
      split at h
      · rename_i fs b hk he
        obtain ⟨info, z, d0, g1, g2, g3, g4, g5, g6, g7, g8⟩ := ti_info hE hi
        have hq := eqT_run (w := w) (ok := okS E bl ψ w) hE 20 9980 t xs ys b vx vy he (by rw [← g4, hk]; exact hX) (by rw [← g4, hk]; exact hY)
        have heq : i.eqok = true := by
          unfold eqT at he
          rw [hi] at he
          simp only [hk] at he
          split at he
          · assumption
          · cases he
        rw [g8] at heq
        unfold eqOk at heq
        obtain ⟨fields, f1, f2⟩ := kind_struct (g4 ▸ hk)
        rw [f1] at heq
        simp only [Bool.and_eq_true, Bool.not_eq_true'] at heq
        cases hX with
        | agg cx _ _ _ _ =>
          cases hY with
          | agg cy _ _ _ _ =>
            refine wp_data (d := .bool (!b)) c (run (.bool (!b)) (run_eqGuard_agg w _ _ _ _ _ _ heq.1.2) ?_) h (.bool _)
            rw [run_neq_struct, hq]; rfl
      · exact h.elim
    · exact h.elim
  · exact h.elim
end
end Go.Eng
