/- The engine, part 4: what a call is handed and hands back; one operation's run. Conditions: none. -/
import Derived.Test.YtkiolflkkbfaiaaDoorEngC
import Derived.Laws.CopyRow
import Derived.Laws.Cells
import Derived.Laws.Tables
import Derived.Great.BuildSlice
import Derived.Laws.MakeOwn
import Derived.Laws.StructEq
set_option linter.unusedVariables false
set_option linter.unusedSimpArgs false
namespace Go.Eng
open Go.RowKit

def ArgRep (w : World) (ok : Nat → Prop) : Arg → Value → Prop
  | .val d, v => Rep w ok v d
  | .row cs, v => ∃ ad : Addr, v = .pointer (some ad) ∧ ok ad.block ∧ (∀ d ∈ cs, D.isCell d = true) ∧ ∀ (j : Nat) (d : D), cs[j]? = some d → ∃ u, w.cell? (ad.add j) = some u ∧ Rep w ok u d
def RRRep (P : Program) (B : Nat) (w : World) (ok : Nat → Prop) : RR → Value → Prop
  | .val d, v => Rep w ok v d
  | .own e rows, v => ∃ xs : List Value, 0 < szOf P e ∧ w.ownsRow B e (szOf P e) v rows.length xs ∧ (∀ r ∈ rows, r.length = szOf P e) ∧ (∀ r ∈ rows, ∀ d ∈ r, D.isCell d = true) ∧
      (∀ (i : Nat) (r : List D) (j : Nat) (d : D), rows[i]? = some r → r[j]? = some d → ∃ u, xs[i * szOf P e + j]? = some u ∧ Rep w ok u d) ∧ ∀ b, ptrBlock v = some b → ¬ ok b
def RR.isOwn : RR → Bool
  | .own _ _ => true
  | _ => false
def tupV (vs : List Value) : Value := match vs with
  | [u] => u
  | vs => .tuple vs.toArray
def RetRep (P : Program) (B : Nat) (w : World) (ok : Nat → Prop) (rs : List RR) (v : Value) : Prop :=
  ∃ vs : List Value, vs.length = rs.length ∧ v = tupV vs ∧ (∀ (i : Nat) (r : RR), rs[i]? = some r → RRRep P B w ok r (vs.getD i undef)) ∧
    ∀ (i j : Nat) (r s : RR), rs[i]? = some r → rs[j]? = some s → r.isOwn = true → s.isOwn = true → i ≠ j → ptrBlock (vs.getD i undef) = none ∨ ptrBlock (vs.getD i undef) ≠ ptrBlock (vs.getD j undef)
/-- A call of function f with values vs comes to R: by its body, or by what the model says of a function without one. -/
def Does (P : Program) (f : FuncId) (vs : Array Value) (w : World) (R : Value → World → Prop) : Prop :=
  ((∃ fn, P.funcs[f]? = some fn ∧ fn.body.isSome = true ∧ (fn.name == "runtime.NumGoroutine") = false) ∧ Calls P f vs w fun e w' => ∃ v, e = .returned v ∧ R v w') ∨
  ∃ v, (callFunc f vs).run P w = .ok (.value v) w ∧ R v w
/-- THE CONTRACT of a function at these arguments. -/
def Spec (P : Program) (gt : Nat → Option (List D)) (f : FuncId) (args : List Arg) (rs : List RR) : Prop :=
  ∀ (w : World) (vs : Array Value) (ok : Nat → Prop), (∀ b, ok b → b < w.heap.size) → GlobOK gt w ok → vs.size = args.length → (∀ (i : Nat) (a : Arg), args[i]? = some a → ArgRep w ok a (vs.getD i undef)) →
    Does P f vs w fun v w' => Below w.heap.size w w' ∧ ∃ okr : Nat → Prop, (∀ b, okr b → (ok b ∨ w.heap.size ≤ b) ∧ b < w'.heap.size) ∧ RetRep P w.heap.size w' okr rs v

/-- An operation's tree, whatever real choices: its patch meets R. -/
def PT.All (P : Program) (gt : Nat → Option (List D)) : PT → (Patch → Prop) → Prop
  | .fail, _ => False
  | .ok p, R => R p
  | .need h k, R => h ∧ PT.All P gt k R
  | .opt o k, R => ∃ x, o = some x ∧ PT.All P gt (k x) R
  | .call f as k, R => ∃ rs, Spec P gt f as rs ∧ PT.All P gt (k rs) R
  | .anyNil rows k, R => ∀ b, (b = true → rows = []) → PT.All P gt (k b) R

/-! ### Types -/
section
variable {P : Program} {ti : TypeId → Option TI}
theorem ti_info (hti : ∀ t i, ti t = some i → tiOf P t = some i) {t : TypeId} {i : TI} (h : ti t = some i) :
    ∃ info z d, P.info? t = some info ∧ P.underlying t = some d ∧ info.zero = some z ∧ i.kind = kindOf P t ∧ i.size = info.size ∧ i.bytes = info.bytes ∧ i.zero = z.cells.toList.map zeroRV ∧ i.eqok = eqOk P t := by
  have := hti t i h
  unfold tiOf at this
  split at this
  · rename_i info d hi hd
    split at this
    · rename_i z hz
      injection this with this
      subst this
      exact ⟨info, z, d, hi, hd, hz, rfl, rfl, rfl, rfl, rfl⟩
    · cases this
  · cases this
theorem kind_slice {t e : TypeId} (h : kindOf P t = .slice e) : P.underlying t = some (.slice e) := by
  unfold kindOf at h
  split at h <;> simp_all
theorem kind_str {t : TypeId} (h : kindOf P t = .str) : P.underlying t = some .string := by
  unfold kindOf at h
  split at h <;> simp_all
theorem kind_int {t : TypeId} {k : IntKind} (h : kindOf P t = .int k) : P.underlying t = some (.int k) := by
  unfold kindOf at h
  split at h <;> simp_all
theorem kind_bool {t : TypeId} (h : kindOf P t = .bool) : P.underlying t = some .bool := by
  unfold kindOf at h
  split at h <;> simp_all
theorem kind_array {t e : TypeId} {n : Nat} (h : kindOf P t = .array n e) : P.underlying t = some (.array n e) := by
  unfold kindOf at h
  split at h <;> simp_all
theorem kind_struct {t : TypeId} {fs : List (TypeId × Nat × Nat)} (h : kindOf P t = .struct fs) : ∃ fields, P.underlying t = some (.struct fields) ∧ fs = fields.toList.map fun f => (f.type, f.offset, szOf P f.type) := by
  unfold kindOf at h
  split at h <;> simp_all
theorem run_isAgg {t : TypeId} {d : TypeDesc} (hd : P.underlying t = some d) (w : World) : (isAgg t).run P w = .ok (kindOf P t).isAgg w := by
  simp only [isAgg, Sem.run_bind, run_underlying hd, Result.andThen_ok]
  unfold kindOf
  rw [hd]
  cases d <;> rfl
theorem run_size {t : TypeId} {info : TypeInfo} (h : P.info? t = some info) (w : World) : (sizeOf t).run P w = .ok info.size w := by
  simp [sizeOf, typeInfo, h]
theorem szOf_info {t : TypeId} {info : TypeInfo} (h : P.info? t = some info) : szOf P t = info.size := by simp [szOf, h]

/-! ### Cells that are read -/
variable {w : World} {ok : Nat → Prop}
theorem load_cells {ds : List D} {ad : Addr} (hc : ∀ d ∈ ds, D.isCell d = true) (h : ∀ (j : Nat) (d : D), ds[j]? = some d → ∃ u, w.cell? (ad.add j) = some u ∧ Rep w ok u d) :
    ∃ cs : Array Value, (loadCells ad ds.length).run P w = .ok cs w ∧ Rep w ok (.agg cs) (.agg ds) := by
  have hex : ∀ j : Nat, ∃ u, ∀ d, ds[j]? = some d → w.cell? (ad.add j) = some u ∧ Rep w ok u d := by
    intro j
    cases hj : ds[j]? with
    | none => exact ⟨undef, fun d hd => by cases hd⟩
    | some d =>
      obtain ⟨u, hu⟩ := h j d hj
      exact ⟨u, fun d' hd' => by injection hd' with hd'; subst hd'; exact hu⟩
  let f : Nat → Value := fun j => Classical.choose (hex j)
  have hf : ∀ j d, ds[j]? = some d → w.cell? (ad.add j) = some (f j) ∧ Rep w ok (f j) d := fun j => Classical.choose_spec (hex j)
  refine ⟨((List.range ds.length).map f).toArray, run_loadCells w ad ds.length f (fun j hj => (hf j ds[j] (List.getElem?_eq_getElem hj)).1), ?_⟩
  refine .agg _ _ (by simp) hc (fun i d hi => ?_)
  have hl := (List.getElem?_eq_some_iff.1 hi).1
  have : (((List.range ds.length).map f).toArray).getD i undef = f i := by simp [Array.getD_eq_getD_getElem?, hl]
  rw [this]
  exact (hf i d hi).2
theorem partAt_spec {α : Type} {cs ds : List α} {off n : Nat} (h : partAt cs off n = some ds) : ds.length = n ∧ off + n ≤ cs.length ∧ (∀ j, j < n → ds[j]? = cs[off + j]?) ∧ ∀ d ∈ ds, d ∈ cs := by
  unfold partAt at h
  split at h
  · rename_i hb
    have hle := Nat.le_of_ble_eq_true hb
    injection h with h
    subst h
    refine ⟨by simp; omega, hle, fun j hj => ?_, fun d hd => List.mem_of_mem_drop (List.mem_of_mem_take hd)⟩
    rw [List.getElem?_take, if_pos hj, List.getElem?_drop]
  · cases h
/-- A struct or a cell out of a row of cells that is read. -/
theorem load_row {t : TypeId} {info : TypeInfo} {d0 : TypeDesc} (hi : P.info? t = some info) (hu : P.underlying t = some d0) {cs : List D} {ad : Addr} {off : Nat} (hc : ∀ d ∈ cs, D.isCell d = true)
    (h : ∀ (j : Nat) (d : D), cs[j]? = some d → ∃ u, w.cell? (ad.add j) = some u ∧ Rep w ok u d) :
    (∀ ds, (kindOf P t).isAgg = true → partAt cs off info.size = some ds → ∃ v, (loadVar t (ad.add off)).run P w = .ok v w ∧ Rep w ok v (.agg ds)) ∧
    (∀ d, (kindOf P t).isAgg = false → partAt cs off 1 = some [d] → ∃ v, (loadVar t (ad.add off)).run P w = .ok v w ∧ Rep w ok v d) := by
  constructor
  · intro ds ha hp
    obtain ⟨h1, h2, h3, h4⟩ := partAt_spec hp
    obtain ⟨vs, hr, hrep⟩ := load_cells (P := P) (w := w) (ok := ok) (ds := ds) (ad := ad.add off) (fun d hd => hc d (h4 d hd)) (fun j d hj => by
      have hjl := (List.getElem?_eq_some_iff.1 hj).1
      rw [h3 j (by omega)] at hj
      rw [add_add]
      exact h _ d hj)
    refine ⟨.agg vs, ?_, hrep⟩
    simp only [loadVar, Sem.run_bind, run_isAgg hu, ha, Result.andThen_ok, if_true, run_size hi]
    rw [h1] at hr
    simp [hr]
  · intro d ha hp
    obtain ⟨h1, h2, h3, h4⟩ := partAt_spec hp
    have hj : cs[off]? = some d := by
      have := h3 0 (by omega)
      simpa using this.symm
    obtain ⟨u, hu', hr⟩ := h off d hj
    refine ⟨u, ?_, hr⟩
    simp only [loadVar, Sem.run_bind, run_isAgg hu, ha, Result.andThen_ok, Bool.false_eq_true, if_false]
    simp [hu']
end
end Go.Eng
