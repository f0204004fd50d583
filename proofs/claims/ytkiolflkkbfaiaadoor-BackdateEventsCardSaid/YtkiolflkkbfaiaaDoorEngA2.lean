/- The engine, part 28: words that printed proofs use. Conditions: none. -/
import Derived.Test.YtkiolflkkbfaiaaDoorEngA1
set_option linter.unusedVariables false
set_option linter.unusedSimpArgs false
namespace Go.Eng
open Go.RowKit

abbrev bs (l : List UInt8) : ByteArray := ⟨⟨l⟩⟩
def eInt (k : IntKind) (n : Int) : List D := [.int k n]
def eBool (b : Bool) : List D := [.bool b]
def eStr (s : ByteArray) : List D := [.str s]
def eSl {τ : Type} (enc : τ → List D) (l : List τ) : List D := [.slice (List.map enc l)]
def getI {τ : Type} (l : List τ) (n : Int) : Option τ := if 0 ≤ n then l[n.toNat]? else none
def subl {τ : Type} (l : List τ) (lo hi : Int) : List τ := (l.take hi.toNat).drop lo.toNat
theorem getRow_map {τ : Type} (enc : τ → List D) (l : List τ) (n : Int) : getRow (List.map enc l) n = (getI l n).map enc := by
  unfold getRow getI
  split
  · rw [List.getElem?_map]
  · rfl
theorem getRow_rows {τ : Type} {enc : τ → List D} {l : List τ} {rows : List (List D)} (h : rows = List.map enc l) (n : Int) : getRow rows n = (getI l n).map enc := by
  subst h; exact getRow_map enc l n
theorem getEl_map {τ : Type} (enc : τ → List D) (l : List τ) (n : Nat) : (List.map enc l)[n]? = (l[n]?).map enc := List.getElem?_map ..
theorem getEl_rows {τ : Type} {enc : τ → List D} {l : List τ} {rows : List (List D)} (h : rows = List.map enc l) (n : Nat) : rows[n]? = (l[n]?).map enc := by
  subst h; exact getEl_map enc l n
theorem map_len {τ : Type} (enc : τ → List D) (sz : Nat) (h : ∀ x, (enc x).length = sz) (l : List τ) : ∀ r ∈ List.map enc l, r.length = sz := by
  intro r hr
  obtain ⟨x, _, rfl⟩ := List.mem_map.1 hr
  exact h x
theorem sliceRows_map {τ : Type} (enc : τ → List D) (l : List τ) (lo hi : Int) : sliceRows (List.map enc l) lo hi = List.map enc (subl l lo hi) := by
  simp [sliceRows, subl, List.map_take, List.map_drop]

/-! ### Places in code -/
def sub : Code → List Bool → Code
  | .seq a _, false :: p => sub a p
  | .seq _ b, true :: p => sub b p
  | .cond _ a _, false :: p => sub a p
  | .cond _ _ b, true :: p => sub b p
  | .block _ c, _ :: p => sub c p
  | .loop c, _ :: p => sub c p
  | c, _ => c
/-- What follows the place. -/
def Cx.kAt (x : Cx) : Code → List Bool → (Ex → St → T) → Ex → St → T
  | .seq a b, false :: p, k => x.kAt a p fun e s => match e with
    | .normal => match joins a with
      | true => .cut b s k
      | false => exec x.n x.ti x.gt x.rvs b s k
    | .exit id => k (.exit id) s
  | .seq _ b, true :: p, k => x.kAt b p k
  | .cond _ a _, false :: p, k => x.kAt a p k
  | .cond _ _ b, true :: p, k => x.kAt b p k
  | .block id c, _ :: p, k => x.kAt c p fun e s => match e with
    | .normal => k .normal s
    | .exit j => match Nat.beq j id with
      | true => k .normal s
      | false => k (.exit j) s
  | .loop c, _ :: p, _ => x.kAt c p T.done
  | _, _, k => k

/-! ### Types, as a list -/
def lookT : List (Nat × TI) → Nat → Option TI
  | [], _ => none
  | (j, x) :: r, i => match Nat.beq i j with
    | true => some x
    | false => lookT r i
def AllTi (P : Program) : List (Nat × TI) → Prop
  | [] => True
  | x :: r => tiOf P x.1 = some x.2 ∧ AllTi P r
theorem lookT_ok {P : Program} : ∀ {l : List (Nat × TI)}, AllTi P l → ∀ t i, lookT l t = some i → tiOf P t = some i
  | [], _, t, i, h => by cases h
  | (j, x) :: r, ha, t, i, h => by
    unfold lookT at h
    split at h
    · rename_i hb
      injection h with h
      subst h
      rw [Nat.eq_of_beq_eq_true hb]
      exact ha.1
    · exact lookT_ok ha.2 t i h

/-! ### More rules -/
def T.isSome : T → Bool
  | .opt _ (some _) _ => true
  | _ => false
def T.ov : T → List D
  | .opt _ (some x) _ => x
  | _ => []
section
variable {c : Cx} {ρ : Type} {R : ρ → List RR → Prop} {D : Env → ρ → Ex → St → Prop} {t : T}
theorem Sat.iteT {A : Option ρ} (ht : t.view = .ite true) (hA : Sat c R D t.nx A) : Sat c R D t A := by
  refine ⟨fun E hE r h => ?_⟩
  cases t <;> cases ht
  exact ⟨fun _ => hA.run E hE r h, fun e => (by cases e)⟩
theorem Sat.iteF {A : Option ρ} (ht : t.view = .ite false) (hA : Sat c R D t.ne A) : Sat c R D t A := by
  refine ⟨fun E hE r h => ?_⟩
  cases t <;> cases ht
  exact ⟨fun e => (by cases e), fun _ => hA.run E hE r h⟩
theorem Sat.optC {A : Option ρ} (ht : t.isSome = true) (hA : Sat c R D (t.no t.ov) A) : Sat c R D t A := by
  refine ⟨fun E hE r h => ?_⟩
  cases t with
  | opt g o k =>
    cases o with
    | none => cases ht
    | some x => exact ⟨x, fun _ => rfl, hA.run E hE r h⟩
  | _ => cases ht
theorem Sat.anyNil {τ : Type} {l : List τ} {enc : τ → List Eng.D} {A A' : Option ρ} (ht : t.view = .anyNil (List.map enc l)) (he : l = [] → A = A') (hA' : Sat c R D (t.nn true) A') (hA : Sat c R D (t.nn false) A) : Sat c R D t A := by
  refine ⟨fun E hE r h => ?_⟩
  cases t <;> cases ht
  intro b hb
  cases b with
  | false => exact hA.run E hE r h
  | true =>
    have := he (List.map_eq_nil_iff.1 (hb rfl))
    exact hA'.run E hE r (this ▸ h)
end
theorem DoesP.cast {P : Program} {gt : Nat → Option (List D)} {τ : Type} {fid : FuncId} {args args' : List Arg} {enc : τ → List RR} {f : Option τ} (h : args = args') (hs : DoesP P gt fid args' enc f) : DoesP P gt fid args enc f := by
  subst h; exact hs
end Go.Eng
