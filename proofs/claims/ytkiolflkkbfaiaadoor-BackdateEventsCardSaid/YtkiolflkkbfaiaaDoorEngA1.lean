/- The engine, part 27: trees and what they compute: rules, node by node. Conditions: none. -/
import Derived.Test.YtkiolflkkbfaiaaDoorEngZ
import Derived.LoopN
set_option linter.unusedVariables false
set_option linter.unusedSimpArgs false
namespace Go.Eng
open Go.RowKit

/-! ### A loop in plain words -/
def iterN {σ ρ : Type} (B : σ → Option (σ ⊕ ρ)) : Nat → σ → Option ρ
  | 0, _ => none
  | n + 1, s => match B s with
    | none => none
    | some (.inl s') => iterN B n s'
    | some (.inr r) => some r
open Classical in
noncomputable def Iter {σ ρ : Type} (B : σ → Option (σ ⊕ ρ)) (s : σ) : Option ρ := if h : ∃ r n, iterN B n s = some r then some h.choose else none
theorem iterN_le {σ ρ : Type} {B : σ → Option (σ ⊕ ρ)} : ∀ {n m : Nat} {s : σ} {r : ρ}, n ≤ m → iterN B n s = some r → iterN B m s = some r
  | 0, _, _, _, _, h => by cases h
  | n + 1, 0, _, _, hle, _ => by omega
  | n + 1, m + 1, s, r, hle, h => by
    unfold iterN at h ⊢
    cases hb : B s with
    | none => rw [hb] at h; cases h
    | some x =>
      rw [hb] at h
      cases x with
      | inl s' => exact iterN_le (by omega) h
      | inr r' => exact h
theorem iter_of {σ ρ : Type} {B : σ → Option (σ ⊕ ρ)} {n : Nat} {s : σ} {r : ρ} (h : iterN B n s = some r) : Iter B s = some r := by
  unfold Iter
  have hex : ∃ r n, iterN B n s = some r := ⟨r, n, h⟩
  rw [dif_pos hex]
  obtain ⟨m, hm⟩ := hex.choose_spec
  have h1 := iterN_le (Nat.le_max_left n m) h
  have h2 := iterN_le (Nat.le_max_right n m) hm
  rw [h1] at h2
  exact h2.symm
theorem iter_spec {σ ρ : Type} {B : σ → Option (σ ⊕ ρ)} {s : σ} {r : ρ} (h : Iter B s = some r) : ∃ n, iterN B n s = some r := by
  unfold Iter at h
  split at h
  · rename_i hex
    injection h with h
    subst h
    exact hex.choose_spec
  · cases h
theorem Iter_eq {σ ρ : Type} (B : σ → Option (σ ⊕ ρ)) (s : σ) : Iter B s = match B s with
    | none => none
    | some (.inl s') => Iter B s'
    | some (.inr r) => some r := by
  cases hb : B s with
  | none =>
    unfold Iter
    rw [dif_neg]
    rintro ⟨r, n, h⟩
    cases n with
    | zero => cases h
    | succ n => unfold iterN at h; rw [hb] at h; cases h
  | some x =>
    cases x with
    | inr r => exact iter_of (n := 1) (by simp [iterN, hb])
    | inl s' =>
      dsimp only
      cases hi : Iter B s' with
      | some r =>
        obtain ⟨n, hn⟩ := iter_spec hi
        exact iter_of (n := n + 1) (by simp [iterN, hb, hn])
      | none =>
        cases hj : Iter B s with
        | none => rfl
        | some r =>
          obtain ⟨n, hn⟩ := iter_spec hj
          cases n with
          | zero => cases hn
          | succ n =>
            simp only [iterN, hb] at hn
            rw [iter_of hn] at hi
            cases hi

/-! ### A tree's top -/
inductive V where
  | fail
  | ret
  | done (e : Ex)
  | ite (c : Bool)
  | need (c : Bool) (p : Prop)
  | opt (c : Bool) (o : Option (List D))
  | call (c : Bool) (f : FuncId) (args : List Arg)
  | anyNil (rows : List (List D))
  | loop
  | cut
def T.view : T → V
  | .fail => .fail
  | .ret _ => .ret
  | .done e _ => .done e
  | .ite c _ _ => .ite c
  | .need c p _ => .need c p
  | .opt c o _ => .opt c o
  | .call c f as _ => .call c f as
  | .anyNil rows _ => .anyNil rows
  | .loop _ _ _ => .loop
  | .cut _ _ _ => .cut
def T.rets : T → List RR
  | .ret rs => rs
  | _ => []
/-- The next tree: of a need; of a test that is true. -/
def T.nx : T → T
  | .need _ _ k => k
  | .ite _ t _ => t
  | _ => .fail
def T.ne : T → T
  | .ite _ _ e => e
  | _ => .fail
def T.no (x : List D) : T → T
  | .opt _ _ k => k x
  | _ => .fail
def T.nc (rs : List RR) : T → T
  | .call _ _ _ k => k rs
  | _ => .fail
def T.nn (b : Bool) : T → T
  | .anyNil _ k => k b
  | _ => .fail
def T.cd : T → Code
  | .loop c _ _ => c
  | .cut c _ _ => c
  | _ => .skip
def T.st : T → St
  | .loop _ s _ => s
  | .cut _ s _ => s
  | .done _ s => s
  | _ => { slots := [], blks := [], next := 0 }
def T.kk : T → Ex → St → T
  | .loop _ _ k => k
  | .cut _ _ k => k
  | _ => fun _ _ => .fail

/-! ### What a tree computes -/
structure Cx where
  P : Program
  gt : Nat → Option (List D)
  ti : TypeId → Option TI
  n : Nat
  rvs : List ResultVar
structure Cx.OK (c : Cx) : Prop where
  mixed : c.P.follows .mixedOrders = true
  ti : ∀ t i, c.ti t = some i → tiOf c.P t = some i
structure EnvOf (c : Cx) (E : Env) : Prop where
  P : E.P = c.P
  gt : E.gt = c.gt
  n : E.n = c.n
  good : E.Good
/-- The tree holds wherever F has an answer. -/
structure Sat (c : Cx) {ρ : Type} (R : ρ → List RR → Prop) (D : Env → ρ → Ex → St → Prop) (t : T) (F : Option ρ) : Prop where
  run : ∀ E, EnvOf c E → ∀ r, F = some r → t.Holds E c.rvs.toArray (R r) (D E r)
def Cx.ex (c : Cx) (code : Code) (st : St) (k : Ex → St → T) : T := exec c.n c.ti c.gt c.rvs code st k

/-- The contract of a function that computes f. -/
def DoesP (P : Program) (gt : Nat → Option (List D)) {τ : Type} (fid : FuncId) (args : List Arg) (enc : τ → List RR) (f : Option τ) : Prop := ∀ r, f = some r → Spec P gt fid args (enc r)
section
variable {c : Cx} {ρ : Type} {R : ρ → List RR → Prop} {D : Env → ρ → Ex → St → Prop} {t : T}

theorem Sat.none : Sat c R D t none := ⟨fun _ _ _ h => by cases h⟩
theorem Sat.ite {b : Bool} {A B : Option ρ} (ht : t.view = .ite b) (hA : Sat c R D t.nx A) (hB : Sat c R D t.ne B) : Sat c R D t (if b = true then A else B) := by
  refine ⟨fun E hE r h => ?_⟩
  cases t <;> cases ht
  refine ⟨fun e => hA.run E hE r ?_, fun e => hB.run E hE r ?_⟩
  · subst e; simpa using h
  · subst e; simpa using h
theorem Sat.need {g : Bool} {p q : Prop} [Decidable q] {A : Option ρ} (ht : t.view = .need g p) (hp : q → g = true → p) (hA : Sat c R D t.nx A) : Sat c R D t (if q then A else .none) := by
  refine ⟨fun E hE r h => ?_⟩
  cases t <;> cases ht
  split at h
  · rename_i hq; exact ⟨hp hq, hA.run E hE r h⟩
  · cases h
/-- What is needed always holds. -/
theorem Sat.need0 {g : Bool} {p : Prop} {A : Option ρ} (ht : t.view = .need g p) (hp : p) (hA : Sat c R D t.nx A) : Sat c R D t A := by
  refine ⟨fun E hE r h => ?_⟩
  cases t <;> cases ht
  exact ⟨fun _ => hp, hA.run E hE r h⟩
theorem Sat.opt {τ : Type} {o : Option (List Eng.D)} {x : Option τ} {enc : τ → List Eng.D} {A : τ → Option ρ} (ht : t.view = .opt true o) (ho : o = x.map enc) (hA : ∀ y, Sat c R D (t.no (enc y)) (A y)) : Sat c R D t (x.bind A) := by
  refine ⟨fun E hE r h => ?_⟩
  cases t <;> cases ht
  cases x with
  | none => cases h
  | some y => exact ⟨enc y, fun _ => ho, (hA y).run E hE r h⟩
theorem Sat.optG {τ : Type} {g : Bool} {o : Option (List Eng.D)} {x : Option τ} {d : τ} {enc : τ → List Eng.D} {A : τ → Option ρ} (ht : t.view = .opt g o) (ho : o = x.map enc) (hA : ∀ y, Sat c R D (t.no (enc y)) (A y)) :
    Sat c R D t ((if g = true then x else some d).bind A) := by
  refine ⟨fun E hE r h => ?_⟩
  cases t <;> cases ht
  cases g with
  | false =>
    rw [if_neg (by simp)] at h
    exact ⟨enc d, fun e => (by cases e), (hA d).run E hE r h⟩
  | true =>
    rw [if_pos rfl] at h
    cases x with
    | none => cases h
    | some y => exact ⟨enc y, fun _ => ho, (hA y).run E hE r h⟩
theorem Sat.call {τ : Type} {fid : FuncId} {args : List Arg} {enc : τ → List RR} {f : Option τ} {A : τ → Option ρ} (hs : DoesP c.P c.gt fid args enc f) (ht : t.view = .call true fid args) (hA : ∀ y, Sat c R D (t.nc (enc y)) (A y)) :
    Sat c R D t (f.bind A) := by
  refine ⟨fun E hE r h => ?_⟩
  cases t <;> cases ht
  cases f with
  | none => cases h
  | some y => exact ⟨enc y, fun _ => by rw [hE.P, hE.gt]; exact hs y rfl, (hA y).run E hE r h⟩
theorem Sat.callG {τ : Type} {g : Bool} {d : τ} {fid : FuncId} {args : List Arg} {enc : τ → List RR} {f : Option τ} {A : τ → Option ρ} (hs : DoesP c.P c.gt fid args enc f) (ht : t.view = .call g fid args) (hA : ∀ y, Sat c R D (t.nc (enc y)) (A y)) :
    Sat c R D t ((if g = true then f else some d).bind A) := by
  refine ⟨fun E hE r h => ?_⟩
  cases t <;> cases ht
  cases g with
  | false =>
    rw [if_neg (by simp)] at h
    exact ⟨enc d, fun e => (by cases e), (hA d).run E hE r h⟩
  | true =>
    rw [if_pos rfl] at h
    cases f with
    | none => cases h
    | some y => exact ⟨enc y, fun _ => by rw [hE.P, hE.gt]; exact hs y rfl, (hA y).run E hE r h⟩
theorem Sat.ret {r : ρ} (ht : t.view = .ret) (hr : R r t.rets) : Sat c R D t (some r) := by
  refine ⟨fun E hE r' h => ?_⟩
  injection h with h
  subst h
  cases t <;> cases ht
  exact hr
/-- Go on behind a meeting of ways. -/
theorem exec_env {c : Cx} (hc : c.OK) {E : Env} (hE : EnvOf c E) {code : Code} {st : St} {k : Ex → St → T} {QR : List RR → Prop} {QD : Ex → St → Prop} {a : Act} {w : World} (hs : St.OK E st a w)
    (h : (c.ex code st k).Holds E c.rvs.toArray QR QD) : code.wp E.P (Post E c.rvs.toArray QR fun e st' => (k e st').Holds E c.rvs.toArray QR QD) a w := by
  have g : Glob E c.ti := ⟨hE.good, by rw [hE.P]; exact hc.ti⟩
  refine exec_wp g (by rw [hE.P]; exact hc.mixed) code st k a w hs ?_
  rw [hE.n, hE.gt]
  exact h
theorem Sat.go {A : Option ρ} (hc : c.OK) (ht : t.view = .cut) (h : Sat c R D (c.ex t.cd t.st t.kk) A) : Sat c R D t A := by
  refine ⟨fun E hE r hr => ?_⟩
  cases t <;> cases ht
  exact fun a w hs => exec_env hc hE hs (h.run E hE r hr)
theorem Sat.cut {σ : Type} {S : σ → St} {J : σ → Option ρ} {s0 : σ} (live : List (Nat × Bool)) (hc : c.OK) (ht : t.view = .cut) (hs : canon live t.st = S s0) {code : Code} {kk : Ex → St → T} (hcd : t.cd = code) (hkk : t.kk = kk) (hJ : ∀ s, Sat c R D (c.ex code (S s) kk) (J s)) : Sat c R D t (J s0) := by
  subst hcd hkk
  refine ⟨fun E hE r hr => ?_⟩
  cases t <;> cases ht
  rename_i body st k
  intro a w h
  have h2 := canon_ok live h
  rw [show canon live st = S s0 from hs] at h2
  exact exec_env hc hE h2 ((hJ s0).run E hE r hr)
def loopR {σ ρ : Type} (R : ρ → List RR → Prop) (x : σ ⊕ ρ) (rs : List RR) : Prop := ∃ r, x = .inr r ∧ R r rs
def loopD {σ ρ : Type} (c : Cx) (R : ρ → List RR → Prop) (D : Env → ρ → Ex → St → Prop) (S : σ → St) (live : List (Nat × Bool)) (kk : Ex → St → T) (E : Env) (x : σ ⊕ ρ) : Ex → St → Prop
  | .normal, st => ∃ s, x = .inl s ∧ canon live st = S s
  | .exit id, st => ∃ r, x = .inr r ∧ (kk (.exit id) st).Holds E c.rvs.toArray (R r) (D E r)
/-- A LOOP. -/
theorem Sat.loop {σ : Type} {S : σ → St} {B : σ → Option (σ ⊕ ρ)} {s0 : σ} (live : List (Nat × Bool)) (hc : c.OK) (ht : t.view = .loop) (hs : canon live t.st = S s0) {code : Code} {kk : Ex → St → T} (hcd : t.cd = code) (hkk : t.kk = kk)
    (hB : ∀ s, Sat c (loopR R) (loopD c R D S live kk) (c.ex code (S s) T.done) (B s)) : Sat c R D t (Iter B s0) := by
  subst hcd hkk
  refine ⟨fun E hE r hr => ?_⟩
  cases t <;> cases ht
  rename_i body st k
  obtain ⟨n, hn⟩ := iter_spec hr
  have key : ∀ (n : Nat) (s : σ) (a : Act) (w : World), iterN B n s = some r → St.OK E (S s) a w → Code.rounds E.P body (Post E c.rvs.toArray (R r) fun e st' => (k e st').Holds E c.rvs.toArray (R r) (D E r)) n a w := by
    intro n
    induction n with
    | zero => intro s a w h; cases h
    | succ n ih =>
      intro s a w h ho
      unfold iterN at h
      cases hb : B s with
      | none => rw [hb] at h; cases h
      | some x =>
        rw [hb] at h
        have hwp := exec_env hc hE ho ((hB s).run E hE x hb)
        refine wp_mono hwp (fun e a' w' he => ?_)
        cases e with
        | normal =>
          obtain ⟨st', h1, s', rfl, h3⟩ := he
          have h4 := canon_ok live h1
          rw [h3] at h4
          exact ih s' a' w' h h4
        | exit id =>
          obtain ⟨st', h1, r', rfl, h3⟩ := he
          injection h with h
          subst h
          exact ⟨st', h1, h3⟩
        | ret =>
          obtain ⟨h1, h2, rr, v, ⟨r', hx, h3⟩, h4⟩ := he
          subst hx
          injection h with h
          subst h
          exact ⟨h1, h2, rr, v, h3, h4⟩
        | goto l => exact he.elim
        | panic ch => exact he.elim
        | outgrown => exact he.elim
  intro a w h
  have h2 := canon_ok live h
  rw [show canon live st = S s0 from hs] at h2
  exact wp_loop_rounds n (key n s0 a w hn h2)
/-- At the end of a round. -/
theorem Sat.next {σ : Type} {S : σ → St} {live : List (Nat × Bool)} {kk : Ex → St → T} {s : σ} {R' : σ ⊕ ρ → List RR → Prop} (ht : t.view = .done .normal) (hs : canon live t.st = S s) : Sat c R' (loopD c R D S live kk) t (some (.inl s)) := by
  refine ⟨fun E hE r h => ?_⟩
  injection h with h
  subst h
  cases t <;> cases ht
  exact ⟨s, rfl, hs⟩
/-- Out of the loop. -/
theorem Sat.out {σ : Type} {S : σ → St} {live : List (Nat × Bool)} {kk : Ex → St → T} {id : Nat} {A : Option ρ} {R' : σ ⊕ ρ → List RR → Prop} (ht : t.view = .done (.exit id)) (hA : Sat c R D (kk (.exit id) t.st) A) : Sat c R' (loopD c R D S live kk) t (A.map .inr) := by
  refine ⟨fun E hE x h => ?_⟩
  cases t <;> cases ht
  cases A with
  | none => cases h
  | some r =>
    simp at h
    subst h
    exact ⟨r, rfl, hA.run E hE r rfl⟩
/-- A return inside a loop. -/
theorem Sat.retL {σ : Type} {D' : Env → σ ⊕ ρ → Ex → St → Prop} {A : Option ρ} (ht : t.view = .ret) (hA : Sat c R D t A) : Sat c (loopR R) D' t (A.map .inr) := by
  refine ⟨fun E hE x h => ?_⟩
  cases A with
  | none => cases h
  | some r =>
    simp at h
    subst h
    have := hA.run E hE r rfl
    cases t <;> cases ht
    exact ⟨r, rfl, this⟩
end

/-! ### Functions -/
/-- One's own is handed back as data where b says so. -/
def wk1 : Bool → RR → RR
  | true, .own _ rows => .val (.slice rows)
  | _, r => r
def wk : List Bool → List RR → List RR
  | b :: bs, r :: rs => wk1 b r :: wk bs rs
  | _, rs => rs
theorem wk1_weak : ∀ (b : Bool) (r : RR), RR.weak r (wk1 b r)
  | true, .own e rows => .inr ⟨e, rows, rfl, rfl⟩
  | true, .val d => .inl rfl
  | false, r => .inl rfl
theorem wk_weak : ∀ (bs : List Bool) (rs : List RR), weakL rs (wk bs rs)
  | [], rs => weakL_refl
  | b :: bs, [] => trivial
  | b :: bs, r :: rs => ⟨wk1_weak b r, wk_weak bs rs⟩
def R0 {ρ : Type} (enc : ρ → List RR) (r : ρ) (rs : List RR) : Prop := weakL rs (enc r)
def D0 {ρ : Type} (E : Env) (r : ρ) (e : Ex) (st : St) : Prop := False
theorem Sat.ret0 {c : Cx} {ρ : Type} {D : Env → ρ → Ex → St → Prop} {t : T} {enc : ρ → List RR} {r : ρ} (bs : List Bool) (ht : t.view = .ret) (hr : wk bs t.rets = enc r) : Sat c (R0 enc) D t (some r) :=
  Sat.ret ht (by show weakL _ _; rw [← hr]; exact wk_weak _ _)
/-- A FUNCTION. -/
theorem does_of {c : Cx} (hc : c.OK) {ρ : Type} {fid : FuncId} {fn : Func} {code : Code} {args : List Arg} {enc : ρ → List RR} {F : Option ρ} (hf : c.P.funcs[fid]? = some fn) (hb : fn.body = some code)
    (hname : (fn.name == "runtime.NumGoroutine") = false) (hn : fn.ntmps = c.n) (hle : Nat.ble args.length c.n = true) (hrs : fn.results = c.rvs.toArray)
    (h : Sat c (R0 enc) D0 (c.ex code (st0 args) (k0 c.ti c.rvs)) F) : DoesP c.P c.gt fid args enc F := by
  intro r hr
  exact spec_of hc.mixed hc.ti hf hb hname hn (Nat.le_of_ble_eq_true hle) hrs (fun E h1 h2 h3 h4 => h.run E ⟨h1, h2, h3, h4⟩ r hr)
end Go.Eng
