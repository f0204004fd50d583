/- The engine, part 19: regions that draw their order, the facts of the text's run. Conditions: none. -/
import Derived.Test.YtkiolflkkbfaiaaDoorEngR
set_option linter.unusedVariables false
set_option linter.unusedSimpArgs false
namespace Go.Eng
open Go.RowKit
section
variable {E : Env} {ti : TypeId → Option TI} {ops : Array Oper} {st0 : St} {rvs : Array ResultVar} {QR : List RR → Prop} {QD : Ex → St → Prop}

def dn (E : Env) (ops : Array Oper) (st0 : St) (p : Nat → Patch) (i : Nat) : Done := doneOf E.gt ops (stT ops st0 p i) i (opAt ops i) (p i)
structure Fact (E : Env) (ti : TypeId → Option TI) (ops : Array Oper) (st0 : St) (p : Nat → Patch) (i : Nat) : Prop where
  det : OpDet E ti ops (lookS (stT ops st0 p i).slots) (restrict (lookB (stT ops st0 p i).blks) (namesOf E.gt (lookS (stT ops st0 p i).slots) (opAt ops i))) (stT ops st0 p i).next (opAt ops i) (p i)
  lean : leans E.n (opAt ops i).dst (stT ops st0 p i).slots = false
  apart : ∀ j, j < i → clash ((Region.before ops).getD i 0) (dn E ops st0 p j) (dn E ops st0 p i) = false
theorem stT_congr {p q : Nat → Patch} : ∀ {i : Nat}, (∀ j, j < i → p j = q j) → stT ops st0 p i = stT ops st0 q i
  | 0, _ => rfl
  | i + 1, h => by
    have ih := stT_congr (i := i) (fun j hj => h j (by omega))
    show (stT ops st0 p i).put _ _ = (stT ops st0 q i).put _ _
    rw [ih, h i (by omega)]
theorem dn_congr {p q : Nat → Patch} {i : Nat} (h : ∀ j, j ≤ i → p j = q j) : dn E ops st0 p i = dn E ops st0 q i := by
  unfold dn
  rw [stT_congr (fun j hj => h j (by omega)), h i (Nat.le_refl _)]
theorem fact_congr {p q : Nat → Patch} {i : Nat} (h : ∀ j, j ≤ i → p j = q j) (hf : Fact E ti ops st0 p i) : Fact E ti ops st0 q i := by
  have e := stT_congr (ops := ops) (st0 := st0) (p := p) (q := q) (i := i) (fun j hj => h j (by omega))
  refine ⟨?_, ?_, fun j hj => ?_⟩
  · rw [← e, ← h i (Nat.le_refl _)]; exact hf.det
  · rw [← e]; exact hf.lean
  · rw [← dn_congr (p := p) (q := q) (fun k hk => h k (by omega)), ← dn_congr (p := p) (q := q) h]
    exact hf.apart j hj
theorem clashes_mem {b : Nat} {y : Done} : ∀ {l : List Done}, clashes b y l = false → ∀ x ∈ l, clash b x y = false
  | [], _, x, hx => by cases hx
  | z :: r, h, x, hx => by
    unfold clashes at h
    split at h
    · cases h
    · rename_i hz
      rcases List.mem_cons.1 hx with rfl | hx
      · exact hz
      · exact clashes_mem h x hx
theorem facts_of {K : St → T} : ∀ (r : List Oper) (i : Nat) (ds : List Done) (pp : Nat → Patch), ops.toList.drop i = r → (∀ j, j < i → Fact E ti ops st0 pp j) → (∀ j, j < i → dn E ops st0 pp j ∈ ds) →
    (exDraw E.n ti E.gt ops (Region.before ops) r i ds (stT ops st0 pp i) K).Holds E rvs QR QD → i ≤ ops.size →
    ∃ p : Nat → Patch, (∀ j, j < ops.size → Fact E ti ops st0 p j) ∧ (K (stT ops st0 p ops.size)).Holds E rvs QR QD
  | [], i, ds, pp, hr, hf, hd, h, hi => by
    have hle : ops.size ≤ i := by
      have := List.drop_eq_nil_iff.1 hr
      simpa using this
    have e : i = ops.size := by omega
    subst e
    exact ⟨pp, hf, h⟩
  | o :: r, i, ds, pp, hr, hf, hd, h, hi => by
    have hlt : i < ops.size := by
      refine Classical.byContradiction fun hn => ?_
      have : ops.toList.drop i = [] := List.drop_eq_nil_iff.2 (by simpa using hn)
      rw [this] at hr; cases hr
    have ho : opAt ops i = o := by
      have h1 : (ops.toList.drop i)[0]? = some o := by rw [hr]; rfl
      rw [List.getElem?_drop] at h1
      simp at h1
      unfold opAt
      simp [Array.getD_eq_getD_getElem?, h1]
    have hr' : ops.toList.drop (i + 1) = r := by
      rw [← List.drop_drop, hr]; rfl
    unfold exDraw at h
    split at h
    · exact h.elim
    · rename_i hl
      obtain ⟨q, hq, hk⟩ := exOpD_det h
      split at hk
      · exact hk.elim
      · rename_i hc
        let pp' : Nat → Patch := fun j => if j = i then q else pp j
        have hpp : ∀ j, j < i → pp j = pp' j := fun j hj => (if_neg (by omega)).symm
        have hqi : pp' i = q := if_pos rfl
        have est : stT ops st0 pp' i = stT ops st0 pp i := (stT_congr hpp).symm
        have edn : dn E ops st0 pp' i = doneOf E.gt ops (stT ops st0 pp i) i o q := by
          unfold dn
          rw [est, ho, hqi]
        have est' : stT ops st0 pp' (i + 1) = (stT ops st0 pp i).put o.dst q := by
          show (stT ops st0 pp' i).put (opAt ops i).dst (pp' i) = _
          rw [est, ho, hqi]
        refine facts_of r (i + 1) (doneOf E.gt ops (stT ops st0 pp i) i o q :: ds) pp' hr' (fun j hj => ?_) (fun j hj => ?_) (by rw [est']; exact hk) hlt
        · by_cases e : j = i
          · subst e
            refine ⟨?_, ?_, fun k hk => ?_⟩
            · rw [est, ho, hqi]; exact hq
            · rw [est, ho]; exact hl
            · rw [edn]
              refine clashes_mem hc _ ?_
              rw [← dn_congr (p := pp) (q := pp') (fun m hm => hpp m (by omega))]
              exact hd k hk
          · exact fact_congr (fun k hk => hpp k (by omega)) (hf j (by omega))
        · by_cases e : j = i
          · subst e
            rw [edn]; exact List.mem_cons_self ..
          · rw [← dn_congr (p := pp) (q := pp') (fun m hm => hpp m (by omega))]
            exact List.mem_cons_of_mem _ (hd j (by omega))
/-! ### One more operation -/
theorem natIn_mem {n : Nat} : ∀ {l : List Nat}, natIn n l = true ↔ n ∈ l
  | [] => by simp [natIn]
  | m :: r => by
    have ih := natIn_mem (n := n) (l := r)
    unfold natIn
    split
    · rename_i h
      have := Nat.eq_of_beq_eq_true h
      simp [this]
    · rename_i h
      have : n ≠ m := fun e => by subst e; simp at h
      simp [this, ih]
theorem meets_false {l m : List Nat} (h : meets l m = false) : ∀ n, n ∈ l → n ∈ m → False := by
  induction l with
  | nil => intro n hn; cases hn
  | cons x r ih =>
    intro n hn hm
    unfold meets at h
    split at h
    · cases h
    · rename_i hx
      rcases List.mem_cons.1 hn with rfl | hn
      · rw [natIn_mem.2 hm] at hx; cases hx
      · exact ih h n hn hm
structure NoClash (x y : Done) : Prop where
  wr : ∀ n, n ∈ x.ws → n ∈ y.rs → False
  ww : ∀ n, n ∈ x.ws → n ∈ y.ws → False
  rw' : ∀ n, n ∈ x.rs → n ∈ y.ws → False
  nwr : ∀ n, n ∈ x.wn → n ∈ y.rn → False
  nww : ∀ n, n ∈ x.wn → n ∈ y.wn → False
  nrw : ∀ n, n ∈ x.rn → n ∈ y.wn → False
theorem clash_spec {b : Nat} {x y : Done} (h : clash b x y = false) (hb : b.testBit x.i = false) : NoClash x y := by
  unfold clash at h
  rw [hb] at h
  simp only [Bool.or_eq_false_iff] at h
  obtain ⟨⟨⟨⟨⟨h1, h2⟩, h3⟩, h4⟩, h5⟩, h6⟩ := h
  exact ⟨meets_false h1, meets_false h2, meets_false h3, meets_false h4, meets_false h5, meets_false h6⟩
end
end Go.Eng
