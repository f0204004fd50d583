/- The engine, part 21: regions that draw their order, whole. Conditions: none. -/
import Derived.Test.YtkiolflkkbfaiaaDoorEngT
set_option linter.unusedVariables false
set_option linter.unusedSimpArgs false
namespace Go.Eng
open Go.RowKit
section
variable {E : Env} {ti : TypeId → Option TI} {ops : Array Oper} {st0 : St} {p : Nat → Patch} {b : Nat → Bool} {a : Act} {w : World} {Q : Exit → Act → World → Prop}
variable {rvs : Array ResultVar} {QR : List RR → Prop} {QD : Ex → St → Prop}

/-- The bits that an operation's edges give. -/
def bitsOf (acc : Array Nat) (o : Oper) : Nat := o.after.foldl (fun s e => if Region.binds .any e then s ||| 2 ^ e.on ||| acc.getD e.on 0 else s) 0
theorem bits_spec {acc : Array Nat} {o : Oper} {j : Nat} (h : (bitsOf acc o).testBit j = true) : ∃ e ∈ o.after.toList, Region.binds .any e = true ∧ (e.on = j ∨ (acc.getD e.on 0).testBit j = true) := by
  unfold bitsOf at h
  rw [← Array.foldl_toList] at h
  have key : ∀ (l : List Edge) (s : Nat), (l.foldl (fun s e => if Region.binds .any e then s ||| 2 ^ e.on ||| acc.getD e.on 0 else s) s).testBit j = true → s.testBit j = true ∨ ∃ e ∈ l, Region.binds .any e = true ∧ (e.on = j ∨ (acc.getD e.on 0).testBit j = true) := by
    intro l
    induction l with
    | nil => intro s h; exact .inl h
    | cons e r ih =>
      intro s h
      rw [List.foldl_cons] at h
      rcases ih _ h with h1 | ⟨e', h1, h2⟩
      · split at h1
        · rename_i hb
          rw [Nat.testBit_or, Nat.testBit_or, Bool.or_eq_true, Bool.or_eq_true, Nat.testBit_two_pow] at h1
          rcases h1 with (h1 | h1) | h1
          · exact .inl h1
          · exact .inr ⟨e, by simp, hb, .inl (by simpa using h1)⟩
          · exact .inr ⟨e, by simp, hb, .inr h1⟩
        · exact .inl h1
      · exact .inr ⟨e', List.mem_cons_of_mem _ h1, h2⟩
  rcases key _ _ h with h1 | h1
  · simp at h1
  · exact h1
theorem before_spec : ∀ i, i < ops.size → ∀ j, ((Region.before ops).getD i 0).testBit j = true → ∃ e ∈ (opAt ops i).after.toList, Region.binds .any e = true ∧ (e.on = j ∨ ((Region.before ops).getD e.on 0).testBit j = true) := by
  have key : ∀ (l : List Oper) (done : List Oper) (acc : Array Nat), acc.size = done.length → (∀ i, i < acc.size → ∀ j, (acc.getD i 0).testBit j = true → ∃ e ∈ (((done ++ l)[i]?).getD default).after.toList, Region.binds .any e = true ∧ (e.on = j ∨ (acc.getD e.on 0).testBit j = true)) →
      ∀ i, i < (done ++ l).length → ∀ j, ((l.foldl (fun acc o => acc.push (bitsOf acc o)) acc).getD i 0).testBit j = true → ∃ e ∈ (((done ++ l)[i]?).getD default).after.toList, Region.binds .any e = true ∧ (e.on = j ∨ ((l.foldl (fun acc o => acc.push (bitsOf acc o)) acc).getD e.on 0).testBit j = true) := by
    intro l
    induction l with
    | nil => intro done acc hs h i hi; exact h i (by simpa [hs] using hi)
    | cons o r ih =>
      intro done acc hs h i hi j hj
      rw [List.foldl_cons] at hj ⊢
      have e1 : done ++ o :: r = (done ++ [o]) ++ r := by simp
      rw [e1] at hi ⊢
      have keep : ∀ k j, (acc.getD k 0).testBit j = true → ((acc.push (bitsOf acc o)).getD k 0).testBit j = true := by
        intro k j hk
        by_cases hks : k < acc.size
        · rw [Array.getD_eq_getD_getElem?, Array.getElem?_push, if_neg (by omega), ← Array.getD_eq_getD_getElem?]; exact hk
        · rw [Array.getD_eq_getD_getElem?, Array.getElem?_eq_none (by omega)] at hk
          simp at hk
      refine ih (done ++ [o]) (acc.push (bitsOf acc o)) (by simp [hs]) (fun i hi j hj => ?_) i hi j hj
      rw [Array.size_push] at hi
      by_cases his : i < acc.size
      · rw [Array.getD_eq_getD_getElem?, Array.getElem?_push, if_neg (by omega), ← Array.getD_eq_getD_getElem?] at hj
        obtain ⟨e, x1, x2, x3⟩ := h i his j hj
        rw [e1] at x1
        exact ⟨e, x1, x2, x3.imp id (keep _ _)⟩
      · have : i = acc.size := by omega
        subst this
        rw [Array.getD_eq_getD_getElem?, Array.getElem?_push, if_pos rfl] at hj
        obtain ⟨e, x1, x2, x3⟩ := bits_spec hj
        refine ⟨e, ?_, x2, x3.imp id (keep _ _)⟩
        rw [List.append_assoc, List.getElem?_append_right (by omega), hs]
        simpa using x1
  intro i hi j hj
  have hk := key ops.toList [] #[] rfl (fun i hi => by simp at hi) i (by simpa using hi) j
  have hdef : Region.before ops = ops.toList.foldl (fun acc o => acc.push (bitsOf acc o)) #[] := by
    unfold Region.before
    rw [← Array.foldl_toList]; rfl
  rw [hdef] at hj ⊢
  have := hk hj
  simpa [opAt, Array.getD_eq_getD_getElem?] using this
theorem backs_spec : ∀ (l : List Oper) (i : Nat), backs i l = true → ∀ k o, l[k]? = some o → ∀ e ∈ o.after.toList, Region.binds .any e = true → e.on < i + k
  | [], _, _, k, o, hk, _, _, _ => by simp at hk
  | x :: r, i, h, k, o, hk, e, he, hb => by
    unfold backs at h
    split at h
    · rename_i h1
      cases k with
      | zero =>
        simp at hk
        subst hk
        have := allB_mem (p := fun e : Edge => match Region.binds .any e with | true => Nat.ble (e.on + 1) i | false => true) h1 e he
        simp only [hb] at this
        have := Nat.le_of_ble_eq_true this
        omega
      | succ k =>
        have := backs_spec r (i + 1) h k o (by simpa using hk) e he hb
        omega
    · cases h
theorem mem_ready {listed : Array Bool} {i : Nat} : i ∈ Region.ready .any ops listed ↔ i < ops.size ∧ listed.getD i true = false ∧ ∀ e ∈ (opAt ops i).after.toList, Region.binds .any e = true → listed.getD e.on false = true := by
  unfold Region.ready
  rw [List.mem_filter, List.mem_range]
  constructor
  · rintro ⟨h1, h2⟩
    have ho : ops[i]? = some (opAt ops i) := by simp [opAt, Array.getD_eq_getD_getElem?, h1]
    rw [ho] at h2
    simp only [Bool.and_eq_true, Bool.not_eq_true', Option.map_some, Option.getD_some, Array.all_eq_true'] at h2
    refine ⟨h1, h2.1, fun e he hb => ?_⟩
    have := h2.2 e (by simpa using he)
    simpa [hb] using this
  · rintro ⟨h1, h2, h3⟩
    have ho : ops[i]? = some (opAt ops i) := by simp [opAt, Array.getD_eq_getD_getElem?, h1]
    refine ⟨h1, ?_⟩
    rw [ho]
    simp only [Bool.and_eq_true, Bool.not_eq_true', Option.map_some, Option.getD_some, Array.all_eq_true']
    refine ⟨h2, fun e he => ?_⟩
    cases hb : Region.binds .any e
    · rfl
    · simp [h3 e (by simpa using he) hb]
theorem sim_drew {sl : Nat → Slot} {bl : Blks} {U : Nat → Prop} (h : Sim E sl bl U a w) : Sim E sl bl U a { w with drawn := w.drawn + 1 } := by
  obtain ⟨ψ, h⟩ := h
  have := h.next (dst := none) (v := undef) (s := .unit) (U' := U) (bl' := bl) (ψ' := ψ) (w' := w.drew) (fun _ h => h) ⟨fun _ _ => rfl, fun _ h => h, fun _ _ h => ⟨h, rfl⟩⟩ (Below.refl _ _).drew (fun nm k hk => .inl ⟨h.name_lt hk, hk, fun _ _ _ => rfl⟩) h.apart h.names (fun m hm => by cases hm) h.brefs (by simp) (fun d e => by cases e) (fun d e => by cases e) trivial
  exact ⟨ψ, this⟩
/-- How many are still to be done. -/
def todo (n : Nat) (listed : Array Bool) : Nat := ((List.range n).filter fun j => !listed.getD j false).length
theorem todo_set {n : Nat} {listed : Array Bool} {i : Nat} (hi : i < n) (hs : listed.size = n) (h : listed.getD i true = false) : todo n (listed.setIfInBounds i true) + 1 ≤ todo n listed := by
  have e : ((List.range n).filter fun j => !(listed.setIfInBounds i true).getD j false) = (((List.range n).filter fun j => !listed.getD j false).filter fun j => decide (j ≠ i)) := by
    rw [List.filter_filter]
    refine List.filter_congr fun j hj => ?_
    simp only [Array.getD_eq_getD_getElem?]
    by_cases e : j = i
    · subst e
      rw [Array.getElem?_setIfInBounds_self_of_lt (by omega)]
      simp
    · rw [Array.getElem?_setIfInBounds_ne (fun h => e h.symm)]
      simp [e]
  unfold todo
  rw [e]
  refine List.length_filter_lt_length_iff_exists.2 ⟨i, ?_, by simp⟩
  rw [List.mem_filter]
  refine ⟨List.mem_range.2 hi, ?_⟩
  have hlt : i < listed.size := by omega
  simp [Array.getD_eq_getD_getElem?, hlt] at h ⊢
  exact h
def bL (listed : Array Bool) (j : Nat) : Bool := listed.getD j false
theorem bL_true {listed : Array Bool} {j : Nat} (h : j < listed.size) : listed.getD j true = bL listed j := by
  simp [bL, Array.getD_eq_getD_getElem?, h]
theorem bL_lt {listed : Array Bool} {j : Nat} (h : bL listed j = true) : j < listed.size := by
  refine Classical.byContradiction fun hn => ?_
  simp [bL, Array.getD_eq_getD_getElem?, Array.getElem?_eq_none (by omega : listed.size ≤ j)] at h
theorem bL_set {listed : Array Bool} {i : Nat} (hi : i < listed.size) : bL (listed.setIfInBounds i true) = bset (bL listed) i := by
  funext j
  unfold bset bL
  simp only [Array.getD_eq_getD_getElem?]
  by_cases e : j = i
  · subst e
    rw [Array.getElem?_setIfInBounds_self_of_lt hi]
    simp
  · rw [Array.getElem?_setIfInBounds_ne (fun h => e h.symm)]
    simp [e]
theorem draw_any (g : Glob E ti) (hf : ∀ j, j < ops.size → Fact E ti ops st0 p j) (hback : backs 0 ops.toList = true) (hQ : ∀ a w, St.OK E (stT ops st0 p ops.size) a w → Q .normal a w) : ∀ (fuel : Nat) (listed : Array Bool) (a : Act) (w : World),
    listed.size = ops.size → Closed ops (bL listed) → todo ops.size listed ≤ fuel → Sim E (slB ops st0 p (bL listed) ops.size) (blB st0 p (bL listed) ops.size) (UB st0 (bL listed) ops.size) a w → wpAny E.P .any ops Q fuel listed a w := by
  have hedge : ∀ i, i < ops.size → ∀ e ∈ (opAt ops i).after.toList, Region.binds .any e = true → e.on < i := by
    intro i hi e he hb
    have := backs_spec ops.toList 0 hback i (opAt ops i) (by simp [opAt, Array.getD_eq_getD_getElem?, hi]) e he hb
    omega
  -- nothing ready: all done
  have fin : ∀ (listed : Array Bool) (a : Act) (w : World), listed.size = ops.size → Region.ready .any ops listed = [] → Sim E (slB ops st0 p (bL listed) ops.size) (blB st0 p (bL listed) ops.size) (UB st0 (bL listed) ops.size) a w → Q .normal a w := by
    intro listed a w hsz hnil hs
    have all : ∀ i, i < ops.size → bL listed i = true := by
      intro i
      induction i using Nat.strongRecOn with
      | _ i ih =>
        intro hi
        refine Classical.byContradiction fun hn => ?_
        have : i ∈ Region.ready .any ops listed := mem_ready.2 ⟨hi, by rw [bL_true (by omega)]; simpa using hn, fun e he hb => ih e.on (hedge i hi e he hb) (by have := hedge i hi e he hb; omega)⟩
        rw [hnil] at this; cases this
    refine hQ a w ?_
    unfold St.OK
    obtain ⟨h1, h2, h3⟩ := stT_spec (ops := ops) (st0 := st0) (p := p) ops.size
    rw [h1, h2, h3]
    have e1 : slB ops st0 p (fun _ => true) ops.size = slB ops st0 p (bL listed) ops.size := by
      funext t
      exact slB_agree ops.size (fun j hj hne => absurd (all j hj).symm hne)
    have e2 : blB st0 p (fun _ => true) ops.size = blB st0 p (bL listed) ops.size := by
      funext t
      exact blB_agree ops.size (fun j hj hne => absurd (all j hj).symm hne)
    have e3 : (fun m => m < st0.next + 8 * ops.size) = UB st0 (bL listed) ops.size := by
      funext m
      apply propext
      constructor
      · intro h
        by_cases hm : m < st0.next
        · exact .inl hm
        · exact .inr ⟨(m - st0.next) / 8, by omega, all _ (by omega), by omega, by omega⟩
      · rintro (h | ⟨j, h1, h2, h3, h4⟩) <;> omega
    rw [e1, e2, e3]
    exact hs
  intro fuel
  induction fuel with
  | zero =>
    intro listed a w hsz hcl htd hs
    have hnil : Region.ready .any ops listed = [] := by
      cases hr : Region.ready .any ops listed with
      | nil => rfl
      | cons i r =>
        obtain ⟨h1, h2, _⟩ := mem_ready.1 (show i ∈ Region.ready .any ops listed by rw [hr]; simp)
        have := todo_set h1 hsz h2
        omega
    exact ⟨hnil, fin listed a w hsz hnil hs⟩
  | succ fuel ih =>
    intro listed a w hsz hcl htd hs
    refine ⟨fun hnil => fin listed a w hsz hnil hs, fun i hi => ?_⟩
    obtain ⟨h1, h2, h3⟩ := mem_ready.1 hi
    have hbi : bL listed i = false := by rw [← bL_true (by omega)]; exact h2
    have hbef : ∀ j, ((Region.before ops).getD i 0).testBit j = true → bL listed j = true := by
      intro j hj
      obtain ⟨e, x1, x2, x3⟩ := before_spec i h1 j hj
      have hon := h3 e x1 x2
      rcases x3 with x3 | x3
      · rw [← x3]; exact hon
      · exact hcl e.on (by have := bL_lt hon; omega) hon j x3
    obtain ⟨s1, s2⟩ := draw_step (Q := Q) hf hcl h1 hbi hbef g hs
    rw [← bL_set (by omega)] at s1 s2
    have hcl' : Closed ops (bL (listed.setIfInBounds i true)) := by
      rw [bL_set (by omega)]
      intro k hk hbk j hj
      unfold bset at hbk ⊢
      rw [Bool.or_eq_true] at hbk ⊢
      rcases hbk with hbk | hbk
      · exact .inl (hcl k hk hbk j hj)
      · have : k = i := by simpa using hbk
        subst this
        exact .inl (hbef j hj)
    have htd' : todo ops.size (listed.setIfInBounds i true) ≤ fuel := by
      have := todo_set h1 hsz h2
      omega
    have ho : ops[i]? = some (opAt ops i) := by simp [opAt, Array.getD_eq_getD_getElem?, h1]
    unfold wpOp
    rw [ho]
    simp only
    by_cases hw : Region.wanted (opAt ops i) (yielded ops a.tmps) = true
    · rw [if_pos hw]
      exact .inl (Oper.wp_mono (fun a' w' h => ih _ a' w' (by simpa using hsz) hcl' htd' h) (s1 hw))
    · rw [if_neg hw]
      exact ih _ _ w (by simpa using hsz) hcl' htd' (s2 (by simpa using hw))
/-- A REGION THAT DRAWS ITS ORDER. -/
theorem region_draw_wp (g : Glob E ti) (hm : E.P.follows .mixedOrders = true) {id : Nat} {K : St → T} (hQ : ∀ st a w, St.OK E st a w → (K st).Holds E rvs QR QD → Q .normal a w) (hback : backs 0 ops.toList = true) {st : St} (hs : St.OK E st a w)
    (h : (exDraw E.n ti E.gt ops (Region.before ops) ops.toList 0 [] st fun st' => K (st'.clear ops.toList)).Holds E rvs QR QD) : (Code.region id ops true).wp E.P Q a w := by
  obtain ⟨p, hf, hk⟩ := facts_of (st0 := st) ops.toList 0 [] (fun _ => default) rfl (fun j hj => by omega) (fun j hj => by omega) h (Nat.zero_le _)
  refine wp_region_any hm (draw_any (st0 := st) (p := p) g hf hback (fun a w hs => hQ _ a w (ok_clear _ hs) hk) ops.size _ a _ (by simp) ?_ ?_ ?_)
  · intro i hi hb
    simp [bL, Array.getD_eq_getD_getElem?, hi] at hb
  · unfold todo
    exact Nat.le_trans (List.length_filter_le _ _) (by simp)
  · have hz : bL (Array.replicate ops.size false) = fun _ => false := by
      funext j
      unfold bL
      by_cases hj : j < ops.size <;> simp [Array.getD_eq_getD_getElem?, hj]
    rw [hz]
    have e1 : ∀ k, slB ops st p (fun _ => false) k = lookS st.slots := by
      intro k
      induction k with
      | zero => rfl
      | succ k ih => exact ih
    have e2 : ∀ k, blB st p (fun _ => false) k = lookB st.blks := by
      intro k
      induction k with
      | zero => rfl
      | succ k ih => exact ih
    have e3 : UB st (fun _ => false) ops.size = fun m => m < st.next := by
      funext m
      apply propext
      constructor
      · rintro (h | ⟨j, _, h, _⟩)
        · exact h
        · cases h
      · exact .inl
    rw [e1, e2, e3]
    exact sim_drew hs
end
end Go.Eng
