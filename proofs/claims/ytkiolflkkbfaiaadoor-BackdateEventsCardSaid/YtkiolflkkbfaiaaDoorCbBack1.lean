/- BackdateEvents, in plain words: it answers true. Conditions: none. -/
import Derived.Test.YtkiolflkkbfaiaaDoorCbPlain
import Derived.Test.YtkiolflkkbfaiaaDoorCbDefs
set_option linter.unusedVariables false
set_option linter.unusedSimpArgs false
namespace Go.Cb
open Go.Eng

def affUpto (l : List ApiPeriod) (id value : Int) : Nat → List Int
  | 0 => []
  | i + 1 => match l[i]? with
    | some p => if p.Account = id ∧ p.To ≥ value then affUpto l id value i ++ [(i : Int)] else affUpto l id value i
    | none => affUpto l id value i
theorem affUpto_len (l : List ApiPeriod) (id value : Int) (i : Nat) : (affUpto l id value i).length ≤ i := by
  induction i with
  | zero => simp [affUpto]
  | succ i ih =>
    unfold affUpto
    split
    · split
      · simp; exact ih
      · omega
    · omega
theorem affected_eq (l : List ApiPeriod) (id value : Int) (h : l.length ≤ 1000000) : backdate_Affected l id value = some (affUpto l id value l.length) := by
  refine iter_run l.length (fun i : Nat => ((i : Int), affUpto l id value i)) rfl (fun i hi => ?_) (iter_end ?_)
  · have := affUpto_len l id value i
    have w := w64_succ (n := i) (by omega)
    have hm : ((affUpto l id value i).length + 1) * 8 ≤ 140737488355328 := by omega
    by_cases h1 : l[i].Account = id <;> by_cases h2 : l[i].To ≥ value <;> simp [backdate_Affected_l1, backdate_Affected_j0, getI_lt l i hi, affUpto, h1, h2, hi, w, hm]
  · simp [backdate_Affected_l1]
theorem affectedR_eq (l : List ApiPeriod) (id value : Int) (h : l.length ≤ 1000000) : corebankref30_Affected l id value = some (affUpto l id value l.length) := by
  refine iter_run l.length (fun i : Nat => ((i : Int), affUpto l id value i)) rfl (fun i hi => ?_) (iter_end ?_)
  · have := affUpto_len l id value i
    have w := w64_succ (n := i) (by omega)
    have hm : ((affUpto l id value i).length + 1) * 8 ≤ 140737488355328 := by omega
    by_cases h1 : l[i].Account = id <;> by_cases h2 : l[i].To ≥ value <;> simp [corebankref30_Affected_l1, corebankref30_Affected_j0, getI_lt l i hi, affUpto, h1, h2, hi, w, hm]
  · simp [corebankref30_Affected_l1]
def isEvent (e : ApiEntry) : Bool := e.Kind != 4 && e.Kind != 5
theorem isEvent_bif (e : ApiEntry) : (bif e.Kind != 4 then e.Kind != 5 else false) = isEvent e := by simp [isEvent]
theorem clone_eq (e : ApiEntry) (h : e.Legs.length ≤ 1000000) : clone_Entry e = some e := by
  have : e.Legs.length * 32 ≤ 140737488355328 := by omega
  simp [clone_Entry, slices_Clone_api_Leg_api_Leg, this]
theorem filter_take (j : List ApiEntry) (i : Nat) (h : i < j.length) : (j.take (i + 1)).filter isEvent = (j.take i).filter isEvent ++ (if isEvent j[i] then [j[i]] else []) := by
  rw [take_succ_of j i h, List.filter_append]
  congr 1
  cases hq : isEvent j[i] <;> simp [hq]
theorem filter_len (j : List ApiEntry) (i : Nat) : ((j.take i).filter isEvent).length ≤ i := Nat.le_trans (List.length_filter_le ..) (by simp; omega)
theorem events_eq (j : List ApiEntry) (h : j.length ≤ 1000000) (hl : ∀ e ∈ j, e.Legs.length ≤ 1000000) : backdate_Events j = some (j.filter isEvent) := by
  refine iter_run j.length (fun i : Nat => ((i : Int), (j.take i).filter isEvent)) rfl (fun i hi => ?_) (iter_end ?_)
  · have := filter_len j i
    have w := w64_succ (n := i) (by omega)
    have hm : (((j.take i).filter isEvent).length + 1) * 112 ≤ 140737488355328 := by omega
    cases hq : isEvent j[i] <;> simp [backdate_Events_l1, backdate_Events_j0, getI_lt j i hi, hi, w, isEvent_bif, hq, filter_take j i hi, clone_eq j[i] (hl _ (List.getElem_mem hi)), hm] <;> simpa [isEvent] using hq
  · simp [backdate_Events_l1]
theorem eventsR_eq (j : List ApiEntry) (h : j.length ≤ 1000000) : corebankref30_Events j = some (j.filter isEvent) := by
  refine iter_run j.length (fun i : Nat => ((i : Int), (j.take i).filter isEvent)) rfl (fun i hi => ?_) (iter_end ?_)
  · have := filter_len j i
    have w := w64_succ (n := i) (by omega)
    have hm : (((j.take i).filter isEvent).length + 1) * 112 ≤ 140737488355328 := by omega
    cases hq : isEvent j[i] <;> simp [corebankref30_Events_l1, corebankref30_Events_j0, corebankref30_Event, getI_lt j i hi, hi, w, isEvent_bif, hq, filter_take j i hi, hm] <;> simpa [isEvent] using hq
  · simp [corebankref30_Events_l1]
theorem sameLegs_refl (a : List ApiLeg) (h : a.length ≤ 9000000000000000000) : corebankref19_SameLegs a a = some true := by
  have : corebankref19_SameLegs a a = Iter (corebankref19_SameLegs_l1 a a) 0 := by simp [corebankref19_SameLegs]
  rw [this]
  refine iter_run a.length (fun i : Nat => (i : Int)) rfl (fun i hi => ?_) (iter_end ?_)
  · have w := w64_succ (n := i) (by omega)
    simp [corebankref19_SameLegs_l1, getI_lt a i hi, hi, w]
  · simp [corebankref19_SameLegs_l1]
theorem same_refl (a : ApiEntry) (h : a.Legs.length ≤ 9000000000000000000) : corebankref19_Same a a = some true := by
  simp [corebankref19_Same, sameLegs_refl a.Legs h]
theorem sameEntries_refl (a : List ApiEntry) (h : a.length ≤ 9000000000000000000) (hl : ∀ e ∈ a, e.Legs.length ≤ 9000000000000000000) : corebanklaw30_sameEntries a a = some true := by
  have : corebanklaw30_sameEntries a a = Iter (corebanklaw30_sameEntries_l1 a a) 0 := by simp [corebanklaw30_sameEntries]
  rw [this]
  refine iter_run a.length (fun i : Nat => (i : Int)) rfl (fun i hi => ?_) (iter_end ?_)
  · have w := w64_succ (n := i) (by omega)
    simp [corebanklaw30_sameEntries_l1, getI_lt a i hi, hi, same_refl a[i] (hl _ (List.getElem_mem hi)), w]
  · simp [corebanklaw30_sameEntries_l1]
theorem clean_none : backdate_Clean (⟨[], [], [], (⟨0, 0, 0, 0, 0, 0, 0, 0, 0, 0, 0, 0, 0, 0⟩ : ApiPlan), [], [], [], [], []⟩ : ApiBooks) [] 1000 = some false := by
  have h : slices_IndexFunc_api_Account_api_Account__account_index_c1 [] 1000 = some (-1) := by
    apply iter_end
    simp [slices_IndexFunc_api_Account_api_Account__account_index_c1_l1]
  simp [backdate_Clean, account_Find, account_index, h]
theorem lives_true : corebanklaw30_Lives = some true := by
  unfold corebanklaw30_Lives
  rw [events_eq _ (by simp) (by simp), affected_eq _ _ _ (by simp)]
  simp [isEvent, affUpto, getI, clean_none]
theorem backdateEvents_true (j : List ApiEntry) (l : List ApiPeriod) (x : Arr2Int) : corebanklaw30_BackdateEvents j l x = some true := by
  unfold corebanklaw30_BackdateEvents
  by_cases hb : (bif (decide (((List.map ApiEntry.enc j).length : Int) > 100)) then true else (decide (((List.map ApiPeriod.enc l).length : Int) > 100))) = true
  · rw [if_pos hb, lives_true]; rfl
  · rw [if_neg hb]
    simp at hb
    obtain ⟨hj, hl⟩ := hb
    have hj : j.length ≤ 100 := by omega
    have hl : l.length ≤ 100 := by omega
    rcases iter_find (B := corebanklaw30_BackdateEvents_l1 j l x) j.length (fun i : Nat => (i : Int)) (fun i => match j[i]? with | some e => decide (e.Legs.length > 20) | none => false) (fun i hi hq => by
        rw [List.getElem?_eq_getElem hi] at hq
        have w := w64_succ (n := i) (by omega)
        have h20 : ¬ (20 < (j[i].Legs.length : Int)) := by
          simp at hq
          omega
        simp [corebanklaw30_BackdateEvents_l1, getI_lt j i hi, hi, w, h20]) with ⟨i, h1, h2, h3, h4⟩ | ⟨h1, h2⟩
    · show Iter _ ((fun i : Nat => (i : Int)) 0) = _
      rw [h4]
      apply iter_end
      rw [List.getElem?_eq_getElem h1] at h2
      have h20 : 20 < (j[i].Legs.length : Int) := by
        simp at h2
        omega
      simp [corebanklaw30_BackdateEvents_l1, getI_lt j i h1, h1, lives_true, h20]
    · show Iter _ ((fun i : Nat => (i : Int)) 0) = _
      rw [h2]
      have hlegs : ∀ e ∈ j, e.Legs.length ≤ 20 := by
        intro e he
        obtain ⟨i, hi, rfl⟩ := List.getElem_of_mem he
        have := h1 i hi
        rw [List.getElem?_eq_getElem hi] at this
        simp at this
        exact this
      apply iter_map (A := some true)
      have e1 := affected_eq l x.x0 x.x1 (by omega)
      have e2 := affectedR_eq l x.x0 x.x1 (by omega)
      have e3 := events_eq j (by omega) (fun e he => by have := hlegs e he; omega)
      have e4 := eventsR_eq j (by omega)
      have hfl : (j.filter isEvent).length ≤ 100 := Nat.le_trans (List.length_filter_le ..) hj
      have e5 := sameEntries_refl (j.filter isEvent) (by omega) (fun e he => by have := hlegs e (List.mem_filter.1 he).1; omega)
      have hal := affUpto_len l x.x0 x.x1 l.length
      have e6 : Iter (corebanklaw30_BackdateEvents_l2 j (affUpto l x.x0 x.x1 l.length) (affUpto l x.x0 x.x1 l.length)) 0 = some true := by
        generalize hA : affUpto l x.x0 x.x1 l.length = A at *
        refine iter_run A.length (fun i : Nat => (i : Int)) rfl (fun i hi => ?_) (iter_map (A := some true) ?_)
        · have w := w64_succ (n := i) (by omega)
          simp [corebanklaw30_BackdateEvents_l2, getI_lt A i hi, hi, w]
        · simp [corebanklaw30_BackdateEvents_l2, e3, e4, e5, lives_true]
      simp [corebanklaw30_BackdateEvents_l1, e1, e2, e6]
end Go.Cb
