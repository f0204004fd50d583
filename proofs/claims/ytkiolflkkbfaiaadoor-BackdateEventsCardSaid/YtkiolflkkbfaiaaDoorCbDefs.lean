/- What each function computes, in plain Lean (printed by a program of this session). Conditions: none. -/
import Derived.Test.YtkiolflkkbfaiaaDoorCbTypes
set_option linter.unusedVariables false
set_option linter.unusedSimpArgs false
namespace Go.Cb
open Go.Eng Go.RowKit
noncomputable def slices_Clone_api_Leg_api_Leg (s : (List ApiLeg)) : Option (List ApiLeg) :=
  if (([] : List ApiLeg).length + s.length) * 32 ≤ 140737488355328 then (some ([] ++ s)) else none
noncomputable def clone_Entry (e : ApiEntry) : Option ApiEntry :=
  (slices_Clone_api_Leg_api_Leg e.Legs).bind fun r => some (⟨e.Id, e.Booked, e.Value, e.Kind, e.Auth, e.Period, e.Key, e.Text, r, e.Chain⟩ : ApiEntry)
noncomputable def backdate_Events_j0 (s : (Int × (List ApiEntry))) (s1 : (List ApiEntry)) : Option ((Int × (List ApiEntry)) ⊕ (List ApiEntry)) :=
  some (.inl ((IntKind.wrap .i64 (s.1 + 1)), s1))
noncomputable def backdate_Events_l1 (j : (List ApiEntry)) (s : (Int × (List ApiEntry))) : Option ((Int × (List ApiEntry)) ⊕ (List ApiEntry)) :=
  if (decide (s.1 < ((List.map ApiEntry.enc j).length : Int))) = true then ((getI j s.1).bind fun ji => if (bif (ji.Kind != 4) then (ji.Kind != 5) else false) = true then ((clone_Entry ji).bind fun r => if (s.2.length + ([r] : List ApiEntry).length) * 112 ≤ 140737488355328 then (backdate_Events_j0 s (s.2 ++ ([r]))) else none) else (backdate_Events_j0 s s.2)) else (some (.inr s.2))
noncomputable def backdate_Events (j : (List ApiEntry)) : Option (List ApiEntry) :=
  Iter (backdate_Events_l1 j) (0, [])
noncomputable def backdate_Affected_j0 (s : (Int × (List Int))) (s1 : (List Int)) : Option ((Int × (List Int)) ⊕ (List Int)) :=
  some (.inl ((IntKind.wrap .i64 (s.1 + 1)), s1))
noncomputable def backdate_Affected_l1 (l : (List ApiPeriod)) (id : Int) (value : Int) (s : (Int × (List Int))) : Option ((Int × (List Int)) ⊕ (List Int)) :=
  if (decide (s.1 < ((List.map ApiPeriod.enc l).length : Int))) = true then ((getI l s.1).bind fun li => if (bif (li.Account == id) then (decide (li.To ≥ value)) else false) = true then (if (s.2.length + ([s.1] : List Int).length) * 8 ≤ 140737488355328 then (backdate_Affected_j0 s (s.2 ++ ([s.1]))) else none) else (backdate_Affected_j0 s s.2)) else (some (.inr s.2))
noncomputable def backdate_Affected (l : (List ApiPeriod)) (id : Int) (value : Int) : Option (List Int) :=
  Iter (backdate_Affected_l1 l id value) (0, [])
noncomputable def account_index_c1 (a : ApiAccount) (c0 : Int) : Option Bool :=
  some (a.Id == c0)
noncomputable def slices_IndexFunc_api_Account_api_Account__account_index_c1_l1 (s : (List ApiAccount)) (f0 : Int) (s1 : Int) : Option (Int ⊕ Int) :=
  if (decide (s1 < ((List.map ApiAccount.enc s).length : Int))) = true then ((getI s s1).bind fun si => (account_index_c1 si f0).bind fun r => if r = true then (some (.inr s1)) else (some (.inl (IntKind.wrap .i64 (s1 + 1))))) else (some (.inr (-1)))
noncomputable def slices_IndexFunc_api_Account_api_Account__account_index_c1 (s : (List ApiAccount)) (f0 : Int) : Option Int :=
  Iter (slices_IndexFunc_api_Account_api_Account__account_index_c1_l1 s f0) 0
noncomputable def account_index (b : ApiBooks) (id : Int) : Option Int :=
  (slices_IndexFunc_api_Account_api_Account__account_index_c1 b.Accounts id).bind fun r => some r
noncomputable def account_Find (b : ApiBooks) (id : Int) : Option (ApiAccount × Bool) :=
  (account_index b id).bind fun r => if (decide (r < 0)) = true then (some ((⟨0, 0, 0, 0, (bs []), (bs []), (bs [])⟩ : ApiAccount), false)) else ((getI b.Accounts r).bind fun account => some (account, true))
noncomputable def backdate_Clean_l1 (l : (List ApiPeriod)) (s : Unit) : Option (Unit ⊕ Bool) :=
  if (decide (0 < ((List.map ApiPeriod.enc l).length : Int))) = true then ((getI l 0).bind fun li => none) else (some (.inr true))
noncomputable def backdate_Clean (b : ApiBooks) (l : (List ApiPeriod)) (id : Int) : Option Bool :=
  (account_Find b id).bind fun r => if (!r.2) = true then (some false) else (Iter (backdate_Clean_l1 l) ())
noncomputable def corebanklaw30_Lives : Option Bool :=
  (backdate_Events ([(⟨0, 0, 0, 1, 0, 0, (bs [97]), (bs []), [], 0⟩ : ApiEntry), (⟨0, 0, 0, 4, 0, 0, (bs [98]), (bs []), [], 0⟩ : ApiEntry), (⟨0, 0, 0, 5, 0, 0, (bs [99]), (bs []), [], 0⟩ : ApiEntry), (⟨0, 0, 0, 6, 0, 0, (bs [100]), (bs []), [], 0⟩ : ApiEntry)])).bind fun r => (backdate_Affected ([(⟨1000, 0, 5, 0, 0, 0, 0, (⟨0, 0⟩ : ApiWide), (⟨0, 0⟩ : ApiWide)⟩ : ApiPeriod), (⟨1001, 0, 9, 0, 0, 0, 0, (⟨0, 0⟩ : ApiWide), (⟨0, 0⟩ : ApiWide)⟩ : ApiPeriod), (⟨1000, 0, 9, 0, 0, 0, 0, (⟨0, 0⟩ : ApiWide), (⟨0, 0⟩ : ApiWide)⟩ : ApiPeriod)]) 1000 6).bind fun r1 => (if (((((List.map ApiEntry.enc r).length : Int) == 2) == true) && true) = true then getI r 0 else some default).bind fun o => (if (((((List.map ApiEntry.enc r).length : Int) == 2) == true) && true) = true then r[(0 : Int).toNat]? else some default).bind fun x => (if (((bif (((List.map ApiEntry.enc r).length : Int) == 2) then (x.Key.toList == (bs [97]).toList) else false) == true) && true) = true then getI r 1 else some default).bind fun o2 => (if (((bif (((List.map ApiEntry.enc r).length : Int) == 2) then (x.Key.toList == (bs [97]).toList) else false) == true) && true) = true then r[(1 : Int).toNat]? else some default).bind fun x3 => (if (((bif (bif (bif (((List.map ApiEntry.enc r).length : Int) == 2) then (x.Key.toList == (bs [97]).toList) else false) then (x3.Key.toList == (bs [100]).toList) else false) then (((List.map (eInt .i64) r1).length : Int) == 1) else false) == true) && true) = true then getI r1 0 else some default).bind fun o4 => (if (((bif (bif (bif (((List.map ApiEntry.enc r).length : Int) == 2) then (x.Key.toList == (bs [97]).toList) else false) then (x3.Key.toList == (bs [100]).toList) else false) then (((List.map (eInt .i64) r1).length : Int) == 1) else false) == true) && true) = true then r1[(0 : Int).toNat]? else some default).bind fun x5 => (if (((bif (bif (bif (bif (((List.map ApiEntry.enc r).length : Int) == 2) then (x.Key.toList == (bs [97]).toList) else false) then (x3.Key.toList == (bs [100]).toList) else false) then (((List.map (eInt .i64) r1).length : Int) == 1) else false) then (x5 == 2) else false) == true) && true) = true then backdate_Clean (⟨[], [], [], (⟨0, 0, 0, 0, 0, 0, 0, 0, 0, 0, 0, 0, 0, 0⟩ : ApiPlan), [], [], [], [], []⟩ : ApiBooks) ([]) 1000 else some default).bind fun r6 => some (bif (bif (bif (bif (bif (((List.map ApiEntry.enc r).length : Int) == 2) then (x.Key.toList == (bs [97]).toList) else false) then (x3.Key.toList == (bs [100]).toList) else false) then (((List.map (eInt .i64) r1).length : Int) == 1) else false) then (x5 == 2) else false) then (!r6) else false)
noncomputable def corebankref30_Affected_j0 (s : (Int × (List Int))) (s2 : (List Int)) : Option ((Int × (List Int)) ⊕ (List Int)) :=
  some (.inl ((IntKind.wrap .i64 (s.1 + 1)), s2))
noncomputable def corebankref30_Affected_l1 (l : (List ApiPeriod)) (id : Int) (value : Int) (s : (Int × (List Int))) : Option ((Int × (List Int)) ⊕ (List Int)) :=
  if (decide (s.1 < ((List.map ApiPeriod.enc l).length : Int))) = true then ((getI l s.1).bind fun li => (if (((li.Account == id) == true) && true) = true then getI l s.1 else some default).bind fun li1 => if (bif (li.Account == id) then (decide (li1.To ≥ value)) else false) = true then (if (s.2.length + ([s.1] : List Int).length) * 8 ≤ 140737488355328 then (corebankref30_Affected_j0 s (s.2 ++ ([s.1]))) else none) else (corebankref30_Affected_j0 s s.2)) else (some (.inr s.2))
noncomputable def corebankref30_Affected (l : (List ApiPeriod)) (id : Int) (value : Int) : Option (List Int) :=
  Iter (corebankref30_Affected_l1 l id value) (0, [])
noncomputable def corebankref30_Event (e : ApiEntry) : Option Bool :=
  some (bif (e.Kind != 4) then (e.Kind != 5) else false)
noncomputable def corebankref30_Events_j0 (s : (Int × (List ApiEntry))) (s2 : (List ApiEntry)) : Option ((Int × (List ApiEntry)) ⊕ (List ApiEntry)) :=
  some (.inl ((IntKind.wrap .i64 (s.1 + 1)), s2))
noncomputable def corebankref30_Events_l1 (j : (List ApiEntry)) (s : (Int × (List ApiEntry))) : Option ((Int × (List ApiEntry)) ⊕ (List ApiEntry)) :=
  if (decide (s.1 < ((List.map ApiEntry.enc j).length : Int))) = true then ((getI j s.1).bind fun ji => (corebankref30_Event ji).bind fun r => if r = true then ((getI j s.1).bind fun ji1 => if (s.2.length + ([ji1] : List ApiEntry).length) * 112 ≤ 140737488355328 then (corebankref30_Events_j0 s (s.2 ++ ([ji1]))) else none) else (corebankref30_Events_j0 s s.2)) else (some (.inr s.2))
noncomputable def corebankref30_Events (j : (List ApiEntry)) : Option (List ApiEntry) :=
  Iter (corebankref30_Events_l1 j) (0, [])
noncomputable def corebankref19_SameLegs_l1 (a : (List ApiLeg)) (b : (List ApiLeg)) (s : Int) : Option (Int ⊕ Bool) :=
  if (decide (s < ((List.map ApiLeg.enc a).length : Int))) = true then ((getI a s).bind fun ai => (getI b s).bind fun bi => if (!((ai.Account == bi.Account) && ((ai.Amount == bi.Amount) && ((ai.Currency.toList == bi.Currency.toList) && true)))) = true then (some (.inr false)) else (some (.inl (IntKind.wrap .i64 (s + 1))))) else (some (.inr true))
noncomputable def corebankref19_SameLegs (a : (List ApiLeg)) (b : (List ApiLeg)) : Option Bool :=
  if (((List.map ApiLeg.enc a).length : Int) != ((List.map ApiLeg.enc b).length : Int)) = true then (some false) else (Iter (corebankref19_SameLegs_l1 a b) 0)
noncomputable def corebankref19_Same (a : ApiEntry) (b : ApiEntry) : Option Bool :=
  (if (((bif (bif (bif (bif (bif (bif (bif (bif (a.Id == b.Id) then (a.Booked == b.Booked) else false) then (a.Value == b.Value) else false) then (a.Kind == b.Kind) else false) then (a.Auth == b.Auth) else false) then (a.Period == b.Period) else false) then (a.Key.toList == b.Key.toList) else false) then (a.Text.toList == b.Text.toList) else false) then (a.Chain == b.Chain) else false) == true) && true) = true then corebankref19_SameLegs a.Legs b.Legs else some default).bind fun r => some (bif (bif (bif (bif (bif (bif (bif (bif (bif (a.Id == b.Id) then (a.Booked == b.Booked) else false) then (a.Value == b.Value) else false) then (a.Kind == b.Kind) else false) then (a.Auth == b.Auth) else false) then (a.Period == b.Period) else false) then (a.Key.toList == b.Key.toList) else false) then (a.Text.toList == b.Text.toList) else false) then (a.Chain == b.Chain) else false) then r else false)
noncomputable def corebanklaw30_sameEntries_l1 (a : (List ApiEntry)) (b : (List ApiEntry)) (s : Int) : Option (Int ⊕ Bool) :=
  if (decide (s < ((List.map ApiEntry.enc a).length : Int))) = true then ((getI a s).bind fun ai => (getI b s).bind fun bi => (corebankref19_Same ai bi).bind fun r => if (!r) = true then (some (.inr false)) else (some (.inl (IntKind.wrap .i64 (s + 1))))) else (some (.inr true))
noncomputable def corebanklaw30_sameEntries (a : (List ApiEntry)) (b : (List ApiEntry)) : Option Bool :=
  if (((List.map ApiEntry.enc a).length : Int) != ((List.map ApiEntry.enc b).length : Int)) = true then (some false) else (Iter (corebanklaw30_sameEntries_l1 a b) 0)
noncomputable def corebanklaw30_BackdateEvents_l2 (j : (List ApiEntry)) (r2 : (List Int)) (r3 : (List Int)) (s4 : Int) : Option (Int ⊕ Bool) :=
  if (decide (s4 < ((List.map (eInt .i64) r2).length : Int))) = true then ((getI r2 s4).bind fun o => (r2[(s4 : Int).toNat]?).bind fun x5 => (getI r3 s4).bind fun o6 => (r3[(s4 : Int).toNat]?).bind fun x7 => if (x5 != x7) = true then (some (.inr false)) else (some (.inl (IntKind.wrap .i64 (s4 + 1))))) else (((backdate_Events j).bind fun r8 => (corebankref30_Events j).bind fun r9 => (corebanklaw30_sameEntries r8 r9).bind fun r10 => (if ((r10 == true) && true) = true then corebanklaw30_Lives else some default).bind fun r11 => some (bif r10 then r11 else false)).map .inr)
noncomputable def corebanklaw30_BackdateEvents_l1 (j : (List ApiEntry)) (l : (List ApiPeriod)) (x : Arr2Int) (s : Int) : Option (Int ⊕ Bool) :=
  if (decide (s < ((List.map ApiEntry.enc j).length : Int))) = true then ((getI j s).bind fun ji => if (decide (((List.map ApiLeg.enc ji.Legs).length : Int) > 20)) = true then ((corebanklaw30_Lives).bind fun r1 => some (.inr r1)) else (some (.inl (IntKind.wrap .i64 (s + 1))))) else (((backdate_Affected l x.x0 x.x1).bind fun r2 => (corebankref30_Affected l x.x0 x.x1).bind fun r3 => if (((List.map (eInt .i64) r2).length : Int) != ((List.map (eInt .i64) r3).length : Int)) = true then (some false) else (Iter (corebanklaw30_BackdateEvents_l2 j r2 r3) 0)).map .inr)
noncomputable def corebanklaw30_BackdateEvents (j : (List ApiEntry)) (l : (List ApiPeriod)) (x : Arr2Int) : Option Bool :=
  if (bif (decide (((List.map ApiEntry.enc j).length : Int) > 100)) then true else (decide (((List.map ApiPeriod.enc l).length : Int) > 100))) = true then ((corebanklaw30_Lives).bind fun r => some r) else (Iter (corebanklaw30_BackdateEvents_l1 j l x) 0)
end Go.Cb
