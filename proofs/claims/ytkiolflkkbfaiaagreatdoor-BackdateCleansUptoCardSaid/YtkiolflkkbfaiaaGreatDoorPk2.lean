/- Parts of a proof, merged: What each function computes, in plain Lean (printed by a program of this session). · Each function does what its plain form says, part 1. Conditions: none. -/
import Derived.Test.YtkiolflkkbfaiaaGreatDoorPk1
set_option linter.unusedVariables false
set_option linter.unusedSimpArgs false
namespace Go.Cb
open Go.Eng Go.RowKit
noncomputable def l30_Few_l1 (b : ApiBooks) (s : Int) : Option (Int ⊕ Bool) :=
  if (decide (s < ((List.map ApiEntry.enc b.Journal).length : Int))) = true then ((getI b.Journal s).bind fun journal => if (decide (((List.map ApiLeg.enc journal.Legs).length : Int) > 20)) = true then (some (Sum.inr false)) else (some (Sum.inl (IntKind.wrap .i64 (s + 1))))) else (some (Sum.inr true))
noncomputable def l30_Few (b : ApiBooks) (l : (List ApiPeriod)) : Option Bool :=
  if (bif (bif (decide (((List.map ApiAccount.enc b.Accounts).length : Int) > 12)) then true else (decide (((List.map ApiEntry.enc b.Journal).length : Int) > 60))) then true else (decide (((List.map ApiPeriod.enc l).length : Int) > 30))) = true then (some false) else (Iter (l30_Few_l1 b) 0)
noncomputable def q24_Find_l1 (b : ApiBooks) (id : Int) (s : Int) : Option (Int ⊕ (ApiAccount × Bool)) :=
  if (decide (s < ((List.map ApiAccount.enc b.Accounts).length : Int))) = true then ((getI b.Accounts s).bind fun account => if (account.Id == id) = true then ((getI b.Accounts s).bind fun account1 => some (Sum.inr (account1, true))) else (some (Sum.inl (IntKind.wrap .i64 (s + 1))))) else (some (Sum.inr ((⟨0, 0, 0, 0, (bs []), (bs []), (bs [])⟩ : ApiAccount), false)))
noncomputable def q24_Find (b : ApiBooks) (id : Int) : Option (ApiAccount × Bool) :=
  Iter (q24_Find_l1 b id) 0
noncomputable def l30_near_j0 (s : (Int × Int)) (s1 : Int) : Option ((Int × Int) ⊕ Bool) :=
  some (Sum.inl (s1, (IntKind.wrap .i64 (s.2 + 1))))
noncomputable def l30_near_l1 (l : (List ApiPeriod)) (id : Int) (s : (Int × Int)) : Option ((Int × Int) ⊕ Bool) :=
  if (decide (s.2 < ((List.map ApiPeriod.enc l).length : Int))) = true then ((getI l s.2).bind fun li => if (li.Account != id) = true then (l30_near_j0 s s.1) else ((getI l s.2).bind fun li2 => (if (((decide (li2.To < 0)) == false) && true) = true then getI l s.2 else some default).bind fun li3 => (if (((bif (decide (li2.To < 0)) then true else (decide (li3.To > 73048))) == false) && true) = true then getI l s.2 else some default).bind fun li4 => if (bif (bif (decide (li2.To < 0)) then true else (decide (li3.To > 73048))) then true else (decide ((IntKind.wrap .i64 (li4.To - s.1)) > 400))) = true then (some (Sum.inr false)) else ((getI l s.2).bind fun li5 => l30_near_j0 s li5.To))) else (some (Sum.inr true))
noncomputable def l30_near (b : ApiBooks) (l : (List ApiPeriod)) (id : Int) : Option Bool :=
  (q24_Find b id).bind fun r => Iter (l30_near_l1 l id) (r.1.Opened, 0)
noncomputable def q03_Code_l1 (s : ByteArray) (s1 : Int) : Option (Int ⊕ Bool) :=
  if (decide (s1 < 3)) = true then (if (0 : Int) ≤ s1 ∧ s1 < (s.size : Int) then (if ((((decide ((bt s s1) < 65)) == false) && true) = true → (0 : Int) ≤ s1 ∧ s1 < (s.size : Int)) then (if (bif (decide ((bt s s1) < 65)) then true else (decide ((bt s s1) > 90))) = true then (some (Sum.inr false)) else (some (Sum.inl (IntKind.wrap .i64 (s1 + 1))))) else none) else none) else (some (Sum.inr true))
noncomputable def q03_Code (s : ByteArray) : Option Bool :=
  if ((s.size : Int) != 3) = true then (some false) else (Iter (q03_Code_l1 s) 0)
noncomputable def q03_Check_l1 (l : (List ApiCurrency)) (s : Int) : Option (Int ⊕ Int) :=
  if (decide (s < ((List.map ApiCurrency.enc l).length : Int))) = true then ((getI l s).bind fun li => (q03_Code li.Code).bind fun r => if (!r) = true then (some (Sum.inr 4)) else ((getI l s).bind fun li1 => (if (((decide (li1.Digits < 0)) == false) && true) = true then getI l s else some default).bind fun li2 => if (bif (decide (li1.Digits < 0)) then true else (decide (li2.Digits > 4))) = true then (some (Sum.inr 1)) else ((if (((decide (s > 0)) == true) && true) = true then getI l s else some default).bind fun li3 => (if (((decide (s > 0)) == true) && true) = true then getI l (IntKind.wrap .i64 (s - 1)) else some default).bind fun li4 => if (bif (decide (s > 0)) then (Op.bytesLess li3.Code.toList li4.Code.toList || li3.Code.toList == li4.Code.toList) else false) = true then (some (Sum.inr 10)) else (some (Sum.inl (IntKind.wrap .i64 (s + 1))))))) else (some (Sum.inr 0))
noncomputable def q03_Check (l : (List ApiCurrency)) : Option Int :=
  if (bif (decide (((List.map ApiCurrency.enc l).length : Int) < 1)) then true else (decide (((List.map ApiCurrency.enc l).length : Int) > 8))) = true then (some 5) else (Iter (q03_Check_l1 l) 0)
noncomputable def q05_Name_l1 (s : ByteArray) (s1 : Int) : Option (Int ⊕ Bool) :=
  if (decide (s1 < (s.size : Int))) = true then (if (0 : Int) ≤ s1 ∧ s1 < (s.size : Int) then (if ((((decide ((bt s s1) < 97)) == false) && true) = true → (0 : Int) ≤ s1 ∧ s1 < (s.size : Int)) then (if ((((bif (decide ((bt s s1) < 97)) then true else (decide ((bt s s1) > 122))) == true) && true) = true → (0 : Int) ≤ s1 ∧ s1 < (s.size : Int)) then (if ((((decide ((bt s s1) < 48)) == false) && (((bif (decide ((bt s s1) < 97)) then true else (decide ((bt s s1) > 122))) == true) && true)) = true → (0 : Int) ≤ s1 ∧ s1 < (s.size : Int)) then (if ((((bif (bif (decide ((bt s s1) < 97)) then true else (decide ((bt s s1) > 122))) then (bif (decide ((bt s s1) < 48)) then true else (decide ((bt s s1) > 57))) else false) == true) && true) = true → (0 : Int) ≤ s1 ∧ s1 < (s.size : Int)) then (if (bif (bif (bif (decide ((bt s s1) < 97)) then true else (decide ((bt s s1) > 122))) then (bif (decide ((bt s s1) < 48)) then true else (decide ((bt s s1) > 57))) else false) then ((bt s s1) != 95) else false) = true then (some (Sum.inr false)) else (some (Sum.inl (IntKind.wrap .i64 (s1 + 1))))) else none) else none) else none) else none) else none) else (some (Sum.inr true))
noncomputable def q05_Name (s : ByteArray) : Option Bool :=
  if ((((bif (decide ((s.size : Int) < 1)) then true else (decide ((s.size : Int) > 16))) == false) && true) = true → (0 : Int) ≤ 0 ∧ 0 < (s.size : Int)) then (if ((((bif (bif (decide ((s.size : Int) < 1)) then true else (decide ((s.size : Int) > 16))) then true else (decide ((bt s 0) < 97))) == false) && true) = true → (0 : Int) ≤ 0 ∧ 0 < (s.size : Int)) then (if (bif (bif (bif (decide ((s.size : Int) < 1)) then true else (decide ((s.size : Int) > 16))) then true else (decide ((bt s 0) < 97))) then true else (decide ((bt s 0) > 122))) = true then (some false) else (Iter (q05_Name_l1 s) 0)) else none) else none
noncomputable def q05_Rises_l1 (l : (List Int)) (s : Int) : Option (Int ⊕ Bool) :=
  if (decide (s < ((List.map (eInt .i64) l).length : Int))) = true then ((getI l s).bind fun li => (getI l (IntKind.wrap .i64 (s - 1))).bind fun li1 => if (decide (li ≤ li1)) = true then (some (Sum.inr false)) else (some (Sum.inl (IntKind.wrap .i64 (s + 1))))) else (some (Sum.inr true))
noncomputable def q05_Rises (l : (List Int)) : Option Bool :=
  Iter (q05_Rises_l1 l) 1
noncomputable def q04_Valid (day : Int) : Option Bool :=
  some (bif (decide (day ≥ 0)) then (decide (day ≤ 73048)) else false)
noncomputable def q05_Check_l2 (c : ApiCalendar) (s3 : Int) : Option (Int ⊕ Int) :=
  if (decide (s3 < ((List.map (eInt .i64) c.Holidays).length : Int))) = true then ((getI c.Holidays s3).bind fun holiday => (q04_Valid holiday).bind fun r4 => if (!r4) = true then (some (Sum.inr 1)) else (some (Sum.inl (IntKind.wrap .i64 (s3 + 1))))) else (((q05_Rises c.Holidays).bind fun r5 => if (!r5) = true then (some 10) else (some 0)).map .inr)
noncomputable def q05_Check_l1 (c : ApiCalendar) (s : Int) : Option (Int ⊕ Int) :=
  if (decide (s < ((List.map (eInt .i64) c.Weekend).length : Int))) = true then ((getI c.Weekend s).bind fun weekend => (if (((decide (weekend < 0)) == false) && true) = true then getI c.Weekend s else some default).bind fun weekend1 => if (bif (decide (weekend < 0)) then true else (decide (weekend1 > 6))) = true then (some (Sum.inr 1)) else (some (Sum.inl (IntKind.wrap .i64 (s + 1))))) else (((if (((decide (((List.map (eInt .i64) c.Weekend).length : Int) > 6)) == false) && true) = true then q05_Rises c.Weekend else some default).bind fun r2 => if (bif (decide (((List.map (eInt .i64) c.Weekend).length : Int) > 6)) then true else (!r2)) = true then (some 1) else (if (decide (((List.map (eInt .i64) c.Holidays).length : Int) > 400)) = true then (some 5) else (Iter (q05_Check_l2 c) 0))).map .inr)
noncomputable def q05_Check (c : ApiCalendar) : Option Int :=
  (q05_Name c.Name).bind fun r => if (!r) = true then (some 4) else (Iter (q05_Check_l1 c) 0)
noncomputable def q26_calendars_l1 (l : (List ApiCalendar)) (s : Int) : Option (Int ⊕ Int) :=
  if (decide (s < ((List.map ApiCalendar.enc l).length : Int))) = true then ((getI l s).bind fun li => (q05_Check li).bind fun r => if (r != 0) = true then (some (Sum.inr r)) else ((if (((decide (s > 0)) == true) && true) = true then getI l s else some default).bind fun li1 => (if (((decide (s > 0)) == true) && true) = true then getI l (IntKind.wrap .i64 (s - 1)) else some default).bind fun li2 => if (bif (decide (s > 0)) then (Op.bytesLess li1.Name.toList li2.Name.toList || li1.Name.toList == li2.Name.toList) else false) = true then (some (Sum.inr 10)) else (some (Sum.inl (IntKind.wrap .i64 (s + 1)))))) else (some (Sum.inr 0))
noncomputable def q26_calendars (l : (List ApiCalendar)) : Option Int :=
  Iter (q26_calendars_l1 l) 0
noncomputable def q18_name_l1 (s : ByteArray) (s1 : Int) : Option (Int ⊕ Bool) :=
  if (decide (s1 < (s.size : Int))) = true then (if (0 : Int) ≤ s1 ∧ s1 < (s.size : Int) then (if ((((decide ((bt s s1) < 97)) == false) && true) = true → (0 : Int) ≤ s1 ∧ s1 < (s.size : Int)) then (if ((((bif (decide ((bt s s1) < 97)) then true else (decide ((bt s s1) > 122))) == true) && true) = true → (0 : Int) ≤ s1 ∧ s1 < (s.size : Int)) then (if ((((decide ((bt s s1) < 48)) == false) && (((bif (decide ((bt s s1) < 97)) then true else (decide ((bt s s1) > 122))) == true) && true)) = true → (0 : Int) ≤ s1 ∧ s1 < (s.size : Int)) then (if ((((bif (bif (decide ((bt s s1) < 97)) then true else (decide ((bt s s1) > 122))) then (bif (decide ((bt s s1) < 48)) then true else (decide ((bt s s1) > 57))) else false) == true) && true) = true → (0 : Int) ≤ s1 ∧ s1 < (s.size : Int)) then (if (bif (bif (bif (decide ((bt s s1) < 97)) then true else (decide ((bt s s1) > 122))) then (bif (decide ((bt s s1) < 48)) then true else (decide ((bt s s1) > 57))) else false) then ((bt s s1) != 95) else false) = true then (some (Sum.inr false)) else (some (Sum.inl (IntKind.wrap .i64 (s1 + 1))))) else none) else none) else none) else none) else none) else (some (Sum.inr true))
noncomputable def q18_name (s : ByteArray) : Option Bool :=
  if ((((bif (s.toList == (bs []).toList) then true else (decide ((s.size : Int) > 16))) == false) && true) = true → (0 : Int) ≤ 0 ∧ 0 < (s.size : Int)) then (if ((((bif (bif (s.toList == (bs []).toList) then true else (decide ((s.size : Int) > 16))) then true else (decide ((bt s 0) < 97))) == false) && true) = true → (0 : Int) ≤ 0 ∧ 0 < (s.size : Int)) then (if (bif (bif (bif (s.toList == (bs []).toList) then true else (decide ((s.size : Int) > 16))) then true else (decide ((bt s 0) < 97))) then true else (decide ((bt s 0) > 122))) = true then (some false) else (Iter (q18_name_l1 s) 1)) else none) else none
noncomputable def q18_Find_l1 (l : (List ApiGl)) (id : Int) (s : Int) : Option (Int ⊕ (ApiGl × Bool)) :=
  if (decide (s < ((List.map ApiGl.enc l).length : Int))) = true then ((getI l s).bind fun li => if (li.Id == id) = true then ((getI l s).bind fun li1 => some (Sum.inr (li1, true))) else (some (Sum.inl (IntKind.wrap .i64 (s + 1))))) else (some (Sum.inr ((⟨0, 0, 0, (bs [])⟩ : ApiGl), false)))
noncomputable def q18_Find (l : (List ApiGl)) (id : Int) : Option (ApiGl × Bool) :=
  Iter (q18_Find_l1 l id) 0
noncomputable def q18_Parent_l1 (l : (List ApiGl)) (id : Int) (s : Int) : Option (Int ⊕ Bool) :=
  if (decide (s < ((List.map ApiGl.enc l).length : Int))) = true then ((getI l s).bind fun li => if (li.Parent == id) = true then (some (Sum.inr true)) else (some (Sum.inl (IntKind.wrap .i64 (s + 1))))) else (some (Sum.inr false))
noncomputable def q18_Parent (l : (List ApiGl)) (id : Int) : Option Bool :=
  Iter (q18_Parent_l1 l id) 0
noncomputable def q18_used (l : (List ApiGl)) (id : Int) (kind : Int) : Option Int :=
  (q18_Find l id).bind fun r => (if (((!r.2) == false) && true) = true then q18_Parent l id else some default).bind fun r1 => if (bif (!r.2) then true else r1) = true then (some 11) else (if (r.1.Kind != kind) = true then (some 3) else (some 0))
noncomputable def q18_Check_j0 (s : Int) (s2 : Unit) : Option (Int ⊕ Int) :=
  some (Sum.inl (IntKind.wrap .i64 (s + 1)))
noncomputable def q18_Check_l2 (l : (List ApiGl)) (p : ApiPlan) (s4 : Int) : Option (Int ⊕ Int) :=
  if (decide (s4 < ((List.map (eInt .i64) ([p.Cash, p.Deposits, p.InterestPaid, p.InterestEarned, p.FeeEarned, p.Tax, p.Clearing, p.Loans, p.LoanInterest, p.Penalty, p.Provision, p.ProvisionCost, p.Loss, p.Recovery])).length : Int))) = true then ((getI ([p.Cash, p.Deposits, p.InterestPaid, p.InterestEarned, p.FeeEarned, p.Tax, p.Clearing, p.Loans, p.LoanInterest, p.Penalty, p.Provision, p.ProvisionCost, p.Loss, p.Recovery] : List Int) s4).bind fun o => (([p.Cash, p.Deposits, p.InterestPaid, p.InterestEarned, p.FeeEarned, p.Tax, p.Clearing, p.Loans, p.LoanInterest, p.Penalty, p.Provision, p.ProvisionCost, p.Loss, p.Recovery] : List Int)[(s4 : Int).toNat]?).bind fun x => (getI ([1, 2, 5, 4, 4, 2, 1, 1, 4, 4, 2, 5, 5, 4] : List Int) s4).bind fun o5 => (([1, 2, 5, 4, 4, 2, 1, 1, 4, 4, 2, 5, 5, 4] : List Int)[(s4 : Int).toNat]?).bind fun x6 => (q18_used l x x6).bind fun r7 => if (r7 != 0) = true then (some (Sum.inr r7)) else (some (Sum.inl (IntKind.wrap .i64 (s4 + 1))))) else (some (Sum.inr 0))
noncomputable def q18_Check_l1 (l : (List ApiGl)) (p : ApiPlan) (s : Int) : Option (Int ⊕ Int) :=
  if (decide (s < ((List.map ApiGl.enc l).length : Int))) = true then ((getI l s).bind fun li => if (bif (bif (bif (decide (li.Id < 1)) then true else (decide (li.Id > 999))) then true else (decide (li.Kind < 1))) then true else (decide (li.Kind > 5))) = true then (some (Sum.inr 1)) else ((if (((decide (s > 0)) == true) && true) = true then getI l (IntKind.wrap .i64 (s - 1)) else some default).bind fun li1 => if (bif (decide (s > 0)) then (decide (li.Id ≤ li1.Id)) else false) = true then (some (Sum.inr 10)) else ((q18_name li.Name).bind fun r => if (!r) = true then (some (Sum.inr 4)) else (if (li.Parent == 0) = true then (q18_Check_j0 s ()) else (if (0 : Int) ≤ 0 ∧ 0 ≤ s ∧ s ≤ (l.length : Int) then ((q18_Find (subl l 0 s) li.Parent).bind fun r3 => if (!r3.2) = true then (some (Sum.inr 11)) else (if (r3.1.Kind != li.Kind) = true then (some (Sum.inr 3)) else (q18_Check_j0 s ()))) else none))))) else ((Iter (q18_Check_l2 l p) 0).map .inr)
noncomputable def q18_Check (l : (List ApiGl)) (p : ApiPlan) : Option Int :=
  if (bif (decide (((List.map ApiGl.enc l).length : Int) < 1)) then true else (decide (((List.map ApiGl.enc l).length : Int) > 40))) = true then (some 5) else (Iter (q18_Check_l1 l p) 0)
noncomputable def q17_before (a : ApiProduct) (b : ApiProduct) : Option Bool :=
  some (bif (Op.bytesLess a.Name.toList b.Name.toList) then true else (bif (a.Name.toList == b.Name.toList) then (decide (a.From < b.From)) else false))
noncomputable def q17_Check_l2 (l : (List ApiProduct)) (s2 : Int) : Option (Int ⊕ Int) :=
  if (decide (s2 < ((List.map ApiProduct.enc l).length : Int))) = true then ((getI l s2).bind fun li3 => (getI l (IntKind.wrap .i64 (s2 - 1))).bind fun li4 => (if (((li3.Name.toList == li4.Name.toList) == true) && true) = true then getI l s2 else some default).bind fun li5 => (if (((li3.Name.toList == li4.Name.toList) == true) && true) = true then getI l (IntKind.wrap .i64 (s2 - 1)) else some default).bind fun li6 => if (bif (li3.Name.toList == li4.Name.toList) then (!(li5.Currency.toList == li6.Currency.toList)) else false) = true then (some (Sum.inr 14)) else (some (Sum.inl (IntKind.wrap .i64 (s2 + 1))))) else (some (Sum.inr 0))
noncomputable def q17_Check_l1 (l : (List ApiProduct)) (s : Int) : Option (Int ⊕ Int) :=
  if (decide (s < ((List.map ApiProduct.enc l).length : Int))) = true then ((getI l (IntKind.wrap .i64 (s - 1))).bind fun li => (getI l s).bind fun li1 => (q17_before li li1).bind fun r => if (!r) = true then (some (Sum.inr 10)) else (some (Sum.inl (IntKind.wrap .i64 (s + 1))))) else ((Iter (q17_Check_l2 l) 1).map .inr)
noncomputable def q17_Check (l : (List ApiProduct)) : Option Int :=
  if (decide (((List.map ApiProduct.enc l).length : Int) > 64)) = true then (some 5) else (Iter (q17_Check_l1 l) 1)
noncomputable def q15_Name_l1 (s : ByteArray) (s1 : Int) : Option (Int ⊕ Bool) :=
  if (decide (s1 < (s.size : Int))) = true then (if (0 : Int) ≤ s1 ∧ s1 < (s.size : Int) then (if ((((decide ((bt s s1) < 97)) == false) && true) = true → (0 : Int) ≤ s1 ∧ s1 < (s.size : Int)) then (if ((((bif (decide ((bt s s1) < 97)) then true else (decide ((bt s s1) > 122))) == true) && true) = true → (0 : Int) ≤ s1 ∧ s1 < (s.size : Int)) then (if ((((decide ((bt s s1) < 48)) == false) && (((bif (decide ((bt s s1) < 97)) then true else (decide ((bt s s1) > 122))) == true) && true)) = true → (0 : Int) ≤ s1 ∧ s1 < (s.size : Int)) then (if ((((bif (bif (decide ((bt s s1) < 97)) then true else (decide ((bt s s1) > 122))) then (bif (decide ((bt s s1) < 48)) then true else (decide ((bt s s1) > 57))) else false) == true) && true) = true → (0 : Int) ≤ s1 ∧ s1 < (s.size : Int)) then (if (bif (bif (bif (decide ((bt s s1) < 97)) then true else (decide ((bt s s1) > 122))) then (bif (decide ((bt s s1) < 48)) then true else (decide ((bt s s1) > 57))) else false) then ((bt s s1) != 95) else false) = true then (some (Sum.inr false)) else (some (Sum.inl (IntKind.wrap .i64 (s1 + 1))))) else none) else none) else none) else none) else none) else (some (Sum.inr true))
noncomputable def q15_Name (s : ByteArray) : Option Bool :=
  if ((((bif (s.toList == (bs []).toList) then true else (decide ((s.size : Int) > 16))) == false) && true) = true → (0 : Int) ≤ 0 ∧ 0 < (s.size : Int)) then (if ((((bif (bif (s.toList == (bs []).toList) then true else (decide ((s.size : Int) > 16))) then true else (decide ((bt s 0) < 97))) == false) && true) = true → (0 : Int) ≤ 0 ∧ 0 < (s.size : Int)) then (if (bif (bif (bif (s.toList == (bs []).toList) then true else (decide ((s.size : Int) > 16))) then true else (decide ((bt s 0) < 97))) then true else (decide ((bt s 0) > 122))) = true then (some false) else (Iter (q15_Name_l1 s) 1)) else none) else none
noncomputable def q03_Find_l1 (l : (List ApiCurrency)) (code : ByteArray) (s : Int) : Option (Int ⊕ (ApiCurrency × Bool)) :=
  if (decide (s < ((List.map ApiCurrency.enc l).length : Int))) = true then ((getI l s).bind fun li => if (li.Code.toList == code.toList) = true then ((getI l s).bind fun li1 => some (Sum.inr (li1, true))) else (some (Sum.inl (IntKind.wrap .i64 (s + 1))))) else (some (Sum.inr ((⟨(bs []), 0⟩ : ApiCurrency), false)))
noncomputable def q03_Find (l : (List ApiCurrency)) (code : ByteArray) : Option (ApiCurrency × Bool) :=
  Iter (q03_Find_l1 l code) 0
noncomputable def q05_Find_l1 (l : (List ApiCalendar)) (name : ByteArray) (s : Int) : Option (Int ⊕ (ApiCalendar × Bool)) :=
  if (decide (s < ((List.map ApiCalendar.enc l).length : Int))) = true then ((getI l s).bind fun li => if (li.Name.toList == name.toList) = true then ((getI l s).bind fun li1 => some (Sum.inr (li1, true))) else (some (Sum.inl (IntKind.wrap .i64 (s + 1))))) else (some (Sum.inr ((⟨(bs []), [], []⟩ : ApiCalendar), false)))
noncomputable def q05_Find (l : (List ApiCalendar)) (name : ByteArray) : Option (ApiCalendar × Bool) :=
  Iter (q05_Find_l1 l name) 0
noncomputable def q14_Check_l2 (l : (List ApiTier)) (s4 : Int) : Option (Int ⊕ Int) :=
  if (decide (s4 < ((List.map ApiTier.enc l).length : Int))) = true then ((getI l s4).bind fun li5 => (getI l (IntKind.wrap .i64 (s4 - 1))).bind fun li6 => if (decide (li5.From ≤ li6.From)) = true then (some (Sum.inr 10)) else (some (Sum.inl (IntKind.wrap .i64 (s4 + 1))))) else (((if (((decide (((List.map ApiTier.enc l).length : Int) > 0)) == true) && true) = true then getI l 0 else some default).bind fun li7 => if (bif (decide (((List.map ApiTier.enc l).length : Int) > 0)) then (li7.From != 0) else false) = true then (some 1) else (some 0)).map .inr)
noncomputable def q14_Check_l1 (l : (List ApiTier)) (s : Int) : Option (Int ⊕ Int) :=
  if (decide (s < ((List.map ApiTier.enc l).length : Int))) = true then ((getI l s).bind fun li => (if (((decide (li.From < 0)) == false) && true) = true then getI l s else some default).bind fun li1 => (if (((bif (decide (li.From < 0)) then true else (decide (li1.From > 1000000000000))) == false) && true) = true then getI l s else some default).bind fun li2 => (if (((bif (bif (decide (li.From < 0)) then true else (decide (li1.From > 1000000000000))) then true else (decide (li2.Ppm < 0))) == false) && true) = true then getI l s else some default).bind fun li3 => if (bif (bif (bif (decide (li.From < 0)) then true else (decide (li1.From > 1000000000000))) then true else (decide (li2.Ppm < 0))) then true else (decide (li3.Ppm > 1000000))) = true then (some (Sum.inr 1)) else (some (Sum.inl (IntKind.wrap .i64 (s + 1))))) else ((Iter (q14_Check_l2 l) 1).map .inr)
noncomputable def q14_Check (l : (List ApiTier)) : Option Int :=
  if (decide (((List.map ApiTier.enc l).length : Int) > 6)) = true then (some 5) else (Iter (q14_Check_l1 l) 0)
noncomputable def q15_interest (x : ApiInterest) : Option Int :=
  (q14_Check x.Tiers).bind fun r => if (r != 0) = true then (some r) else (if (bif (bif (bif (decide (x.Basis < 1)) then true else (decide (x.Basis > 4))) then true else (decide (x.Mode < 1))) then true else (decide (x.Mode > 6))) = true then (some 1) else (some 0))
noncomputable def q15_Vars : Option (List ApiVar) :=
  some ([(⟨(bs [98, 97, 108, 97, 110, 99, 101]), 2⟩ : ApiVar), (⟨(bs [108, 111, 119, 101, 115, 116]), 2⟩ : ApiVar), (⟨(bs [118, 111, 108, 117, 109, 101]), 2⟩ : ApiVar), (⟨(bs [97, 109, 111, 117, 110, 116]), 2⟩ : ApiVar), (⟨(bs [99, 111, 117, 110, 116]), 1⟩ : ApiVar), (⟨(bs [97, 103, 101]), 1⟩ : ApiVar), (⟨(bs [100, 97, 121]), 4⟩ : ApiVar)])
noncomputable def q10_count_l1 (e : ApiExpr) (most : Int) (rec_q10_count : (ApiExpr → Int → Option Int)) (s : (Int × Int)) : Option ((Int × Int) ⊕ Int) :=
  if (bif (decide (s.2 < ((List.map ApiExpr.enc e.Args).length : Int))) then (decide (s.1 ≤ most)) else false) = true then ((getI e.Args s.2).bind fun arg => (rec_q10_count arg (IntKind.wrap .i64 (most - s.1))).bind fun r => some (Sum.inl ((IntKind.wrap .i64 (s.1 + r)), (IntKind.wrap .i64 (s.2 + 1))))) else (some (Sum.inr s.1))
noncomputable def q10_count_body (rec_q10_count : (ApiExpr → Int → Option Int)) (e : ApiExpr) (most : Int) : Option Int :=
  Iter (q10_count_l1 e most rec_q10_count) (1, 0)
noncomputable def q10_count : Nat → (ApiExpr → Int → Option Int)
  | 0 => fun _ _ => none
  | n + 1 => q10_count_body (q10_count n)
noncomputable def q10_Great (e : ApiExpr) (most : Int) : Option Bool :=
  (q10_count 2097152 e most).bind fun r => some (decide (r > most))
noncomputable def q10_Depth_l1 (e : ApiExpr) (rec_q10_Depth : (ApiExpr → Option Int)) (s : (Int × Int)) : Option ((Int × Int) ⊕ Int) :=
  if (decide (s.2 < ((List.map ApiExpr.enc e.Args).length : Int))) = true then ((getI e.Args s.2).bind fun arg => (rec_q10_Depth arg).bind fun r => some (Sum.inl ((if r > s.1 then r else s.1), (IntKind.wrap .i64 (s.2 + 1))))) else (some (Sum.inr (IntKind.wrap .i64 (s.1 + 1))))
noncomputable def q10_Depth_body (rec_q10_Depth : (ApiExpr → Option Int)) (e : ApiExpr) : Option Int :=
  Iter (q10_Depth_l1 e rec_q10_Depth) (0, 0)
noncomputable def q10_Depth : Nat → (ApiExpr → Option Int)
  | 0 => fun _ => none
  | n + 1 => q10_Depth_body (q10_Depth n)
noncomputable def q10_Operands (op : Int) : Option Int :=
  if (bif (decide (op < 1)) then true else (decide (op > 19))) = true then (some (-1)) else (if (decide (op ≤ 4)) = true then (some 0) else (if (bif (op == 9) then true else (op == 16)) = true then (some 1) else (if (op == 19) = true then (some 3) else (some 2))))
noncomputable def q10_most (op : Int) : Option Int :=
  if (op == 1) = true then (some 9223372036854775807) else (if (op == 2) = true then (some 1000000000000) else (if (op == 3) = true then (some 1000000) else (some 0)))
noncomputable def q10_right_l1 (e : ApiExpr) (rec_q10_right : (ApiExpr → Option Bool)) (s : Int) : Option (Int ⊕ Bool) :=
  if (decide (s < ((List.map ApiExpr.enc e.Args).length : Int))) = true then ((getI e.Args s).bind fun arg => (rec_q10_right arg).bind fun r2 => if (!r2) = true then (some (Sum.inr false)) else (some (Sum.inl (IntKind.wrap .i64 (s + 1))))) else (some (Sum.inr true))
noncomputable def q10_right_body (rec_q10_right : (ApiExpr → Option Bool)) (e : ApiExpr) : Option Bool :=
  (q10_Operands e.Op).bind fun r => (if (((bif (((List.map ApiExpr.enc e.Args).length : Int) != r) then true else (decide (e.N < 0))) == false) && true) = true then q10_most e.Op else some default).bind fun r1 => if (bif (bif (bif (((List.map ApiExpr.enc e.Args).length : Int) != r) then true else (decide (e.N < 0))) then true else (decide (e.N > r1))) then true else (bif (e.Op != 4) then (!(e.S.toList == (bs []).toList)) else false)) = true then (some false) else (Iter (q10_right_l1 e rec_q10_right) 0)
noncomputable def q10_right : Nat → (ApiExpr → Option Bool)
  | 0 => fun _ => none
  | n + 1 => q10_right_body (q10_right n)
noncomputable def q10_insert_l1 (l : (List ByteArray)) (s : ByteArray) (s1 : Int) : Option (Int ⊕ (List ByteArray)) :=
  (if (((decide (s1 < ((List.map eStr l).length : Int))) == true) && true) = true then getI l s1 else some default).bind fun li => if (bif (decide (s1 < ((List.map eStr l).length : Int))) then (Op.bytesLess li.toList s.toList) else false) = true then (some (Sum.inl (IntKind.wrap .i64 (s1 + 1)))) else (((if (((decide (s1 < ((List.map eStr l).length : Int))) == true) && true) = true then getI l s1 else some default).bind fun li2 => if (bif (decide (s1 < ((List.map eStr l).length : Int))) then (li2.toList == s.toList) else false) = true then (some l) else (if (0 : Int) ≤ 0 ∧ 0 ≤ s1 ∧ s1 ≤ (l.length : Int) then (if (([] : List ByteArray).length + (subl l 0 s1).length) * 16 ≤ 140737488355328 then (if ((([] ++ (subl l 0 s1)) : List ByteArray).length + ([s] : List ByteArray).length) * 16 ≤ 140737488355328 then (if (0 : Int) ≤ s1 ∧ s1 ≤ ((List.map eStr l).length : Int) ∧ ((List.map eStr l).length : Int) ≤ (l.length : Int) then (if ((([] ++ (subl l 0 s1)) ++ ([s])).length + (subl l s1 ((List.map eStr l).length : Int)).length) * 16 ≤ 140737488355328 then (some ((([] ++ (subl l 0 s1)) ++ ([s])) ++ (subl l s1 ((List.map eStr l).length : Int)))) else none) else none) else none) else none) else none)).map .inr)
noncomputable def q10_insert (l : (List ByteArray)) (s : ByteArray) : Option (List ByteArray) :=
  Iter (q10_insert_l1 l s) 0
noncomputable def q10_Names_l2 (s1 : ((List ByteArray) × Int)) (r : (List ByteArray)) (s2 : ((List ByteArray) × Int)) : Option (((List ByteArray) × Int) ⊕ (((List ByteArray) × Int) ⊕ (List ByteArray))) :=
  if (decide (s2.2 < ((List.map eStr r).length : Int))) = true then ((getI r s2.2).bind fun ri => (q10_insert s2.1 ri).bind fun r3 => some (Sum.inl (r3, (IntKind.wrap .i64 (s2.2 + 1))))) else (some (Sum.inr (Sum.inl (s2.1, (IntKind.wrap .i64 (s1.2 + 1))))))
noncomputable def q10_Names_l1 (e : ApiExpr) (rec_q10_Names : (ApiExpr → Option (List ByteArray))) (s1 : ((List ByteArray) × Int)) : Option (((List ByteArray) × Int) ⊕ (List ByteArray)) :=
  if (decide (s1.2 < ((List.map ApiExpr.enc e.Args).length : Int))) = true then ((getI e.Args s1.2).bind fun arg => (rec_q10_Names arg).bind fun r => Iter (q10_Names_l2 s1 r) (s1.1, 0)) else (some (Sum.inr s1.1))
noncomputable def q10_Names_j2 (e : ApiExpr) (rec_q10_Names : (ApiExpr → Option (List ByteArray))) (s : (List ByteArray)) : Option (List ByteArray) :=
  Iter (q10_Names_l1 e rec_q10_Names) (s, 0)
noncomputable def q10_Names_body (rec_q10_Names : (ApiExpr → Option (List ByteArray))) (e : ApiExpr) : Option (List ByteArray) :=
  if (e.Op == 4) = true then (if (([] : List ByteArray).length + ([e.S] : List ByteArray).length) * 16 ≤ 140737488355328 then (q10_Names_j2 e rec_q10_Names ([] ++ ([e.S]))) else none) else (q10_Names_j2 e rec_q10_Names [])
noncomputable def q10_Names : Nat → (ApiExpr → Option (List ByteArray))
  | 0 => fun _ => none
  | n + 1 => q10_Names_body (q10_Names n)
noncomputable def q07_Name_l1 (s : ByteArray) (s1 : Int) : Option (Int ⊕ Bool) :=
  if (decide (s1 < (s.size : Int))) = true then (if (0 : Int) ≤ s1 ∧ s1 < (s.size : Int) then (if ((((decide ((bt s s1) < 97)) == false) && true) = true → (0 : Int) ≤ s1 ∧ s1 < (s.size : Int)) then (if ((((bif (decide ((bt s s1) < 97)) then true else (decide ((bt s s1) > 122))) == true) && true) = true → (0 : Int) ≤ s1 ∧ s1 < (s.size : Int)) then (if ((((decide ((bt s s1) < 48)) == false) && (((bif (decide ((bt s s1) < 97)) then true else (decide ((bt s s1) > 122))) == true) && true)) = true → (0 : Int) ≤ s1 ∧ s1 < (s.size : Int)) then (if ((((bif (bif (decide ((bt s s1) < 97)) then true else (decide ((bt s s1) > 122))) then (bif (decide ((bt s s1) < 48)) then true else (decide ((bt s s1) > 57))) else false) == true) && true) = true → (0 : Int) ≤ s1 ∧ s1 < (s.size : Int)) then (if (bif (bif (bif (decide ((bt s s1) < 97)) then true else (decide ((bt s s1) > 122))) then (bif (decide ((bt s s1) < 48)) then true else (decide ((bt s s1) > 57))) else false) then ((bt s s1) != 95) else false) = true then (some (Sum.inr false)) else (some (Sum.inl (IntKind.wrap .i64 (s1 + 1))))) else none) else none) else none) else none) else none) else (some (Sum.inr true))
noncomputable def q07_Name (s : ByteArray) : Option Bool :=
  if ((((bif (decide ((s.size : Int) < 1)) then true else (decide ((s.size : Int) > 16))) == false) && true) = true → (0 : Int) ≤ 0 ∧ 0 < (s.size : Int)) then (if ((((bif (bif (decide ((s.size : Int) < 1)) then true else (decide ((s.size : Int) > 16))) then true else (decide ((bt s 0) < 97))) == false) && true) = true → (0 : Int) ≤ 0 ∧ 0 < (s.size : Int)) then (if (bif (bif (bif (decide ((s.size : Int) < 1)) then true else (decide ((s.size : Int) > 16))) then true else (decide ((bt s 0) < 97))) then true else (decide ((bt s 0) > 122))) = true then (some false) else (Iter (q07_Name_l1 s) 0)) else none) else none
noncomputable def q09_Words : Option (List ByteArray) :=
  some ([(bs [112, 114, 111, 100, 117, 99, 116]), (bs [99, 117, 114, 114, 101, 110, 99, 121]), (bs [99, 97, 108, 101, 110, 100, 97, 114]), (bs [102, 114, 111, 109]), (bs [101, 118, 101, 114, 121]), (bs [111, 118, 101, 114, 100, 114, 97, 102, 116]), (bs [116, 97, 120]), (bs [99, 114, 101, 100, 105, 116]), (bs [100, 101, 98, 105, 116]), (bs [109, 97, 114, 103, 105, 110, 97, 108]), (bs [119, 104, 111, 108, 101]), (bs [97, 99, 116, 51, 54, 48]), (bs [97, 99, 116, 51, 54, 53]), (bs [97, 99, 116, 117, 97, 108]), (bs [116, 104, 105, 114, 116, 121]), (bs [100, 111, 119, 110]), (bs [117, 112]), (bs [102, 108, 111, 111, 114]), (bs [99, 101, 105, 108]), (bs [104, 97, 108, 102, 95, 117, 112]), (bs [104, 97, 108, 102, 95, 101, 118, 101, 110]), (bs [107, 101, 101, 112]), (bs [100, 114, 111, 112]), (bs [102, 101, 101]), (bs [108, 105, 109, 105, 116]), (bs [119, 104, 101, 110]), (bs [97, 109, 111, 117, 110, 116, 95, 111, 102]), (bs [115, 105, 110, 103, 108, 101]), (bs [100, 97, 105, 108, 121]), (bs [109, 111, 110, 116, 104, 108, 121]), (bs [109, 111, 110, 116, 104]), (bs [114, 101, 116, 117, 114, 110]), (bs [99, 108, 111, 115, 101]), (bs [101, 118, 101, 110, 116]), (bs [105, 102]), (bs [116, 104, 101, 110]), (bs [101, 108, 115, 101]), (bs [97, 110, 100]), (bs [111, 114]), (bs [110, 111, 116]), (bs [109, 105, 110]), (bs [109, 97, 120])])
noncomputable def q09_Word_l1 (s : ByteArray) (r : (List ByteArray)) (s1 : Int) : Option (Int ⊕ Bool) :=
  if (decide (s1 < ((List.map eStr r).length : Int))) = true then ((getI r s1).bind fun o => (r[(s1 : Int).toNat]?).bind fun x => if (x.toList == s.toList) = true then (some (Sum.inr true)) else (some (Sum.inl (IntKind.wrap .i64 (s1 + 1))))) else (some (Sum.inr false))
noncomputable def q09_Word (s : ByteArray) : Option Bool :=
  (q09_Words).bind fun r => Iter (q09_Word_l1 s r) 0
noncomputable def q10_Variable (s : ByteArray) : Option Bool :=
  (q07_Name s).bind fun r => (if ((r == true) && true) = true then q09_Word s else some default).bind fun r1 => some (bif r then (!r1) else false)
noncomputable def q10_Validate_l1 (r3 : (List ByteArray)) (s : Int) : Option (Int ⊕ Int) :=
  if (decide (s < ((List.map eStr r3).length : Int))) = true then ((getI r3 s).bind fun r3i => (q10_Variable r3i).bind fun r4 => if (!r4) = true then (some (Sum.inr 4)) else (some (Sum.inl (IntKind.wrap .i64 (s + 1))))) else (some (Sum.inr 0))
noncomputable def q10_Validate (e : ApiExpr) : Option Int :=
  (q10_Great e 64).bind fun r => (if ((r == false) && true) = true then q10_Depth 2097152 e else some default).bind fun r1 => if (bif r then true else (decide (r1 > 8))) = true then (some 5) else ((q10_right 2097152 e).bind fun r2 => if (!r2) = true then (some 1) else ((q10_Names 2097152 e).bind fun r3 => Iter (q10_Validate_l1 r3) 0))
noncomputable def q11_Good (t : Int) : Option Bool :=
  some (bif (decide (t ≥ 1)) then (decide (t ≤ 5)) else false)
noncomputable def q11_scalar (t : Int) : Option Bool :=
  some (bif (bif (t == 1) then true else (t == 2)) then true else (t == 3))
noncomputable def q11_product (a : Int) (b : Int) : Option (Int × Bool) :=
  (q11_scalar a).bind fun r => (if (((!r) == false) && true) = true then q11_scalar b else some default).bind fun r1 => if (bif (!r) then true else (!r1)) = true then (some (0, false)) else (if (a == 1) = true then (some (b, true)) else (if (b == 1) = true then (some (a, true)) else (some (2, (a != b)))))
noncomputable def q11_two_j0 (a : Int) (b : Int) (s6 : Bool) : Option (Int × Bool) :=
  if s6 = true then (some (a, (bif (a == b) then (a != 5) else false))) else (some (0, false))
noncomputable def q11_two_j1 (op : Int) (a : Int) (b : Int) (s5 : Bool) : Option (Int × Bool) :=
  if s5 = true then (some (5, (bif (a == 5) then (b == 5) else false))) else (if (op == 17) = true then (q11_two_j0 a b (op == 17)) else (q11_two_j0 a b (op == 18)))
noncomputable def q11_two_j2 (op : Int) (a : Int) (b : Int) (s4 : Bool) : Option (Int × Bool) :=
  if s4 = true then (some (5, (bif (a == b) then (a != 5) else false))) else (if (op == 14) = true then (q11_two_j1 op a b (op == 14)) else (q11_two_j1 op a b (op == 15)))
noncomputable def q11_two_j3 (op : Int) (a : Int) (b : Int) (s : Bool) : Option (Int × Bool) :=
  if s = true then (some (5, (a == b))) else (if (op == 12) = true then (q11_two_j2 op a b (op == 12)) else (q11_two_j2 op a b (op == 13)))
noncomputable def q11_two (op : Int) (a : Int) (b : Int) : Option (Int × Bool) :=
  if (op == 5) = true then (if (a == 4) = true then (some (a, (b == 1))) else ((if (((a == b) == true) && true) = true then q11_scalar a else some default).bind fun r => some (a, (bif (a == b) then r else false)))) else (if (op == 6) = true then (if (bif (a == 4) then (b == 4) else false) = true then (some (1, true)) else (if (a == 4) = true then (some (a, (b == 1))) else ((if (((a == b) == true) && true) = true then q11_scalar a else some default).bind fun r1 => some (a, (bif (a == b) then r1 else false))))) else (if (op == 7) = true then ((q11_product a b).bind fun r2 => some (r2.1, r2.2)) else (if (op == 8) = true then (if (bif (a == 2) then (b == 2) else false) = true then (some (1, true)) else ((q11_scalar a).bind fun r3 => some (a, (bif r3 then (b == 1) else false)))) else (if (op == 10) = true then (q11_two_j3 op a b (op == 10)) else (q11_two_j3 op a b (op == 11))))))
noncomputable def q11_result (op : Int) (l : (List Int)) : Option (Int × Bool) :=
  if (bif (op == 9) then (((List.map (eInt .i64) l).length : Int) == 1) else false) = true then ((getI l 0).bind fun li => (getI l 0).bind fun li1 => (q11_scalar li1).bind fun r => some (li, r)) else (if (bif (op == 16) then (((List.map (eInt .i64) l).length : Int) == 1) else false) = true then ((getI l 0).bind fun li2 => some (5, (li2 == 5))) else (if (bif (op == 19) then (((List.map (eInt .i64) l).length : Int) == 3) else false) = true then ((getI l 1).bind fun li3 => (getI l 0).bind fun li4 => (if (((li4 == 5) == true) && true) = true then getI l 1 else some default).bind fun li5 => (if (((li4 == 5) == true) && true) = true then getI l 2 else some default).bind fun li6 => some (li3, (bif (li4 == 5) then (li5 == li6) else false))) else (if (((List.map (eInt .i64) l).length : Int) == 2) = true then ((getI l 0).bind fun li7 => (getI l 1).bind fun li8 => (q11_two op li7 li8).bind fun r9 => some (r9.1, r9.2)) else (some (0, false)))))
noncomputable def q11_Result_l1 (op : Int) (types : (List Int)) (s : Int) : Option (Int ⊕ (Int × Bool)) :=
  if (decide (s < ((List.map (eInt .i64) types).length : Int))) = true then ((getI types s).bind fun type => (q11_Good type).bind fun r => if (!r) = true then (some (Sum.inr (0, false))) else (some (Sum.inl (IntKind.wrap .i64 (s + 1))))) else (((q11_result op types).bind fun r1 => if (!r1.2) = true then (some (0, false)) else (some (r1.1, true))).map .inr)
noncomputable def q11_Result (op : Int) (types : (List Int)) : Option (Int × Bool) :=
  if (decide (((List.map (eInt .i64) types).length : Int) > 3)) = true then (some (0, false)) else (Iter (q11_Result_l1 op types) 0)
noncomputable def q11_of_l1 (e : ApiExpr) (vars : (List ApiVar)) (s : Int) : Option (Int ⊕ (Int × Int)) :=
  if (decide (s < ((List.map ApiVar.enc vars).length : Int))) = true then ((getI vars s).bind fun var => (if (((var.Name.toList == e.S.toList) == true) && true) = true then getI vars s else some default).bind fun var1 => (if (((var.Name.toList == e.S.toList) == true) && true) = true then q11_Good var1.Type' else some default).bind fun r => if (bif (var.Name.toList == e.S.toList) then r else false) = true then ((getI vars s).bind fun var2 => some (Sum.inr (var2.Type', 0))) else ((getI vars s).bind fun var3 => if (var3.Name.toList == e.S.toList) = true then (some (Sum.inr (0, 3))) else (some (Sum.inl (IntKind.wrap .i64 (s + 1)))))) else (some (Sum.inr (0, 4)))
noncomputable def q11_of_l2 (e : ApiExpr) (vars : (List ApiVar)) (rec_q11_of : (ApiExpr → (List ApiVar) → Option (Int × Int))) (s4 : (Int × (List Int))) : Option ((Int × (List Int)) ⊕ (Int × Int)) :=
  if (decide (s4.1 < ((List.map ApiExpr.enc e.Args).length : Int))) = true then ((getI e.Args s4.1).bind fun arg => (rec_q11_of arg vars).bind fun r5 => if (r5.2 != 0) = true then (some (Sum.inr (0, r5.2))) else (if (s4.2.length + ([r5.1] : List Int).length) * 8 ≤ 140737488355328 then (some (Sum.inl ((IntKind.wrap .i64 (s4.1 + 1)), (s4.2 ++ ([r5.1]))))) else none)) else (((q11_Result e.Op s4.2).bind fun r6 => if (!r6.2) = true then (some (0, 3)) else (some (r6.1, 0))).map .inr)
noncomputable def q11_of_body (rec_q11_of : (ApiExpr → (List ApiVar) → Option (Int × Int))) (e : ApiExpr) (vars : (List ApiVar)) : Option (Int × Int) :=
  if (e.Op == 1) = true then (some (1, 0)) else (if (e.Op == 2) = true then (some (2, 0)) else (if (e.Op == 3) = true then (some (3, 0)) else (if (e.Op == 4) = true then (Iter (q11_of_l1 e vars) 0) else (Iter (q11_of_l2 e vars rec_q11_of) (0, [])))))
noncomputable def q11_of : Nat → (ApiExpr → (List ApiVar) → Option (Int × Int))
  | 0 => fun _ _ => none
  | n + 1 => q11_of_body (q11_of n)
noncomputable def q11_Of (e : ApiExpr) (vars : (List ApiVar)) : Option (Int × Int) :=
  (q10_Validate e).bind fun r => if (r != 0) = true then (some (0, r)) else ((q11_of 2097152 e vars).bind fun r1 => some (r1.1, r1.2))
noncomputable def q11_Check (e : ApiExpr) (vars : (List ApiVar)) (want : Int) : Option Int :=
  (q11_Of e vars).bind fun r => if (r.2 != 0) = true then (some r.2) else (if (r.1 != want) = true then (some 3) else (some 0))
noncomputable def q15_fee (f : ApiFee) : Option Int :=
  (q15_Name f.Name).bind fun r => if (!r) = true then (some 4) else (if (bif (decide (f.Event < 1)) then true else (decide (f.Event > 4))) = true then (some 1) else ((q15_Vars).bind fun r1 => (q11_Check f.When r1 5).bind fun r2 => if (r2 != 0) = true then (some r2) else ((q15_Vars).bind fun r3 => (q11_Check f.Amount r3 2).bind fun r4 => some r4)))
noncomputable def q15_rule (x : ApiRule) : Option Int :=
  (q15_Name x.Name).bind fun r => if (!r) = true then (some 4) else (if (bif (decide (x.Window < 1)) then true else (decide (x.Window > 3))) = true then (some 1) else ((q15_Vars).bind fun r1 => (q11_Check x.Amount r1 2).bind fun r2 => some r2))
noncomputable def q15_Check_l2 (p : ApiProduct) (s7 : Int) : Option (Int ⊕ Int) :=
  if (decide (s7 < ((List.map ApiRule.enc p.Rules).length : Int))) = true then ((getI p.Rules s7).bind fun rule => (q15_rule rule).bind fun r8 => if (r8 != 0) = true then (some (Sum.inr r8)) else (some (Sum.inl (IntKind.wrap .i64 (s7 + 1))))) else (some (Sum.inr 0))
noncomputable def q15_Check_l1 (p : ApiProduct) (s : Int) : Option (Int ⊕ Int) :=
  if (decide (s < ((List.map ApiFee.enc p.Fees).length : Int))) = true then ((getI p.Fees s).bind fun fee => (q15_fee fee).bind fun r6 => if (r6 != 0) = true then (some (Sum.inr r6)) else (some (Sum.inl (IntKind.wrap .i64 (s + 1))))) else ((Iter (q15_Check_l2 p) 0).map .inr)
noncomputable def q15_Check (p : ApiProduct) (l : (List ApiCurrency)) (c : (List ApiCalendar)) : Option Int :=
  (q15_Name p.Name).bind fun r => if (!r) = true then (some 4) else ((q03_Find l p.Currency).bind fun r1 => if (!r1.2) = true then (some 14) else ((q05_Find c p.Calendar).bind fun r2 => if (!r2.2) = true then (some 11) else ((q04_Valid p.From).bind fun r3 => if (bif (bif (bif (bif (bif (!r3) then true else (!(bif (bif (bif (p.Every == 1) then true else (p.Every == 3)) then true else (p.Every == 6)) then true else (p.Every == 12)))) then true else (decide (p.Overdraft < 0))) then true else (decide (p.Overdraft > 1000000000000))) then true else (decide (p.TaxPpm < 0))) then true else (decide (p.TaxPpm > 1000000))) = true then (some 1) else ((q15_interest p.Credit).bind fun r4 => if (r4 != 0) = true then (some r4) else ((q15_interest p.Debit).bind fun r5 => if (r5 != 0) = true then (some r5) else (if (bif (decide (((List.map ApiFee.enc p.Fees).length : Int) > 4)) then true else (decide (((List.map ApiRule.enc p.Rules).length : Int) > 4))) = true then (some 5) else (Iter (q15_Check_l1 p) 0)))))))
noncomputable def q26_products_l1 (b : ApiBooks) (s : (Int × Int)) : Option ((Int × Int) ⊕ Int) :=
  if (bif (decide (s.2 < ((List.map ApiProduct.enc b.Products).length : Int))) then (s.1 == 0) else false) = true then ((getI b.Products s.2).bind fun product => (q15_Check product b.Currencies b.Calendars).bind fun r1 => some (Sum.inl (r1, (IntKind.wrap .i64 (s.2 + 1))))) else (some (Sum.inr s.1))
noncomputable def q26_products (b : ApiBooks) : Option Int :=
  (q17_Check b.Products).bind fun r => Iter (q26_products_l1 b) (r, 0)
noncomputable def q08_Plain_l1 (s : ByteArray) (s1 : Int) : Option (Int ⊕ Bool) :=
  if (decide (s1 < (s.size : Int))) = true then (if (0 : Int) ≤ s1 ∧ s1 < (s.size : Int) then (if ((((decide ((bt s s1) < 48)) == false) && true) = true → (0 : Int) ≤ s1 ∧ s1 < (s.size : Int)) then (if ((((bif (decide ((bt s s1) < 48)) then true else (decide ((bt s s1) > 57))) == true) && true) = true → (0 : Int) ≤ s1 ∧ s1 < (s.size : Int)) then (if ((((decide ((bt s s1) < 65)) == false) && (((bif (decide ((bt s s1) < 48)) then true else (decide ((bt s s1) > 57))) == true) && true)) = true → (0 : Int) ≤ s1 ∧ s1 < (s.size : Int)) then (if (bif (bif (decide ((bt s s1) < 48)) then true else (decide ((bt s s1) > 57))) then (bif (decide ((bt s s1) < 65)) then true else (decide ((bt s s1) > 90))) else false) = true then (some (Sum.inr false)) else (some (Sum.inl (IntKind.wrap .i64 (s1 + 1))))) else none) else none) else none) else none) else (some (Sum.inr true))
noncomputable def q08_Plain (s : ByteArray) : Option Bool :=
  Iter (q08_Plain_l1 s) 0
noncomputable def q08_rest_j0 (s1 : (Int × Int)) (s2 : Int) : Option ((Int × Int) ⊕ Int) :=
  some (Sum.inl (s2, (IntKind.wrap .i64 (s1.2 + 1))))
noncomputable def q08_rest_l1 (s : ByteArray) (s1 : (Int × Int)) : Option ((Int × Int) ⊕ Int) :=
  if (decide (s1.2 < (s.size : Int))) = true then (if (0 : Int) ≤ s1.2 ∧ s1.2 < (s.size : Int) then (if (decide ((bt s s1.2) ≤ 57)) = true then (if (0 : Int) ≤ s1.2 ∧ s1.2 < (s.size : Int) then (q08_rest_j0 s1 ((IntKind.wrap .i64 ((IntKind.wrap .i64 (10 * s1.1)) + (IntKind.wrap .i64 (IntKind.wrap .u8 ((bt s s1.2) - 48))))).tmod 97)) else none) else (if (0 : Int) ≤ s1.2 ∧ s1.2 < (s.size : Int) then (q08_rest_j0 s1 ((IntKind.wrap .i64 ((IntKind.wrap .i64 ((IntKind.wrap .i64 (100 * s1.1)) + (IntKind.wrap .i64 (IntKind.wrap .u8 ((bt s s1.2) - 65))))) + 10)).tmod 97)) else none)) else none) else (some (Sum.inr s1.1))
noncomputable def q08_rest (s : ByteArray) : Option Int :=
  Iter (q08_rest_l1 s) (0, 0)
noncomputable def q08_Seal (s : ByteArray) : Option (ByteArray × Int) :=
  if (bif (decide ((s.size : Int) < 1)) then true else (decide ((s.size : Int) > 46))) = true then (some ((bs []), 5)) else ((q08_Plain s).bind fun r => if (!r) = true then (some ((bs []), 2)) else (if s.size + (bs [48, 48]).size ≤ 9223372036854775807 then ((q08_rest (s ++ (bs [48, 48]))).bind fun r1 => if (0 : Int) ≤ (IntKind.wrap .i64 ((IntKind.wrap .i64 (98 - r1)).tdiv 10)) ∧ (IntKind.wrap .i64 ((IntKind.wrap .i64 (98 - r1)).tdiv 10)) ≤ (IntKind.wrap .i64 ((IntKind.wrap .i64 ((IntKind.wrap .i64 (98 - r1)).tdiv 10)) + 1)) ∧ (IntKind.wrap .i64 ((IntKind.wrap .i64 ((IntKind.wrap .i64 (98 - r1)).tdiv 10)) + 1)) ≤ ((bs [48, 49, 50, 51, 52, 53, 54, 55, 56, 57]).size : Int) then (if s.size + ((bs [48, 49, 50, 51, 52, 53, 54, 55, 56, 57]).extract ((IntKind.wrap .i64 ((IntKind.wrap .i64 (98 - r1)).tdiv 10)) : Int).toNat ((IntKind.wrap .i64 ((IntKind.wrap .i64 ((IntKind.wrap .i64 (98 - r1)).tdiv 10)) + 1)) : Int).toNat).size ≤ 9223372036854775807 then (if (0 : Int) ≤ ((IntKind.wrap .i64 (98 - r1)).tmod 10) ∧ ((IntKind.wrap .i64 (98 - r1)).tmod 10) ≤ (IntKind.wrap .i64 (((IntKind.wrap .i64 (98 - r1)).tmod 10) + 1)) ∧ (IntKind.wrap .i64 (((IntKind.wrap .i64 (98 - r1)).tmod 10) + 1)) ≤ ((bs [48, 49, 50, 51, 52, 53, 54, 55, 56, 57]).size : Int) then (if (s ++ ((bs [48, 49, 50, 51, 52, 53, 54, 55, 56, 57]).extract ((IntKind.wrap .i64 ((IntKind.wrap .i64 (98 - r1)).tdiv 10)) : Int).toNat ((IntKind.wrap .i64 ((IntKind.wrap .i64 ((IntKind.wrap .i64 (98 - r1)).tdiv 10)) + 1)) : Int).toNat)).size + ((bs [48, 49, 50, 51, 52, 53, 54, 55, 56, 57]).extract (((IntKind.wrap .i64 (98 - r1)).tmod 10) : Int).toNat ((IntKind.wrap .i64 (((IntKind.wrap .i64 (98 - r1)).tmod 10) + 1)) : Int).toNat).size ≤ 9223372036854775807 then (some (((s ++ ((bs [48, 49, 50, 51, 52, 53, 54, 55, 56, 57]).extract ((IntKind.wrap .i64 ((IntKind.wrap .i64 (98 - r1)).tdiv 10)) : Int).toNat ((IntKind.wrap .i64 ((IntKind.wrap .i64 ((IntKind.wrap .i64 (98 - r1)).tdiv 10)) + 1)) : Int).toNat)) ++ ((bs [48, 49, 50, 51, 52, 53, 54, 55, 56, 57]).extract (((IntKind.wrap .i64 (98 - r1)).tmod 10) : Int).toNat ((IntKind.wrap .i64 (((IntKind.wrap .i64 (98 - r1)).tmod 10) + 1)) : Int).toNat)), 0)) else none) else none) else none) else none) else none))
noncomputable def q24_Number_l1 (s : (Int × ByteArray × Int)) : Option ((Int × ByteArray × Int) ⊕ ByteArray) :=
  if (decide (s.2.2 < 8)) = true then (if (0 : Int) ≤ (s.1.tmod 10) ∧ (s.1.tmod 10) ≤ (IntKind.wrap .i64 ((s.1.tmod 10) + 1)) ∧ (IntKind.wrap .i64 ((s.1.tmod 10) + 1)) ≤ ((bs [48, 49, 50, 51, 52, 53, 54, 55, 56, 57]).size : Int) then (if ((bs [48, 49, 50, 51, 52, 53, 54, 55, 56, 57]).extract ((s.1.tmod 10) : Int).toNat ((IntKind.wrap .i64 ((s.1.tmod 10) + 1)) : Int).toNat).size + s.2.1.size ≤ 9223372036854775807 then (some (Sum.inl ((IntKind.wrap .i64 (s.1.tdiv 10)), (((bs [48, 49, 50, 51, 52, 53, 54, 55, 56, 57]).extract ((s.1.tmod 10) : Int).toNat ((IntKind.wrap .i64 ((s.1.tmod 10) + 1)) : Int).toNat) ++ s.2.1), (IntKind.wrap .i64 (s.2.2 + 1))))) else none) else none) else ((if (bs [67, 66]).size + s.2.1.size ≤ 9223372036854775807 then ((q08_Seal ((bs [67, 66]) ++ s.2.1)).bind fun r => some r.1) else none).map .inr)
noncomputable def q24_Number (id : Int) : Option ByteArray :=
  if (bif (decide (id < 1000)) then true else (decide (id > 99999999))) = true then (some (bs [])) else (Iter q24_Number_l1 (id, (bs []), 0))
noncomputable def q24_shaped (a : ApiAccount) : Option Bool :=
  (if (((bif (decide (a.Id ≥ 1000)) then (decide (a.Id ≤ 99999999)) else false) == true) && true) = true then q04_Valid a.Opened else some default).bind fun r => (if (((bif (bif (decide (a.Id ≥ 1000)) then (decide (a.Id ≤ 99999999)) else false) then r else false) == true) && true) = true then q24_Number a.Id else some default).bind fun r1 => some (bif (bif (bif (decide (a.Id ≥ 1000)) then (decide (a.Id ≤ 99999999)) else false) then r else false) then (a.Number.toList == r1.toList) else false)
noncomputable def q17_At_j0 (s : (Int × Int)) (s4 : Int) : Option ((Int × Int) ⊕ (ApiProduct × Bool)) :=
  some (Sum.inl (s4, (IntKind.wrap .i64 (s.2 + 1))))
noncomputable def q17_At_l1 (l : (List ApiProduct)) (name : ByteArray) (day : Int) (s : (Int × Int)) : Option ((Int × Int) ⊕ (ApiProduct × Bool)) :=
  if (decide (s.2 < ((List.map ApiProduct.enc l).length : Int))) = true then ((getI l s.2).bind fun li => (if (((li.Name.toList == name.toList) == true) && true) = true then getI l s.2 else some default).bind fun li1 => (if (((decide (s.1 < 0)) == false) && (((bif (li.Name.toList == name.toList) then (decide (li1.From ≤ day)) else false) == true) && true)) = true then getI l s.2 else some default).bind fun li2 => (if (((decide (s.1 < 0)) == false) && (((bif (li.Name.toList == name.toList) then (decide (li1.From ≤ day)) else false) == true) && true)) = true then getI l s.1 else some default).bind fun li3 => if (bif (bif (li.Name.toList == name.toList) then (decide (li1.From ≤ day)) else false) then (bif (decide (s.1 < 0)) then true else (decide (li2.From > li3.From))) else false) = true then (q17_At_j0 s s.2) else (q17_At_j0 s s.1)) else ((if (decide (s.1 < 0)) = true then (some ((⟨(bs []), (bs []), (bs []), 0, 0, 0, 0, (⟨[], false, 0, 0, false⟩ : ApiInterest), (⟨[], false, 0, 0, false⟩ : ApiInterest), [], []⟩ : ApiProduct), false)) else ((getI l s.1).bind fun li5 => some (li5, true))).map .inr)
noncomputable def q17_At (l : (List ApiProduct)) (name : ByteArray) (day : Int) : Option (ApiProduct × Bool) :=
  Iter (q17_At_l1 l name day) ((-1), 0)
noncomputable def q24_owned (b : ApiBooks) (a : ApiAccount) : Option Int :=
  (q15_Name a.Owner).bind fun r => if (!r) = true then (some 4) else ((q17_At b.Products a.Product a.Opened).bind fun r1 => if (!r1.2) = true then (some 11) else (some 0))
noncomputable def q24_Check_l1 (b : ApiBooks) (s : Int) : Option (Int ⊕ Int) :=
  if (decide (s < ((List.map ApiAccount.enc b.Accounts).length : Int))) = true then ((getI b.Accounts s).bind fun account => (if (((account.Closed == 0) == false) && true) = true then q04_Valid account.Closed else some default).bind fun r => (q24_shaped account).bind fun r1 => if (bif (bif (bif (!r1) then true else (!(bif (account.Closed == 0) then true else (bif r then (decide (account.Closed ≥ account.Opened)) else false)))) then true else (decide (account.Extra < 0))) then true else (decide (account.Extra > 1000000000000))) = true then (some (Sum.inr 1)) else ((if (((decide (s > 0)) == true) && true) = true then getI b.Accounts (IntKind.wrap .i64 (s - 1)) else some default).bind fun account2 => if (bif (decide (s > 0)) then (decide (account.Id ≤ account2.Id)) else false) = true then (some (Sum.inr 10)) else ((q24_owned b account).bind fun r3 => if (r3 != 0) = true then (some (Sum.inr r3)) else (some (Sum.inl (IntKind.wrap .i64 (s + 1))))))) else (some (Sum.inr 0))
noncomputable def q24_Check (b : ApiBooks) : Option Int :=
  if (decide (((List.map ApiAccount.enc b.Accounts).length : Int) > 64)) = true then (some 5) else (Iter (q24_Check_l1 b) 0)
noncomputable def q07_Printed_l1 (s : ByteArray) (low : Int) (s1 : Int) : Option (Int ⊕ Bool) :=
  if (decide (s1 < (s.size : Int))) = true then (if (0 : Int) ≤ s1 ∧ s1 < (s.size : Int) then (if ((((decide ((bt s s1) < low)) == false) && true) = true → (0 : Int) ≤ s1 ∧ s1 < (s.size : Int)) then (if (bif (decide ((bt s s1) < low)) then true else (decide ((bt s s1) > 126))) = true then (some (Sum.inr false)) else (some (Sum.inl (IntKind.wrap .i64 (s1 + 1))))) else none) else none) else (some (Sum.inr true))
noncomputable def q07_Printed (s : ByteArray) (most : Int) (low : Int) : Option Bool :=
  if (decide ((s.size : Int) > most)) = true then (some false) else (Iter (q07_Printed_l1 s low) 0)
noncomputable def q07_Key (s : ByteArray) : Option Bool :=
  (if (((decide ((s.size : Int) ≥ 1)) == true) && true) = true then q07_Printed s 48 33 else some default).bind fun r => some (bif (decide ((s.size : Int) ≥ 1)) then r else false)
noncomputable def q19_Code_l1 (s : ByteArray) (s1 : Int) : Option (Int ⊕ Bool) :=
  if (decide (s1 < (s.size : Int))) = true then (if (0 : Int) ≤ s1 ∧ s1 < (s.size : Int) then (if ((((decide ((bt s s1) < 65)) == false) && true) = true → (0 : Int) ≤ s1 ∧ s1 < (s.size : Int)) then (if (bif (decide ((bt s s1) < 65)) then true else (decide ((bt s s1) > 90))) = true then (some (Sum.inr false)) else (some (Sum.inl (IntKind.wrap .i64 (s1 + 1))))) else none) else none) else (some (Sum.inr true))
noncomputable def q19_Code (s : ByteArray) : Option Bool :=
  if ((s.size : Int) != 3) = true then (some false) else (Iter (q19_Code_l1 s) 0)
noncomputable def q19_leg (x : ApiLeg) : Option Int :=
  if (bif (bif (bif (decide (x.Account < 1)) then true else (x.Amount == 0)) then true else (decide (x.Amount < (-1000000000000)))) then true else (decide (x.Amount > 1000000000000))) = true then (some 1) else ((q19_Code x.Currency).bind fun r => if (!r) = true then (some 14) else (some 0))
noncomputable def q19_Sums_j0 (l : (List ApiLeg)) (s : (Int × (List ApiMoney))) (s1 : Int) (s5 : (Int × Int)) : Option ((Int × (List ApiMoney)) ⊕ (List ApiMoney)) :=
  (getI l s.1).bind fun li6 => if ((([] ++ (subl s.2 0 s1)) : List ApiMoney).length + ([(⟨li6.Currency, s5.2⟩ : ApiMoney)] : List ApiMoney).length) * 24 ≤ 140737488355328 then (if (0 : Int) ≤ s5.1 ∧ s5.1 ≤ ((List.map ApiMoney.enc s.2).length : Int) ∧ ((List.map ApiMoney.enc s.2).length : Int) ≤ (s.2.length : Int) then (if ((([] ++ (subl s.2 0 s1)) ++ ([(⟨li6.Currency, s5.2⟩ : ApiMoney)])).length + (subl s.2 s5.1 ((List.map ApiMoney.enc s.2).length : Int)).length) * 24 ≤ 140737488355328 then (some (Sum.inl ((IntKind.wrap .i64 (s.1 + 1)), ((([] ++ (subl s.2 0 s1)) ++ ([(⟨li6.Currency, s5.2⟩ : ApiMoney)])) ++ (subl s.2 s5.1 ((List.map ApiMoney.enc s.2).length : Int)))))) else none) else none) else none
noncomputable def q19_Sums_l2 (l : (List ApiLeg)) (s : (Int × (List ApiMoney))) (s1 : Int) : Option (Int ⊕ ((Int × (List ApiMoney)) ⊕ (List ApiMoney))) :=
  (if (((decide (s1 < ((List.map ApiMoney.enc s.2).length : Int))) == true) && true) = true then getI s.2 s1 else some default).bind fun o => (if (((decide (s1 < ((List.map ApiMoney.enc s.2).length : Int))) == true) && true) = true then s.2[(s1 : Int).toNat]? else some default).bind fun x => (if (((decide (s1 < ((List.map ApiMoney.enc s.2).length : Int))) == true) && true) = true then getI l s.1 else some default).bind fun li => if (bif (decide (s1 < ((List.map ApiMoney.enc s.2).length : Int))) then (Op.bytesLess x.Currency.toList li.Currency.toList) else false) = true then (some (Sum.inl (IntKind.wrap .i64 (s1 + 1)))) else ((if (0 : Int) ≤ 0 ∧ 0 ≤ s1 ∧ s1 ≤ (s.2.length : Int) then (if (([] : List ApiMoney).length + (subl s.2 0 s1).length) * 24 ≤ 140737488355328 then ((getI l s.1).bind fun li2 => (if (((decide (s1 < ((List.map ApiMoney.enc s.2).length : Int))) == true) && true) = true then getI s.2 s1 else some default).bind fun si => (if (((decide (s1 < ((List.map ApiMoney.enc s.2).length : Int))) == true) && true) = true then getI l s.1 else some default).bind fun li3 => if (bif (decide (s1 < ((List.map ApiMoney.enc s.2).length : Int))) then (si.Currency.toList == li3.Currency.toList) else false) = true then ((getI s.2 s1).bind fun si4 => q19_Sums_j0 l s s1 ((IntKind.wrap .i64 (s1 + 1)), (IntKind.wrap .i64 (li2.Amount + si4.Amount)))) else (q19_Sums_j0 l s s1 (s1, li2.Amount))) else none) else none).map .inr)
noncomputable def q19_Sums_l1 (l : (List ApiLeg)) (s : (Int × (List ApiMoney))) : Option ((Int × (List ApiMoney)) ⊕ (List ApiMoney)) :=
  if (decide (s.1 < ((List.map ApiLeg.enc l).length : Int))) = true then (Iter (q19_Sums_l2 l s) 0) else (some (Sum.inr s.2))
noncomputable def q19_Sums (l : (List ApiLeg)) : Option (List ApiMoney) :=
  Iter (q19_Sums_l1 l) (0, [])
noncomputable def q19_Check_l2 (r6 : (List ApiMoney)) (s7 : Int) : Option (Int ⊕ Int) :=
  if (decide (s7 < ((List.map ApiMoney.enc r6).length : Int))) = true then ((getI r6 s7).bind fun o => (r6[(s7 : Int).toNat]?).bind fun x => if (x.Amount != 0) = true then (some (Sum.inr 15)) else (some (Sum.inl (IntKind.wrap .i64 (s7 + 1))))) else (some (Sum.inr 0))
noncomputable def q19_Check_l1 (e : ApiEntry) (s : Int) : Option (Int ⊕ Int) :=
  if (decide (s < ((List.map ApiLeg.enc e.Legs).length : Int))) = true then ((getI e.Legs s).bind fun leg => (q19_leg leg).bind fun r5 => if (r5 != 0) = true then (some (Sum.inr r5)) else (some (Sum.inl (IntKind.wrap .i64 (s + 1))))) else (((q19_Sums e.Legs).bind fun r6 => Iter (q19_Check_l2 r6) 0).map .inr)
noncomputable def q19_Check (e : ApiEntry) : Option Int :=
  (q07_Key e.Key).bind fun r => if (!r) = true then (some 4) else ((q07_Printed e.Text 64 32).bind fun r1 => (if (((!r1) == false) && true) = true then q04_Valid e.Booked else some default).bind fun r2 => (if (((bif (!r1) then true else (!r2)) == false) && true) = true then q04_Valid e.Value else some default).bind fun r3 => (if (((e.Period != 0) == true) && (((bif (bif (bif (bif (bif (bif (!r1) then true else (!r2)) then true else (!r3)) then true else (decide (e.Kind < 1))) then true else (decide (e.Kind > 14))) then true else (decide (e.Auth < 0))) then true else (decide (e.Auth > 3))) == false) && true)) = true then q04_Valid e.Period else some default).bind fun r4 => if (bif (bif (bif (bif (bif (bif (bif (!r1) then true else (!r2)) then true else (!r3)) then true else (decide (e.Kind < 1))) then true else (decide (e.Kind > 14))) then true else (decide (e.Auth < 0))) then true else (decide (e.Auth > 3))) then true else (bif (e.Period != 0) then (!r4) else false)) = true then (some 1) else (if (bif (decide (((List.map ApiLeg.enc e.Legs).length : Int) < 2)) then true else (decide (((List.map ApiLeg.enc e.Legs).length : Int) > 12))) = true then (some 5) else (Iter (q19_Check_l1 e) 0)))
noncomputable def q20_Examine_l1 (j : (List ApiEntry)) (e : ApiEntry) (s : Int) : Option (Int ⊕ Int) :=
  if (decide (s < ((List.map ApiEntry.enc j).length : Int))) = true then ((getI j s).bind fun ji => if (ji.Key.toList == e.Key.toList) = true then (some (Sum.inr 12)) else (some (Sum.inl (IntKind.wrap .i64 (s + 1))))) else (((if (((decide (((List.map ApiEntry.enc j).length : Int) > 0)) == true) && true) = true then getI j (IntKind.wrap .i64 (((List.map ApiEntry.enc j).length : Int) - 1)) else some default).bind fun ji1 => if (bif (decide (((List.map ApiEntry.enc j).length : Int) > 0)) then (decide (e.Booked < ji1.Booked)) else false) = true then (some 10) else (if (decide (((List.map ApiEntry.enc j).length : Int) ≥ 4096)) = true then (some 5) else (some 0))).map .inr)
noncomputable def q20_Examine (j : (List ApiEntry)) (e : ApiEntry) : Option Int :=
  (q19_Check e).bind fun r => if (r != 0) = true then (some r) else (Iter (q20_Examine_l1 j e) 0)
noncomputable def q07_natural_l1 (s : (Int × ByteArray)) : Option ((Int × ByteArray) ⊕ ByteArray) :=
  if (bif (s.2.toList == (bs []).toList) then true else (decide (s.1 > 0))) = true then (if (0 : Int) ≤ (s.1.tmod 10) ∧ (s.1.tmod 10) ≤ (IntKind.wrap .u64 ((s.1.tmod 10) + 1)) ∧ (IntKind.wrap .u64 ((s.1.tmod 10) + 1)) ≤ ((bs [48, 49, 50, 51, 52, 53, 54, 55, 56, 57]).size : Int) then (if ((bs [48, 49, 50, 51, 52, 53, 54, 55, 56, 57]).extract ((s.1.tmod 10) : Int).toNat ((IntKind.wrap .u64 ((s.1.tmod 10) + 1)) : Int).toNat).size + s.2.size ≤ 9223372036854775807 then (some (Sum.inl ((IntKind.wrap .u64 (s.1.tdiv 10)), (((bs [48, 49, 50, 51, 52, 53, 54, 55, 56, 57]).extract ((s.1.tmod 10) : Int).toNat ((IntKind.wrap .u64 ((s.1.tmod 10) + 1)) : Int).toNat) ++ s.2)))) else none) else none) else (some (Sum.inr s.2))
noncomputable def q07_natural (n : Int) : Option ByteArray :=
  Iter q07_natural_l1 (n, (bs []))
noncomputable def q07_Int (n : Int) : Option ByteArray :=
  if (decide (n ≥ 0)) = true then ((q07_natural (IntKind.wrap .u64 n)).bind fun r => some r) else ((q07_natural (IntKind.wrap .u64 ((bitsI .xor .u64 18446744073709551615 (IntKind.wrap .u64 n)) + 1))).bind fun r1 => if (bs [45]).size + r1.size ≤ 9223372036854775807 then (some ((bs [45]) ++ r1)) else none)
noncomputable def q07_Pack_l1 (l : (List ByteArray)) (s : (ByteArray × Int)) : Option ((ByteArray × Int) ⊕ ByteArray) :=
  if (decide (s.2 < ((List.map eStr l).length : Int))) = true then ((getI l s.2).bind fun li => (q07_Int (li.size : Int)).bind fun r => if s.1.size + r.size ≤ 9223372036854775807 then (if (s.1 ++ r).size + (bs [58]).size ≤ 9223372036854775807 then ((getI l s.2).bind fun li1 => if ((s.1 ++ r) ++ (bs [58])).size + li1.size ≤ 9223372036854775807 then (some (Sum.inl ((((s.1 ++ r) ++ (bs [58])) ++ li1), (IntKind.wrap .i64 (s.2 + 1))))) else none) else none) else none) else (some (Sum.inr s.1))
noncomputable def q07_Pack (l : (List ByteArray)) : Option ByteArray :=
  Iter (q07_Pack_l1 l) ((bs []), 0)
noncomputable def q19_Encode_l1 (e : ApiEntry) (s : (Int × (List ByteArray))) : Option ((Int × (List ByteArray)) ⊕ ByteArray) :=
  if (decide (s.1 < ((List.map ApiLeg.enc e.Legs).length : Int))) = true then ((getI e.Legs s.1).bind fun leg => (q07_Int leg.Account).bind fun r => (q07_Int leg.Amount).bind fun r1 => (q07_Pack ([r, r1, leg.Currency])).bind fun r2 => if (s.2.length + ([r2] : List ByteArray).length) * 16 ≤ 140737488355328 then (some (Sum.inl ((IntKind.wrap .i64 (s.1 + 1)), (s.2 ++ ([r2]))))) else none) else (((q07_Int e.Id).bind fun r3 => (q07_Int e.Booked).bind fun r4 => (q07_Int e.Value).bind fun r5 => (q07_Int e.Kind).bind fun r6 => (q07_Int e.Auth).bind fun r7 => (q07_Int e.Period).bind fun r8 => (q07_Pack s.2).bind fun r9 => (q07_Pack ([r3, r4, r5, r6, r7, r8, e.Key, e.Text, r9])).bind fun r10 => some r10).map .inr)
noncomputable def q19_Encode (e : ApiEntry) : Option ByteArray :=
  Iter (q19_Encode_l1 e) (0, [])
noncomputable def q08_eight_l1 (s : (Int × Int × (List Int))) : Option ((Int × Int × (List Int)) ⊕ ByteArray) :=
  if (decide (s.2.1 < 8)) = true then (if (s.2.2.length + ([(IntKind.wrap .u8 (s.1.tmod 256))] : List Int).length) * 1 ≤ 140737488355328 then (some (Sum.inl ((IntKind.wrap .u64 (s.1.tdiv 256)), (IntKind.wrap .i64 (s.2.1 + 1)), (s.2.2 ++ ([(IntKind.wrap .u8 (s.1.tmod 256))]))))) else none) else (some (Sum.inr (bytesOf (List.map (eInt .u8) s.2.2))))
noncomputable def q08_eight (h : Int) : Option ByteArray :=
  Iter q08_eight_l1 (h, 0, [])
noncomputable def q08_Extend_l1 (s : ByteArray) (s1 : (Int × Int)) : Option ((Int × Int) ⊕ Int) :=
  if (decide (s1.2 < (s.size : Int))) = true then (if (0 : Int) ≤ s1.2 ∧ s1.2 < (s.size : Int) then (some (Sum.inl ((IntKind.wrap .u64 ((bitsI .xor .u64 s1.1 (IntKind.wrap .u64 (bt s s1.2))) * 1099511628211)), (IntKind.wrap .i64 (s1.2 + 1))))) else none) else (some (Sum.inr s1.1))
noncomputable def q08_Extend (h : Int) (s : ByteArray) : Option Int :=
  Iter (q08_Extend_l1 s) (h, 0)
noncomputable def q08_Hash (s : ByteArray) : Option Int :=
  (q08_Extend 14695981039346656037 s).bind fun r => some r
noncomputable def q08_Chain (prev : Int) (s : ByteArray) : Option Int :=
  (q08_eight prev).bind fun r => (q08_Hash r).bind fun r1 => (q08_Extend r1 s).bind fun r2 => some r2
noncomputable def q20_next_j0 (j : (List ApiEntry)) (e : ApiEntry) (s : Int) : Option ApiEntry :=
  (q19_Encode (⟨(IntKind.wrap .i64 (((List.map ApiEntry.enc j).length : Int) + 1)), e.Booked, e.Value, e.Kind, e.Auth, e.Period, e.Key, e.Text, e.Legs, e.Chain⟩ : ApiEntry)).bind fun r => (q08_Chain s r).bind fun r1 => some (⟨(IntKind.wrap .i64 (((List.map ApiEntry.enc j).length : Int) + 1)), e.Booked, e.Value, e.Kind, e.Auth, e.Period, e.Key, e.Text, e.Legs, r1⟩ : ApiEntry)
noncomputable def q20_next (j : (List ApiEntry)) (e : ApiEntry) : Option ApiEntry :=
  if (decide (((List.map ApiEntry.enc j).length : Int) > 0)) = true then ((getI j (IntKind.wrap .i64 (((List.map ApiEntry.enc j).length : Int) - 1))).bind fun ji => q20_next_j0 j e ji.Chain) else (q20_next_j0 j e 0)
noncomputable def q19_SameLegs_l1 (a : (List ApiLeg)) (b : (List ApiLeg)) (s : Int) : Option (Int ⊕ Bool) :=
  if (decide (s < ((List.map ApiLeg.enc a).length : Int))) = true then ((getI a s).bind fun ai => (getI b s).bind fun bi => if (!((ai.Account == bi.Account) && ((ai.Amount == bi.Amount) && ((ai.Currency.toList == bi.Currency.toList) && true)))) = true then (some (Sum.inr false)) else (some (Sum.inl (IntKind.wrap .i64 (s + 1))))) else (some (Sum.inr true))
noncomputable def q19_SameLegs (a : (List ApiLeg)) (b : (List ApiLeg)) : Option Bool :=
  if (((List.map ApiLeg.enc a).length : Int) != ((List.map ApiLeg.enc b).length : Int)) = true then (some false) else (Iter (q19_SameLegs_l1 a b) 0)
noncomputable def q19_Same (a : ApiEntry) (b : ApiEntry) : Option Bool :=
  (if (((bif (bif (bif (bif (bif (bif (bif (bif (a.Id == b.Id) then (a.Booked == b.Booked) else false) then (a.Value == b.Value) else false) then (a.Kind == b.Kind) else false) then (a.Auth == b.Auth) else false) then (a.Period == b.Period) else false) then (a.Key.toList == b.Key.toList) else false) then (a.Text.toList == b.Text.toList) else false) then (a.Chain == b.Chain) else false) == true) && true) = true then q19_SameLegs a.Legs b.Legs else some default).bind fun r => some (bif (bif (bif (bif (bif (bif (bif (bif (bif (a.Id == b.Id) then (a.Booked == b.Booked) else false) then (a.Value == b.Value) else false) then (a.Kind == b.Kind) else false) then (a.Auth == b.Auth) else false) then (a.Period == b.Period) else false) then (a.Key.toList == b.Key.toList) else false) then (a.Text.toList == b.Text.toList) else false) then (a.Chain == b.Chain) else false) then r else false)
noncomputable def q20_Verify_l1 (j : (List ApiEntry)) (s : Int) : Option (Int ⊕ Int) :=
  if (decide (s < ((List.map ApiEntry.enc j).length : Int))) = true then (if (0 : Int) ≤ 0 ∧ 0 ≤ s ∧ s ≤ (j.length : Int) then ((getI j s).bind fun ji => (q20_Examine (subl j 0 s) ji).bind fun r => if ((((r != 0) == false) && true) = true → (0 : Int) ≤ 0 ∧ 0 ≤ s ∧ s ≤ (j.length : Int)) then ((if (((r != 0) == false) && true) = true then getI j s else some default).bind fun ji1 => (if (((r != 0) == false) && true) = true then q20_next (subl j 0 s) ji1 else some default).bind fun r2 => (if (((r != 0) == false) && true) = true then getI j s else some default).bind fun ji3 => (if (((r != 0) == false) && true) = true then q19_Same r2 ji3 else some default).bind fun r4 => if (bif (r != 0) then true else (!r4)) = true then (some (Sum.inr s)) else (some (Sum.inl (IntKind.wrap .i64 (s + 1))))) else none) else none) else (some (Sum.inr (-1)))
noncomputable def q20_Verify (j : (List ApiEntry)) : Option Int :=
  Iter (q20_Verify_l1 j) 0
noncomputable def q26_parent_l1 (l : (List ApiGl)) (id : Int) (s : Int) : Option (Int ⊕ Bool) :=
  if (decide (s < ((List.map ApiGl.enc l).length : Int))) = true then ((getI l s).bind fun li => if (li.Parent == id) = true then (some (Sum.inr true)) else (some (Sum.inl (IntKind.wrap .i64 (s + 1))))) else (some (Sum.inr false))
noncomputable def q26_parent (l : (List ApiGl)) (id : Int) : Option Bool :=
  Iter (q26_parent_l1 l id) 0
noncomputable def q24_Active (b : ApiBooks) (id : Int) (day : Int) : Option Bool :=
  (q24_Find b id).bind fun r => some (bif (bif r.2 then (decide (r.1.Opened ≤ day)) else false) then (bif (r.1.Closed == 0) then true else (decide (r.1.Closed > day))) else false)
noncomputable def q26_leg (b : ApiBooks) (x : ApiLeg) (booked : Int) : Option Int :=
  (q03_Find b.Currencies x.Currency).bind fun r => if (decide (x.Account < 1000)) = true then ((q18_Find b.Chart x.Account).bind fun r1 => (if (((!r1.2) == false) && true) = true then q26_parent b.Chart x.Account else some default).bind fun r2 => if (bif (!r1.2) then true else r2) = true then (some 11) else (if (!r.2) = true then (some 14) else (some 0))) else ((q24_Find b x.Account).bind fun r3 => if (!r3.2) = true then (some 11) else ((q17_At b.Products r3.1.Product r3.1.Opened).bind fun r4 => if (bif (bif (!r.2) then true else (!r4.2)) then true else (!(r4.1.Currency.toList == x.Currency.toList))) = true then (some 14) else ((q24_Active b x.Account booked).bind fun r5 => if (!r5) = true then (some 16) else (some 0))))
noncomputable def q26_Legs_l1 (b : ApiBooks) (e : ApiEntry) (s : Int) : Option (Int ⊕ Int) :=
  if (decide (s < ((List.map ApiLeg.enc e.Legs).length : Int))) = true then ((getI e.Legs s).bind fun leg => (q26_leg b leg e.Booked).bind fun r => if (r != 0) = true then (some (Sum.inr r)) else (some (Sum.inl (IntKind.wrap .i64 (s + 1))))) else (some (Sum.inr 0))
noncomputable def q26_Legs (b : ApiBooks) (e : ApiEntry) : Option Int :=
  Iter (q26_Legs_l1 b e) 0
noncomputable def q26_entries_l1 (b : ApiBooks) (s : Int) : Option (Int ⊕ Int) :=
  if (decide (s < ((List.map ApiEntry.enc b.Journal).length : Int))) = true then ((getI b.Journal s).bind fun journal => (q26_Legs b journal).bind fun r1 => if (r1 != 0) = true then (some (Sum.inr 25)) else (some (Sum.inl (IntKind.wrap .i64 (s + 1))))) else (some (Sum.inr 0))
noncomputable def q26_entries (b : ApiBooks) : Option Int :=
  (q20_Verify b.Journal).bind fun r => if (r != (-1)) = true then (some 25) else (Iter (q26_entries_l1 b) 0)
noncomputable def q22_one (h : ApiHold) : Option Int :=
  (if (((bif (bif (bif (decide (h.Id < 1)) then true else (decide (h.Account < 1000))) then true else (decide (h.Amount < 1))) then true else (decide (h.Amount > 1000000000000))) == false) && true) = true then q04_Valid h.From else some default).bind fun r => (if (((bif (bif (bif (bif (decide (h.Id < 1)) then true else (decide (h.Account < 1000))) then true else (decide (h.Amount < 1))) then true else (decide (h.Amount > 1000000000000))) then true else (!r)) == false) && true) = true then q04_Valid h.To else some default).bind fun r1 => if (bif (bif (bif (bif (bif (bif (decide (h.Id < 1)) then true else (decide (h.Account < 1000))) then true else (decide (h.Amount < 1))) then true else (decide (h.Amount > 1000000000000))) then true else (!r)) then true else (!r1)) then true else (decide (h.To < h.From))) = true then (some 1) else ((q07_Key h.Key).bind fun r2 => if (!r2) = true then (some 4) else (some 0))
noncomputable def q22_named_l1 (l : (List ApiHold)) (key : ByteArray) (s : Int) : Option (Int ⊕ Bool) :=
  if (decide (s < ((List.map ApiHold.enc l).length : Int))) = true then ((getI l s).bind fun li => if (li.Key.toList == key.toList) = true then (some (Sum.inr true)) else (some (Sum.inl (IntKind.wrap .i64 (s + 1))))) else (some (Sum.inr false))
noncomputable def q22_named (l : (List ApiHold)) (key : ByteArray) : Option Bool :=
  Iter (q22_named_l1 l key) 0
noncomputable def q22_Check_l1 (l : (List ApiHold)) (s : Int) : Option (Int ⊕ Int) :=
  if (decide (s < ((List.map ApiHold.enc l).length : Int))) = true then ((getI l s).bind fun li => (q22_one li).bind fun r => if (r != 0) = true then (some (Sum.inr r)) else ((if (((decide (s > 0)) == true) && true) = true then getI l s else some default).bind fun li1 => (if (((decide (s > 0)) == true) && true) = true then getI l (IntKind.wrap .i64 (s - 1)) else some default).bind fun li2 => if (bif (decide (s > 0)) then (decide (li1.Id ≤ li2.Id)) else false) = true then (some (Sum.inr 10)) else (if (0 : Int) ≤ 0 ∧ 0 ≤ s ∧ s ≤ (l.length : Int) then ((getI l s).bind fun li3 => (q22_named (subl l 0 s) li3.Key).bind fun r4 => if r4 = true then (some (Sum.inr 12)) else (some (Sum.inl (IntKind.wrap .i64 (s + 1))))) else none))) else (some (Sum.inr 0))
noncomputable def q22_Check (l : (List ApiHold)) : Option Int :=
  if (decide (((List.map ApiHold.enc l).length : Int) > 64)) = true then (some 5) else (Iter (q22_Check_l1 l) 0)
noncomputable def q23_good (b : ApiBlock) : Option Bool :=
  if (bif (bif (bif (decide (b.Id < 1)) then true else (decide (b.Account < 1000))) then true else (decide (b.Kind < 1))) then true else (decide (b.Kind > 4))) = true then (some false) else (if (bif (bif (b.Kind == 4) then (bif (decide (b.Amount < 1)) then true else (decide (b.Amount > 1000000000000))) else false) then true else (bif (b.Kind != 4) then (b.Amount != 0) else false)) = true then (some false) else ((q04_Valid b.From).bind fun r => (if ((r == true) && true) = true then q04_Valid b.To else some default).bind fun r1 => some (bif (bif r then r1 else false) then (decide (b.From ≤ b.To)) else false)))
noncomputable def q23_Check_l1 (l : (List ApiBlock)) (s : Int) : Option (Int ⊕ Int) :=
  if (decide (s < ((List.map ApiBlock.enc l).length : Int))) = true then ((getI l s).bind fun li => (q23_good li).bind fun r => if (!r) = true then (some (Sum.inr 1)) else ((getI l s).bind fun li1 => (q05_Name li1.Source).bind fun r2 => if (!r2) = true then (some (Sum.inr 4)) else ((if (((decide (s > 0)) == true) && true) = true then getI l s else some default).bind fun li3 => (if (((decide (s > 0)) == true) && true) = true then getI l (IntKind.wrap .i64 (s - 1)) else some default).bind fun li4 => if (bif (decide (s > 0)) then (decide (li3.Id ≤ li4.Id)) else false) = true then (some (Sum.inr 10)) else (some (Sum.inl (IntKind.wrap .i64 (s + 1))))))) else (some (Sum.inr 0))
noncomputable def q23_Check (l : (List ApiBlock)) : Option Int :=
  if (decide (((List.map ApiBlock.enc l).length : Int) > 64)) = true then (some 5) else (Iter (q23_Check_l1 l) 0)
noncomputable def q26_Check_j0 (s13 : Int) : Option Int :=
  some s13
noncomputable def q26_Check_j1 (b : ApiBooks) (s11 : Int) : Option Int :=
  if (s11 == 0) = true then ((q23_Check b.Blocks).bind fun r12 => q26_Check_j0 r12) else (q26_Check_j0 s11)
noncomputable def q26_Check_j2 (b : ApiBooks) (s9 : Int) : Option Int :=
  if (s9 == 0) = true then ((q22_Check b.Holds).bind fun r10 => q26_Check_j1 b r10) else (q26_Check_j1 b s9)
noncomputable def q26_Check_j3 (b : ApiBooks) (s7 : Int) : Option Int :=
  if (s7 == 0) = true then ((q26_entries b).bind fun r8 => q26_Check_j2 b r8) else (q26_Check_j2 b s7)
noncomputable def q26_Check_j4 (b : ApiBooks) (s5 : Int) : Option Int :=
  if (s5 == 0) = true then ((q24_Check b).bind fun r6 => q26_Check_j3 b r6) else (q26_Check_j3 b s5)
noncomputable def q26_Check_j5 (b : ApiBooks) (s3 : Int) : Option Int :=
  if (s3 == 0) = true then ((q26_products b).bind fun r4 => q26_Check_j4 b r4) else (q26_Check_j4 b s3)
noncomputable def q26_Check_j6 (b : ApiBooks) (s : Int) : Option Int :=
  if (s == 0) = true then ((q18_Check b.Chart b.Plan).bind fun r2 => q26_Check_j5 b r2) else (q26_Check_j5 b s)
noncomputable def q26_Check (b : ApiBooks) : Option Int :=
  (q03_Check b.Currencies).bind fun r => if (r == 0) = true then ((q26_calendars b.Calendars).bind fun r1 => q26_Check_j6 b r1) else (q26_Check_j6 b r)
noncomputable def slices_Clone_api_Leg_api_Leg (s : (List ApiLeg)) : Option (List ApiLeg) :=
  if (([] : List ApiLeg).length + s.length) * 32 ≤ 140737488355328 then (some ([] ++ s)) else none
noncomputable def clone_Entry (e : ApiEntry) : Option ApiEntry :=
  (slices_Clone_api_Leg_api_Leg e.Legs).bind fun r => some (⟨e.Id, e.Booked, e.Value, e.Kind, e.Auth, e.Period, e.Key, e.Text, r, e.Chain⟩ : ApiEntry)
noncomputable def backdate_Events_j0 (s : (Int × (List ApiEntry))) (s1 : (List ApiEntry)) : Option ((Int × (List ApiEntry)) ⊕ (List ApiEntry)) :=
  some (Sum.inl ((IntKind.wrap .i64 (s.1 + 1)), s1))
noncomputable def backdate_Events_l1 (j : (List ApiEntry)) (s : (Int × (List ApiEntry))) : Option ((Int × (List ApiEntry)) ⊕ (List ApiEntry)) :=
  if (decide (s.1 < ((List.map ApiEntry.enc j).length : Int))) = true then ((getI j s.1).bind fun ji => if (bif (ji.Kind != 4) then (ji.Kind != 5) else false) = true then ((clone_Entry ji).bind fun r => if (s.2.length + ([r] : List ApiEntry).length) * 112 ≤ 140737488355328 then (backdate_Events_j0 s (s.2 ++ ([r]))) else none) else (backdate_Events_j0 s s.2)) else (some (Sum.inr s.2))
noncomputable def backdate_Events (j : (List ApiEntry)) : Option (List ApiEntry) :=
  Iter (backdate_Events_l1 j) (0, [])
noncomputable def backdate_Affected_j0 (s : (Int × (List Int))) (s1 : (List Int)) : Option ((Int × (List Int)) ⊕ (List Int)) :=
  some (Sum.inl ((IntKind.wrap .i64 (s.1 + 1)), s1))
noncomputable def backdate_Affected_l1 (l : (List ApiPeriod)) (id : Int) (value : Int) (s : (Int × (List Int))) : Option ((Int × (List Int)) ⊕ (List Int)) :=
  if (decide (s.1 < ((List.map ApiPeriod.enc l).length : Int))) = true then ((getI l s.1).bind fun li => if (bif (li.Account == id) then (decide (li.To ≥ value)) else false) = true then (if (s.2.length + ([s.1] : List Int).length) * 8 ≤ 140737488355328 then (backdate_Affected_j0 s (s.2 ++ ([s.1]))) else none) else (backdate_Affected_j0 s s.2)) else (some (Sum.inr s.2))
noncomputable def backdate_Affected (l : (List ApiPeriod)) (id : Int) (value : Int) : Option (List Int) :=
  Iter (backdate_Affected_l1 l id value) (0, [])
noncomputable def account_index_c1 (a : ApiAccount) (c0 : Int) : Option Bool :=
  some (a.Id == c0)
noncomputable def slices_IndexFunc_api_Account_api_Account__account_index_c1_l1 (s : (List ApiAccount)) (f0 : Int) (s1 : Int) : Option (Int ⊕ Int) :=
  if (decide (s1 < ((List.map ApiAccount.enc s).length : Int))) = true then ((getI s s1).bind fun si => (account_index_c1 si f0).bind fun r => if r = true then (some (Sum.inr s1)) else (some (Sum.inl (IntKind.wrap .i64 (s1 + 1))))) else (some (Sum.inr (-1)))
noncomputable def slices_IndexFunc_api_Account_api_Account__account_index_c1 (s : (List ApiAccount)) (f0 : Int) : Option Int :=
  Iter (slices_IndexFunc_api_Account_api_Account__account_index_c1_l1 s f0) 0
noncomputable def account_index (b : ApiBooks) (id : Int) : Option Int :=
  (slices_IndexFunc_api_Account_api_Account__account_index_c1 b.Accounts id).bind fun r => some r
noncomputable def account_Find (b : ApiBooks) (id : Int) : Option (ApiAccount × Bool) :=
  (account_index b id).bind fun r => if (decide (r < 0)) = true then (some ((⟨0, 0, 0, 0, (bs []), (bs []), (bs [])⟩ : ApiAccount), false)) else ((getI b.Accounts r).bind fun account => some (account, true))
noncomputable def settle_Last_l1 (l : (List ApiPeriod)) (id : Int) (s : Int) : Option (Int ⊕ (ApiPeriod × Bool)) :=
  if (decide (s ≥ 0)) = true then ((getI l s).bind fun li => if (li.Account == id) = true then ((getI l s).bind fun li1 => some (Sum.inr (li1, true))) else (some (Sum.inl (IntKind.wrap .i64 (s - 1))))) else (some (Sum.inr ((⟨0, 0, 0, 0, 0, 0, 0, (⟨0, 0⟩ : ApiWide), (⟨0, 0⟩ : ApiWide)⟩ : ApiPeriod), false)))
noncomputable def settle_Last (l : (List ApiPeriod)) (id : Int) : Option (ApiPeriod × Bool) :=
  Iter (settle_Last_l1 l id) (IntKind.wrap .i64 (((List.map ApiPeriod.enc l).length : Int) - 1))
noncomputable def settle_first (l : (List ApiPeriod)) (a : ApiAccount) : Option Int :=
  (settle_Last l a.Id).bind fun r => if r.2 = true then (some (IntKind.wrap .i64 (r.1.To + 1))) else (some a.Opened)
noncomputable def date_Valid (day : Int) : Option Bool :=
  some (bif (decide (day ≥ 0)) then (decide (day ≤ 73048)) else false)
noncomputable def accrue_daily (b : ApiBooks) (id : Int) : Option (Int × ApiBooks) :=
  some (id, b)
noncomputable def account_Active (b : ApiBooks) (id : Int) (day : Int) : Option Bool :=
  (account_Find b id).bind fun r => some (bif (bif r.2 then (decide (r.1.Opened ≤ day)) else false) then (bif (r.1.Closed == 0) then true else (decide (r.1.Closed > day))) else false)
noncomputable def catalog_At_j0 (s : (Int × Int)) (s2 : Int) : Option ((Int × Int) ⊕ (ApiProduct × Bool)) :=
  some (Sum.inl (s2, (IntKind.wrap .i64 (s.2 + 1))))
noncomputable def catalog_At_l1 (l : (List ApiProduct)) (name : ByteArray) (day : Int) (s : (Int × Int)) : Option ((Int × Int) ⊕ (ApiProduct × Bool)) :=
  if (decide (s.2 < ((List.map ApiProduct.enc l).length : Int))) = true then ((getI l s.2).bind fun li => (if (((decide (s.1 < 0)) == false) && (((bif (li.Name.toList == name.toList) then (decide (li.From ≤ day)) else false) == true) && true)) = true then getI l s.1 else some default).bind fun li1 => if (bif (bif (li.Name.toList == name.toList) then (decide (li.From ≤ day)) else false) then (bif (decide (s.1 < 0)) then true else (decide (li.From > li1.From))) else false) = true then (catalog_At_j0 s s.2) else (catalog_At_j0 s s.1)) else ((if (decide (s.1 < 0)) = true then (some ((⟨(bs []), (bs []), (bs []), 0, 0, 0, 0, (⟨[], false, 0, 0, false⟩ : ApiInterest), (⟨[], false, 0, 0, false⟩ : ApiInterest), [], []⟩ : ApiProduct), false)) else ((getI l s.1).bind fun li3 => some (li3, true))).map .inr)
noncomputable def catalog_At (l : (List ApiProduct)) (name : ByteArray) (day : Int) : Option (ApiProduct × Bool) :=
  Iter (catalog_At_l1 l name day) ((-1), 0)
noncomputable def account_Product (b : ApiBooks) (id : Int) (day : Int) : Option (ApiProduct × Bool) :=
  (account_Find b id).bind fun r => if (!r.2) = true then (some ((⟨(bs []), (bs []), (bs []), 0, 0, 0, 0, (⟨[], false, 0, 0, false⟩ : ApiInterest), (⟨[], false, 0, 0, false⟩ : ApiInterest), [], []⟩ : ApiProduct), false)) else ((catalog_At b.Products r.1.Product day).bind fun r1 => some (r1.1, r1.2))
noncomputable def slices_Clone_api_Tier_api_Tier (s : (List ApiTier)) : Option (List ApiTier) :=
  if (([] : List ApiTier).length + s.length) * 16 ≤ 140737488355328 then (some ([] ++ s)) else none
noncomputable def product_Side_j0 (s : ((List ApiTier) × Bool × Int × Int × Bool)) : Option ApiInterest :=
  (slices_Clone_api_Tier_api_Tier s.1).bind fun r => some (⟨r, s.2.1, s.2.2.1, s.2.2.2.1, s.2.2.2.2⟩ : ApiInterest)
noncomputable def product_Side (p : ApiProduct) (balance : Int) : Option ApiInterest :=
  if (decide (balance < 0)) = true then (product_Side_j0 (p.Debit.Tiers, p.Debit.Marginal, p.Debit.Basis, p.Debit.Mode, p.Debit.Keep)) else (product_Side_j0 (p.Credit.Tiers, p.Credit.Marginal, p.Credit.Basis, p.Credit.Mode, p.Credit.Keep))
noncomputable def tier_size (balance : Int) : Option Int :=
  if (decide (balance < (-9223372036854775807))) = true then (some 9223372036854775807) else (some (if (IntKind.wrap .i64 (0 - balance)) > balance then (IntKind.wrap .i64 (0 - balance)) else balance))
noncomputable def tier_Check_c1 (t : ApiTier) : Option Int :=
  some t.From
noncomputable def tier_ascending_api_Tier__tier_Check_c1_l1 (l : (List ApiTier)) (s : Int) : Option (Int ⊕ Bool) :=
  if (decide (s < ((List.map ApiTier.enc l).length : Int))) = true then ((getI l s).bind fun li => (tier_Check_c1 li).bind fun r => (getI l (IntKind.wrap .i64 (s - 1))).bind fun li1 => (tier_Check_c1 li1).bind fun r2 => if (decide (r ≤ r2)) = true then (some (Sum.inr false)) else (some (Sum.inl (IntKind.wrap .i64 (s + 1))))) else (some (Sum.inr true))
noncomputable def tier_ascending_api_Tier__tier_Check_c1 (l : (List ApiTier)) : Option Bool :=
  Iter (tier_ascending_api_Tier__tier_Check_c1_l1 l) 1
noncomputable def tier_Check_l1 (l : (List ApiTier)) (s : Int) : Option (Int ⊕ Int) :=
  if (decide (s < ((List.map ApiTier.enc l).length : Int))) = true then ((getI l s).bind fun li => if (bif (bif (bif (decide (li.From < 0)) then true else (decide (li.From > 1000000000000))) then true else (decide (li.Ppm < 0))) then true else (decide (li.Ppm > 1000000))) = true then (some (Sum.inr 1)) else (some (Sum.inl (IntKind.wrap .i64 (s + 1))))) else (((tier_ascending_api_Tier__tier_Check_c1 l).bind fun r => if (!r) = true then (some 10) else ((if (((decide (((List.map ApiTier.enc l).length : Int) > 0)) == true) && true) = true then getI l 0 else some default).bind fun li1 => if (bif (decide (((List.map ApiTier.enc l).length : Int) > 0)) then (li1.From != 0) else false) = true then (some 1) else (some 0))).map .inr)
noncomputable def tier_Check (l : (List ApiTier)) : Option Int :=
  if (decide (((List.map ApiTier.enc l).length : Int) > 6)) = true then (some 5) else (Iter (tier_Check_l1 l) 0)
noncomputable def tier_Rate_j0 (s : (Int × Int)) (s2 : Int) : Option ((Int × Int) ⊕ Int) :=
  some (Sum.inl (s2, (IntKind.wrap .i64 (s.2 + 1))))
noncomputable def tier_Rate_l1 (l : (List ApiTier)) (balance : Int) (s : (Int × Int)) : Option ((Int × Int) ⊕ Int) :=
  if (decide (s.2 < ((List.map ApiTier.enc l).length : Int))) = true then ((getI l s.2).bind fun li => (tier_size balance).bind fun r1 => if (decide (li.From ≤ r1)) = true then (tier_Rate_j0 s li.Ppm) else (tier_Rate_j0 s s.1)) else (some (Sum.inr s.1))
noncomputable def tier_Rate (l : (List ApiTier)) (balance : Int) : Option Int :=
  (tier_Check l).bind fun r => if (r != 0) = true then (some 0) else (Iter (tier_Rate_l1 l balance) (0, 0))
noncomputable def tier_Slices_j0 (s : (Int × (List ApiSlice))) (s5 : (List ApiSlice)) : Option ((Int × (List ApiSlice)) ⊕ (List ApiSlice)) :=
  some (Sum.inl ((IntKind.wrap .i64 (s.1 + 1)), s5))
noncomputable def tier_Slices_j1 (s : (Int × (List ApiSlice))) (li : ApiTier) (s4 : Int) : Option ((Int × (List ApiSlice)) ⊕ (List ApiSlice)) :=
  if (decide (s4 > li.From)) = true then (if (s.2.length + ([(⟨(IntKind.wrap .i64 (s4 - li.From)), li.Ppm⟩ : ApiSlice)] : List ApiSlice).length) * 16 ≤ 140737488355328 then (tier_Slices_j0 s (s.2 ++ ([(⟨(IntKind.wrap .i64 (s4 - li.From)), li.Ppm⟩ : ApiSlice)]))) else none) else (tier_Slices_j0 s s.2)
noncomputable def tier_Slices_l1 (l : (List ApiTier)) (r : Int) (s : (Int × (List ApiSlice))) : Option ((Int × (List ApiSlice)) ⊕ (List ApiSlice)) :=
  if (decide (s.1 < ((List.map ApiTier.enc l).length : Int))) = true then ((getI l s.1).bind fun li => if (decide ((IntKind.wrap .i64 (s.1 + 1)) < ((List.map ApiTier.enc l).length : Int))) = true then ((getI l (IntKind.wrap .i64 (s.1 + 1))).bind fun li3 => tier_Slices_j1 s li (if li3.From < r then li3.From else r)) else (tier_Slices_j1 s li r)) else (some (Sum.inr s.2))
noncomputable def tier_Slices (l : (List ApiTier)) (marginal : Bool) (balance : Int) : Option (List ApiSlice) :=
  (tier_size balance).bind fun r => (if (((((List.map ApiTier.enc l).length : Int) == 0) == false) && true) = true then tier_Check l else some default).bind fun r1 => if (bif (bif (((List.map ApiTier.enc l).length : Int) == 0) then true else (r1 != 0)) then true else (r == 0)) = true then (some ([])) else (if (!marginal) = true then ((tier_Rate l balance).bind fun r2 => some ([(⟨r, r2⟩ : ApiSlice)])) else (Iter (tier_Slices_l1 l r) (0, [])))
noncomputable def date_begin_j0 (year : Int) (s : Int) : Option Int :=
  some (IntKind.wrap .i64 ((IntKind.wrap .i64 (365 * (IntKind.wrap .i64 (year - 2000)))) + s))
noncomputable def date_begin (year : Int) : Option Int :=
  if (decide (year > 2100)) = true then (date_begin_j0 year (IntKind.wrap .i64 ((IntKind.wrap .i64 ((IntKind.wrap .i64 ((IntKind.wrap .i64 (year - 2000)) + 3)).tdiv 4)) - 1))) else (date_begin_j0 year (IntKind.wrap .i64 ((IntKind.wrap .i64 ((IntKind.wrap .i64 (year - 2000)) + 3)).tdiv 4)))
noncomputable def date_Leap (year : Int) : Option Bool :=
  some (bif ((year.tmod 4) == 0) then (bif ((year.tmod 100) != 0) then true else ((year.tmod 400) == 0)) else false)
noncomputable def date_length (year : Int) (month : Int) : Option Int :=
  (if (((month == 2) == true) && true) = true then date_Leap year else some default).bind fun r => if (bif (month == 2) then r else false) = true then (some 29) else (if (0 : Int) ≤ month ∧ month < ((13 : Nat) : Int) then (getI ([0, 31, 28, 31, 30, 31, 30, 31, 31, 30, 31, 30, 31] : List Int) month).bind fun a => some a else none)
noncomputable def date_Civil_l2 (s : Int) (s3 : (Int × Int)) : Option ((Int × Int) ⊕ (Int × Int × Int)) :=
  (date_length s s3.2).bind fun r4 => if (decide (s3.1 ≥ r4)) = true then ((date_length s s3.2).bind fun r5 => some (Sum.inl ((IntKind.wrap .i64 (s3.1 - r5)), (IntKind.wrap .i64 (s3.2 + 1))))) else (some (Sum.inr (s, s3.2, (IntKind.wrap .i64 (s3.1 + 1)))))
noncomputable def date_Civil_l1 (day : Int) (s : Int) : Option (Int ⊕ (Int × Int × Int)) :=
  (date_begin (IntKind.wrap .i64 (s + 1))).bind fun r1 => if (decide (r1 ≤ day)) = true then (some (Sum.inl (IntKind.wrap .i64 (s + 1)))) else (((date_begin s).bind fun r2 => Iter (date_Civil_l2 s) ((IntKind.wrap .i64 (day - r2)), 1)).map .inr)
noncomputable def date_Civil (day : Int) : Option (Int × Int × Int) :=
  (date_Valid day).bind fun r => if (!r) = true then (some (0, 0, 0)) else (Iter (date_Civil_l1 day) (IntKind.wrap .i64 (2000 + (IntKind.wrap .i64 (day.tdiv 366)))))
noncomputable def daycount_Thirty (from' : Int) (to' : Int) : Option Int :=
  (date_Valid from').bind fun r => (if (((!r) == false) && true) = true then date_Valid to' else some default).bind fun r1 => if (bif (!r) then true else (!r1)) = true then (some 0) else ((date_Civil from').bind fun r2 => (date_Civil to').bind fun r3 => some (IntKind.wrap .i64 ((IntKind.wrap .i64 ((IntKind.wrap .i64 ((IntKind.wrap .i64 (360 * (IntKind.wrap .i64 (r3.1 - r2.1)))) + (IntKind.wrap .i64 (30 * (IntKind.wrap .i64 (r3.2.1 - r2.2.1)))))) + (if 30 < r3.2.2 then 30 else r3.2.2))) - (if 30 < r2.2.2 then 30 else r2.2.2))))
noncomputable def daycount_Weight_j0 (s : Unit) : Option Int :=
  some 4392
noncomputable def daycount_Weight_j1 (s4 : Int) : Option Int :=
  some (IntKind.wrap .i64 (s4 * 4453))
noncomputable def daycount_Weight (basis : Int) (day : Int) : Option Int :=
  (date_Valid day).bind fun r => if (!r) = true then (some 0) else ((date_Civil day).bind fun r1 => if (basis == 3) = true then ((date_Leap r1.1).bind fun r2 => if r2 = true then (some 4380) else (daycount_Weight_j0 ())) else (if (basis == 2) = true then (daycount_Weight_j0 ()) else (if (basis == 4) = true then ((daycount_Thirty day (IntKind.wrap .i64 (day + 1))).bind fun r3 => daycount_Weight_j1 r3) else (if (basis == 1) = true then (daycount_Weight_j1 1) else (some 0)))))
noncomputable def wide_abs (n : Int) : Option Int :=
  if (decide (n < 0)) = true then (some (IntKind.wrap .u64 (0 - (IntKind.wrap .u64 n)))) else (some (IntKind.wrap .u64 n))
noncomputable def math_bits_Mul64 (x : Int) (y : Int) : Option (Int × Int) :=
  some ((IntKind.wrap .u64 ((IntKind.wrap .u64 ((IntKind.wrap .u64 ((x.fdiv (2 ^ 32)) * (y.fdiv (2 ^ 32)))) + ((IntKind.wrap .u64 ((IntKind.wrap .u64 ((x.fdiv (2 ^ 32)) * (bitsI .and .u64 y 4294967295))) + ((IntKind.wrap .u64 ((bitsI .and .u64 x 4294967295) * (bitsI .and .u64 y 4294967295))).fdiv (2 ^ 32)))).fdiv (2 ^ 32)))) + ((IntKind.wrap .u64 ((bitsI .and .u64 (IntKind.wrap .u64 ((IntKind.wrap .u64 ((x.fdiv (2 ^ 32)) * (bitsI .and .u64 y 4294967295))) + ((IntKind.wrap .u64 ((bitsI .and .u64 x 4294967295) * (bitsI .and .u64 y 4294967295))).fdiv (2 ^ 32)))) 4294967295) + (IntKind.wrap .u64 ((bitsI .and .u64 x 4294967295) * (y.fdiv (2 ^ 32)))))).fdiv (2 ^ 32)))), (IntKind.wrap .u64 (x * y)))
noncomputable def wide_negate (a : ApiWide) : Option ApiWide :=
  (bitsAdd64 (bitsI .xor .u64 18446744073709551615 a.Lo) 1 0).bind fun r => some (⟨(IntKind.wrap .i64 (IntKind.wrap .u64 ((IntKind.wrap .u64 (bitsI .xor .i64 (-1) a.Hi)) + r.2))), r.1⟩ : ApiWide)
noncomputable def wide_Mul_j0 (s : (Int × Int)) : Option ApiWide :=
  some (⟨s.1, s.2⟩ : ApiWide)
noncomputable def wide_Mul (a : Int) (b : Int) : Option ApiWide :=
  (wide_abs a).bind fun r => (wide_abs b).bind fun r1 => (math_bits_Mul64 r r1).bind fun r2 => if (!((decide (a < 0)) == (decide (b < 0)))) = true then ((wide_negate (⟨(IntKind.wrap .i64 r2.1), r2.2⟩ : ApiWide)).bind fun r3 => wide_Mul_j0 (r3.Hi, r3.Lo)) else (wide_Mul_j0 ((IntKind.wrap .i64 r2.1), r2.2))
noncomputable def wide_absolute_j0 (s : (Int × Int)) : Option WideSize :=
  some (⟨(IntKind.wrap .u64 s.1), s.2⟩ : WideSize)
noncomputable def wide_absolute (a : ApiWide) : Option WideSize :=
  if (decide (a.Hi < 0)) = true then ((wide_negate a).bind fun r => wide_absolute_j0 (r.Hi, r.Lo)) else (wide_absolute_j0 (a.Hi, a.Lo))
noncomputable def wide_size_times (s : WideSize) (n : Int) (more : Int) : Option (WideSize × Bool) :=
  (math_bits_Mul64 s.lo n).bind fun r => (math_bits_Mul64 s.hi n).bind fun r1 => (bitsAdd64 r.2 more 0).bind fun r2 => (bitsAdd64 r1.2 (IntKind.wrap .u64 (r.1 + r2.2)) 0).bind fun r3 => some ((⟨r3.1, r2.1⟩ : WideSize), (bif (r1.1 == 0) then (r3.2 == 0) else false))
noncomputable def wide_size_signed_j0 (s1 : (Int × Int)) : Option (ApiWide × Int) :=
  some ((⟨s1.1, s1.2⟩ : ApiWide), 0)
noncomputable def wide_size_signed (s : WideSize) (minus : Bool) : Option (ApiWide × Int) :=
  if (bif (decide (s.hi > 9223372036854775808)) then true else (bif (s.hi == 9223372036854775808) then (bif (!minus) then true else (decide (s.lo > 0))) else false)) = true then (some ((⟨0, 0⟩ : ApiWide), 6)) else (if minus = true then ((wide_negate (⟨(IntKind.wrap .i64 s.hi), s.lo⟩ : ApiWide)).bind fun r => wide_size_signed_j0 (r.Hi, r.Lo)) else (wide_size_signed_j0 ((IntKind.wrap .i64 s.hi), s.lo)))
noncomputable def wide_Scale (a : ApiWide) (n : Int) : Option (ApiWide × Int) :=
  (wide_absolute a).bind fun r => (wide_abs n).bind fun r1 => (wide_size_times r r1 0).bind fun r2 => if (!r2.2) = true then (some ((⟨0, 0⟩ : ApiWide), 6)) else ((wide_size_signed r2.1 (bif (!((decide (a.Hi < 0)) == (decide (n < 0)))) then (!((r2.1.hi == 0) && ((r2.1.lo == 0) && true))) else false)).bind fun r3 => some (r3.1, r3.2))
noncomputable def wide_Add (a : ApiWide) (b : ApiWide) : Option (ApiWide × Int) :=
  (bitsAdd64 a.Lo b.Lo 0).bind fun r => if (bif ((decide (a.Hi < 0)) == (decide (b.Hi < 0))) then (!((decide ((IntKind.wrap .i64 ((IntKind.wrap .i64 (a.Hi + b.Hi)) + (IntKind.wrap .i64 r.2))) < 0)) == (decide (a.Hi < 0)))) else false) = true then (some ((⟨0, 0⟩ : ApiWide), 6)) else (some ((⟨(IntKind.wrap .i64 ((IntKind.wrap .i64 (a.Hi + b.Hi)) + (IntKind.wrap .i64 r.2))), r.1⟩ : ApiWide), 0))
noncomputable def tier_Grains_l1 (l : (List ApiSlice)) (weight : Int) (s : (Int × Int × Int)) : Option ((Int × Int × Int) ⊕ (ApiWide × Int)) :=
  if (decide (s.1 < ((List.map ApiSlice.enc l).length : Int))) = true then ((getI l s.1).bind fun li => if (bif (bif (decide (li.Amount < 0)) then true else (decide (li.Ppm < 0))) then true else (decide (li.Ppm > 1000000))) = true then (some (Sum.inr ((⟨0, 0⟩ : ApiWide), 1))) else ((wide_Mul li.Amount li.Ppm).bind fun r => (wide_Scale r weight).bind fun r1 => (wide_Add (⟨s.2.1, s.2.2⟩ : ApiWide) r1.1).bind fun r2 => some (Sum.inl ((IntKind.wrap .i64 (s.1 + 1)), r2.1.Hi, r2.1.Lo)))) else (some (Sum.inr ((⟨s.2.1, s.2.2⟩ : ApiWide), 0)))
noncomputable def tier_Grains (l : (List ApiSlice)) (weight : Int) : Option (ApiWide × Int) :=
  if (decide (((List.map ApiSlice.enc l).length : Int) > 6)) = true then (some ((⟨0, 0⟩ : ApiWide), 5)) else (if (bif (decide (weight < 0)) then true else (decide (weight > 6412320000))) = true then (some ((⟨0, 0⟩ : ApiWide), 1)) else (Iter (tier_Grains_l1 l weight) (0, 0, 0)))
noncomputable def accrue_grains (p : ApiProduct) (balance : Int) (day : Int) : Option ApiWide :=
  (product_Side p balance).bind fun r => (tier_Slices r.Tiers r.Marginal balance).bind fun r1 => (daycount_Weight r.Basis day).bind fun r2 => (tier_Grains r1 r2).bind fun r3 => if (r3.2 != 0) = true then (some (⟨0, 0⟩ : ApiWide)) else (some r3.1)
noncomputable def accrue_daily_c1_j0 (day : Int) (c0 : Int) (r1 : Int) (s : (Int × Int × Int × Int)) : Option ApiAccrual :=
  some (⟨c0, day, r1, (⟨s.1, s.2.1⟩ : ApiWide), (⟨s.2.2.1, s.2.2.2⟩ : ApiWide)⟩ : ApiAccrual)
noncomputable def accrue_daily_c1 (day : Int) (c0 : Int) (c1 : ApiBooks) : Option ApiAccrual :=
  (account_Active c1 c0 day).bind fun r => if (!r) = true then (some (⟨c0, day, 0, (⟨0, 0⟩ : ApiWide), (⟨0, 0⟩ : ApiWide)⟩ : ApiAccrual)) else ((balAt c1.Journal c0 73048 day).bind fun r1 => (account_Product c1 c0 day).bind fun r2 => if (!r2.2) = true then (accrue_daily_c1_j0 day c0 r1 (0, 0, 0, 0)) else (if (decide (r1 > 0)) = true then ((accrue_grains r2.1 r1 day).bind fun r3 => accrue_daily_c1_j0 day c0 r1 (r3.Hi, r3.Lo, 0, 0)) else (if (decide (r1 < 0)) = true then ((accrue_grains r2.1 r1 day).bind fun r4 => accrue_daily_c1_j0 day c0 r1 (0, 0, r4.Hi, r4.Lo)) else (accrue_daily_c1_j0 day c0 r1 (0, 0, 0, 0)))))
noncomputable def accrue_Series_l1 (to' : Int) (r3 : (Int × ApiBooks)) (s : (Int × (List ApiAccrual))) : Option ((Int × (List ApiAccrual)) ⊕ ((List ApiAccrual) × Int)) :=
  if (decide (s.1 ≤ to')) = true then ((accrue_daily_c1 s.1 r3.1 r3.2).bind fun r4 => if (s.2.length + ([r4] : List ApiAccrual).length) * 56 ≤ 140737488355328 then (some (Sum.inl ((IntKind.wrap .i64 (s.1 + 1)), (s.2 ++ ([r4]))))) else none) else (some (Sum.inr (s.2, 0)))
noncomputable def accrue_Series (b : ApiBooks) (id : Int) (from' : Int) (to' : Int) : Option ((List ApiAccrual) × Int) :=
  (account_Find b id).bind fun r => if (!r.2) = true then (some ([], 11)) else ((date_Valid from').bind fun r1 => (if (((!r1) == false) && true) = true then date_Valid to' else some default).bind fun r2 => if (bif (bif (bif (!r1) then true else (!r2)) then true else (decide (from' > to'))) then true else (decide ((IntKind.wrap .i64 (to' - from')) ≥ 4000))) = true then (some ([], 1)) else ((accrue_daily b id).bind fun r3 => if (0 : Int) ≤ 0 ∧ 0 ≤ (IntKind.wrap .i64 ((IntKind.wrap .i64 (to' - from')) + 1)) ∧ (IntKind.wrap .i64 ((IntKind.wrap .i64 (to' - from')) + 1)) * 56 ≤ 140737488355328 then (Iter (accrue_Series_l1 to' r3) (from', (List.replicate (0 : Int).toNat (⟨0, 0, 0, (⟨0, 0⟩ : ApiWide), (⟨0, 0⟩ : ApiWide)⟩ : ApiAccrual)))) else none))
noncomputable def accrue_Total_l1 (l : (List ApiAccrual)) (s : (Int × Int × Int × Int × Int)) : Option ((Int × Int × Int × Int × Int) ⊕ (ApiWide × ApiWide × Int)) :=
  if (decide (s.1 < ((List.map ApiAccrual.enc l).length : Int))) = true then ((getI l s.1).bind fun li => (wide_Add (⟨s.2.1, s.2.2.1⟩ : ApiWide) li.Credit).bind fun r => (wide_Add (⟨s.2.2.2.1, s.2.2.2.2⟩ : ApiWide) li.Debit).bind fun r1 => if (bif (r.2 != 0) then true else (r1.2 != 0)) = true then (some (Sum.inr ((⟨0, 0⟩ : ApiWide), (⟨0, 0⟩ : ApiWide), 6))) else (some (Sum.inl ((IntKind.wrap .i64 (s.1 + 1)), r.1.Hi, r.1.Lo, r1.1.Hi, r1.1.Lo)))) else (some (Sum.inr ((⟨s.2.1, s.2.2.1⟩ : ApiWide), (⟨s.2.2.2.1, s.2.2.2.2⟩ : ApiWide), 0)))
noncomputable def accrue_Total (l : (List ApiAccrual)) : Option (ApiWide × ApiWide × Int) :=
  Iter (accrue_Total_l1 l) (0, 0, 0, 0, 0)
noncomputable def wide_Cmp (a : ApiWide) (b : ApiWide) : Option Int :=
  if ((a.Hi == b.Hi) && ((a.Lo == b.Lo) && true)) = true then (some 0) else (if (bif (decide (a.Hi < b.Hi)) then true else (bif (a.Hi == b.Hi) then (decide (a.Lo < b.Lo)) else false)) = true then (some (-1)) else (some 1))
noncomputable def rounding_Valid (mode : Int) : Option Bool :=
  some (bif (decide (mode ≥ 1)) then (decide (mode ≤ 6)) else false)
noncomputable def math_bits_Len64_j0 (s2 : (Int × Int)) : Option Int :=
  if (0 : Int) ≤ (IntKind.wrap .u8 s2.1) ∧ (IntKind.wrap .u8 s2.1) < ((bs [0, 1, 2, 2, 3, 3, 3, 3, 4, 4, 4, 4, 4, 4, 4, 4, 5, 5, 5, 5, 5, 5, 5, 5, 5, 5, 5, 5, 5, 5, 5, 5, 6, 6, 6, 6, 6, 6, 6, 6, 6, 6, 6, 6, 6, 6, 6, 6, 6, 6, 6, 6, 6, 6, 6, 6, 6, 6, 6, 6, 6, 6, 6, 6, 7, 7, 7, 7, 7, 7, 7, 7, 7, 7, 7, 7, 7, 7, 7, 7, 7, 7, 7, 7, 7, 7, 7, 7, 7, 7, 7, 7, 7, 7, 7, 7, 7, 7, 7, 7, 7, 7, 7, 7, 7, 7, 7, 7, 7, 7, 7, 7, 7, 7, 7, 7, 7, 7, 7, 7, 7, 7, 7, 7, 7, 7, 7, 7, 8, 8, 8, 8, 8, 8, 8, 8, 8, 8, 8, 8, 8, 8, 8, 8, 8, 8, 8, 8, 8, 8, 8, 8, 8, 8, 8, 8, 8, 8, 8, 8, 8, 8, 8, 8, 8, 8, 8, 8, 8, 8, 8, 8, 8, 8, 8, 8, 8, 8, 8, 8, 8, 8, 8, 8, 8, 8, 8, 8, 8, 8, 8, 8, 8, 8, 8, 8, 8, 8, 8, 8, 8, 8, 8, 8, 8, 8, 8, 8, 8, 8, 8, 8, 8, 8, 8, 8, 8, 8, 8, 8, 8, 8, 8, 8, 8, 8, 8, 8, 8, 8, 8, 8, 8, 8, 8, 8, 8, 8, 8, 8, 8, 8, 8, 8, 8, 8, 8, 8, 8, 8, 8, 8, 8, 8, 8, 8]).size : Int) then (some (IntKind.wrap .i64 (s2.2 + (IntKind.wrap .i64 (bt (bs [0, 1, 2, 2, 3, 3, 3, 3, 4, 4, 4, 4, 4, 4, 4, 4, 5, 5, 5, 5, 5, 5, 5, 5, 5, 5, 5, 5, 5, 5, 5, 5, 6, 6, 6, 6, 6, 6, 6, 6, 6, 6, 6, 6, 6, 6, 6, 6, 6, 6, 6, 6, 6, 6, 6, 6, 6, 6, 6, 6, 6, 6, 6, 6, 7, 7, 7, 7, 7, 7, 7, 7, 7, 7, 7, 7, 7, 7, 7, 7, 7, 7, 7, 7, 7, 7, 7, 7, 7, 7, 7, 7, 7, 7, 7, 7, 7, 7, 7, 7, 7, 7, 7, 7, 7, 7, 7, 7, 7, 7, 7, 7, 7, 7, 7, 7, 7, 7, 7, 7, 7, 7, 7, 7, 7, 7, 7, 7, 8, 8, 8, 8, 8, 8, 8, 8, 8, 8, 8, 8, 8, 8, 8, 8, 8, 8, 8, 8, 8, 8, 8, 8, 8, 8, 8, 8, 8, 8, 8, 8, 8, 8, 8, 8, 8, 8, 8, 8, 8, 8, 8, 8, 8, 8, 8, 8, 8, 8, 8, 8, 8, 8, 8, 8, 8, 8, 8, 8, 8, 8, 8, 8, 8, 8, 8, 8, 8, 8, 8, 8, 8, 8, 8, 8, 8, 8, 8, 8, 8, 8, 8, 8, 8, 8, 8, 8, 8, 8, 8, 8, 8, 8, 8, 8, 8, 8, 8, 8, 8, 8, 8, 8, 8, 8, 8, 8, 8, 8, 8, 8, 8, 8, 8, 8, 8, 8, 8, 8, 8, 8, 8, 8, 8, 8, 8, 8]) (IntKind.wrap .u8 s2.1)))))) else none
noncomputable def math_bits_Len64_j1 (s1 : (Int × Int)) : Option Int :=
  if (decide (s1.1 ≥ 256)) = true then (math_bits_Len64_j0 ((s1.1.fdiv (2 ^ 8)), (IntKind.wrap .i64 (s1.2 + 8)))) else (math_bits_Len64_j0 (s1.1, s1.2))
noncomputable def math_bits_Len64_j2 (s : (Int × Int)) : Option Int :=
  if (decide (s.1 ≥ 65536)) = true then (math_bits_Len64_j1 ((s.1.fdiv (2 ^ 16)), (IntKind.wrap .i64 (s.2 + 16)))) else (math_bits_Len64_j1 (s.1, s.2))
noncomputable def math_bits_Len64 (x : Int) : Option Int :=
  if (decide (x ≥ 4294967296)) = true then (math_bits_Len64_j2 ((x.fdiv (2 ^ 32)), 32)) else (math_bits_Len64_j2 (x, 0))
noncomputable def math_bits_LeadingZeros64 (x : Int) : Option Int :=
  (math_bits_Len64 x).bind fun r => some (IntKind.wrap .i64 (64 - r))
noncomputable def math_bits_Div64_j0 (hi : Int) (lo : Int) (y : Int) (r : Int) (s3 : Int) (s5 : Int) : Option (Int × Int) :=
  if (0 : Int) ≤ (IntKind.wrap .u64 r) then (some ((IntKind.wrap .u64 ((IntKind.wrap .u64 (s3 * 4294967296)) + s5)), ((IntKind.wrap .u64 ((IntKind.wrap .u64 ((IntKind.wrap .u64 ((IntKind.wrap .u64 ((IntKind.wrap .u64 ((IntKind.wrap .u64 ((bitsI .or .u64 (IntKind.wrap .u64 (hi * 2 ^ (min ((IntKind.wrap .u64 r) : Int).toNat 64))) (lo.fdiv (2 ^ (min ((IntKind.wrap .u64 (64 - (IntKind.wrap .u64 r))) : Int).toNat 64)))) * 4294967296)) + ((IntKind.wrap .u64 (lo * 2 ^ (min ((IntKind.wrap .u64 r) : Int).toNat 64))).fdiv (2 ^ 32)))) - (IntKind.wrap .u64 (s3 * (IntKind.wrap .u64 (y * 2 ^ (min ((IntKind.wrap .u64 r) : Int).toNat 64))))))) * 4294967296)) + (bitsI .and .u64 (IntKind.wrap .u64 (lo * 2 ^ (min ((IntKind.wrap .u64 r) : Int).toNat 64))) 4294967295))) - (IntKind.wrap .u64 (s5 * (IntKind.wrap .u64 (y * 2 ^ (min ((IntKind.wrap .u64 r) : Int).toNat 64))))))).fdiv (2 ^ (min ((IntKind.wrap .u64 r) : Int).toNat 64))))) else none
noncomputable def math_bits_Div64_l2 (hi : Int) (lo : Int) (y : Int) (r : Int) (s3 : Int) (s4 : (Int × Int)) : Option ((Int × Int) ⊕ (Int × Int)) :=
  if (bif (decide (s4.2 ≥ 4294967296)) then true else (decide ((IntKind.wrap .u64 (s4.2 * (bitsI .and .u64 (IntKind.wrap .u64 (y * 2 ^ (min ((IntKind.wrap .u64 r) : Int).toNat 64))) 4294967295))) > (IntKind.wrap .u64 ((IntKind.wrap .u64 (4294967296 * s4.1)) + (bitsI .and .u64 (IntKind.wrap .u64 (lo * 2 ^ (min ((IntKind.wrap .u64 r) : Int).toNat 64))) 4294967295)))))) = true then (if (decide ((IntKind.wrap .u64 (s4.1 + ((IntKind.wrap .u64 (y * 2 ^ (min ((IntKind.wrap .u64 r) : Int).toNat 64))).fdiv (2 ^ 32)))) ≥ 4294967296)) = true then ((math_bits_Div64_j0 hi lo y r s3 (IntKind.wrap .u64 (s4.2 - 1))).map .inr) else (some (Sum.inl ((IntKind.wrap .u64 (s4.1 + ((IntKind.wrap .u64 (y * 2 ^ (min ((IntKind.wrap .u64 r) : Int).toNat 64))).fdiv (2 ^ 32)))), (IntKind.wrap .u64 (s4.2 - 1)))))) else ((math_bits_Div64_j0 hi lo y r s3 s4.2).map .inr)
noncomputable def math_bits_Div64_j2 (hi : Int) (lo : Int) (y : Int) (r : Int) (s3 : Int) : Option (Int × Int) :=
  if ((IntKind.wrap .u64 (y * 2 ^ (min ((IntKind.wrap .u64 r) : Int).toNat 64))).fdiv (2 ^ 32)) ≠ 0 then (Iter (math_bits_Div64_l2 hi lo y r s3) ((IntKind.wrap .u64 ((IntKind.wrap .u64 ((IntKind.wrap .u64 ((IntKind.wrap .u64 ((bitsI .or .u64 (IntKind.wrap .u64 (hi * 2 ^ (min ((IntKind.wrap .u64 r) : Int).toNat 64))) (lo.fdiv (2 ^ (min ((IntKind.wrap .u64 (64 - (IntKind.wrap .u64 r))) : Int).toNat 64)))) * 4294967296)) + ((IntKind.wrap .u64 (lo * 2 ^ (min ((IntKind.wrap .u64 r) : Int).toNat 64))).fdiv (2 ^ 32)))) - (IntKind.wrap .u64 (s3 * (IntKind.wrap .u64 (y * 2 ^ (min ((IntKind.wrap .u64 r) : Int).toNat 64))))))) - (IntKind.wrap .u64 ((IntKind.wrap .u64 ((IntKind.wrap .u64 ((IntKind.wrap .u64 ((IntKind.wrap .u64 ((bitsI .or .u64 (IntKind.wrap .u64 (hi * 2 ^ (min ((IntKind.wrap .u64 r) : Int).toNat 64))) (lo.fdiv (2 ^ (min ((IntKind.wrap .u64 (64 - (IntKind.wrap .u64 r))) : Int).toNat 64)))) * 4294967296)) + ((IntKind.wrap .u64 (lo * 2 ^ (min ((IntKind.wrap .u64 r) : Int).toNat 64))).fdiv (2 ^ 32)))) - (IntKind.wrap .u64 (s3 * (IntKind.wrap .u64 (y * 2 ^ (min ((IntKind.wrap .u64 r) : Int).toNat 64))))))).tdiv ((IntKind.wrap .u64 (y * 2 ^ (min ((IntKind.wrap .u64 r) : Int).toNat 64))).fdiv (2 ^ 32)))) * ((IntKind.wrap .u64 (y * 2 ^ (min ((IntKind.wrap .u64 r) : Int).toNat 64))).fdiv (2 ^ 32)))))), (IntKind.wrap .u64 ((IntKind.wrap .u64 ((IntKind.wrap .u64 ((IntKind.wrap .u64 ((bitsI .or .u64 (IntKind.wrap .u64 (hi * 2 ^ (min ((IntKind.wrap .u64 r) : Int).toNat 64))) (lo.fdiv (2 ^ (min ((IntKind.wrap .u64 (64 - (IntKind.wrap .u64 r))) : Int).toNat 64)))) * 4294967296)) + ((IntKind.wrap .u64 (lo * 2 ^ (min ((IntKind.wrap .u64 r) : Int).toNat 64))).fdiv (2 ^ 32)))) - (IntKind.wrap .u64 (s3 * (IntKind.wrap .u64 (y * 2 ^ (min ((IntKind.wrap .u64 r) : Int).toNat 64))))))).tdiv ((IntKind.wrap .u64 (y * 2 ^ (min ((IntKind.wrap .u64 r) : Int).toNat 64))).fdiv (2 ^ 32)))))) else none
noncomputable def math_bits_Div64_l1 (hi : Int) (lo : Int) (y : Int) (r : Int) (s2 : (Int × Int)) : Option ((Int × Int) ⊕ (Int × Int)) :=
  if (bif (decide (s2.1 ≥ 4294967296)) then true else (decide ((IntKind.wrap .u64 (s2.1 * (bitsI .and .u64 (IntKind.wrap .u64 (y * 2 ^ (min ((IntKind.wrap .u64 r) : Int).toNat 64))) 4294967295))) > (IntKind.wrap .u64 ((IntKind.wrap .u64 (4294967296 * s2.2)) + ((IntKind.wrap .u64 (lo * 2 ^ (min ((IntKind.wrap .u64 r) : Int).toNat 64))).fdiv (2 ^ 32))))))) = true then (if (decide ((IntKind.wrap .u64 (s2.2 + ((IntKind.wrap .u64 (y * 2 ^ (min ((IntKind.wrap .u64 r) : Int).toNat 64))).fdiv (2 ^ 32)))) ≥ 4294967296)) = true then ((math_bits_Div64_j2 hi lo y r (IntKind.wrap .u64 (s2.1 - 1))).map .inr) else (some (Sum.inl ((IntKind.wrap .u64 (s2.1 - 1)), (IntKind.wrap .u64 (s2.2 + ((IntKind.wrap .u64 (y * 2 ^ (min ((IntKind.wrap .u64 r) : Int).toNat 64))).fdiv (2 ^ 32)))))))) else ((math_bits_Div64_j2 hi lo y r s2.1).map .inr)
noncomputable def math_bits_Div64_j4 (hi : Int) (lo : Int) (y : Int) (s1 : Unit) : Option (Int × Int) :=
  if (hi == 0) = true then (if y ≠ 0 then (if y ≠ 0 then (some ((IntKind.wrap .u64 (lo.tdiv y)), (lo.tmod y))) else none) else none) else ((math_bits_LeadingZeros64 y).bind fun r => if (0 : Int) ≤ (IntKind.wrap .u64 r) then (if (0 : Int) ≤ (IntKind.wrap .u64 r) then (if (0 : Int) ≤ (IntKind.wrap .u64 (64 - (IntKind.wrap .u64 r))) then (if (0 : Int) ≤ (IntKind.wrap .u64 r) then (if ((IntKind.wrap .u64 (y * 2 ^ (min ((IntKind.wrap .u64 r) : Int).toNat 64))).fdiv (2 ^ 32)) ≠ 0 then (Iter (math_bits_Div64_l1 hi lo y r) ((IntKind.wrap .u64 ((bitsI .or .u64 (IntKind.wrap .u64 (hi * 2 ^ (min ((IntKind.wrap .u64 r) : Int).toNat 64))) (lo.fdiv (2 ^ (min ((IntKind.wrap .u64 (64 - (IntKind.wrap .u64 r))) : Int).toNat 64)))).tdiv ((IntKind.wrap .u64 (y * 2 ^ (min ((IntKind.wrap .u64 r) : Int).toNat 64))).fdiv (2 ^ 32)))), (IntKind.wrap .u64 ((bitsI .or .u64 (IntKind.wrap .u64 (hi * 2 ^ (min ((IntKind.wrap .u64 r) : Int).toNat 64))) (lo.fdiv (2 ^ (min ((IntKind.wrap .u64 (64 - (IntKind.wrap .u64 r))) : Int).toNat 64)))) - (IntKind.wrap .u64 ((IntKind.wrap .u64 ((bitsI .or .u64 (IntKind.wrap .u64 (hi * 2 ^ (min ((IntKind.wrap .u64 r) : Int).toNat 64))) (lo.fdiv (2 ^ (min ((IntKind.wrap .u64 (64 - (IntKind.wrap .u64 r))) : Int).toNat 64)))).tdiv ((IntKind.wrap .u64 (y * 2 ^ (min ((IntKind.wrap .u64 r) : Int).toNat 64))).fdiv (2 ^ 32)))) * ((IntKind.wrap .u64 (y * 2 ^ (min ((IntKind.wrap .u64 r) : Int).toNat 64))).fdiv (2 ^ 32)))))))) else none) else none) else none) else none) else none)
noncomputable def math_bits_Div64_j5 (hi : Int) (lo : Int) (y : Int) (s : Unit) : Option (Int × Int) :=
  if (decide (y ≤ hi)) = true then none else (math_bits_Div64_j4 hi lo y ())
noncomputable def math_bits_Div64 (hi : Int) (lo : Int) (y : Int) : Option (Int × Int) :=
  if (y == 0) = true then none else (math_bits_Div64_j5 hi lo y ())
noncomputable def wide_size_divide (s : WideSize) (n : Int) : Option (WideSize × Int) :=
  if n ≠ 0 then ((math_bits_Div64 (s.hi.tmod n) s.lo n).bind fun r => if n ≠ 0 then (some ((⟨(IntKind.wrap .u64 (s.hi.tdiv n)), r.1⟩ : WideSize), r.2)) else none) else none
noncomputable def wide_Div_j0 (a : ApiWide) (s : (Int × Int × Int)) : Option (ApiWide × Int × Int) :=
  (wide_size_signed (⟨s.2.1, s.2.2⟩ : WideSize) (bif (decide (a.Hi < 0)) then (!((s.2.1 == 0) && ((s.2.2 == 0) && true))) else false)).bind fun r3 => some (r3.1, (IntKind.wrap .i64 s.1), 0)
noncomputable def wide_Div (a : ApiWide) (n : Int) : Option (ApiWide × Int × Int) :=
  if (decide (n < 1)) = true then (some ((⟨0, 0⟩ : ApiWide), 0, 1)) else ((wide_absolute a).bind fun r => (wide_size_divide r (IntKind.wrap .u64 n)).bind fun r1 => if (bif (decide (a.Hi < 0)) then (decide (r1.2 > 0)) else false) = true then ((wide_size_times r1.1 1 1).bind fun r2 => wide_Div_j0 a ((IntKind.wrap .u64 ((IntKind.wrap .u64 n) - r1.2)), r2.1.hi, r2.1.lo)) else (wide_Div_j0 a (r1.2, r1.1.hi, r1.1.lo)))
noncomputable def rounding_more (q : ApiWide) (rest : Int) (n : Int) (mode : Int) : Option Int :=
  if (decide (mode < 5)) = true then (if (decide (q.Hi < 0)) = true then (if (0 : Int) ≤ mode ∧ mode < ((5 : Nat) : Int) then (getI ([(⟨0, 0⟩ : RoundingStep), (⟨1, 0⟩ : RoundingStep), (⟨0, 1⟩ : RoundingStep), (⟨0, 0⟩ : RoundingStep), (⟨1, 1⟩ : RoundingStep)] : List RoundingStep) mode).bind fun a => some a.negative else none) else (if (0 : Int) ≤ mode ∧ mode < ((5 : Nat) : Int) then (getI ([(⟨0, 0⟩ : RoundingStep), (⟨1, 0⟩ : RoundingStep), (⟨0, 1⟩ : RoundingStep), (⟨0, 0⟩ : RoundingStep), (⟨1, 1⟩ : RoundingStep)] : List RoundingStep) mode).bind fun a1 => some a1.positive else none)) else (if (decide (rest > (IntKind.wrap .i64 (n - rest)))) = true then (some 1) else (if (decide (rest < (IntKind.wrap .i64 (n - rest)))) = true then (some 0) else (if (mode == 6) = true then (some (IntKind.wrap .i64 (bitsI .and .u64 q.Lo 1))) else (if (decide (q.Hi < 0)) = true then (some 0) else (some 1)))))
noncomputable def wide_Of (n : Int) : Option ApiWide :=
  some (⟨(n.fdiv (2 ^ 63)), (IntKind.wrap .u64 n)⟩ : ApiWide)
noncomputable def wide_Int (a : ApiWide) : Option (Int × Bool) :=
  (wide_Of (IntKind.wrap .i64 a.Lo)).bind fun r => if (!((r.Hi == a.Hi) && ((r.Lo == a.Lo) && true))) = true then (some (0, false)) else (some ((IntKind.wrap .i64 a.Lo), true))
noncomputable def rounding_Divide_j0 (s : (Int × Int)) : Option (Int × Int) :=
  (wide_Int (⟨s.1, s.2⟩ : ApiWide)).bind fun r5 => if (!r5.2) = true then (some (0, 6)) else (some (r5.1, 0))
noncomputable def rounding_Divide (a : ApiWide) (n : Int) (mode : Int) : Option (Int × Int) :=
  (if (((decide (n < 1)) == false) && true) = true then rounding_Valid mode else some default).bind fun r => if (bif (decide (n < 1)) then true else (!r)) = true then (some (0, 1)) else ((wide_Div a n).bind fun r1 => if (decide (r1.2.1 > 0)) = true then ((rounding_more r1.1 r1.2.1 n mode).bind fun r2 => (wide_Of r2).bind fun r3 => (wide_Add r1.1 r3).bind fun r4 => rounding_Divide_j0 (r4.1.Hi, r4.1.Lo)) else (rounding_Divide_j0 (r1.1.Hi, r1.1.Lo)))
noncomputable def rounding_valid (amount : Int) : Option Bool :=
  some (bif (decide (amount ≥ (-1000000000000))) then (decide (amount ≤ 1000000000000)) else false)
noncomputable def wide_Sub (a : ApiWide) (b : ApiWide) : Option (ApiWide × Int) :=
  (bitsSub64 a.Lo b.Lo 0).bind fun r => if (bif (!((decide (a.Hi < 0)) == (decide (b.Hi < 0)))) then (!((decide ((IntKind.wrap .i64 ((IntKind.wrap .i64 (a.Hi - b.Hi)) - (IntKind.wrap .i64 r.2))) < 0)) == (decide (a.Hi < 0)))) else false) = true then (some ((⟨0, 0⟩ : ApiWide), 6)) else (some ((⟨(IntKind.wrap .i64 ((IntKind.wrap .i64 (a.Hi - b.Hi)) - (IntKind.wrap .i64 r.2))), r.1⟩ : ApiWide), 0))
noncomputable def rounding_Amount (grains : ApiWide) (mode : Int) : Option (Int × ApiWide × Int) :=
  (rounding_Divide grains 1603080000000 mode).bind fun r => if (r.2 != 0) = true then (some (0, (⟨0, 0⟩ : ApiWide), r.2)) else ((rounding_valid r.1).bind fun r1 => if (!r1) = true then (some (0, (⟨0, 0⟩ : ApiWide), 6)) else ((wide_Mul r.1 1603080000000).bind fun r2 => (wide_Sub grains r2).bind fun r3 => some (r.1, r3.1, 0)))
noncomputable def settle_settled_j0 (s3 : (Int × Int × Int)) (s4 : (Int × Int)) : Option (Int × ApiWide × Int) :=
  some (s3.1, (⟨s4.1, s4.2⟩ : ApiWide), 0)
noncomputable def settle_settled_j1 (x : ApiInterest) (s3 : (Int × Int × Int)) : Option (Int × ApiWide × Int) :=
  if (!x.Keep) = true then (settle_settled_j0 s3 (0, 0)) else (settle_settled_j0 s3 (s3.2.1, s3.2.2))
noncomputable def settle_settled_j2 (x : ApiInterest) (s : (Int × Int)) : Option (Int × ApiWide × Int) :=
  (wide_Cmp (⟨s.1, s.2⟩ : ApiWide) (⟨0, 0⟩ : ApiWide)).bind fun r1 => if (decide (r1 ≥ 0)) = true then ((rounding_Amount (⟨s.1, s.2⟩ : ApiWide) x.Mode).bind fun r2 => if (r2.2.2 != 0) = true then (some (0, (⟨0, 0⟩ : ApiWide), r2.2.2)) else (settle_settled_j1 x (r2.1, r2.2.1.Hi, r2.2.1.Lo))) else (settle_settled_j1 x (0, s.1, s.2))
noncomputable def settle_settled (x : ApiInterest) (grains : ApiWide) (rest : ApiWide) : Option (Int × ApiWide × Int) :=
  if x.Keep = true then ((wide_Add grains rest).bind fun r => if (r.2 != 0) = true then (some (0, (⟨0, 0⟩ : ApiWide), r.2)) else (settle_settled_j2 x (r.1.Hi, r.1.Lo))) else (settle_settled_j2 x (grains.Hi, grains.Lo))
noncomputable def rounding_Percent (amount : Int) (ppm : Int) (mode : Int) : Option (Int × Int) :=
  (rounding_valid amount).bind fun r => (if (((bif (bif (!r) then true else (decide (ppm < 0))) then true else (decide (ppm > 1000000))) == false) && true) = true then rounding_Valid mode else some default).bind fun r1 => if (bif (bif (bif (!r) then true else (decide (ppm < 0))) then true else (decide (ppm > 1000000))) then true else (!r1)) = true then (some (0, 1)) else ((wide_Mul amount ppm).bind fun r2 => (rounding_Divide r2 1000000 mode).bind fun r3 => some (r3.1, r3.2))
noncomputable def settle_Period (b : ApiBooks) (l : (List ApiPeriod)) (id : Int) (to' : Int) : Option (ApiPeriod × Int) :=
  (account_Find b id).bind fun r => if (!r.2) = true then (some ((⟨0, 0, 0, 0, 0, 0, 0, (⟨0, 0⟩ : ApiWide), (⟨0, 0⟩ : ApiWide)⟩ : ApiPeriod), 11)) else ((settle_first l r.1).bind fun r1 => (date_Valid to').bind fun r2 => (if (((!r2) == false) && true) = true then date_Valid r1 else some default).bind fun r3 => if (bif (bif (!r2) then true else (!r3)) then true else (decide (r1 > to'))) = true then (some ((⟨0, 0, 0, 0, 0, 0, 0, (⟨0, 0⟩ : ApiWide), (⟨0, 0⟩ : ApiWide)⟩ : ApiPeriod), 1)) else ((accrue_Series b id r1 to').bind fun r4 => if (r4.2 != 0) = true then (some ((⟨0, 0, 0, 0, 0, 0, 0, (⟨0, 0⟩ : ApiWide), (⟨0, 0⟩ : ApiWide)⟩ : ApiPeriod), r4.2)) else ((account_Product b id to').bind fun r5 => if (!r5.2) = true then (some ((⟨0, 0, 0, 0, 0, 0, 0, (⟨0, 0⟩ : ApiWide), (⟨0, 0⟩ : ApiWide)⟩ : ApiPeriod), 11)) else ((accrue_Total r4.1).bind fun r6 => if (r6.2.2 != 0) = true then (some ((⟨0, 0, 0, 0, 0, 0, 0, (⟨0, 0⟩ : ApiWide), (⟨0, 0⟩ : ApiWide)⟩ : ApiPeriod), r6.2.2)) else ((settle_Last l id).bind fun r7 => (settle_settled r5.1.Credit r6.1 r7.1.CreditRest).bind fun r8 => if (r8.2.2 != 0) = true then (some ((⟨0, 0, 0, 0, 0, 0, 0, (⟨0, 0⟩ : ApiWide), (⟨0, 0⟩ : ApiWide)⟩ : ApiPeriod), r8.2.2)) else ((settle_settled r5.1.Debit r6.2.1 r7.1.DebitRest).bind fun r9 => if (r9.2.2 != 0) = true then (some ((⟨0, 0, 0, 0, 0, 0, 0, (⟨0, 0⟩ : ApiWide), (⟨0, 0⟩ : ApiWide)⟩ : ApiPeriod), r9.2.2)) else ((rounding_Percent r8.1 r5.1.TaxPpm 1).bind fun r10 => if (r10.2 != 0) = true then (some ((⟨0, 0, 0, 0, 0, 0, 0, (⟨0, 0⟩ : ApiWide), (⟨0, 0⟩ : ApiWide)⟩ : ApiPeriod), r10.2)) else (some ((⟨id, r1, to', r8.1, r9.1, r10.1, 0, r8.2.1, r9.2.1⟩ : ApiPeriod), 0)))))))))
noncomputable def backdate_computed (b : ApiBooks) (l : (List ApiPeriod)) (i : Int) : Option (ApiPeriod × Int) :=
  if (0 : Int) ≤ 0 ∧ 0 ≤ i ∧ i ≤ i ∧ i ≤ (l.length : Int) then ((getI l i).bind fun li => (getI l i).bind fun li1 => (settle_Period b (subl l 0 i) li.Account li1.To).bind fun r => some (r.1, r.2)) else none
noncomputable def backdate_fits (b : ApiBooks) (l : (List ApiPeriod)) (i : Int) : Option Bool :=
  (backdate_computed b l i).bind fun r => (getI l i).bind fun li => (if (((r.2 == 0) == true) && true) = true then getI l i else some default).bind fun li1 => some (bif (r.2 == 0) then ((r.1.Account == li1.Account) && ((r.1.From == li1.From) && ((r.1.To == li1.To) && ((r.1.Credit == li1.Credit) && ((r.1.Debit == li1.Debit) && ((r.1.Tax == li1.Tax) && ((li.Count == li1.Count) && (((r.1.CreditRest.Hi == li1.CreditRest.Hi) && ((r.1.CreditRest.Lo == li1.CreditRest.Lo) && true)) && (((r.1.DebitRest.Hi == li1.DebitRest.Hi) && ((r.1.DebitRest.Lo == li1.DebitRest.Lo) && true)) && true))))))))) else false)
noncomputable def backdate_Clean_l1 (b : ApiBooks) (l : (List ApiPeriod)) (id : Int) (s : Int) : Option (Int ⊕ Bool) :=
  if (decide (s < ((List.map ApiPeriod.enc l).length : Int))) = true then ((getI l s).bind fun li => (if (((li.Account == id) == true) && true) = true then backdate_fits b l s else some default).bind fun r1 => if (bif (li.Account == id) then (!r1) else false) = true then (some (Sum.inr false)) else (some (Sum.inl (IntKind.wrap .i64 (s + 1))))) else (some (Sum.inr true))
noncomputable def backdate_Clean (b : ApiBooks) (l : (List ApiPeriod)) (id : Int) : Option Bool :=
  (account_Find b id).bind fun r => if (!r.2) = true then (some false) else (Iter (backdate_Clean_l1 b l id) 0)
noncomputable def l30_Lives : Option Bool :=
  (backdate_Events ([(⟨0, 0, 0, 1, 0, 0, (bs [97]), (bs []), [], 0⟩ : ApiEntry), (⟨0, 0, 0, 4, 0, 0, (bs [98]), (bs []), [], 0⟩ : ApiEntry), (⟨0, 0, 0, 5, 0, 0, (bs [99]), (bs []), [], 0⟩ : ApiEntry), (⟨0, 0, 0, 6, 0, 0, (bs [100]), (bs []), [], 0⟩ : ApiEntry)])).bind fun r => (backdate_Affected ([(⟨1000, 0, 5, 0, 0, 0, 0, (⟨0, 0⟩ : ApiWide), (⟨0, 0⟩ : ApiWide)⟩ : ApiPeriod), (⟨1001, 0, 9, 0, 0, 0, 0, (⟨0, 0⟩ : ApiWide), (⟨0, 0⟩ : ApiWide)⟩ : ApiPeriod), (⟨1000, 0, 9, 0, 0, 0, 0, (⟨0, 0⟩ : ApiWide), (⟨0, 0⟩ : ApiWide)⟩ : ApiPeriod)]) 1000 6).bind fun r1 => (if (((((List.map ApiEntry.enc r).length : Int) == 2) == true) && true) = true then getI r 0 else some default).bind fun o => (if (((((List.map ApiEntry.enc r).length : Int) == 2) == true) && true) = true then r[(0 : Int).toNat]? else some default).bind fun x => (if (((bif (((List.map ApiEntry.enc r).length : Int) == 2) then (x.Key.toList == (bs [97]).toList) else false) == true) && true) = true then getI r 1 else some default).bind fun o2 => (if (((bif (((List.map ApiEntry.enc r).length : Int) == 2) then (x.Key.toList == (bs [97]).toList) else false) == true) && true) = true then r[(1 : Int).toNat]? else some default).bind fun x3 => (if (((bif (bif (bif (((List.map ApiEntry.enc r).length : Int) == 2) then (x.Key.toList == (bs [97]).toList) else false) then (x3.Key.toList == (bs [100]).toList) else false) then (((List.map (eInt .i64) r1).length : Int) == 1) else false) == true) && true) = true then getI r1 0 else some default).bind fun o4 => (if (((bif (bif (bif (((List.map ApiEntry.enc r).length : Int) == 2) then (x.Key.toList == (bs [97]).toList) else false) then (x3.Key.toList == (bs [100]).toList) else false) then (((List.map (eInt .i64) r1).length : Int) == 1) else false) == true) && true) = true then r1[(0 : Int).toNat]? else some default).bind fun x5 => (if (((bif (bif (bif (bif (((List.map ApiEntry.enc r).length : Int) == 2) then (x.Key.toList == (bs [97]).toList) else false) then (x3.Key.toList == (bs [100]).toList) else false) then (((List.map (eInt .i64) r1).length : Int) == 1) else false) then (x5 == 2) else false) == true) && true) = true then backdate_Clean (⟨[], [], [], (⟨0, 0, 0, 0, 0, 0, 0, 0, 0, 0, 0, 0, 0, 0⟩ : ApiPlan), [], [], [], [], []⟩ : ApiBooks) ([]) 1000 else some default).bind fun r6 => some (bif (bif (bif (bif (bif (((List.map ApiEntry.enc r).length : Int) == 2) then (x.Key.toList == (bs [97]).toList) else false) then (x3.Key.toList == (bs [100]).toList) else false) then (((List.map (eInt .i64) r1).length : Int) == 1) else false) then (x5 == 2) else false) then (!r6) else false)
noncomputable def q29_Last_l1 (l : (List ApiPeriod)) (id : Int) (s : Int) : Option (Int ⊕ (ApiPeriod × Bool)) :=
  if (decide (s ≥ 0)) = true then ((getI l s).bind fun li => if (li.Account == id) = true then ((getI l s).bind fun li1 => some (Sum.inr (li1, true))) else (some (Sum.inl (IntKind.wrap .i64 (s - 1))))) else (some (Sum.inr ((⟨0, 0, 0, 0, 0, 0, 0, (⟨0, 0⟩ : ApiWide), (⟨0, 0⟩ : ApiWide)⟩ : ApiPeriod), false)))
noncomputable def q29_Last (l : (List ApiPeriod)) (id : Int) : Option (ApiPeriod × Bool) :=
  Iter (q29_Last_l1 l id) (IntKind.wrap .i64 (((List.map ApiPeriod.enc l).length : Int) - 1))
noncomputable def q29_First (b : ApiBooks) (l : (List ApiPeriod)) (id : Int) : Option Int :=
  (q29_Last l id).bind fun r => if (!r.2) = true then ((q24_Find b id).bind fun r1 => some r1.1.Opened) else (if (decide (r.1.To > 73048)) = true then (some 73050) else (some (IntKind.wrap .i64 (r.1.To + 1))))
noncomputable def q21_moved_j0 (s : (Int × Int)) (s2 : Int) : Option ((Int × Int) ⊕ Int) :=
  some (Sum.inl (s2, (IntKind.wrap .i64 (s.2 + 1))))
noncomputable def q21_moved_l1 (e : ApiEntry) (account : Int) (s : (Int × Int)) : Option ((Int × Int) ⊕ Int) :=
  if (decide (s.2 < ((List.map ApiLeg.enc e.Legs).length : Int))) = true then ((getI e.Legs s.2).bind fun leg => if (leg.Account == account) = true then ((getI e.Legs s.2).bind fun leg1 => q21_moved_j0 s (IntKind.wrap .i64 (s.1 - leg1.Amount))) else (q21_moved_j0 s s.1)) else (some (Sum.inr s.1))
noncomputable def q21_moved (e : ApiEntry) (account : Int) : Option Int :=
  Iter (q21_moved_l1 e account) (0, 0)
noncomputable def q21_At_j0 (s : (Int × Int)) (s3 : Int) : Option ((Int × Int) ⊕ Int) :=
  some (Sum.inl (s3, (IntKind.wrap .i64 (s.2 + 1))))
noncomputable def q21_At_l1 (j : (List ApiEntry)) (account : Int) (booked : Int) (value : Int) (s : (Int × Int)) : Option ((Int × Int) ⊕ Int) :=
  if (decide (s.2 < ((List.map ApiEntry.enc j).length : Int))) = true then ((getI j s.2).bind fun ji => (if (((decide (ji.Booked ≤ booked)) == true) && true) = true then getI j s.2 else some default).bind fun ji1 => if (bif (decide (ji.Booked ≤ booked)) then (decide (ji1.Value ≤ value)) else false) = true then ((getI j s.2).bind fun ji2 => (q21_moved ji2 account).bind fun r => q21_At_j0 s (IntKind.wrap .i64 (s.1 + r))) else (q21_At_j0 s s.1)) else (some (Sum.inr s.1))
noncomputable def q21_At (j : (List ApiEntry)) (account : Int) (booked : Int) (value : Int) : Option Int :=
  Iter (q21_At_l1 j account booked value) (0, 0)
noncomputable def q24_Product (b : ApiBooks) (id : Int) (day : Int) : Option (ApiProduct × Bool) :=
  (q24_Find b id).bind fun r => if (!r.2) = true then (some ((⟨(bs []), (bs []), (bs []), 0, 0, 0, 0, (⟨[], false, 0, 0, false⟩ : ApiInterest), (⟨[], false, 0, 0, false⟩ : ApiInterest), [], []⟩ : ApiProduct), false)) else ((q17_At b.Products r.1.Product day).bind fun r1 => some (r1.1, r1.2))
noncomputable def q15_Side (p : ApiProduct) (balance : Int) : Option ApiInterest :=
  if (decide (balance < 0)) = true then (some p.Debit) else (some p.Credit)
noncomputable def q14_Size (balance : Int) : Option Int :=
  if (balance == (-9223372036854775808)) = true then (some 9223372036854775807) else (if (decide (balance < 0)) = true then (some (IntKind.wrap .i64 (0 - balance))) else (some balance))
noncomputable def q14_Rate_j0 (s : (Int × Int)) (s3 : Int) : Option ((Int × Int) ⊕ Int) :=
  some (Sum.inl (s3, (IntKind.wrap .i64 (s.2 + 1))))
noncomputable def q14_Rate_l1 (l : (List ApiTier)) (balance : Int) (s : (Int × Int)) : Option ((Int × Int) ⊕ Int) :=
  if (decide (s.2 < ((List.map ApiTier.enc l).length : Int))) = true then ((getI l s.2).bind fun li => (q14_Size balance).bind fun r1 => if (decide (li.From ≤ r1)) = true then ((getI l s.2).bind fun li2 => q14_Rate_j0 s li2.Ppm) else (q14_Rate_j0 s s.1)) else (some (Sum.inr s.1))
noncomputable def q14_Rate (l : (List ApiTier)) (balance : Int) : Option Int :=
  (q14_Check l).bind fun r => if (r != 0) = true then (some 0) else (Iter (q14_Rate_l1 l balance) (0, 0))
noncomputable def q14_Slices_j0 (s : (Int × (List ApiSlice))) (s8 : (List ApiSlice)) : Option ((Int × (List ApiSlice)) ⊕ (List ApiSlice)) :=
  some (Sum.inl ((IntKind.wrap .i64 (s.1 + 1)), s8))
noncomputable def q14_Slices_j1 (l : (List ApiTier)) (s : (Int × (List ApiSlice))) (s4 : Int) : Option ((Int × (List ApiSlice)) ⊕ (List ApiSlice)) :=
  (getI l s.1).bind fun li5 => if (decide (s4 > li5.From)) = true then ((getI l s.1).bind fun li6 => (getI l s.1).bind fun li7 => if (s.2.length + ([(⟨(IntKind.wrap .i64 (s4 - li6.From)), li7.Ppm⟩ : ApiSlice)] : List ApiSlice).length) * 16 ≤ 140737488355328 then (q14_Slices_j0 s (s.2 ++ ([(⟨(IntKind.wrap .i64 (s4 - li6.From)), li7.Ppm⟩ : ApiSlice)]))) else none) else (q14_Slices_j0 s s.2)
noncomputable def q14_Slices_l1 (l : (List ApiTier)) (r : Int) (s : (Int × (List ApiSlice))) : Option ((Int × (List ApiSlice)) ⊕ (List ApiSlice)) :=
  if (decide (s.1 < ((List.map ApiTier.enc l).length : Int))) = true then ((if (((decide ((IntKind.wrap .i64 (s.1 + 1)) < ((List.map ApiTier.enc l).length : Int))) == true) && true) = true then getI l (IntKind.wrap .i64 (s.1 + 1)) else some default).bind fun li => if (bif (decide ((IntKind.wrap .i64 (s.1 + 1)) < ((List.map ApiTier.enc l).length : Int))) then (decide (li.From < r)) else false) = true then ((getI l (IntKind.wrap .i64 (s.1 + 1))).bind fun li3 => q14_Slices_j1 l s li3.From) else (q14_Slices_j1 l s r)) else (some (Sum.inr s.2))
noncomputable def q14_Slices (l : (List ApiTier)) (marginal : Bool) (balance : Int) : Option (List ApiSlice) :=
  (q14_Size balance).bind fun r => (q14_Check l).bind fun r1 => if (bif (bif (r1 != 0) then true else (((List.map ApiTier.enc l).length : Int) == 0)) then true else (r == 0)) = true then (some ([])) else (if (!marginal) = true then ((q14_Rate l balance).bind fun r2 => some ([(⟨r, r2⟩ : ApiSlice)])) else (Iter (q14_Slices_l1 l r) (0, [])))
noncomputable def q04_Leap (year : Int) : Option Bool :=
  some (bif ((year.tmod 4) == 0) then (bif ((year.tmod 100) != 0) then true else ((year.tmod 400) == 0)) else false)
noncomputable def q04_yearLength (year : Int) : Option Int :=
  (q04_Leap year).bind fun r => if r = true then (some 366) else (some 365)
noncomputable def q04_Length_j0 (year : Int) (month : Int) (s1 : Bool) : Option Int :=
  if s1 = true then (some 30) else (if (month == 2) = true then ((q04_Leap year).bind fun r => if r = true then (some 29) else (some 28)) else (some 0))
noncomputable def q04_Length_j1 (year : Int) (month : Int) (s : Bool) : Option Int :=
  if s = true then (some 31) else (if (month == 4) = true then (q04_Length_j0 year month (month == 4)) else (if (month == 6) = true then (q04_Length_j0 year month (month == 6)) else (if (month == 9) = true then (q04_Length_j0 year month (month == 9)) else (q04_Length_j0 year month (month == 11)))))
noncomputable def q04_Length (year : Int) (month : Int) : Option Int :=
  if (month == 1) = true then (q04_Length_j1 year month (month == 1)) else (if (month == 3) = true then (q04_Length_j1 year month (month == 3)) else (if (month == 5) = true then (q04_Length_j1 year month (month == 5)) else (if (month == 7) = true then (q04_Length_j1 year month (month == 7)) else (if (month == 8) = true then (q04_Length_j1 year month (month == 8)) else (if (month == 10) = true then (q04_Length_j1 year month (month == 10)) else (q04_Length_j1 year month (month == 12)))))))
noncomputable def q04_Civil_l2 (s : (Int × Int)) (s3 : (Int × Int)) : Option ((Int × Int) ⊕ (Int × Int × Int)) :=
  (q04_Length s.2 s3.2).bind fun r4 => if (decide (s3.1 ≥ r4)) = true then ((q04_Length s.2 s3.2).bind fun r5 => some (Sum.inl ((IntKind.wrap .i64 (s3.1 - r5)), (IntKind.wrap .i64 (s3.2 + 1))))) else (some (Sum.inr (s.2, s3.2, (IntKind.wrap .i64 (s3.1 + 1)))))
noncomputable def q04_Civil_l1 (s : (Int × Int)) : Option ((Int × Int) ⊕ (Int × Int × Int)) :=
  (q04_yearLength s.2).bind fun r1 => if (decide (s.1 ≥ r1)) = true then ((q04_yearLength s.2).bind fun r2 => some (Sum.inl ((IntKind.wrap .i64 (s.1 - r2)), (IntKind.wrap .i64 (s.2 + 1))))) else ((Iter (q04_Civil_l2 s) (s.1, 1)).map .inr)
noncomputable def q04_Civil (day : Int) : Option (Int × Int × Int) :=
  (q04_Valid day).bind fun r => if (!r) = true then (some (0, 0, 0)) else (Iter q04_Civil_l1 (day, 2000))
noncomputable def q06_Thirty (from' : Int) (to' : Int) : Option Int :=
  (q04_Valid from').bind fun r => (if (((!r) == false) && true) = true then q04_Valid to' else some default).bind fun r1 => if (bif (!r) then true else (!r1)) = true then (some 0) else ((q04_Civil from').bind fun r2 => (q04_Civil to').bind fun r3 => some (IntKind.wrap .i64 ((IntKind.wrap .i64 ((IntKind.wrap .i64 ((IntKind.wrap .i64 (360 * (IntKind.wrap .i64 (r3.1 - r2.1)))) + (IntKind.wrap .i64 (30 * (IntKind.wrap .i64 (r3.2.1 - r2.2.1)))))) + (if 30 < r3.2.2 then 30 else r3.2.2))) - (if 30 < r2.2.2 then 30 else r2.2.2))))
noncomputable def q06_Weight (basis : Int) (day : Int) : Option Int :=
  (q04_Valid day).bind fun r => if (!r) = true then (some 0) else (if (basis == 1) = true then (some 4453) else (if (basis == 2) = true then (some 4392) else (if (basis == 3) = true then ((q04_Civil day).bind fun r1 => (q04_Leap r1.1).bind fun r2 => if r2 = true then (some 4380) else (some 4392)) else (if (basis == 4) = true then ((q06_Thirty day (IntKind.wrap .i64 (day + 1))).bind fun r3 => some (IntKind.wrap .i64 (4453 * r3))) else (some 0)))))
noncomputable def q01_Of (n : Int) : Option ApiWide :=
  if (decide (n < 0)) = true then (some (⟨(-1), (IntKind.wrap .u64 n)⟩ : ApiWide)) else (some (⟨0, (IntKind.wrap .u64 n)⟩ : ApiWide))
noncomputable def q01_Split_j0 (a : ApiWide) (s : Int) : Option (Bool × Corebankref01Mag) :=
  some (true, (⟨s, (IntKind.wrap .u64 ((bitsI .xor .u64 18446744073709551615 a.Lo) + 1))⟩ : Corebankref01Mag))
noncomputable def q01_Split (a : ApiWide) : Option (Bool × Corebankref01Mag) :=
  if (decide (a.Hi ≥ 0)) = true then (some (false, (⟨(IntKind.wrap .u64 a.Hi), a.Lo⟩ : Corebankref01Mag))) else (if ((IntKind.wrap .u64 ((bitsI .xor .u64 18446744073709551615 a.Lo) + 1)) == 0) = true then (q01_Split_j0 a (IntKind.wrap .u64 ((bitsI .xor .u64 18446744073709551615 (IntKind.wrap .u64 a.Hi)) + 1))) else (q01_Split_j0 a (bitsI .xor .u64 18446744073709551615 (IntKind.wrap .u64 a.Hi))))
noncomputable def q01_size (n : Int) : Option Int :=
  if (decide (n < 0)) = true then (some (IntKind.wrap .u64 ((bitsI .xor .u64 18446744073709551615 (IntKind.wrap .u64 n)) + 1))) else (some (IntKind.wrap .u64 n))
noncomputable def q01_plus_j0 (a : Corebankref01Mag) (b : Corebankref01Mag) (s : Int) : Option (Corebankref01Mag × Bool) :=
  some ((⟨(IntKind.wrap .u64 ((IntKind.wrap .u64 (a.H + b.H)) + s)), (IntKind.wrap .u64 (a.L + b.L))⟩ : Corebankref01Mag), (bif (decide ((IntKind.wrap .u64 (a.H + b.H)) ≥ a.H)) then (decide ((IntKind.wrap .u64 ((IntKind.wrap .u64 (a.H + b.H)) + s)) ≥ s)) else false))
noncomputable def q01_plus (a : Corebankref01Mag) (b : Corebankref01Mag) : Option (Corebankref01Mag × Bool) :=
  if (decide ((IntKind.wrap .u64 (a.L + b.L)) < a.L)) = true then (q01_plus_j0 a b 1) else (q01_plus_j0 a b 0)
noncomputable def q01_times_j0 (s : (Int × Bool × Int × Int × Int)) (s2 : (Bool × Int × Int)) : Option ((Int × Bool × Int × Int × Int) ⊕ (Corebankref01Mag × Bool)) :=
  some (Sum.inl ((IntKind.wrap .u64 (s.1 * 2 ^ 1)), s2.1, (IntKind.wrap .i64 (s.2.2.1 + 1)), s2.2.1, s2.2.2))
noncomputable def q01_times_l1 (m : Corebankref01Mag) (s : (Int × Bool × Int × Int × Int)) : Option ((Int × Bool × Int × Int × Int) ⊕ (Corebankref01Mag × Bool)) :=
  if (decide (s.2.2.1 < 64)) = true then ((q01_plus (⟨s.2.2.2.1, s.2.2.2.2⟩ : Corebankref01Mag) (⟨s.2.2.2.1, s.2.2.2.2⟩ : Corebankref01Mag)).bind fun r => if ((bitsI .and .u64 s.1 9223372036854775808) != 0) = true then ((q01_plus r.1 m).bind fun r1 => q01_times_j0 s ((bif (bif s.2.1 then r.2 else false) then r1.2 else false), r1.1.H, r1.1.L)) else (q01_times_j0 s ((bif s.2.1 then r.2 else false), r.1.H, r.1.L))) else (some (Sum.inr ((⟨s.2.2.2.1, s.2.2.2.2⟩ : Corebankref01Mag), s.2.1)))
noncomputable def q01_times (m : Corebankref01Mag) (n : Int) : Option (Corebankref01Mag × Bool) :=
  Iter (q01_times_l1 m) (n, true, 0, 0, 0)
noncomputable def q01_Join_j0 (m : Corebankref01Mag) (s : Int) : Option (ApiWide × Bool) :=
  some ((⟨(IntKind.wrap .i64 s), (IntKind.wrap .u64 ((bitsI .xor .u64 18446744073709551615 m.L) + 1))⟩ : ApiWide), (bif (decide (m.H < 9223372036854775808)) then true else (bif (m.H == 9223372036854775808) then (m.L == 0) else false)))
noncomputable def q01_Join (negative : Bool) (m : Corebankref01Mag) : Option (ApiWide × Bool) :=
  if (!negative) = true then (some ((⟨(IntKind.wrap .i64 m.H), m.L⟩ : ApiWide), (decide (m.H < 9223372036854775808)))) else (if ((IntKind.wrap .u64 ((bitsI .xor .u64 18446744073709551615 m.L) + 1)) == 0) = true then (q01_Join_j0 m (IntKind.wrap .u64 ((bitsI .xor .u64 18446744073709551615 m.H) + 1))) else (q01_Join_j0 m (bitsI .xor .u64 18446744073709551615 m.H)))
noncomputable def q01_Scale (a : ApiWide) (n : Int) : Option (ApiWide × Int) :=
  (q01_Split a).bind fun r => (q01_size n).bind fun r1 => (q01_times r.2 r1).bind fun r2 => (q01_Join (!(r.1 == (decide (n < 0)))) r2.1).bind fun r3 => if (bif (!r2.2) then true else (!r3.2)) = true then (some ((⟨0, 0⟩ : ApiWide), 6)) else (some (r3.1, 0))
noncomputable def q01_Mul (a : Int) (b : Int) : Option ApiWide :=
  (q01_Of a).bind fun r => (q01_Scale r b).bind fun r1 => some r1.1
noncomputable def q01_Less (a : Corebankref01Mag) (b : Corebankref01Mag) : Option Bool :=
  some (bif (decide (a.H < b.H)) then true else (bif (a.H == b.H) then (decide (a.L < b.L)) else false))
noncomputable def q01_minus_j0 (a : Corebankref01Mag) (b : Corebankref01Mag) (s : Int) : Option Corebankref01Mag :=
  some (⟨s, (IntKind.wrap .u64 (a.L - b.L))⟩ : Corebankref01Mag)
noncomputable def q01_minus (a : Corebankref01Mag) (b : Corebankref01Mag) : Option Corebankref01Mag :=
  if (decide (a.L < b.L)) = true then (q01_minus_j0 a b (IntKind.wrap .u64 ((IntKind.wrap .u64 (a.H - b.H)) - 1))) else (q01_minus_j0 a b (IntKind.wrap .u64 (a.H - b.H)))
noncomputable def q01_sum_j0 (s : (Bool × Bool × Int × Int)) : Option (ApiWide × Int) :=
  (q01_Join s.1 (⟨s.2.2.1, s.2.2.2⟩ : Corebankref01Mag)).bind fun r1 => if (bif (!s.2.1) then true else (!r1.2)) = true then (some ((⟨0, 0⟩ : ApiWide), 6)) else (some (r1.1, 0))
noncomputable def q01_sum (an : Bool) (a : Corebankref01Mag) (bn : Bool) (b : Corebankref01Mag) : Option (ApiWide × Int) :=
  if (an == bn) = true then ((q01_plus a b).bind fun r => q01_sum_j0 (an, r.2, r.1.H, r.1.L)) else ((q01_Less a b).bind fun r2 => if r2 = true then ((q01_minus b a).bind fun r3 => q01_sum_j0 (bn, true, r3.H, r3.L)) else ((q01_minus a b).bind fun r4 => q01_sum_j0 (an, true, r4.H, r4.L)))
noncomputable def q01_Add (a : ApiWide) (b : ApiWide) : Option (ApiWide × Int) :=
  (q01_Split a).bind fun r => (q01_Split b).bind fun r1 => (q01_sum r.1 r.2 r1.1 r1.2).bind fun r2 => some (r2.1, r2.2)
noncomputable def q14_Grains_l2 (l : (List ApiSlice)) (weight : Int) (s3 : (Int × Int × Int)) : Option ((Int × Int × Int) ⊕ (ApiWide × Int)) :=
  if (decide (s3.1 < ((List.map ApiSlice.enc l).length : Int))) = true then ((getI l s3.1).bind fun li4 => (getI l s3.1).bind fun li5 => (q01_Mul li4.Amount li5.Ppm).bind fun r => (q01_Scale r weight).bind fun r6 => (q01_Add (⟨s3.2.1, s3.2.2⟩ : ApiWide) r6.1).bind fun r7 => some (Sum.inl ((IntKind.wrap .i64 (s3.1 + 1)), r7.1.Hi, r7.1.Lo))) else (some (Sum.inr ((⟨s3.2.1, s3.2.2⟩ : ApiWide), 0)))
noncomputable def q14_Grains_l1 (l : (List ApiSlice)) (weight : Int) (s : Int) : Option (Int ⊕ (ApiWide × Int)) :=
  if (decide (s < ((List.map ApiSlice.enc l).length : Int))) = true then ((getI l s).bind fun li => (if (((decide (li.Amount < 0)) == false) && true) = true then getI l s else some default).bind fun li1 => (if (((bif (decide (li.Amount < 0)) then true else (decide (li1.Ppm < 0))) == false) && true) = true then getI l s else some default).bind fun li2 => if (bif (bif (decide (li.Amount < 0)) then true else (decide (li1.Ppm < 0))) then true else (decide (li2.Ppm > 1000000))) = true then (some (Sum.inr ((⟨0, 0⟩ : ApiWide), 1))) else (some (Sum.inl (IntKind.wrap .i64 (s + 1))))) else ((if (bif (decide (weight < 0)) then true else (decide (weight > 6412320000))) = true then (some ((⟨0, 0⟩ : ApiWide), 1)) else (Iter (q14_Grains_l2 l weight) (0, 0, 0))).map .inr)
noncomputable def q14_Grains (l : (List ApiSlice)) (weight : Int) : Option (ApiWide × Int) :=
  if (decide (((List.map ApiSlice.enc l).length : Int) > 6)) = true then (some ((⟨0, 0⟩ : ApiWide), 5)) else (Iter (q14_Grains_l1 l weight) 0)
noncomputable def q27_Day_j0 (id : Int) (day : Int) (r3 : Int) (s : (Int × Int)) (s9 : (Int × Int)) : Option (ApiAccrual × Int) :=
  some ((⟨id, day, r3, (⟨s.1, s.2⟩ : ApiWide), (⟨s9.1, s9.2⟩ : ApiWide)⟩ : ApiAccrual), 0)
noncomputable def q27_Day_j1 (id : Int) (day : Int) (r3 : Int) (r8 : (ApiWide × Int)) (s : (Int × Int)) : Option (ApiAccrual × Int) :=
  if (decide (r3 < 0)) = true then (q27_Day_j0 id day r3 s (r8.1.Hi, r8.1.Lo)) else (q27_Day_j0 id day r3 s (0, 0))
noncomputable def q27_Day (b : ApiBooks) (id : Int) (day : Int) : Option (ApiAccrual × Int) :=
  (q24_Find b id).bind fun r => if (!r.2) = true then (some ((⟨0, 0, 0, (⟨0, 0⟩ : ApiWide), (⟨0, 0⟩ : ApiWide)⟩ : ApiAccrual), 11)) else ((q04_Valid day).bind fun r1 => if (!r1) = true then (some ((⟨0, 0, 0, (⟨0, 0⟩ : ApiWide), (⟨0, 0⟩ : ApiWide)⟩ : ApiAccrual), 1)) else ((q24_Active b id day).bind fun r2 => if (!r2) = true then (some ((⟨id, day, 0, (⟨0, 0⟩ : ApiWide), (⟨0, 0⟩ : ApiWide)⟩ : ApiAccrual), 0)) else ((q21_At b.Journal id 73048 day).bind fun r3 => (q24_Product b id day).bind fun r4 => if (!r4.2) = true then (some ((⟨id, day, r3, (⟨0, 0⟩ : ApiWide), (⟨0, 0⟩ : ApiWide)⟩ : ApiAccrual), 0)) else ((q15_Side r4.1 r3).bind fun r5 => (q14_Slices r5.Tiers r5.Marginal r3).bind fun r6 => (q06_Weight r5.Basis day).bind fun r7 => (q14_Grains r6 r7).bind fun r8 => if (decide (r3 > 0)) = true then (q27_Day_j1 id day r3 r8 (r8.1.Hi, r8.1.Lo)) else (q27_Day_j1 id day r3 r8 (0, 0))))))
noncomputable def q27_Series_l1 (b : ApiBooks) (id : Int) (to' : Int) (s : (Int × (List ApiAccrual))) : Option ((Int × (List ApiAccrual)) ⊕ ((List ApiAccrual) × Int)) :=
  if (decide (s.1 ≤ to')) = true then ((q27_Day b id s.1).bind fun r3 => if (s.2.length + ([r3.1] : List ApiAccrual).length) * 56 ≤ 140737488355328 then (some (Sum.inl ((IntKind.wrap .i64 (s.1 + 1)), (s.2 ++ ([r3.1]))))) else none) else (some (Sum.inr (s.2, 0)))
noncomputable def q27_Series (b : ApiBooks) (id : Int) (from' : Int) (to' : Int) : Option ((List ApiAccrual) × Int) :=
  (q24_Find b id).bind fun r => if (!r.2) = true then (some ([], 11)) else ((q04_Valid from').bind fun r1 => (if (((!r1) == false) && true) = true then q04_Valid to' else some default).bind fun r2 => if (bif (bif (bif (!r1) then true else (!r2)) then true else (decide (from' > to'))) then true else (decide ((IntKind.wrap .i64 (to' - from')) ≥ 4000))) = true then (some ([], 1)) else (Iter (q27_Series_l1 b id to') (from', [])))
noncomputable def q27_Total_l1 (l : (List ApiAccrual)) (s : (Int × Int × Int × Int × Int)) : Option ((Int × Int × Int × Int × Int) ⊕ (ApiWide × ApiWide × Int)) :=
  if (decide (s.1 < ((List.map ApiAccrual.enc l).length : Int))) = true then ((getI l s.1).bind fun li => (q01_Add (⟨s.2.1, s.2.2.1⟩ : ApiWide) li.Credit).bind fun r => (getI l s.1).bind fun li1 => (q01_Add (⟨s.2.2.2.1, s.2.2.2.2⟩ : ApiWide) li1.Debit).bind fun r2 => if (bif (r.2 != 0) then true else (r2.2 != 0)) = true then (some (Sum.inr ((⟨0, 0⟩ : ApiWide), (⟨0, 0⟩ : ApiWide), 6))) else (some (Sum.inl ((IntKind.wrap .i64 (s.1 + 1)), r.1.Hi, r.1.Lo, r2.1.Hi, r2.1.Lo)))) else (some (Sum.inr ((⟨s.2.1, s.2.2.1⟩ : ApiWide), (⟨s.2.2.2.1, s.2.2.2.2⟩ : ApiWide), 0)))
noncomputable def q27_Total (l : (List ApiAccrual)) : Option (ApiWide × ApiWide × Int) :=
  Iter (q27_Total_l1 l) (0, 0, 0, 0, 0)
noncomputable def q02_Valid (mode : Int) : Option Bool :=
  some (bif (decide (mode ≥ 1)) then (decide (mode ≤ 6)) else false)
noncomputable def q01_shifted (m : Corebankref01Mag) : Option (Corebankref01Mag × Bool) :=
  (q01_plus m m).bind fun r => some (r.1, r.2)
noncomputable def q01_Quotient_j0 (s : (Int × Int × Int × Int × Int × Int)) (r : (Corebankref01Mag × Bool)) (r2 : (Corebankref01Mag × Bool)) (s3 : (Int × Int)) : Option ((Int × Int × Int × Int × Int × Int) ⊕ (Corebankref01Mag × Int)) :=
  some (Sum.inl (s3.1, (IntKind.wrap .i64 (s.2.1 + 1)), r.1.H, r.1.L, r2.1.H, s3.2))
noncomputable def q01_Quotient_j1 (n : Int) (s : (Int × Int × Int × Int × Int × Int)) (s1 : Int) : Option ((Int × Int × Int × Int × Int × Int) ⊕ (Corebankref01Mag × Int)) :=
  (q01_shifted (⟨s.2.2.1, s.2.2.2.1⟩ : Corebankref01Mag)).bind fun r => (q01_shifted (⟨s.2.2.2.2.1, s.2.2.2.2.2⟩ : Corebankref01Mag)).bind fun r2 => if (decide (s1 ≥ n)) = true then (q01_Quotient_j0 s r r2 ((IntKind.wrap .u64 (s1 - n)), (IntKind.wrap .u64 (r2.1.L + 1)))) else (q01_Quotient_j0 s r r2 (s1, r2.1.L))
noncomputable def q01_Quotient_l1 (n : Int) (s : (Int × Int × Int × Int × Int × Int)) : Option ((Int × Int × Int × Int × Int × Int) ⊕ (Corebankref01Mag × Int)) :=
  if (decide (s.2.1 < 128)) = true then (if ((bitsI .and .u64 s.2.2.1 9223372036854775808) != 0) = true then (q01_Quotient_j1 n s (IntKind.wrap .u64 ((IntKind.wrap .u64 (s.1 * 2 ^ 1)) + 1))) else (q01_Quotient_j1 n s (IntKind.wrap .u64 (s.1 * 2 ^ 1)))) else (some (Sum.inr ((⟨s.2.2.2.2.1, s.2.2.2.2.2⟩ : Corebankref01Mag), s.1)))
noncomputable def q01_Quotient (m : Corebankref01Mag) (n : Int) : Option (Corebankref01Mag × Int) :=
  Iter (q01_Quotient_l1 n) (0, 0, m.H, m.L, 0, 0)
noncomputable def q01_Div_j0 (r : (Bool × Corebankref01Mag)) (s : (Int × Int × Int)) : Option (ApiWide × Int × Int) :=
  (q01_Join r.1 (⟨s.2.1, s.2.2⟩ : Corebankref01Mag)).bind fun r3 => some (r3.1, (IntKind.wrap .i64 s.1), 0)
noncomputable def q01_Div (a : ApiWide) (n : Int) : Option (ApiWide × Int × Int) :=
  if (decide (n < 1)) = true then (some ((⟨0, 0⟩ : ApiWide), 0, 1)) else ((q01_Split a).bind fun r => (q01_Quotient r.2 (IntKind.wrap .u64 n)).bind fun r1 => if (bif r.1 then (decide (r1.2 > 0)) else false) = true then ((q01_plus r1.1 (⟨0, 1⟩ : Corebankref01Mag)).bind fun r2 => q01_Div_j0 r ((IntKind.wrap .u64 ((IntKind.wrap .u64 n) - r1.2)), r2.1.H, r2.1.L)) else (q01_Div_j0 r (r1.2, r1.1.H, r1.1.L)))
noncomputable def q02_up (negative : Bool) (odd : Bool) (r_ : Int) (n : Int) (mode : Int) : Option Bool :=
  if (mode == 1) = true then (some negative) else (if (mode == 2) = true then (some (!negative)) else (if (mode == 3) = true then (some false) else (if (mode == 4) = true then (some true) else (if (r_ != (IntKind.wrap .i64 (n - r_))) = true then (some (decide (r_ > (IntKind.wrap .i64 (n - r_))))) else (if (mode == 5) = true then (some (!negative)) else (some odd))))))
noncomputable def q01_Int (a : ApiWide) : Option (Int × Bool) :=
  (q01_Of (IntKind.wrap .i64 a.Lo)).bind fun r => if ((r.Hi == a.Hi) && ((r.Lo == a.Lo) && true)) = true then (some ((IntKind.wrap .i64 a.Lo), true)) else (some (0, false))
noncomputable def q02_Divide_j0 (s : (Int × Int)) : Option (Int × Int) :=
  (q01_Int (⟨s.1, s.2⟩ : ApiWide)).bind fun r5 => if (!r5.2) = true then (some (0, 6)) else (some (r5.1, 0))
noncomputable def q02_Divide (a : ApiWide) (n : Int) (mode : Int) : Option (Int × Int) :=
  (if (((decide (n < 1)) == false) && true) = true then q02_Valid mode else some default).bind fun r => if (bif (decide (n < 1)) then true else (!r)) = true then (some (0, 1)) else ((q01_Div a n).bind fun r1 => (if (((decide (r1.2.1 > 0)) == true) && true) = true then q02_up (decide (a.Hi < 0)) ((r1.1.Lo.tmod 2) == 1) r1.2.1 n mode else some default).bind fun r2 => if (bif (decide (r1.2.1 > 0)) then r2 else false) = true then ((q01_Of 1).bind fun r3 => (q01_Add r1.1 r3).bind fun r4 => q02_Divide_j0 (r4.1.Hi, r4.1.Lo)) else (q02_Divide_j0 (r1.1.Hi, r1.1.Lo)))
noncomputable def q02_Good (amount : Int) : Option Bool :=
  some (bif (decide (amount ≥ (-1000000000000))) then (decide (amount ≤ 1000000000000)) else false)
noncomputable def q01_Sub (a : ApiWide) (b : ApiWide) : Option (ApiWide × Int) :=
  (q01_Split a).bind fun r => (q01_Split b).bind fun r1 => (q01_sum r.1 r.2 (!r1.1) r1.2).bind fun r2 => some (r2.1, r2.2)
noncomputable def q02_Amount (grains : ApiWide) (mode : Int) : Option (Int × ApiWide × Int) :=
  (q02_Divide grains 1603080000000 mode).bind fun r => if (r.2 != 0) = true then (some (0, (⟨0, 0⟩ : ApiWide), r.2)) else ((q02_Good r.1).bind fun r1 => if (!r1) = true then (some (0, (⟨0, 0⟩ : ApiWide), 6)) else ((q01_Mul r.1 1603080000000).bind fun r2 => (q01_Sub grains r2).bind fun r3 => some (r.1, r3.1, 0)))
noncomputable def q29_settled_j0 (x : ApiInterest) (s : (Int × Int)) : Option (Int × ApiWide × Int) :=
  if (decide (s.1 < 0)) = true then (if x.Keep = true then (some (0, (⟨s.1, s.2⟩ : ApiWide), 0)) else (some (0, (⟨0, 0⟩ : ApiWide), 0))) else ((q02_Amount (⟨s.1, s.2⟩ : ApiWide) x.Mode).bind fun r1 => if (bif (r1.2.2 != 0) then true else (!x.Keep)) = true then (some (r1.1, (⟨0, 0⟩ : ApiWide), r1.2.2)) else (some (r1.1, r1.2.1, 0)))
noncomputable def q29_settled (grains : ApiWide) (rest : ApiWide) (x : ApiInterest) : Option (Int × ApiWide × Int) :=
  if x.Keep = true then ((q01_Add grains rest).bind fun r => if (r.2 != 0) = true then (some (0, (⟨0, 0⟩ : ApiWide), r.2)) else (q29_settled_j0 x (r.1.Hi, r.1.Lo))) else (q29_settled_j0 x (grains.Hi, grains.Lo))
noncomputable def q02_Percent (amount : Int) (ppm : Int) (mode : Int) : Option (Int × Int) :=
  (q02_Good amount).bind fun r => if (bif (bif (!r) then true else (decide (ppm < 0))) then true else (decide (ppm > 1000000))) = true then (some (0, 1)) else ((q01_Mul amount ppm).bind fun r1 => (q02_Divide r1 1000000 mode).bind fun r2 => some (r2.1, r2.2))
noncomputable def q29_Period (b : ApiBooks) (l : (List ApiPeriod)) (id : Int) (to' : Int) : Option (ApiPeriod × Int) :=
  (q24_Find b id).bind fun r => if (!r.2) = true then (some ((⟨0, 0, 0, 0, 0, 0, 0, (⟨0, 0⟩ : ApiWide), (⟨0, 0⟩ : ApiWide)⟩ : ApiPeriod), 11)) else ((q29_First b l id).bind fun r1 => (q04_Valid to').bind fun r2 => (if (((!r2) == false) && true) = true then q04_Valid r1 else some default).bind fun r3 => if (bif (bif (!r2) then true else (!r3)) then true else (decide (r1 > to'))) = true then (some ((⟨0, 0, 0, 0, 0, 0, 0, (⟨0, 0⟩ : ApiWide), (⟨0, 0⟩ : ApiWide)⟩ : ApiPeriod), 1)) else ((q27_Series b id r1 to').bind fun r4 => if (r4.2 != 0) = true then (some ((⟨0, 0, 0, 0, 0, 0, 0, (⟨0, 0⟩ : ApiWide), (⟨0, 0⟩ : ApiWide)⟩ : ApiPeriod), r4.2)) else ((q24_Product b id to').bind fun r5 => if (!r5.2) = true then (some ((⟨0, 0, 0, 0, 0, 0, 0, (⟨0, 0⟩ : ApiWide), (⟨0, 0⟩ : ApiWide)⟩ : ApiPeriod), 11)) else ((q27_Total r4.1).bind fun r6 => if (r6.2.2 != 0) = true then (some ((⟨0, 0, 0, 0, 0, 0, 0, (⟨0, 0⟩ : ApiWide), (⟨0, 0⟩ : ApiWide)⟩ : ApiPeriod), r6.2.2)) else ((q29_Last l id).bind fun r7 => (q29_settled r6.1 r7.1.CreditRest r5.1.Credit).bind fun r8 => if (r8.2.2 != 0) = true then (some ((⟨0, 0, 0, 0, 0, 0, 0, (⟨0, 0⟩ : ApiWide), (⟨0, 0⟩ : ApiWide)⟩ : ApiPeriod), r8.2.2)) else ((q29_settled r6.2.1 r7.1.DebitRest r5.1.Debit).bind fun r9 => if (r9.2.2 != 0) = true then (some ((⟨0, 0, 0, 0, 0, 0, 0, (⟨0, 0⟩ : ApiWide), (⟨0, 0⟩ : ApiWide)⟩ : ApiPeriod), r9.2.2)) else ((q02_Percent r8.1 r5.1.TaxPpm 1).bind fun r10 => if (r10.2 != 0) = true then (some ((⟨0, 0, 0, 0, 0, 0, 0, (⟨0, 0⟩ : ApiWide), (⟨0, 0⟩ : ApiWide)⟩ : ApiPeriod), r10.2)) else (some ((⟨id, r1, to', r8.1, r9.1, r10.1, 0, r8.2.1, r9.2.1⟩ : ApiPeriod), 0)))))))))
noncomputable def q30_amounts (a : ApiPeriod) (b : ApiPeriod) : Option Bool :=
  some (bif (bif (a.Credit == b.Credit) then (a.Debit == b.Debit) else false) then (a.Tax == b.Tax) else false)
noncomputable def q30_Fits (b : ApiBooks) (before : (List ApiPeriod)) (x : ApiPeriod) : Option Bool :=
  (q29_Period b before x.Account x.To).bind fun r => (if (((bif (r.2 == 0) then (r.1.From == x.From) else false) == true) && true) = true then q30_amounts r.1 x else some default).bind fun r1 => some (bif (bif (bif (bif (r.2 == 0) then (r.1.From == x.From) else false) then r1 else false) then ((r.1.CreditRest.Hi == x.CreditRest.Hi) && ((r.1.CreditRest.Lo == x.CreditRest.Lo) && true)) else false) then ((r.1.DebitRest.Hi == x.DebitRest.Hi) && ((r.1.DebitRest.Lo == x.DebitRest.Lo) && true)) else false)
noncomputable def q30_Clean_l1 (b : ApiBooks) (l : (List ApiPeriod)) (id : Int) (s : Int) : Option (Int ⊕ Bool) :=
  if (decide (s < ((List.map ApiPeriod.enc l).length : Int))) = true then ((getI l s).bind fun li => if ((((li.Account == id) == true) && true) = true → (0 : Int) ≤ 0 ∧ 0 ≤ s ∧ s ≤ (l.length : Int)) then ((if (((li.Account == id) == true) && true) = true then getI l s else some default).bind fun li1 => (if (((li.Account == id) == true) && true) = true then q30_Fits b (subl l 0 s) li1 else some default).bind fun r2 => if (bif (li.Account == id) then (!r2) else false) = true then (some (Sum.inr false)) else (some (Sum.inl (IntKind.wrap .i64 (s + 1))))) else none) else (some (Sum.inr true))
noncomputable def q30_Clean (b : ApiBooks) (l : (List ApiPeriod)) (id : Int) : Option Bool :=
  (q24_Find b id).bind fun r => if (!r.2) = true then (some false) else (Iter (q30_Clean_l1 b l id) 0)
noncomputable def l30_BackdateCleans (b : ApiBooks) (l : (List ApiPeriod)) (id : Int) : Option Bool :=
  (l30_Few b l).bind fun r => (if (((!r) == false) && true) = true then l30_near b l id else some default).bind fun r1 => (if (((bif (!r) then true else (!r1)) == false) && true) = true then q26_Check b else some default).bind fun r2 => if (bif (bif (!r) then true else (!r1)) then true else (r2 != 0)) = true then ((l30_Lives).bind fun r3 => some r3) else ((backdate_Clean b l id).bind fun r4 => (q30_Clean b l id).bind fun r5 => (if (((r4 == r5) == true) && true) = true then l30_Lives else some default).bind fun r6 => some (bif (r4 == r5) then r6 else false))
end Go.Cb
set_option linter.unusedVariables false
set_option linter.unusedSimpArgs false
namespace Go.Cb
open Go.Eng Go.RowKit
open Go.Proofs
noncomputable def b4 : Code := (Tryz.f4.body).getD .skip
def l30_Few_E : Bool → List RR := fun r => [.val (.bool r)]
def l30_Few_l1_S (b : ApiBooks) : Int → St := fun s => (⟨[(2, .box 0 0), (5, .rv (.val (.int .i64 s)))], [(0, some (.box [.val (.slice (List.map ApiCurrency.enc b.Currencies)), .val (.slice (List.map ApiCalendar.enc b.Calendars)), .val (.slice (List.map ApiGl.enc b.Chart)), .val (.int .i64 b.Plan.Cash), .val (.int .i64 b.Plan.Deposits), .val (.int .i64 b.Plan.InterestPaid), .val (.int .i64 b.Plan.InterestEarned), .val (.int .i64 b.Plan.FeeEarned), .val (.int .i64 b.Plan.Tax), .val (.int .i64 b.Plan.Clearing), .val (.int .i64 b.Plan.Loans), .val (.int .i64 b.Plan.LoanInterest), .val (.int .i64 b.Plan.Penalty), .val (.int .i64 b.Plan.Provision), .val (.int .i64 b.Plan.ProvisionCost), .val (.int .i64 b.Plan.Loss), .val (.int .i64 b.Plan.Recovery), .val (.slice (List.map ApiProduct.enc b.Products)), .val (.slice (List.map ApiAccount.enc b.Accounts)), .val (.slice (List.map ApiEntry.enc b.Journal)), .val (.slice (List.map ApiHold.enc b.Holds)), .val (.slice (List.map ApiBlock.enc b.Blocks))]))], 1⟩ : St)
theorem s_l30_Few_l1 (b : ApiBooks) (s : Int) : Sat (cx 36 [.tmp 4]) (loopR (R0 l30_Few_E)) (loopD (cx 36 [.tmp 4]) (R0 l30_Few_E) D0 (l30_Few_l1_S b) [(2, false), (5, false)] ((cx 36 [.tmp 4]).kAt b4 [true, true, false, true, false] (k0 (cx 36 [.tmp 4]).ti (cx 36 [.tmp 4]).rvs))) ((cx 36 [.tmp 4]).ex (sub b4 [true, true, false, true, false, false]) (l30_Few_l1_S b s) T.done) (l30_Few_l1 b s) := by
 delta l30_Few_l1
 refine Sat.ite (by kernel_rfl) ?_ ?_
 ·refine Sat.opt (enc := ApiEntry.enc) (by kernel_rfl) (getRow_map _ _ _) (fun journal => ?_)
  refine Sat.ite (by kernel_rfl) ?_ ?_
  ·refine Sat.retL (D := D0) (A := some false) (by kernel_rfl) ?_
   exact Sat.ret0 [true] (by kernel_rfl) (by kernel_rfl)
  exact Sat.next (by kernel_rfl) (by kernel_rfl)
 refine Sat.out (id := 0) (A := some true) (by kernel_rfl) ?_
 exact Sat.ret0 [true] (by kernel_rfl) (by kernel_rfl)
theorem s_l30_Few (b : ApiBooks) (l : (List ApiPeriod)) : DoesP Tryz.prog gt 4 [.val (.agg (ApiBooks.enc b)), .val (.slice (List.map ApiPeriod.enc l))] l30_Few_E (l30_Few b l) := by
 refine does_of (c := (cx 36 [.tmp 4])) c_ok (fn := Tryz.f4) (code := b4) Tryz.func4 (by kernel_rfl) (by kernel_rfl) (by kernel_rfl) (by kernel_rfl) (by kernel_rfl) ?_
 delta l30_Few
 refine Sat.ite (by kernel_rfl) ?_ ?_
 ·exact Sat.ret0 [true] (by kernel_rfl) (by kernel_rfl)
 exact Sat.loop (s0 := 0) [(2, false), (5, false)] c_ok (by kernel_rfl) (by kernel_rfl) (by kernel_rfl) (by kernel_rfl) (s_l30_Few_l1 b)
noncomputable def b10 : Code := (Tryz.f10.body).getD .skip
def q24_Find_E : (ApiAccount × Bool) → List RR := fun r => [.val (.agg (ApiAccount.enc r.1)), .val (.bool r.2)]
def q24_Find_l1_S (b : ApiBooks) (id : Int) : Int → St := fun s => (⟨[(1, .rv (.val (.int .i64 id))), (2, .box 0 0), (4, .box 1 0), (6, .rv (.val (.int .i64 s)))], [(0, some (.box [.val (.slice (List.map ApiCurrency.enc b.Currencies)), .val (.slice (List.map ApiCalendar.enc b.Calendars)), .val (.slice (List.map ApiGl.enc b.Chart)), .val (.int .i64 b.Plan.Cash), .val (.int .i64 b.Plan.Deposits), .val (.int .i64 b.Plan.InterestPaid), .val (.int .i64 b.Plan.InterestEarned), .val (.int .i64 b.Plan.FeeEarned), .val (.int .i64 b.Plan.Tax), .val (.int .i64 b.Plan.Clearing), .val (.int .i64 b.Plan.Loans), .val (.int .i64 b.Plan.LoanInterest), .val (.int .i64 b.Plan.Penalty), .val (.int .i64 b.Plan.Provision), .val (.int .i64 b.Plan.ProvisionCost), .val (.int .i64 b.Plan.Loss), .val (.int .i64 b.Plan.Recovery), .val (.slice (List.map ApiProduct.enc b.Products)), .val (.slice (List.map ApiAccount.enc b.Accounts)), .val (.slice (List.map ApiEntry.enc b.Journal)), .val (.slice (List.map ApiHold.enc b.Holds)), .val (.slice (List.map ApiBlock.enc b.Blocks))])), (1, some (.box [.val (.int .i64 0), .val (.int .i64 0), .val (.int .i64 0), .val (.int .i64 0), .val (.str (bs [])), .val (.str (bs [])), .val (.str (bs []))]))], 2⟩ : St)
theorem s_q24_Find_l1 (b : ApiBooks) (id : Int) (s : Int) : Sat (cx 28 [.cell 4 45, .tmp 5]) (loopR (R0 q24_Find_E)) (loopD (cx 28 [.cell 4 45, .tmp 5]) (R0 q24_Find_E) D0 (q24_Find_l1_S b id) [(1, false), (2, false), (4, false), (6, false)] ((cx 28 [.cell 4 45, .tmp 5]).kAt b10 [true, false, true, false] (k0 (cx 28 [.cell 4 45, .tmp 5]).ti (cx 28 [.cell 4 45, .tmp 5]).rvs))) ((cx 28 [.cell 4 45, .tmp 5]).ex (sub b10 [true, false, true, false, false]) (q24_Find_l1_S b id s) T.done) (q24_Find_l1 b id s) := by
 delta q24_Find_l1
 refine Sat.ite (by kernel_rfl) ?_ ?_
 ·refine Sat.opt (enc := ApiAccount.enc) (by kernel_rfl) (getRow_map _ _ _) (fun account => ?_)
  refine Sat.ite (by kernel_rfl) ?_ ?_
  ·refine Sat.opt (enc := ApiAccount.enc) (by kernel_rfl) (getRow_map _ _ _) (fun account1 => ?_)
   refine Sat.retL (D := D0) (A := some (account1, true)) (by kernel_rfl) ?_
   exact Sat.ret0 [true, true] (by kernel_rfl) (by kernel_rfl)
  exact Sat.next (by kernel_rfl) (by kernel_rfl)
 refine Sat.out (id := 0) (A := some ((⟨0, 0, 0, 0, (bs []), (bs []), (bs [])⟩ : ApiAccount), false)) (by kernel_rfl) ?_
 exact Sat.ret0 [true, true] (by kernel_rfl) (by kernel_rfl)
theorem s_q24_Find (b : ApiBooks) (id : Int) : DoesP Tryz.prog gt 10 [.val (.agg (ApiBooks.enc b)), .val (.int .i64 id)] q24_Find_E (q24_Find b id) := by
 refine does_of (c := (cx 28 [.cell 4 45, .tmp 5])) c_ok (fn := Tryz.f10) (code := b10) Tryz.func10 (by kernel_rfl) (by kernel_rfl) (by kernel_rfl) (by kernel_rfl) (by kernel_rfl) ?_
 delta q24_Find
 exact Sat.loop (s0 := 0) [(1, false), (2, false), (4, false), (6, false)] c_ok (by kernel_rfl) (by kernel_rfl) (by kernel_rfl) (by kernel_rfl) (s_q24_Find_l1 b id)
noncomputable def b5 : Code := (Tryz.f5.body).getD .skip
def l30_near_E : Bool → List RR := fun r => [.val (.bool r)]
def l30_near_j0_S (l : (List ApiPeriod)) (id : Int) (s : (Int × Int)) : Int → St := fun s1 => (⟨[(1, .rv (.val (.slice (List.map ApiPeriod.enc l)))), (2, .rv (.val (.int .i64 id))), (9, .rv (.val (.int .i64 s1))), (10, .rv (.val (.int .i64 s.2)))], [], 0⟩ : St)
def l30_near_l1_S (l : (List ApiPeriod)) (id : Int) : (Int × Int) → St := fun s => (⟨[(1, .rv (.val (.slice (List.map ApiPeriod.enc l)))), (2, .rv (.val (.int .i64 id))), (9, .rv (.val (.int .i64 s.1))), (10, .rv (.val (.int .i64 s.2)))], [], 0⟩ : St)
theorem s_l30_near_j0 (l : (List ApiPeriod)) (id : Int) (s : (Int × Int)) (s1 : Int) : Sat (cx 61 [.tmp 6]) (loopR (R0 l30_near_E)) (loopD (cx 61 [.tmp 6]) (R0 l30_near_E) D0 (l30_near_l1_S l id) [(1, false), (2, false), (9, false), (10, false)] ((cx 61 [.tmp 6]).kAt b5 [true, true, true, false, true, false] (k0 (cx 61 [.tmp 6]).ti (cx 61 [.tmp 6]).rvs))) ((cx 61 [.tmp 6]).ex (sub b5 [true, true, true, false, true, false, false, true, true]) (l30_near_j0_S l id s s1) ((cx 61 [.tmp 6]).kAt b5 [true, true, true, false, true, false, false, true, true] (k0 (cx 61 [.tmp 6]).ti (cx 61 [.tmp 6]).rvs))) (l30_near_j0 s s1) := by
 delta l30_near_j0
 exact Sat.next (by kernel_rfl) (by kernel_rfl)
theorem s_l30_near_l1 (l : (List ApiPeriod)) (id : Int) (s : (Int × Int)) : Sat (cx 61 [.tmp 6]) (loopR (R0 l30_near_E)) (loopD (cx 61 [.tmp 6]) (R0 l30_near_E) D0 (l30_near_l1_S l id) [(1, false), (2, false), (9, false), (10, false)] ((cx 61 [.tmp 6]).kAt b5 [true, true, true, false, true, false] (k0 (cx 61 [.tmp 6]).ti (cx 61 [.tmp 6]).rvs))) ((cx 61 [.tmp 6]).ex (sub b5 [true, true, true, false, true, false, false]) (l30_near_l1_S l id s) T.done) (l30_near_l1 l id s) := by
 delta l30_near_l1
 refine Sat.ite (by kernel_rfl) ?_ ?_
 ·refine Sat.opt (enc := ApiPeriod.enc) (by kernel_rfl) (getRow_map _ _ _) (fun li => ?_)
  refine Sat.ite (by kernel_rfl) ?_ ?_
  ·exact Sat.cut (s0 := s.1) [(1, false), (2, false), (9, false), (10, false)] c_ok (by kernel_rfl) (by kernel_rfl) (by kernel_rfl) (by kernel_rfl) (s_l30_near_j0 l id s)
  refine Sat.opt (enc := ApiPeriod.enc) (by kernel_rfl) (getRow_map _ _ _) (fun li2 => ?_)
  refine Sat.optG (enc := ApiPeriod.enc) (by kernel_rfl) (getRow_map _ _ _) (fun li3 => ?_)
  refine Sat.optG (enc := ApiPeriod.enc) (by kernel_rfl) (getRow_map _ _ _) (fun li4 => ?_)
  refine Sat.ite (by kernel_rfl) ?_ ?_
  ·refine Sat.retL (D := D0) (A := some false) (by kernel_rfl) ?_
   exact Sat.ret0 [true] (by kernel_rfl) (by kernel_rfl)
  refine Sat.opt (enc := ApiPeriod.enc) (by kernel_rfl) (getRow_map _ _ _) (fun li5 => ?_)
  exact Sat.cut (s0 := li5.To) [(1, false), (2, false), (9, false), (10, false)] c_ok (by kernel_rfl) (by kernel_rfl) (by kernel_rfl) (by kernel_rfl) (s_l30_near_j0 l id s)
 refine Sat.out (id := 0) (A := some true) (by kernel_rfl) ?_
 exact Sat.ret0 [true] (by kernel_rfl) (by kernel_rfl)
theorem s_l30_near (b : ApiBooks) (l : (List ApiPeriod)) (id : Int) : DoesP Tryz.prog gt 5 [.val (.agg (ApiBooks.enc b)), .val (.slice (List.map ApiPeriod.enc l)), .val (.int .i64 id)] l30_near_E (l30_near b l id) := by
 refine does_of (c := (cx 61 [.tmp 6])) c_ok (fn := Tryz.f5) (code := b5) Tryz.func5 (by kernel_rfl) (by kernel_rfl) (by kernel_rfl) (by kernel_rfl) (by kernel_rfl) ?_
 delta l30_near
 refine Sat.call (s_q24_Find b id) (by kernel_rfl) (fun r => ?_)
 exact Sat.loop (s0 := (r.1.Opened, 0)) [(1, false), (2, false), (9, false), (10, false)] c_ok (by kernel_rfl) (by kernel_rfl) (by kernel_rfl) (by kernel_rfl) (s_l30_near_l1 l id)
noncomputable def b24 : Code := (Tryz.f24.body).getD .skip
def q03_Code_E : Bool → List RR := fun r => [.val (.bool r)]
def q03_Code_l1_S (s : ByteArray) : Int → St := fun s1 => (⟨[(0, .rv (.val (.str s))), (3, .rv (.val (.int .i64 s1)))], [], 0⟩ : St)
theorem s_q03_Code_l1 (s : ByteArray) (s1 : Int) : Sat (cx 21 [.tmp 2]) (loopR (R0 q03_Code_E)) (loopD (cx 21 [.tmp 2]) (R0 q03_Code_E) D0 (q03_Code_l1_S s) [(0, false), (3, false)] ((cx 21 [.tmp 2]).kAt b24 [true, true, false, true, false] (k0 (cx 21 [.tmp 2]).ti (cx 21 [.tmp 2]).rvs))) ((cx 21 [.tmp 2]).ex (sub b24 [true, true, false, true, false, false]) (q03_Code_l1_S s s1) T.done) (q03_Code_l1 s s1) := by
 delta q03_Code_l1
 refine Sat.ite (by kernel_rfl) ?_ ?_
 ·refine Sat.need (g := true) (p := (0 : Int) ≤ s1 ∧ s1 < (s.size : Int)) (by kernel_rfl) (fun h _ => by exact h) ?_
  refine Sat.need (g := (((decide ((bt s s1) < 65)) == false) && true)) (p := (0 : Int) ≤ s1 ∧ s1 < (s.size : Int)) (by kernel_rfl) (fun h0 hg => by have h := h0 hg; exact h) ?_
  refine Sat.ite (by kernel_rfl) ?_ ?_
  ·refine Sat.retL (D := D0) (A := some false) (by kernel_rfl) ?_
   exact Sat.ret0 [true] (by kernel_rfl) (by kernel_rfl)
  exact Sat.next (by kernel_rfl) (by kernel_rfl)
 refine Sat.out (id := 0) (A := some true) (by kernel_rfl) ?_
 exact Sat.ret0 [true] (by kernel_rfl) (by kernel_rfl)
theorem s_q03_Code (s : ByteArray) : DoesP Tryz.prog gt 24 [.val (.str s)] q03_Code_E (q03_Code s) := by
 refine does_of (c := (cx 21 [.tmp 2])) c_ok (fn := Tryz.f24) (code := b24) Tryz.func24 (by kernel_rfl) (by kernel_rfl) (by kernel_rfl) (by kernel_rfl) (by kernel_rfl) ?_
 delta q03_Code
 refine Sat.ite (by kernel_rfl) ?_ ?_
 ·exact Sat.ret0 [true] (by kernel_rfl) (by kernel_rfl)
 exact Sat.loop (s0 := 0) [(0, false), (3, false)] c_ok (by kernel_rfl) (by kernel_rfl) (by kernel_rfl) (by kernel_rfl) (s_q03_Code_l1 s)
noncomputable def b11 : Code := (Tryz.f11.body).getD .skip
def q03_Check_E : Int → List RR := fun r => [.val (.int .i64 r)]
def q03_Check_l1_S (l : (List ApiCurrency)) : Int → St := fun s => (⟨[(0, .rv (.val (.slice (List.map ApiCurrency.enc l)))), (3, .rv (.val (.int .i64 s)))], [], 0⟩ : St)
theorem s_q03_Check_l1 (l : (List ApiCurrency)) (s : Int) : Sat (cx 55 [.tmp 2]) (loopR (R0 q03_Check_E)) (loopD (cx 55 [.tmp 2]) (R0 q03_Check_E) D0 (q03_Check_l1_S l) [(0, false), (3, false)] ((cx 55 [.tmp 2]).kAt b11 [true, true, false, true, false] (k0 (cx 55 [.tmp 2]).ti (cx 55 [.tmp 2]).rvs))) ((cx 55 [.tmp 2]).ex (sub b11 [true, true, false, true, false, false]) (q03_Check_l1_S l s) T.done) (q03_Check_l1 l s) := by
 delta q03_Check_l1
 refine Sat.ite (by kernel_rfl) ?_ ?_
 ·refine Sat.opt (enc := ApiCurrency.enc) (by kernel_rfl) (getRow_map _ _ _) (fun li => ?_)
  refine Sat.call (s_q03_Code li.Code) (by kernel_rfl) (fun r => ?_)
  refine Sat.ite (by kernel_rfl) ?_ ?_
  ·refine Sat.retL (D := D0) (A := some 4) (by kernel_rfl) ?_
   exact Sat.ret0 [true] (by kernel_rfl) (by kernel_rfl)
  refine Sat.opt (enc := ApiCurrency.enc) (by kernel_rfl) (getRow_map _ _ _) (fun li1 => ?_)
  refine Sat.optG (enc := ApiCurrency.enc) (by kernel_rfl) (getRow_map _ _ _) (fun li2 => ?_)
  refine Sat.ite (by kernel_rfl) ?_ ?_
  ·refine Sat.retL (D := D0) (A := some 1) (by kernel_rfl) ?_
   exact Sat.ret0 [true] (by kernel_rfl) (by kernel_rfl)
  refine Sat.optG (enc := ApiCurrency.enc) (by kernel_rfl) (getRow_map _ _ _) (fun li3 => ?_)
  refine Sat.optG (enc := ApiCurrency.enc) (by kernel_rfl) (getRow_map _ _ _) (fun li4 => ?_)
  refine Sat.ite (by kernel_rfl) ?_ ?_
  ·refine Sat.retL (D := D0) (A := some 10) (by kernel_rfl) ?_
   exact Sat.ret0 [true] (by kernel_rfl) (by kernel_rfl)
  exact Sat.next (by kernel_rfl) (by kernel_rfl)
 refine Sat.out (id := 0) (A := some 0) (by kernel_rfl) ?_
 exact Sat.ret0 [true] (by kernel_rfl) (by kernel_rfl)
theorem s_q03_Check (l : (List ApiCurrency)) : DoesP Tryz.prog gt 11 [.val (.slice (List.map ApiCurrency.enc l))] q03_Check_E (q03_Check l) := by
 refine does_of (c := (cx 55 [.tmp 2])) c_ok (fn := Tryz.f11) (code := b11) Tryz.func11 (by kernel_rfl) (by kernel_rfl) (by kernel_rfl) (by kernel_rfl) (by kernel_rfl) ?_
 delta q03_Check
 refine Sat.ite (by kernel_rfl) ?_ ?_
 ·exact Sat.ret0 [true] (by kernel_rfl) (by kernel_rfl)
 exact Sat.loop (s0 := 0) [(0, false), (3, false)] c_ok (by kernel_rfl) (by kernel_rfl) (by kernel_rfl) (by kernel_rfl) (s_q03_Check_l1 l)
noncomputable def b39 : Code := (Tryz.f39.body).getD .skip
def q05_Name_E : Bool → List RR := fun r => [.val (.bool r)]
def q05_Name_l1_S (s : ByteArray) : Int → St := fun s1 => (⟨[(0, .rv (.val (.str s))), (3, .rv (.val (.int .i64 s1)))], [], 0⟩ : St)
theorem s_q05_Name_l1 (s : ByteArray) (s1 : Int) : Sat (cx 56 [.tmp 2]) (loopR (R0 q05_Name_E)) (loopD (cx 56 [.tmp 2]) (R0 q05_Name_E) D0 (q05_Name_l1_S s) [(0, false), (3, false)] ((cx 56 [.tmp 2]).kAt b39 [true, true, false, true, false] (k0 (cx 56 [.tmp 2]).ti (cx 56 [.tmp 2]).rvs))) ((cx 56 [.tmp 2]).ex (sub b39 [true, true, false, true, false, false]) (q05_Name_l1_S s s1) T.done) (q05_Name_l1 s s1) := by
 delta q05_Name_l1
 refine Sat.ite (by kernel_rfl) ?_ ?_
 ·refine Sat.need (g := true) (p := (0 : Int) ≤ s1 ∧ s1 < (s.size : Int)) (by kernel_rfl) (fun h _ => by exact h) ?_
  refine Sat.need (g := (((decide ((bt s s1) < 97)) == false) && true)) (p := (0 : Int) ≤ s1 ∧ s1 < (s.size : Int)) (by kernel_rfl) (fun h0 hg => by have h := h0 hg; exact h) ?_
  refine Sat.need (g := (((bif (decide ((bt s s1) < 97)) then true else (decide ((bt s s1) > 122))) == true) && true)) (p := (0 : Int) ≤ s1 ∧ s1 < (s.size : Int)) (by kernel_rfl) (fun h0 hg => by have h := h0 hg; exact h) ?_
  refine Sat.need (g := (((decide ((bt s s1) < 48)) == false) && (((bif (decide ((bt s s1) < 97)) then true else (decide ((bt s s1) > 122))) == true) && true))) (p := (0 : Int) ≤ s1 ∧ s1 < (s.size : Int)) (by kernel_rfl) (fun h0 hg => by have h := h0 hg; exact h) ?_
  refine Sat.need (g := (((bif (bif (decide ((bt s s1) < 97)) then true else (decide ((bt s s1) > 122))) then (bif (decide ((bt s s1) < 48)) then true else (decide ((bt s s1) > 57))) else false) == true) && true)) (p := (0 : Int) ≤ s1 ∧ s1 < (s.size : Int)) (by kernel_rfl) (fun h0 hg => by have h := h0 hg; exact h) ?_
  refine Sat.ite (by kernel_rfl) ?_ ?_
  ·refine Sat.retL (D := D0) (A := some false) (by kernel_rfl) ?_
   exact Sat.ret0 [true] (by kernel_rfl) (by kernel_rfl)
  exact Sat.next (by kernel_rfl) (by kernel_rfl)
 refine Sat.out (id := 0) (A := some true) (by kernel_rfl) ?_
 exact Sat.ret0 [true] (by kernel_rfl) (by kernel_rfl)
theorem s_q05_Name (s : ByteArray) : DoesP Tryz.prog gt 39 [.val (.str s)] q05_Name_E (q05_Name s) := by
 refine does_of (c := (cx 56 [.tmp 2])) c_ok (fn := Tryz.f39) (code := b39) Tryz.func39 (by kernel_rfl) (by kernel_rfl) (by kernel_rfl) (by kernel_rfl) (by kernel_rfl) ?_
 delta q05_Name
 refine Sat.need (g := (((bif (decide ((s.size : Int) < 1)) then true else (decide ((s.size : Int) > 16))) == false) && true)) (p := (0 : Int) ≤ 0 ∧ 0 < (s.size : Int)) (by kernel_rfl) (fun h0 hg => by have h := h0 hg; exact h) ?_
 refine Sat.need (g := (((bif (bif (decide ((s.size : Int) < 1)) then true else (decide ((s.size : Int) > 16))) then true else (decide ((bt s 0) < 97))) == false) && true)) (p := (0 : Int) ≤ 0 ∧ 0 < (s.size : Int)) (by kernel_rfl) (fun h0 hg => by have h := h0 hg; exact h) ?_
 refine Sat.ite (by kernel_rfl) ?_ ?_
 ·exact Sat.ret0 [true] (by kernel_rfl) (by kernel_rfl)
 exact Sat.loop (s0 := 0) [(0, false), (3, false)] c_ok (by kernel_rfl) (by kernel_rfl) (by kernel_rfl) (by kernel_rfl) (s_q05_Name_l1 s)
noncomputable def b45 : Code := (Tryz.f45.body).getD .skip
def q05_Rises_E : Bool → List RR := fun r => [.val (.bool r)]
def q05_Rises_l1_S (l : (List Int)) : Int → St := fun s => (⟨[(0, .rv (.val (.slice (List.map (eInt .i64) l)))), (3, .rv (.val (.int .i64 s)))], [], 0⟩ : St)
theorem s_q05_Rises_l1 (l : (List Int)) (s : Int) : Sat (cx 20 [.tmp 2]) (loopR (R0 q05_Rises_E)) (loopD (cx 20 [.tmp 2]) (R0 q05_Rises_E) D0 (q05_Rises_l1_S l) [(0, false), (3, false)] ((cx 20 [.tmp 2]).kAt b45 [true, false, true, false] (k0 (cx 20 [.tmp 2]).ti (cx 20 [.tmp 2]).rvs))) ((cx 20 [.tmp 2]).ex (sub b45 [true, false, true, false, false]) (q05_Rises_l1_S l s) T.done) (q05_Rises_l1 l s) := by
 delta q05_Rises_l1
 refine Sat.ite (by kernel_rfl) ?_ ?_
 ·refine Sat.opt (enc := (eInt .i64)) (by kernel_rfl) (getRow_map _ _ _) (fun li => ?_)
  refine Sat.opt (enc := (eInt .i64)) (by kernel_rfl) (getRow_map _ _ _) (fun li1 => ?_)
  refine Sat.ite (by kernel_rfl) ?_ ?_
  ·refine Sat.retL (D := D0) (A := some false) (by kernel_rfl) ?_
   exact Sat.ret0 [true] (by kernel_rfl) (by kernel_rfl)
  exact Sat.next (by kernel_rfl) (by kernel_rfl)
 refine Sat.out (id := 0) (A := some true) (by kernel_rfl) ?_
 exact Sat.ret0 [true] (by kernel_rfl) (by kernel_rfl)
theorem s_q05_Rises (l : (List Int)) : DoesP Tryz.prog gt 45 [.val (.slice (List.map (eInt .i64) l))] q05_Rises_E (q05_Rises l) := by
 refine does_of (c := (cx 20 [.tmp 2])) c_ok (fn := Tryz.f45) (code := b45) Tryz.func45 (by kernel_rfl) (by kernel_rfl) (by kernel_rfl) (by kernel_rfl) (by kernel_rfl) ?_
 delta q05_Rises
 exact Sat.loop (s0 := 1) [(0, false), (3, false)] c_ok (by kernel_rfl) (by kernel_rfl) (by kernel_rfl) (by kernel_rfl) (s_q05_Rises_l1 l)
noncomputable def b31 : Code := (Tryz.f31.body).getD .skip
def q04_Valid_E : Bool → List RR := fun r => [.val (.bool r)]
theorem s_q04_Valid (day : Int) : DoesP Tryz.prog gt 31 [.val (.int .i64 day)] q04_Valid_E (q04_Valid day) := by
 refine does_of (c := (cx 9 [.tmp 2])) c_ok (fn := Tryz.f31) (code := b31) Tryz.func31 (by kernel_rfl) (by kernel_rfl) (by kernel_rfl) (by kernel_rfl) (by kernel_rfl) ?_
 delta q04_Valid
 exact Sat.ret0 [true] (by kernel_rfl) (by kernel_rfl)
noncomputable def b25 : Code := (Tryz.f25.body).getD .skip
def q05_Check_E : Int → List RR := fun r => [.val (.int .i64 r)]
def q05_Check_l2_S (c : ApiCalendar) : Int → St := fun s3 => (⟨[(1, .box 0 0), (4, .rv (.val (.int .i64 s3)))], [(0, some (.box [.val (.str c.Name), .val (.slice (List.map (eInt .i64) c.Weekend)), .val (.slice (List.map (eInt .i64) c.Holidays))]))], 1⟩ : St)
def q05_Check_l1_S (c : ApiCalendar) : Int → St := fun s => (⟨[(1, .box 0 0), (3, .rv (.val (.int .i64 s)))], [(0, some (.box [.val (.str c.Name), .val (.slice (List.map (eInt .i64) c.Weekend)), .val (.slice (List.map (eInt .i64) c.Holidays))]))], 1⟩ : St)
theorem s_q05_Check_l2 (c : ApiCalendar) (s3 : Int) : Sat (cx 62 [.tmp 2]) (loopR (R0 q05_Check_E)) (loopD (cx 62 [.tmp 2]) (R0 q05_Check_E) D0 (q05_Check_l2_S c) [(1, false), (4, false)] ((cx 62 [.tmp 2]).kAt b25 [true, true, true, true, true, false, true, false] (k0 (cx 62 [.tmp 2]).ti (cx 62 [.tmp 2]).rvs))) ((cx 62 [.tmp 2]).ex (sub b25 [true, true, true, true, true, false, true, false, false]) (q05_Check_l2_S c s3) T.done) (q05_Check_l2 c s3) := by
 delta q05_Check_l2
 refine Sat.ite (by kernel_rfl) ?_ ?_
 ·refine Sat.opt (enc := (eInt .i64)) (by kernel_rfl) (getRow_map _ _ _) (fun holiday => ?_)
  refine Sat.call (s_q04_Valid holiday) (by kernel_rfl) (fun r4 => ?_)
  refine Sat.ite (by kernel_rfl) ?_ ?_
  ·refine Sat.retL (D := D0) (A := some 1) (by kernel_rfl) ?_
   exact Sat.ret0 [true] (by kernel_rfl) (by kernel_rfl)
  exact Sat.next (by kernel_rfl) (by kernel_rfl)
 refine Sat.out (id := 2) (by kernel_rfl) ?_
 refine Sat.call (s_q05_Rises c.Holidays) (by kernel_rfl) (fun r5 => ?_)
 refine Sat.ite (by kernel_rfl) ?_ ?_
 ·exact Sat.ret0 [true] (by kernel_rfl) (by kernel_rfl)
 exact Sat.ret0 [true] (by kernel_rfl) (by kernel_rfl)
theorem s_q05_Check_l1 (c : ApiCalendar) (s : Int) : Sat (cx 62 [.tmp 2]) (loopR (R0 q05_Check_E)) (loopD (cx 62 [.tmp 2]) (R0 q05_Check_E) D0 (q05_Check_l1_S c) [(1, false), (3, false)] ((cx 62 [.tmp 2]).kAt b25 [true, true, false, true, false] (k0 (cx 62 [.tmp 2]).ti (cx 62 [.tmp 2]).rvs))) ((cx 62 [.tmp 2]).ex (sub b25 [true, true, false, true, false, false]) (q05_Check_l1_S c s) T.done) (q05_Check_l1 c s) := by
 delta q05_Check_l1
 refine Sat.ite (by kernel_rfl) ?_ ?_
 ·refine Sat.opt (enc := (eInt .i64)) (by kernel_rfl) (getRow_map _ _ _) (fun weekend => ?_)
  refine Sat.optG (enc := (eInt .i64)) (by kernel_rfl) (getRow_map _ _ _) (fun weekend1 => ?_)
  refine Sat.ite (by kernel_rfl) ?_ ?_
  ·refine Sat.retL (D := D0) (A := some 1) (by kernel_rfl) ?_
   exact Sat.ret0 [true] (by kernel_rfl) (by kernel_rfl)
  exact Sat.next (by kernel_rfl) (by kernel_rfl)
 refine Sat.out (id := 0) (by kernel_rfl) ?_
 refine Sat.callG (s_q05_Rises c.Weekend) (by kernel_rfl) (fun r2 => ?_)
 refine Sat.ite (by kernel_rfl) ?_ ?_
 ·exact Sat.ret0 [true] (by kernel_rfl) (by kernel_rfl)
 refine Sat.ite (by kernel_rfl) ?_ ?_
 ·exact Sat.ret0 [true] (by kernel_rfl) (by kernel_rfl)
 exact Sat.loop (s0 := 0) [(1, false), (4, false)] c_ok (by kernel_rfl) (by kernel_rfl) (by kernel_rfl) (by kernel_rfl) (s_q05_Check_l2 c)
theorem s_q05_Check (c : ApiCalendar) : DoesP Tryz.prog gt 25 [.val (.agg (ApiCalendar.enc c))] q05_Check_E (q05_Check c) := by
 refine does_of (c := (cx 62 [.tmp 2])) c_ok (fn := Tryz.f25) (code := b25) Tryz.func25 (by kernel_rfl) (by kernel_rfl) (by kernel_rfl) (by kernel_rfl) (by kernel_rfl) ?_
 delta q05_Check
 refine Sat.call (s_q05_Name c.Name) (by kernel_rfl) (fun r => ?_)
 refine Sat.ite (by kernel_rfl) ?_ ?_
 ·exact Sat.ret0 [true] (by kernel_rfl) (by kernel_rfl)
 exact Sat.loop (s0 := 0) [(1, false), (3, false)] c_ok (by kernel_rfl) (by kernel_rfl) (by kernel_rfl) (by kernel_rfl) (s_q05_Check_l1 c)
noncomputable def b12 : Code := (Tryz.f12.body).getD .skip
def q26_calendars_E : Int → List RR := fun r => [.val (.int .i64 r)]
def q26_calendars_l1_S (l : (List ApiCalendar)) : Int → St := fun s => (⟨[(0, .rv (.val (.slice (List.map ApiCalendar.enc l)))), (3, .rv (.val (.int .i64 s)))], [], 0⟩ : St)
theorem s_q26_calendars_l1 (l : (List ApiCalendar)) (s : Int) : Sat (cx 35 [.tmp 2]) (loopR (R0 q26_calendars_E)) (loopD (cx 35 [.tmp 2]) (R0 q26_calendars_E) D0 (q26_calendars_l1_S l) [(0, false), (3, false)] ((cx 35 [.tmp 2]).kAt b12 [true, false, true, false] (k0 (cx 35 [.tmp 2]).ti (cx 35 [.tmp 2]).rvs))) ((cx 35 [.tmp 2]).ex (sub b12 [true, false, true, false, false]) (q26_calendars_l1_S l s) T.done) (q26_calendars_l1 l s) := by
 delta q26_calendars_l1
 refine Sat.ite (by kernel_rfl) ?_ ?_
 ·refine Sat.opt (enc := ApiCalendar.enc) (by kernel_rfl) (getRow_map _ _ _) (fun li => ?_)
  refine Sat.call (s_q05_Check li) (by kernel_rfl) (fun r => ?_)
  refine Sat.ite (by kernel_rfl) ?_ ?_
  ·refine Sat.retL (D := D0) (A := some r) (by kernel_rfl) ?_
   exact Sat.ret0 [true] (by kernel_rfl) (by kernel_rfl)
  refine Sat.optG (enc := ApiCalendar.enc) (by kernel_rfl) (getRow_map _ _ _) (fun li1 => ?_)
  refine Sat.optG (enc := ApiCalendar.enc) (by kernel_rfl) (getRow_map _ _ _) (fun li2 => ?_)
  refine Sat.ite (by kernel_rfl) ?_ ?_
  ·refine Sat.retL (D := D0) (A := some 10) (by kernel_rfl) ?_
   exact Sat.ret0 [true] (by kernel_rfl) (by kernel_rfl)
  exact Sat.next (by kernel_rfl) (by kernel_rfl)
 refine Sat.out (id := 0) (A := some 0) (by kernel_rfl) ?_
 exact Sat.ret0 [true] (by kernel_rfl) (by kernel_rfl)
theorem s_q26_calendars (l : (List ApiCalendar)) : DoesP Tryz.prog gt 12 [.val (.slice (List.map ApiCalendar.enc l))] q26_calendars_E (q26_calendars l) := by
 refine does_of (c := (cx 35 [.tmp 2])) c_ok (fn := Tryz.f12) (code := b12) Tryz.func12 (by kernel_rfl) (by kernel_rfl) (by kernel_rfl) (by kernel_rfl) (by kernel_rfl) ?_
 delta q26_calendars
 exact Sat.loop (s0 := 0) [(0, false), (3, false)] c_ok (by kernel_rfl) (by kernel_rfl) (by kernel_rfl) (by kernel_rfl) (s_q26_calendars_l1 l)
noncomputable def b26 : Code := (Tryz.f26.body).getD .skip
def q18_name_E : Bool → List RR := fun r => [.val (.bool r)]
def q18_name_l1_S (s : ByteArray) : Int → St := fun s1 => (⟨[(0, .rv (.val (.str s))), (3, .rv (.val (.int .i64 s1)))], [], 0⟩ : St)
theorem s_q18_name_l1 (s : ByteArray) (s1 : Int) : Sat (cx 55 [.tmp 2]) (loopR (R0 q18_name_E)) (loopD (cx 55 [.tmp 2]) (R0 q18_name_E) D0 (q18_name_l1_S s) [(0, false), (3, false)] ((cx 55 [.tmp 2]).kAt b26 [true, true, false, true, false] (k0 (cx 55 [.tmp 2]).ti (cx 55 [.tmp 2]).rvs))) ((cx 55 [.tmp 2]).ex (sub b26 [true, true, false, true, false, false]) (q18_name_l1_S s s1) T.done) (q18_name_l1 s s1) := by
 delta q18_name_l1
 refine Sat.ite (by kernel_rfl) ?_ ?_
 ·refine Sat.need (g := true) (p := (0 : Int) ≤ s1 ∧ s1 < (s.size : Int)) (by kernel_rfl) (fun h _ => by exact h) ?_
  refine Sat.need (g := (((decide ((bt s s1) < 97)) == false) && true)) (p := (0 : Int) ≤ s1 ∧ s1 < (s.size : Int)) (by kernel_rfl) (fun h0 hg => by have h := h0 hg; exact h) ?_
  refine Sat.need (g := (((bif (decide ((bt s s1) < 97)) then true else (decide ((bt s s1) > 122))) == true) && true)) (p := (0 : Int) ≤ s1 ∧ s1 < (s.size : Int)) (by kernel_rfl) (fun h0 hg => by have h := h0 hg; exact h) ?_
  refine Sat.need (g := (((decide ((bt s s1) < 48)) == false) && (((bif (decide ((bt s s1) < 97)) then true else (decide ((bt s s1) > 122))) == true) && true))) (p := (0 : Int) ≤ s1 ∧ s1 < (s.size : Int)) (by kernel_rfl) (fun h0 hg => by have h := h0 hg; exact h) ?_
  refine Sat.need (g := (((bif (bif (decide ((bt s s1) < 97)) then true else (decide ((bt s s1) > 122))) then (bif (decide ((bt s s1) < 48)) then true else (decide ((bt s s1) > 57))) else false) == true) && true)) (p := (0 : Int) ≤ s1 ∧ s1 < (s.size : Int)) (by kernel_rfl) (fun h0 hg => by have h := h0 hg; exact h) ?_
  refine Sat.ite (by kernel_rfl) ?_ ?_
  ·refine Sat.retL (D := D0) (A := some false) (by kernel_rfl) ?_
   exact Sat.ret0 [true] (by kernel_rfl) (by kernel_rfl)
  exact Sat.next (by kernel_rfl) (by kernel_rfl)
 refine Sat.out (id := 0) (A := some true) (by kernel_rfl) ?_
 exact Sat.ret0 [true] (by kernel_rfl) (by kernel_rfl)
theorem s_q18_name (s : ByteArray) : DoesP Tryz.prog gt 26 [.val (.str s)] q18_name_E (q18_name s) := by
 refine does_of (c := (cx 55 [.tmp 2])) c_ok (fn := Tryz.f26) (code := b26) Tryz.func26 (by kernel_rfl) (by kernel_rfl) (by kernel_rfl) (by kernel_rfl) (by kernel_rfl) ?_
 delta q18_name
 refine Sat.need (g := (((bif (s.toList == (bs []).toList) then true else (decide ((s.size : Int) > 16))) == false) && true)) (p := (0 : Int) ≤ 0 ∧ 0 < (s.size : Int)) (by kernel_rfl) (fun h0 hg => by have h := h0 hg; exact h) ?_
 refine Sat.need (g := (((bif (bif (s.toList == (bs []).toList) then true else (decide ((s.size : Int) > 16))) then true else (decide ((bt s 0) < 97))) == false) && true)) (p := (0 : Int) ≤ 0 ∧ 0 < (s.size : Int)) (by kernel_rfl) (fun h0 hg => by have h := h0 hg; exact h) ?_
 refine Sat.ite (by kernel_rfl) ?_ ?_
 ·exact Sat.ret0 [true] (by kernel_rfl) (by kernel_rfl)
 exact Sat.loop (s0 := 1) [(0, false), (3, false)] c_ok (by kernel_rfl) (by kernel_rfl) (by kernel_rfl) (by kernel_rfl) (s_q18_name_l1 s)
noncomputable def b27 : Code := (Tryz.f27.body).getD .skip
def q18_Find_E : (ApiGl × Bool) → List RR := fun r => [.val (.agg (ApiGl.enc r.1)), .val (.bool r.2)]
def q18_Find_l1_S (l : (List ApiGl)) (id : Int) : Int → St := fun s => (⟨[(0, .rv (.val (.slice (List.map ApiGl.enc l)))), (1, .rv (.val (.int .i64 id))), (4, .box 0 0), (6, .rv (.val (.int .i64 s)))], [(0, some (.box [.val (.int .i64 0), .val (.int .i64 0), .val (.int .i64 0), .val (.str (bs []))]))], 1⟩ : St)
theorem s_q18_Find_l1 (l : (List ApiGl)) (id : Int) (s : Int) : Sat (cx 25 [.cell 4 68, .tmp 5]) (loopR (R0 q18_Find_E)) (loopD (cx 25 [.cell 4 68, .tmp 5]) (R0 q18_Find_E) D0 (q18_Find_l1_S l id) [(0, false), (1, false), (4, false), (6, false)] ((cx 25 [.cell 4 68, .tmp 5]).kAt b27 [true, false, true, false] (k0 (cx 25 [.cell 4 68, .tmp 5]).ti (cx 25 [.cell 4 68, .tmp 5]).rvs))) ((cx 25 [.cell 4 68, .tmp 5]).ex (sub b27 [true, false, true, false, false]) (q18_Find_l1_S l id s) T.done) (q18_Find_l1 l id s) := by
 delta q18_Find_l1
 refine Sat.ite (by kernel_rfl) ?_ ?_
 ·refine Sat.opt (enc := ApiGl.enc) (by kernel_rfl) (getRow_map _ _ _) (fun li => ?_)
  refine Sat.ite (by kernel_rfl) ?_ ?_
  ·refine Sat.opt (enc := ApiGl.enc) (by kernel_rfl) (getRow_map _ _ _) (fun li1 => ?_)
   refine Sat.retL (D := D0) (A := some (li1, true)) (by kernel_rfl) ?_
   exact Sat.ret0 [true, true] (by kernel_rfl) (by kernel_rfl)
  exact Sat.next (by kernel_rfl) (by kernel_rfl)
 refine Sat.out (id := 0) (A := some ((⟨0, 0, 0, (bs [])⟩ : ApiGl), false)) (by kernel_rfl) ?_
 exact Sat.ret0 [true, true] (by kernel_rfl) (by kernel_rfl)
theorem s_q18_Find (l : (List ApiGl)) (id : Int) : DoesP Tryz.prog gt 27 [.val (.slice (List.map ApiGl.enc l)), .val (.int .i64 id)] q18_Find_E (q18_Find l id) := by
 refine does_of (c := (cx 25 [.cell 4 68, .tmp 5])) c_ok (fn := Tryz.f27) (code := b27) Tryz.func27 (by kernel_rfl) (by kernel_rfl) (by kernel_rfl) (by kernel_rfl) (by kernel_rfl) ?_
 delta q18_Find
 exact Sat.loop (s0 := 0) [(0, false), (1, false), (4, false), (6, false)] c_ok (by kernel_rfl) (by kernel_rfl) (by kernel_rfl) (by kernel_rfl) (s_q18_Find_l1 l id)
noncomputable def b46 : Code := (Tryz.f46.body).getD .skip
def q18_Parent_E : Bool → List RR := fun r => [.val (.bool r)]
def q18_Parent_l1_S (l : (List ApiGl)) (id : Int) : Int → St := fun s => (⟨[(0, .rv (.val (.slice (List.map ApiGl.enc l)))), (1, .rv (.val (.int .i64 id))), (5, .rv (.val (.int .i64 s)))], [], 0⟩ : St)
theorem s_q18_Parent_l1 (l : (List ApiGl)) (id : Int) (s : Int) : Sat (cx 19 [.tmp 4]) (loopR (R0 q18_Parent_E)) (loopD (cx 19 [.tmp 4]) (R0 q18_Parent_E) D0 (q18_Parent_l1_S l id) [(0, false), (1, false), (5, false)] ((cx 19 [.tmp 4]).kAt b46 [true, false, true, false] (k0 (cx 19 [.tmp 4]).ti (cx 19 [.tmp 4]).rvs))) ((cx 19 [.tmp 4]).ex (sub b46 [true, false, true, false, false]) (q18_Parent_l1_S l id s) T.done) (q18_Parent_l1 l id s) := by
 delta q18_Parent_l1
 refine Sat.ite (by kernel_rfl) ?_ ?_
 ·refine Sat.opt (enc := ApiGl.enc) (by kernel_rfl) (getRow_map _ _ _) (fun li => ?_)
  refine Sat.ite (by kernel_rfl) ?_ ?_
  ·refine Sat.retL (D := D0) (A := some true) (by kernel_rfl) ?_
   exact Sat.ret0 [true] (by kernel_rfl) (by kernel_rfl)
  exact Sat.next (by kernel_rfl) (by kernel_rfl)
 refine Sat.out (id := 0) (A := some false) (by kernel_rfl) ?_
 exact Sat.ret0 [true] (by kernel_rfl) (by kernel_rfl)
theorem s_q18_Parent (l : (List ApiGl)) (id : Int) : DoesP Tryz.prog gt 46 [.val (.slice (List.map ApiGl.enc l)), .val (.int .i64 id)] q18_Parent_E (q18_Parent l id) := by
 refine does_of (c := (cx 19 [.tmp 4])) c_ok (fn := Tryz.f46) (code := b46) Tryz.func46 (by kernel_rfl) (by kernel_rfl) (by kernel_rfl) (by kernel_rfl) (by kernel_rfl) ?_
 delta q18_Parent
 exact Sat.loop (s0 := 0) [(0, false), (1, false), (5, false)] c_ok (by kernel_rfl) (by kernel_rfl) (by kernel_rfl) (by kernel_rfl) (s_q18_Parent_l1 l id)
noncomputable def b28 : Code := (Tryz.f28.body).getD .skip
def q18_used_E : Int → List RR := fun r => [.val (.int .i64 r)]
theorem s_q18_used (l : (List ApiGl)) (id : Int) (kind : Int) : DoesP Tryz.prog gt 28 [.val (.slice (List.map ApiGl.enc l)), .val (.int .i64 id), .val (.int .i64 kind)] q18_used_E (q18_used l id kind) := by
 refine does_of (c := (cx 26 [.tmp 6])) c_ok (fn := Tryz.f28) (code := b28) Tryz.func28 (by kernel_rfl) (by kernel_rfl) (by kernel_rfl) (by kernel_rfl) (by kernel_rfl) ?_
 delta q18_used
 refine Sat.call (s_q18_Find l id) (by kernel_rfl) (fun r => ?_)
 refine Sat.callG (s_q18_Parent l id) (by kernel_rfl) (fun r1 => ?_)
 refine Sat.ite (by kernel_rfl) ?_ ?_
 ·exact Sat.ret0 [true] (by kernel_rfl) (by kernel_rfl)
 refine Sat.ite (by kernel_rfl) ?_ ?_
 ·exact Sat.ret0 [true] (by kernel_rfl) (by kernel_rfl)
 exact Sat.ret0 [true] (by kernel_rfl) (by kernel_rfl)
noncomputable def b13 : Code := (Tryz.f13.body).getD .skip
def q18_Check_E : Int → List RR := fun r => [.val (.int .i64 r)]
def q18_Check_j0_S (l : (List ApiGl)) (p : ApiPlan) (s : Int) : Unit → St := fun s2 => (⟨[(0, .rv (.val (.slice (List.map ApiGl.enc l)))), (3, .box 0 0), (5, .rv (.val (.int .i64 s)))], [(0, some (.box [.val (.int .i64 p.Cash), .val (.int .i64 p.Deposits), .val (.int .i64 p.InterestPaid), .val (.int .i64 p.InterestEarned), .val (.int .i64 p.FeeEarned), .val (.int .i64 p.Tax), .val (.int .i64 p.Clearing), .val (.int .i64 p.Loans), .val (.int .i64 p.LoanInterest), .val (.int .i64 p.Penalty), .val (.int .i64 p.Provision), .val (.int .i64 p.ProvisionCost), .val (.int .i64 p.Loss), .val (.int .i64 p.Recovery)]))], 1⟩ : St)
def q18_Check_l2_S (l : (List ApiGl)) (p : ApiPlan) : Int → St := fun s4 => (⟨[(0, .rv (.val (.slice (List.map ApiGl.enc l)))), (9, .rv (.own 0)), (10, .rv (.own 1)), (11, .rv (.val (.int .i64 s4)))], [(0, some (.vec 3 (List.map (eInt .i64) ([p.Cash, p.Deposits, p.InterestPaid, p.InterestEarned, p.FeeEarned, p.Tax, p.Clearing, p.Loans, p.LoanInterest, p.Penalty, p.Provision, p.ProvisionCost, p.Loss, p.Recovery])))), (1, some (.vec 3 (List.map (eInt .i64) ([1, 2, 5, 4, 4, 2, 1, 1, 4, 4, 2, 5, 5, 4]))))], 2⟩ : St)
def q18_Check_l1_S (l : (List ApiGl)) (p : ApiPlan) : Int → St := fun s => (⟨[(0, .rv (.val (.slice (List.map ApiGl.enc l)))), (3, .box 0 0), (5, .rv (.val (.int .i64 s)))], [(0, some (.box [.val (.int .i64 p.Cash), .val (.int .i64 p.Deposits), .val (.int .i64 p.InterestPaid), .val (.int .i64 p.InterestEarned), .val (.int .i64 p.FeeEarned), .val (.int .i64 p.Tax), .val (.int .i64 p.Clearing), .val (.int .i64 p.Loans), .val (.int .i64 p.LoanInterest), .val (.int .i64 p.Penalty), .val (.int .i64 p.Provision), .val (.int .i64 p.ProvisionCost), .val (.int .i64 p.Loss), .val (.int .i64 p.Recovery)]))], 1⟩ : St)
theorem s_q18_Check_j0 (l : (List ApiGl)) (p : ApiPlan) (s : Int) (s2 : Unit) : Sat (cx 134 [.tmp 4]) (loopR (R0 q18_Check_E)) (loopD (cx 134 [.tmp 4]) (R0 q18_Check_E) D0 (q18_Check_l1_S l p) [(0, false), (3, false), (5, false)] ((cx 134 [.tmp 4]).kAt b13 [true, true, false, true, false] (k0 (cx 134 [.tmp 4]).ti (cx 134 [.tmp 4]).rvs))) ((cx 134 [.tmp 4]).ex (sub b13 [true, true, false, true, false, false, true, true]) (q18_Check_j0_S l p s s2) ((cx 134 [.tmp 4]).kAt b13 [true, true, false, true, false, false, true, true] (k0 (cx 134 [.tmp 4]).ti (cx 134 [.tmp 4]).rvs))) (q18_Check_j0 s s2) := by
 delta q18_Check_j0
 exact Sat.next (by kernel_rfl) (by kernel_rfl)
theorem s_q18_Check_l2 (l : (List ApiGl)) (p : ApiPlan) (s4 : Int) : Sat (cx 134 [.tmp 4]) (loopR (R0 q18_Check_E)) (loopD (cx 134 [.tmp 4]) (R0 q18_Check_E) D0 (q18_Check_l2_S l p) [(0, false), (9, false), (10, false), (11, false)] ((cx 134 [.tmp 4]).kAt b13 [true, true, true, true, true, false, true, false] (k0 (cx 134 [.tmp 4]).ti (cx 134 [.tmp 4]).rvs))) ((cx 134 [.tmp 4]).ex (sub b13 [true, true, true, true, true, false, true, false, false]) (q18_Check_l2_S l p s4) T.done) (q18_Check_l2 l p s4) := by
 delta q18_Check_l2
 refine Sat.ite (by kernel_rfl) ?_ ?_
 ·refine Sat.opt (enc := (eInt .i64)) (by kernel_rfl) (getRow_map _ _ _) (fun o => ?_)
  refine Sat.opt (enc := (eInt .i64)) (by kernel_rfl) (getEl_map _ _ _) (fun x => ?_)
  refine Sat.opt (enc := (eInt .i64)) (by kernel_rfl) (getRow_map _ _ _) (fun o5 => ?_)
  refine Sat.opt (enc := (eInt .i64)) (by kernel_rfl) (getEl_map _ _ _) (fun x6 => ?_)
  refine Sat.call (s_q18_used l x x6) (by kernel_rfl) (fun r7 => ?_)
  refine Sat.ite (by kernel_rfl) ?_ ?_
  ·refine Sat.retL (D := D0) (A := some r7) (by kernel_rfl) ?_
   exact Sat.ret0 [true] (by kernel_rfl) (by kernel_rfl)
  exact Sat.next (by kernel_rfl) (by kernel_rfl)
 refine Sat.out (id := 2) (A := some 0) (by kernel_rfl) ?_
 exact Sat.ret0 [true] (by kernel_rfl) (by kernel_rfl)
theorem s_q18_Check_l1 (l : (List ApiGl)) (p : ApiPlan) (s : Int) : Sat (cx 134 [.tmp 4]) (loopR (R0 q18_Check_E)) (loopD (cx 134 [.tmp 4]) (R0 q18_Check_E) D0 (q18_Check_l1_S l p) [(0, false), (3, false), (5, false)] ((cx 134 [.tmp 4]).kAt b13 [true, true, false, true, false] (k0 (cx 134 [.tmp 4]).ti (cx 134 [.tmp 4]).rvs))) ((cx 134 [.tmp 4]).ex (sub b13 [true, true, false, true, false, false]) (q18_Check_l1_S l p s) T.done) (q18_Check_l1 l p s) := by
 delta q18_Check_l1
 refine Sat.ite (by kernel_rfl) ?_ ?_
 ·refine Sat.opt (enc := ApiGl.enc) (by kernel_rfl) (getRow_map _ _ _) (fun li => ?_)
  refine Sat.ite (by kernel_rfl) ?_ ?_
  ·refine Sat.retL (D := D0) (A := some 1) (by kernel_rfl) ?_
   exact Sat.ret0 [true] (by kernel_rfl) (by kernel_rfl)
  refine Sat.optG (enc := ApiGl.enc) (by kernel_rfl) (getRow_map _ _ _) (fun li1 => ?_)
  refine Sat.ite (by kernel_rfl) ?_ ?_
  ·refine Sat.retL (D := D0) (A := some 10) (by kernel_rfl) ?_
   exact Sat.ret0 [true] (by kernel_rfl) (by kernel_rfl)
  refine Sat.call (s_q18_name li.Name) (by kernel_rfl) (fun r => ?_)
  refine Sat.ite (by kernel_rfl) ?_ ?_
  ·refine Sat.retL (D := D0) (A := some 4) (by kernel_rfl) ?_
   exact Sat.ret0 [true] (by kernel_rfl) (by kernel_rfl)
  refine Sat.ite (by kernel_rfl) ?_ ?_
  ·exact Sat.cut (s0 := ()) [(0, false), (3, false), (5, false)] c_ok (by kernel_rfl) (by kernel_rfl) (by kernel_rfl) (by kernel_rfl) (s_q18_Check_j0 l p s)
  refine Sat.need (g := true) (p := ((0 : Int) ≤ 0 ∧ 0 ≤ s ∧ s ≤ ((List.map ApiGl.enc l).length : Int)) ∧ ∀ r ∈ (List.map ApiGl.enc l), r.length = 4) (by kernel_rfl) (fun h _ => by exact ⟨by simpa using h, map_len ApiGl.enc 4 (fun _ => rfl) _⟩) ?_
  refine Sat.call (DoesP.cast (args := [.val (.slice (sliceRows (List.map ApiGl.enc l) 0 s)), .val (.int .i64 li.Parent)]) (by simp [ApiGl.enc, List.map_append, List.map_set, List.map_take, List.map_drop, sliceRows_map, List.map_replicate, eInt, eBool, eStr]) (s_q18_Find (subl l 0 s) li.Parent)) (by kernel_rfl) (fun r3 => ?_)
  refine Sat.ite (by kernel_rfl) ?_ ?_
  ·refine Sat.retL (D := D0) (A := some 11) (by kernel_rfl) ?_
   exact Sat.ret0 [true] (by kernel_rfl) (by kernel_rfl)
  refine Sat.ite (by kernel_rfl) ?_ ?_
  ·refine Sat.retL (D := D0) (A := some 3) (by kernel_rfl) ?_
   exact Sat.ret0 [true] (by kernel_rfl) (by kernel_rfl)
  exact Sat.cut (s0 := ()) [(0, false), (3, false), (5, false)] c_ok (by kernel_rfl) (by kernel_rfl) (by kernel_rfl) (by kernel_rfl) (s_q18_Check_j0 l p s)
 refine Sat.out (id := 0) (by kernel_rfl) ?_
 exact Sat.loop (s0 := 0) [(0, false), (9, false), (10, false), (11, false)] c_ok (by kernel_rfl) (by kernel_rfl) (by kernel_rfl) (by kernel_rfl) (s_q18_Check_l2 l p)
theorem s_q18_Check (l : (List ApiGl)) (p : ApiPlan) : DoesP Tryz.prog gt 13 [.val (.slice (List.map ApiGl.enc l)), .val (.agg (ApiPlan.enc p))] q18_Check_E (q18_Check l p) := by
 refine does_of (c := (cx 134 [.tmp 4])) c_ok (fn := Tryz.f13) (code := b13) Tryz.func13 (by kernel_rfl) (by kernel_rfl) (by kernel_rfl) (by kernel_rfl) (by kernel_rfl) ?_
 delta q18_Check
 refine Sat.ite (by kernel_rfl) ?_ ?_
 ·exact Sat.ret0 [true] (by kernel_rfl) (by kernel_rfl)
 exact Sat.loop (s0 := 0) [(0, false), (3, false), (5, false)] c_ok (by kernel_rfl) (by kernel_rfl) (by kernel_rfl) (by kernel_rfl) (s_q18_Check_l1 l p)
noncomputable def b47 : Code := (Tryz.f47.body).getD .skip
def q17_before_E : Bool → List RR := fun r => [.val (.bool r)]
theorem s_q17_before (a : ApiProduct) (b : ApiProduct) : DoesP Tryz.prog gt 47 [.val (.agg (ApiProduct.enc a)), .val (.agg (ApiProduct.enc b))] q17_before_E (q17_before a b) := by
 refine does_of (c := (cx 24 [.tmp 4])) c_ok (fn := Tryz.f47) (code := b47) Tryz.func47 (by kernel_rfl) (by kernel_rfl) (by kernel_rfl) (by kernel_rfl) (by kernel_rfl) ?_
 delta q17_before
 exact Sat.ret0 [true] (by kernel_rfl) (by kernel_rfl)
noncomputable def b29 : Code := (Tryz.f29.body).getD .skip
def q17_Check_E : Int → List RR := fun r => [.val (.int .i64 r)]
def q17_Check_l2_S (l : (List ApiProduct)) : Int → St := fun s2 => (⟨[(0, .rv (.val (.slice (List.map ApiProduct.enc l)))), (4, .rv (.val (.int .i64 s2)))], [], 0⟩ : St)
def q17_Check_l1_S (l : (List ApiProduct)) : Int → St := fun s => (⟨[(0, .rv (.val (.slice (List.map ApiProduct.enc l)))), (3, .rv (.val (.int .i64 s)))], [], 0⟩ : St)
theorem s_q17_Check_l2 (l : (List ApiProduct)) (s2 : Int) : Sat (cx 57 [.tmp 2]) (loopR (R0 q17_Check_E)) (loopD (cx 57 [.tmp 2]) (R0 q17_Check_E) D0 (q17_Check_l2_S l) [(0, false), (4, false)] ((cx 57 [.tmp 2]).kAt b29 [true, true, true, false, true, false] (k0 (cx 57 [.tmp 2]).ti (cx 57 [.tmp 2]).rvs))) ((cx 57 [.tmp 2]).ex (sub b29 [true, true, true, false, true, false, false]) (q17_Check_l2_S l s2) T.done) (q17_Check_l2 l s2) := by
 delta q17_Check_l2
 refine Sat.ite (by kernel_rfl) ?_ ?_
 ·refine Sat.opt (enc := ApiProduct.enc) (by kernel_rfl) (getRow_map _ _ _) (fun li3 => ?_)
  refine Sat.opt (enc := ApiProduct.enc) (by kernel_rfl) (getRow_map _ _ _) (fun li4 => ?_)
  refine Sat.optG (enc := ApiProduct.enc) (by kernel_rfl) (getRow_map _ _ _) (fun li5 => ?_)
  refine Sat.optG (enc := ApiProduct.enc) (by kernel_rfl) (getRow_map _ _ _) (fun li6 => ?_)
  refine Sat.ite (by kernel_rfl) ?_ ?_
  ·refine Sat.retL (D := D0) (A := some 14) (by kernel_rfl) ?_
   exact Sat.ret0 [true] (by kernel_rfl) (by kernel_rfl)
  exact Sat.next (by kernel_rfl) (by kernel_rfl)
 refine Sat.out (id := 2) (A := some 0) (by kernel_rfl) ?_
 exact Sat.ret0 [true] (by kernel_rfl) (by kernel_rfl)
theorem s_q17_Check_l1 (l : (List ApiProduct)) (s : Int) : Sat (cx 57 [.tmp 2]) (loopR (R0 q17_Check_E)) (loopD (cx 57 [.tmp 2]) (R0 q17_Check_E) D0 (q17_Check_l1_S l) [(0, false), (3, false)] ((cx 57 [.tmp 2]).kAt b29 [true, true, false, true, false] (k0 (cx 57 [.tmp 2]).ti (cx 57 [.tmp 2]).rvs))) ((cx 57 [.tmp 2]).ex (sub b29 [true, true, false, true, false, false]) (q17_Check_l1_S l s) T.done) (q17_Check_l1 l s) := by
 delta q17_Check_l1
 refine Sat.ite (by kernel_rfl) ?_ ?_
 ·refine Sat.opt (enc := ApiProduct.enc) (by kernel_rfl) (getRow_map _ _ _) (fun li => ?_)
  refine Sat.opt (enc := ApiProduct.enc) (by kernel_rfl) (getRow_map _ _ _) (fun li1 => ?_)
  refine Sat.call (s_q17_before li li1) (by kernel_rfl) (fun r => ?_)
  refine Sat.ite (by kernel_rfl) ?_ ?_
  ·refine Sat.retL (D := D0) (A := some 10) (by kernel_rfl) ?_
   exact Sat.ret0 [true] (by kernel_rfl) (by kernel_rfl)
  exact Sat.next (by kernel_rfl) (by kernel_rfl)
 refine Sat.out (id := 0) (by kernel_rfl) ?_
 exact Sat.loop (s0 := 1) [(0, false), (4, false)] c_ok (by kernel_rfl) (by kernel_rfl) (by kernel_rfl) (by kernel_rfl) (s_q17_Check_l2 l)
theorem s_q17_Check (l : (List ApiProduct)) : DoesP Tryz.prog gt 29 [.val (.slice (List.map ApiProduct.enc l))] q17_Check_E (q17_Check l) := by
 refine does_of (c := (cx 57 [.tmp 2])) c_ok (fn := Tryz.f29) (code := b29) Tryz.func29 (by kernel_rfl) (by kernel_rfl) (by kernel_rfl) (by kernel_rfl) (by kernel_rfl) ?_
 delta q17_Check
 refine Sat.ite (by kernel_rfl) ?_ ?_
 ·exact Sat.ret0 [true] (by kernel_rfl) (by kernel_rfl)
 exact Sat.loop (s0 := 1) [(0, false), (3, false)] c_ok (by kernel_rfl) (by kernel_rfl) (by kernel_rfl) (by kernel_rfl) (s_q17_Check_l1 l)
noncomputable def b48 : Code := (Tryz.f48.body).getD .skip
def q15_Name_E : Bool → List RR := fun r => [.val (.bool r)]
def q15_Name_l1_S (s : ByteArray) : Int → St := fun s1 => (⟨[(0, .rv (.val (.str s))), (3, .rv (.val (.int .i64 s1)))], [], 0⟩ : St)
theorem s_q15_Name_l1 (s : ByteArray) (s1 : Int) : Sat (cx 55 [.tmp 2]) (loopR (R0 q15_Name_E)) (loopD (cx 55 [.tmp 2]) (R0 q15_Name_E) D0 (q15_Name_l1_S s) [(0, false), (3, false)] ((cx 55 [.tmp 2]).kAt b48 [true, true, false, true, false] (k0 (cx 55 [.tmp 2]).ti (cx 55 [.tmp 2]).rvs))) ((cx 55 [.tmp 2]).ex (sub b48 [true, true, false, true, false, false]) (q15_Name_l1_S s s1) T.done) (q15_Name_l1 s s1) := by
 delta q15_Name_l1
 refine Sat.ite (by kernel_rfl) ?_ ?_
 ·refine Sat.need (g := true) (p := (0 : Int) ≤ s1 ∧ s1 < (s.size : Int)) (by kernel_rfl) (fun h _ => by exact h) ?_
  refine Sat.need (g := (((decide ((bt s s1) < 97)) == false) && true)) (p := (0 : Int) ≤ s1 ∧ s1 < (s.size : Int)) (by kernel_rfl) (fun h0 hg => by have h := h0 hg; exact h) ?_
  refine Sat.need (g := (((bif (decide ((bt s s1) < 97)) then true else (decide ((bt s s1) > 122))) == true) && true)) (p := (0 : Int) ≤ s1 ∧ s1 < (s.size : Int)) (by kernel_rfl) (fun h0 hg => by have h := h0 hg; exact h) ?_
  refine Sat.need (g := (((decide ((bt s s1) < 48)) == false) && (((bif (decide ((bt s s1) < 97)) then true else (decide ((bt s s1) > 122))) == true) && true))) (p := (0 : Int) ≤ s1 ∧ s1 < (s.size : Int)) (by kernel_rfl) (fun h0 hg => by have h := h0 hg; exact h) ?_
  refine Sat.need (g := (((bif (bif (decide ((bt s s1) < 97)) then true else (decide ((bt s s1) > 122))) then (bif (decide ((bt s s1) < 48)) then true else (decide ((bt s s1) > 57))) else false) == true) && true)) (p := (0 : Int) ≤ s1 ∧ s1 < (s.size : Int)) (by kernel_rfl) (fun h0 hg => by have h := h0 hg; exact h) ?_
  refine Sat.ite (by kernel_rfl) ?_ ?_
  ·refine Sat.retL (D := D0) (A := some false) (by kernel_rfl) ?_
   exact Sat.ret0 [true] (by kernel_rfl) (by kernel_rfl)
  exact Sat.next (by kernel_rfl) (by kernel_rfl)
 refine Sat.out (id := 0) (A := some true) (by kernel_rfl) ?_
 exact Sat.ret0 [true] (by kernel_rfl) (by kernel_rfl)
theorem s_q15_Name (s : ByteArray) : DoesP Tryz.prog gt 48 [.val (.str s)] q15_Name_E (q15_Name s) := by
 refine does_of (c := (cx 55 [.tmp 2])) c_ok (fn := Tryz.f48) (code := b48) Tryz.func48 (by kernel_rfl) (by kernel_rfl) (by kernel_rfl) (by kernel_rfl) (by kernel_rfl) ?_
 delta q15_Name
 refine Sat.need (g := (((bif (s.toList == (bs []).toList) then true else (decide ((s.size : Int) > 16))) == false) && true)) (p := (0 : Int) ≤ 0 ∧ 0 < (s.size : Int)) (by kernel_rfl) (fun h0 hg => by have h := h0 hg; exact h) ?_
 refine Sat.need (g := (((bif (bif (s.toList == (bs []).toList) then true else (decide ((s.size : Int) > 16))) then true else (decide ((bt s 0) < 97))) == false) && true)) (p := (0 : Int) ≤ 0 ∧ 0 < (s.size : Int)) (by kernel_rfl) (fun h0 hg => by have h := h0 hg; exact h) ?_
 refine Sat.ite (by kernel_rfl) ?_ ?_
 ·exact Sat.ret0 [true] (by kernel_rfl) (by kernel_rfl)
 exact Sat.loop (s0 := 1) [(0, false), (3, false)] c_ok (by kernel_rfl) (by kernel_rfl) (by kernel_rfl) (by kernel_rfl) (s_q15_Name_l1 s)
noncomputable def b49 : Code := (Tryz.f49.body).getD .skip
def q03_Find_E : (ApiCurrency × Bool) → List RR := fun r => [.val (.agg (ApiCurrency.enc r.1)), .val (.bool r.2)]
def q03_Find_l1_S (l : (List ApiCurrency)) (code : ByteArray) : Int → St := fun s => (⟨[(0, .rv (.val (.slice (List.map ApiCurrency.enc l)))), (1, .rv (.val (.str code))), (4, .box 0 0), (6, .rv (.val (.int .i64 s)))], [(0, some (.box [.val (.str (bs [])), .val (.int .i64 0)]))], 1⟩ : St)
theorem s_q03_Find_l1 (l : (List ApiCurrency)) (code : ByteArray) (s : Int) : Sat (cx 25 [.cell 4 63, .tmp 5]) (loopR (R0 q03_Find_E)) (loopD (cx 25 [.cell 4 63, .tmp 5]) (R0 q03_Find_E) D0 (q03_Find_l1_S l code) [(0, false), (1, false), (4, false), (6, false)] ((cx 25 [.cell 4 63, .tmp 5]).kAt b49 [true, false, true, false] (k0 (cx 25 [.cell 4 63, .tmp 5]).ti (cx 25 [.cell 4 63, .tmp 5]).rvs))) ((cx 25 [.cell 4 63, .tmp 5]).ex (sub b49 [true, false, true, false, false]) (q03_Find_l1_S l code s) T.done) (q03_Find_l1 l code s) := by
 delta q03_Find_l1
 refine Sat.ite (by kernel_rfl) ?_ ?_
 ·refine Sat.opt (enc := ApiCurrency.enc) (by kernel_rfl) (getRow_map _ _ _) (fun li => ?_)
  refine Sat.ite (by kernel_rfl) ?_ ?_
  ·refine Sat.opt (enc := ApiCurrency.enc) (by kernel_rfl) (getRow_map _ _ _) (fun li1 => ?_)
   refine Sat.retL (D := D0) (A := some (li1, true)) (by kernel_rfl) ?_
   exact Sat.ret0 [true, true] (by kernel_rfl) (by kernel_rfl)
  exact Sat.next (by kernel_rfl) (by kernel_rfl)
 refine Sat.out (id := 0) (A := some ((⟨(bs []), 0⟩ : ApiCurrency), false)) (by kernel_rfl) ?_
 exact Sat.ret0 [true, true] (by kernel_rfl) (by kernel_rfl)
theorem s_q03_Find (l : (List ApiCurrency)) (code : ByteArray) : DoesP Tryz.prog gt 49 [.val (.slice (List.map ApiCurrency.enc l)), .val (.str code)] q03_Find_E (q03_Find l code) := by
 refine does_of (c := (cx 25 [.cell 4 63, .tmp 5])) c_ok (fn := Tryz.f49) (code := b49) Tryz.func49 (by kernel_rfl) (by kernel_rfl) (by kernel_rfl) (by kernel_rfl) (by kernel_rfl) ?_
 delta q03_Find
 exact Sat.loop (s0 := 0) [(0, false), (1, false), (4, false), (6, false)] c_ok (by kernel_rfl) (by kernel_rfl) (by kernel_rfl) (by kernel_rfl) (s_q03_Find_l1 l code)
noncomputable def b50 : Code := (Tryz.f50.body).getD .skip
def q05_Find_E : (ApiCalendar × Bool) → List RR := fun r => [.val (.agg (ApiCalendar.enc r.1)), .val (.bool r.2)]
def q05_Find_l1_S (l : (List ApiCalendar)) (name : ByteArray) : Int → St := fun s => (⟨[(0, .rv (.val (.slice (List.map ApiCalendar.enc l)))), (1, .rv (.val (.str name))), (4, .box 0 0), (6, .rv (.val (.int .i64 s)))], [(0, some (.box [.val (.str (bs [])), .nils, .nils]))], 1⟩ : St)
theorem s_q05_Find_l1 (l : (List ApiCalendar)) (name : ByteArray) (s : Int) : Sat (cx 25 [.cell 4 66, .tmp 5]) (loopR (R0 q05_Find_E)) (loopD (cx 25 [.cell 4 66, .tmp 5]) (R0 q05_Find_E) D0 (q05_Find_l1_S l name) [(0, false), (1, false), (4, false), (6, false)] ((cx 25 [.cell 4 66, .tmp 5]).kAt b50 [true, false, true, false] (k0 (cx 25 [.cell 4 66, .tmp 5]).ti (cx 25 [.cell 4 66, .tmp 5]).rvs))) ((cx 25 [.cell 4 66, .tmp 5]).ex (sub b50 [true, false, true, false, false]) (q05_Find_l1_S l name s) T.done) (q05_Find_l1 l name s) := by
 delta q05_Find_l1
 refine Sat.ite (by kernel_rfl) ?_ ?_
 ·refine Sat.opt (enc := ApiCalendar.enc) (by kernel_rfl) (getRow_map _ _ _) (fun li => ?_)
  refine Sat.ite (by kernel_rfl) ?_ ?_
  ·refine Sat.opt (enc := ApiCalendar.enc) (by kernel_rfl) (getRow_map _ _ _) (fun li1 => ?_)
   refine Sat.retL (D := D0) (A := some (li1, true)) (by kernel_rfl) ?_
   exact Sat.ret0 [true, true] (by kernel_rfl) (by kernel_rfl)
  exact Sat.next (by kernel_rfl) (by kernel_rfl)
 refine Sat.out (id := 0) (A := some ((⟨(bs []), [], []⟩ : ApiCalendar), false)) (by kernel_rfl) ?_
 exact Sat.ret0 [true, true] (by kernel_rfl) (by kernel_rfl)
theorem s_q05_Find (l : (List ApiCalendar)) (name : ByteArray) : DoesP Tryz.prog gt 50 [.val (.slice (List.map ApiCalendar.enc l)), .val (.str name)] q05_Find_E (q05_Find l name) := by
 refine does_of (c := (cx 25 [.cell 4 66, .tmp 5])) c_ok (fn := Tryz.f50) (code := b50) Tryz.func50 (by kernel_rfl) (by kernel_rfl) (by kernel_rfl) (by kernel_rfl) (by kernel_rfl) ?_
 delta q05_Find
 exact Sat.loop (s0 := 0) [(0, false), (1, false), (4, false), (6, false)] c_ok (by kernel_rfl) (by kernel_rfl) (by kernel_rfl) (by kernel_rfl) (s_q05_Find_l1 l name)
noncomputable def b72 : Code := (Tryz.f72.body).getD .skip
def q14_Check_E : Int → List RR := fun r => [.val (.int .i64 r)]
def q14_Check_l2_S (l : (List ApiTier)) : Int → St := fun s4 => (⟨[(0, .rv (.val (.slice (List.map ApiTier.enc l)))), (4, .rv (.val (.int .i64 s4)))], [], 0⟩ : St)
def q14_Check_l1_S (l : (List ApiTier)) : Int → St := fun s => (⟨[(0, .rv (.val (.slice (List.map ApiTier.enc l)))), (3, .rv (.val (.int .i64 s)))], [], 0⟩ : St)
theorem s_q14_Check_l2 (l : (List ApiTier)) (s4 : Int) : Sat (cx 72 [.tmp 2]) (loopR (R0 q14_Check_E)) (loopD (cx 72 [.tmp 2]) (R0 q14_Check_E) D0 (q14_Check_l2_S l) [(0, false), (4, false)] ((cx 72 [.tmp 2]).kAt b72 [true, true, true, false, true, false] (k0 (cx 72 [.tmp 2]).ti (cx 72 [.tmp 2]).rvs))) ((cx 72 [.tmp 2]).ex (sub b72 [true, true, true, false, true, false, false]) (q14_Check_l2_S l s4) T.done) (q14_Check_l2 l s4) := by
 delta q14_Check_l2
 refine Sat.ite (by kernel_rfl) ?_ ?_
 ·refine Sat.opt (enc := ApiTier.enc) (by kernel_rfl) (getRow_map _ _ _) (fun li5 => ?_)
  refine Sat.opt (enc := ApiTier.enc) (by kernel_rfl) (getRow_map _ _ _) (fun li6 => ?_)
  refine Sat.ite (by kernel_rfl) ?_ ?_
  ·refine Sat.retL (D := D0) (A := some 10) (by kernel_rfl) ?_
   exact Sat.ret0 [true] (by kernel_rfl) (by kernel_rfl)
  exact Sat.next (by kernel_rfl) (by kernel_rfl)
 refine Sat.out (id := 2) (by kernel_rfl) ?_
 refine Sat.optG (enc := ApiTier.enc) (by kernel_rfl) (getRow_map _ _ _) (fun li7 => ?_)
 refine Sat.ite (by kernel_rfl) ?_ ?_
 ·exact Sat.ret0 [true] (by kernel_rfl) (by kernel_rfl)
 exact Sat.ret0 [true] (by kernel_rfl) (by kernel_rfl)
theorem s_q14_Check_l1 (l : (List ApiTier)) (s : Int) : Sat (cx 72 [.tmp 2]) (loopR (R0 q14_Check_E)) (loopD (cx 72 [.tmp 2]) (R0 q14_Check_E) D0 (q14_Check_l1_S l) [(0, false), (3, false)] ((cx 72 [.tmp 2]).kAt b72 [true, true, false, true, false] (k0 (cx 72 [.tmp 2]).ti (cx 72 [.tmp 2]).rvs))) ((cx 72 [.tmp 2]).ex (sub b72 [true, true, false, true, false, false]) (q14_Check_l1_S l s) T.done) (q14_Check_l1 l s) := by
 delta q14_Check_l1
 refine Sat.ite (by kernel_rfl) ?_ ?_
 ·refine Sat.opt (enc := ApiTier.enc) (by kernel_rfl) (getRow_map _ _ _) (fun li => ?_)
  refine Sat.optG (enc := ApiTier.enc) (by kernel_rfl) (getRow_map _ _ _) (fun li1 => ?_)
  refine Sat.optG (enc := ApiTier.enc) (by kernel_rfl) (getRow_map _ _ _) (fun li2 => ?_)
  refine Sat.optG (enc := ApiTier.enc) (by kernel_rfl) (getRow_map _ _ _) (fun li3 => ?_)
  refine Sat.ite (by kernel_rfl) ?_ ?_
  ·refine Sat.retL (D := D0) (A := some 1) (by kernel_rfl) ?_
   exact Sat.ret0 [true] (by kernel_rfl) (by kernel_rfl)
  exact Sat.next (by kernel_rfl) (by kernel_rfl)
 refine Sat.out (id := 0) (by kernel_rfl) ?_
 exact Sat.loop (s0 := 1) [(0, false), (4, false)] c_ok (by kernel_rfl) (by kernel_rfl) (by kernel_rfl) (by kernel_rfl) (s_q14_Check_l2 l)
theorem s_q14_Check (l : (List ApiTier)) : DoesP Tryz.prog gt 72 [.val (.slice (List.map ApiTier.enc l))] q14_Check_E (q14_Check l) := by
 refine does_of (c := (cx 72 [.tmp 2])) c_ok (fn := Tryz.f72) (code := b72) Tryz.func72 (by kernel_rfl) (by kernel_rfl) (by kernel_rfl) (by kernel_rfl) (by kernel_rfl) ?_
 delta q14_Check
 refine Sat.ite (by kernel_rfl) ?_ ?_
 ·exact Sat.ret0 [true] (by kernel_rfl) (by kernel_rfl)
 exact Sat.loop (s0 := 0) [(0, false), (3, false)] c_ok (by kernel_rfl) (by kernel_rfl) (by kernel_rfl) (by kernel_rfl) (s_q14_Check_l1 l)
noncomputable def b51 : Code := (Tryz.f51.body).getD .skip
def q15_interest_E : Int → List RR := fun r => [.val (.int .i64 r)]
theorem s_q15_interest (x : ApiInterest) : DoesP Tryz.prog gt 51 [.val (.agg (ApiInterest.enc x))] q15_interest_E (q15_interest x) := by
 refine does_of (c := (cx 28 [.tmp 2])) c_ok (fn := Tryz.f51) (code := b51) Tryz.func51 (by kernel_rfl) (by kernel_rfl) (by kernel_rfl) (by kernel_rfl) (by kernel_rfl) ?_
 delta q15_interest
 refine Sat.call (s_q14_Check x.Tiers) (by kernel_rfl) (fun r => ?_)
 refine Sat.ite (by kernel_rfl) ?_ ?_
 ·exact Sat.ret0 [true] (by kernel_rfl) (by kernel_rfl)
 refine Sat.ite (by kernel_rfl) ?_ ?_
 ·exact Sat.ret0 [true] (by kernel_rfl) (by kernel_rfl)
 exact Sat.ret0 [true] (by kernel_rfl) (by kernel_rfl)
noncomputable def b74 : Code := (Tryz.f74.body).getD .skip
def q15_Vars_E : (List ApiVar) → List RR := fun r => [.own 169 (List.map ApiVar.enc r)]
theorem s_q15_Vars : DoesP Tryz.prog gt 74 [] q15_Vars_E (q15_Vars) := by
 refine does_of (c := (cx 9 [.tmp 0])) c_ok (fn := Tryz.f74) (code := b74) Tryz.func74 (by kernel_rfl) (by kernel_rfl) (by kernel_rfl) (by kernel_rfl) (by kernel_rfl) ?_
 delta q15_Vars
 exact Sat.ret0 [false] (by kernel_rfl) (by kernel_rfl)
noncomputable def b180 : Code := (Tryz.f180.body).getD .skip
def q10_count_E : Int → List RR := fun r => [.val (.int .i64 r)]
def q10_count_l1_S (e : ApiExpr) (most : Int) : (Int × Int) → St := fun s => (⟨[(1, .rv (.val (.int .i64 most))), (2, .box 0 0), (5, .rv (.val (.int .i64 s.1))), (6, .rv (.val (.int .i64 s.2)))], [(0, some (.box [.val (.int .i64 e.Op), .val (.int .i64 e.N), .val (.str e.S), .val (.slice (List.map ApiExpr.enc e.Args))]))], 1⟩ : St)
theorem s_q10_count_l1 (e : ApiExpr) (most : Int) (rec_q10_count : (ApiExpr → Int → Option Int)) (h_rec_q10_count : ∀ (e : ApiExpr) (most : Int), DoesP Tryz.prog gt 180 [.val (.agg (ApiExpr.enc1 e)), .val (.int .i64 most)] q10_count_E (rec_q10_count e most)) (s : (Int × Int)) : Sat (cx 31 [.tmp 4]) (loopR (R0 q10_count_E)) (loopD (cx 31 [.tmp 4]) (R0 q10_count_E) D0 (q10_count_l1_S e most) [(1, false), (2, false), (5, false), (6, false)] ((cx 31 [.tmp 4]).kAt b180 [true, true, false, true, false] (k0 (cx 31 [.tmp 4]).ti (cx 31 [.tmp 4]).rvs))) ((cx 31 [.tmp 4]).ex (sub b180 [true, true, false, true, false, false]) (q10_count_l1_S e most s) T.done) (q10_count_l1 e most rec_q10_count s) := by
 delta q10_count_l1
 refine Sat.ite (by kernel_rfl) ?_ ?_
 ·refine Sat.opt (enc := ApiExpr.enc1) (by kernel_rfl) (getRow_mapE ApiExpr.enc_eq _ _) (fun arg => ?_)
  refine Sat.call (h_rec_q10_count arg (IntKind.wrap .i64 (most - s.1))) (by kernel_rfl) (fun r => ?_)
  exact Sat.next (by kernel_rfl) (by kernel_rfl)
 refine Sat.out (id := 0) (A := some s.1) (by kernel_rfl) ?_
 exact Sat.ret0 [true] (by kernel_rfl) (by kernel_rfl)
theorem s_q10_count_body (rec_q10_count : (ApiExpr → Int → Option Int)) (h_rec_q10_count : ∀ (e : ApiExpr) (most : Int), DoesP Tryz.prog gt 180 [.val (.agg (ApiExpr.enc1 e)), .val (.int .i64 most)] q10_count_E (rec_q10_count e most)) (e : ApiExpr) (most : Int) : DoesP Tryz.prog gt 180 [.val (.agg (ApiExpr.enc1 e)), .val (.int .i64 most)] q10_count_E (q10_count_body rec_q10_count e most) := by
 refine does_of (c := (cx 31 [.tmp 4])) c_ok (fn := Tryz.f180) (code := b180) Tryz.func180 (by kernel_rfl) (by kernel_rfl) (by kernel_rfl) (by kernel_rfl) (by kernel_rfl) ?_
 delta q10_count_body
 exact Sat.loop (s0 := (1, 0)) [(1, false), (2, false), (5, false), (6, false)] c_ok (by kernel_rfl) (by kernel_rfl) (by kernel_rfl) (by kernel_rfl) (s_q10_count_l1 e most rec_q10_count h_rec_q10_count)
theorem s_q10_count : ∀ (n : Nat) (e : ApiExpr) (most : Int), DoesP Tryz.prog gt 180 [.val (.agg (ApiExpr.enc1 e)), .val (.int .i64 most)] q10_count_E (q10_count n e most)
 | 0, e, most => fun _ h => by cases h
 | n + 1, e, most => s_q10_count_body (q10_count n) (s_q10_count n) e most
noncomputable def b160 : Code := (Tryz.f160.body).getD .skip
def q10_Great_E : Bool → List RR := fun r => [.val (.bool r)]
theorem s_q10_Great (e : ApiExpr) (most : Int) : DoesP Tryz.prog gt 160 [.val (.agg (ApiExpr.enc1 e)), .val (.int .i64 most)] q10_Great_E (q10_Great e most) := by
 refine does_of (c := (cx 10 [.tmp 4])) c_ok (fn := Tryz.f160) (code := b160) Tryz.func160 (by kernel_rfl) (by kernel_rfl) (by kernel_rfl) (by kernel_rfl) (by kernel_rfl) ?_
 delta q10_Great
 refine Sat.call (s_q10_count 2097152 e most) (by kernel_rfl) (fun r => ?_)
 exact Sat.ret0 [true] (by kernel_rfl) (by kernel_rfl)
noncomputable def b161 : Code := (Tryz.f161.body).getD .skip
def q10_Depth_E : Int → List RR := fun r => [.val (.int .i64 r)]
def q10_Depth_l1_S (e : ApiExpr) : (Int × Int) → St := fun s => (⟨[(1, .box 0 0), (3, .rv (.val (.int .i64 s.1))), (4, .rv (.val (.int .i64 s.2)))], [(0, some (.box [.val (.int .i64 e.Op), .val (.int .i64 e.N), .val (.str e.S), .val (.slice (List.map ApiExpr.enc e.Args))]))], 1⟩ : St)
theorem s_q10_Depth_l1 (e : ApiExpr) (rec_q10_Depth : (ApiExpr → Option Int)) (h_rec_q10_Depth : ∀ (e : ApiExpr), DoesP Tryz.prog gt 161 [.val (.agg (ApiExpr.enc1 e))] q10_Depth_E (rec_q10_Depth e)) (s : (Int × Int)) : Sat (cx 22 [.tmp 2]) (loopR (R0 q10_Depth_E)) (loopD (cx 22 [.tmp 2]) (R0 q10_Depth_E) D0 (q10_Depth_l1_S e) [(1, false), (3, false), (4, false)] ((cx 22 [.tmp 2]).kAt b161 [true, true, false, true, false] (k0 (cx 22 [.tmp 2]).ti (cx 22 [.tmp 2]).rvs))) ((cx 22 [.tmp 2]).ex (sub b161 [true, true, false, true, false, false]) (q10_Depth_l1_S e s) T.done) (q10_Depth_l1 e rec_q10_Depth s) := by
 delta q10_Depth_l1
 refine Sat.ite (by kernel_rfl) ?_ ?_
 ·refine Sat.opt (enc := ApiExpr.enc1) (by kernel_rfl) (getRow_mapE ApiExpr.enc_eq _ _) (fun arg => ?_)
  refine Sat.call (h_rec_q10_Depth arg) (by kernel_rfl) (fun r => ?_)
  exact Sat.next (by kernel_rfl) (by kernel_rfl)
 refine Sat.out (id := 0) (A := some (IntKind.wrap .i64 (s.1 + 1))) (by kernel_rfl) ?_
 exact Sat.ret0 [true] (by kernel_rfl) (by kernel_rfl)
theorem s_q10_Depth_body (rec_q10_Depth : (ApiExpr → Option Int)) (h_rec_q10_Depth : ∀ (e : ApiExpr), DoesP Tryz.prog gt 161 [.val (.agg (ApiExpr.enc1 e))] q10_Depth_E (rec_q10_Depth e)) (e : ApiExpr) : DoesP Tryz.prog gt 161 [.val (.agg (ApiExpr.enc1 e))] q10_Depth_E (q10_Depth_body rec_q10_Depth e) := by
 refine does_of (c := (cx 22 [.tmp 2])) c_ok (fn := Tryz.f161) (code := b161) Tryz.func161 (by kernel_rfl) (by kernel_rfl) (by kernel_rfl) (by kernel_rfl) (by kernel_rfl) ?_
 delta q10_Depth_body
 exact Sat.loop (s0 := (0, 0)) [(1, false), (3, false), (4, false)] c_ok (by kernel_rfl) (by kernel_rfl) (by kernel_rfl) (by kernel_rfl) (s_q10_Depth_l1 e rec_q10_Depth h_rec_q10_Depth)
theorem s_q10_Depth : ∀ (n : Nat) (e : ApiExpr), DoesP Tryz.prog gt 161 [.val (.agg (ApiExpr.enc1 e))] q10_Depth_E (q10_Depth n e)
 | 0, e => fun _ h => by cases h
 | n + 1, e => s_q10_Depth_body (q10_Depth n) (s_q10_Depth n) e
noncomputable def b181 : Code := (Tryz.f181.body).getD .skip
def q10_Operands_E : Int → List RR := fun r => [.val (.int .i64 r)]
theorem s_q10_Operands (op : Int) : DoesP Tryz.prog gt 181 [.val (.int .i64 op)] q10_Operands_E (q10_Operands op) := by
 refine does_of (c := (cx 23 [.tmp 2])) c_ok (fn := Tryz.f181) (code := b181) Tryz.func181 (by kernel_rfl) (by kernel_rfl) (by kernel_rfl) (by kernel_rfl) (by kernel_rfl) ?_
 delta q10_Operands
 refine Sat.ite (by kernel_rfl) ?_ ?_
 ·exact Sat.ret0 [true] (by kernel_rfl) (by kernel_rfl)
 refine Sat.ite (by kernel_rfl) ?_ ?_
 ·exact Sat.ret0 [true] (by kernel_rfl) (by kernel_rfl)
 refine Sat.ite (by kernel_rfl) ?_ ?_
 ·exact Sat.ret0 [true] (by kernel_rfl) (by kernel_rfl)
 refine Sat.ite (by kernel_rfl) ?_ ?_
 ·exact Sat.ret0 [true] (by kernel_rfl) (by kernel_rfl)
 exact Sat.ret0 [true] (by kernel_rfl) (by kernel_rfl)
noncomputable def b182 : Code := (Tryz.f182.body).getD .skip
def q10_most_E : Int → List RR := fun r => [.val (.int .i64 r)]
theorem s_q10_most (op : Int) : DoesP Tryz.prog gt 182 [.val (.int .i64 op)] q10_most_E (q10_most op) := by
 refine does_of (c := (cx 10 [.tmp 2])) c_ok (fn := Tryz.f182) (code := b182) Tryz.func182 (by kernel_rfl) (by kernel_rfl) (by kernel_rfl) (by kernel_rfl) (by kernel_rfl) ?_
 delta q10_most
 refine Sat.ite (by kernel_rfl) ?_ ?_
 ·exact Sat.ret0 [true] (by kernel_rfl) (by kernel_rfl)
 refine Sat.ite (by kernel_rfl) ?_ ?_
 ·exact Sat.ret0 [true] (by kernel_rfl) (by kernel_rfl)
 refine Sat.ite (by kernel_rfl) ?_ ?_
 ·exact Sat.ret0 [true] (by kernel_rfl) (by kernel_rfl)
 exact Sat.ret0 [true] (by kernel_rfl) (by kernel_rfl)
noncomputable def b162 : Code := (Tryz.f162.body).getD .skip
def q10_right_E : Bool → List RR := fun r => [.val (.bool r)]
def q10_right_l1_S (e : ApiExpr) : Int → St := fun s => (⟨[(1, .box 0 0), (3, .rv (.val (.int .i64 s)))], [(0, some (.box [.val (.int .i64 e.Op), .val (.int .i64 e.N), .val (.str e.S), .val (.slice (List.map ApiExpr.enc e.Args))]))], 1⟩ : St)
theorem s_q10_right_l1 (e : ApiExpr) (rec_q10_right : (ApiExpr → Option Bool)) (h_rec_q10_right : ∀ (e : ApiExpr), DoesP Tryz.prog gt 162 [.val (.agg (ApiExpr.enc1 e))] q10_right_E (rec_q10_right e)) (s : Int) : Sat (cx 48 [.tmp 2]) (loopR (R0 q10_right_E)) (loopD (cx 48 [.tmp 2]) (R0 q10_right_E) D0 (q10_right_l1_S e) [(1, false), (3, false)] ((cx 48 [.tmp 2]).kAt b162 [true, true, false, true, false] (k0 (cx 48 [.tmp 2]).ti (cx 48 [.tmp 2]).rvs))) ((cx 48 [.tmp 2]).ex (sub b162 [true, true, false, true, false, false]) (q10_right_l1_S e s) T.done) (q10_right_l1 e rec_q10_right s) := by
 delta q10_right_l1
 refine Sat.ite (by kernel_rfl) ?_ ?_
 ·refine Sat.opt (enc := ApiExpr.enc1) (by kernel_rfl) (getRow_mapE ApiExpr.enc_eq _ _) (fun arg => ?_)
  refine Sat.call (h_rec_q10_right arg) (by kernel_rfl) (fun r2 => ?_)
  refine Sat.ite (by kernel_rfl) ?_ ?_
  ·refine Sat.retL (D := D0) (A := some false) (by kernel_rfl) ?_
   exact Sat.ret0 [true] (by kernel_rfl) (by kernel_rfl)
  exact Sat.next (by kernel_rfl) (by kernel_rfl)
 refine Sat.out (id := 0) (A := some true) (by kernel_rfl) ?_
 exact Sat.ret0 [true] (by kernel_rfl) (by kernel_rfl)
theorem s_q10_right_body (rec_q10_right : (ApiExpr → Option Bool)) (h_rec_q10_right : ∀ (e : ApiExpr), DoesP Tryz.prog gt 162 [.val (.agg (ApiExpr.enc1 e))] q10_right_E (rec_q10_right e)) (e : ApiExpr) : DoesP Tryz.prog gt 162 [.val (.agg (ApiExpr.enc1 e))] q10_right_E (q10_right_body rec_q10_right e) := by
 refine does_of (c := (cx 48 [.tmp 2])) c_ok (fn := Tryz.f162) (code := b162) Tryz.func162 (by kernel_rfl) (by kernel_rfl) (by kernel_rfl) (by kernel_rfl) (by kernel_rfl) ?_
 delta q10_right_body
 refine Sat.call (s_q10_Operands e.Op) (by kernel_rfl) (fun r => ?_)
 refine Sat.callG (s_q10_most e.Op) (by kernel_rfl) (fun r1 => ?_)
 refine Sat.ite (by kernel_rfl) ?_ ?_
 ·exact Sat.ret0 [true] (by kernel_rfl) (by kernel_rfl)
 exact Sat.loop (s0 := 0) [(1, false), (3, false)] c_ok (by kernel_rfl) (by kernel_rfl) (by kernel_rfl) (by kernel_rfl) (s_q10_right_l1 e rec_q10_right h_rec_q10_right)
theorem s_q10_right : ∀ (n : Nat) (e : ApiExpr), DoesP Tryz.prog gt 162 [.val (.agg (ApiExpr.enc1 e))] q10_right_E (q10_right n e)
 | 0, e => fun _ h => by cases h
 | n + 1, e => s_q10_right_body (q10_right n) (s_q10_right n) e
noncomputable def b183 : Code := (Tryz.f183.body).getD .skip
def q10_insert_E : (List ByteArray) → List RR := fun r => [.val (.slice (List.map eStr r))]
def q10_insert_l1_S (l : (List ByteArray)) (s : ByteArray) : Int → St := fun s1 => (⟨[(0, .rv (.val (.slice (List.map eStr l)))), (1, .rv (.val (.str s))), (5, .rv (.val (.int .i64 s1)))], [], 0⟩ : St)
theorem s_q10_insert_l1 (l : (List ByteArray)) (s : ByteArray) (s1 : Int) : Sat (cx 49 [.tmp 4]) (loopR (R0 q10_insert_E)) (loopD (cx 49 [.tmp 4]) (R0 q10_insert_E) D0 (q10_insert_l1_S l s) [(0, false), (1, false), (5, false)] ((cx 49 [.tmp 4]).kAt b183 [true, true, false, false] (k0 (cx 49 [.tmp 4]).ti (cx 49 [.tmp 4]).rvs))) ((cx 49 [.tmp 4]).ex (sub b183 [true, true, false, false, false]) (q10_insert_l1_S l s s1) T.done) (q10_insert_l1 l s s1) := by
 delta q10_insert_l1
 refine Sat.optG (enc := eStr) (by kernel_rfl) (getRow_map _ _ _) (fun li => ?_)
 refine Sat.ite (by kernel_rfl) ?_ ?_
 ·exact Sat.next (by kernel_rfl) (by kernel_rfl)
 refine Sat.out (id := 0) (by kernel_rfl) ?_
 refine Sat.optG (enc := eStr) (by kernel_rfl) (getRow_map _ _ _) (fun li2 => ?_)
 refine Sat.ite (by kernel_rfl) ?_ ?_
 ·exact Sat.ret0 [true] (by kernel_rfl) (by kernel_rfl)
 refine Sat.need (g := true) (p := ((0 : Int) ≤ 0 ∧ 0 ≤ s1 ∧ s1 ≤ ((List.map eStr l).length : Int)) ∧ ∀ r ∈ (List.map eStr l), r.length = 1) (by kernel_rfl) (fun h _ => by exact ⟨by simpa using h, map_len eStr 1 (fun _ => rfl) _⟩) ?_
 refine Sat.need (g := true) (p := (∀ r ∈ (sliceRows (List.map eStr l) 0 s1), r.length = 1) ∧ ((List.map eStr ([])).length + (sliceRows (List.map eStr l) 0 s1).length) * 16 ≤ 140737488355328) (by kernel_rfl) (fun h _ => by exact ⟨by rw [show (sliceRows (List.map eStr l) 0 s1) = List.map eStr (subl l 0 s1) from by simp [List.map_append, List.map_set, List.map_take, List.map_drop, sliceRows_map, List.map_replicate, eInt, eBool, eStr]]; exact map_len eStr 1 (fun _ => rfl) _, by simpa [sliceRows_map, List.length_set] using h⟩) ?_
 refine Sat.need (g := true) (p := (((List.map eStr ([])) ++ (sliceRows (List.map eStr l) 0 s1)).length + (List.map eStr ([s])).length) * 16 ≤ 140737488355328) (by kernel_rfl) (fun h _ => by simpa [sliceRows_map, List.length_set] using h) ?_
 refine Sat.need (g := true) (p := ((0 : Int) ≤ s1 ∧ s1 ≤ ((List.map eStr l).length : Int) ∧ ((List.map eStr l).length : Int) ≤ ((List.map eStr l).length : Int)) ∧ ∀ r ∈ (List.map eStr l), r.length = 1) (by kernel_rfl) (fun h _ => by exact ⟨by simpa using h, map_len eStr 1 (fun _ => rfl) _⟩) ?_
 refine Sat.need (g := true) (p := (∀ r ∈ (sliceRows (List.map eStr l) s1 ((List.map eStr l).length : Int)), r.length = 1) ∧ ((((List.map eStr ([])) ++ (sliceRows (List.map eStr l) 0 s1)) ++ (List.map eStr ([s]))).length + (sliceRows (List.map eStr l) s1 ((List.map eStr l).length : Int)).length) * 16 ≤ 140737488355328) (by kernel_rfl) (fun h _ => by exact ⟨by rw [show (sliceRows (List.map eStr l) s1 ((List.map eStr l).length : Int)) = List.map eStr (subl l s1 ((List.map eStr l).length : Int)) from by simp [List.map_append, List.map_set, List.map_take, List.map_drop, sliceRows_map, List.map_replicate, eInt, eBool, eStr]]; exact map_len eStr 1 (fun _ => rfl) _, by simpa [sliceRows_map, List.length_set] using h⟩) ?_
 exact Sat.ret0 [true] (by kernel_rfl) (Eq.trans (b := [.val (.slice ((((List.map eStr ([])) ++ (sliceRows (List.map eStr l) 0 s1)) ++ (List.map eStr ([s]))) ++ (sliceRows (List.map eStr l) s1 ((List.map eStr l).length : Int))))]) (by kernel_rfl) (by simp [q10_insert_E, List.map_append, List.map_set, List.map_take, List.map_drop, sliceRows_map, List.map_replicate, eInt, eBool, eStr]))
theorem s_q10_insert (l : (List ByteArray)) (s : ByteArray) : DoesP Tryz.prog gt 183 [.val (.slice (List.map eStr l)), .val (.str s)] q10_insert_E (q10_insert l s) := by
 refine does_of (c := (cx 49 [.tmp 4])) c_ok (fn := Tryz.f183) (code := b183) Tryz.func183 (by kernel_rfl) (by kernel_rfl) (by kernel_rfl) (by kernel_rfl) (by kernel_rfl) ?_
 delta q10_insert
 exact Sat.loop (s0 := 0) [(0, false), (1, false), (5, false)] c_ok (by kernel_rfl) (by kernel_rfl) (by kernel_rfl) (by kernel_rfl) (s_q10_insert_l1 l s)
noncomputable def b163 : Code := (Tryz.f163.body).getD .skip
def q10_Names_E : (List ByteArray) → List RR := fun r => [.val (.slice (List.map eStr r))]
def q10_Names_l2_S (e : ApiExpr) (s1 : ((List ByteArray) × Int)) (r : (List ByteArray)) : ((List ByteArray) × Int) → St := fun s2 => (⟨[(1, .box 0 0), (3, .rv (.val (.slice (List.map eStr s2.1)))), (4, .rv (.val (.int .i64 s1.2))), (5, .rv (.val (.slice (List.map eStr r)))), (6, .rv (.val (.int .i64 s2.2)))], [(0, some (.box [.val (.int .i64 e.Op), .val (.int .i64 e.N), .val (.str e.S), .val (.slice (List.map ApiExpr.enc e.Args))]))], 1⟩ : St)
def q10_Names_l1_S (e : ApiExpr) : ((List ByteArray) × Int) → St := fun s1 => (⟨[(1, .box 0 0), (3, .rv (.val (.slice (List.map eStr s1.1)))), (4, .rv (.val (.int .i64 s1.2)))], [(0, some (.box [.val (.int .i64 e.Op), .val (.int .i64 e.N), .val (.str e.S), .val (.slice (List.map ApiExpr.enc e.Args))]))], 1⟩ : St)
def q10_Names_j2_S (e : ApiExpr) : (List ByteArray) → St := fun s => (⟨[(1, .box 0 0), (3, .rv (.own 1))], [(0, some (.box [.val (.int .i64 e.Op), .val (.int .i64 e.N), .val (.str e.S), .val (.slice (List.map ApiExpr.enc e.Args))])), (1, some (.vec 9 (List.map eStr s)))], 2⟩ : St)
theorem s_q10_Names_l2 (e : ApiExpr) (s1 : ((List ByteArray) × Int)) (r : (List ByteArray)) (s2 : ((List ByteArray) × Int)) : Sat (cx 41 [.tmp 2]) (loopR (loopR (R0 q10_Names_E))) (loopD (cx 41 [.tmp 2]) (loopR (R0 q10_Names_E)) (loopD (cx 41 [.tmp 2]) (R0 q10_Names_E) D0 (q10_Names_l1_S e) [(1, false), (3, true), (4, false)] ((cx 41 [.tmp 2]).kAt b163 [true, true, true, false, true, false] (k0 (cx 41 [.tmp 2]).ti (cx 41 [.tmp 2]).rvs))) (q10_Names_l2_S e s1 r) [(1, false), (3, true), (4, false), (5, false), (6, false)] ((cx 41 [.tmp 2]).kAt b163 [true, true, true, false, true, false, false, true, false, false, true, true, false] (k0 (cx 41 [.tmp 2]).ti (cx 41 [.tmp 2]).rvs))) ((cx 41 [.tmp 2]).ex (sub b163 [true, true, true, false, true, false, false, true, false, false, true, true, false, false]) (q10_Names_l2_S e s1 r s2) T.done) (q10_Names_l2 s1 r s2) := by
 delta q10_Names_l2
 refine Sat.ite (by kernel_rfl) ?_ ?_
 ·refine Sat.opt (enc := eStr) (by kernel_rfl) (getRow_map _ _ _) (fun ri => ?_)
  refine Sat.call (s_q10_insert s2.1 ri) (by kernel_rfl) (fun r3 => ?_)
  exact Sat.next (by kernel_rfl) (by kernel_rfl)
 refine Sat.out (id := 2) (A := some (Sum.inl (s2.1, (IntKind.wrap .i64 (s1.2 + 1))))) (by kernel_rfl) ?_
 exact Sat.next (by kernel_rfl) (by kernel_rfl)
theorem s_q10_Names_l1 (e : ApiExpr) (rec_q10_Names : (ApiExpr → Option (List ByteArray))) (h_rec_q10_Names : ∀ (e : ApiExpr), DoesP Tryz.prog gt 163 [.val (.agg (ApiExpr.enc1 e))] q10_Names_E (rec_q10_Names e)) (s1 : ((List ByteArray) × Int)) : Sat (cx 41 [.tmp 2]) (loopR (R0 q10_Names_E)) (loopD (cx 41 [.tmp 2]) (R0 q10_Names_E) D0 (q10_Names_l1_S e) [(1, false), (3, true), (4, false)] ((cx 41 [.tmp 2]).kAt b163 [true, true, true, false, true, false] (k0 (cx 41 [.tmp 2]).ti (cx 41 [.tmp 2]).rvs))) ((cx 41 [.tmp 2]).ex (sub b163 [true, true, true, false, true, false, false]) (q10_Names_l1_S e s1) T.done) (q10_Names_l1 e rec_q10_Names s1) := by
 delta q10_Names_l1
 refine Sat.ite (by kernel_rfl) ?_ ?_
 ·refine Sat.opt (enc := ApiExpr.enc1) (by kernel_rfl) (getRow_mapE ApiExpr.enc_eq _ _) (fun arg => ?_)
  refine Sat.call (h_rec_q10_Names arg) (by kernel_rfl) (fun r => ?_)
  exact Sat.loop (s0 := (s1.1, 0)) [(1, false), (3, true), (4, false), (5, false), (6, false)] c_ok (by kernel_rfl) (by kernel_rfl) (by kernel_rfl) (by kernel_rfl) (s_q10_Names_l2 e s1 r)
 refine Sat.out (id := 0) (A := some s1.1) (by kernel_rfl) ?_
 exact Sat.ret0 [true] (by kernel_rfl) (by kernel_rfl)
theorem s_q10_Names_j2 (e : ApiExpr) (rec_q10_Names : (ApiExpr → Option (List ByteArray))) (h_rec_q10_Names : ∀ (e : ApiExpr), DoesP Tryz.prog gt 163 [.val (.agg (ApiExpr.enc1 e))] q10_Names_E (rec_q10_Names e)) (s : (List ByteArray)) : Sat (cx 41 [.tmp 2]) (R0 q10_Names_E) D0 ((cx 41 [.tmp 2]).ex (sub b163 [true, true, true]) (q10_Names_j2_S e s) ((cx 41 [.tmp 2]).kAt b163 [true, true, true] (k0 (cx 41 [.tmp 2]).ti (cx 41 [.tmp 2]).rvs))) (q10_Names_j2 e rec_q10_Names s) := by
 delta q10_Names_j2
 exact Sat.loop (s0 := (s, 0)) [(1, false), (3, true), (4, false)] c_ok (by kernel_rfl) (by kernel_rfl) (by kernel_rfl) (by kernel_rfl) (s_q10_Names_l1 e rec_q10_Names h_rec_q10_Names)
theorem s_q10_Names_body (rec_q10_Names : (ApiExpr → Option (List ByteArray))) (h_rec_q10_Names : ∀ (e : ApiExpr), DoesP Tryz.prog gt 163 [.val (.agg (ApiExpr.enc1 e))] q10_Names_E (rec_q10_Names e)) (e : ApiExpr) : DoesP Tryz.prog gt 163 [.val (.agg (ApiExpr.enc1 e))] q10_Names_E (q10_Names_body rec_q10_Names e) := by
 refine does_of (c := (cx 41 [.tmp 2])) c_ok (fn := Tryz.f163) (code := b163) Tryz.func163 (by kernel_rfl) (by kernel_rfl) (by kernel_rfl) (by kernel_rfl) (by kernel_rfl) ?_
 delta q10_Names_body
 refine Sat.ite (by kernel_rfl) ?_ ?_
 ·refine Sat.need (g := true) (p := ((List.map eStr ([])).length + (List.map eStr ([e.S])).length) * 16 ≤ 140737488355328) (by kernel_rfl) (fun _ _ => by simp) ?_
  exact Sat.cut (s0 := ([] ++ ([e.S]))) [(1, false), (3, false)] c_ok (by kernel_rfl) (Eq.trans (b := (⟨[(1, .box 0 0), (3, .rv (.own 1))], [(0, some (.box [.val (.int .i64 e.Op), .val (.int .i64 e.N), .val (.str e.S), .val (.slice (List.map ApiExpr.enc e.Args))])), (1, some (.vec 9 ((List.map eStr ([])) ++ (List.map eStr ([e.S])))))], 2⟩ : St)) (by kernel_rfl) (by simp [q10_Names_j2_S, List.map_append, List.map_set, List.map_take, List.map_drop, sliceRows_map, List.map_replicate, eInt, eBool, eStr])) (by kernel_rfl) (by kernel_rfl) (s_q10_Names_j2 e rec_q10_Names h_rec_q10_Names)
 exact Sat.cut (s0 := []) [(1, false), (3, false)] c_ok (by kernel_rfl) (by kernel_rfl) (by kernel_rfl) (by kernel_rfl) (s_q10_Names_j2 e rec_q10_Names h_rec_q10_Names)
theorem s_q10_Names : ∀ (n : Nat) (e : ApiExpr), DoesP Tryz.prog gt 163 [.val (.agg (ApiExpr.enc1 e))] q10_Names_E (q10_Names n e)
 | 0, e => fun _ h => by cases h
 | n + 1, e => s_q10_Names_body (q10_Names n) (s_q10_Names n) e
noncomputable def b184 : Code := (Tryz.f184.body).getD .skip
def q07_Name_E : Bool → List RR := fun r => [.val (.bool r)]
def q07_Name_l1_S (s : ByteArray) : Int → St := fun s1 => (⟨[(0, .rv (.val (.str s))), (3, .rv (.val (.int .i64 s1)))], [], 0⟩ : St)
theorem s_q07_Name_l1 (s : ByteArray) (s1 : Int) : Sat (cx 56 [.tmp 2]) (loopR (R0 q07_Name_E)) (loopD (cx 56 [.tmp 2]) (R0 q07_Name_E) D0 (q07_Name_l1_S s) [(0, false), (3, false)] ((cx 56 [.tmp 2]).kAt b184 [true, true, false, true, false] (k0 (cx 56 [.tmp 2]).ti (cx 56 [.tmp 2]).rvs))) ((cx 56 [.tmp 2]).ex (sub b184 [true, true, false, true, false, false]) (q07_Name_l1_S s s1) T.done) (q07_Name_l1 s s1) := by
 delta q07_Name_l1
 refine Sat.ite (by kernel_rfl) ?_ ?_
 ·refine Sat.need (g := true) (p := (0 : Int) ≤ s1 ∧ s1 < (s.size : Int)) (by kernel_rfl) (fun h _ => by exact h) ?_
  refine Sat.need (g := (((decide ((bt s s1) < 97)) == false) && true)) (p := (0 : Int) ≤ s1 ∧ s1 < (s.size : Int)) (by kernel_rfl) (fun h0 hg => by have h := h0 hg; exact h) ?_
  refine Sat.need (g := (((bif (decide ((bt s s1) < 97)) then true else (decide ((bt s s1) > 122))) == true) && true)) (p := (0 : Int) ≤ s1 ∧ s1 < (s.size : Int)) (by kernel_rfl) (fun h0 hg => by have h := h0 hg; exact h) ?_
  refine Sat.need (g := (((decide ((bt s s1) < 48)) == false) && (((bif (decide ((bt s s1) < 97)) then true else (decide ((bt s s1) > 122))) == true) && true))) (p := (0 : Int) ≤ s1 ∧ s1 < (s.size : Int)) (by kernel_rfl) (fun h0 hg => by have h := h0 hg; exact h) ?_
  refine Sat.need (g := (((bif (bif (decide ((bt s s1) < 97)) then true else (decide ((bt s s1) > 122))) then (bif (decide ((bt s s1) < 48)) then true else (decide ((bt s s1) > 57))) else false) == true) && true)) (p := (0 : Int) ≤ s1 ∧ s1 < (s.size : Int)) (by kernel_rfl) (fun h0 hg => by have h := h0 hg; exact h) ?_
  refine Sat.ite (by kernel_rfl) ?_ ?_
  ·refine Sat.retL (D := D0) (A := some false) (by kernel_rfl) ?_
   exact Sat.ret0 [true] (by kernel_rfl) (by kernel_rfl)
  exact Sat.next (by kernel_rfl) (by kernel_rfl)
 refine Sat.out (id := 0) (A := some true) (by kernel_rfl) ?_
 exact Sat.ret0 [true] (by kernel_rfl) (by kernel_rfl)
theorem s_q07_Name (s : ByteArray) : DoesP Tryz.prog gt 184 [.val (.str s)] q07_Name_E (q07_Name s) := by
 refine does_of (c := (cx 56 [.tmp 2])) c_ok (fn := Tryz.f184) (code := b184) Tryz.func184 (by kernel_rfl) (by kernel_rfl) (by kernel_rfl) (by kernel_rfl) (by kernel_rfl) ?_
 delta q07_Name
 refine Sat.need (g := (((bif (decide ((s.size : Int) < 1)) then true else (decide ((s.size : Int) > 16))) == false) && true)) (p := (0 : Int) ≤ 0 ∧ 0 < (s.size : Int)) (by kernel_rfl) (fun h0 hg => by have h := h0 hg; exact h) ?_
 refine Sat.need (g := (((bif (bif (decide ((s.size : Int) < 1)) then true else (decide ((s.size : Int) > 16))) then true else (decide ((bt s 0) < 97))) == false) && true)) (p := (0 : Int) ≤ 0 ∧ 0 < (s.size : Int)) (by kernel_rfl) (fun h0 hg => by have h := h0 hg; exact h) ?_
 refine Sat.ite (by kernel_rfl) ?_ ?_
 ·exact Sat.ret0 [true] (by kernel_rfl) (by kernel_rfl)
 exact Sat.loop (s0 := 0) [(0, false), (3, false)] c_ok (by kernel_rfl) (by kernel_rfl) (by kernel_rfl) (by kernel_rfl) (s_q07_Name_l1 s)
noncomputable def b197 : Code := (Tryz.f197.body).getD .skip
def q09_Words_E : (List ByteArray) → List RR := fun r => [.own 9 (List.map eStr r)]
theorem s_q09_Words : DoesP Tryz.prog gt 197 [] q09_Words_E (q09_Words) := by
 refine does_of (c := (cx 2 [.tmp 0])) c_ok (fn := Tryz.f197) (code := b197) Tryz.func197 (by kernel_rfl) (by kernel_rfl) (by kernel_rfl) (by kernel_rfl) (by kernel_rfl) ?_
 delta q09_Words
 exact Sat.ret0 [false] (by kernel_rfl) (by kernel_rfl)
noncomputable def b185 : Code := (Tryz.f185.body).getD .skip
def q09_Word_E : Bool → List RR := fun r => [.val (.bool r)]
def q09_Word_l1_S (s : ByteArray) (r : (List ByteArray)) : Int → St := fun s1 => (⟨[(0, .rv (.val (.str s))), (3, .rv (.own 0)), (4, .rv (.val (.int .i64 s1)))], [(0, some (.vec 9 (List.map eStr r)))], 1⟩ : St)
theorem s_q09_Word_l1 (s : ByteArray) (r : (List ByteArray)) (s1 : Int) : Sat (cx 18 [.tmp 2]) (loopR (R0 q09_Word_E)) (loopD (cx 18 [.tmp 2]) (R0 q09_Word_E) D0 (q09_Word_l1_S s r) [(0, false), (3, false), (4, false)] ((cx 18 [.tmp 2]).kAt b185 [true, true, false, true, false] (k0 (cx 18 [.tmp 2]).ti (cx 18 [.tmp 2]).rvs))) ((cx 18 [.tmp 2]).ex (sub b185 [true, true, false, true, false, false]) (q09_Word_l1_S s r s1) T.done) (q09_Word_l1 s r s1) := by
 delta q09_Word_l1
 refine Sat.ite (by kernel_rfl) ?_ ?_
 ·refine Sat.opt (enc := eStr) (by kernel_rfl) (getRow_map _ _ _) (fun o => ?_)
  refine Sat.opt (enc := eStr) (by kernel_rfl) (getEl_map _ _ _) (fun x => ?_)
  refine Sat.ite (by kernel_rfl) ?_ ?_
  ·refine Sat.retL (D := D0) (A := some true) (by kernel_rfl) ?_
   exact Sat.ret0 [true] (by kernel_rfl) (by kernel_rfl)
  exact Sat.next (by kernel_rfl) (by kernel_rfl)
 refine Sat.out (id := 0) (A := some false) (by kernel_rfl) ?_
 exact Sat.ret0 [true] (by kernel_rfl) (by kernel_rfl)
theorem s_q09_Word (s : ByteArray) : DoesP Tryz.prog gt 185 [.val (.str s)] q09_Word_E (q09_Word s) := by
 refine does_of (c := (cx 18 [.tmp 2])) c_ok (fn := Tryz.f185) (code := b185) Tryz.func185 (by kernel_rfl) (by kernel_rfl) (by kernel_rfl) (by kernel_rfl) (by kernel_rfl) ?_
 delta q09_Word
 refine Sat.call (s_q09_Words) (by kernel_rfl) (fun r => ?_)
 exact Sat.loop (s0 := 0) [(0, false), (3, false), (4, false)] c_ok (by kernel_rfl) (by kernel_rfl) (by kernel_rfl) (by kernel_rfl) (s_q09_Word_l1 s r)
noncomputable def b164 : Code := (Tryz.f164.body).getD .skip
def q10_Variable_E : Bool → List RR := fun r => [.val (.bool r)]
theorem s_q10_Variable (s : ByteArray) : DoesP Tryz.prog gt 164 [.val (.str s)] q10_Variable_E (q10_Variable s) := by
 refine does_of (c := (cx 10 [.tmp 2])) c_ok (fn := Tryz.f164) (code := b164) Tryz.func164 (by kernel_rfl) (by kernel_rfl) (by kernel_rfl) (by kernel_rfl) (by kernel_rfl) ?_
 delta q10_Variable
 refine Sat.call (s_q07_Name s) (by kernel_rfl) (fun r => ?_)
 refine Sat.callG (s_q09_Word s) (by kernel_rfl) (fun r1 => ?_)
 exact Sat.ret0 [true] (by kernel_rfl) (by kernel_rfl)
noncomputable def b130 : Code := (Tryz.f130.body).getD .skip
def q10_Validate_E : Int → List RR := fun r => [.val (.int .i64 r)]
def q10_Validate_l1_S (r3 : (List ByteArray)) : Int → St := fun s => (⟨[(3, .rv (.val (.slice (List.map eStr r3)))), (4, .rv (.val (.int .i64 s)))], [], 0⟩ : St)
theorem s_q10_Validate_l1 (r3 : (List ByteArray)) (s : Int) : Sat (cx 29 [.tmp 2]) (loopR (R0 q10_Validate_E)) (loopD (cx 29 [.tmp 2]) (R0 q10_Validate_E) D0 (q10_Validate_l1_S r3) [(3, false), (4, false)] ((cx 29 [.tmp 2]).kAt b130 [true, true, true, true, false, true, false] (k0 (cx 29 [.tmp 2]).ti (cx 29 [.tmp 2]).rvs))) ((cx 29 [.tmp 2]).ex (sub b130 [true, true, true, true, false, true, false, false]) (q10_Validate_l1_S r3 s) T.done) (q10_Validate_l1 r3 s) := by
 delta q10_Validate_l1
 refine Sat.ite (by kernel_rfl) ?_ ?_
 ·refine Sat.opt (enc := eStr) (by kernel_rfl) (getRow_map _ _ _) (fun r3i => ?_)
  refine Sat.call (s_q10_Variable r3i) (by kernel_rfl) (fun r4 => ?_)
  refine Sat.ite (by kernel_rfl) ?_ ?_
  ·refine Sat.retL (D := D0) (A := some 4) (by kernel_rfl) ?_
   exact Sat.ret0 [true] (by kernel_rfl) (by kernel_rfl)
  exact Sat.next (by kernel_rfl) (by kernel_rfl)
 refine Sat.out (id := 0) (A := some 0) (by kernel_rfl) ?_
 exact Sat.ret0 [true] (by kernel_rfl) (by kernel_rfl)
theorem s_q10_Validate (e : ApiExpr) : DoesP Tryz.prog gt 130 [.val (.agg (ApiExpr.enc1 e))] q10_Validate_E (q10_Validate e) := by
 refine does_of (c := (cx 29 [.tmp 2])) c_ok (fn := Tryz.f130) (code := b130) Tryz.func130 (by kernel_rfl) (by kernel_rfl) (by kernel_rfl) (by kernel_rfl) (by kernel_rfl) ?_
 delta q10_Validate
 refine Sat.call (s_q10_Great e 64) (by kernel_rfl) (fun r => ?_)
 refine Sat.callG (s_q10_Depth 2097152 e) (by kernel_rfl) (fun r1 => ?_)
 refine Sat.ite (by kernel_rfl) ?_ ?_
 ·exact Sat.ret0 [true] (by kernel_rfl) (by kernel_rfl)
 refine Sat.call (s_q10_right 2097152 e) (by kernel_rfl) (fun r2 => ?_)
 refine Sat.ite (by kernel_rfl) ?_ ?_
 ·exact Sat.ret0 [true] (by kernel_rfl) (by kernel_rfl)
 refine Sat.call (s_q10_Names 2097152 e) (by kernel_rfl) (fun r3 => ?_)
 exact Sat.loop (s0 := 0) [(3, false), (4, false)] c_ok (by kernel_rfl) (by kernel_rfl) (by kernel_rfl) (by kernel_rfl) (s_q10_Validate_l1 r3)
noncomputable def b165 : Code := (Tryz.f165.body).getD .skip
def q11_Good_E : Bool → List RR := fun r => [.val (.bool r)]
theorem s_q11_Good (t : Int) : DoesP Tryz.prog gt 165 [.val (.int .i64 t)] q11_Good_E (q11_Good t) := by
 refine does_of (c := (cx 9 [.tmp 2])) c_ok (fn := Tryz.f165) (code := b165) Tryz.func165 (by kernel_rfl) (by kernel_rfl) (by kernel_rfl) (by kernel_rfl) (by kernel_rfl) ?_
 delta q11_Good
 exact Sat.ret0 [true] (by kernel_rfl) (by kernel_rfl)
noncomputable def b198 : Code := (Tryz.f198.body).getD .skip
def q11_scalar_E : Bool → List RR := fun r => [.val (.bool r)]
theorem s_q11_scalar (t : Int) : DoesP Tryz.prog gt 198 [.val (.int .i64 t)] q11_scalar_E (q11_scalar t) := by
 refine does_of (c := (cx 13 [.tmp 2])) c_ok (fn := Tryz.f198) (code := b198) Tryz.func198 (by kernel_rfl) (by kernel_rfl) (by kernel_rfl) (by kernel_rfl) (by kernel_rfl) ?_
 delta q11_scalar
 exact Sat.ret0 [true] (by kernel_rfl) (by kernel_rfl)
noncomputable def b205 : Code := (Tryz.f205.body).getD .skip
def q11_product_E : (Int × Bool) → List RR := fun r => [.val (.int .i64 r.1), .val (.bool r.2)]
theorem s_q11_product (a : Int) (b : Int) : DoesP Tryz.prog gt 205 [.val (.int .i64 a), .val (.int .i64 b)] q11_product_E (q11_product a b) := by
 refine does_of (c := (cx 23 [.tmp 4, .tmp 5])) c_ok (fn := Tryz.f205) (code := b205) Tryz.func205 (by kernel_rfl) (by kernel_rfl) (by kernel_rfl) (by kernel_rfl) (by kernel_rfl) ?_
 delta q11_product
 refine Sat.call (s_q11_scalar a) (by kernel_rfl) (fun r => ?_)
 refine Sat.callG (s_q11_scalar b) (by kernel_rfl) (fun r1 => ?_)
 refine Sat.ite (by kernel_rfl) ?_ ?_
 ·exact Sat.ret0 [true, true] (by kernel_rfl) (by kernel_rfl)
 refine Sat.ite (by kernel_rfl) ?_ ?_
 ·exact Sat.ret0 [true, true] (by kernel_rfl) (by kernel_rfl)
 refine Sat.ite (by kernel_rfl) ?_ ?_
 ·exact Sat.ret0 [true, true] (by kernel_rfl) (by kernel_rfl)
 exact Sat.ret0 [true, true] (by kernel_rfl) (by kernel_rfl)
noncomputable def b199 : Code := (Tryz.f199.body).getD .skip
def q11_two_E : (Int × Bool) → List RR := fun r => [.val (.int .i64 r.1), .val (.bool r.2)]
def q11_two_j0_S (a : Int) (b : Int) : Bool → St := fun s6 => (⟨[(1, .rv (.val (.int .i64 a))), (2, .rv (.val (.int .i64 b))), (92, .rv (.val (.bool s6)))], [], 0⟩ : St)
def q11_two_j1_S (op : Int) (a : Int) (b : Int) : Bool → St := fun s5 => (⟨[(1, .rv (.val (.int .i64 a))), (2, .rv (.val (.int .i64 b))), (8, .rv (.val (.int .i64 op))), (83, .rv (.val (.bool s5)))], [], 0⟩ : St)
def q11_two_j2_S (op : Int) (a : Int) (b : Int) : Bool → St := fun s4 => (⟨[(1, .rv (.val (.int .i64 a))), (2, .rv (.val (.int .i64 b))), (8, .rv (.val (.int .i64 op))), (73, .rv (.val (.bool s4)))], [], 0⟩ : St)
def q11_two_j3_S (op : Int) (a : Int) (b : Int) : Bool → St := fun s => (⟨[(1, .rv (.val (.int .i64 a))), (2, .rv (.val (.int .i64 b))), (8, .rv (.val (.int .i64 op))), (67, .rv (.val (.bool s)))], [], 0⟩ : St)
theorem s_q11_two_j0 (a : Int) (b : Int) (s6 : Bool) : Sat (cx 103 [.tmp 6, .tmp 7]) (R0 q11_two_E) D0 ((cx 103 [.tmp 6, .tmp 7]).ex (sub b199 [true, false, true, false, true, true, true, true, true, true, true, true, true, true, true, true, true, true, true]) (q11_two_j0_S a b s6) ((cx 103 [.tmp 6, .tmp 7]).kAt b199 [true, false, true, false, true, true, true, true, true, true, true, true, true, true, true, true, true, true, true] (k0 (cx 103 [.tmp 6, .tmp 7]).ti (cx 103 [.tmp 6, .tmp 7]).rvs))) (q11_two_j0 a b s6) := by
 delta q11_two_j0
 refine Sat.ite (by kernel_rfl) ?_ ?_
 ·exact Sat.ret0 [true, true] (by kernel_rfl) (by kernel_rfl)
 exact Sat.ret0 [true, true] (by kernel_rfl) (by kernel_rfl)
theorem s_q11_two_j1 (op : Int) (a : Int) (b : Int) (s5 : Bool) : Sat (cx 103 [.tmp 6, .tmp 7]) (R0 q11_two_E) D0 ((cx 103 [.tmp 6, .tmp 7]).ex (sub b199 [true, false, true, false, true, true, true, true, true, true, true, true, true, true, true, true, true]) (q11_two_j1_S op a b s5) ((cx 103 [.tmp 6, .tmp 7]).kAt b199 [true, false, true, false, true, true, true, true, true, true, true, true, true, true, true, true, true] (k0 (cx 103 [.tmp 6, .tmp 7]).ti (cx 103 [.tmp 6, .tmp 7]).rvs))) (q11_two_j1 op a b s5) := by
 delta q11_two_j1
 refine Sat.ite (by kernel_rfl) ?_ ?_
 ·exact Sat.ret0 [true, true] (by kernel_rfl) (by kernel_rfl)
 refine Sat.ite (by kernel_rfl) ?_ ?_
 ·exact Sat.cut (s0 := (op == 17)) [(1, false), (2, false), (92, false)] c_ok (by kernel_rfl) (by kernel_rfl) (by kernel_rfl) (by kernel_rfl) (s_q11_two_j0 a b)
 exact Sat.cut (s0 := (op == 18)) [(1, false), (2, false), (92, false)] c_ok (by kernel_rfl) (by kernel_rfl) (by kernel_rfl) (by kernel_rfl) (s_q11_two_j0 a b)
theorem s_q11_two_j2 (op : Int) (a : Int) (b : Int) (s4 : Bool) : Sat (cx 103 [.tmp 6, .tmp 7]) (R0 q11_two_E) D0 ((cx 103 [.tmp 6, .tmp 7]).ex (sub b199 [true, false, true, false, true, true, true, true, true, true, true, true, true, true, true]) (q11_two_j2_S op a b s4) ((cx 103 [.tmp 6, .tmp 7]).kAt b199 [true, false, true, false, true, true, true, true, true, true, true, true, true, true, true] (k0 (cx 103 [.tmp 6, .tmp 7]).ti (cx 103 [.tmp 6, .tmp 7]).rvs))) (q11_two_j2 op a b s4) := by
 delta q11_two_j2
 refine Sat.ite (by kernel_rfl) ?_ ?_
 ·exact Sat.ret0 [true, true] (by kernel_rfl) (by kernel_rfl)
 refine Sat.ite (by kernel_rfl) ?_ ?_
 ·exact Sat.cut (s0 := (op == 14)) [(1, false), (2, false), (8, false), (83, false)] c_ok (by kernel_rfl) (by kernel_rfl) (by kernel_rfl) (by kernel_rfl) (s_q11_two_j1 op a b)
 exact Sat.cut (s0 := (op == 15)) [(1, false), (2, false), (8, false), (83, false)] c_ok (by kernel_rfl) (by kernel_rfl) (by kernel_rfl) (by kernel_rfl) (s_q11_two_j1 op a b)
theorem s_q11_two_j3 (op : Int) (a : Int) (b : Int) (s : Bool) : Sat (cx 103 [.tmp 6, .tmp 7]) (R0 q11_two_E) D0 ((cx 103 [.tmp 6, .tmp 7]).ex (sub b199 [true, false, true, false, true, true, true, true, true, true, true, true, true]) (q11_two_j3_S op a b s) ((cx 103 [.tmp 6, .tmp 7]).kAt b199 [true, false, true, false, true, true, true, true, true, true, true, true, true] (k0 (cx 103 [.tmp 6, .tmp 7]).ti (cx 103 [.tmp 6, .tmp 7]).rvs))) (q11_two_j3 op a b s) := by
 delta q11_two_j3
 refine Sat.ite (by kernel_rfl) ?_ ?_
 ·exact Sat.ret0 [true, true] (by kernel_rfl) (by kernel_rfl)
 refine Sat.ite (by kernel_rfl) ?_ ?_
 ·exact Sat.cut (s0 := (op == 12)) [(1, false), (2, false), (8, false), (73, false)] c_ok (by kernel_rfl) (by kernel_rfl) (by kernel_rfl) (by kernel_rfl) (s_q11_two_j2 op a b)
 exact Sat.cut (s0 := (op == 13)) [(1, false), (2, false), (8, false), (73, false)] c_ok (by kernel_rfl) (by kernel_rfl) (by kernel_rfl) (by kernel_rfl) (s_q11_two_j2 op a b)
theorem s_q11_two (op : Int) (a : Int) (b : Int) : DoesP Tryz.prog gt 199 [.val (.int .i64 op), .val (.int .i64 a), .val (.int .i64 b)] q11_two_E (q11_two op a b) := by
 refine does_of (c := (cx 103 [.tmp 6, .tmp 7])) c_ok (fn := Tryz.f199) (code := b199) Tryz.func199 (by kernel_rfl) (by kernel_rfl) (by kernel_rfl) (by kernel_rfl) (by kernel_rfl) ?_
 delta q11_two
 refine Sat.ite (by kernel_rfl) ?_ ?_
 ·refine Sat.ite (by kernel_rfl) ?_ ?_
  ·exact Sat.ret0 [true, true] (by kernel_rfl) (by kernel_rfl)
  refine Sat.callG (s_q11_scalar a) (by kernel_rfl) (fun r => ?_)
  exact Sat.ret0 [true, true] (by kernel_rfl) (by kernel_rfl)
 refine Sat.ite (by kernel_rfl) ?_ ?_
 ·refine Sat.ite (by kernel_rfl) ?_ ?_
  ·exact Sat.ret0 [true, true] (by kernel_rfl) (by kernel_rfl)
  refine Sat.ite (by kernel_rfl) ?_ ?_
  ·exact Sat.ret0 [true, true] (by kernel_rfl) (by kernel_rfl)
  refine Sat.callG (s_q11_scalar a) (by kernel_rfl) (fun r1 => ?_)
  exact Sat.ret0 [true, true] (by kernel_rfl) (by kernel_rfl)
 refine Sat.ite (by kernel_rfl) ?_ ?_
 ·refine Sat.call (s_q11_product a b) (by kernel_rfl) (fun r2 => ?_)
  exact Sat.ret0 [true, true] (by kernel_rfl) (by kernel_rfl)
 refine Sat.ite (by kernel_rfl) ?_ ?_
 ·refine Sat.ite (by kernel_rfl) ?_ ?_
  ·exact Sat.ret0 [true, true] (by kernel_rfl) (by kernel_rfl)
  refine Sat.call (s_q11_scalar a) (by kernel_rfl) (fun r3 => ?_)
  exact Sat.ret0 [true, true] (by kernel_rfl) (by kernel_rfl)
 refine Sat.ite (by kernel_rfl) ?_ ?_
 ·exact Sat.cut (s0 := (op == 10)) [(1, false), (2, false), (8, false), (67, false)] c_ok (by kernel_rfl) (by kernel_rfl) (by kernel_rfl) (by kernel_rfl) (s_q11_two_j3 op a b)
 exact Sat.cut (s0 := (op == 11)) [(1, false), (2, false), (8, false), (67, false)] c_ok (by kernel_rfl) (by kernel_rfl) (by kernel_rfl) (by kernel_rfl) (s_q11_two_j3 op a b)
noncomputable def b186 : Code := (Tryz.f186.body).getD .skip
def q11_result_E : (Int × Bool) → List RR := fun r => [.val (.int .i64 r.1), .val (.bool r.2)]
theorem s_q11_result (op : Int) (l : (List Int)) : DoesP Tryz.prog gt 186 [.val (.int .i64 op), .val (.slice (List.map (eInt .i64) l))] q11_result_E (q11_result op l) := by
 refine does_of (c := (cx 67 [.tmp 4, .tmp 5])) c_ok (fn := Tryz.f186) (code := b186) Tryz.func186 (by kernel_rfl) (by kernel_rfl) (by kernel_rfl) (by kernel_rfl) (by kernel_rfl) ?_
 delta q11_result
 refine Sat.ite (by kernel_rfl) ?_ ?_
 ·refine Sat.opt (enc := (eInt .i64)) (by kernel_rfl) (getRow_map _ _ _) (fun li => ?_)
  refine Sat.opt (enc := (eInt .i64)) (by kernel_rfl) (getRow_map _ _ _) (fun li1 => ?_)
  refine Sat.call (s_q11_scalar li1) (by kernel_rfl) (fun r => ?_)
  exact Sat.ret0 [true, true] (by kernel_rfl) (by kernel_rfl)
 refine Sat.ite (by kernel_rfl) ?_ ?_
 ·refine Sat.opt (enc := (eInt .i64)) (by kernel_rfl) (getRow_map _ _ _) (fun li2 => ?_)
  exact Sat.ret0 [true, true] (by kernel_rfl) (by kernel_rfl)
 refine Sat.ite (by kernel_rfl) ?_ ?_
 ·refine Sat.opt (enc := (eInt .i64)) (by kernel_rfl) (getRow_map _ _ _) (fun li3 => ?_)
  refine Sat.opt (enc := (eInt .i64)) (by kernel_rfl) (getRow_map _ _ _) (fun li4 => ?_)
  refine Sat.optG (enc := (eInt .i64)) (by kernel_rfl) (getRow_map _ _ _) (fun li5 => ?_)
  refine Sat.optG (enc := (eInt .i64)) (by kernel_rfl) (getRow_map _ _ _) (fun li6 => ?_)
  exact Sat.ret0 [true, true] (by kernel_rfl) (by kernel_rfl)
 refine Sat.ite (by kernel_rfl) ?_ ?_
 ·refine Sat.opt (enc := (eInt .i64)) (by kernel_rfl) (getRow_map _ _ _) (fun li7 => ?_)
  refine Sat.opt (enc := (eInt .i64)) (by kernel_rfl) (getRow_map _ _ _) (fun li8 => ?_)
  refine Sat.call (s_q11_two op li7 li8) (by kernel_rfl) (fun r9 => ?_)
  exact Sat.ret0 [true, true] (by kernel_rfl) (by kernel_rfl)
 exact Sat.ret0 [true, true] (by kernel_rfl) (by kernel_rfl)
noncomputable def b166 : Code := (Tryz.f166.body).getD .skip
def q11_Result_E : (Int × Bool) → List RR := fun r => [.val (.int .i64 r.1), .val (.bool r.2)]
def q11_Result_l1_S (op : Int) (types : (List Int)) : Int → St := fun s => (⟨[(0, .rv (.val (.int .i64 op))), (1, .rv (.val (.slice (List.map (eInt .i64) types)))), (6, .rv (.val (.int .i64 s)))], [], 0⟩ : St)
theorem s_q11_Result_l1 (op : Int) (types : (List Int)) (s : Int) : Sat (cx 33 [.tmp 4, .tmp 5]) (loopR (R0 q11_Result_E)) (loopD (cx 33 [.tmp 4, .tmp 5]) (R0 q11_Result_E) D0 (q11_Result_l1_S op types) [(0, false), (1, false), (6, false)] ((cx 33 [.tmp 4, .tmp 5]).kAt b166 [true, true, false, true, false] (k0 (cx 33 [.tmp 4, .tmp 5]).ti (cx 33 [.tmp 4, .tmp 5]).rvs))) ((cx 33 [.tmp 4, .tmp 5]).ex (sub b166 [true, true, false, true, false, false]) (q11_Result_l1_S op types s) T.done) (q11_Result_l1 op types s) := by
 delta q11_Result_l1
 refine Sat.ite (by kernel_rfl) ?_ ?_
 ·refine Sat.opt (enc := (eInt .i64)) (by kernel_rfl) (getRow_map _ _ _) (fun type => ?_)
  refine Sat.call (s_q11_Good type) (by kernel_rfl) (fun r => ?_)
  refine Sat.ite (by kernel_rfl) ?_ ?_
  ·refine Sat.retL (D := D0) (A := some (0, false)) (by kernel_rfl) ?_
   exact Sat.ret0 [true, true] (by kernel_rfl) (by kernel_rfl)
  exact Sat.next (by kernel_rfl) (by kernel_rfl)
 refine Sat.out (id := 0) (by kernel_rfl) ?_
 refine Sat.call (s_q11_result op types) (by kernel_rfl) (fun r1 => ?_)
 refine Sat.ite (by kernel_rfl) ?_ ?_
 ·exact Sat.ret0 [true, true] (by kernel_rfl) (by kernel_rfl)
 exact Sat.ret0 [true, true] (by kernel_rfl) (by kernel_rfl)
theorem s_q11_Result (op : Int) (types : (List Int)) : DoesP Tryz.prog gt 166 [.val (.int .i64 op), .val (.slice (List.map (eInt .i64) types))] q11_Result_E (q11_Result op types) := by
 refine does_of (c := (cx 33 [.tmp 4, .tmp 5])) c_ok (fn := Tryz.f166) (code := b166) Tryz.func166 (by kernel_rfl) (by kernel_rfl) (by kernel_rfl) (by kernel_rfl) (by kernel_rfl) ?_
 delta q11_Result
 refine Sat.ite (by kernel_rfl) ?_ ?_
 ·exact Sat.ret0 [true, true] (by kernel_rfl) (by kernel_rfl)
 exact Sat.loop (s0 := 0) [(0, false), (1, false), (6, false)] c_ok (by kernel_rfl) (by kernel_rfl) (by kernel_rfl) (by kernel_rfl) (s_q11_Result_l1 op types)
noncomputable def b131 : Code := (Tryz.f131.body).getD .skip
def q11_of_E : (Int × Int) → List RR := fun r => [.val (.int .i64 r.1), .val (.int .i64 r.2)]
def q11_of_l1_S (e : ApiExpr) (vars : (List ApiVar)) : Int → St := fun s => (⟨[(1, .rv (.val (.slice (List.map ApiVar.enc vars)))), (2, .box 0 0), (6, .rv (.val (.int .i64 s)))], [(0, some (.box [.val (.int .i64 e.Op), .val (.int .i64 e.N), .val (.str e.S), .val (.slice (List.map ApiExpr.enc e.Args))]))], 1⟩ : St)
def q11_of_l2_S (e : ApiExpr) (vars : (List ApiVar)) : (Int × (List Int)) → St := fun s4 => (⟨[(1, .rv (.val (.slice (List.map ApiVar.enc vars)))), (2, .box 0 0), (7, .rv (.own 1)), (8, .rv (.val (.int .i64 s4.1)))], [(0, some (.box [.val (.int .i64 e.Op), .val (.int .i64 e.N), .val (.str e.S), .val (.slice (List.map ApiExpr.enc e.Args))])), (1, some (.vec 3 (List.map (eInt .i64) s4.2)))], 2⟩ : St)
theorem s_q11_of_l1 (e : ApiExpr) (vars : (List ApiVar)) (s : Int) : Sat (cx 93 [.tmp 4, .tmp 5]) (loopR (R0 q11_of_E)) (loopD (cx 93 [.tmp 4, .tmp 5]) (R0 q11_of_E) D0 (q11_of_l1_S e vars) [(1, false), (2, false), (6, false)] ((cx 93 [.tmp 4, .tmp 5]).kAt b131 [true, false, true, false, true, true, true, true, true, true, true, false, false, true, false] (k0 (cx 93 [.tmp 4, .tmp 5]).ti (cx 93 [.tmp 4, .tmp 5]).rvs))) ((cx 93 [.tmp 4, .tmp 5]).ex (sub b131 [true, false, true, false, true, true, true, true, true, true, true, false, false, true, false, false]) (q11_of_l1_S e vars s) T.done) (q11_of_l1 e vars s) := by
 delta q11_of_l1
 refine Sat.ite (by kernel_rfl) ?_ ?_
 ·refine Sat.opt (enc := ApiVar.enc) (by kernel_rfl) (getRow_map _ _ _) (fun var => ?_)
  refine Sat.optG (enc := ApiVar.enc) (by kernel_rfl) (getRow_map _ _ _) (fun var1 => ?_)
  refine Sat.callG (s_q11_Good var1.Type') (by kernel_rfl) (fun r => ?_)
  refine Sat.ite (by kernel_rfl) ?_ ?_
  ·refine Sat.opt (enc := ApiVar.enc) (by kernel_rfl) (getRow_map _ _ _) (fun var2 => ?_)
   refine Sat.retL (D := D0) (A := some (var2.Type', 0)) (by kernel_rfl) ?_
   exact Sat.ret0 [true, true] (by kernel_rfl) (by kernel_rfl)
  refine Sat.opt (enc := ApiVar.enc) (by kernel_rfl) (getRow_map _ _ _) (fun var3 => ?_)
  refine Sat.ite (by kernel_rfl) ?_ ?_
  ·refine Sat.retL (D := D0) (A := some (0, 3)) (by kernel_rfl) ?_
   exact Sat.ret0 [true, true] (by kernel_rfl) (by kernel_rfl)
  exact Sat.next (by kernel_rfl) (by kernel_rfl)
 refine Sat.out (id := 1) (A := some (0, 4)) (by kernel_rfl) ?_
 exact Sat.ret0 [true, true] (by kernel_rfl) (by kernel_rfl)
end Go.Cb
