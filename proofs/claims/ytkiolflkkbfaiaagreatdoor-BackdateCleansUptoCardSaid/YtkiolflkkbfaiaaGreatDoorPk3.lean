/- Parts of a proof, merged: Each function does what its plain form says, part 2. · Each function does what its plain form says, part 3. Conditions: none. -/
import Derived.Test.YtkiolflkkbfaiaaGreatDoorPk2
set_option linter.unusedVariables false
set_option linter.unusedSimpArgs false
namespace Go.Cb
open Go.Eng Go.RowKit
open Go.Proofs
theorem s_q11_of_l2 (e : ApiExpr) (vars : (List ApiVar)) (rec_q11_of : (ApiExpr → (List ApiVar) → Option (Int × Int))) (h_rec_q11_of : ∀ (e : ApiExpr) (vars : (List ApiVar)), DoesP Tryz.prog gt 131 [.val (.agg (ApiExpr.enc1 e)), .val (.slice (List.map ApiVar.enc vars))] q11_of_E (rec_q11_of e vars)) (s4 : (Int × (List Int))) : Sat (cx 93 [.tmp 4, .tmp 5]) (loopR (R0 q11_of_E)) (loopD (cx 93 [.tmp 4, .tmp 5]) (R0 q11_of_E) D0 (q11_of_l2_S e vars) [(1, false), (2, false), (7, false), (8, false)] ((cx 93 [.tmp 4, .tmp 5]).kAt b131 [true, true, true, false, true, false] (k0 (cx 93 [.tmp 4, .tmp 5]).ti (cx 93 [.tmp 4, .tmp 5]).rvs))) ((cx 93 [.tmp 4, .tmp 5]).ex (sub b131 [true, true, true, false, true, false, false]) (q11_of_l2_S e vars s4) T.done) (q11_of_l2 e vars rec_q11_of s4) := by
 delta q11_of_l2
 refine Sat.ite (by kernel_rfl) ?_ ?_
 ·refine Sat.opt (enc := ApiExpr.enc1) (by kernel_rfl) (getRow_mapE ApiExpr.enc_eq _ _) (fun arg => ?_)
  refine Sat.call (h_rec_q11_of arg vars) (by kernel_rfl) (fun r5 => ?_)
  refine Sat.ite (by kernel_rfl) ?_ ?_
  ·refine Sat.retL (D := D0) (A := some (0, r5.2)) (by kernel_rfl) ?_
   exact Sat.ret0 [true, true] (by kernel_rfl) (by kernel_rfl)
  refine Sat.need (g := true) (p := ((List.map (eInt .i64) s4.2).length + (List.map (eInt .i64) ([r5.1])).length) * 8 ≤ 140737488355328) (by kernel_rfl) (fun h _ => by simpa [sliceRows_map, List.length_set] using h) ?_
  exact Sat.next (by kernel_rfl) (Eq.trans (b := (⟨[(1, .rv (.val (.slice (List.map ApiVar.enc vars)))), (2, .box 0 0), (7, .rv (.own 1)), (8, .rv (.val (.int .i64 (IntKind.wrap .i64 (s4.1 + 1)))))], [(0, some (.box [.val (.int .i64 e.Op), .val (.int .i64 e.N), .val (.str e.S), .val (.slice (List.map ApiExpr.enc e.Args))])), (1, some (.vec 3 ((List.map (eInt .i64) s4.2) ++ (List.map (eInt .i64) ([r5.1])))))], 2⟩ : St)) (by kernel_rfl) (by simp [q11_of_l2_S, List.map_append, List.map_set, List.map_take, List.map_drop, sliceRows_map, List.map_replicate, eInt, eBool, eStr]))
 refine Sat.out (id := 3) (by kernel_rfl) ?_
 refine Sat.call (s_q11_Result e.Op s4.2) (by kernel_rfl) (fun r6 => ?_)
 refine Sat.ite (by kernel_rfl) ?_ ?_
 ·exact Sat.ret0 [true, true] (by kernel_rfl) (by kernel_rfl)
 exact Sat.ret0 [true, true] (by kernel_rfl) (by kernel_rfl)
theorem s_q11_of_body (rec_q11_of : (ApiExpr → (List ApiVar) → Option (Int × Int))) (h_rec_q11_of : ∀ (e : ApiExpr) (vars : (List ApiVar)), DoesP Tryz.prog gt 131 [.val (.agg (ApiExpr.enc1 e)), .val (.slice (List.map ApiVar.enc vars))] q11_of_E (rec_q11_of e vars)) (e : ApiExpr) (vars : (List ApiVar)) : DoesP Tryz.prog gt 131 [.val (.agg (ApiExpr.enc1 e)), .val (.slice (List.map ApiVar.enc vars))] q11_of_E (q11_of_body rec_q11_of e vars) := by
 refine does_of (c := (cx 93 [.tmp 4, .tmp 5])) c_ok (fn := Tryz.f131) (code := b131) Tryz.func131 (by kernel_rfl) (by kernel_rfl) (by kernel_rfl) (by kernel_rfl) (by kernel_rfl) ?_
 delta q11_of_body
 refine Sat.ite (by kernel_rfl) ?_ ?_
 ·exact Sat.ret0 [true, true] (by kernel_rfl) (by kernel_rfl)
 refine Sat.ite (by kernel_rfl) ?_ ?_
 ·exact Sat.ret0 [true, true] (by kernel_rfl) (by kernel_rfl)
 refine Sat.ite (by kernel_rfl) ?_ ?_
 ·exact Sat.ret0 [true, true] (by kernel_rfl) (by kernel_rfl)
 refine Sat.ite (by kernel_rfl) ?_ ?_
 ·exact Sat.loop (s0 := 0) [(1, false), (2, false), (6, false)] c_ok (by kernel_rfl) (by kernel_rfl) (by kernel_rfl) (by kernel_rfl) (s_q11_of_l1 e vars)
 exact Sat.loop (s0 := (0, [])) [(1, false), (2, false), (7, false), (8, false)] c_ok (by kernel_rfl) (by kernel_rfl) (by kernel_rfl) (by kernel_rfl) (s_q11_of_l2 e vars rec_q11_of h_rec_q11_of)
theorem s_q11_of : ∀ (n : Nat) (e : ApiExpr) (vars : (List ApiVar)), DoesP Tryz.prog gt 131 [.val (.agg (ApiExpr.enc1 e)), .val (.slice (List.map ApiVar.enc vars))] q11_of_E (q11_of n e vars)
 | 0, e, vars => fun _ h => by cases h
 | n + 1, e, vars => s_q11_of_body (q11_of n) (s_q11_of n) e vars
noncomputable def b97 : Code := (Tryz.f97.body).getD .skip
def q11_Of_E : (Int × Int) → List RR := fun r => [.val (.int .i64 r.1), .val (.int .i64 r.2)]
theorem s_q11_Of (e : ApiExpr) (vars : (List ApiVar)) : DoesP Tryz.prog gt 97 [.val (.agg (ApiExpr.enc1 e)), .val (.slice (List.map ApiVar.enc vars))] q11_Of_E (q11_Of e vars) := by
 refine does_of (c := (cx 17 [.tmp 4, .tmp 5])) c_ok (fn := Tryz.f97) (code := b97) Tryz.func97 (by kernel_rfl) (by kernel_rfl) (by kernel_rfl) (by kernel_rfl) (by kernel_rfl) ?_
 delta q11_Of
 refine Sat.call (s_q10_Validate e) (by kernel_rfl) (fun r => ?_)
 refine Sat.ite (by kernel_rfl) ?_ ?_
 ·exact Sat.ret0 [true, true] (by kernel_rfl) (by kernel_rfl)
 refine Sat.call (s_q11_of 2097152 e vars) (by kernel_rfl) (fun r1 => ?_)
 exact Sat.ret0 [true, true] (by kernel_rfl) (by kernel_rfl)
noncomputable def b73 : Code := (Tryz.f73.body).getD .skip
def q11_Check_E : Int → List RR := fun r => [.val (.int .i64 r)]
theorem s_q11_Check (e : ApiExpr) (vars : (List ApiVar)) (want : Int) : DoesP Tryz.prog gt 73 [.val (.agg (ApiExpr.enc1 e)), .val (.slice (List.map ApiVar.enc vars)), .val (.int .i64 want)] q11_Check_E (q11_Check e vars want) := by
 refine does_of (c := (cx 21 [.tmp 6])) c_ok (fn := Tryz.f73) (code := b73) Tryz.func73 (by kernel_rfl) (by kernel_rfl) (by kernel_rfl) (by kernel_rfl) (by kernel_rfl) ?_
 delta q11_Check
 refine Sat.call (s_q11_Of e vars) (by kernel_rfl) (fun r => ?_)
 refine Sat.ite (by kernel_rfl) ?_ ?_
 ·exact Sat.ret0 [true] (by kernel_rfl) (by kernel_rfl)
 refine Sat.ite (by kernel_rfl) ?_ ?_
 ·exact Sat.ret0 [true] (by kernel_rfl) (by kernel_rfl)
 exact Sat.ret0 [true] (by kernel_rfl) (by kernel_rfl)
noncomputable def b52 : Code := (Tryz.f52.body).getD .skip
def q15_fee_E : Int → List RR := fun r => [.val (.int .i64 r)]
theorem s_q15_fee (f : ApiFee) : DoesP Tryz.prog gt 52 [.val (.agg (ApiFee.enc f))] q15_fee_E (q15_fee f) := by
 refine does_of (c := (cx 27 [.tmp 2])) c_ok (fn := Tryz.f52) (code := b52) Tryz.func52 (by kernel_rfl) (by kernel_rfl) (by kernel_rfl) (by kernel_rfl) (by kernel_rfl) ?_
 delta q15_fee
 refine Sat.call (s_q15_Name f.Name) (by kernel_rfl) (fun r => ?_)
 refine Sat.ite (by kernel_rfl) ?_ ?_
 ·exact Sat.ret0 [true] (by kernel_rfl) (by kernel_rfl)
 refine Sat.ite (by kernel_rfl) ?_ ?_
 ·exact Sat.ret0 [true] (by kernel_rfl) (by kernel_rfl)
 refine Sat.call (s_q15_Vars) (by kernel_rfl) (fun r1 => ?_)
 refine Sat.call (s_q11_Check f.When r1 5) (by kernel_rfl) (fun r2 => ?_)
 refine Sat.ite (by kernel_rfl) ?_ ?_
 ·exact Sat.ret0 [true] (by kernel_rfl) (by kernel_rfl)
 refine Sat.call (s_q15_Vars) (by kernel_rfl) (fun r3 => ?_)
 refine Sat.call (s_q11_Check f.Amount r3 2) (by kernel_rfl) (fun r4 => ?_)
 exact Sat.ret0 [true] (by kernel_rfl) (by kernel_rfl)
noncomputable def b53 : Code := (Tryz.f53.body).getD .skip
def q15_rule_E : Int → List RR := fun r => [.val (.int .i64 r)]
theorem s_q15_rule (x : ApiRule) : DoesP Tryz.prog gt 53 [.val (.agg (ApiRule.enc x))] q15_rule_E (q15_rule x) := by
 refine does_of (c := (cx 19 [.tmp 2])) c_ok (fn := Tryz.f53) (code := b53) Tryz.func53 (by kernel_rfl) (by kernel_rfl) (by kernel_rfl) (by kernel_rfl) (by kernel_rfl) ?_
 delta q15_rule
 refine Sat.call (s_q15_Name x.Name) (by kernel_rfl) (fun r => ?_)
 refine Sat.ite (by kernel_rfl) ?_ ?_
 ·exact Sat.ret0 [true] (by kernel_rfl) (by kernel_rfl)
 refine Sat.ite (by kernel_rfl) ?_ ?_
 ·exact Sat.ret0 [true] (by kernel_rfl) (by kernel_rfl)
 refine Sat.call (s_q15_Vars) (by kernel_rfl) (fun r1 => ?_)
 refine Sat.call (s_q11_Check x.Amount r1 2) (by kernel_rfl) (fun r2 => ?_)
 exact Sat.ret0 [true] (by kernel_rfl) (by kernel_rfl)
noncomputable def b30 : Code := (Tryz.f30.body).getD .skip
def q15_Check_E : Int → List RR := fun r => [.val (.int .i64 r)]
def q15_Check_l2_S (p : ApiProduct) : Int → St := fun s7 => (⟨[(3, .box 0 0), (16, .rv (.val (.int .i64 s7)))], [(0, some (.box [.val (.str p.Name), .val (.str p.Currency), .val (.str p.Calendar), .val (.int .i64 p.From), .val (.int .i64 p.Every), .val (.int .i64 p.Overdraft), .val (.int .i64 p.TaxPpm), .val (.slice (List.map ApiTier.enc p.Credit.Tiers)), .val (.bool p.Credit.Marginal), .val (.int .i64 p.Credit.Basis), .val (.int .i64 p.Credit.Mode), .val (.bool p.Credit.Keep), .val (.slice (List.map ApiTier.enc p.Debit.Tiers)), .val (.bool p.Debit.Marginal), .val (.int .i64 p.Debit.Basis), .val (.int .i64 p.Debit.Mode), .val (.bool p.Debit.Keep), .val (.slice (List.map ApiFee.enc p.Fees)), .val (.slice (List.map ApiRule.enc p.Rules))]))], 1⟩ : St)
def q15_Check_l1_S (p : ApiProduct) : Int → St := fun s => (⟨[(3, .box 0 0), (14, .rv (.val (.int .i64 s)))], [(0, some (.box [.val (.str p.Name), .val (.str p.Currency), .val (.str p.Calendar), .val (.int .i64 p.From), .val (.int .i64 p.Every), .val (.int .i64 p.Overdraft), .val (.int .i64 p.TaxPpm), .val (.slice (List.map ApiTier.enc p.Credit.Tiers)), .val (.bool p.Credit.Marginal), .val (.int .i64 p.Credit.Basis), .val (.int .i64 p.Credit.Mode), .val (.bool p.Credit.Keep), .val (.slice (List.map ApiTier.enc p.Debit.Tiers)), .val (.bool p.Debit.Marginal), .val (.int .i64 p.Debit.Basis), .val (.int .i64 p.Debit.Mode), .val (.bool p.Debit.Keep), .val (.slice (List.map ApiFee.enc p.Fees)), .val (.slice (List.map ApiRule.enc p.Rules))]))], 1⟩ : St)
theorem s_q15_Check_l2 (p : ApiProduct) (s7 : Int) : Sat (cx 140 [.tmp 6]) (loopR (R0 q15_Check_E)) (loopD (cx 140 [.tmp 6]) (R0 q15_Check_E) D0 (q15_Check_l2_S p) [(3, false), (16, false)] ((cx 140 [.tmp 6]).kAt b30 [true, true, true, true, true, true, true, true, true, true, false, true, false] (k0 (cx 140 [.tmp 6]).ti (cx 140 [.tmp 6]).rvs))) ((cx 140 [.tmp 6]).ex (sub b30 [true, true, true, true, true, true, true, true, true, true, false, true, false, false]) (q15_Check_l2_S p s7) T.done) (q15_Check_l2 p s7) := by
 delta q15_Check_l2
 refine Sat.ite (by kernel_rfl) ?_ ?_
 ·refine Sat.opt (enc := ApiRule.enc) (by kernel_rfl) (getRow_map _ _ _) (fun rule => ?_)
  refine Sat.call (s_q15_rule rule) (by kernel_rfl) (fun r8 => ?_)
  refine Sat.ite (by kernel_rfl) ?_ ?_
  ·refine Sat.retL (D := D0) (A := some r8) (by kernel_rfl) ?_
   exact Sat.ret0 [true] (by kernel_rfl) (by kernel_rfl)
  exact Sat.next (by kernel_rfl) (by kernel_rfl)
 refine Sat.out (id := 2) (A := some 0) (by kernel_rfl) ?_
 exact Sat.ret0 [true] (by kernel_rfl) (by kernel_rfl)
theorem s_q15_Check_l1 (p : ApiProduct) (s : Int) : Sat (cx 140 [.tmp 6]) (loopR (R0 q15_Check_E)) (loopD (cx 140 [.tmp 6]) (R0 q15_Check_E) D0 (q15_Check_l1_S p) [(3, false), (14, false)] ((cx 140 [.tmp 6]).kAt b30 [true, true, true, true, true, true, true, true, true, false, true, false] (k0 (cx 140 [.tmp 6]).ti (cx 140 [.tmp 6]).rvs))) ((cx 140 [.tmp 6]).ex (sub b30 [true, true, true, true, true, true, true, true, true, false, true, false, false]) (q15_Check_l1_S p s) T.done) (q15_Check_l1 p s) := by
 delta q15_Check_l1
 refine Sat.ite (by kernel_rfl) ?_ ?_
 ·refine Sat.opt (enc := ApiFee.enc) (by kernel_rfl) (getRow_map _ _ _) (fun fee => ?_)
  refine Sat.call (s_q15_fee fee) (by kernel_rfl) (fun r6 => ?_)
  refine Sat.ite (by kernel_rfl) ?_ ?_
  ·refine Sat.retL (D := D0) (A := some r6) (by kernel_rfl) ?_
   exact Sat.ret0 [true] (by kernel_rfl) (by kernel_rfl)
  exact Sat.next (by kernel_rfl) (by kernel_rfl)
 refine Sat.out (id := 0) (by kernel_rfl) ?_
 exact Sat.loop (s0 := 0) [(3, false), (16, false)] c_ok (by kernel_rfl) (by kernel_rfl) (by kernel_rfl) (by kernel_rfl) (s_q15_Check_l2 p)
theorem s_q15_Check (p : ApiProduct) (l : (List ApiCurrency)) (c : (List ApiCalendar)) : DoesP Tryz.prog gt 30 [.val (.agg (ApiProduct.enc p)), .val (.slice (List.map ApiCurrency.enc l)), .val (.slice (List.map ApiCalendar.enc c))] q15_Check_E (q15_Check p l c) := by
 refine does_of (c := (cx 140 [.tmp 6])) c_ok (fn := Tryz.f30) (code := b30) Tryz.func30 (by kernel_rfl) (by kernel_rfl) (by kernel_rfl) (by kernel_rfl) (by kernel_rfl) ?_
 delta q15_Check
 refine Sat.call (s_q15_Name p.Name) (by kernel_rfl) (fun r => ?_)
 refine Sat.ite (by kernel_rfl) ?_ ?_
 ·exact Sat.ret0 [true] (by kernel_rfl) (by kernel_rfl)
 refine Sat.call (s_q03_Find l p.Currency) (by kernel_rfl) (fun r1 => ?_)
 refine Sat.ite (by kernel_rfl) ?_ ?_
 ·exact Sat.ret0 [true] (by kernel_rfl) (by kernel_rfl)
 refine Sat.call (s_q05_Find c p.Calendar) (by kernel_rfl) (fun r2 => ?_)
 refine Sat.ite (by kernel_rfl) ?_ ?_
 ·exact Sat.ret0 [true] (by kernel_rfl) (by kernel_rfl)
 refine Sat.call (s_q04_Valid p.From) (by kernel_rfl) (fun r3 => ?_)
 refine Sat.ite (by kernel_rfl) ?_ ?_
 ·exact Sat.ret0 [true] (by kernel_rfl) (by kernel_rfl)
 refine Sat.call (s_q15_interest p.Credit) (by kernel_rfl) (fun r4 => ?_)
 refine Sat.ite (by kernel_rfl) ?_ ?_
 ·exact Sat.ret0 [true] (by kernel_rfl) (by kernel_rfl)
 refine Sat.call (s_q15_interest p.Debit) (by kernel_rfl) (fun r5 => ?_)
 refine Sat.ite (by kernel_rfl) ?_ ?_
 ·exact Sat.ret0 [true] (by kernel_rfl) (by kernel_rfl)
 refine Sat.ite (by kernel_rfl) ?_ ?_
 ·exact Sat.ret0 [true] (by kernel_rfl) (by kernel_rfl)
 exact Sat.loop (s0 := 0) [(3, false), (14, false)] c_ok (by kernel_rfl) (by kernel_rfl) (by kernel_rfl) (by kernel_rfl) (s_q15_Check_l1 p)
noncomputable def b14 : Code := (Tryz.f14.body).getD .skip
def q26_products_E : Int → List RR := fun r => [.val (.int .i64 r)]
def q26_products_l1_S (b : ApiBooks) : (Int × Int) → St := fun s => (⟨[(1, .box 0 0), (3, .rv (.val (.int .i64 s.1))), (4, .rv (.val (.int .i64 s.2)))], [(0, some (.box [.val (.slice (List.map ApiCurrency.enc b.Currencies)), .val (.slice (List.map ApiCalendar.enc b.Calendars)), .val (.slice (List.map ApiGl.enc b.Chart)), .val (.int .i64 b.Plan.Cash), .val (.int .i64 b.Plan.Deposits), .val (.int .i64 b.Plan.InterestPaid), .val (.int .i64 b.Plan.InterestEarned), .val (.int .i64 b.Plan.FeeEarned), .val (.int .i64 b.Plan.Tax), .val (.int .i64 b.Plan.Clearing), .val (.int .i64 b.Plan.Loans), .val (.int .i64 b.Plan.LoanInterest), .val (.int .i64 b.Plan.Penalty), .val (.int .i64 b.Plan.Provision), .val (.int .i64 b.Plan.ProvisionCost), .val (.int .i64 b.Plan.Loss), .val (.int .i64 b.Plan.Recovery), .val (.slice (List.map ApiProduct.enc b.Products)), .val (.slice (List.map ApiAccount.enc b.Accounts)), .val (.slice (List.map ApiEntry.enc b.Journal)), .val (.slice (List.map ApiHold.enc b.Holds)), .val (.slice (List.map ApiBlock.enc b.Blocks))]))], 1⟩ : St)
theorem s_q26_products_l1 (b : ApiBooks) (s : (Int × Int)) : Sat (cx 30 [.tmp 2]) (loopR (R0 q26_products_E)) (loopD (cx 30 [.tmp 2]) (R0 q26_products_E) D0 (q26_products_l1_S b) [(1, false), (3, false), (4, false)] ((cx 30 [.tmp 2]).kAt b14 [true, true, false, true, false] (k0 (cx 30 [.tmp 2]).ti (cx 30 [.tmp 2]).rvs))) ((cx 30 [.tmp 2]).ex (sub b14 [true, true, false, true, false, false]) (q26_products_l1_S b s) T.done) (q26_products_l1 b s) := by
 delta q26_products_l1
 refine Sat.ite (by kernel_rfl) ?_ ?_
 ·refine Sat.opt (enc := ApiProduct.enc) (by kernel_rfl) (getRow_map _ _ _) (fun product => ?_)
  refine Sat.call (s_q15_Check product b.Currencies b.Calendars) (by kernel_rfl) (fun r1 => ?_)
  exact Sat.next (by kernel_rfl) (by kernel_rfl)
 refine Sat.out (id := 0) (A := some s.1) (by kernel_rfl) ?_
 exact Sat.ret0 [true] (by kernel_rfl) (by kernel_rfl)
theorem s_q26_products (b : ApiBooks) : DoesP Tryz.prog gt 14 [.val (.agg (ApiBooks.enc b))] q26_products_E (q26_products b) := by
 refine does_of (c := (cx 30 [.tmp 2])) c_ok (fn := Tryz.f14) (code := b14) Tryz.func14 (by kernel_rfl) (by kernel_rfl) (by kernel_rfl) (by kernel_rfl) (by kernel_rfl) ?_
 delta q26_products
 refine Sat.call (s_q17_Check b.Products) (by kernel_rfl) (fun r => ?_)
 exact Sat.loop (s0 := (r, 0)) [(1, false), (3, false), (4, false)] c_ok (by kernel_rfl) (by kernel_rfl) (by kernel_rfl) (by kernel_rfl) (s_q26_products_l1 b)
noncomputable def b98 : Code := (Tryz.f98.body).getD .skip
def q08_Plain_E : Bool → List RR := fun r => [.val (.bool r)]
def q08_Plain_l1_S (s : ByteArray) : Int → St := fun s1 => (⟨[(0, .rv (.val (.str s))), (3, .rv (.val (.int .i64 s1)))], [], 0⟩ : St)
theorem s_q08_Plain_l1 (s : ByteArray) (s1 : Int) : Sat (cx 32 [.tmp 2]) (loopR (R0 q08_Plain_E)) (loopD (cx 32 [.tmp 2]) (R0 q08_Plain_E) D0 (q08_Plain_l1_S s) [(0, false), (3, false)] ((cx 32 [.tmp 2]).kAt b98 [true, false, true, false] (k0 (cx 32 [.tmp 2]).ti (cx 32 [.tmp 2]).rvs))) ((cx 32 [.tmp 2]).ex (sub b98 [true, false, true, false, false]) (q08_Plain_l1_S s s1) T.done) (q08_Plain_l1 s s1) := by
 delta q08_Plain_l1
 refine Sat.ite (by kernel_rfl) ?_ ?_
 ·refine Sat.need (g := true) (p := (0 : Int) ≤ s1 ∧ s1 < (s.size : Int)) (by kernel_rfl) (fun h _ => by exact h) ?_
  refine Sat.need (g := (((decide ((bt s s1) < 48)) == false) && true)) (p := (0 : Int) ≤ s1 ∧ s1 < (s.size : Int)) (by kernel_rfl) (fun h0 hg => by have h := h0 hg; exact h) ?_
  refine Sat.need (g := (((bif (decide ((bt s s1) < 48)) then true else (decide ((bt s s1) > 57))) == true) && true)) (p := (0 : Int) ≤ s1 ∧ s1 < (s.size : Int)) (by kernel_rfl) (fun h0 hg => by have h := h0 hg; exact h) ?_
  refine Sat.need (g := (((decide ((bt s s1) < 65)) == false) && (((bif (decide ((bt s s1) < 48)) then true else (decide ((bt s s1) > 57))) == true) && true))) (p := (0 : Int) ≤ s1 ∧ s1 < (s.size : Int)) (by kernel_rfl) (fun h0 hg => by have h := h0 hg; exact h) ?_
  refine Sat.ite (by kernel_rfl) ?_ ?_
  ·refine Sat.retL (D := D0) (A := some false) (by kernel_rfl) ?_
   exact Sat.ret0 [true] (by kernel_rfl) (by kernel_rfl)
  exact Sat.next (by kernel_rfl) (by kernel_rfl)
 refine Sat.out (id := 0) (A := some true) (by kernel_rfl) ?_
 exact Sat.ret0 [true] (by kernel_rfl) (by kernel_rfl)
theorem s_q08_Plain (s : ByteArray) : DoesP Tryz.prog gt 98 [.val (.str s)] q08_Plain_E (q08_Plain s) := by
 refine does_of (c := (cx 32 [.tmp 2])) c_ok (fn := Tryz.f98) (code := b98) Tryz.func98 (by kernel_rfl) (by kernel_rfl) (by kernel_rfl) (by kernel_rfl) (by kernel_rfl) ?_
 delta q08_Plain
 exact Sat.loop (s0 := 0) [(0, false), (3, false)] c_ok (by kernel_rfl) (by kernel_rfl) (by kernel_rfl) (by kernel_rfl) (s_q08_Plain_l1 s)
noncomputable def b99 : Code := (Tryz.f99.body).getD .skip
def q08_rest_E : Int → List RR := fun r => [.val (.int .i64 r)]
def q08_rest_j0_S (s : ByteArray) (s1 : (Int × Int)) : Int → St := fun s2 => (⟨[(0, .rv (.val (.str s))), (3, .rv (.val (.int .i64 s2))), (4, .rv (.val (.int .i64 s1.2)))], [], 0⟩ : St)
def q08_rest_l1_S (s : ByteArray) : (Int × Int) → St := fun s1 => (⟨[(0, .rv (.val (.str s))), (3, .rv (.val (.int .i64 s1.1))), (4, .rv (.val (.int .i64 s1.2)))], [], 0⟩ : St)
theorem s_q08_rest_j0 (s : ByteArray) (s1 : (Int × Int)) (s2 : Int) : Sat (cx 35 [.tmp 2]) (loopR (R0 q08_rest_E)) (loopD (cx 35 [.tmp 2]) (R0 q08_rest_E) D0 (q08_rest_l1_S s) [(0, false), (3, false), (4, false)] ((cx 35 [.tmp 2]).kAt b99 [true, true, false, true, false] (k0 (cx 35 [.tmp 2]).ti (cx 35 [.tmp 2]).rvs))) ((cx 35 [.tmp 2]).ex (sub b99 [true, true, false, true, false, false, true, true]) (q08_rest_j0_S s s1 s2) ((cx 35 [.tmp 2]).kAt b99 [true, true, false, true, false, false, true, true] (k0 (cx 35 [.tmp 2]).ti (cx 35 [.tmp 2]).rvs))) (q08_rest_j0 s1 s2) := by
 delta q08_rest_j0
 exact Sat.next (by kernel_rfl) (by kernel_rfl)
theorem s_q08_rest_l1 (s : ByteArray) (s1 : (Int × Int)) : Sat (cx 35 [.tmp 2]) (loopR (R0 q08_rest_E)) (loopD (cx 35 [.tmp 2]) (R0 q08_rest_E) D0 (q08_rest_l1_S s) [(0, false), (3, false), (4, false)] ((cx 35 [.tmp 2]).kAt b99 [true, true, false, true, false] (k0 (cx 35 [.tmp 2]).ti (cx 35 [.tmp 2]).rvs))) ((cx 35 [.tmp 2]).ex (sub b99 [true, true, false, true, false, false]) (q08_rest_l1_S s s1) T.done) (q08_rest_l1 s s1) := by
 delta q08_rest_l1
 refine Sat.ite (by kernel_rfl) ?_ ?_
 ·refine Sat.need (g := true) (p := (0 : Int) ≤ s1.2 ∧ s1.2 < (s.size : Int)) (by kernel_rfl) (fun h _ => by exact h) ?_
  refine Sat.ite (by kernel_rfl) ?_ ?_
  ·refine Sat.need (g := true) (p := (0 : Int) ≤ s1.2 ∧ s1.2 < (s.size : Int)) (by kernel_rfl) (fun h _ => by exact h) ?_
   refine Sat.need0 (g := true) (p := 97 ≠ (0 : Int)) (by kernel_rfl) (by decide) ?_
   exact Sat.cut (s0 := ((IntKind.wrap .i64 ((IntKind.wrap .i64 (10 * s1.1)) + (IntKind.wrap .i64 (IntKind.wrap .u8 ((bt s s1.2) - 48))))).tmod 97)) [(0, false), (3, false), (4, false)] c_ok (by kernel_rfl) (by kernel_rfl) (by kernel_rfl) (by kernel_rfl) (s_q08_rest_j0 s s1)
  refine Sat.need (g := true) (p := (0 : Int) ≤ s1.2 ∧ s1.2 < (s.size : Int)) (by kernel_rfl) (fun h _ => by exact h) ?_
  refine Sat.need0 (g := true) (p := 97 ≠ (0 : Int)) (by kernel_rfl) (by decide) ?_
  exact Sat.cut (s0 := ((IntKind.wrap .i64 ((IntKind.wrap .i64 ((IntKind.wrap .i64 (100 * s1.1)) + (IntKind.wrap .i64 (IntKind.wrap .u8 ((bt s s1.2) - 65))))) + 10)).tmod 97)) [(0, false), (3, false), (4, false)] c_ok (by kernel_rfl) (by kernel_rfl) (by kernel_rfl) (by kernel_rfl) (s_q08_rest_j0 s s1)
 refine Sat.out (id := 0) (A := some s1.1) (by kernel_rfl) ?_
 exact Sat.ret0 [true] (by kernel_rfl) (by kernel_rfl)
theorem s_q08_rest (s : ByteArray) : DoesP Tryz.prog gt 99 [.val (.str s)] q08_rest_E (q08_rest s) := by
 refine does_of (c := (cx 35 [.tmp 2])) c_ok (fn := Tryz.f99) (code := b99) Tryz.func99 (by kernel_rfl) (by kernel_rfl) (by kernel_rfl) (by kernel_rfl) (by kernel_rfl) ?_
 delta q08_rest
 exact Sat.loop (s0 := (0, 0)) [(0, false), (3, false), (4, false)] c_ok (by kernel_rfl) (by kernel_rfl) (by kernel_rfl) (by kernel_rfl) (s_q08_rest_l1 s)
noncomputable def b75 : Code := (Tryz.f75.body).getD .skip
def q08_Seal_E : (ByteArray × Int) → List RR := fun r => [.val (.str r.1), .val (.int .i64 r.2)]
theorem s_q08_Seal (s : ByteArray) : DoesP Tryz.prog gt 75 [.val (.str s)] q08_Seal_E (q08_Seal s) := by
 refine does_of (c := (cx 35 [.tmp 2, .tmp 3])) c_ok (fn := Tryz.f75) (code := b75) Tryz.func75 (by kernel_rfl) (by kernel_rfl) (by kernel_rfl) (by kernel_rfl) (by kernel_rfl) ?_
 delta q08_Seal
 refine Sat.ite (by kernel_rfl) ?_ ?_
 ·exact Sat.ret0 [true, true] (by kernel_rfl) (by kernel_rfl)
 refine Sat.call (s_q08_Plain s) (by kernel_rfl) (fun r => ?_)
 refine Sat.ite (by kernel_rfl) ?_ ?_
 ·exact Sat.ret0 [true, true] (by kernel_rfl) (by kernel_rfl)
 refine Sat.need (g := true) (p := s.size + (bs [48, 48]).size ≤ 9223372036854775807) (by kernel_rfl) (fun h _ => by exact h) ?_
 refine Sat.call (s_q08_rest (s ++ (bs [48, 48]))) (by kernel_rfl) (fun r1 => ?_)
 refine Sat.need0 (g := true) (p := 10 ≠ (0 : Int)) (by kernel_rfl) (by decide) ?_
 refine Sat.need0 (g := true) (p := 10 ≠ (0 : Int)) (by kernel_rfl) (by decide) ?_
 refine Sat.need (g := true) (p := (0 : Int) ≤ (IntKind.wrap .i64 ((IntKind.wrap .i64 (98 - r1)).tdiv 10)) ∧ (IntKind.wrap .i64 ((IntKind.wrap .i64 (98 - r1)).tdiv 10)) ≤ (IntKind.wrap .i64 ((IntKind.wrap .i64 ((IntKind.wrap .i64 (98 - r1)).tdiv 10)) + 1)) ∧ (IntKind.wrap .i64 ((IntKind.wrap .i64 ((IntKind.wrap .i64 (98 - r1)).tdiv 10)) + 1)) ≤ ((bs [48, 49, 50, 51, 52, 53, 54, 55, 56, 57]).size : Int)) (by kernel_rfl) (fun h _ => by exact h) ?_
 refine Sat.need (g := true) (p := s.size + ((bs [48, 49, 50, 51, 52, 53, 54, 55, 56, 57]).extract ((IntKind.wrap .i64 ((IntKind.wrap .i64 (98 - r1)).tdiv 10)) : Int).toNat ((IntKind.wrap .i64 ((IntKind.wrap .i64 ((IntKind.wrap .i64 (98 - r1)).tdiv 10)) + 1)) : Int).toNat).size ≤ 9223372036854775807) (by kernel_rfl) (fun h _ => by exact h) ?_
 refine Sat.need0 (g := true) (p := 10 ≠ (0 : Int)) (by kernel_rfl) (by decide) ?_
 refine Sat.need0 (g := true) (p := 10 ≠ (0 : Int)) (by kernel_rfl) (by decide) ?_
 refine Sat.need (g := true) (p := (0 : Int) ≤ ((IntKind.wrap .i64 (98 - r1)).tmod 10) ∧ ((IntKind.wrap .i64 (98 - r1)).tmod 10) ≤ (IntKind.wrap .i64 (((IntKind.wrap .i64 (98 - r1)).tmod 10) + 1)) ∧ (IntKind.wrap .i64 (((IntKind.wrap .i64 (98 - r1)).tmod 10) + 1)) ≤ ((bs [48, 49, 50, 51, 52, 53, 54, 55, 56, 57]).size : Int)) (by kernel_rfl) (fun h _ => by exact h) ?_
 refine Sat.need (g := true) (p := (s ++ ((bs [48, 49, 50, 51, 52, 53, 54, 55, 56, 57]).extract ((IntKind.wrap .i64 ((IntKind.wrap .i64 (98 - r1)).tdiv 10)) : Int).toNat ((IntKind.wrap .i64 ((IntKind.wrap .i64 ((IntKind.wrap .i64 (98 - r1)).tdiv 10)) + 1)) : Int).toNat)).size + ((bs [48, 49, 50, 51, 52, 53, 54, 55, 56, 57]).extract (((IntKind.wrap .i64 (98 - r1)).tmod 10) : Int).toNat ((IntKind.wrap .i64 (((IntKind.wrap .i64 (98 - r1)).tmod 10) + 1)) : Int).toNat).size ≤ 9223372036854775807) (by kernel_rfl) (fun h _ => by exact h) ?_
 exact Sat.ret0 [true, true] (by kernel_rfl) (by kernel_rfl)
noncomputable def b54 : Code := (Tryz.f54.body).getD .skip
def q24_Number_E : ByteArray → List RR := fun r => [.val (.str r)]
def q24_Number_l1_S : (Int × ByteArray × Int) → St := fun s => (⟨[(0, .rv (.val (.int .i64 s.1))), (3, .rv (.val (.str s.2.1))), (4, .rv (.val (.int .i64 s.2.2)))], [], 0⟩ : St)
theorem s_q24_Number_l1 (s : (Int × ByteArray × Int)) : Sat (cx 34 [.tmp 2]) (loopR (R0 q24_Number_E)) (loopD (cx 34 [.tmp 2]) (R0 q24_Number_E) D0 (q24_Number_l1_S) [(0, false), (3, false), (4, false)] ((cx 34 [.tmp 2]).kAt b54 [true, true, true, false, true, false] (k0 (cx 34 [.tmp 2]).ti (cx 34 [.tmp 2]).rvs))) ((cx 34 [.tmp 2]).ex (sub b54 [true, true, true, false, true, false, false]) (q24_Number_l1_S s) T.done) (q24_Number_l1 s) := by
 delta q24_Number_l1
 refine Sat.ite (by kernel_rfl) ?_ ?_
 ·refine Sat.need0 (g := true) (p := 10 ≠ (0 : Int)) (by kernel_rfl) (by decide) ?_
  refine Sat.need0 (g := true) (p := 10 ≠ (0 : Int)) (by kernel_rfl) (by decide) ?_
  refine Sat.need (g := true) (p := (0 : Int) ≤ (s.1.tmod 10) ∧ (s.1.tmod 10) ≤ (IntKind.wrap .i64 ((s.1.tmod 10) + 1)) ∧ (IntKind.wrap .i64 ((s.1.tmod 10) + 1)) ≤ ((bs [48, 49, 50, 51, 52, 53, 54, 55, 56, 57]).size : Int)) (by kernel_rfl) (fun h _ => by exact h) ?_
  refine Sat.need (g := true) (p := ((bs [48, 49, 50, 51, 52, 53, 54, 55, 56, 57]).extract ((s.1.tmod 10) : Int).toNat ((IntKind.wrap .i64 ((s.1.tmod 10) + 1)) : Int).toNat).size + s.2.1.size ≤ 9223372036854775807) (by kernel_rfl) (fun h _ => by exact h) ?_
  refine Sat.need0 (g := true) (p := 10 ≠ (0 : Int)) (by kernel_rfl) (by decide) ?_
  exact Sat.next (by kernel_rfl) (by kernel_rfl)
 refine Sat.out (id := 0) (by kernel_rfl) ?_
 refine Sat.need (g := true) (p := (bs [67, 66]).size + s.2.1.size ≤ 9223372036854775807) (by kernel_rfl) (fun h _ => by exact h) ?_
 refine Sat.call (s_q08_Seal ((bs [67, 66]) ++ s.2.1)) (by kernel_rfl) (fun r => ?_)
 exact Sat.ret0 [true] (by kernel_rfl) (by kernel_rfl)
theorem s_q24_Number (id : Int) : DoesP Tryz.prog gt 54 [.val (.int .i64 id)] q24_Number_E (q24_Number id) := by
 refine does_of (c := (cx 34 [.tmp 2])) c_ok (fn := Tryz.f54) (code := b54) Tryz.func54 (by kernel_rfl) (by kernel_rfl) (by kernel_rfl) (by kernel_rfl) (by kernel_rfl) ?_
 delta q24_Number
 refine Sat.ite (by kernel_rfl) ?_ ?_
 ·exact Sat.ret0 [true] (by kernel_rfl) (by kernel_rfl)
 exact Sat.loop (s0 := (id, (bs []), 0)) [(0, false), (3, false), (4, false)] c_ok (by kernel_rfl) (by kernel_rfl) (by kernel_rfl) (by kernel_rfl) (s_q24_Number_l1)
noncomputable def b32 : Code := (Tryz.f32.body).getD .skip
def q24_shaped_E : Bool → List RR := fun r => [.val (.bool r)]
theorem s_q24_shaped (a : ApiAccount) : DoesP Tryz.prog gt 32 [.val (.agg (ApiAccount.enc a))] q24_shaped_E (q24_shaped a) := by
 refine does_of (c := (cx 24 [.tmp 2])) c_ok (fn := Tryz.f32) (code := b32) Tryz.func32 (by kernel_rfl) (by kernel_rfl) (by kernel_rfl) (by kernel_rfl) (by kernel_rfl) ?_
 delta q24_shaped
 refine Sat.callG (s_q04_Valid a.Opened) (by kernel_rfl) (fun r => ?_)
 refine Sat.callG (s_q24_Number a.Id) (by kernel_rfl) (fun r1 => ?_)
 exact Sat.ret0 [true] (by kernel_rfl) (by kernel_rfl)
noncomputable def b55 : Code := (Tryz.f55.body).getD .skip
def q17_At_E : (ApiProduct × Bool) → List RR := fun r => [.val (.agg (ApiProduct.enc r.1)), .val (.bool r.2)]
def q17_At_j0_S (l : (List ApiProduct)) (name : ByteArray) (day : Int) (s : (Int × Int)) : Int → St := fun s4 => (⟨[(0, .rv (.val (.slice (List.map ApiProduct.enc l)))), (1, .rv (.val (.str name))), (2, .rv (.val (.int .i64 day))), (6, .box 0 0), (8, .rv (.val (.int .i64 s4))), (9, .rv (.val (.int .i64 s.2)))], [(0, some (.box [.val (.str (bs [])), .val (.str (bs [])), .val (.str (bs [])), .val (.int .i64 0), .val (.int .i64 0), .val (.int .i64 0), .val (.int .i64 0), .nils, .val (.bool false), .val (.int .i64 0), .val (.int .i64 0), .val (.bool false), .nils, .val (.bool false), .val (.int .i64 0), .val (.int .i64 0), .val (.bool false), .nils, .nils]))], 1⟩ : St)
def q17_At_l1_S (l : (List ApiProduct)) (name : ByteArray) (day : Int) : (Int × Int) → St := fun s => (⟨[(0, .rv (.val (.slice (List.map ApiProduct.enc l)))), (1, .rv (.val (.str name))), (2, .rv (.val (.int .i64 day))), (6, .box 0 0), (8, .rv (.val (.int .i64 s.1))), (9, .rv (.val (.int .i64 s.2)))], [(0, some (.box [.val (.str (bs [])), .val (.str (bs [])), .val (.str (bs [])), .val (.int .i64 0), .val (.int .i64 0), .val (.int .i64 0), .val (.int .i64 0), .nils, .val (.bool false), .val (.int .i64 0), .val (.int .i64 0), .val (.bool false), .nils, .val (.bool false), .val (.int .i64 0), .val (.int .i64 0), .val (.bool false), .nils, .nils]))], 1⟩ : St)
theorem s_q17_At_j0 (l : (List ApiProduct)) (name : ByteArray) (day : Int) (s : (Int × Int)) (s4 : Int) : Sat (cx 57 [.cell 6 80, .tmp 7]) (loopR (R0 q17_At_E)) (loopD (cx 57 [.cell 6 80, .tmp 7]) (R0 q17_At_E) D0 (q17_At_l1_S l name day) [(0, false), (1, false), (2, false), (6, false), (8, false), (9, false)] ((cx 57 [.cell 6 80, .tmp 7]).kAt b55 [true, true, false, true, false] (k0 (cx 57 [.cell 6 80, .tmp 7]).ti (cx 57 [.cell 6 80, .tmp 7]).rvs))) ((cx 57 [.cell 6 80, .tmp 7]).ex (sub b55 [true, true, false, true, false, false, true, true]) (q17_At_j0_S l name day s s4) ((cx 57 [.cell 6 80, .tmp 7]).kAt b55 [true, true, false, true, false, false, true, true] (k0 (cx 57 [.cell 6 80, .tmp 7]).ti (cx 57 [.cell 6 80, .tmp 7]).rvs))) (q17_At_j0 s s4) := by
 delta q17_At_j0
 exact Sat.next (by kernel_rfl) (by kernel_rfl)
theorem s_q17_At_l1 (l : (List ApiProduct)) (name : ByteArray) (day : Int) (s : (Int × Int)) : Sat (cx 57 [.cell 6 80, .tmp 7]) (loopR (R0 q17_At_E)) (loopD (cx 57 [.cell 6 80, .tmp 7]) (R0 q17_At_E) D0 (q17_At_l1_S l name day) [(0, false), (1, false), (2, false), (6, false), (8, false), (9, false)] ((cx 57 [.cell 6 80, .tmp 7]).kAt b55 [true, true, false, true, false] (k0 (cx 57 [.cell 6 80, .tmp 7]).ti (cx 57 [.cell 6 80, .tmp 7]).rvs))) ((cx 57 [.cell 6 80, .tmp 7]).ex (sub b55 [true, true, false, true, false, false]) (q17_At_l1_S l name day s) T.done) (q17_At_l1 l name day s) := by
 delta q17_At_l1
 refine Sat.ite (by kernel_rfl) ?_ ?_
 ·refine Sat.opt (enc := ApiProduct.enc) (by kernel_rfl) (getRow_map _ _ _) (fun li => ?_)
  refine Sat.optG (enc := ApiProduct.enc) (by kernel_rfl) (getRow_map _ _ _) (fun li1 => ?_)
  refine Sat.optG (enc := ApiProduct.enc) (by kernel_rfl) (getRow_map _ _ _) (fun li2 => ?_)
  refine Sat.optG (enc := ApiProduct.enc) (by kernel_rfl) (getRow_map _ _ _) (fun li3 => ?_)
  refine Sat.ite (by kernel_rfl) ?_ ?_
  ·exact Sat.cut (s0 := s.2) [(0, false), (1, false), (2, false), (6, false), (8, false), (9, false)] c_ok (by kernel_rfl) (by kernel_rfl) (by kernel_rfl) (by kernel_rfl) (s_q17_At_j0 l name day s)
  exact Sat.cut (s0 := s.1) [(0, false), (1, false), (2, false), (6, false), (8, false), (9, false)] c_ok (by kernel_rfl) (by kernel_rfl) (by kernel_rfl) (by kernel_rfl) (s_q17_At_j0 l name day s)
 refine Sat.out (id := 0) (by kernel_rfl) ?_
 refine Sat.ite (by kernel_rfl) ?_ ?_
 ·exact Sat.ret0 [true, true] (by kernel_rfl) (by kernel_rfl)
 refine Sat.opt (enc := ApiProduct.enc) (by kernel_rfl) (getRow_map _ _ _) (fun li5 => ?_)
 exact Sat.ret0 [true, true] (by kernel_rfl) (by kernel_rfl)
theorem s_q17_At (l : (List ApiProduct)) (name : ByteArray) (day : Int) : DoesP Tryz.prog gt 55 [.val (.slice (List.map ApiProduct.enc l)), .val (.str name), .val (.int .i64 day)] q17_At_E (q17_At l name day) := by
 refine does_of (c := (cx 57 [.cell 6 80, .tmp 7])) c_ok (fn := Tryz.f55) (code := b55) Tryz.func55 (by kernel_rfl) (by kernel_rfl) (by kernel_rfl) (by kernel_rfl) (by kernel_rfl) ?_
 delta q17_At
 exact Sat.loop (s0 := ((-1), 0)) [(0, false), (1, false), (2, false), (6, false), (8, false), (9, false)] c_ok (by kernel_rfl) (by kernel_rfl) (by kernel_rfl) (by kernel_rfl) (s_q17_At_l1 l name day)
noncomputable def b33 : Code := (Tryz.f33.body).getD .skip
def q24_owned_E : Int → List RR := fun r => [.val (.int .i64 r)]
theorem s_q24_owned (b : ApiBooks) (a : ApiAccount) : DoesP Tryz.prog gt 33 [.val (.agg (ApiBooks.enc b)), .val (.agg (ApiAccount.enc a))] q24_owned_E (q24_owned b a) := by
 refine does_of (c := (cx 23 [.tmp 4])) c_ok (fn := Tryz.f33) (code := b33) Tryz.func33 (by kernel_rfl) (by kernel_rfl) (by kernel_rfl) (by kernel_rfl) (by kernel_rfl) ?_
 delta q24_owned
 refine Sat.call (s_q15_Name a.Owner) (by kernel_rfl) (fun r => ?_)
 refine Sat.ite (by kernel_rfl) ?_ ?_
 ·exact Sat.ret0 [true] (by kernel_rfl) (by kernel_rfl)
 refine Sat.call (s_q17_At b.Products a.Product a.Opened) (by kernel_rfl) (fun r1 => ?_)
 refine Sat.ite (by kernel_rfl) ?_ ?_
 ·exact Sat.ret0 [true] (by kernel_rfl) (by kernel_rfl)
 exact Sat.ret0 [true] (by kernel_rfl) (by kernel_rfl)
noncomputable def b15 : Code := (Tryz.f15.body).getD .skip
def q24_Check_E : Int → List RR := fun r => [.val (.int .i64 r)]
def q24_Check_l1_S (b : ApiBooks) : Int → St := fun s => (⟨[(1, .box 0 0), (3, .rv (.val (.int .i64 s)))], [(0, some (.box [.val (.slice (List.map ApiCurrency.enc b.Currencies)), .val (.slice (List.map ApiCalendar.enc b.Calendars)), .val (.slice (List.map ApiGl.enc b.Chart)), .val (.int .i64 b.Plan.Cash), .val (.int .i64 b.Plan.Deposits), .val (.int .i64 b.Plan.InterestPaid), .val (.int .i64 b.Plan.InterestEarned), .val (.int .i64 b.Plan.FeeEarned), .val (.int .i64 b.Plan.Tax), .val (.int .i64 b.Plan.Clearing), .val (.int .i64 b.Plan.Loans), .val (.int .i64 b.Plan.LoanInterest), .val (.int .i64 b.Plan.Penalty), .val (.int .i64 b.Plan.Provision), .val (.int .i64 b.Plan.ProvisionCost), .val (.int .i64 b.Plan.Loss), .val (.int .i64 b.Plan.Recovery), .val (.slice (List.map ApiProduct.enc b.Products)), .val (.slice (List.map ApiAccount.enc b.Accounts)), .val (.slice (List.map ApiEntry.enc b.Journal)), .val (.slice (List.map ApiHold.enc b.Holds)), .val (.slice (List.map ApiBlock.enc b.Blocks))]))], 1⟩ : St)
theorem s_q24_Check_l1 (b : ApiBooks) (s : Int) : Sat (cx 75 [.tmp 2]) (loopR (R0 q24_Check_E)) (loopD (cx 75 [.tmp 2]) (R0 q24_Check_E) D0 (q24_Check_l1_S b) [(1, false), (3, false)] ((cx 75 [.tmp 2]).kAt b15 [true, true, false, true, false] (k0 (cx 75 [.tmp 2]).ti (cx 75 [.tmp 2]).rvs))) ((cx 75 [.tmp 2]).ex (sub b15 [true, true, false, true, false, false]) (q24_Check_l1_S b s) T.done) (q24_Check_l1 b s) := by
 delta q24_Check_l1
 refine Sat.ite (by kernel_rfl) ?_ ?_
 ·refine Sat.opt (enc := ApiAccount.enc) (by kernel_rfl) (getRow_map _ _ _) (fun account => ?_)
  refine Sat.callG (s_q04_Valid account.Closed) (by kernel_rfl) (fun r => ?_)
  refine Sat.call (s_q24_shaped account) (by kernel_rfl) (fun r1 => ?_)
  refine Sat.ite (by kernel_rfl) ?_ ?_
  ·refine Sat.retL (D := D0) (A := some 1) (by kernel_rfl) ?_
   exact Sat.ret0 [true] (by kernel_rfl) (by kernel_rfl)
  refine Sat.optG (enc := ApiAccount.enc) (by kernel_rfl) (getRow_map _ _ _) (fun account2 => ?_)
  refine Sat.ite (by kernel_rfl) ?_ ?_
  ·refine Sat.retL (D := D0) (A := some 10) (by kernel_rfl) ?_
   exact Sat.ret0 [true] (by kernel_rfl) (by kernel_rfl)
  refine Sat.call (s_q24_owned b account) (by kernel_rfl) (fun r3 => ?_)
  refine Sat.ite (by kernel_rfl) ?_ ?_
  ·refine Sat.retL (D := D0) (A := some r3) (by kernel_rfl) ?_
   exact Sat.ret0 [true] (by kernel_rfl) (by kernel_rfl)
  exact Sat.next (by kernel_rfl) (by kernel_rfl)
 refine Sat.out (id := 0) (A := some 0) (by kernel_rfl) ?_
 exact Sat.ret0 [true] (by kernel_rfl) (by kernel_rfl)
theorem s_q24_Check (b : ApiBooks) : DoesP Tryz.prog gt 15 [.val (.agg (ApiBooks.enc b))] q24_Check_E (q24_Check b) := by
 refine does_of (c := (cx 75 [.tmp 2])) c_ok (fn := Tryz.f15) (code := b15) Tryz.func15 (by kernel_rfl) (by kernel_rfl) (by kernel_rfl) (by kernel_rfl) (by kernel_rfl) ?_
 delta q24_Check
 refine Sat.ite (by kernel_rfl) ?_ ?_
 ·exact Sat.ret0 [true] (by kernel_rfl) (by kernel_rfl)
 exact Sat.loop (s0 := 0) [(1, false), (3, false)] c_ok (by kernel_rfl) (by kernel_rfl) (by kernel_rfl) (by kernel_rfl) (s_q24_Check_l1 b)
noncomputable def b82 : Code := (Tryz.f82.body).getD .skip
def q07_Printed_E : Bool → List RR := fun r => [.val (.bool r)]
def q07_Printed_l1_S (s : ByteArray) (low : Int) : Int → St := fun s1 => (⟨[(0, .rv (.val (.str s))), (2, .rv (.val (.int .u8 low))), (7, .rv (.val (.int .i64 s1)))], [], 0⟩ : St)
theorem s_q07_Printed_l1 (s : ByteArray) (low : Int) (s1 : Int) : Sat (cx 29 [.tmp 6]) (loopR (R0 q07_Printed_E)) (loopD (cx 29 [.tmp 6]) (R0 q07_Printed_E) D0 (q07_Printed_l1_S s low) [(0, false), (2, false), (7, false)] ((cx 29 [.tmp 6]).kAt b82 [true, true, false, true, false] (k0 (cx 29 [.tmp 6]).ti (cx 29 [.tmp 6]).rvs))) ((cx 29 [.tmp 6]).ex (sub b82 [true, true, false, true, false, false]) (q07_Printed_l1_S s low s1) T.done) (q07_Printed_l1 s low s1) := by
 delta q07_Printed_l1
 refine Sat.ite (by kernel_rfl) ?_ ?_
 ·refine Sat.need (g := true) (p := (0 : Int) ≤ s1 ∧ s1 < (s.size : Int)) (by kernel_rfl) (fun h _ => by exact h) ?_
  refine Sat.need (g := (((decide ((bt s s1) < low)) == false) && true)) (p := (0 : Int) ≤ s1 ∧ s1 < (s.size : Int)) (by kernel_rfl) (fun h0 hg => by have h := h0 hg; exact h) ?_
  refine Sat.ite (by kernel_rfl) ?_ ?_
  ·refine Sat.retL (D := D0) (A := some false) (by kernel_rfl) ?_
   exact Sat.ret0 [true] (by kernel_rfl) (by kernel_rfl)
  exact Sat.next (by kernel_rfl) (by kernel_rfl)
 refine Sat.out (id := 0) (A := some true) (by kernel_rfl) ?_
 exact Sat.ret0 [true] (by kernel_rfl) (by kernel_rfl)
theorem s_q07_Printed (s : ByteArray) (most : Int) (low : Int) : DoesP Tryz.prog gt 82 [.val (.str s), .val (.int .i64 most), .val (.int .u8 low)] q07_Printed_E (q07_Printed s most low) := by
 refine does_of (c := (cx 29 [.tmp 6])) c_ok (fn := Tryz.f82) (code := b82) Tryz.func82 (by kernel_rfl) (by kernel_rfl) (by kernel_rfl) (by kernel_rfl) (by kernel_rfl) ?_
 delta q07_Printed
 refine Sat.ite (by kernel_rfl) ?_ ?_
 ·exact Sat.ret0 [true] (by kernel_rfl) (by kernel_rfl)
 exact Sat.loop (s0 := 0) [(0, false), (2, false), (7, false)] c_ok (by kernel_rfl) (by kernel_rfl) (by kernel_rfl) (by kernel_rfl) (s_q07_Printed_l1 s low)
noncomputable def b60 : Code := (Tryz.f60.body).getD .skip
def q07_Key_E : Bool → List RR := fun r => [.val (.bool r)]
theorem s_q07_Key (s : ByteArray) : DoesP Tryz.prog gt 60 [.val (.str s)] q07_Key_E (q07_Key s) := by
 refine does_of (c := (cx 10 [.tmp 2])) c_ok (fn := Tryz.f60) (code := b60) Tryz.func60 (by kernel_rfl) (by kernel_rfl) (by kernel_rfl) (by kernel_rfl) (by kernel_rfl) ?_
 delta q07_Key
 refine Sat.callG (s_q07_Printed s 48 33) (by kernel_rfl) (fun r => ?_)
 exact Sat.ret0 [true] (by kernel_rfl) (by kernel_rfl)
noncomputable def b132 : Code := (Tryz.f132.body).getD .skip
def q19_Code_E : Bool → List RR := fun r => [.val (.bool r)]
def q19_Code_l1_S (s : ByteArray) : Int → St := fun s1 => (⟨[(0, .rv (.val (.str s))), (3, .rv (.val (.int .i64 s1)))], [], 0⟩ : St)
theorem s_q19_Code_l1 (s : ByteArray) (s1 : Int) : Sat (cx 23 [.tmp 2]) (loopR (R0 q19_Code_E)) (loopD (cx 23 [.tmp 2]) (R0 q19_Code_E) D0 (q19_Code_l1_S s) [(0, false), (3, false)] ((cx 23 [.tmp 2]).kAt b132 [true, true, false, true, false] (k0 (cx 23 [.tmp 2]).ti (cx 23 [.tmp 2]).rvs))) ((cx 23 [.tmp 2]).ex (sub b132 [true, true, false, true, false, false]) (q19_Code_l1_S s s1) T.done) (q19_Code_l1 s s1) := by
 delta q19_Code_l1
 refine Sat.ite (by kernel_rfl) ?_ ?_
 ·refine Sat.need (g := true) (p := (0 : Int) ≤ s1 ∧ s1 < (s.size : Int)) (by kernel_rfl) (fun h _ => by exact h) ?_
  refine Sat.need (g := (((decide ((bt s s1) < 65)) == false) && true)) (p := (0 : Int) ≤ s1 ∧ s1 < (s.size : Int)) (by kernel_rfl) (fun h0 hg => by have h := h0 hg; exact h) ?_
  refine Sat.ite (by kernel_rfl) ?_ ?_
  ·refine Sat.retL (D := D0) (A := some false) (by kernel_rfl) ?_
   exact Sat.ret0 [true] (by kernel_rfl) (by kernel_rfl)
  exact Sat.next (by kernel_rfl) (by kernel_rfl)
 refine Sat.out (id := 0) (A := some true) (by kernel_rfl) ?_
 exact Sat.ret0 [true] (by kernel_rfl) (by kernel_rfl)
theorem s_q19_Code (s : ByteArray) : DoesP Tryz.prog gt 132 [.val (.str s)] q19_Code_E (q19_Code s) := by
 refine does_of (c := (cx 23 [.tmp 2])) c_ok (fn := Tryz.f132) (code := b132) Tryz.func132 (by kernel_rfl) (by kernel_rfl) (by kernel_rfl) (by kernel_rfl) (by kernel_rfl) ?_
 delta q19_Code
 refine Sat.ite (by kernel_rfl) ?_ ?_
 ·exact Sat.ret0 [true] (by kernel_rfl) (by kernel_rfl)
 exact Sat.loop (s0 := 0) [(0, false), (3, false)] c_ok (by kernel_rfl) (by kernel_rfl) (by kernel_rfl) (by kernel_rfl) (s_q19_Code_l1 s)
noncomputable def b100 : Code := (Tryz.f100.body).getD .skip
def q19_leg_E : Int → List RR := fun r => [.val (.int .i64 r)]
theorem s_q19_leg (x : ApiLeg) : DoesP Tryz.prog gt 100 [.val (.agg (ApiLeg.enc x))] q19_leg_E (q19_leg x) := by
 refine does_of (c := (cx 25 [.tmp 2])) c_ok (fn := Tryz.f100) (code := b100) Tryz.func100 (by kernel_rfl) (by kernel_rfl) (by kernel_rfl) (by kernel_rfl) (by kernel_rfl) ?_
 delta q19_leg
 refine Sat.ite (by kernel_rfl) ?_ ?_
 ·exact Sat.ret0 [true] (by kernel_rfl) (by kernel_rfl)
 refine Sat.call (s_q19_Code x.Currency) (by kernel_rfl) (fun r => ?_)
 refine Sat.ite (by kernel_rfl) ?_ ?_
 ·exact Sat.ret0 [true] (by kernel_rfl) (by kernel_rfl)
 exact Sat.ret0 [true] (by kernel_rfl) (by kernel_rfl)
noncomputable def b101 : Code := (Tryz.f101.body).getD .skip
def q19_Sums_E : (List ApiMoney) → List RR := fun r => [.own 175 (List.map ApiMoney.enc r)]
def q19_Sums_j0_S (l : (List ApiLeg)) (s : (Int × (List ApiMoney))) (s1 : Int) : (Int × Int) → St := fun s5 => (⟨[(0, .rv (.val (.slice (List.map ApiLeg.enc l)))), (3, .rv (.val (.slice (List.map ApiMoney.enc s.2)))), (4, .rv (.val (.int .i64 s.1))), (5, .rv (.own 0)), (6, .rv (.val (.int .i64 s5.1))), (7, .rv (.val (.int .i64 s5.2)))], [(0, some (.vec 175 ((List.map ApiMoney.enc ([])) ++ (sliceRows (List.map ApiMoney.enc s.2) 0 s1))))], 1⟩ : St)
def q19_Sums_l2_S (l : (List ApiLeg)) (s : (Int × (List ApiMoney))) : Int → St := fun s1 => (⟨[(0, .rv (.val (.slice (List.map ApiLeg.enc l)))), (3, .rv (.own 0)), (4, .rv (.val (.int .i64 s.1))), (5, .rv (.own 1)), (6, .rv (.val (.int .i64 s1)))], [(0, some (.vec 175 (List.map ApiMoney.enc s.2))), (1, some (.vec 175 (List.map ApiMoney.enc ([]))))], 2⟩ : St)
def q19_Sums_l1_S (l : (List ApiLeg)) : (Int × (List ApiMoney)) → St := fun s => (⟨[(0, .rv (.val (.slice (List.map ApiLeg.enc l)))), (3, .rv (.own 0)), (4, .rv (.val (.int .i64 s.1)))], [(0, some (.vec 175 (List.map ApiMoney.enc s.2)))], 1⟩ : St)
theorem s_q19_Sums_j0 (l : (List ApiLeg)) (s : (Int × (List ApiMoney))) (s1 : Int) (s5 : (Int × Int)) : Sat (cx 86 [.tmp 2]) (loopR (R0 q19_Sums_E)) (loopD (cx 86 [.tmp 2]) (R0 q19_Sums_E) D0 (q19_Sums_l1_S l) [(0, false), (3, false), (4, false)] ((cx 86 [.tmp 2]).kAt b101 [true, true, false, true, false] (k0 (cx 86 [.tmp 2]).ti (cx 86 [.tmp 2]).rvs))) ((cx 86 [.tmp 2]).ex (sub b101 [true, true, false, true, false, false, true, false, false, true, true, true, true, true, true]) (q19_Sums_j0_S l s s1 s5) ((cx 86 [.tmp 2]).kAt b101 [true, true, false, true, false, false, true, false, false, true, true, true, true, true, true] (k0 (cx 86 [.tmp 2]).ti (cx 86 [.tmp 2]).rvs))) (q19_Sums_j0 l s s1 s5) := by
 delta q19_Sums_j0
 refine Sat.opt (enc := ApiLeg.enc) (by kernel_rfl) (getRow_map _ _ _) (fun li6 => ?_)
 refine Sat.need (g := true) (p := (((List.map ApiMoney.enc ([])) ++ (sliceRows (List.map ApiMoney.enc s.2) 0 s1)).length + (List.map ApiMoney.enc ([(⟨li6.Currency, s5.2⟩ : ApiMoney)])).length) * 24 ≤ 140737488355328) (by kernel_rfl) (fun h _ => by simpa [sliceRows_map, List.length_set] using h) ?_
 refine Sat.need (g := true) (p := ((0 : Int) ≤ s5.1 ∧ s5.1 ≤ ((List.map ApiMoney.enc s.2).length : Int) ∧ ((List.map ApiMoney.enc s.2).length : Int) ≤ ((List.map ApiMoney.enc s.2).length : Int)) ∧ ∀ r ∈ (List.map ApiMoney.enc s.2), r.length = 2) (by kernel_rfl) (fun h _ => by exact ⟨by simpa using h, map_len ApiMoney.enc 2 (fun _ => rfl) _⟩) ?_
 refine Sat.need (g := true) (p := (∀ r ∈ (sliceRows (List.map ApiMoney.enc s.2) s5.1 ((List.map ApiMoney.enc s.2).length : Int)), r.length = 2) ∧ ((((List.map ApiMoney.enc ([])) ++ (sliceRows (List.map ApiMoney.enc s.2) 0 s1)) ++ (List.map ApiMoney.enc ([(⟨li6.Currency, s5.2⟩ : ApiMoney)]))).length + (sliceRows (List.map ApiMoney.enc s.2) s5.1 ((List.map ApiMoney.enc s.2).length : Int)).length) * 24 ≤ 140737488355328) (by kernel_rfl) (fun h _ => by exact ⟨by rw [show (sliceRows (List.map ApiMoney.enc s.2) s5.1 ((List.map ApiMoney.enc s.2).length : Int)) = List.map ApiMoney.enc (subl s.2 s5.1 ((List.map ApiMoney.enc s.2).length : Int)) from by simp [ApiMoney.enc, List.map_append, List.map_set, List.map_take, List.map_drop, sliceRows_map, List.map_replicate, eInt, eBool, eStr]]; exact map_len ApiMoney.enc 2 (fun _ => rfl) _, by simpa [sliceRows_map, List.length_set] using h⟩) ?_
 exact Sat.next (by kernel_rfl) (Eq.trans (b := (⟨[(0, .rv (.val (.slice (List.map ApiLeg.enc l)))), (3, .rv (.own 0)), (4, .rv (.val (.int .i64 (IntKind.wrap .i64 (s.1 + 1)))))], [(0, some (.vec 175 ((((List.map ApiMoney.enc ([])) ++ (sliceRows (List.map ApiMoney.enc s.2) 0 s1)) ++ (List.map ApiMoney.enc ([(⟨li6.Currency, s5.2⟩ : ApiMoney)]))) ++ (sliceRows (List.map ApiMoney.enc s.2) s5.1 ((List.map ApiMoney.enc s.2).length : Int)))))], 1⟩ : St)) (by kernel_rfl) (by simp [q19_Sums_l1_S, ApiMoney.enc, List.map_append, List.map_set, List.map_take, List.map_drop, sliceRows_map, List.map_replicate, eInt, eBool, eStr]))
theorem s_q19_Sums_l2 (l : (List ApiLeg)) (s : (Int × (List ApiMoney))) (s1 : Int) : Sat (cx 86 [.tmp 2]) (loopR (loopR (R0 q19_Sums_E))) (loopD (cx 86 [.tmp 2]) (loopR (R0 q19_Sums_E)) (loopD (cx 86 [.tmp 2]) (R0 q19_Sums_E) D0 (q19_Sums_l1_S l) [(0, false), (3, false), (4, false)] ((cx 86 [.tmp 2]).kAt b101 [true, true, false, true, false] (k0 (cx 86 [.tmp 2]).ti (cx 86 [.tmp 2]).rvs))) (q19_Sums_l2_S l s) [(0, false), (3, false), (4, false), (5, false), (6, false)] ((cx 86 [.tmp 2]).kAt b101 [true, true, false, true, false, false, true, false, false, true, true, false, false] (k0 (cx 86 [.tmp 2]).ti (cx 86 [.tmp 2]).rvs))) ((cx 86 [.tmp 2]).ex (sub b101 [true, true, false, true, false, false, true, false, false, true, true, false, false, false]) (q19_Sums_l2_S l s s1) T.done) (q19_Sums_l2 l s s1) := by
 delta q19_Sums_l2
 refine Sat.optG (enc := ApiMoney.enc) (by kernel_rfl) (getRow_map _ _ _) (fun o => ?_)
 refine Sat.optG (enc := ApiMoney.enc) (by kernel_rfl) (getEl_map _ _ _) (fun x => ?_)
 refine Sat.optG (enc := ApiLeg.enc) (by kernel_rfl) (getRow_map _ _ _) (fun li => ?_)
 refine Sat.ite (by kernel_rfl) ?_ ?_
 ·exact Sat.next (by kernel_rfl) (by kernel_rfl)
 refine Sat.out (id := 2) (by kernel_rfl) ?_
 refine Sat.need (g := true) (p := ((0 : Int) ≤ 0 ∧ 0 ≤ s1 ∧ s1 ≤ ((List.map ApiMoney.enc s.2).length : Int)) ∧ ∀ r ∈ (List.map ApiMoney.enc s.2), r.length = 2) (by kernel_rfl) (fun h _ => by exact ⟨by simpa using h, map_len ApiMoney.enc 2 (fun _ => rfl) _⟩) ?_
 refine Sat.need (g := true) (p := (∀ r ∈ (sliceRows (List.map ApiMoney.enc s.2) 0 s1), r.length = 2) ∧ ((List.map ApiMoney.enc ([])).length + (sliceRows (List.map ApiMoney.enc s.2) 0 s1).length) * 24 ≤ 140737488355328) (by kernel_rfl) (fun h _ => by exact ⟨by rw [show (sliceRows (List.map ApiMoney.enc s.2) 0 s1) = List.map ApiMoney.enc (subl s.2 0 s1) from by simp [ApiMoney.enc, List.map_append, List.map_set, List.map_take, List.map_drop, sliceRows_map, List.map_replicate, eInt, eBool, eStr]]; exact map_len ApiMoney.enc 2 (fun _ => rfl) _, by simpa [sliceRows_map, List.length_set] using h⟩) ?_
 refine Sat.opt (enc := ApiLeg.enc) (by kernel_rfl) (getRow_map _ _ _) (fun li2 => ?_)
 refine Sat.optG (enc := ApiMoney.enc) (by kernel_rfl) (getRow_map _ _ _) (fun si => ?_)
 refine Sat.optG (enc := ApiLeg.enc) (by kernel_rfl) (getRow_map _ _ _) (fun li3 => ?_)
 refine Sat.ite (by kernel_rfl) ?_ ?_
 ·refine Sat.opt (enc := ApiMoney.enc) (by kernel_rfl) (getRow_map _ _ _) (fun si4 => ?_)
  exact Sat.cut (s0 := ((IntKind.wrap .i64 (s1 + 1)), (IntKind.wrap .i64 (li2.Amount + si4.Amount)))) [(0, false), (3, false), (4, false), (5, false), (6, false), (7, false)] c_ok (by kernel_rfl) (Eq.trans (b := (⟨[(0, .rv (.val (.slice (List.map ApiLeg.enc l)))), (3, .rv (.val (.slice (List.map ApiMoney.enc s.2)))), (4, .rv (.val (.int .i64 s.1))), (5, .rv (.own 0)), (6, .rv (.val (.int .i64 (IntKind.wrap .i64 (s1 + 1))))), (7, .rv (.val (.int .i64 (IntKind.wrap .i64 (li2.Amount + si4.Amount)))))], [(0, some (.vec 175 ((List.map ApiMoney.enc ([])) ++ (sliceRows (List.map ApiMoney.enc s.2) 0 s1))))], 1⟩ : St)) (by kernel_rfl) (by simp [q19_Sums_j0_S, ApiMoney.enc, List.map_append, List.map_set, List.map_take, List.map_drop, sliceRows_map, List.map_replicate, eInt, eBool, eStr])) (by kernel_rfl) (by kernel_rfl) (s_q19_Sums_j0 l s s1)
 exact Sat.cut (s0 := (s1, li2.Amount)) [(0, false), (3, false), (4, false), (5, false), (6, false), (7, false)] c_ok (by kernel_rfl) (Eq.trans (b := (⟨[(0, .rv (.val (.slice (List.map ApiLeg.enc l)))), (3, .rv (.val (.slice (List.map ApiMoney.enc s.2)))), (4, .rv (.val (.int .i64 s.1))), (5, .rv (.own 0)), (6, .rv (.val (.int .i64 s1))), (7, .rv (.val (.int .i64 li2.Amount)))], [(0, some (.vec 175 ((List.map ApiMoney.enc ([])) ++ (sliceRows (List.map ApiMoney.enc s.2) 0 s1))))], 1⟩ : St)) (by kernel_rfl) (by simp [q19_Sums_j0_S, ApiMoney.enc, List.map_append, List.map_set, List.map_take, List.map_drop, sliceRows_map, List.map_replicate, eInt, eBool, eStr])) (by kernel_rfl) (by kernel_rfl) (s_q19_Sums_j0 l s s1)
theorem s_q19_Sums_l1 (l : (List ApiLeg)) (s : (Int × (List ApiMoney))) : Sat (cx 86 [.tmp 2]) (loopR (R0 q19_Sums_E)) (loopD (cx 86 [.tmp 2]) (R0 q19_Sums_E) D0 (q19_Sums_l1_S l) [(0, false), (3, false), (4, false)] ((cx 86 [.tmp 2]).kAt b101 [true, true, false, true, false] (k0 (cx 86 [.tmp 2]).ti (cx 86 [.tmp 2]).rvs))) ((cx 86 [.tmp 2]).ex (sub b101 [true, true, false, true, false, false]) (q19_Sums_l1_S l s) T.done) (q19_Sums_l1 l s) := by
 delta q19_Sums_l1
 refine Sat.ite (by kernel_rfl) ?_ ?_
 ·exact Sat.loop (s0 := 0) [(0, false), (3, false), (4, false), (5, false), (6, false)] c_ok (by kernel_rfl) (by kernel_rfl) (by kernel_rfl) (by kernel_rfl) (s_q19_Sums_l2 l s)
 refine Sat.out (id := 0) (A := some s.2) (by kernel_rfl) ?_
 exact Sat.ret0 [false] (by kernel_rfl) (by kernel_rfl)
theorem s_q19_Sums (l : (List ApiLeg)) : DoesP Tryz.prog gt 101 [.val (.slice (List.map ApiLeg.enc l))] q19_Sums_E (q19_Sums l) := by
 refine does_of (c := (cx 86 [.tmp 2])) c_ok (fn := Tryz.f101) (code := b101) Tryz.func101 (by kernel_rfl) (by kernel_rfl) (by kernel_rfl) (by kernel_rfl) (by kernel_rfl) ?_
 delta q19_Sums
 exact Sat.loop (s0 := (0, [])) [(0, false), (3, false), (4, false)] c_ok (by kernel_rfl) (by kernel_rfl) (by kernel_rfl) (by kernel_rfl) (s_q19_Sums_l1 l)
noncomputable def b76 : Code := (Tryz.f76.body).getD .skip
def q19_Check_E : Int → List RR := fun r => [.val (.int .i64 r)]
def q19_Check_l2_S (r6 : (List ApiMoney)) : Int → St := fun s7 => (⟨[(5, .rv (.own 0)), (6, .rv (.val (.int .i64 s7)))], [(0, some (.vec 175 (List.map ApiMoney.enc r6)))], 1⟩ : St)
def q19_Check_l1_S (e : ApiEntry) : Int → St := fun s => (⟨[(1, .box 0 0), (3, .rv (.val (.int .i64 s)))], [(0, some (.box [.val (.int .i64 e.Id), .val (.int .i64 e.Booked), .val (.int .i64 e.Value), .val (.int .i64 e.Kind), .val (.int .i64 e.Auth), .val (.int .i64 e.Period), .val (.str e.Key), .val (.str e.Text), .val (.slice (List.map ApiLeg.enc e.Legs)), .val (.int .u64 e.Chain)]))], 1⟩ : St)
theorem s_q19_Check_l2 (r6 : (List ApiMoney)) (s7 : Int) : Sat (cx 99 [.tmp 2]) (loopR (R0 q19_Check_E)) (loopD (cx 99 [.tmp 2]) (R0 q19_Check_E) D0 (q19_Check_l2_S r6) [(5, false), (6, false)] ((cx 99 [.tmp 2]).kAt b76 [true, true, true, true, true, true, false, true, false] (k0 (cx 99 [.tmp 2]).ti (cx 99 [.tmp 2]).rvs))) ((cx 99 [.tmp 2]).ex (sub b76 [true, true, true, true, true, true, false, true, false, false]) (q19_Check_l2_S r6 s7) T.done) (q19_Check_l2 r6 s7) := by
 delta q19_Check_l2
 refine Sat.ite (by kernel_rfl) ?_ ?_
 ·refine Sat.opt (enc := ApiMoney.enc) (by kernel_rfl) (getRow_map _ _ _) (fun o => ?_)
  refine Sat.opt (enc := ApiMoney.enc) (by kernel_rfl) (getEl_map _ _ _) (fun x => ?_)
  refine Sat.ite (by kernel_rfl) ?_ ?_
  ·refine Sat.retL (D := D0) (A := some 15) (by kernel_rfl) ?_
   exact Sat.ret0 [true] (by kernel_rfl) (by kernel_rfl)
  exact Sat.next (by kernel_rfl) (by kernel_rfl)
 refine Sat.out (id := 2) (A := some 0) (by kernel_rfl) ?_
 exact Sat.ret0 [true] (by kernel_rfl) (by kernel_rfl)
theorem s_q19_Check_l1 (e : ApiEntry) (s : Int) : Sat (cx 99 [.tmp 2]) (loopR (R0 q19_Check_E)) (loopD (cx 99 [.tmp 2]) (R0 q19_Check_E) D0 (q19_Check_l1_S e) [(1, false), (3, false)] ((cx 99 [.tmp 2]).kAt b76 [true, true, true, true, false, true, false] (k0 (cx 99 [.tmp 2]).ti (cx 99 [.tmp 2]).rvs))) ((cx 99 [.tmp 2]).ex (sub b76 [true, true, true, true, false, true, false, false]) (q19_Check_l1_S e s) T.done) (q19_Check_l1 e s) := by
 delta q19_Check_l1
 refine Sat.ite (by kernel_rfl) ?_ ?_
 ·refine Sat.opt (enc := ApiLeg.enc) (by kernel_rfl) (getRow_map _ _ _) (fun leg => ?_)
  refine Sat.call (s_q19_leg leg) (by kernel_rfl) (fun r5 => ?_)
  refine Sat.ite (by kernel_rfl) ?_ ?_
  ·refine Sat.retL (D := D0) (A := some r5) (by kernel_rfl) ?_
   exact Sat.ret0 [true] (by kernel_rfl) (by kernel_rfl)
  exact Sat.next (by kernel_rfl) (by kernel_rfl)
 refine Sat.out (id := 0) (by kernel_rfl) ?_
 refine Sat.call (s_q19_Sums e.Legs) (by kernel_rfl) (fun r6 => ?_)
 exact Sat.loop (s0 := 0) [(5, false), (6, false)] c_ok (by kernel_rfl) (by kernel_rfl) (by kernel_rfl) (by kernel_rfl) (s_q19_Check_l2 r6)
theorem s_q19_Check (e : ApiEntry) : DoesP Tryz.prog gt 76 [.val (.agg (ApiEntry.enc e))] q19_Check_E (q19_Check e) := by
 refine does_of (c := (cx 99 [.tmp 2])) c_ok (fn := Tryz.f76) (code := b76) Tryz.func76 (by kernel_rfl) (by kernel_rfl) (by kernel_rfl) (by kernel_rfl) (by kernel_rfl) ?_
 delta q19_Check
 refine Sat.call (s_q07_Key e.Key) (by kernel_rfl) (fun r => ?_)
 refine Sat.ite (by kernel_rfl) ?_ ?_
 ·exact Sat.ret0 [true] (by kernel_rfl) (by kernel_rfl)
 refine Sat.call (s_q07_Printed e.Text 64 32) (by kernel_rfl) (fun r1 => ?_)
 refine Sat.callG (s_q04_Valid e.Booked) (by kernel_rfl) (fun r2 => ?_)
 refine Sat.callG (s_q04_Valid e.Value) (by kernel_rfl) (fun r3 => ?_)
 refine Sat.callG (s_q04_Valid e.Period) (by kernel_rfl) (fun r4 => ?_)
 refine Sat.ite (by kernel_rfl) ?_ ?_
 ·exact Sat.ret0 [true] (by kernel_rfl) (by kernel_rfl)
 refine Sat.ite (by kernel_rfl) ?_ ?_
 ·exact Sat.ret0 [true] (by kernel_rfl) (by kernel_rfl)
 exact Sat.loop (s0 := 0) [(1, false), (3, false)] c_ok (by kernel_rfl) (by kernel_rfl) (by kernel_rfl) (by kernel_rfl) (s_q19_Check_l1 e)
noncomputable def b56 : Code := (Tryz.f56.body).getD .skip
def q20_Examine_E : Int → List RR := fun r => [.val (.int .i64 r)]
def q20_Examine_l1_S (j : (List ApiEntry)) (e : ApiEntry) : Int → St := fun s => (⟨[(0, .rv (.val (.slice (List.map ApiEntry.enc j)))), (3, .box 0 0), (6, .rv (.val (.int .i64 s)))], [(0, some (.box [.val (.int .i64 e.Id), .val (.int .i64 e.Booked), .val (.int .i64 e.Value), .val (.int .i64 e.Kind), .val (.int .i64 e.Auth), .val (.int .i64 e.Period), .val (.str e.Key), .val (.str e.Text), .val (.slice (List.map ApiLeg.enc e.Legs)), .val (.int .u64 e.Chain)]))], 1⟩ : St)
theorem s_q20_Examine_l1 (j : (List ApiEntry)) (e : ApiEntry) (s : Int) : Sat (cx 44 [.tmp 4]) (loopR (R0 q20_Examine_E)) (loopD (cx 44 [.tmp 4]) (R0 q20_Examine_E) D0 (q20_Examine_l1_S j e) [(0, false), (3, false), (6, false)] ((cx 44 [.tmp 4]).kAt b56 [true, true, true, false, true, false] (k0 (cx 44 [.tmp 4]).ti (cx 44 [.tmp 4]).rvs))) ((cx 44 [.tmp 4]).ex (sub b56 [true, true, true, false, true, false, false]) (q20_Examine_l1_S j e s) T.done) (q20_Examine_l1 j e s) := by
 delta q20_Examine_l1
 refine Sat.ite (by kernel_rfl) ?_ ?_
 ·refine Sat.opt (enc := ApiEntry.enc) (by kernel_rfl) (getRow_map _ _ _) (fun ji => ?_)
  refine Sat.ite (by kernel_rfl) ?_ ?_
  ·refine Sat.retL (D := D0) (A := some 12) (by kernel_rfl) ?_
   exact Sat.ret0 [true] (by kernel_rfl) (by kernel_rfl)
  exact Sat.next (by kernel_rfl) (by kernel_rfl)
 refine Sat.out (id := 0) (by kernel_rfl) ?_
 refine Sat.optG (enc := ApiEntry.enc) (by kernel_rfl) (getRow_map _ _ _) (fun ji1 => ?_)
 refine Sat.ite (by kernel_rfl) ?_ ?_
 ·exact Sat.ret0 [true] (by kernel_rfl) (by kernel_rfl)
 refine Sat.ite (by kernel_rfl) ?_ ?_
 ·exact Sat.ret0 [true] (by kernel_rfl) (by kernel_rfl)
 exact Sat.ret0 [true] (by kernel_rfl) (by kernel_rfl)
theorem s_q20_Examine (j : (List ApiEntry)) (e : ApiEntry) : DoesP Tryz.prog gt 56 [.val (.slice (List.map ApiEntry.enc j)), .val (.agg (ApiEntry.enc e))] q20_Examine_E (q20_Examine j e) := by
 refine does_of (c := (cx 44 [.tmp 4])) c_ok (fn := Tryz.f56) (code := b56) Tryz.func56 (by kernel_rfl) (by kernel_rfl) (by kernel_rfl) (by kernel_rfl) (by kernel_rfl) ?_
 delta q20_Examine
 refine Sat.call (s_q19_Check e) (by kernel_rfl) (fun r => ?_)
 refine Sat.ite (by kernel_rfl) ?_ ?_
 ·exact Sat.ret0 [true] (by kernel_rfl) (by kernel_rfl)
 exact Sat.loop (s0 := 0) [(0, false), (3, false), (6, false)] c_ok (by kernel_rfl) (by kernel_rfl) (by kernel_rfl) (by kernel_rfl) (s_q20_Examine_l1 j e)
noncomputable def b133 : Code := (Tryz.f133.body).getD .skip
def q07_natural_E : ByteArray → List RR := fun r => [.val (.str r)]
def q07_natural_l1_S : (Int × ByteArray) → St := fun s => (⟨[(0, .rv (.val (.int .u64 s.1))), (3, .rv (.val (.str s.2)))], [], 0⟩ : St)
theorem s_q07_natural_l1 (s : (Int × ByteArray)) : Sat (cx 22 [.tmp 2]) (loopR (R0 q07_natural_E)) (loopD (cx 22 [.tmp 2]) (R0 q07_natural_E) D0 (q07_natural_l1_S) [(0, false), (3, false)] ((cx 22 [.tmp 2]).kAt b133 [true, true, false, false] (k0 (cx 22 [.tmp 2]).ti (cx 22 [.tmp 2]).rvs))) ((cx 22 [.tmp 2]).ex (sub b133 [true, true, false, false, false]) (q07_natural_l1_S s) T.done) (q07_natural_l1 s) := by
 delta q07_natural_l1
 refine Sat.ite (by kernel_rfl) ?_ ?_
 ·refine Sat.need0 (g := true) (p := 10 ≠ (0 : Int)) (by kernel_rfl) (by decide) ?_
  refine Sat.need (g := true) (p := (0 : Int) ≤ (s.1.tmod 10) ∧ (s.1.tmod 10) ≤ (IntKind.wrap .u64 ((s.1.tmod 10) + 1)) ∧ (IntKind.wrap .u64 ((s.1.tmod 10) + 1)) ≤ ((bs [48, 49, 50, 51, 52, 53, 54, 55, 56, 57]).size : Int)) (by kernel_rfl) (fun h _ => by exact h) ?_
  refine Sat.need (g := true) (p := ((bs [48, 49, 50, 51, 52, 53, 54, 55, 56, 57]).extract ((s.1.tmod 10) : Int).toNat ((IntKind.wrap .u64 ((s.1.tmod 10) + 1)) : Int).toNat).size + s.2.size ≤ 9223372036854775807) (by kernel_rfl) (fun h _ => by exact h) ?_
  refine Sat.need0 (g := true) (p := 10 ≠ (0 : Int)) (by kernel_rfl) (by decide) ?_
  exact Sat.next (by kernel_rfl) (by kernel_rfl)
 refine Sat.out (id := 0) (A := some s.2) (by kernel_rfl) ?_
 exact Sat.ret0 [true] (by kernel_rfl) (by kernel_rfl)
theorem s_q07_natural (n : Int) : DoesP Tryz.prog gt 133 [.val (.int .u64 n)] q07_natural_E (q07_natural n) := by
 refine does_of (c := (cx 22 [.tmp 2])) c_ok (fn := Tryz.f133) (code := b133) Tryz.func133 (by kernel_rfl) (by kernel_rfl) (by kernel_rfl) (by kernel_rfl) (by kernel_rfl) ?_
 delta q07_natural
 exact Sat.loop (s0 := (n, (bs []))) [(0, false), (3, false)] c_ok (by kernel_rfl) (by kernel_rfl) (by kernel_rfl) (by kernel_rfl) (s_q07_natural_l1)
noncomputable def b106 : Code := (Tryz.f106.body).getD .skip
def q07_Int_E : ByteArray → List RR := fun r => [.val (.str r)]
theorem s_q07_Int (n : Int) : DoesP Tryz.prog gt 106 [.val (.int .i64 n)] q07_Int_E (q07_Int n) := by
 refine does_of (c := (cx 14 [.tmp 2])) c_ok (fn := Tryz.f106) (code := b106) Tryz.func106 (by kernel_rfl) (by kernel_rfl) (by kernel_rfl) (by kernel_rfl) (by kernel_rfl) ?_
 delta q07_Int
 refine Sat.ite (by kernel_rfl) ?_ ?_
 ·refine Sat.call (s_q07_natural (IntKind.wrap .u64 n)) (by kernel_rfl) (fun r => ?_)
  exact Sat.ret0 [true] (by kernel_rfl) (by kernel_rfl)
 refine Sat.call (s_q07_natural (IntKind.wrap .u64 ((bitsI .xor .u64 18446744073709551615 (IntKind.wrap .u64 n)) + 1))) (by kernel_rfl) (fun r1 => ?_)
 refine Sat.need (g := true) (p := (bs [45]).size + r1.size ≤ 9223372036854775807) (by kernel_rfl) (fun h _ => by exact h) ?_
 exact Sat.ret0 [true] (by kernel_rfl) (by kernel_rfl)
noncomputable def b105 : Code := (Tryz.f105.body).getD .skip
def q07_Pack_E : ByteArray → List RR := fun r => [.val (.str r)]
def q07_Pack_l1_S (l : (List ByteArray)) : (ByteArray × Int) → St := fun s => (⟨[(0, .rv (.val (.slice (List.map eStr l)))), (3, .rv (.val (.str s.1))), (4, .rv (.val (.int .i64 s.2)))], [], 0⟩ : St)
theorem s_q07_Pack_l1 (l : (List ByteArray)) (s : (ByteArray × Int)) : Sat (cx 26 [.tmp 2]) (loopR (R0 q07_Pack_E)) (loopD (cx 26 [.tmp 2]) (R0 q07_Pack_E) D0 (q07_Pack_l1_S l) [(0, false), (3, false), (4, false)] ((cx 26 [.tmp 2]).kAt b105 [true, true, false, true, false] (k0 (cx 26 [.tmp 2]).ti (cx 26 [.tmp 2]).rvs))) ((cx 26 [.tmp 2]).ex (sub b105 [true, true, false, true, false, false]) (q07_Pack_l1_S l s) T.done) (q07_Pack_l1 l s) := by
 delta q07_Pack_l1
 refine Sat.ite (by kernel_rfl) ?_ ?_
 ·refine Sat.opt (enc := eStr) (by kernel_rfl) (getRow_map _ _ _) (fun li => ?_)
  refine Sat.call (s_q07_Int (li.size : Int)) (by kernel_rfl) (fun r => ?_)
  refine Sat.need (g := true) (p := s.1.size + r.size ≤ 9223372036854775807) (by kernel_rfl) (fun h _ => by exact h) ?_
  refine Sat.need (g := true) (p := (s.1 ++ r).size + (bs [58]).size ≤ 9223372036854775807) (by kernel_rfl) (fun h _ => by exact h) ?_
  refine Sat.opt (enc := eStr) (by kernel_rfl) (getRow_map _ _ _) (fun li1 => ?_)
  refine Sat.need (g := true) (p := ((s.1 ++ r) ++ (bs [58])).size + li1.size ≤ 9223372036854775807) (by kernel_rfl) (fun h _ => by exact h) ?_
  exact Sat.next (by kernel_rfl) (by kernel_rfl)
 refine Sat.out (id := 0) (A := some s.1) (by kernel_rfl) ?_
 exact Sat.ret0 [true] (by kernel_rfl) (by kernel_rfl)
theorem s_q07_Pack (l : (List ByteArray)) : DoesP Tryz.prog gt 105 [.val (.slice (List.map eStr l))] q07_Pack_E (q07_Pack l) := by
 refine does_of (c := (cx 26 [.tmp 2])) c_ok (fn := Tryz.f105) (code := b105) Tryz.func105 (by kernel_rfl) (by kernel_rfl) (by kernel_rfl) (by kernel_rfl) (by kernel_rfl) ?_
 delta q07_Pack
 exact Sat.loop (s0 := ((bs []), 0)) [(0, false), (3, false), (4, false)] c_ok (by kernel_rfl) (by kernel_rfl) (by kernel_rfl) (by kernel_rfl) (s_q07_Pack_l1 l)
noncomputable def b79 : Code := (Tryz.f79.body).getD .skip
def q19_Encode_E : ByteArray → List RR := fun r => [.val (.str r)]
def q19_Encode_l1_S (e : ApiEntry) : (Int × (List ByteArray)) → St := fun s => (⟨[(1, .box 0 0), (3, .rv (.own 1)), (4, .rv (.val (.int .i64 s.1)))], [(0, some (.box [.val (.int .i64 e.Id), .val (.int .i64 e.Booked), .val (.int .i64 e.Value), .val (.int .i64 e.Kind), .val (.int .i64 e.Auth), .val (.int .i64 e.Period), .val (.str e.Key), .val (.str e.Text), .val (.slice (List.map ApiLeg.enc e.Legs)), .val (.int .u64 e.Chain)])), (1, some (.vec 9 (List.map eStr s.2)))], 2⟩ : St)
theorem s_q19_Encode_l1 (e : ApiEntry) (s : (Int × (List ByteArray))) : Sat (cx 57 [.tmp 2]) (loopR (R0 q19_Encode_E)) (loopD (cx 57 [.tmp 2]) (R0 q19_Encode_E) D0 (q19_Encode_l1_S e) [(1, false), (3, false), (4, false)] ((cx 57 [.tmp 2]).kAt b79 [true, true, false, true, false] (k0 (cx 57 [.tmp 2]).ti (cx 57 [.tmp 2]).rvs))) ((cx 57 [.tmp 2]).ex (sub b79 [true, true, false, true, false, false]) (q19_Encode_l1_S e s) T.done) (q19_Encode_l1 e s) := by
 delta q19_Encode_l1
 refine Sat.ite (by kernel_rfl) ?_ ?_
 ·refine Sat.opt (enc := ApiLeg.enc) (by kernel_rfl) (getRow_map _ _ _) (fun leg => ?_)
  refine Sat.call (s_q07_Int leg.Account) (by kernel_rfl) (fun r => ?_)
  refine Sat.call (s_q07_Int leg.Amount) (by kernel_rfl) (fun r1 => ?_)
  refine Sat.call (s_q07_Pack ([r, r1, leg.Currency])) (by kernel_rfl) (fun r2 => ?_)
  refine Sat.need (g := true) (p := ((List.map eStr s.2).length + (List.map eStr ([r2])).length) * 16 ≤ 140737488355328) (by kernel_rfl) (fun h _ => by simpa [sliceRows_map, List.length_set] using h) ?_
  exact Sat.next (by kernel_rfl) (Eq.trans (b := (⟨[(1, .box 0 0), (3, .rv (.own 1)), (4, .rv (.val (.int .i64 (IntKind.wrap .i64 (s.1 + 1)))))], [(0, some (.box [.val (.int .i64 e.Id), .val (.int .i64 e.Booked), .val (.int .i64 e.Value), .val (.int .i64 e.Kind), .val (.int .i64 e.Auth), .val (.int .i64 e.Period), .val (.str e.Key), .val (.str e.Text), .val (.slice (List.map ApiLeg.enc e.Legs)), .val (.int .u64 e.Chain)])), (1, some (.vec 9 ((List.map eStr s.2) ++ (List.map eStr ([r2])))))], 2⟩ : St)) (by kernel_rfl) (by simp [q19_Encode_l1_S, List.map_append, List.map_set, List.map_take, List.map_drop, sliceRows_map, List.map_replicate, eInt, eBool, eStr]))
 refine Sat.out (id := 0) (by kernel_rfl) ?_
 refine Sat.call (s_q07_Int e.Id) (by kernel_rfl) (fun r3 => ?_)
 refine Sat.call (s_q07_Int e.Booked) (by kernel_rfl) (fun r4 => ?_)
 refine Sat.call (s_q07_Int e.Value) (by kernel_rfl) (fun r5 => ?_)
 refine Sat.call (s_q07_Int e.Kind) (by kernel_rfl) (fun r6 => ?_)
 refine Sat.call (s_q07_Int e.Auth) (by kernel_rfl) (fun r7 => ?_)
 refine Sat.call (s_q07_Int e.Period) (by kernel_rfl) (fun r8 => ?_)
 refine Sat.call (s_q07_Pack s.2) (by kernel_rfl) (fun r9 => ?_)
 refine Sat.call (s_q07_Pack ([r3, r4, r5, r6, r7, r8, e.Key, e.Text, r9])) (by kernel_rfl) (fun r10 => ?_)
 exact Sat.ret0 [true] (by kernel_rfl) (by kernel_rfl)
theorem s_q19_Encode (e : ApiEntry) : DoesP Tryz.prog gt 79 [.val (.agg (ApiEntry.enc e))] q19_Encode_E (q19_Encode e) := by
 refine does_of (c := (cx 57 [.tmp 2])) c_ok (fn := Tryz.f79) (code := b79) Tryz.func79 (by kernel_rfl) (by kernel_rfl) (by kernel_rfl) (by kernel_rfl) (by kernel_rfl) ?_
 delta q19_Encode
 exact Sat.loop (s0 := (0, [])) [(1, false), (3, false), (4, false)] c_ok (by kernel_rfl) (by kernel_rfl) (by kernel_rfl) (by kernel_rfl) (s_q19_Encode_l1 e)
noncomputable def b104 : Code := (Tryz.f104.body).getD .skip
def q08_eight_E : ByteArray → List RR := fun r => [.val (.str r)]
def q08_eight_l1_S : (Int × Int × (List Int)) → St := fun s => (⟨[(0, .rv (.val (.int .u64 s.1))), (3, .rv (.own 0)), (4, .rv (.val (.int .i64 s.2.1)))], [(0, some (.vec 5 (List.map (eInt .u8) s.2.2)))], 1⟩ : St)
theorem s_q08_eight_l1 (s : (Int × Int × (List Int))) : Sat (cx 20 [.tmp 2]) (loopR (R0 q08_eight_E)) (loopD (cx 20 [.tmp 2]) (R0 q08_eight_E) D0 (q08_eight_l1_S) [(0, false), (3, false), (4, false)] ((cx 20 [.tmp 2]).kAt b104 [true, true, false, true, false] (k0 (cx 20 [.tmp 2]).ti (cx 20 [.tmp 2]).rvs))) ((cx 20 [.tmp 2]).ex (sub b104 [true, true, false, true, false, false]) (q08_eight_l1_S s) T.done) (q08_eight_l1 s) := by
 delta q08_eight_l1
 refine Sat.ite (by kernel_rfl) ?_ ?_
 ·refine Sat.need0 (g := true) (p := 256 ≠ (0 : Int)) (by kernel_rfl) (by decide) ?_
  refine Sat.need (g := true) (p := ((List.map (eInt .u8) s.2.2).length + (List.map (eInt .u8) ([(IntKind.wrap .u8 (s.1.tmod 256))])).length) * 1 ≤ 140737488355328) (by kernel_rfl) (fun h _ => by simpa [sliceRows_map, List.length_set] using h) ?_
  refine Sat.need0 (g := true) (p := 256 ≠ (0 : Int)) (by kernel_rfl) (by decide) ?_
  exact Sat.next (by kernel_rfl) (Eq.trans (b := (⟨[(0, .rv (.val (.int .u64 (IntKind.wrap .u64 (s.1.tdiv 256))))), (3, .rv (.own 0)), (4, .rv (.val (.int .i64 (IntKind.wrap .i64 (s.2.1 + 1)))))], [(0, some (.vec 5 ((List.map (eInt .u8) s.2.2) ++ (List.map (eInt .u8) ([(IntKind.wrap .u8 (s.1.tmod 256))])))))], 1⟩ : St)) (by kernel_rfl) (by simp [q08_eight_l1_S, List.map_append, List.map_set, List.map_take, List.map_drop, sliceRows_map, List.map_replicate, eInt, eBool, eStr]))
 refine Sat.out (id := 0) (A := some (bytesOf (List.map (eInt .u8) s.2.2))) (by kernel_rfl) ?_
 refine Sat.need0 (g := true) (p := allU8 (List.map (eInt .u8) s.2.2)) (by kernel_rfl) (by exact allU8_map _) ?_
 exact Sat.ret0 [true] (by kernel_rfl) (by kernel_rfl)
theorem s_q08_eight (h : Int) : DoesP Tryz.prog gt 104 [.val (.int .u64 h)] q08_eight_E (q08_eight h) := by
 refine does_of (c := (cx 20 [.tmp 2])) c_ok (fn := Tryz.f104) (code := b104) Tryz.func104 (by kernel_rfl) (by kernel_rfl) (by kernel_rfl) (by kernel_rfl) (by kernel_rfl) ?_
 delta q08_eight
 exact Sat.loop (s0 := (h, 0, [])) [(0, false), (3, false), (4, false)] c_ok (by kernel_rfl) (by kernel_rfl) (by kernel_rfl) (by kernel_rfl) (s_q08_eight_l1)
noncomputable def b102 : Code := (Tryz.f102.body).getD .skip
def q08_Extend_E : Int → List RR := fun r => [.val (.int .u64 r)]
def q08_Extend_l1_S (s : ByteArray) : (Int × Int) → St := fun s1 => (⟨[(0, .rv (.val (.int .u64 s1.1))), (1, .rv (.val (.str s))), (5, .rv (.val (.int .i64 s1.2)))], [], 0⟩ : St)
theorem s_q08_Extend_l1 (s : ByteArray) (s1 : (Int × Int)) : Sat (cx 20 [.tmp 4]) (loopR (R0 q08_Extend_E)) (loopD (cx 20 [.tmp 4]) (R0 q08_Extend_E) D0 (q08_Extend_l1_S s) [(0, false), (1, false), (5, false)] ((cx 20 [.tmp 4]).kAt b102 [true, false, true, false] (k0 (cx 20 [.tmp 4]).ti (cx 20 [.tmp 4]).rvs))) ((cx 20 [.tmp 4]).ex (sub b102 [true, false, true, false, false]) (q08_Extend_l1_S s s1) T.done) (q08_Extend_l1 s s1) := by
 delta q08_Extend_l1
 refine Sat.ite (by kernel_rfl) ?_ ?_
 ·refine Sat.need (g := true) (p := (0 : Int) ≤ s1.2 ∧ s1.2 < (s.size : Int)) (by kernel_rfl) (fun h _ => by exact h) ?_
  exact Sat.next (by kernel_rfl) (by kernel_rfl)
 refine Sat.out (id := 0) (A := some s1.1) (by kernel_rfl) ?_
 exact Sat.ret0 [true] (by kernel_rfl) (by kernel_rfl)
theorem s_q08_Extend (h : Int) (s : ByteArray) : DoesP Tryz.prog gt 102 [.val (.int .u64 h), .val (.str s)] q08_Extend_E (q08_Extend h s) := by
 refine does_of (c := (cx 20 [.tmp 4])) c_ok (fn := Tryz.f102) (code := b102) Tryz.func102 (by kernel_rfl) (by kernel_rfl) (by kernel_rfl) (by kernel_rfl) (by kernel_rfl) ?_
 delta q08_Extend
 exact Sat.loop (s0 := (h, 0)) [(0, false), (1, false), (5, false)] c_ok (by kernel_rfl) (by kernel_rfl) (by kernel_rfl) (by kernel_rfl) (s_q08_Extend_l1 s)
noncomputable def b103 : Code := (Tryz.f103.body).getD .skip
def q08_Hash_E : Int → List RR := fun r => [.val (.int .u64 r)]
theorem s_q08_Hash (s : ByteArray) : DoesP Tryz.prog gt 103 [.val (.str s)] q08_Hash_E (q08_Hash s) := by
 refine does_of (c := (cx 5 [.tmp 2])) c_ok (fn := Tryz.f103) (code := b103) Tryz.func103 (by kernel_rfl) (by kernel_rfl) (by kernel_rfl) (by kernel_rfl) (by kernel_rfl) ?_
 delta q08_Hash
 refine Sat.call (s_q08_Extend 14695981039346656037 s) (by kernel_rfl) (fun r => ?_)
 exact Sat.ret0 [true] (by kernel_rfl) (by kernel_rfl)
noncomputable def b78 : Code := (Tryz.f78.body).getD .skip
def q08_Chain_E : Int → List RR := fun r => [.val (.int .u64 r)]
theorem s_q08_Chain (prev : Int) (s : ByteArray) : DoesP Tryz.prog gt 78 [.val (.int .u64 prev), .val (.str s)] q08_Chain_E (q08_Chain prev s) := by
 refine does_of (c := (cx 10 [.tmp 4])) c_ok (fn := Tryz.f78) (code := b78) Tryz.func78 (by kernel_rfl) (by kernel_rfl) (by kernel_rfl) (by kernel_rfl) (by kernel_rfl) ?_
 delta q08_Chain
 refine Sat.call (s_q08_eight prev) (by kernel_rfl) (fun r => ?_)
 refine Sat.call (s_q08_Hash r) (by kernel_rfl) (fun r1 => ?_)
 refine Sat.call (s_q08_Extend r1 s) (by kernel_rfl) (fun r2 => ?_)
 exact Sat.ret0 [true] (by kernel_rfl) (by kernel_rfl)
noncomputable def b58 : Code := (Tryz.f58.body).getD .skip
def q20_next_E : ApiEntry → List RR := fun r => [.val (.agg (ApiEntry.enc r))]
def q20_next_j0_S (j : (List ApiEntry)) (e : ApiEntry) : Int → St := fun s => (⟨[(0, .rv (.val (.slice (List.map ApiEntry.enc j)))), (3, .box 0 0), (4, .box 1 0), (5, .rv (.val (.int .u64 s)))], [(0, some (.box [.val (.int .i64 e.Id), .val (.int .i64 e.Booked), .val (.int .i64 e.Value), .val (.int .i64 e.Kind), .val (.int .i64 e.Auth), .val (.int .i64 e.Period), .val (.str e.Key), .val (.str e.Text), .val (.slice (List.map ApiLeg.enc e.Legs)), .val (.int .u64 e.Chain)])), (1, some (.box [.val (.int .i64 0), .val (.int .i64 0), .val (.int .i64 0), .val (.int .i64 0), .val (.int .i64 0), .val (.int .i64 0), .val (.str (bs [])), .val (.str (bs [])), .nils, .val (.int .u64 0)]))], 2⟩ : St)
theorem s_q20_next_j0 (j : (List ApiEntry)) (e : ApiEntry) (s : Int) : Sat (cx 26 [.cell 4 43]) (R0 q20_next_E) D0 ((cx 26 [.cell 4 43]).ex (sub b58 [true, true, true]) (q20_next_j0_S j e s) ((cx 26 [.cell 4 43]).kAt b58 [true, true, true] (k0 (cx 26 [.cell 4 43]).ti (cx 26 [.cell 4 43]).rvs))) (q20_next_j0 j e s) := by
 delta q20_next_j0
 refine Sat.call (s_q19_Encode (⟨(IntKind.wrap .i64 (((List.map ApiEntry.enc j).length : Int) + 1)), e.Booked, e.Value, e.Kind, e.Auth, e.Period, e.Key, e.Text, e.Legs, e.Chain⟩ : ApiEntry)) (by kernel_rfl) (fun r => ?_)
 refine Sat.call (s_q08_Chain s r) (by kernel_rfl) (fun r1 => ?_)
 exact Sat.ret0 [true] (by kernel_rfl) (by kernel_rfl)
theorem s_q20_next (j : (List ApiEntry)) (e : ApiEntry) : DoesP Tryz.prog gt 58 [.val (.slice (List.map ApiEntry.enc j)), .val (.agg (ApiEntry.enc e))] q20_next_E (q20_next j e) := by
 refine does_of (c := (cx 26 [.cell 4 43])) c_ok (fn := Tryz.f58) (code := b58) Tryz.func58 (by kernel_rfl) (by kernel_rfl) (by kernel_rfl) (by kernel_rfl) (by kernel_rfl) ?_
 delta q20_next
 refine Sat.ite (by kernel_rfl) ?_ ?_
 ·refine Sat.opt (enc := ApiEntry.enc) (by kernel_rfl) (getRow_map _ _ _) (fun ji => ?_)
  exact Sat.cut (s0 := ji.Chain) [(0, false), (3, false), (4, false), (5, false)] c_ok (by kernel_rfl) (by kernel_rfl) (by kernel_rfl) (by kernel_rfl) (s_q20_next_j0 j e)
 exact Sat.cut (s0 := 0) [(0, false), (3, false), (4, false), (5, false)] c_ok (by kernel_rfl) (by kernel_rfl) (by kernel_rfl) (by kernel_rfl) (s_q20_next_j0 j e)
noncomputable def b77 : Code := (Tryz.f77.body).getD .skip
def q19_SameLegs_E : Bool → List RR := fun r => [.val (.bool r)]
def q19_SameLegs_l1_S (a : (List ApiLeg)) (b : (List ApiLeg)) : Int → St := fun s => (⟨[(0, .rv (.val (.slice (List.map ApiLeg.enc a)))), (1, .rv (.val (.slice (List.map ApiLeg.enc b)))), (5, .rv (.val (.int .i64 s)))], [], 0⟩ : St)
theorem s_q19_SameLegs_l1 (a : (List ApiLeg)) (b : (List ApiLeg)) (s : Int) : Sat (cx 26 [.tmp 4]) (loopR (R0 q19_SameLegs_E)) (loopD (cx 26 [.tmp 4]) (R0 q19_SameLegs_E) D0 (q19_SameLegs_l1_S a b) [(0, false), (1, false), (5, false)] ((cx 26 [.tmp 4]).kAt b77 [true, true, false, true, false] (k0 (cx 26 [.tmp 4]).ti (cx 26 [.tmp 4]).rvs))) ((cx 26 [.tmp 4]).ex (sub b77 [true, true, false, true, false, false]) (q19_SameLegs_l1_S a b s) T.done) (q19_SameLegs_l1 a b s) := by
 delta q19_SameLegs_l1
 refine Sat.ite (by kernel_rfl) ?_ ?_
 ·refine Sat.opt (enc := ApiLeg.enc) (by kernel_rfl) (getRow_map _ _ _) (fun ai => ?_)
  refine Sat.opt (enc := ApiLeg.enc) (by kernel_rfl) (getRow_map _ _ _) (fun bi => ?_)
  refine Sat.ite (by kernel_rfl) ?_ ?_
  ·refine Sat.retL (D := D0) (A := some false) (by kernel_rfl) ?_
   exact Sat.ret0 [true] (by kernel_rfl) (by kernel_rfl)
  exact Sat.next (by kernel_rfl) (by kernel_rfl)
 refine Sat.out (id := 0) (A := some true) (by kernel_rfl) ?_
 exact Sat.ret0 [true] (by kernel_rfl) (by kernel_rfl)
theorem s_q19_SameLegs (a : (List ApiLeg)) (b : (List ApiLeg)) : DoesP Tryz.prog gt 77 [.val (.slice (List.map ApiLeg.enc a)), .val (.slice (List.map ApiLeg.enc b))] q19_SameLegs_E (q19_SameLegs a b) := by
 refine does_of (c := (cx 26 [.tmp 4])) c_ok (fn := Tryz.f77) (code := b77) Tryz.func77 (by kernel_rfl) (by kernel_rfl) (by kernel_rfl) (by kernel_rfl) (by kernel_rfl) ?_
 delta q19_SameLegs
 refine Sat.ite (by kernel_rfl) ?_ ?_
 ·exact Sat.ret0 [true] (by kernel_rfl) (by kernel_rfl)
 exact Sat.loop (s0 := 0) [(0, false), (1, false), (5, false)] c_ok (by kernel_rfl) (by kernel_rfl) (by kernel_rfl) (by kernel_rfl) (s_q19_SameLegs_l1 a b)
noncomputable def b57 : Code := (Tryz.f57.body).getD .skip
def q19_Same_E : Bool → List RR := fun r => [.val (.bool r)]
theorem s_q19_Same (a : ApiEntry) (b : ApiEntry) : DoesP Tryz.prog gt 57 [.val (.agg (ApiEntry.enc a)), .val (.agg (ApiEntry.enc b))] q19_Same_E (q19_Same a b) := by
 refine does_of (c := (cx 73 [.tmp 4])) c_ok (fn := Tryz.f57) (code := b57) Tryz.func57 (by kernel_rfl) (by kernel_rfl) (by kernel_rfl) (by kernel_rfl) (by kernel_rfl) ?_
 delta q19_Same
 refine Sat.callG (s_q19_SameLegs a.Legs b.Legs) (by kernel_rfl) (fun r => ?_)
 exact Sat.ret0 [true] (by kernel_rfl) (by kernel_rfl)
noncomputable def b34 : Code := (Tryz.f34.body).getD .skip
def q20_Verify_E : Int → List RR := fun r => [.val (.int .i64 r)]
def q20_Verify_l1_S (j : (List ApiEntry)) : Int → St := fun s => (⟨[(0, .rv (.val (.slice (List.map ApiEntry.enc j)))), (3, .rv (.val (.int .i64 s)))], [], 0⟩ : St)
theorem s_q20_Verify_l1 (j : (List ApiEntry)) (s : Int) : Sat (cx 36 [.tmp 2]) (loopR (R0 q20_Verify_E)) (loopD (cx 36 [.tmp 2]) (R0 q20_Verify_E) D0 (q20_Verify_l1_S j) [(0, false), (3, false)] ((cx 36 [.tmp 2]).kAt b34 [true, false, true, false] (k0 (cx 36 [.tmp 2]).ti (cx 36 [.tmp 2]).rvs))) ((cx 36 [.tmp 2]).ex (sub b34 [true, false, true, false, false]) (q20_Verify_l1_S j s) T.done) (q20_Verify_l1 j s) := by
 delta q20_Verify_l1
 refine Sat.ite (by kernel_rfl) ?_ ?_
 ·refine Sat.need (g := true) (p := ((0 : Int) ≤ 0 ∧ 0 ≤ s ∧ s ≤ ((List.map ApiEntry.enc j).length : Int)) ∧ ∀ r ∈ (List.map ApiEntry.enc j), r.length = 10) (by kernel_rfl) (fun h _ => by exact ⟨by simpa using h, map_len ApiEntry.enc 10 (fun _ => rfl) _⟩) ?_
  refine Sat.opt (enc := ApiEntry.enc) (by kernel_rfl) (getRow_map _ _ _) (fun ji => ?_)
  refine Sat.call (DoesP.cast (args := [.val (.slice (sliceRows (List.map ApiEntry.enc j) 0 s)), .val (.agg [.int .i64 ji.Id, .int .i64 ji.Booked, .int .i64 ji.Value, .int .i64 ji.Kind, .int .i64 ji.Auth, .int .i64 ji.Period, .str ji.Key, .str ji.Text, .slice (List.map ApiLeg.enc ji.Legs), .int .u64 ji.Chain])]) (by simp [ApiEntry.enc, ApiEntry.enc, List.map_append, List.map_set, List.map_take, List.map_drop, sliceRows_map, List.map_replicate, eInt, eBool, eStr]) (s_q20_Examine (subl j 0 s) ji)) (by kernel_rfl) (fun r => ?_)
  refine Sat.need (g := (((r != 0) == false) && true)) (p := ((0 : Int) ≤ 0 ∧ 0 ≤ s ∧ s ≤ ((List.map ApiEntry.enc j).length : Int)) ∧ ∀ r ∈ (List.map ApiEntry.enc j), r.length = 10) (by kernel_rfl) (fun h0 hg => by have h := h0 hg; exact ⟨by simpa using h, map_len ApiEntry.enc 10 (fun _ => rfl) _⟩) ?_
  refine Sat.optG (enc := ApiEntry.enc) (by kernel_rfl) (getRow_map _ _ _) (fun ji1 => ?_)
  refine Sat.callG (DoesP.cast (args := [.val (.slice (sliceRows (List.map ApiEntry.enc j) 0 s)), .val (.agg [.int .i64 ji1.Id, .int .i64 ji1.Booked, .int .i64 ji1.Value, .int .i64 ji1.Kind, .int .i64 ji1.Auth, .int .i64 ji1.Period, .str ji1.Key, .str ji1.Text, .slice (List.map ApiLeg.enc ji1.Legs), .int .u64 ji1.Chain])]) (by simp [ApiEntry.enc, ApiEntry.enc, List.map_append, List.map_set, List.map_take, List.map_drop, sliceRows_map, List.map_replicate, eInt, eBool, eStr]) (s_q20_next (subl j 0 s) ji1)) (by kernel_rfl) (fun r2 => ?_)
  refine Sat.optG (enc := ApiEntry.enc) (by kernel_rfl) (getRow_map _ _ _) (fun ji3 => ?_)
  refine Sat.callG (s_q19_Same r2 ji3) (by kernel_rfl) (fun r4 => ?_)
  refine Sat.ite (by kernel_rfl) ?_ ?_
  ·refine Sat.retL (D := D0) (A := some s) (by kernel_rfl) ?_
   exact Sat.ret0 [true] (by kernel_rfl) (by kernel_rfl)
  exact Sat.next (by kernel_rfl) (by kernel_rfl)
 refine Sat.out (id := 0) (A := some (-1)) (by kernel_rfl) ?_
 exact Sat.ret0 [true] (by kernel_rfl) (by kernel_rfl)
theorem s_q20_Verify (j : (List ApiEntry)) : DoesP Tryz.prog gt 34 [.val (.slice (List.map ApiEntry.enc j))] q20_Verify_E (q20_Verify j) := by
 refine does_of (c := (cx 36 [.tmp 2])) c_ok (fn := Tryz.f34) (code := b34) Tryz.func34 (by kernel_rfl) (by kernel_rfl) (by kernel_rfl) (by kernel_rfl) (by kernel_rfl) ?_
 delta q20_Verify
 exact Sat.loop (s0 := 0) [(0, false), (3, false)] c_ok (by kernel_rfl) (by kernel_rfl) (by kernel_rfl) (by kernel_rfl) (s_q20_Verify_l1 j)
noncomputable def b80 : Code := (Tryz.f80.body).getD .skip
def q26_parent_E : Bool → List RR := fun r => [.val (.bool r)]
def q26_parent_l1_S (l : (List ApiGl)) (id : Int) : Int → St := fun s => (⟨[(0, .rv (.val (.slice (List.map ApiGl.enc l)))), (1, .rv (.val (.int .i64 id))), (5, .rv (.val (.int .i64 s)))], [], 0⟩ : St)
theorem s_q26_parent_l1 (l : (List ApiGl)) (id : Int) (s : Int) : Sat (cx 19 [.tmp 4]) (loopR (R0 q26_parent_E)) (loopD (cx 19 [.tmp 4]) (R0 q26_parent_E) D0 (q26_parent_l1_S l id) [(0, false), (1, false), (5, false)] ((cx 19 [.tmp 4]).kAt b80 [true, false, true, false] (k0 (cx 19 [.tmp 4]).ti (cx 19 [.tmp 4]).rvs))) ((cx 19 [.tmp 4]).ex (sub b80 [true, false, true, false, false]) (q26_parent_l1_S l id s) T.done) (q26_parent_l1 l id s) := by
 delta q26_parent_l1
 refine Sat.ite (by kernel_rfl) ?_ ?_
 ·refine Sat.opt (enc := ApiGl.enc) (by kernel_rfl) (getRow_map _ _ _) (fun li => ?_)
  refine Sat.ite (by kernel_rfl) ?_ ?_
  ·refine Sat.retL (D := D0) (A := some true) (by kernel_rfl) ?_
   exact Sat.ret0 [true] (by kernel_rfl) (by kernel_rfl)
  exact Sat.next (by kernel_rfl) (by kernel_rfl)
 refine Sat.out (id := 0) (A := some false) (by kernel_rfl) ?_
 exact Sat.ret0 [true] (by kernel_rfl) (by kernel_rfl)
theorem s_q26_parent (l : (List ApiGl)) (id : Int) : DoesP Tryz.prog gt 80 [.val (.slice (List.map ApiGl.enc l)), .val (.int .i64 id)] q26_parent_E (q26_parent l id) := by
 refine does_of (c := (cx 19 [.tmp 4])) c_ok (fn := Tryz.f80) (code := b80) Tryz.func80 (by kernel_rfl) (by kernel_rfl) (by kernel_rfl) (by kernel_rfl) (by kernel_rfl) ?_
 delta q26_parent
 exact Sat.loop (s0 := 0) [(0, false), (1, false), (5, false)] c_ok (by kernel_rfl) (by kernel_rfl) (by kernel_rfl) (by kernel_rfl) (s_q26_parent_l1 l id)
noncomputable def b81 : Code := (Tryz.f81.body).getD .skip
def q24_Active_E : Bool → List RR := fun r => [.val (.bool r)]
theorem s_q24_Active (b : ApiBooks) (id : Int) (day : Int) : DoesP Tryz.prog gt 81 [.val (.agg (ApiBooks.enc b)), .val (.int .i64 id), .val (.int .i64 day)] q24_Active_E (q24_Active b id day) := by
 refine does_of (c := (cx 33 [.tmp 6])) c_ok (fn := Tryz.f81) (code := b81) Tryz.func81 (by kernel_rfl) (by kernel_rfl) (by kernel_rfl) (by kernel_rfl) (by kernel_rfl) ?_
 delta q24_Active
 refine Sat.call (s_q24_Find b id) (by kernel_rfl) (fun r => ?_)
 exact Sat.ret0 [true] (by kernel_rfl) (by kernel_rfl)
noncomputable def b59 : Code := (Tryz.f59.body).getD .skip
def q26_leg_E : Int → List RR := fun r => [.val (.int .i64 r)]
theorem s_q26_leg (b : ApiBooks) (x : ApiLeg) (booked : Int) : DoesP Tryz.prog gt 59 [.val (.agg (ApiBooks.enc b)), .val (.agg (ApiLeg.enc x)), .val (.int .i64 booked)] q26_leg_E (q26_leg b x booked) := by
 refine does_of (c := (cx 83 [.tmp 6])) c_ok (fn := Tryz.f59) (code := b59) Tryz.func59 (by kernel_rfl) (by kernel_rfl) (by kernel_rfl) (by kernel_rfl) (by kernel_rfl) ?_
 delta q26_leg
 refine Sat.call (s_q03_Find b.Currencies x.Currency) (by kernel_rfl) (fun r => ?_)
 refine Sat.ite (by kernel_rfl) ?_ ?_
 ·refine Sat.call (s_q18_Find b.Chart x.Account) (by kernel_rfl) (fun r1 => ?_)
  refine Sat.callG (s_q26_parent b.Chart x.Account) (by kernel_rfl) (fun r2 => ?_)
  refine Sat.ite (by kernel_rfl) ?_ ?_
  ·exact Sat.ret0 [true] (by kernel_rfl) (by kernel_rfl)
  refine Sat.ite (by kernel_rfl) ?_ ?_
  ·exact Sat.ret0 [true] (by kernel_rfl) (by kernel_rfl)
  exact Sat.ret0 [true] (by kernel_rfl) (by kernel_rfl)
 refine Sat.call (s_q24_Find b x.Account) (by kernel_rfl) (fun r3 => ?_)
 refine Sat.ite (by kernel_rfl) ?_ ?_
 ·exact Sat.ret0 [true] (by kernel_rfl) (by kernel_rfl)
 refine Sat.call (s_q17_At b.Products r3.1.Product r3.1.Opened) (by kernel_rfl) (fun r4 => ?_)
 refine Sat.ite (by kernel_rfl) ?_ ?_
 ·exact Sat.ret0 [true] (by kernel_rfl) (by kernel_rfl)
 refine Sat.call (s_q24_Active b x.Account booked) (by kernel_rfl) (fun r5 => ?_)
 refine Sat.ite (by kernel_rfl) ?_ ?_
 ·exact Sat.ret0 [true] (by kernel_rfl) (by kernel_rfl)
 exact Sat.ret0 [true] (by kernel_rfl) (by kernel_rfl)
noncomputable def b35 : Code := (Tryz.f35.body).getD .skip
def q26_Legs_E : Int → List RR := fun r => [.val (.int .i64 r)]
def q26_Legs_l1_S (b : ApiBooks) (e : ApiEntry) : Int → St := fun s => (⟨[(2, .box 0 0), (3, .box 1 0), (5, .rv (.val (.int .i64 s)))], [(0, some (.box [.val (.slice (List.map ApiCurrency.enc b.Currencies)), .val (.slice (List.map ApiCalendar.enc b.Calendars)), .val (.slice (List.map ApiGl.enc b.Chart)), .val (.int .i64 b.Plan.Cash), .val (.int .i64 b.Plan.Deposits), .val (.int .i64 b.Plan.InterestPaid), .val (.int .i64 b.Plan.InterestEarned), .val (.int .i64 b.Plan.FeeEarned), .val (.int .i64 b.Plan.Tax), .val (.int .i64 b.Plan.Clearing), .val (.int .i64 b.Plan.Loans), .val (.int .i64 b.Plan.LoanInterest), .val (.int .i64 b.Plan.Penalty), .val (.int .i64 b.Plan.Provision), .val (.int .i64 b.Plan.ProvisionCost), .val (.int .i64 b.Plan.Loss), .val (.int .i64 b.Plan.Recovery), .val (.slice (List.map ApiProduct.enc b.Products)), .val (.slice (List.map ApiAccount.enc b.Accounts)), .val (.slice (List.map ApiEntry.enc b.Journal)), .val (.slice (List.map ApiHold.enc b.Holds)), .val (.slice (List.map ApiBlock.enc b.Blocks))])), (1, some (.box [.val (.int .i64 e.Id), .val (.int .i64 e.Booked), .val (.int .i64 e.Value), .val (.int .i64 e.Kind), .val (.int .i64 e.Auth), .val (.int .i64 e.Period), .val (.str e.Key), .val (.str e.Text), .val (.slice (List.map ApiLeg.enc e.Legs)), .val (.int .u64 e.Chain)]))], 2⟩ : St)
theorem s_q26_Legs_l1 (b : ApiBooks) (e : ApiEntry) (s : Int) : Sat (cx 26 [.tmp 4]) (loopR (R0 q26_Legs_E)) (loopD (cx 26 [.tmp 4]) (R0 q26_Legs_E) D0 (q26_Legs_l1_S b e) [(2, false), (3, false), (5, false)] ((cx 26 [.tmp 4]).kAt b35 [true, false, true, false] (k0 (cx 26 [.tmp 4]).ti (cx 26 [.tmp 4]).rvs))) ((cx 26 [.tmp 4]).ex (sub b35 [true, false, true, false, false]) (q26_Legs_l1_S b e s) T.done) (q26_Legs_l1 b e s) := by
 delta q26_Legs_l1
 refine Sat.ite (by kernel_rfl) ?_ ?_
 ·refine Sat.opt (enc := ApiLeg.enc) (by kernel_rfl) (getRow_map _ _ _) (fun leg => ?_)
  refine Sat.call (s_q26_leg b leg e.Booked) (by kernel_rfl) (fun r => ?_)
  refine Sat.ite (by kernel_rfl) ?_ ?_
  ·refine Sat.retL (D := D0) (A := some r) (by kernel_rfl) ?_
   exact Sat.ret0 [true] (by kernel_rfl) (by kernel_rfl)
  exact Sat.next (by kernel_rfl) (by kernel_rfl)
 refine Sat.out (id := 0) (A := some 0) (by kernel_rfl) ?_
 exact Sat.ret0 [true] (by kernel_rfl) (by kernel_rfl)
theorem s_q26_Legs (b : ApiBooks) (e : ApiEntry) : DoesP Tryz.prog gt 35 [.val (.agg (ApiBooks.enc b)), .val (.agg (ApiEntry.enc e))] q26_Legs_E (q26_Legs b e) := by
 refine does_of (c := (cx 26 [.tmp 4])) c_ok (fn := Tryz.f35) (code := b35) Tryz.func35 (by kernel_rfl) (by kernel_rfl) (by kernel_rfl) (by kernel_rfl) (by kernel_rfl) ?_
 delta q26_Legs
 exact Sat.loop (s0 := 0) [(2, false), (3, false), (5, false)] c_ok (by kernel_rfl) (by kernel_rfl) (by kernel_rfl) (by kernel_rfl) (s_q26_Legs_l1 b e)
noncomputable def b16 : Code := (Tryz.f16.body).getD .skip
def q26_entries_E : Int → List RR := fun r => [.val (.int .i64 r)]
def q26_entries_l1_S (b : ApiBooks) : Int → St := fun s => (⟨[(1, .box 0 0), (3, .rv (.val (.int .i64 s)))], [(0, some (.box [.val (.slice (List.map ApiCurrency.enc b.Currencies)), .val (.slice (List.map ApiCalendar.enc b.Calendars)), .val (.slice (List.map ApiGl.enc b.Chart)), .val (.int .i64 b.Plan.Cash), .val (.int .i64 b.Plan.Deposits), .val (.int .i64 b.Plan.InterestPaid), .val (.int .i64 b.Plan.InterestEarned), .val (.int .i64 b.Plan.FeeEarned), .val (.int .i64 b.Plan.Tax), .val (.int .i64 b.Plan.Clearing), .val (.int .i64 b.Plan.Loans), .val (.int .i64 b.Plan.LoanInterest), .val (.int .i64 b.Plan.Penalty), .val (.int .i64 b.Plan.Provision), .val (.int .i64 b.Plan.ProvisionCost), .val (.int .i64 b.Plan.Loss), .val (.int .i64 b.Plan.Recovery), .val (.slice (List.map ApiProduct.enc b.Products)), .val (.slice (List.map ApiAccount.enc b.Accounts)), .val (.slice (List.map ApiEntry.enc b.Journal)), .val (.slice (List.map ApiHold.enc b.Holds)), .val (.slice (List.map ApiBlock.enc b.Blocks))]))], 1⟩ : St)
theorem s_q26_entries_l1 (b : ApiBooks) (s : Int) : Sat (cx 23 [.tmp 2]) (loopR (R0 q26_entries_E)) (loopD (cx 23 [.tmp 2]) (R0 q26_entries_E) D0 (q26_entries_l1_S b) [(1, false), (3, false)] ((cx 23 [.tmp 2]).kAt b16 [true, true, false, true, false] (k0 (cx 23 [.tmp 2]).ti (cx 23 [.tmp 2]).rvs))) ((cx 23 [.tmp 2]).ex (sub b16 [true, true, false, true, false, false]) (q26_entries_l1_S b s) T.done) (q26_entries_l1 b s) := by
 delta q26_entries_l1
 refine Sat.ite (by kernel_rfl) ?_ ?_
 ·refine Sat.opt (enc := ApiEntry.enc) (by kernel_rfl) (getRow_map _ _ _) (fun journal => ?_)
  refine Sat.call (s_q26_Legs b journal) (by kernel_rfl) (fun r1 => ?_)
  refine Sat.ite (by kernel_rfl) ?_ ?_
  ·refine Sat.retL (D := D0) (A := some 25) (by kernel_rfl) ?_
   exact Sat.ret0 [true] (by kernel_rfl) (by kernel_rfl)
  exact Sat.next (by kernel_rfl) (by kernel_rfl)
 refine Sat.out (id := 0) (A := some 0) (by kernel_rfl) ?_
 exact Sat.ret0 [true] (by kernel_rfl) (by kernel_rfl)
theorem s_q26_entries (b : ApiBooks) : DoesP Tryz.prog gt 16 [.val (.agg (ApiBooks.enc b))] q26_entries_E (q26_entries b) := by
 refine does_of (c := (cx 23 [.tmp 2])) c_ok (fn := Tryz.f16) (code := b16) Tryz.func16 (by kernel_rfl) (by kernel_rfl) (by kernel_rfl) (by kernel_rfl) (by kernel_rfl) ?_
 delta q26_entries
 refine Sat.call (s_q20_Verify b.Journal) (by kernel_rfl) (fun r => ?_)
 refine Sat.ite (by kernel_rfl) ?_ ?_
 ·exact Sat.ret0 [true] (by kernel_rfl) (by kernel_rfl)
 exact Sat.loop (s0 := 0) [(1, false), (3, false)] c_ok (by kernel_rfl) (by kernel_rfl) (by kernel_rfl) (by kernel_rfl) (s_q26_entries_l1 b)
noncomputable def b36 : Code := (Tryz.f36.body).getD .skip
def q22_one_E : Int → List RR := fun r => [.val (.int .i64 r)]
theorem s_q22_one (h : ApiHold) : DoesP Tryz.prog gt 36 [.val (.agg (ApiHold.enc h))] q22_one_E (q22_one h) := by
 refine does_of (c := (cx 44 [.tmp 2])) c_ok (fn := Tryz.f36) (code := b36) Tryz.func36 (by kernel_rfl) (by kernel_rfl) (by kernel_rfl) (by kernel_rfl) (by kernel_rfl) ?_
 delta q22_one
 refine Sat.callG (s_q04_Valid h.From) (by kernel_rfl) (fun r => ?_)
 refine Sat.callG (s_q04_Valid h.To) (by kernel_rfl) (fun r1 => ?_)
 refine Sat.ite (by kernel_rfl) ?_ ?_
 ·exact Sat.ret0 [true] (by kernel_rfl) (by kernel_rfl)
 refine Sat.call (s_q07_Key h.Key) (by kernel_rfl) (fun r2 => ?_)
 refine Sat.ite (by kernel_rfl) ?_ ?_
 ·exact Sat.ret0 [true] (by kernel_rfl) (by kernel_rfl)
 exact Sat.ret0 [true] (by kernel_rfl) (by kernel_rfl)
noncomputable def b37 : Code := (Tryz.f37.body).getD .skip
def q22_named_E : Bool → List RR := fun r => [.val (.bool r)]
def q22_named_l1_S (l : (List ApiHold)) (key : ByteArray) : Int → St := fun s => (⟨[(0, .rv (.val (.slice (List.map ApiHold.enc l)))), (1, .rv (.val (.str key))), (5, .rv (.val (.int .i64 s)))], [], 0⟩ : St)
theorem s_q22_named_l1 (l : (List ApiHold)) (key : ByteArray) (s : Int) : Sat (cx 19 [.tmp 4]) (loopR (R0 q22_named_E)) (loopD (cx 19 [.tmp 4]) (R0 q22_named_E) D0 (q22_named_l1_S l key) [(0, false), (1, false), (5, false)] ((cx 19 [.tmp 4]).kAt b37 [true, false, true, false] (k0 (cx 19 [.tmp 4]).ti (cx 19 [.tmp 4]).rvs))) ((cx 19 [.tmp 4]).ex (sub b37 [true, false, true, false, false]) (q22_named_l1_S l key s) T.done) (q22_named_l1 l key s) := by
 delta q22_named_l1
 refine Sat.ite (by kernel_rfl) ?_ ?_
 ·refine Sat.opt (enc := ApiHold.enc) (by kernel_rfl) (getRow_map _ _ _) (fun li => ?_)
  refine Sat.ite (by kernel_rfl) ?_ ?_
  ·refine Sat.retL (D := D0) (A := some true) (by kernel_rfl) ?_
   exact Sat.ret0 [true] (by kernel_rfl) (by kernel_rfl)
  exact Sat.next (by kernel_rfl) (by kernel_rfl)
 refine Sat.out (id := 0) (A := some false) (by kernel_rfl) ?_
 exact Sat.ret0 [true] (by kernel_rfl) (by kernel_rfl)
theorem s_q22_named (l : (List ApiHold)) (key : ByteArray) : DoesP Tryz.prog gt 37 [.val (.slice (List.map ApiHold.enc l)), .val (.str key)] q22_named_E (q22_named l key) := by
 refine does_of (c := (cx 19 [.tmp 4])) c_ok (fn := Tryz.f37) (code := b37) Tryz.func37 (by kernel_rfl) (by kernel_rfl) (by kernel_rfl) (by kernel_rfl) (by kernel_rfl) ?_
 delta q22_named
 exact Sat.loop (s0 := 0) [(0, false), (1, false), (5, false)] c_ok (by kernel_rfl) (by kernel_rfl) (by kernel_rfl) (by kernel_rfl) (s_q22_named_l1 l key)
noncomputable def b17 : Code := (Tryz.f17.body).getD .skip
def q22_Check_E : Int → List RR := fun r => [.val (.int .i64 r)]
def q22_Check_l1_S (l : (List ApiHold)) : Int → St := fun s => (⟨[(0, .rv (.val (.slice (List.map ApiHold.enc l)))), (3, .rv (.val (.int .i64 s)))], [], 0⟩ : St)
theorem s_q22_Check_l1 (l : (List ApiHold)) (s : Int) : Sat (cx 47 [.tmp 2]) (loopR (R0 q22_Check_E)) (loopD (cx 47 [.tmp 2]) (R0 q22_Check_E) D0 (q22_Check_l1_S l) [(0, false), (3, false)] ((cx 47 [.tmp 2]).kAt b17 [true, true, false, true, false] (k0 (cx 47 [.tmp 2]).ti (cx 47 [.tmp 2]).rvs))) ((cx 47 [.tmp 2]).ex (sub b17 [true, true, false, true, false, false]) (q22_Check_l1_S l s) T.done) (q22_Check_l1 l s) := by
 delta q22_Check_l1
 refine Sat.ite (by kernel_rfl) ?_ ?_
 ·refine Sat.opt (enc := ApiHold.enc) (by kernel_rfl) (getRow_map _ _ _) (fun li => ?_)
  refine Sat.call (s_q22_one li) (by kernel_rfl) (fun r => ?_)
  refine Sat.ite (by kernel_rfl) ?_ ?_
  ·refine Sat.retL (D := D0) (A := some r) (by kernel_rfl) ?_
   exact Sat.ret0 [true] (by kernel_rfl) (by kernel_rfl)
  refine Sat.optG (enc := ApiHold.enc) (by kernel_rfl) (getRow_map _ _ _) (fun li1 => ?_)
  refine Sat.optG (enc := ApiHold.enc) (by kernel_rfl) (getRow_map _ _ _) (fun li2 => ?_)
  refine Sat.ite (by kernel_rfl) ?_ ?_
  ·refine Sat.retL (D := D0) (A := some 10) (by kernel_rfl) ?_
   exact Sat.ret0 [true] (by kernel_rfl) (by kernel_rfl)
  refine Sat.need (g := true) (p := ((0 : Int) ≤ 0 ∧ 0 ≤ s ∧ s ≤ ((List.map ApiHold.enc l).length : Int)) ∧ ∀ r ∈ (List.map ApiHold.enc l), r.length = 6) (by kernel_rfl) (fun h _ => by exact ⟨by simpa using h, map_len ApiHold.enc 6 (fun _ => rfl) _⟩) ?_
  refine Sat.opt (enc := ApiHold.enc) (by kernel_rfl) (getRow_map _ _ _) (fun li3 => ?_)
  refine Sat.call (DoesP.cast (args := [.val (.slice (sliceRows (List.map ApiHold.enc l) 0 s)), .val (.str li3.Key)]) (by simp [ApiHold.enc, List.map_append, List.map_set, List.map_take, List.map_drop, sliceRows_map, List.map_replicate, eInt, eBool, eStr]) (s_q22_named (subl l 0 s) li3.Key)) (by kernel_rfl) (fun r4 => ?_)
  refine Sat.ite (by kernel_rfl) ?_ ?_
  ·refine Sat.retL (D := D0) (A := some 12) (by kernel_rfl) ?_
   exact Sat.ret0 [true] (by kernel_rfl) (by kernel_rfl)
  exact Sat.next (by kernel_rfl) (by kernel_rfl)
 refine Sat.out (id := 0) (A := some 0) (by kernel_rfl) ?_
 exact Sat.ret0 [true] (by kernel_rfl) (by kernel_rfl)
theorem s_q22_Check (l : (List ApiHold)) : DoesP Tryz.prog gt 17 [.val (.slice (List.map ApiHold.enc l))] q22_Check_E (q22_Check l) := by
 refine does_of (c := (cx 47 [.tmp 2])) c_ok (fn := Tryz.f17) (code := b17) Tryz.func17 (by kernel_rfl) (by kernel_rfl) (by kernel_rfl) (by kernel_rfl) (by kernel_rfl) ?_
 delta q22_Check
 refine Sat.ite (by kernel_rfl) ?_ ?_
 ·exact Sat.ret0 [true] (by kernel_rfl) (by kernel_rfl)
 exact Sat.loop (s0 := 0) [(0, false), (3, false)] c_ok (by kernel_rfl) (by kernel_rfl) (by kernel_rfl) (by kernel_rfl) (s_q22_Check_l1 l)
noncomputable def b38 : Code := (Tryz.f38.body).getD .skip
def q23_good_E : Bool → List RR := fun r => [.val (.bool r)]
theorem s_q23_good (b : ApiBlock) : DoesP Tryz.prog gt 38 [.val (.agg (ApiBlock.enc b))] q23_good_E (q23_good b) := by
 refine does_of (c := (cx 59 [.tmp 2])) c_ok (fn := Tryz.f38) (code := b38) Tryz.func38 (by kernel_rfl) (by kernel_rfl) (by kernel_rfl) (by kernel_rfl) (by kernel_rfl) ?_
 delta q23_good
 refine Sat.ite (by kernel_rfl) ?_ ?_
 ·exact Sat.ret0 [true] (by kernel_rfl) (by kernel_rfl)
 refine Sat.ite (by kernel_rfl) ?_ ?_
 ·exact Sat.ret0 [true] (by kernel_rfl) (by kernel_rfl)
 refine Sat.call (s_q04_Valid b.From) (by kernel_rfl) (fun r => ?_)
 refine Sat.callG (s_q04_Valid b.To) (by kernel_rfl) (fun r1 => ?_)
 exact Sat.ret0 [true] (by kernel_rfl) (by kernel_rfl)
noncomputable def b18 : Code := (Tryz.f18.body).getD .skip
def q23_Check_E : Int → List RR := fun r => [.val (.int .i64 r)]
def q23_Check_l1_S (l : (List ApiBlock)) : Int → St := fun s => (⟨[(0, .rv (.val (.slice (List.map ApiBlock.enc l)))), (3, .rv (.val (.int .i64 s)))], [], 0⟩ : St)
theorem s_q23_Check_l1 (l : (List ApiBlock)) (s : Int) : Sat (cx 42 [.tmp 2]) (loopR (R0 q23_Check_E)) (loopD (cx 42 [.tmp 2]) (R0 q23_Check_E) D0 (q23_Check_l1_S l) [(0, false), (3, false)] ((cx 42 [.tmp 2]).kAt b18 [true, true, false, true, false] (k0 (cx 42 [.tmp 2]).ti (cx 42 [.tmp 2]).rvs))) ((cx 42 [.tmp 2]).ex (sub b18 [true, true, false, true, false, false]) (q23_Check_l1_S l s) T.done) (q23_Check_l1 l s) := by
 delta q23_Check_l1
 refine Sat.ite (by kernel_rfl) ?_ ?_
 ·refine Sat.opt (enc := ApiBlock.enc) (by kernel_rfl) (getRow_map _ _ _) (fun li => ?_)
  refine Sat.call (s_q23_good li) (by kernel_rfl) (fun r => ?_)
  refine Sat.ite (by kernel_rfl) ?_ ?_
  ·refine Sat.retL (D := D0) (A := some 1) (by kernel_rfl) ?_
   exact Sat.ret0 [true] (by kernel_rfl) (by kernel_rfl)
  refine Sat.opt (enc := ApiBlock.enc) (by kernel_rfl) (getRow_map _ _ _) (fun li1 => ?_)
  refine Sat.call (s_q05_Name li1.Source) (by kernel_rfl) (fun r2 => ?_)
  refine Sat.ite (by kernel_rfl) ?_ ?_
  ·refine Sat.retL (D := D0) (A := some 4) (by kernel_rfl) ?_
   exact Sat.ret0 [true] (by kernel_rfl) (by kernel_rfl)
  refine Sat.optG (enc := ApiBlock.enc) (by kernel_rfl) (getRow_map _ _ _) (fun li3 => ?_)
  refine Sat.optG (enc := ApiBlock.enc) (by kernel_rfl) (getRow_map _ _ _) (fun li4 => ?_)
  refine Sat.ite (by kernel_rfl) ?_ ?_
  ·refine Sat.retL (D := D0) (A := some 10) (by kernel_rfl) ?_
   exact Sat.ret0 [true] (by kernel_rfl) (by kernel_rfl)
  exact Sat.next (by kernel_rfl) (by kernel_rfl)
 refine Sat.out (id := 0) (A := some 0) (by kernel_rfl) ?_
 exact Sat.ret0 [true] (by kernel_rfl) (by kernel_rfl)
theorem s_q23_Check (l : (List ApiBlock)) : DoesP Tryz.prog gt 18 [.val (.slice (List.map ApiBlock.enc l))] q23_Check_E (q23_Check l) := by
 refine does_of (c := (cx 42 [.tmp 2])) c_ok (fn := Tryz.f18) (code := b18) Tryz.func18 (by kernel_rfl) (by kernel_rfl) (by kernel_rfl) (by kernel_rfl) (by kernel_rfl) ?_
 delta q23_Check
 refine Sat.ite (by kernel_rfl) ?_ ?_
 ·exact Sat.ret0 [true] (by kernel_rfl) (by kernel_rfl)
 exact Sat.loop (s0 := 0) [(0, false), (3, false)] c_ok (by kernel_rfl) (by kernel_rfl) (by kernel_rfl) (by kernel_rfl) (s_q23_Check_l1 l)
noncomputable def b6 : Code := (Tryz.f6.body).getD .skip
def q26_Check_E : Int → List RR := fun r => [.val (.int .i64 r)]
def q26_Check_j0_S : Int → St := fun s13 => (⟨[(3, .rv (.val (.int .i64 s13)))], [], 0⟩ : St)
def q26_Check_j1_S (b : ApiBooks) : Int → St := fun s11 => (⟨[(1, .box 0 0), (3, .rv (.val (.int .i64 s11)))], [(0, some (.box [.val (.slice (List.map ApiCurrency.enc b.Currencies)), .val (.slice (List.map ApiCalendar.enc b.Calendars)), .val (.slice (List.map ApiGl.enc b.Chart)), .val (.int .i64 b.Plan.Cash), .val (.int .i64 b.Plan.Deposits), .val (.int .i64 b.Plan.InterestPaid), .val (.int .i64 b.Plan.InterestEarned), .val (.int .i64 b.Plan.FeeEarned), .val (.int .i64 b.Plan.Tax), .val (.int .i64 b.Plan.Clearing), .val (.int .i64 b.Plan.Loans), .val (.int .i64 b.Plan.LoanInterest), .val (.int .i64 b.Plan.Penalty), .val (.int .i64 b.Plan.Provision), .val (.int .i64 b.Plan.ProvisionCost), .val (.int .i64 b.Plan.Loss), .val (.int .i64 b.Plan.Recovery), .val (.slice (List.map ApiProduct.enc b.Products)), .val (.slice (List.map ApiAccount.enc b.Accounts)), .val (.slice (List.map ApiEntry.enc b.Journal)), .val (.slice (List.map ApiHold.enc b.Holds)), .val (.slice (List.map ApiBlock.enc b.Blocks))]))], 1⟩ : St)
def q26_Check_j2_S (b : ApiBooks) : Int → St := fun s9 => (⟨[(1, .box 0 0), (3, .rv (.val (.int .i64 s9)))], [(0, some (.box [.val (.slice (List.map ApiCurrency.enc b.Currencies)), .val (.slice (List.map ApiCalendar.enc b.Calendars)), .val (.slice (List.map ApiGl.enc b.Chart)), .val (.int .i64 b.Plan.Cash), .val (.int .i64 b.Plan.Deposits), .val (.int .i64 b.Plan.InterestPaid), .val (.int .i64 b.Plan.InterestEarned), .val (.int .i64 b.Plan.FeeEarned), .val (.int .i64 b.Plan.Tax), .val (.int .i64 b.Plan.Clearing), .val (.int .i64 b.Plan.Loans), .val (.int .i64 b.Plan.LoanInterest), .val (.int .i64 b.Plan.Penalty), .val (.int .i64 b.Plan.Provision), .val (.int .i64 b.Plan.ProvisionCost), .val (.int .i64 b.Plan.Loss), .val (.int .i64 b.Plan.Recovery), .val (.slice (List.map ApiProduct.enc b.Products)), .val (.slice (List.map ApiAccount.enc b.Accounts)), .val (.slice (List.map ApiEntry.enc b.Journal)), .val (.slice (List.map ApiHold.enc b.Holds)), .val (.slice (List.map ApiBlock.enc b.Blocks))]))], 1⟩ : St)
def q26_Check_j3_S (b : ApiBooks) : Int → St := fun s7 => (⟨[(1, .box 0 0), (3, .rv (.val (.int .i64 s7)))], [(0, some (.box [.val (.slice (List.map ApiCurrency.enc b.Currencies)), .val (.slice (List.map ApiCalendar.enc b.Calendars)), .val (.slice (List.map ApiGl.enc b.Chart)), .val (.int .i64 b.Plan.Cash), .val (.int .i64 b.Plan.Deposits), .val (.int .i64 b.Plan.InterestPaid), .val (.int .i64 b.Plan.InterestEarned), .val (.int .i64 b.Plan.FeeEarned), .val (.int .i64 b.Plan.Tax), .val (.int .i64 b.Plan.Clearing), .val (.int .i64 b.Plan.Loans), .val (.int .i64 b.Plan.LoanInterest), .val (.int .i64 b.Plan.Penalty), .val (.int .i64 b.Plan.Provision), .val (.int .i64 b.Plan.ProvisionCost), .val (.int .i64 b.Plan.Loss), .val (.int .i64 b.Plan.Recovery), .val (.slice (List.map ApiProduct.enc b.Products)), .val (.slice (List.map ApiAccount.enc b.Accounts)), .val (.slice (List.map ApiEntry.enc b.Journal)), .val (.slice (List.map ApiHold.enc b.Holds)), .val (.slice (List.map ApiBlock.enc b.Blocks))]))], 1⟩ : St)
end Go.Cb
set_option linter.unusedVariables false
set_option linter.unusedSimpArgs false
namespace Go.Cb
open Go.Eng Go.RowKit
open Go.Proofs
def q26_Check_j4_S (b : ApiBooks) : Int → St := fun s5 => (⟨[(1, .box 0 0), (3, .rv (.val (.int .i64 s5)))], [(0, some (.box [.val (.slice (List.map ApiCurrency.enc b.Currencies)), .val (.slice (List.map ApiCalendar.enc b.Calendars)), .val (.slice (List.map ApiGl.enc b.Chart)), .val (.int .i64 b.Plan.Cash), .val (.int .i64 b.Plan.Deposits), .val (.int .i64 b.Plan.InterestPaid), .val (.int .i64 b.Plan.InterestEarned), .val (.int .i64 b.Plan.FeeEarned), .val (.int .i64 b.Plan.Tax), .val (.int .i64 b.Plan.Clearing), .val (.int .i64 b.Plan.Loans), .val (.int .i64 b.Plan.LoanInterest), .val (.int .i64 b.Plan.Penalty), .val (.int .i64 b.Plan.Provision), .val (.int .i64 b.Plan.ProvisionCost), .val (.int .i64 b.Plan.Loss), .val (.int .i64 b.Plan.Recovery), .val (.slice (List.map ApiProduct.enc b.Products)), .val (.slice (List.map ApiAccount.enc b.Accounts)), .val (.slice (List.map ApiEntry.enc b.Journal)), .val (.slice (List.map ApiHold.enc b.Holds)), .val (.slice (List.map ApiBlock.enc b.Blocks))]))], 1⟩ : St)
def q26_Check_j5_S (b : ApiBooks) : Int → St := fun s3 => (⟨[(1, .box 0 0), (3, .rv (.val (.int .i64 s3)))], [(0, some (.box [.val (.slice (List.map ApiCurrency.enc b.Currencies)), .val (.slice (List.map ApiCalendar.enc b.Calendars)), .val (.slice (List.map ApiGl.enc b.Chart)), .val (.int .i64 b.Plan.Cash), .val (.int .i64 b.Plan.Deposits), .val (.int .i64 b.Plan.InterestPaid), .val (.int .i64 b.Plan.InterestEarned), .val (.int .i64 b.Plan.FeeEarned), .val (.int .i64 b.Plan.Tax), .val (.int .i64 b.Plan.Clearing), .val (.int .i64 b.Plan.Loans), .val (.int .i64 b.Plan.LoanInterest), .val (.int .i64 b.Plan.Penalty), .val (.int .i64 b.Plan.Provision), .val (.int .i64 b.Plan.ProvisionCost), .val (.int .i64 b.Plan.Loss), .val (.int .i64 b.Plan.Recovery), .val (.slice (List.map ApiProduct.enc b.Products)), .val (.slice (List.map ApiAccount.enc b.Accounts)), .val (.slice (List.map ApiEntry.enc b.Journal)), .val (.slice (List.map ApiHold.enc b.Holds)), .val (.slice (List.map ApiBlock.enc b.Blocks))]))], 1⟩ : St)
def q26_Check_j6_S (b : ApiBooks) : Int → St := fun s => (⟨[(1, .box 0 0), (3, .rv (.val (.int .i64 s)))], [(0, some (.box [.val (.slice (List.map ApiCurrency.enc b.Currencies)), .val (.slice (List.map ApiCalendar.enc b.Calendars)), .val (.slice (List.map ApiGl.enc b.Chart)), .val (.int .i64 b.Plan.Cash), .val (.int .i64 b.Plan.Deposits), .val (.int .i64 b.Plan.InterestPaid), .val (.int .i64 b.Plan.InterestEarned), .val (.int .i64 b.Plan.FeeEarned), .val (.int .i64 b.Plan.Tax), .val (.int .i64 b.Plan.Clearing), .val (.int .i64 b.Plan.Loans), .val (.int .i64 b.Plan.LoanInterest), .val (.int .i64 b.Plan.Penalty), .val (.int .i64 b.Plan.Provision), .val (.int .i64 b.Plan.ProvisionCost), .val (.int .i64 b.Plan.Loss), .val (.int .i64 b.Plan.Recovery), .val (.slice (List.map ApiProduct.enc b.Products)), .val (.slice (List.map ApiAccount.enc b.Accounts)), .val (.slice (List.map ApiEntry.enc b.Journal)), .val (.slice (List.map ApiHold.enc b.Holds)), .val (.slice (List.map ApiBlock.enc b.Blocks))]))], 1⟩ : St)
theorem s_q26_Check_j0 (s13 : Int) : Sat (cx 42 [.tmp 2]) (R0 q26_Check_E) D0 ((cx 42 [.tmp 2]).ex (sub b6 [true, true, true, true, true, true, true, true, true]) (q26_Check_j0_S s13) ((cx 42 [.tmp 2]).kAt b6 [true, true, true, true, true, true, true, true, true] (k0 (cx 42 [.tmp 2]).ti (cx 42 [.tmp 2]).rvs))) (q26_Check_j0 s13) := by
 delta q26_Check_j0
 exact Sat.ret0 [true] (by kernel_rfl) (by kernel_rfl)
theorem s_q26_Check_j1 (b : ApiBooks) (s11 : Int) : Sat (cx 42 [.tmp 2]) (R0 q26_Check_E) D0 ((cx 42 [.tmp 2]).ex (sub b6 [true, true, true, true, true, true, true, true]) (q26_Check_j1_S b s11) ((cx 42 [.tmp 2]).kAt b6 [true, true, true, true, true, true, true, true] (k0 (cx 42 [.tmp 2]).ti (cx 42 [.tmp 2]).rvs))) (q26_Check_j1 b s11) := by
 delta q26_Check_j1
 refine Sat.ite (by kernel_rfl) ?_ ?_
 ·refine Sat.call (s_q23_Check b.Blocks) (by kernel_rfl) (fun r12 => ?_)
  exact Sat.cut (s0 := r12) [(3, false)] c_ok (by kernel_rfl) (by kernel_rfl) (by kernel_rfl) (by kernel_rfl) (s_q26_Check_j0)
 exact Sat.cut (s0 := s11) [(3, false)] c_ok (by kernel_rfl) (by kernel_rfl) (by kernel_rfl) (by kernel_rfl) (s_q26_Check_j0)
theorem s_q26_Check_j2 (b : ApiBooks) (s9 : Int) : Sat (cx 42 [.tmp 2]) (R0 q26_Check_E) D0 ((cx 42 [.tmp 2]).ex (sub b6 [true, true, true, true, true, true, true]) (q26_Check_j2_S b s9) ((cx 42 [.tmp 2]).kAt b6 [true, true, true, true, true, true, true] (k0 (cx 42 [.tmp 2]).ti (cx 42 [.tmp 2]).rvs))) (q26_Check_j2 b s9) := by
 delta q26_Check_j2
 refine Sat.ite (by kernel_rfl) ?_ ?_
 ·refine Sat.call (s_q22_Check b.Holds) (by kernel_rfl) (fun r10 => ?_)
  exact Sat.cut (s0 := r10) [(1, false), (3, false)] c_ok (by kernel_rfl) (by kernel_rfl) (by kernel_rfl) (by kernel_rfl) (s_q26_Check_j1 b)
 exact Sat.cut (s0 := s9) [(1, false), (3, false)] c_ok (by kernel_rfl) (by kernel_rfl) (by kernel_rfl) (by kernel_rfl) (s_q26_Check_j1 b)
theorem s_q26_Check_j3 (b : ApiBooks) (s7 : Int) : Sat (cx 42 [.tmp 2]) (R0 q26_Check_E) D0 ((cx 42 [.tmp 2]).ex (sub b6 [true, true, true, true, true, true]) (q26_Check_j3_S b s7) ((cx 42 [.tmp 2]).kAt b6 [true, true, true, true, true, true] (k0 (cx 42 [.tmp 2]).ti (cx 42 [.tmp 2]).rvs))) (q26_Check_j3 b s7) := by
 delta q26_Check_j3
 refine Sat.ite (by kernel_rfl) ?_ ?_
 ·refine Sat.call (s_q26_entries b) (by kernel_rfl) (fun r8 => ?_)
  exact Sat.cut (s0 := r8) [(1, false), (3, false)] c_ok (by kernel_rfl) (by kernel_rfl) (by kernel_rfl) (by kernel_rfl) (s_q26_Check_j2 b)
 exact Sat.cut (s0 := s7) [(1, false), (3, false)] c_ok (by kernel_rfl) (by kernel_rfl) (by kernel_rfl) (by kernel_rfl) (s_q26_Check_j2 b)
theorem s_q26_Check_j4 (b : ApiBooks) (s5 : Int) : Sat (cx 42 [.tmp 2]) (R0 q26_Check_E) D0 ((cx 42 [.tmp 2]).ex (sub b6 [true, true, true, true, true]) (q26_Check_j4_S b s5) ((cx 42 [.tmp 2]).kAt b6 [true, true, true, true, true] (k0 (cx 42 [.tmp 2]).ti (cx 42 [.tmp 2]).rvs))) (q26_Check_j4 b s5) := by
 delta q26_Check_j4
 refine Sat.ite (by kernel_rfl) ?_ ?_
 ·refine Sat.call (s_q24_Check b) (by kernel_rfl) (fun r6 => ?_)
  exact Sat.cut (s0 := r6) [(1, false), (3, false)] c_ok (by kernel_rfl) (by kernel_rfl) (by kernel_rfl) (by kernel_rfl) (s_q26_Check_j3 b)
 exact Sat.cut (s0 := s5) [(1, false), (3, false)] c_ok (by kernel_rfl) (by kernel_rfl) (by kernel_rfl) (by kernel_rfl) (s_q26_Check_j3 b)
theorem s_q26_Check_j5 (b : ApiBooks) (s3 : Int) : Sat (cx 42 [.tmp 2]) (R0 q26_Check_E) D0 ((cx 42 [.tmp 2]).ex (sub b6 [true, true, true, true]) (q26_Check_j5_S b s3) ((cx 42 [.tmp 2]).kAt b6 [true, true, true, true] (k0 (cx 42 [.tmp 2]).ti (cx 42 [.tmp 2]).rvs))) (q26_Check_j5 b s3) := by
 delta q26_Check_j5
 refine Sat.ite (by kernel_rfl) ?_ ?_
 ·refine Sat.call (s_q26_products b) (by kernel_rfl) (fun r4 => ?_)
  exact Sat.cut (s0 := r4) [(1, false), (3, false)] c_ok (by kernel_rfl) (by kernel_rfl) (by kernel_rfl) (by kernel_rfl) (s_q26_Check_j4 b)
 exact Sat.cut (s0 := s3) [(1, false), (3, false)] c_ok (by kernel_rfl) (by kernel_rfl) (by kernel_rfl) (by kernel_rfl) (s_q26_Check_j4 b)
theorem s_q26_Check_j6 (b : ApiBooks) (s : Int) : Sat (cx 42 [.tmp 2]) (R0 q26_Check_E) D0 ((cx 42 [.tmp 2]).ex (sub b6 [true, true, true]) (q26_Check_j6_S b s) ((cx 42 [.tmp 2]).kAt b6 [true, true, true] (k0 (cx 42 [.tmp 2]).ti (cx 42 [.tmp 2]).rvs))) (q26_Check_j6 b s) := by
 delta q26_Check_j6
 refine Sat.ite (by kernel_rfl) ?_ ?_
 ·refine Sat.call (s_q18_Check b.Chart b.Plan) (by kernel_rfl) (fun r2 => ?_)
  exact Sat.cut (s0 := r2) [(1, false), (3, false)] c_ok (by kernel_rfl) (by kernel_rfl) (by kernel_rfl) (by kernel_rfl) (s_q26_Check_j5 b)
 exact Sat.cut (s0 := s) [(1, false), (3, false)] c_ok (by kernel_rfl) (by kernel_rfl) (by kernel_rfl) (by kernel_rfl) (s_q26_Check_j5 b)
theorem s_q26_Check (b : ApiBooks) : DoesP Tryz.prog gt 6 [.val (.agg (ApiBooks.enc b))] q26_Check_E (q26_Check b) := by
 refine does_of (c := (cx 42 [.tmp 2])) c_ok (fn := Tryz.f6) (code := b6) Tryz.func6 (by kernel_rfl) (by kernel_rfl) (by kernel_rfl) (by kernel_rfl) (by kernel_rfl) ?_
 delta q26_Check
 refine Sat.call (s_q03_Check b.Currencies) (by kernel_rfl) (fun r => ?_)
 refine Sat.ite (by kernel_rfl) ?_ ?_
 ·refine Sat.call (s_q26_calendars b.Calendars) (by kernel_rfl) (fun r1 => ?_)
  exact Sat.cut (s0 := r1) [(1, false), (3, false)] c_ok (by kernel_rfl) (by kernel_rfl) (by kernel_rfl) (by kernel_rfl) (s_q26_Check_j6 b)
 exact Sat.cut (s0 := r) [(1, false), (3, false)] c_ok (by kernel_rfl) (by kernel_rfl) (by kernel_rfl) (by kernel_rfl) (s_q26_Check_j6 b)
noncomputable def b61 : Code := (Tryz.f61.body).getD .skip
def slices_Clone_api_Leg_api_Leg_E : (List ApiLeg) → List RR := fun r => [.own 124 (List.map ApiLeg.enc r)]
theorem s_slices_Clone_api_Leg_api_Leg (s : (List ApiLeg)) : DoesP Tryz.prog gt 61 [.val (.slice (List.map ApiLeg.enc s))] slices_Clone_api_Leg_api_Leg_E (slices_Clone_api_Leg_api_Leg s) := by
 refine does_of (c := (cx 8 [.tmp 2])) c_ok (fn := Tryz.f61) (code := b61) Tryz.func61 (by kernel_rfl) (by kernel_rfl) (by kernel_rfl) (by kernel_rfl) (by kernel_rfl) ?_
 delta slices_Clone_api_Leg_api_Leg
 refine Sat.anyNil (l := s) (enc := ApiLeg.enc) (A' := some ([])) (by kernel_rfl) (fun h => by simp [h]) ?_ ?_
 ·refine Sat.iteT (by kernel_rfl) ?_
  exact Sat.ret0 [false] (by kernel_rfl) (by kernel_rfl)
 refine Sat.iteF (by kernel_rfl) ?_
 refine Sat.need (g := true) (p := (∀ r ∈ (List.map ApiLeg.enc s), r.length = 3) ∧ ((List.map ApiLeg.enc ([])).length + (List.map ApiLeg.enc s).length) * 32 ≤ 140737488355328) (by kernel_rfl) (fun h _ => by exact ⟨map_len ApiLeg.enc 3 (fun _ => rfl) _, by simpa [sliceRows_map, List.length_set] using h⟩) ?_
 exact Sat.ret0 [false] (by kernel_rfl) (Eq.trans (b := [.own 124 ((List.map ApiLeg.enc ([])) ++ (List.map ApiLeg.enc s))]) (by kernel_rfl) (by simp [slices_Clone_api_Leg_api_Leg_E, ApiLeg.enc, List.map_append, List.map_set, List.map_take, List.map_drop, sliceRows_map, List.map_replicate, eInt, eBool, eStr]))
noncomputable def b40 : Code := (Tryz.f40.body).getD .skip
def clone_Entry_E : ApiEntry → List RR := fun r => [.val (.agg (ApiEntry.enc r))]
theorem s_clone_Entry (e : ApiEntry) : DoesP Tryz.prog gt 40 [.val (.agg (ApiEntry.enc e))] clone_Entry_E (clone_Entry e) := by
 refine does_of (c := (cx 8 [.cell 2 43])) c_ok (fn := Tryz.f40) (code := b40) Tryz.func40 (by kernel_rfl) (by kernel_rfl) (by kernel_rfl) (by kernel_rfl) (by kernel_rfl) ?_
 delta clone_Entry
 refine Sat.call (s_slices_Clone_api_Leg_api_Leg e.Legs) (by kernel_rfl) (fun r => ?_)
 exact Sat.ret0 [true] (by kernel_rfl) (by kernel_rfl)
noncomputable def b19 : Code := (Tryz.f19.body).getD .skip
def backdate_Events_E : (List ApiEntry) → List RR := fun r => [.own 43 (List.map ApiEntry.enc r)]
def backdate_Events_j0_S (j : (List ApiEntry)) (s : (Int × (List ApiEntry))) : (List ApiEntry) → St := fun s1 => (⟨[(3, .rv (.own 0)), (6, .rv (.val (.slice (List.map ApiEntry.enc j)))), (7, .rv (.val (.int .i64 ((List.map ApiEntry.enc j).length : Int)))), (8, .rv (.val (.int .i64 s.1)))], [(0, some (.vec 43 (List.map ApiEntry.enc s1)))], 1⟩ : St)
def backdate_Events_l1_S (j : (List ApiEntry)) : (Int × (List ApiEntry)) → St := fun s => (⟨[(3, .rv (.own 0)), (6, .rv (.val (.slice (List.map ApiEntry.enc j)))), (7, .rv (.val (.int .i64 ((List.map ApiEntry.enc j).length : Int)))), (8, .rv (.val (.int .i64 s.1)))], [(0, some (.vec 43 (List.map ApiEntry.enc s.2)))], 1⟩ : St)
theorem s_backdate_Events_j0 (j : (List ApiEntry)) (s : (Int × (List ApiEntry))) (s1 : (List ApiEntry)) : Sat (cx 27 [.tmp 2]) (loopR (R0 backdate_Events_E)) (loopD (cx 27 [.tmp 2]) (R0 backdate_Events_E) D0 (backdate_Events_l1_S j) [(3, false), (6, false), (7, false), (8, false)] ((cx 27 [.tmp 2]).kAt b19 [true, true, false, true, false] (k0 (cx 27 [.tmp 2]).ti (cx 27 [.tmp 2]).rvs))) ((cx 27 [.tmp 2]).ex (sub b19 [true, true, false, true, false, false, true, true, true]) (backdate_Events_j0_S j s s1) ((cx 27 [.tmp 2]).kAt b19 [true, true, false, true, false, false, true, true, true] (k0 (cx 27 [.tmp 2]).ti (cx 27 [.tmp 2]).rvs))) (backdate_Events_j0 s s1) := by
 delta backdate_Events_j0
 exact Sat.next (by kernel_rfl) (by kernel_rfl)
theorem s_backdate_Events_l1 (j : (List ApiEntry)) (s : (Int × (List ApiEntry))) : Sat (cx 27 [.tmp 2]) (loopR (R0 backdate_Events_E)) (loopD (cx 27 [.tmp 2]) (R0 backdate_Events_E) D0 (backdate_Events_l1_S j) [(3, false), (6, false), (7, false), (8, false)] ((cx 27 [.tmp 2]).kAt b19 [true, true, false, true, false] (k0 (cx 27 [.tmp 2]).ti (cx 27 [.tmp 2]).rvs))) ((cx 27 [.tmp 2]).ex (sub b19 [true, true, false, true, false, false]) (backdate_Events_l1_S j s) T.done) (backdate_Events_l1 j s) := by
 delta backdate_Events_l1
 refine Sat.ite (by kernel_rfl) ?_ ?_
 ·refine Sat.opt (enc := ApiEntry.enc) (by kernel_rfl) (getRow_map _ _ _) (fun ji => ?_)
  refine Sat.ite (by kernel_rfl) ?_ ?_
  ·refine Sat.call (s_clone_Entry ji) (by kernel_rfl) (fun r => ?_)
   refine Sat.need (g := true) (p := ((List.map ApiEntry.enc s.2).length + (List.map ApiEntry.enc ([r])).length) * 112 ≤ 140737488355328) (by kernel_rfl) (fun h _ => by simpa [sliceRows_map, List.length_set] using h) ?_
   exact Sat.cut (s0 := (s.2 ++ ([r]))) [(3, false), (6, false), (7, false), (8, false)] c_ok (by kernel_rfl) (Eq.trans (b := (⟨[(3, .rv (.own 0)), (6, .rv (.val (.slice (List.map ApiEntry.enc j)))), (7, .rv (.val (.int .i64 ((List.map ApiEntry.enc j).length : Int)))), (8, .rv (.val (.int .i64 s.1)))], [(0, some (.vec 43 ((List.map ApiEntry.enc s.2) ++ (List.map ApiEntry.enc ([r])))))], 1⟩ : St)) (by kernel_rfl) (by simp [backdate_Events_j0_S, ApiEntry.enc, List.map_append, List.map_set, List.map_take, List.map_drop, sliceRows_map, List.map_replicate, eInt, eBool, eStr])) (by kernel_rfl) (by kernel_rfl) (s_backdate_Events_j0 j s)
  exact Sat.cut (s0 := s.2) [(3, false), (6, false), (7, false), (8, false)] c_ok (by kernel_rfl) (by kernel_rfl) (by kernel_rfl) (by kernel_rfl) (s_backdate_Events_j0 j s)
 refine Sat.out (id := 0) (A := some s.2) (by kernel_rfl) ?_
 exact Sat.ret0 [false] (by kernel_rfl) (by kernel_rfl)
theorem s_backdate_Events (j : (List ApiEntry)) : DoesP Tryz.prog gt 19 [.val (.slice (List.map ApiEntry.enc j))] backdate_Events_E (backdate_Events j) := by
 refine does_of (c := (cx 27 [.tmp 2])) c_ok (fn := Tryz.f19) (code := b19) Tryz.func19 (by kernel_rfl) (by kernel_rfl) (by kernel_rfl) (by kernel_rfl) (by kernel_rfl) ?_
 delta backdate_Events
 exact Sat.loop (s0 := (0, [])) [(3, false), (6, false), (7, false), (8, false)] c_ok (by kernel_rfl) (by kernel_rfl) (by kernel_rfl) (by kernel_rfl) (s_backdate_Events_l1 j)
noncomputable def b20 : Code := (Tryz.f20.body).getD .skip
def backdate_Affected_E : (List Int) → List RR := fun r => [.own 3 (List.map (eInt .i64) r)]
def backdate_Affected_j0_S (l : (List ApiPeriod)) (id : Int) (value : Int) (s : (Int × (List Int))) : (List Int) → St := fun s1 => (⟨[(1, .rv (.val (.int .i64 id))), (2, .rv (.val (.int .i64 value))), (7, .rv (.own 0)), (10, .rv (.val (.slice (List.map ApiPeriod.enc l)))), (11, .rv (.val (.int .i64 ((List.map ApiPeriod.enc l).length : Int)))), (12, .rv (.val (.int .i64 s.1)))], [(0, some (.vec 3 (List.map (eInt .i64) s1)))], 1⟩ : St)
def backdate_Affected_l1_S (l : (List ApiPeriod)) (id : Int) (value : Int) : (Int × (List Int)) → St := fun s => (⟨[(1, .rv (.val (.int .i64 id))), (2, .rv (.val (.int .i64 value))), (7, .rv (.own 0)), (10, .rv (.val (.slice (List.map ApiPeriod.enc l)))), (11, .rv (.val (.int .i64 ((List.map ApiPeriod.enc l).length : Int)))), (12, .rv (.val (.int .i64 s.1)))], [(0, some (.vec 3 (List.map (eInt .i64) s.2)))], 1⟩ : St)
theorem s_backdate_Affected_j0 (l : (List ApiPeriod)) (id : Int) (value : Int) (s : (Int × (List Int))) (s1 : (List Int)) : Sat (cx 33 [.tmp 6]) (loopR (R0 backdate_Affected_E)) (loopD (cx 33 [.tmp 6]) (R0 backdate_Affected_E) D0 (backdate_Affected_l1_S l id value) [(1, false), (2, false), (7, false), (10, false), (11, false), (12, false)] ((cx 33 [.tmp 6]).kAt b20 [true, true, false, true, false] (k0 (cx 33 [.tmp 6]).ti (cx 33 [.tmp 6]).rvs))) ((cx 33 [.tmp 6]).ex (sub b20 [true, true, false, true, false, false, true, true, true]) (backdate_Affected_j0_S l id value s s1) ((cx 33 [.tmp 6]).kAt b20 [true, true, false, true, false, false, true, true, true] (k0 (cx 33 [.tmp 6]).ti (cx 33 [.tmp 6]).rvs))) (backdate_Affected_j0 s s1) := by
 delta backdate_Affected_j0
 exact Sat.next (by kernel_rfl) (by kernel_rfl)
theorem s_backdate_Affected_l1 (l : (List ApiPeriod)) (id : Int) (value : Int) (s : (Int × (List Int))) : Sat (cx 33 [.tmp 6]) (loopR (R0 backdate_Affected_E)) (loopD (cx 33 [.tmp 6]) (R0 backdate_Affected_E) D0 (backdate_Affected_l1_S l id value) [(1, false), (2, false), (7, false), (10, false), (11, false), (12, false)] ((cx 33 [.tmp 6]).kAt b20 [true, true, false, true, false] (k0 (cx 33 [.tmp 6]).ti (cx 33 [.tmp 6]).rvs))) ((cx 33 [.tmp 6]).ex (sub b20 [true, true, false, true, false, false]) (backdate_Affected_l1_S l id value s) T.done) (backdate_Affected_l1 l id value s) := by
 delta backdate_Affected_l1
 refine Sat.ite (by kernel_rfl) ?_ ?_
 ·refine Sat.opt (enc := ApiPeriod.enc) (by kernel_rfl) (getRow_map _ _ _) (fun li => ?_)
  refine Sat.ite (by kernel_rfl) ?_ ?_
  ·refine Sat.need (g := true) (p := ((List.map (eInt .i64) s.2).length + (List.map (eInt .i64) ([s.1])).length) * 8 ≤ 140737488355328) (by kernel_rfl) (fun h _ => by simpa [sliceRows_map, List.length_set] using h) ?_
   exact Sat.cut (s0 := (s.2 ++ ([s.1]))) [(1, false), (2, false), (7, false), (10, false), (11, false), (12, false)] c_ok (by kernel_rfl) (Eq.trans (b := (⟨[(1, .rv (.val (.int .i64 id))), (2, .rv (.val (.int .i64 value))), (7, .rv (.own 0)), (10, .rv (.val (.slice (List.map ApiPeriod.enc l)))), (11, .rv (.val (.int .i64 ((List.map ApiPeriod.enc l).length : Int)))), (12, .rv (.val (.int .i64 s.1)))], [(0, some (.vec 3 ((List.map (eInt .i64) s.2) ++ (List.map (eInt .i64) ([s.1])))))], 1⟩ : St)) (by kernel_rfl) (by simp [backdate_Affected_j0_S, List.map_append, List.map_set, List.map_take, List.map_drop, sliceRows_map, List.map_replicate, eInt, eBool, eStr])) (by kernel_rfl) (by kernel_rfl) (s_backdate_Affected_j0 l id value s)
  exact Sat.cut (s0 := s.2) [(1, false), (2, false), (7, false), (10, false), (11, false), (12, false)] c_ok (by kernel_rfl) (by kernel_rfl) (by kernel_rfl) (by kernel_rfl) (s_backdate_Affected_j0 l id value s)
 refine Sat.out (id := 0) (A := some s.2) (by kernel_rfl) ?_
 exact Sat.ret0 [false] (by kernel_rfl) (by kernel_rfl)
theorem s_backdate_Affected (l : (List ApiPeriod)) (id : Int) (value : Int) : DoesP Tryz.prog gt 20 [.val (.slice (List.map ApiPeriod.enc l)), .val (.int .i64 id), .val (.int .i64 value)] backdate_Affected_E (backdate_Affected l id value) := by
 refine does_of (c := (cx 33 [.tmp 6])) c_ok (fn := Tryz.f20) (code := b20) Tryz.func20 (by kernel_rfl) (by kernel_rfl) (by kernel_rfl) (by kernel_rfl) (by kernel_rfl) ?_
 delta backdate_Affected
 exact Sat.loop (s0 := (0, [])) [(1, false), (2, false), (7, false), (10, false), (11, false), (12, false)] c_ok (by kernel_rfl) (by kernel_rfl) (by kernel_rfl) (by kernel_rfl) (s_backdate_Affected_l1 l id value)
noncomputable def b63 : Code := (Tryz.f63.body).getD .skip
def account_index_c1_E : Bool → List RR := fun r => [.val (.bool r)]
theorem s_account_index_c1 (a : ApiAccount) (c0 : Int) : DoesP Tryz.prog gt 63 [.val (.agg (ApiAccount.enc a)), .row [.int .i64 c0]] account_index_c1_E (account_index_c1 a c0) := by
 refine does_of (c := (cx 8 [.tmp 3])) c_ok (fn := Tryz.f63) (code := b63) Tryz.func63 (by kernel_rfl) (by kernel_rfl) (by kernel_rfl) (by kernel_rfl) (by kernel_rfl) ?_
 delta account_index_c1
 exact Sat.ret0 [true] (by kernel_rfl) (by kernel_rfl)
noncomputable def b62 : Code := (Tryz.f62.body).getD .skip
def slices_IndexFunc_api_Account_api_Account__account_index_c1_E : Int → List RR := fun r => [.val (.int .i64 r)]
def slices_IndexFunc_api_Account_api_Account__account_index_c1_l1_S (s : (List ApiAccount)) (f0 : Int) : Int → St := fun s1 => (⟨[(0, .rv (.val (.slice (List.map ApiAccount.enc s)))), (1, .rv (.val (.fn 63 [[.int .i64 f0]]))), (7, .rv (.val (.int .i64 ((List.map ApiAccount.enc s).length : Int)))), (8, .rv (.val (.int .i64 s1)))], [], 0⟩ : St)
theorem s_slices_IndexFunc_api_Account_api_Account__account_index_c1_l1 (s : (List ApiAccount)) (f0 : Int) (s1 : Int) : Sat (cx 19 [.tmp 4]) (loopR (R0 slices_IndexFunc_api_Account_api_Account__account_index_c1_E)) (loopD (cx 19 [.tmp 4]) (R0 slices_IndexFunc_api_Account_api_Account__account_index_c1_E) D0 (slices_IndexFunc_api_Account_api_Account__account_index_c1_l1_S s f0) [(0, false), (1, false), (7, false), (8, false)] ((cx 19 [.tmp 4]).kAt b62 [true, false, true, false] (k0 (cx 19 [.tmp 4]).ti (cx 19 [.tmp 4]).rvs))) ((cx 19 [.tmp 4]).ex (sub b62 [true, false, true, false, false]) (slices_IndexFunc_api_Account_api_Account__account_index_c1_l1_S s f0 s1) T.done) (slices_IndexFunc_api_Account_api_Account__account_index_c1_l1 s f0 s1) := by
 delta slices_IndexFunc_api_Account_api_Account__account_index_c1_l1
 refine Sat.ite (by kernel_rfl) ?_ ?_
 ·refine Sat.opt (enc := ApiAccount.enc) (by kernel_rfl) (getRow_map _ _ _) (fun si => ?_)
  refine Sat.call (s_account_index_c1 si f0) (by kernel_rfl) (fun r => ?_)
  refine Sat.ite (by kernel_rfl) ?_ ?_
  ·refine Sat.retL (D := D0) (A := some s1) (by kernel_rfl) ?_
   exact Sat.ret0 [true] (by kernel_rfl) (by kernel_rfl)
  exact Sat.next (by kernel_rfl) (by kernel_rfl)
 refine Sat.out (id := 0) (A := some (-1)) (by kernel_rfl) ?_
 exact Sat.ret0 [true] (by kernel_rfl) (by kernel_rfl)
theorem s_slices_IndexFunc_api_Account_api_Account__account_index_c1 (s : (List ApiAccount)) (f0 : Int) : DoesP Tryz.prog gt 62 [.val (.slice (List.map ApiAccount.enc s)), .val (.fn 63 [[.int .i64 f0]])] slices_IndexFunc_api_Account_api_Account__account_index_c1_E (slices_IndexFunc_api_Account_api_Account__account_index_c1 s f0) := by
 refine does_of (c := (cx 19 [.tmp 4])) c_ok (fn := Tryz.f62) (code := b62) Tryz.func62 (by kernel_rfl) (by kernel_rfl) (by kernel_rfl) (by kernel_rfl) (by kernel_rfl) ?_
 delta slices_IndexFunc_api_Account_api_Account__account_index_c1
 exact Sat.loop (s0 := 0) [(0, false), (1, false), (7, false), (8, false)] c_ok (by kernel_rfl) (by kernel_rfl) (by kernel_rfl) (by kernel_rfl) (s_slices_IndexFunc_api_Account_api_Account__account_index_c1_l1 s f0)
noncomputable def b41 : Code := (Tryz.f41.body).getD .skip
def account_index_E : Int → List RR := fun r => [.val (.int .i64 r)]
theorem s_account_index (b : ApiBooks) (id : Int) : DoesP Tryz.prog gt 41 [.val (.agg (ApiBooks.enc b)), .val (.int .i64 id)] account_index_E (account_index b id) := by
 refine does_of (c := (cx 9 [.tmp 4])) c_ok (fn := Tryz.f41) (code := b41) Tryz.func41 (by kernel_rfl) (by kernel_rfl) (by kernel_rfl) (by kernel_rfl) (by kernel_rfl) ?_
 delta account_index
 refine Sat.call (s_slices_IndexFunc_api_Account_api_Account__account_index_c1 b.Accounts id) (by kernel_rfl) (fun r => ?_)
 exact Sat.ret0 [true] (by kernel_rfl) (by kernel_rfl)
noncomputable def b21 : Code := (Tryz.f21.body).getD .skip
def account_Find_E : (ApiAccount × Bool) → List RR := fun r => [.val (.agg (ApiAccount.enc r.1)), .val (.bool r.2)]
theorem s_account_Find (b : ApiBooks) (id : Int) : DoesP Tryz.prog gt 21 [.val (.agg (ApiBooks.enc b)), .val (.int .i64 id)] account_Find_E (account_Find b id) := by
 refine does_of (c := (cx 18 [.cell 4 45, .tmp 5])) c_ok (fn := Tryz.f21) (code := b21) Tryz.func21 (by kernel_rfl) (by kernel_rfl) (by kernel_rfl) (by kernel_rfl) (by kernel_rfl) ?_
 delta account_Find
 refine Sat.call (s_account_index b id) (by kernel_rfl) (fun r => ?_)
 refine Sat.ite (by kernel_rfl) ?_ ?_
 ·exact Sat.ret0 [true, true] (by kernel_rfl) (by kernel_rfl)
 refine Sat.opt (enc := ApiAccount.enc) (by kernel_rfl) (getRow_map _ _ _) (fun account => ?_)
 exact Sat.ret0 [true, true] (by kernel_rfl) (by kernel_rfl)
noncomputable def b88 : Code := (Tryz.f88.body).getD .skip
def settle_Last_E : (ApiPeriod × Bool) → List RR := fun r => [.val (.agg (ApiPeriod.enc r.1)), .val (.bool r.2)]
def settle_Last_l1_S (l : (List ApiPeriod)) (id : Int) : Int → St := fun s => (⟨[(0, .rv (.val (.slice (List.map ApiPeriod.enc l)))), (1, .rv (.val (.int .i64 id))), (4, .box 0 0), (6, .rv (.val (.int .i64 s)))], [(0, some (.box [.val (.int .i64 0), .val (.int .i64 0), .val (.int .i64 0), .val (.int .i64 0), .val (.int .i64 0), .val (.int .i64 0), .val (.int .i64 0), .val (.int .i64 0), .val (.int .u64 0), .val (.int .i64 0), .val (.int .u64 0)]))], 1⟩ : St)
theorem s_settle_Last_l1 (l : (List ApiPeriod)) (id : Int) (s : Int) : Sat (cx 26 [.cell 4 51, .tmp 5]) (loopR (R0 settle_Last_E)) (loopD (cx 26 [.cell 4 51, .tmp 5]) (R0 settle_Last_E) D0 (settle_Last_l1_S l id) [(0, false), (1, false), (4, false), (6, false)] ((cx 26 [.cell 4 51, .tmp 5]).kAt b88 [true, false, true, false] (k0 (cx 26 [.cell 4 51, .tmp 5]).ti (cx 26 [.cell 4 51, .tmp 5]).rvs))) ((cx 26 [.cell 4 51, .tmp 5]).ex (sub b88 [true, false, true, false, false]) (settle_Last_l1_S l id s) T.done) (settle_Last_l1 l id s) := by
 delta settle_Last_l1
 refine Sat.ite (by kernel_rfl) ?_ ?_
 ·refine Sat.opt (enc := ApiPeriod.enc) (by kernel_rfl) (getRow_map _ _ _) (fun li => ?_)
  refine Sat.ite (by kernel_rfl) ?_ ?_
  ·refine Sat.opt (enc := ApiPeriod.enc) (by kernel_rfl) (getRow_map _ _ _) (fun li1 => ?_)
   refine Sat.retL (D := D0) (A := some (li1, true)) (by kernel_rfl) ?_
   exact Sat.ret0 [true, true] (by kernel_rfl) (by kernel_rfl)
  exact Sat.next (by kernel_rfl) (by kernel_rfl)
 refine Sat.out (id := 0) (A := some ((⟨0, 0, 0, 0, 0, 0, 0, (⟨0, 0⟩ : ApiWide), (⟨0, 0⟩ : ApiWide)⟩ : ApiPeriod), false)) (by kernel_rfl) ?_
 exact Sat.ret0 [true, true] (by kernel_rfl) (by kernel_rfl)
theorem s_settle_Last (l : (List ApiPeriod)) (id : Int) : DoesP Tryz.prog gt 88 [.val (.slice (List.map ApiPeriod.enc l)), .val (.int .i64 id)] settle_Last_E (settle_Last l id) := by
 refine does_of (c := (cx 26 [.cell 4 51, .tmp 5])) c_ok (fn := Tryz.f88) (code := b88) Tryz.func88 (by kernel_rfl) (by kernel_rfl) (by kernel_rfl) (by kernel_rfl) (by kernel_rfl) ?_
 delta settle_Last
 exact Sat.loop (s0 := (IntKind.wrap .i64 (((List.map ApiPeriod.enc l).length : Int) - 1))) [(0, false), (1, false), (4, false), (6, false)] c_ok (by kernel_rfl) (by kernel_rfl) (by kernel_rfl) (by kernel_rfl) (s_settle_Last_l1 l id)
noncomputable def b83 : Code := (Tryz.f83.body).getD .skip
def settle_first_E : Int → List RR := fun r => [.val (.int .i64 r)]
theorem s_settle_first (l : (List ApiPeriod)) (a : ApiAccount) : DoesP Tryz.prog gt 83 [.val (.slice (List.map ApiPeriod.enc l)), .val (.agg (ApiAccount.enc a))] settle_first_E (settle_first l a) := by
 refine does_of (c := (cx 20 [.tmp 4])) c_ok (fn := Tryz.f83) (code := b83) Tryz.func83 (by kernel_rfl) (by kernel_rfl) (by kernel_rfl) (by kernel_rfl) (by kernel_rfl) ?_
 delta settle_first
 refine Sat.call (s_settle_Last l a.Id) (by kernel_rfl) (fun r => ?_)
 refine Sat.ite (by kernel_rfl) ?_ ?_
 ·exact Sat.ret0 [true] (by kernel_rfl) (by kernel_rfl)
 exact Sat.ret0 [true] (by kernel_rfl) (by kernel_rfl)
noncomputable def b84 : Code := (Tryz.f84.body).getD .skip
def date_Valid_E : Bool → List RR := fun r => [.val (.bool r)]
theorem s_date_Valid (day : Int) : DoesP Tryz.prog gt 84 [.val (.int .i64 day)] date_Valid_E (date_Valid day) := by
 refine does_of (c := (cx 9 [.tmp 2])) c_ok (fn := Tryz.f84) (code := b84) Tryz.func84 (by kernel_rfl) (by kernel_rfl) (by kernel_rfl) (by kernel_rfl) (by kernel_rfl) ?_
 delta date_Valid
 exact Sat.ret0 [true] (by kernel_rfl) (by kernel_rfl)
noncomputable def b107 : Code := (Tryz.f107.body).getD .skip
def accrue_daily_E : (Int × ApiBooks) → List RR := fun r => [.val (.fn 134 [[.int .i64 r.1], [.slice (List.map ApiCurrency.enc r.2.Currencies), .slice (List.map ApiCalendar.enc r.2.Calendars), .slice (List.map ApiGl.enc r.2.Chart), .int .i64 r.2.Plan.Cash, .int .i64 r.2.Plan.Deposits, .int .i64 r.2.Plan.InterestPaid, .int .i64 r.2.Plan.InterestEarned, .int .i64 r.2.Plan.FeeEarned, .int .i64 r.2.Plan.Tax, .int .i64 r.2.Plan.Clearing, .int .i64 r.2.Plan.Loans, .int .i64 r.2.Plan.LoanInterest, .int .i64 r.2.Plan.Penalty, .int .i64 r.2.Plan.Provision, .int .i64 r.2.Plan.ProvisionCost, .int .i64 r.2.Plan.Loss, .int .i64 r.2.Plan.Recovery, .slice (List.map ApiProduct.enc r.2.Products), .slice (List.map ApiAccount.enc r.2.Accounts), .slice (List.map ApiEntry.enc r.2.Journal), .slice (List.map ApiHold.enc r.2.Holds), .slice (List.map ApiBlock.enc r.2.Blocks)]])]
theorem s_accrue_daily (b : ApiBooks) (id : Int) : DoesP Tryz.prog gt 107 [.val (.agg (ApiBooks.enc b)), .val (.int .i64 id)] accrue_daily_E (accrue_daily b id) := by
 refine does_of (c := (cx 6 [.tmp 4])) c_ok (fn := Tryz.f107) (code := b107) Tryz.func107 (by kernel_rfl) (by kernel_rfl) (by kernel_rfl) (by kernel_rfl) (by kernel_rfl) ?_
 delta accrue_daily
 exact Sat.ret0 [false] (by kernel_rfl) (by kernel_rfl)
noncomputable def b135 : Code := (Tryz.f135.body).getD .skip
def account_Active_E : Bool → List RR := fun r => [.val (.bool r)]
theorem s_account_Active (b : ApiBooks) (id : Int) (day : Int) : DoesP Tryz.prog gt 135 [.val (.agg (ApiBooks.enc b)), .val (.int .i64 id), .val (.int .i64 day)] account_Active_E (account_Active b id day) := by
 refine does_of (c := (cx 33 [.tmp 6])) c_ok (fn := Tryz.f135) (code := b135) Tryz.func135 (by kernel_rfl) (by kernel_rfl) (by kernel_rfl) (by kernel_rfl) (by kernel_rfl) ?_
 delta account_Active
 refine Sat.call (s_account_Find b id) (by kernel_rfl) (fun r => ?_)
 exact Sat.ret0 [true] (by kernel_rfl) (by kernel_rfl)
noncomputable def b108 : Code := (Tryz.f108.body).getD .skip
def catalog_At_E : (ApiProduct × Bool) → List RR := fun r => [.val (.agg (ApiProduct.enc r.1)), .val (.bool r.2)]
def catalog_At_j0_S (l : (List ApiProduct)) (name : ByteArray) (day : Int) (s : (Int × Int)) : Int → St := fun s2 => (⟨[(0, .rv (.val (.slice (List.map ApiProduct.enc l)))), (1, .rv (.val (.str name))), (2, .rv (.val (.int .i64 day))), (6, .box 0 0), (8, .rv (.val (.int .i64 s2))), (11, .rv (.val (.slice (List.map ApiProduct.enc l)))), (12, .rv (.val (.int .i64 ((List.map ApiProduct.enc l).length : Int)))), (13, .rv (.val (.int .i64 s.2)))], [(0, some (.box [.val (.str (bs [])), .val (.str (bs [])), .val (.str (bs [])), .val (.int .i64 0), .val (.int .i64 0), .val (.int .i64 0), .val (.int .i64 0), .nils, .val (.bool false), .val (.int .i64 0), .val (.int .i64 0), .val (.bool false), .nils, .val (.bool false), .val (.int .i64 0), .val (.int .i64 0), .val (.bool false), .nils, .nils]))], 1⟩ : St)
def catalog_At_l1_S (l : (List ApiProduct)) (name : ByteArray) (day : Int) : (Int × Int) → St := fun s => (⟨[(0, .rv (.val (.slice (List.map ApiProduct.enc l)))), (1, .rv (.val (.str name))), (2, .rv (.val (.int .i64 day))), (6, .box 0 0), (8, .rv (.val (.int .i64 s.1))), (11, .rv (.val (.slice (List.map ApiProduct.enc l)))), (12, .rv (.val (.int .i64 ((List.map ApiProduct.enc l).length : Int)))), (13, .rv (.val (.int .i64 s.2)))], [(0, some (.box [.val (.str (bs [])), .val (.str (bs [])), .val (.str (bs [])), .val (.int .i64 0), .val (.int .i64 0), .val (.int .i64 0), .val (.int .i64 0), .nils, .val (.bool false), .val (.int .i64 0), .val (.int .i64 0), .val (.bool false), .nils, .val (.bool false), .val (.int .i64 0), .val (.int .i64 0), .val (.bool false), .nils, .nils]))], 1⟩ : St)
theorem s_catalog_At_j0 (l : (List ApiProduct)) (name : ByteArray) (day : Int) (s : (Int × Int)) (s2 : Int) : Sat (cx 51 [.cell 6 80, .tmp 7]) (loopR (R0 catalog_At_E)) (loopD (cx 51 [.cell 6 80, .tmp 7]) (R0 catalog_At_E) D0 (catalog_At_l1_S l name day) [(0, false), (1, false), (2, false), (6, false), (8, false), (11, false), (12, false), (13, false)] ((cx 51 [.cell 6 80, .tmp 7]).kAt b108 [true, true, false, true, false] (k0 (cx 51 [.cell 6 80, .tmp 7]).ti (cx 51 [.cell 6 80, .tmp 7]).rvs))) ((cx 51 [.cell 6 80, .tmp 7]).ex (sub b108 [true, true, false, true, false, false, true, true, true]) (catalog_At_j0_S l name day s s2) ((cx 51 [.cell 6 80, .tmp 7]).kAt b108 [true, true, false, true, false, false, true, true, true] (k0 (cx 51 [.cell 6 80, .tmp 7]).ti (cx 51 [.cell 6 80, .tmp 7]).rvs))) (catalog_At_j0 s s2) := by
 delta catalog_At_j0
 exact Sat.next (by kernel_rfl) (by kernel_rfl)
theorem s_catalog_At_l1 (l : (List ApiProduct)) (name : ByteArray) (day : Int) (s : (Int × Int)) : Sat (cx 51 [.cell 6 80, .tmp 7]) (loopR (R0 catalog_At_E)) (loopD (cx 51 [.cell 6 80, .tmp 7]) (R0 catalog_At_E) D0 (catalog_At_l1_S l name day) [(0, false), (1, false), (2, false), (6, false), (8, false), (11, false), (12, false), (13, false)] ((cx 51 [.cell 6 80, .tmp 7]).kAt b108 [true, true, false, true, false] (k0 (cx 51 [.cell 6 80, .tmp 7]).ti (cx 51 [.cell 6 80, .tmp 7]).rvs))) ((cx 51 [.cell 6 80, .tmp 7]).ex (sub b108 [true, true, false, true, false, false]) (catalog_At_l1_S l name day s) T.done) (catalog_At_l1 l name day s) := by
 delta catalog_At_l1
 refine Sat.ite (by kernel_rfl) ?_ ?_
 ·refine Sat.opt (enc := ApiProduct.enc) (by kernel_rfl) (getRow_map _ _ _) (fun li => ?_)
  refine Sat.optG (enc := ApiProduct.enc) (by kernel_rfl) (getRow_map _ _ _) (fun li1 => ?_)
  refine Sat.ite (by kernel_rfl) ?_ ?_
  ·exact Sat.cut (s0 := s.2) [(0, false), (1, false), (2, false), (6, false), (8, false), (11, false), (12, false), (13, false)] c_ok (by kernel_rfl) (by kernel_rfl) (by kernel_rfl) (by kernel_rfl) (s_catalog_At_j0 l name day s)
  exact Sat.cut (s0 := s.1) [(0, false), (1, false), (2, false), (6, false), (8, false), (11, false), (12, false), (13, false)] c_ok (by kernel_rfl) (by kernel_rfl) (by kernel_rfl) (by kernel_rfl) (s_catalog_At_j0 l name day s)
 refine Sat.out (id := 0) (by kernel_rfl) ?_
 refine Sat.ite (by kernel_rfl) ?_ ?_
 ·exact Sat.ret0 [true, true] (by kernel_rfl) (by kernel_rfl)
 refine Sat.opt (enc := ApiProduct.enc) (by kernel_rfl) (getRow_map _ _ _) (fun li3 => ?_)
 exact Sat.ret0 [true, true] (by kernel_rfl) (by kernel_rfl)
theorem s_catalog_At (l : (List ApiProduct)) (name : ByteArray) (day : Int) : DoesP Tryz.prog gt 108 [.val (.slice (List.map ApiProduct.enc l)), .val (.str name), .val (.int .i64 day)] catalog_At_E (catalog_At l name day) := by
 refine does_of (c := (cx 51 [.cell 6 80, .tmp 7])) c_ok (fn := Tryz.f108) (code := b108) Tryz.func108 (by kernel_rfl) (by kernel_rfl) (by kernel_rfl) (by kernel_rfl) (by kernel_rfl) ?_
 delta catalog_At
 exact Sat.loop (s0 := ((-1), 0)) [(0, false), (1, false), (2, false), (6, false), (8, false), (11, false), (12, false), (13, false)] c_ok (by kernel_rfl) (by kernel_rfl) (by kernel_rfl) (by kernel_rfl) (s_catalog_At_l1 l name day)
noncomputable def b86 : Code := (Tryz.f86.body).getD .skip
def account_Product_E : (ApiProduct × Bool) → List RR := fun r => [.val (.agg (ApiProduct.enc r.1)), .val (.bool r.2)]
theorem s_account_Product (b : ApiBooks) (id : Int) (day : Int) : DoesP Tryz.prog gt 86 [.val (.agg (ApiBooks.enc b)), .val (.int .i64 id), .val (.int .i64 day)] account_Product_E (account_Product b id day) := by
 refine does_of (c := (cx 27 [.cell 6 80, .tmp 7])) c_ok (fn := Tryz.f86) (code := b86) Tryz.func86 (by kernel_rfl) (by kernel_rfl) (by kernel_rfl) (by kernel_rfl) (by kernel_rfl) ?_
 delta account_Product
 refine Sat.call (s_account_Find b id) (by kernel_rfl) (fun r => ?_)
 refine Sat.ite (by kernel_rfl) ?_ ?_
 ·exact Sat.ret0 [true, true] (by kernel_rfl) (by kernel_rfl)
 refine Sat.call (s_catalog_At b.Products r.1.Product day) (by kernel_rfl) (fun r1 => ?_)
 exact Sat.ret0 [true, true] (by kernel_rfl) (by kernel_rfl)
noncomputable def b188 : Code := (Tryz.f188.body).getD .skip
def slices_Clone_api_Tier_api_Tier_E : (List ApiTier) → List RR := fun r => [.own 166 (List.map ApiTier.enc r)]
theorem s_slices_Clone_api_Tier_api_Tier (s : (List ApiTier)) : DoesP Tryz.prog gt 188 [.val (.slice (List.map ApiTier.enc s))] slices_Clone_api_Tier_api_Tier_E (slices_Clone_api_Tier_api_Tier s) := by
 refine does_of (c := (cx 8 [.tmp 2])) c_ok (fn := Tryz.f188) (code := b188) Tryz.func188 (by kernel_rfl) (by kernel_rfl) (by kernel_rfl) (by kernel_rfl) (by kernel_rfl) ?_
 delta slices_Clone_api_Tier_api_Tier
 refine Sat.anyNil (l := s) (enc := ApiTier.enc) (A' := some ([])) (by kernel_rfl) (fun h => by simp [h]) ?_ ?_
 ·refine Sat.iteT (by kernel_rfl) ?_
  exact Sat.ret0 [false] (by kernel_rfl) (by kernel_rfl)
 refine Sat.iteF (by kernel_rfl) ?_
 refine Sat.need (g := true) (p := (∀ r ∈ (List.map ApiTier.enc s), r.length = 2) ∧ ((List.map ApiTier.enc ([])).length + (List.map ApiTier.enc s).length) * 16 ≤ 140737488355328) (by kernel_rfl) (fun h _ => by exact ⟨map_len ApiTier.enc 2 (fun _ => rfl) _, by simpa [sliceRows_map, List.length_set] using h⟩) ?_
 exact Sat.ret0 [false] (by kernel_rfl) (Eq.trans (b := [.own 166 ((List.map ApiTier.enc ([])) ++ (List.map ApiTier.enc s))]) (by kernel_rfl) (by simp [slices_Clone_api_Tier_api_Tier_E, ApiTier.enc, List.map_append, List.map_set, List.map_take, List.map_drop, sliceRows_map, List.map_replicate, eInt, eBool, eStr]))
noncomputable def b168 : Code := (Tryz.f168.body).getD .skip
def product_Side_E : ApiInterest → List RR := fun r => [.val (.agg (ApiInterest.enc r))]
def product_Side_j0_S : ((List ApiTier) × Bool × Int × Int × Bool) → St := fun s => (⟨[(4, .box 0 0), (5, .box 1 0)], [(0, some (.box [.nils, .val (.bool false), .val (.int .i64 0), .val (.int .i64 0), .val (.bool false)])), (1, some (.box [.val (.slice (List.map ApiTier.enc s.1)), .val (.bool s.2.1), .val (.int .i64 s.2.2.1), .val (.int .i64 s.2.2.2.1), .val (.bool s.2.2.2.2)]))], 2⟩ : St)
theorem s_product_Side_j0 (s : ((List ApiTier) × Bool × Int × Int × Bool)) : Sat (cx 17 [.cell 4 76]) (R0 product_Side_E) D0 ((cx 17 [.cell 4 76]).ex (sub b168 [true, true, true]) (product_Side_j0_S s) ((cx 17 [.cell 4 76]).kAt b168 [true, true, true] (k0 (cx 17 [.cell 4 76]).ti (cx 17 [.cell 4 76]).rvs))) (product_Side_j0 s) := by
 delta product_Side_j0
 refine Sat.call (s_slices_Clone_api_Tier_api_Tier s.1) (by kernel_rfl) (fun r => ?_)
 exact Sat.ret0 [true] (by kernel_rfl) (by kernel_rfl)
theorem s_product_Side (p : ApiProduct) (balance : Int) : DoesP Tryz.prog gt 168 [.val (.agg (ApiProduct.enc p)), .val (.int .i64 balance)] product_Side_E (product_Side p balance) := by
 refine does_of (c := (cx 17 [.cell 4 76])) c_ok (fn := Tryz.f168) (code := b168) Tryz.func168 (by kernel_rfl) (by kernel_rfl) (by kernel_rfl) (by kernel_rfl) (by kernel_rfl) ?_
 delta product_Side
 refine Sat.ite (by kernel_rfl) ?_ ?_
 ·exact Sat.cut (s0 := (p.Debit.Tiers, p.Debit.Marginal, p.Debit.Basis, p.Debit.Mode, p.Debit.Keep)) [(4, false), (5, false)] c_ok (by kernel_rfl) (by kernel_rfl) (by kernel_rfl) (by kernel_rfl) (s_product_Side_j0)
 exact Sat.cut (s0 := (p.Credit.Tiers, p.Credit.Marginal, p.Credit.Basis, p.Credit.Mode, p.Credit.Keep)) [(4, false), (5, false)] c_ok (by kernel_rfl) (by kernel_rfl) (by kernel_rfl) (by kernel_rfl) (s_product_Side_j0)
noncomputable def b189 : Code := (Tryz.f189.body).getD .skip
def tier_size_E : Int → List RR := fun r => [.val (.int .i64 r)]
theorem s_tier_size (balance : Int) : DoesP Tryz.prog gt 189 [.val (.int .i64 balance)] tier_size_E (tier_size balance) := by
 refine does_of (c := (cx 9 [.tmp 2])) c_ok (fn := Tryz.f189) (code := b189) Tryz.func189 (by kernel_rfl) (by kernel_rfl) (by kernel_rfl) (by kernel_rfl) (by kernel_rfl) ?_
 delta tier_size
 refine Sat.ite (by kernel_rfl) ?_ ?_
 ·exact Sat.ret0 [true] (by kernel_rfl) (by kernel_rfl)
 exact Sat.ret0 [true] (by kernel_rfl) (by kernel_rfl)
noncomputable def b201 : Code := (Tryz.f201.body).getD .skip
def tier_Check_c1_E : Int → List RR := fun r => [.val (.int .i64 r)]
theorem s_tier_Check_c1 (t : ApiTier) : DoesP Tryz.prog gt 201 [.val (.agg (ApiTier.enc t))] tier_Check_c1_E (tier_Check_c1 t) := by
 refine does_of (c := (cx 5 [.tmp 2])) c_ok (fn := Tryz.f201) (code := b201) Tryz.func201 (by kernel_rfl) (by kernel_rfl) (by kernel_rfl) (by kernel_rfl) (by kernel_rfl) ?_
 delta tier_Check_c1
 exact Sat.ret0 [true] (by kernel_rfl) (by kernel_rfl)
noncomputable def b200 : Code := (Tryz.f200.body).getD .skip
def tier_ascending_api_Tier__tier_Check_c1_E : Bool → List RR := fun r => [.val (.bool r)]
def tier_ascending_api_Tier__tier_Check_c1_l1_S (l : (List ApiTier)) : Int → St := fun s => (⟨[(0, .rv (.val (.slice (List.map ApiTier.enc l)))), (1, .rv (.val (.fn 201 []))), (5, .rv (.val (.int .i64 s)))], [], 0⟩ : St)
theorem s_tier_ascending_api_Tier__tier_Check_c1_l1 (l : (List ApiTier)) (s : Int) : Sat (cx 26 [.tmp 4]) (loopR (R0 tier_ascending_api_Tier__tier_Check_c1_E)) (loopD (cx 26 [.tmp 4]) (R0 tier_ascending_api_Tier__tier_Check_c1_E) D0 (tier_ascending_api_Tier__tier_Check_c1_l1_S l) [(0, false), (1, false), (5, false)] ((cx 26 [.tmp 4]).kAt b200 [true, false, true, false] (k0 (cx 26 [.tmp 4]).ti (cx 26 [.tmp 4]).rvs))) ((cx 26 [.tmp 4]).ex (sub b200 [true, false, true, false, false]) (tier_ascending_api_Tier__tier_Check_c1_l1_S l s) T.done) (tier_ascending_api_Tier__tier_Check_c1_l1 l s) := by
 delta tier_ascending_api_Tier__tier_Check_c1_l1
 refine Sat.ite (by kernel_rfl) ?_ ?_
 ·refine Sat.opt (enc := ApiTier.enc) (by kernel_rfl) (getRow_map _ _ _) (fun li => ?_)
  refine Sat.call (s_tier_Check_c1 li) (by kernel_rfl) (fun r => ?_)
  refine Sat.opt (enc := ApiTier.enc) (by kernel_rfl) (getRow_map _ _ _) (fun li1 => ?_)
  refine Sat.call (s_tier_Check_c1 li1) (by kernel_rfl) (fun r2 => ?_)
  refine Sat.ite (by kernel_rfl) ?_ ?_
  ·refine Sat.retL (D := D0) (A := some false) (by kernel_rfl) ?_
   exact Sat.ret0 [true] (by kernel_rfl) (by kernel_rfl)
  exact Sat.next (by kernel_rfl) (by kernel_rfl)
 refine Sat.out (id := 0) (A := some true) (by kernel_rfl) ?_
 exact Sat.ret0 [true] (by kernel_rfl) (by kernel_rfl)
theorem s_tier_ascending_api_Tier__tier_Check_c1 (l : (List ApiTier)) : DoesP Tryz.prog gt 200 [.val (.slice (List.map ApiTier.enc l)), .val (.fn 201 [])] tier_ascending_api_Tier__tier_Check_c1_E (tier_ascending_api_Tier__tier_Check_c1 l) := by
 refine does_of (c := (cx 26 [.tmp 4])) c_ok (fn := Tryz.f200) (code := b200) Tryz.func200 (by kernel_rfl) (by kernel_rfl) (by kernel_rfl) (by kernel_rfl) (by kernel_rfl) ?_
 delta tier_ascending_api_Tier__tier_Check_c1
 exact Sat.loop (s0 := 1) [(0, false), (1, false), (5, false)] c_ok (by kernel_rfl) (by kernel_rfl) (by kernel_rfl) (by kernel_rfl) (s_tier_ascending_api_Tier__tier_Check_c1_l1 l)
noncomputable def b190 : Code := (Tryz.f190.body).getD .skip
def tier_Check_E : Int → List RR := fun r => [.val (.int .i64 r)]
def tier_Check_l1_S (l : (List ApiTier)) : Int → St := fun s => (⟨[(0, .rv (.val (.slice (List.map ApiTier.enc l)))), (8, .rv (.val (.slice (List.map ApiTier.enc l)))), (9, .rv (.val (.int .i64 ((List.map ApiTier.enc l).length : Int)))), (10, .rv (.val (.int .i64 s)))], [], 0⟩ : St)
theorem s_tier_Check_l1 (l : (List ApiTier)) (s : Int) : Sat (cx 46 [.tmp 2]) (loopR (R0 tier_Check_E)) (loopD (cx 46 [.tmp 2]) (R0 tier_Check_E) D0 (tier_Check_l1_S l) [(0, false), (8, false), (9, false), (10, false)] ((cx 46 [.tmp 2]).kAt b190 [true, true, false, true, false] (k0 (cx 46 [.tmp 2]).ti (cx 46 [.tmp 2]).rvs))) ((cx 46 [.tmp 2]).ex (sub b190 [true, true, false, true, false, false]) (tier_Check_l1_S l s) T.done) (tier_Check_l1 l s) := by
 delta tier_Check_l1
 refine Sat.ite (by kernel_rfl) ?_ ?_
 ·refine Sat.opt (enc := ApiTier.enc) (by kernel_rfl) (getRow_map _ _ _) (fun li => ?_)
  refine Sat.ite (by kernel_rfl) ?_ ?_
  ·refine Sat.retL (D := D0) (A := some 1) (by kernel_rfl) ?_
   exact Sat.ret0 [true] (by kernel_rfl) (by kernel_rfl)
  exact Sat.next (by kernel_rfl) (by kernel_rfl)
 refine Sat.out (id := 0) (by kernel_rfl) ?_
 refine Sat.call (s_tier_ascending_api_Tier__tier_Check_c1 l) (by kernel_rfl) (fun r => ?_)
 refine Sat.ite (by kernel_rfl) ?_ ?_
 ·exact Sat.ret0 [true] (by kernel_rfl) (by kernel_rfl)
 refine Sat.optG (enc := ApiTier.enc) (by kernel_rfl) (getRow_map _ _ _) (fun li1 => ?_)
 refine Sat.ite (by kernel_rfl) ?_ ?_
 ·exact Sat.ret0 [true] (by kernel_rfl) (by kernel_rfl)
 exact Sat.ret0 [true] (by kernel_rfl) (by kernel_rfl)
theorem s_tier_Check (l : (List ApiTier)) : DoesP Tryz.prog gt 190 [.val (.slice (List.map ApiTier.enc l))] tier_Check_E (tier_Check l) := by
 refine does_of (c := (cx 46 [.tmp 2])) c_ok (fn := Tryz.f190) (code := b190) Tryz.func190 (by kernel_rfl) (by kernel_rfl) (by kernel_rfl) (by kernel_rfl) (by kernel_rfl) ?_
 delta tier_Check
 refine Sat.ite (by kernel_rfl) ?_ ?_
 ·exact Sat.ret0 [true] (by kernel_rfl) (by kernel_rfl)
 exact Sat.loop (s0 := 0) [(0, false), (8, false), (9, false), (10, false)] c_ok (by kernel_rfl) (by kernel_rfl) (by kernel_rfl) (by kernel_rfl) (s_tier_Check_l1 l)
noncomputable def b191 : Code := (Tryz.f191.body).getD .skip
def tier_Rate_E : Int → List RR := fun r => [.val (.int .i64 r)]
def tier_Rate_j0_S (l : (List ApiTier)) (balance : Int) (s : (Int × Int)) : Int → St := fun s2 => (⟨[(1, .rv (.val (.int .i64 balance))), (5, .rv (.val (.int .i64 s2))), (11, .rv (.val (.slice (List.map ApiTier.enc l)))), (12, .rv (.val (.int .i64 ((List.map ApiTier.enc l).length : Int)))), (13, .rv (.val (.int .i64 s.2)))], [], 0⟩ : St)
def tier_Rate_l1_S (l : (List ApiTier)) (balance : Int) : (Int × Int) → St := fun s => (⟨[(1, .rv (.val (.int .i64 balance))), (5, .rv (.val (.int .i64 s.1))), (11, .rv (.val (.slice (List.map ApiTier.enc l)))), (12, .rv (.val (.int .i64 ((List.map ApiTier.enc l).length : Int)))), (13, .rv (.val (.int .i64 s.2)))], [], 0⟩ : St)
theorem s_tier_Rate_j0 (l : (List ApiTier)) (balance : Int) (s : (Int × Int)) (s2 : Int) : Sat (cx 26 [.tmp 4]) (loopR (R0 tier_Rate_E)) (loopD (cx 26 [.tmp 4]) (R0 tier_Rate_E) D0 (tier_Rate_l1_S l balance) [(1, false), (5, false), (11, false), (12, false), (13, false)] ((cx 26 [.tmp 4]).kAt b191 [true, true, true, false, true, false] (k0 (cx 26 [.tmp 4]).ti (cx 26 [.tmp 4]).rvs))) ((cx 26 [.tmp 4]).ex (sub b191 [true, true, true, false, true, false, false, true, true, true]) (tier_Rate_j0_S l balance s s2) ((cx 26 [.tmp 4]).kAt b191 [true, true, true, false, true, false, false, true, true, true] (k0 (cx 26 [.tmp 4]).ti (cx 26 [.tmp 4]).rvs))) (tier_Rate_j0 s s2) := by
 delta tier_Rate_j0
 exact Sat.next (by kernel_rfl) (by kernel_rfl)
theorem s_tier_Rate_l1 (l : (List ApiTier)) (balance : Int) (s : (Int × Int)) : Sat (cx 26 [.tmp 4]) (loopR (R0 tier_Rate_E)) (loopD (cx 26 [.tmp 4]) (R0 tier_Rate_E) D0 (tier_Rate_l1_S l balance) [(1, false), (5, false), (11, false), (12, false), (13, false)] ((cx 26 [.tmp 4]).kAt b191 [true, true, true, false, true, false] (k0 (cx 26 [.tmp 4]).ti (cx 26 [.tmp 4]).rvs))) ((cx 26 [.tmp 4]).ex (sub b191 [true, true, true, false, true, false, false]) (tier_Rate_l1_S l balance s) T.done) (tier_Rate_l1 l balance s) := by
 delta tier_Rate_l1
 refine Sat.ite (by kernel_rfl) ?_ ?_
 ·refine Sat.opt (enc := ApiTier.enc) (by kernel_rfl) (getRow_map _ _ _) (fun li => ?_)
  refine Sat.call (s_tier_size balance) (by kernel_rfl) (fun r1 => ?_)
  refine Sat.ite (by kernel_rfl) ?_ ?_
  ·exact Sat.cut (s0 := li.Ppm) [(1, false), (5, false), (11, false), (12, false), (13, false)] c_ok (by kernel_rfl) (by kernel_rfl) (by kernel_rfl) (by kernel_rfl) (s_tier_Rate_j0 l balance s)
  exact Sat.cut (s0 := s.1) [(1, false), (5, false), (11, false), (12, false), (13, false)] c_ok (by kernel_rfl) (by kernel_rfl) (by kernel_rfl) (by kernel_rfl) (s_tier_Rate_j0 l balance s)
 refine Sat.out (id := 0) (A := some s.1) (by kernel_rfl) ?_
 exact Sat.ret0 [true] (by kernel_rfl) (by kernel_rfl)
theorem s_tier_Rate (l : (List ApiTier)) (balance : Int) : DoesP Tryz.prog gt 191 [.val (.slice (List.map ApiTier.enc l)), .val (.int .i64 balance)] tier_Rate_E (tier_Rate l balance) := by
 refine does_of (c := (cx 26 [.tmp 4])) c_ok (fn := Tryz.f191) (code := b191) Tryz.func191 (by kernel_rfl) (by kernel_rfl) (by kernel_rfl) (by kernel_rfl) (by kernel_rfl) ?_
 delta tier_Rate
 refine Sat.call (s_tier_Check l) (by kernel_rfl) (fun r => ?_)
 refine Sat.ite (by kernel_rfl) ?_ ?_
 ·exact Sat.ret0 [true] (by kernel_rfl) (by kernel_rfl)
 exact Sat.loop (s0 := (0, 0)) [(1, false), (5, false), (11, false), (12, false), (13, false)] c_ok (by kernel_rfl) (by kernel_rfl) (by kernel_rfl) (by kernel_rfl) (s_tier_Rate_l1 l balance)
noncomputable def b169 : Code := (Tryz.f169.body).getD .skip
def tier_Slices_E : (List ApiSlice) → List RR := fun r => [.own 212 (List.map ApiSlice.enc r)]
def tier_Slices_j0_S (l : (List ApiTier)) (r : Int) (s : (Int × (List ApiSlice))) : (List ApiSlice) → St := fun s5 => (⟨[(0, .rv (.val (.slice (List.map ApiTier.enc l)))), (7, .rv (.val (.int .i64 r))), (8, .rv (.own 0)), (34, .rv (.val (.slice (List.map ApiTier.enc l)))), (35, .rv (.val (.int .i64 ((List.map ApiTier.enc l).length : Int)))), (36, .rv (.val (.int .i64 s.1)))], [(0, some (.vec 212 (List.map ApiSlice.enc s5)))], 1⟩ : St)
def tier_Slices_j1_S (l : (List ApiTier)) (r : Int) (s : (Int × (List ApiSlice))) (li : ApiTier) : Int → St := fun s4 => (⟨[(0, .rv (.val (.slice (List.map ApiTier.enc l)))), (7, .rv (.val (.int .i64 r))), (8, .rv (.own 0)), (10, .box 1 0), (11, .rv (.val (.int .i64 s4))), (34, .rv (.val (.slice (List.map ApiTier.enc l)))), (35, .rv (.val (.int .i64 ((List.map ApiTier.enc l).length : Int)))), (36, .rv (.val (.int .i64 s.1)))], [(0, some (.vec 212 (List.map ApiSlice.enc s.2))), (1, some (.box [.val (.int .i64 li.From), .val (.int .i64 li.Ppm)]))], 2⟩ : St)
def tier_Slices_l1_S (l : (List ApiTier)) (r : Int) : (Int × (List ApiSlice)) → St := fun s => (⟨[(0, .rv (.val (.slice (List.map ApiTier.enc l)))), (7, .rv (.val (.int .i64 r))), (8, .rv (.own 0)), (34, .rv (.val (.slice (List.map ApiTier.enc l)))), (35, .rv (.val (.int .i64 ((List.map ApiTier.enc l).length : Int)))), (36, .rv (.val (.int .i64 s.1)))], [(0, some (.vec 212 (List.map ApiSlice.enc s.2)))], 1⟩ : St)
theorem s_tier_Slices_j0 (l : (List ApiTier)) (r : Int) (s : (Int × (List ApiSlice))) (s5 : (List ApiSlice)) : Sat (cx 71 [.tmp 6]) (loopR (R0 tier_Slices_E)) (loopD (cx 71 [.tmp 6]) (R0 tier_Slices_E) D0 (tier_Slices_l1_S l r) [(0, false), (7, false), (8, false), (34, false), (35, false), (36, false)] ((cx 71 [.tmp 6]).kAt b169 [true, true, true, true, true, false, true, false] (k0 (cx 71 [.tmp 6]).ti (cx 71 [.tmp 6]).rvs))) ((cx 71 [.tmp 6]).ex (sub b169 [true, true, true, true, true, false, true, false, false, true, true, true]) (tier_Slices_j0_S l r s s5) ((cx 71 [.tmp 6]).kAt b169 [true, true, true, true, true, false, true, false, false, true, true, true] (k0 (cx 71 [.tmp 6]).ti (cx 71 [.tmp 6]).rvs))) (tier_Slices_j0 s s5) := by
 delta tier_Slices_j0
 exact Sat.next (by kernel_rfl) (by kernel_rfl)
theorem s_tier_Slices_j1 (l : (List ApiTier)) (r : Int) (s : (Int × (List ApiSlice))) (li : ApiTier) (s4 : Int) : Sat (cx 71 [.tmp 6]) (loopR (R0 tier_Slices_E)) (loopD (cx 71 [.tmp 6]) (R0 tier_Slices_E) D0 (tier_Slices_l1_S l r) [(0, false), (7, false), (8, false), (34, false), (35, false), (36, false)] ((cx 71 [.tmp 6]).kAt b169 [true, true, true, true, true, false, true, false] (k0 (cx 71 [.tmp 6]).ti (cx 71 [.tmp 6]).rvs))) ((cx 71 [.tmp 6]).ex (sub b169 [true, true, true, true, true, false, true, false, false, true, true, false, false, true, true, true]) (tier_Slices_j1_S l r s li s4) ((cx 71 [.tmp 6]).kAt b169 [true, true, true, true, true, false, true, false, false, true, true, false, false, true, true, true] (k0 (cx 71 [.tmp 6]).ti (cx 71 [.tmp 6]).rvs))) (tier_Slices_j1 s li s4) := by
 delta tier_Slices_j1
 refine Sat.ite (by kernel_rfl) ?_ ?_
 ·refine Sat.need (g := true) (p := ((List.map ApiSlice.enc s.2).length + (List.map ApiSlice.enc ([(⟨(IntKind.wrap .i64 (s4 - li.From)), li.Ppm⟩ : ApiSlice)])).length) * 16 ≤ 140737488355328) (by kernel_rfl) (fun h _ => by simpa [sliceRows_map, List.length_set] using h) ?_
  exact Sat.cut (s0 := (s.2 ++ ([(⟨(IntKind.wrap .i64 (s4 - li.From)), li.Ppm⟩ : ApiSlice)]))) [(0, false), (7, false), (8, false), (34, false), (35, false), (36, false)] c_ok (by kernel_rfl) (Eq.trans (b := (⟨[(0, .rv (.val (.slice (List.map ApiTier.enc l)))), (7, .rv (.val (.int .i64 r))), (8, .rv (.own 0)), (34, .rv (.val (.slice (List.map ApiTier.enc l)))), (35, .rv (.val (.int .i64 ((List.map ApiTier.enc l).length : Int)))), (36, .rv (.val (.int .i64 s.1)))], [(0, some (.vec 212 ((List.map ApiSlice.enc s.2) ++ (List.map ApiSlice.enc ([(⟨(IntKind.wrap .i64 (s4 - li.From)), li.Ppm⟩ : ApiSlice)])))))], 1⟩ : St)) (by kernel_rfl) (by simp [tier_Slices_j0_S, ApiSlice.enc, List.map_append, List.map_set, List.map_take, List.map_drop, sliceRows_map, List.map_replicate, eInt, eBool, eStr])) (by kernel_rfl) (by kernel_rfl) (s_tier_Slices_j0 l r s)
 exact Sat.cut (s0 := s.2) [(0, false), (7, false), (8, false), (34, false), (35, false), (36, false)] c_ok (by kernel_rfl) (by kernel_rfl) (by kernel_rfl) (by kernel_rfl) (s_tier_Slices_j0 l r s)
theorem s_tier_Slices_l1 (l : (List ApiTier)) (r : Int) (s : (Int × (List ApiSlice))) : Sat (cx 71 [.tmp 6]) (loopR (R0 tier_Slices_E)) (loopD (cx 71 [.tmp 6]) (R0 tier_Slices_E) D0 (tier_Slices_l1_S l r) [(0, false), (7, false), (8, false), (34, false), (35, false), (36, false)] ((cx 71 [.tmp 6]).kAt b169 [true, true, true, true, true, false, true, false] (k0 (cx 71 [.tmp 6]).ti (cx 71 [.tmp 6]).rvs))) ((cx 71 [.tmp 6]).ex (sub b169 [true, true, true, true, true, false, true, false, false]) (tier_Slices_l1_S l r s) T.done) (tier_Slices_l1 l r s) := by
 delta tier_Slices_l1
 refine Sat.ite (by kernel_rfl) ?_ ?_
 ·refine Sat.opt (enc := ApiTier.enc) (by kernel_rfl) (getRow_map _ _ _) (fun li => ?_)
  refine Sat.ite (by kernel_rfl) ?_ ?_
  ·refine Sat.opt (enc := ApiTier.enc) (by kernel_rfl) (getRow_map _ _ _) (fun li3 => ?_)
   exact Sat.cut (s0 := (if li3.From < r then li3.From else r)) [(0, false), (7, false), (8, false), (10, false), (11, false), (34, false), (35, false), (36, false)] c_ok (by kernel_rfl) (by kernel_rfl) (by kernel_rfl) (by kernel_rfl) (s_tier_Slices_j1 l r s li)
  exact Sat.cut (s0 := r) [(0, false), (7, false), (8, false), (10, false), (11, false), (34, false), (35, false), (36, false)] c_ok (by kernel_rfl) (by kernel_rfl) (by kernel_rfl) (by kernel_rfl) (s_tier_Slices_j1 l r s li)
 refine Sat.out (id := 0) (A := some s.2) (by kernel_rfl) ?_
 exact Sat.ret0 [false] (by kernel_rfl) (by kernel_rfl)
theorem s_tier_Slices (l : (List ApiTier)) (marginal : Bool) (balance : Int) : DoesP Tryz.prog gt 169 [.val (.slice (List.map ApiTier.enc l)), .val (.bool marginal), .val (.int .i64 balance)] tier_Slices_E (tier_Slices l marginal balance) := by
 refine does_of (c := (cx 71 [.tmp 6])) c_ok (fn := Tryz.f169) (code := b169) Tryz.func169 (by kernel_rfl) (by kernel_rfl) (by kernel_rfl) (by kernel_rfl) (by kernel_rfl) ?_
 delta tier_Slices
 refine Sat.call (s_tier_size balance) (by kernel_rfl) (fun r => ?_)
 refine Sat.callG (s_tier_Check l) (by kernel_rfl) (fun r1 => ?_)
 refine Sat.ite (by kernel_rfl) ?_ ?_
 ·exact Sat.ret0 [false] (by kernel_rfl) (by kernel_rfl)
 refine Sat.ite (by kernel_rfl) ?_ ?_
 ·refine Sat.call (s_tier_Rate l balance) (by kernel_rfl) (fun r2 => ?_)
  exact Sat.ret0 [false] (by kernel_rfl) (by kernel_rfl)
 exact Sat.loop (s0 := (0, [])) [(0, false), (7, false), (8, false), (34, false), (35, false), (36, false)] c_ok (by kernel_rfl) (by kernel_rfl) (by kernel_rfl) (by kernel_rfl) (s_tier_Slices_l1 l r)
noncomputable def b202 : Code := (Tryz.f202.body).getD .skip
def date_begin_E : Int → List RR := fun r => [.val (.int .i64 r)]
def date_begin_j0_S (year : Int) : Int → St := fun s => (⟨[(3, .rv (.val (.int .i64 (IntKind.wrap .i64 (year - 2000))))), (4, .rv (.val (.int .i64 s)))], [], 0⟩ : St)
theorem s_date_begin_j0 (year : Int) (s : Int) : Sat (cx 18 [.tmp 2]) (R0 date_begin_E) D0 ((cx 18 [.tmp 2]).ex (sub b202 [true, true, true, true]) (date_begin_j0_S year s) ((cx 18 [.tmp 2]).kAt b202 [true, true, true, true] (k0 (cx 18 [.tmp 2]).ti (cx 18 [.tmp 2]).rvs))) (date_begin_j0 year s) := by
 delta date_begin_j0
 exact Sat.ret0 [true] (by kernel_rfl) (by kernel_rfl)
theorem s_date_begin (year : Int) : DoesP Tryz.prog gt 202 [.val (.int .i64 year)] date_begin_E (date_begin year) := by
 refine does_of (c := (cx 18 [.tmp 2])) c_ok (fn := Tryz.f202) (code := b202) Tryz.func202 (by kernel_rfl) (by kernel_rfl) (by kernel_rfl) (by kernel_rfl) (by kernel_rfl) ?_
 delta date_begin
 refine Sat.need0 (g := true) (p := 4 ≠ (0 : Int)) (by kernel_rfl) (by decide) ?_
 refine Sat.ite (by kernel_rfl) ?_ ?_
 ·exact Sat.cut (s0 := (IntKind.wrap .i64 ((IntKind.wrap .i64 ((IntKind.wrap .i64 ((IntKind.wrap .i64 (year - 2000)) + 3)).tdiv 4)) - 1))) [(3, false), (4, false)] c_ok (by kernel_rfl) (by kernel_rfl) (by kernel_rfl) (by kernel_rfl) (s_date_begin_j0 year)
 exact Sat.cut (s0 := (IntKind.wrap .i64 ((IntKind.wrap .i64 ((IntKind.wrap .i64 (year - 2000)) + 3)).tdiv 4))) [(3, false), (4, false)] c_ok (by kernel_rfl) (by kernel_rfl) (by kernel_rfl) (by kernel_rfl) (s_date_begin_j0 year)
noncomputable def b194 : Code := (Tryz.f194.body).getD .skip
def date_Leap_E : Bool → List RR := fun r => [.val (.bool r)]
theorem s_date_Leap (year : Int) : DoesP Tryz.prog gt 194 [.val (.int .i64 year)] date_Leap_E (date_Leap year) := by
 refine does_of (c := (cx 16 [.tmp 2])) c_ok (fn := Tryz.f194) (code := b194) Tryz.func194 (by kernel_rfl) (by kernel_rfl) (by kernel_rfl) (by kernel_rfl) (by kernel_rfl) ?_
 delta date_Leap
 refine Sat.need0 (g := true) (p := 4 ≠ (0 : Int)) (by kernel_rfl) (by decide) ?_
 refine Sat.need0 (g := ((((year.tmod 4) == 0) == true) && true)) (p := 100 ≠ (0 : Int)) (by kernel_rfl) (by decide) ?_
 refine Sat.need0 (g := ((((year.tmod 100) != 0) == false) && ((((year.tmod 4) == 0) == true) && true))) (p := 400 ≠ (0 : Int)) (by kernel_rfl) (by decide) ?_
 exact Sat.ret0 [true] (by kernel_rfl) (by kernel_rfl)
noncomputable def b203 : Code := (Tryz.f203.body).getD .skip
def date_length_E : Int → List RR := fun r => [.val (.int .i64 r)]
theorem s_date_length (year : Int) (month : Int) : DoesP Tryz.prog gt 203 [.val (.int .i64 year), .val (.int .i64 month)] date_length_E (date_length year month) := by
 refine does_of (c := (cx 16 [.tmp 4])) c_ok (fn := Tryz.f203) (code := b203) Tryz.func203 (by kernel_rfl) (by kernel_rfl) (by kernel_rfl) (by kernel_rfl) (by kernel_rfl) ?_
 delta date_length
 refine Sat.callG (s_date_Leap year) (by kernel_rfl) (fun r => ?_)
 refine Sat.ite (by kernel_rfl) ?_ ?_
 ·exact Sat.ret0 [true] (by kernel_rfl) (by kernel_rfl)
 refine Sat.needH (g := true) (p := (0 : Int) ≤ month ∧ month < ((13 : Nat) : Int)) (by kernel_rfl) (fun h _ => h) (fun hq => ?_)
 refine Sat.opt (x := getI ([0, 31, 28, 31, 30, 31, 30, 31, 31, 30, 31, 30, 31] : List Int) month) (enc := (eInt .i64)) (by kernel_rfl) (getPart_arr 1 (cells := [.int .i64 0, .int .i64 31, .int .i64 28, .int .i64 31, .int .i64 30, .int .i64 31, .int .i64 30, .int .i64 31, .int .i64 31, .int .i64 30, .int .i64 31, .int .i64 30, .int .i64 31]) rfl (fun _ => rfl) _ hq.1 (by decide)) (fun a => ?_)
 exact Sat.ret0 [true] (by kernel_rfl) (by kernel_rfl)
noncomputable def b193 : Code := (Tryz.f193.body).getD .skip
def date_Civil_E : (Int × Int × Int) → List RR := fun r => [.val (.int .i64 r.1), .val (.int .i64 r.2.1), .val (.int .i64 r.2.2)]
def date_Civil_l2_S (s : Int) : (Int × Int) → St := fun s3 => (⟨[(0, .rv (.val (.int .i64 s3.1))), (5, .rv (.val (.int .i64 s))), (6, .rv (.val (.int .i64 s3.2)))], [], 0⟩ : St)
def date_Civil_l1_S (day : Int) : Int → St := fun s => (⟨[(0, .rv (.val (.int .i64 day))), (5, .rv (.val (.int .i64 s)))], [], 0⟩ : St)
theorem s_date_Civil_l2 (s : Int) (s3 : (Int × Int)) : Sat (cx 40 [.tmp 2, .tmp 3, .tmp 4]) (loopR (R0 date_Civil_E)) (loopD (cx 40 [.tmp 2, .tmp 3, .tmp 4]) (R0 date_Civil_E) D0 (date_Civil_l2_S s) [(0, false), (5, false), (6, false)] ((cx 40 [.tmp 2, .tmp 3, .tmp 4]).kAt b193 [true, true, true, true, true, true, false, false] (k0 (cx 40 [.tmp 2, .tmp 3, .tmp 4]).ti (cx 40 [.tmp 2, .tmp 3, .tmp 4]).rvs))) ((cx 40 [.tmp 2, .tmp 3, .tmp 4]).ex (sub b193 [true, true, true, true, true, true, false, false, false]) (date_Civil_l2_S s s3) T.done) (date_Civil_l2 s s3) := by
 delta date_Civil_l2
 refine Sat.call (s_date_length s s3.2) (by kernel_rfl) (fun r4 => ?_)
 refine Sat.ite (by kernel_rfl) ?_ ?_
 ·refine Sat.call (s_date_length s s3.2) (by kernel_rfl) (fun r5 => ?_)
  exact Sat.next (by kernel_rfl) (by kernel_rfl)
 refine Sat.out (id := 2) (A := some (s, s3.2, (IntKind.wrap .i64 (s3.1 + 1)))) (by kernel_rfl) ?_
 exact Sat.ret0 [true, true, true] (by kernel_rfl) (by kernel_rfl)
theorem s_date_Civil_l1 (day : Int) (s : Int) : Sat (cx 40 [.tmp 2, .tmp 3, .tmp 4]) (loopR (R0 date_Civil_E)) (loopD (cx 40 [.tmp 2, .tmp 3, .tmp 4]) (R0 date_Civil_E) D0 (date_Civil_l1_S day) [(0, false), (5, false)] ((cx 40 [.tmp 2, .tmp 3, .tmp 4]).kAt b193 [true, true, true, false, false] (k0 (cx 40 [.tmp 2, .tmp 3, .tmp 4]).ti (cx 40 [.tmp 2, .tmp 3, .tmp 4]).rvs))) ((cx 40 [.tmp 2, .tmp 3, .tmp 4]).ex (sub b193 [true, true, true, false, false, false]) (date_Civil_l1_S day s) T.done) (date_Civil_l1 day s) := by
 delta date_Civil_l1
 refine Sat.call (s_date_begin (IntKind.wrap .i64 (s + 1))) (by kernel_rfl) (fun r1 => ?_)
 refine Sat.ite (by kernel_rfl) ?_ ?_
 ·exact Sat.next (by kernel_rfl) (by kernel_rfl)
 refine Sat.out (id := 0) (by kernel_rfl) ?_
 refine Sat.call (s_date_begin s) (by kernel_rfl) (fun r2 => ?_)
 exact Sat.loop (s0 := ((IntKind.wrap .i64 (day - r2)), 1)) [(0, false), (5, false), (6, false)] c_ok (by kernel_rfl) (by kernel_rfl) (by kernel_rfl) (by kernel_rfl) (s_date_Civil_l2 s)
theorem s_date_Civil (day : Int) : DoesP Tryz.prog gt 193 [.val (.int .i64 day)] date_Civil_E (date_Civil day) := by
 refine does_of (c := (cx 40 [.tmp 2, .tmp 3, .tmp 4])) c_ok (fn := Tryz.f193) (code := b193) Tryz.func193 (by kernel_rfl) (by kernel_rfl) (by kernel_rfl) (by kernel_rfl) (by kernel_rfl) ?_
 delta date_Civil
 refine Sat.call (s_date_Valid day) (by kernel_rfl) (fun r => ?_)
 refine Sat.ite (by kernel_rfl) ?_ ?_
 ·exact Sat.ret0 [true, true, true] (by kernel_rfl) (by kernel_rfl)
 refine Sat.need0 (g := true) (p := 366 ≠ (0 : Int)) (by kernel_rfl) (by decide) ?_
 exact Sat.loop (s0 := (IntKind.wrap .i64 (2000 + (IntKind.wrap .i64 (day.tdiv 366))))) [(0, false), (5, false)] c_ok (by kernel_rfl) (by kernel_rfl) (by kernel_rfl) (by kernel_rfl) (s_date_Civil_l1 day)
noncomputable def b195 : Code := (Tryz.f195.body).getD .skip
def daycount_Thirty_E : Int → List RR := fun r => [.val (.int .i64 r)]
theorem s_daycount_Thirty (from' : Int) (to' : Int) : DoesP Tryz.prog gt 195 [.val (.int .i64 from'), .val (.int .i64 to')] daycount_Thirty_E (daycount_Thirty from' to') := by
 refine does_of (c := (cx 46 [.tmp 4])) c_ok (fn := Tryz.f195) (code := b195) Tryz.func195 (by kernel_rfl) (by kernel_rfl) (by kernel_rfl) (by kernel_rfl) (by kernel_rfl) ?_
 delta daycount_Thirty
 refine Sat.call (s_date_Valid from') (by kernel_rfl) (fun r => ?_)
 refine Sat.callG (s_date_Valid to') (by kernel_rfl) (fun r1 => ?_)
 refine Sat.ite (by kernel_rfl) ?_ ?_
 ·exact Sat.ret0 [true] (by kernel_rfl) (by kernel_rfl)
 refine Sat.call (s_date_Civil from') (by kernel_rfl) (fun r2 => ?_)
 refine Sat.call (s_date_Civil to') (by kernel_rfl) (fun r3 => ?_)
 exact Sat.ret0 [true] (by kernel_rfl) (by kernel_rfl)
noncomputable def b171 : Code := (Tryz.f171.body).getD .skip
def daycount_Weight_E : Int → List RR := fun r => [.val (.int .i64 r)]
def daycount_Weight_j0_S : Unit → St := fun s => (⟨[], [], 0⟩ : St)
def daycount_Weight_j1_S : Int → St := fun s4 => (⟨[(8, .rv (.val (.int .i64 s4)))], [], 0⟩ : St)
theorem s_daycount_Weight_j0 (s : Unit) : Sat (cx 35 [.tmp 4]) (R0 daycount_Weight_E) D0 ((cx 35 [.tmp 4]).ex (sub b171 [true, true, true, true, false, true, false, false, false, false, false, true]) (daycount_Weight_j0_S s) ((cx 35 [.tmp 4]).kAt b171 [true, true, true, true, false, true, false, false, false, false, false, true] (k0 (cx 35 [.tmp 4]).ti (cx 35 [.tmp 4]).rvs))) (daycount_Weight_j0 s) := by
 delta daycount_Weight_j0
 exact Sat.ret0 [true] (by kernel_rfl) (by kernel_rfl)
theorem s_daycount_Weight_j1 (s4 : Int) : Sat (cx 35 [.tmp 4]) (R0 daycount_Weight_E) D0 ((cx 35 [.tmp 4]).ex (sub b171 [true, true, true, true, false, true, false, true]) (daycount_Weight_j1_S s4) ((cx 35 [.tmp 4]).kAt b171 [true, true, true, true, false, true, false, true] (k0 (cx 35 [.tmp 4]).ti (cx 35 [.tmp 4]).rvs))) (daycount_Weight_j1 s4) := by
 delta daycount_Weight_j1
 exact Sat.ret0 [true] (by kernel_rfl) (by kernel_rfl)
theorem s_daycount_Weight (basis : Int) (day : Int) : DoesP Tryz.prog gt 171 [.val (.int .i64 basis), .val (.int .i64 day)] daycount_Weight_E (daycount_Weight basis day) := by
 refine does_of (c := (cx 35 [.tmp 4])) c_ok (fn := Tryz.f171) (code := b171) Tryz.func171 (by kernel_rfl) (by kernel_rfl) (by kernel_rfl) (by kernel_rfl) (by kernel_rfl) ?_
 delta daycount_Weight
 refine Sat.call (s_date_Valid day) (by kernel_rfl) (fun r => ?_)
 refine Sat.ite (by kernel_rfl) ?_ ?_
 ·exact Sat.ret0 [true] (by kernel_rfl) (by kernel_rfl)
 refine Sat.call (s_date_Civil day) (by kernel_rfl) (fun r1 => ?_)
 refine Sat.ite (by kernel_rfl) ?_ ?_
 ·refine Sat.call (s_date_Leap r1.1) (by kernel_rfl) (fun r2 => ?_)
  refine Sat.ite (by kernel_rfl) ?_ ?_
  ·exact Sat.ret0 [true] (by kernel_rfl) (by kernel_rfl)
  exact Sat.cut (s0 := ()) [] c_ok (by kernel_rfl) (by kernel_rfl) (by kernel_rfl) (by kernel_rfl) (s_daycount_Weight_j0)
 refine Sat.ite (by kernel_rfl) ?_ ?_
 ·exact Sat.cut (s0 := ()) [] c_ok (by kernel_rfl) (by kernel_rfl) (by kernel_rfl) (by kernel_rfl) (s_daycount_Weight_j0)
 refine Sat.ite (by kernel_rfl) ?_ ?_
 ·refine Sat.call (s_daycount_Thirty day (IntKind.wrap .i64 (day + 1))) (by kernel_rfl) (fun r3 => ?_)
  exact Sat.cut (s0 := r3) [(8, false)] c_ok (by kernel_rfl) (by kernel_rfl) (by kernel_rfl) (by kernel_rfl) (s_daycount_Weight_j1)
 refine Sat.ite (by kernel_rfl) ?_ ?_
 ·exact Sat.cut (s0 := 1) [(8, false)] c_ok (by kernel_rfl) (by kernel_rfl) (by kernel_rfl) (by kernel_rfl) (s_daycount_Weight_j1)
 exact Sat.ret0 [true] (by kernel_rfl) (by kernel_rfl)
noncomputable def b145 : Code := (Tryz.f145.body).getD .skip
def wide_abs_E : Int → List RR := fun r => [.val (.int .u64 r)]
theorem s_wide_abs (n : Int) : DoesP Tryz.prog gt 145 [.val (.int .i64 n)] wide_abs_E (wide_abs n) := by
 refine does_of (c := (cx 10 [.tmp 2])) c_ok (fn := Tryz.f145) (code := b145) Tryz.func145 (by kernel_rfl) (by kernel_rfl) (by kernel_rfl) (by kernel_rfl) (by kernel_rfl) ?_
 delta wide_abs
 refine Sat.ite (by kernel_rfl) ?_ ?_
 ·exact Sat.ret0 [true] (by kernel_rfl) (by kernel_rfl)
 exact Sat.ret0 [true] (by kernel_rfl) (by kernel_rfl)
noncomputable def b144 : Code := (Tryz.f144.body).getD .skip
def math_bits_Mul64_E : (Int × Int) → List RR := fun r => [.val (.int .u64 r.1), .val (.int .u64 r.2)]
theorem s_math_bits_Mul64 (x : Int) (y : Int) : DoesP Tryz.prog gt 144 [.val (.int .u64 x), .val (.int .u64 y)] math_bits_Mul64_E (math_bits_Mul64 x y) := by
 refine does_of (c := (cx 51 [.tmp 4, .tmp 5])) c_ok (fn := Tryz.f144) (code := b144) Tryz.func144 (by kernel_rfl) (by kernel_rfl) (by kernel_rfl) (by kernel_rfl) (by kernel_rfl) ?_
 delta math_bits_Mul64
 refine Sat.need0 (g := true) (p := (0 : Int) ≤ 32) (by kernel_rfl) (by decide) ?_
 refine Sat.need0 (g := true) (p := (0 : Int) ≤ 32) (by kernel_rfl) (by decide) ?_
 refine Sat.need0 (g := true) (p := (0 : Int) ≤ 32) (by kernel_rfl) (by decide) ?_
 refine Sat.need0 (g := true) (p := (0 : Int) ≤ 32) (by kernel_rfl) (by decide) ?_
 refine Sat.need0 (g := true) (p := (0 : Int) ≤ 32) (by kernel_rfl) (by decide) ?_
 exact Sat.ret0 [true, true] (by kernel_rfl) (by kernel_rfl)
def bitsAdd64_E : (Int × Int) → List RR := fun r => [.val (.int .u64 r.1), .val (.int .u64 r.2)]
theorem s_bitsAdd64 (x y c : Int) : DoesP Tryz.prog gt 138 [.val (.int .u64 x), .val (.int .u64 y), .val (.int .u64 c)] bitsAdd64_E (bitsAdd64 x y c) :=
 does_bitsAdd64 Tryz.func138 (by kernel_rfl) (by kernel_rfl) (by kernel_rfl) (by kernel_rfl)
noncomputable def b146 : Code := (Tryz.f146.body).getD .skip
def wide_negate_E : ApiWide → List RR := fun r => [.val (.agg (ApiWide.enc r))]
theorem s_wide_negate (a : ApiWide) : DoesP Tryz.prog gt 146 [.val (.agg (ApiWide.enc a))] wide_negate_E (wide_negate a) := by
 refine does_of (c := (cx 21 [.cell 2 49])) c_ok (fn := Tryz.f146) (code := b146) Tryz.func146 (by kernel_rfl) (by kernel_rfl) (by kernel_rfl) (by kernel_rfl) (by kernel_rfl) ?_
 delta wide_negate
 refine Sat.call (s_bitsAdd64 (bitsI .xor .u64 18446744073709551615 a.Lo) 1 0) (by kernel_rfl) (fun r => ?_)
 exact Sat.ret0 [true] (by kernel_rfl) (by kernel_rfl)
noncomputable def b115 : Code := (Tryz.f115.body).getD .skip
def wide_Mul_E : ApiWide → List RR := fun r => [.val (.agg (ApiWide.enc r))]
def wide_Mul_j0_S : (Int × Int) → St := fun s => (⟨[(4, .box 0 0), (7, .box 1 0)], [(0, some (.box [.val (.int .i64 0), .val (.int .u64 0)])), (1, some (.box [.val (.int .i64 s.1), .val (.int .u64 s.2)]))], 2⟩ : St)
theorem s_wide_Mul_j0 (s : (Int × Int)) : Sat (cx 28 [.cell 4 49]) (R0 wide_Mul_E) D0 ((cx 28 [.cell 4 49]).ex (sub b115 [true, true, true, true]) (wide_Mul_j0_S s) ((cx 28 [.cell 4 49]).kAt b115 [true, true, true, true] (k0 (cx 28 [.cell 4 49]).ti (cx 28 [.cell 4 49]).rvs))) (wide_Mul_j0 s) := by
 delta wide_Mul_j0
 exact Sat.ret0 [true] (by kernel_rfl) (by kernel_rfl)
theorem s_wide_Mul (a : Int) (b : Int) : DoesP Tryz.prog gt 115 [.val (.int .i64 a), .val (.int .i64 b)] wide_Mul_E (wide_Mul a b) := by
 refine does_of (c := (cx 28 [.cell 4 49])) c_ok (fn := Tryz.f115) (code := b115) Tryz.func115 (by kernel_rfl) (by kernel_rfl) (by kernel_rfl) (by kernel_rfl) (by kernel_rfl) ?_
 delta wide_Mul
 refine Sat.call (s_wide_abs a) (by kernel_rfl) (fun r => ?_)
 refine Sat.call (s_wide_abs b) (by kernel_rfl) (fun r1 => ?_)
 refine Sat.call (s_math_bits_Mul64 r r1) (by kernel_rfl) (fun r2 => ?_)
 refine Sat.ite (by kernel_rfl) ?_ ?_
 ·refine Sat.call (s_wide_negate (⟨(IntKind.wrap .i64 r2.1), r2.2⟩ : ApiWide)) (by kernel_rfl) (fun r3 => ?_)
  exact Sat.cut (s0 := (r3.Hi, r3.Lo)) [(4, false), (7, false)] c_ok (by kernel_rfl) (by kernel_rfl) (by kernel_rfl) (by kernel_rfl) (s_wide_Mul_j0)
 exact Sat.cut (s0 := ((IntKind.wrap .i64 r2.1), r2.2)) [(4, false), (7, false)] c_ok (by kernel_rfl) (by kernel_rfl) (by kernel_rfl) (by kernel_rfl) (s_wide_Mul_j0)
noncomputable def b173 : Code := (Tryz.f173.body).getD .skip
def wide_absolute_E : WideSize → List RR := fun r => [.val (.agg (WideSize.enc r))]
def wide_absolute_j0_S : (Int × Int) → St := fun s => (⟨[(1, .box 0 0), (2, .box 1 0)], [(0, some (.box [.val (.int .i64 s.1), .val (.int .u64 s.2)])), (1, some (.box [.val (.int .u64 0), .val (.int .u64 0)]))], 2⟩ : St)
theorem s_wide_absolute_j0 (s : (Int × Int)) : Sat (cx 14 [.cell 2 235]) (R0 wide_absolute_E) D0 ((cx 14 [.cell 2 235]).ex (sub b173 [true, true]) (wide_absolute_j0_S s) ((cx 14 [.cell 2 235]).kAt b173 [true, true] (k0 (cx 14 [.cell 2 235]).ti (cx 14 [.cell 2 235]).rvs))) (wide_absolute_j0 s) := by
 delta wide_absolute_j0
 exact Sat.ret0 [true] (by kernel_rfl) (by kernel_rfl)
theorem s_wide_absolute (a : ApiWide) : DoesP Tryz.prog gt 173 [.val (.agg (ApiWide.enc a))] wide_absolute_E (wide_absolute a) := by
 refine does_of (c := (cx 14 [.cell 2 235])) c_ok (fn := Tryz.f173) (code := b173) Tryz.func173 (by kernel_rfl) (by kernel_rfl) (by kernel_rfl) (by kernel_rfl) (by kernel_rfl) ?_
 delta wide_absolute
 refine Sat.ite (by kernel_rfl) ?_ ?_
 ·refine Sat.call (s_wide_negate a) (by kernel_rfl) (fun r => ?_)
  exact Sat.cut (s0 := (r.Hi, r.Lo)) [(1, false), (2, false)] c_ok (by kernel_rfl) (by kernel_rfl) (by kernel_rfl) (by kernel_rfl) (s_wide_absolute_j0)
 exact Sat.cut (s0 := (a.Hi, a.Lo)) [(1, false), (2, false)] c_ok (by kernel_rfl) (by kernel_rfl) (by kernel_rfl) (by kernel_rfl) (s_wide_absolute_j0)
noncomputable def b175 : Code := (Tryz.f175.body).getD .skip
def wide_size_times_E : (WideSize × Bool) → List RR := fun r => [.val (.agg (WideSize.enc r.1)), .val (.bool r.2)]
theorem s_wide_size_times (s : WideSize) (n : Int) (more : Int) : DoesP Tryz.prog gt 175 [.val (.agg (WideSize.enc s)), .val (.int .u64 n), .val (.int .u64 more)] wide_size_times_E (wide_size_times s n more) := by
 refine does_of (c := (cx 51 [.cell 6 235, .tmp 7])) c_ok (fn := Tryz.f175) (code := b175) Tryz.func175 (by kernel_rfl) (by kernel_rfl) (by kernel_rfl) (by kernel_rfl) (by kernel_rfl) ?_
 delta wide_size_times
 refine Sat.call (s_math_bits_Mul64 s.lo n) (by kernel_rfl) (fun r => ?_)
 refine Sat.call (s_math_bits_Mul64 s.hi n) (by kernel_rfl) (fun r1 => ?_)
 refine Sat.call (s_bitsAdd64 r.2 more 0) (by kernel_rfl) (fun r2 => ?_)
 refine Sat.call (s_bitsAdd64 r1.2 (IntKind.wrap .u64 (r.1 + r2.2)) 0) (by kernel_rfl) (fun r3 => ?_)
 exact Sat.ret0 [true, true] (by kernel_rfl) (by kernel_rfl)
noncomputable def b176 : Code := (Tryz.f176.body).getD .skip
def wide_size_signed_E : (ApiWide × Int) → List RR := fun r => [.val (.agg (ApiWide.enc r.1)), .val (.int .i64 r.2)]
def wide_size_signed_j0_S : (Int × Int) → St := fun s1 => (⟨[(4, .box 0 0), (6, .box 1 0)], [(0, some (.box [.val (.int .i64 0), .val (.int .u64 0)])), (1, some (.box [.val (.int .i64 s1.1), .val (.int .u64 s1.2)]))], 2⟩ : St)
theorem s_wide_size_signed_j0 (s1 : (Int × Int)) : Sat (cx 35 [.cell 4 49, .tmp 5]) (R0 wide_size_signed_E) D0 ((cx 35 [.cell 4 49, .tmp 5]).ex (sub b176 [true, true, true, true]) (wide_size_signed_j0_S s1) ((cx 35 [.cell 4 49, .tmp 5]).kAt b176 [true, true, true, true] (k0 (cx 35 [.cell 4 49, .tmp 5]).ti (cx 35 [.cell 4 49, .tmp 5]).rvs))) (wide_size_signed_j0 s1) := by
 delta wide_size_signed_j0
 exact Sat.ret0 [true, true] (by kernel_rfl) (by kernel_rfl)
theorem s_wide_size_signed (s : WideSize) (minus : Bool) : DoesP Tryz.prog gt 176 [.val (.agg (WideSize.enc s)), .val (.bool minus)] wide_size_signed_E (wide_size_signed s minus) := by
 refine does_of (c := (cx 35 [.cell 4 49, .tmp 5])) c_ok (fn := Tryz.f176) (code := b176) Tryz.func176 (by kernel_rfl) (by kernel_rfl) (by kernel_rfl) (by kernel_rfl) (by kernel_rfl) ?_
 delta wide_size_signed
 refine Sat.ite (by kernel_rfl) ?_ ?_
 ·exact Sat.ret0 [true, true] (by kernel_rfl) (by kernel_rfl)
 refine Sat.ite (by kernel_rfl) ?_ ?_
 ·refine Sat.call (s_wide_negate (⟨(IntKind.wrap .i64 s.hi), s.lo⟩ : ApiWide)) (by kernel_rfl) (fun r => ?_)
  exact Sat.cut (s0 := (r.Hi, r.Lo)) [(4, false), (6, false)] c_ok (by kernel_rfl) (by kernel_rfl) (by kernel_rfl) (by kernel_rfl) (s_wide_size_signed_j0)
 exact Sat.cut (s0 := ((IntKind.wrap .i64 s.hi), s.lo)) [(4, false), (6, false)] c_ok (by kernel_rfl) (by kernel_rfl) (by kernel_rfl) (by kernel_rfl) (s_wide_size_signed_j0)
noncomputable def b192 : Code := (Tryz.f192.body).getD .skip
def wide_Scale_E : (ApiWide × Int) → List RR := fun r => [.val (.agg (ApiWide.enc r.1)), .val (.int .i64 r.2)]
theorem s_wide_Scale (a : ApiWide) (n : Int) : DoesP Tryz.prog gt 192 [.val (.agg (ApiWide.enc a)), .val (.int .i64 n)] wide_Scale_E (wide_Scale a n) := by
 refine does_of (c := (cx 34 [.cell 4 49, .tmp 5])) c_ok (fn := Tryz.f192) (code := b192) Tryz.func192 (by kernel_rfl) (by kernel_rfl) (by kernel_rfl) (by kernel_rfl) (by kernel_rfl) ?_
 delta wide_Scale
 refine Sat.call (s_wide_absolute a) (by kernel_rfl) (fun r => ?_)
 refine Sat.call (s_wide_abs n) (by kernel_rfl) (fun r1 => ?_)
 refine Sat.call (s_wide_size_times r r1 0) (by kernel_rfl) (fun r2 => ?_)
 refine Sat.ite (by kernel_rfl) ?_ ?_
 ·exact Sat.ret0 [true, true] (by kernel_rfl) (by kernel_rfl)
 refine Sat.call (s_wide_size_signed r2.1 (bif (!((decide (a.Hi < 0)) == (decide (n < 0)))) then (!((r2.1.hi == 0) && ((r2.1.lo == 0) && true))) else false)) (by kernel_rfl) (fun r3 => ?_)
 exact Sat.ret0 [true, true] (by kernel_rfl) (by kernel_rfl)
noncomputable def b109 : Code := (Tryz.f109.body).getD .skip
def wide_Add_E : (ApiWide × Int) → List RR := fun r => [.val (.agg (ApiWide.enc r.1)), .val (.int .i64 r.2)]
theorem s_wide_Add (a : ApiWide) (b : ApiWide) : DoesP Tryz.prog gt 109 [.val (.agg (ApiWide.enc a)), .val (.agg (ApiWide.enc b))] wide_Add_E (wide_Add a b) := by
 refine does_of (c := (cx 44 [.cell 4 49, .tmp 5])) c_ok (fn := Tryz.f109) (code := b109) Tryz.func109 (by kernel_rfl) (by kernel_rfl) (by kernel_rfl) (by kernel_rfl) (by kernel_rfl) ?_
 delta wide_Add
 refine Sat.call (s_bitsAdd64 a.Lo b.Lo 0) (by kernel_rfl) (fun r => ?_)
 refine Sat.ite (by kernel_rfl) ?_ ?_
 ·exact Sat.ret0 [true, true] (by kernel_rfl) (by kernel_rfl)
 exact Sat.ret0 [true, true] (by kernel_rfl) (by kernel_rfl)
noncomputable def b170 : Code := (Tryz.f170.body).getD .skip
def tier_Grains_E : (ApiWide × Int) → List RR := fun r => [.val (.agg (ApiWide.enc r.1)), .val (.int .i64 r.2)]
def tier_Grains_l1_S (l : (List ApiSlice)) (weight : Int) : (Int × Int × Int) → St := fun s => (⟨[(1, .rv (.val (.int .i64 weight))), (4, .box 0 0), (6, .box 1 0), (22, .rv (.val (.slice (List.map ApiSlice.enc l)))), (23, .rv (.val (.int .i64 ((List.map ApiSlice.enc l).length : Int)))), (24, .rv (.val (.int .i64 s.1)))], [(0, some (.box [.val (.int .i64 0), .val (.int .u64 0)])), (1, some (.box [.val (.int .i64 s.2.1), .val (.int .u64 s.2.2)]))], 2⟩ : St)
theorem s_tier_Grains_l1 (l : (List ApiSlice)) (weight : Int) (s : (Int × Int × Int)) : Sat (cx 60 [.cell 4 49, .tmp 5]) (loopR (R0 tier_Grains_E)) (loopD (cx 60 [.cell 4 49, .tmp 5]) (R0 tier_Grains_E) D0 (tier_Grains_l1_S l weight) [(1, false), (4, false), (6, false), (22, false), (23, false), (24, false)] ((cx 60 [.cell 4 49, .tmp 5]).kAt b170 [true, true, true, true, false, true, false] (k0 (cx 60 [.cell 4 49, .tmp 5]).ti (cx 60 [.cell 4 49, .tmp 5]).rvs))) ((cx 60 [.cell 4 49, .tmp 5]).ex (sub b170 [true, true, true, true, false, true, false, false]) (tier_Grains_l1_S l weight s) T.done) (tier_Grains_l1 l weight s) := by
 delta tier_Grains_l1
 refine Sat.ite (by kernel_rfl) ?_ ?_
 ·refine Sat.opt (enc := ApiSlice.enc) (by kernel_rfl) (getRow_map _ _ _) (fun li => ?_)
  refine Sat.ite (by kernel_rfl) ?_ ?_
  ·refine Sat.retL (D := D0) (A := some ((⟨0, 0⟩ : ApiWide), 1)) (by kernel_rfl) ?_
   exact Sat.ret0 [true, true] (by kernel_rfl) (by kernel_rfl)
  refine Sat.call (s_wide_Mul li.Amount li.Ppm) (by kernel_rfl) (fun r => ?_)
  refine Sat.call (s_wide_Scale r weight) (by kernel_rfl) (fun r1 => ?_)
  refine Sat.call (s_wide_Add (⟨s.2.1, s.2.2⟩ : ApiWide) r1.1) (by kernel_rfl) (fun r2 => ?_)
  exact Sat.next (by kernel_rfl) (by kernel_rfl)
 refine Sat.out (id := 0) (A := some ((⟨s.2.1, s.2.2⟩ : ApiWide), 0)) (by kernel_rfl) ?_
 exact Sat.ret0 [true, true] (by kernel_rfl) (by kernel_rfl)
theorem s_tier_Grains (l : (List ApiSlice)) (weight : Int) : DoesP Tryz.prog gt 170 [.val (.slice (List.map ApiSlice.enc l)), .val (.int .i64 weight)] tier_Grains_E (tier_Grains l weight) := by
 refine does_of (c := (cx 60 [.cell 4 49, .tmp 5])) c_ok (fn := Tryz.f170) (code := b170) Tryz.func170 (by kernel_rfl) (by kernel_rfl) (by kernel_rfl) (by kernel_rfl) (by kernel_rfl) ?_
 delta tier_Grains
 refine Sat.ite (by kernel_rfl) ?_ ?_
 ·exact Sat.ret0 [true, true] (by kernel_rfl) (by kernel_rfl)
 refine Sat.ite (by kernel_rfl) ?_ ?_
 ·exact Sat.ret0 [true, true] (by kernel_rfl) (by kernel_rfl)
 exact Sat.loop (s0 := (0, 0, 0)) [(1, false), (4, false), (6, false), (22, false), (23, false), (24, false)] c_ok (by kernel_rfl) (by kernel_rfl) (by kernel_rfl) (by kernel_rfl) (s_tier_Grains_l1 l weight)
noncomputable def b137 : Code := (Tryz.f137.body).getD .skip
def accrue_grains_E : ApiWide → List RR := fun r => [.val (.agg (ApiWide.enc r))]
theorem s_accrue_grains (p : ApiProduct) (balance : Int) (day : Int) : DoesP Tryz.prog gt 137 [.val (.agg (ApiProduct.enc p)), .val (.int .i64 balance), .val (.int .i64 day)] accrue_grains_E (accrue_grains p balance day) := by
 refine does_of (c := (cx 33 [.cell 6 49])) c_ok (fn := Tryz.f137) (code := b137) Tryz.func137 (by kernel_rfl) (by kernel_rfl) (by kernel_rfl) (by kernel_rfl) (by kernel_rfl) ?_
 delta accrue_grains
 refine Sat.call (s_product_Side p balance) (by kernel_rfl) (fun r => ?_)
 refine Sat.call (s_tier_Slices r.Tiers r.Marginal balance) (by kernel_rfl) (fun r1 => ?_)
 refine Sat.call (s_daycount_Weight r.Basis day) (by kernel_rfl) (fun r2 => ?_)
 refine Sat.call (s_tier_Grains r1 r2) (by kernel_rfl) (fun r3 => ?_)
 refine Sat.ite (by kernel_rfl) ?_ ?_
 ·exact Sat.ret0 [true] (by kernel_rfl) (by kernel_rfl)
 exact Sat.ret0 [true] (by kernel_rfl) (by kernel_rfl)
noncomputable def b134 : Code := (Tryz.f134.body).getD .skip
def accrue_daily_c1_E : ApiAccrual → List RR := fun r => [.val (.agg (ApiAccrual.enc r))]
def accrue_daily_c1_j0_S (day : Int) (c0 : Int) (r1 : Int) : (Int × Int × Int × Int) → St := fun s => (⟨[(4, .box 0 0), (5, .box 1 0)], [(0, some (.box [.val (.int .i64 0), .val (.int .i64 0), .val (.int .i64 0), .val (.int .i64 0), .val (.int .u64 0), .val (.int .i64 0), .val (.int .u64 0)])), (1, some (.box [.val (.int .i64 c0), .val (.int .i64 day), .val (.int .i64 r1), .val (.int .i64 s.1), .val (.int .u64 s.2.1), .val (.int .i64 s.2.2.1), .val (.int .u64 s.2.2.2)]))], 2⟩ : St)
theorem s_accrue_daily_c1_j0 (day : Int) (c0 : Int) (r1 : Int) (s : (Int × Int × Int × Int)) : Sat (cx 54 [.cell 4 157]) (R0 accrue_daily_c1_E) D0 ((cx 54 [.cell 4 157]).ex (sub b134 [true, true, true, true, true, true]) (accrue_daily_c1_j0_S day c0 r1 s) ((cx 54 [.cell 4 157]).kAt b134 [true, true, true, true, true, true] (k0 (cx 54 [.cell 4 157]).ti (cx 54 [.cell 4 157]).rvs))) (accrue_daily_c1_j0 day c0 r1 s) := by
 delta accrue_daily_c1_j0
 exact Sat.ret0 [true] (by kernel_rfl) (by kernel_rfl)
theorem s_accrue_daily_c1 (day : Int) (c0 : Int) (c1 : ApiBooks) : DoesP Tryz.prog gt 134 [.val (.int .i64 day), .row [.int .i64 c0], .row (ApiBooks.enc c1)] accrue_daily_c1_E (accrue_daily_c1 day c0 c1) := by
 refine does_of (c := (cx 54 [.cell 4 157])) c_ok (fn := Tryz.f134) (code := b134) Tryz.func134 (by kernel_rfl) (by kernel_rfl) (by kernel_rfl) (by kernel_rfl) (by kernel_rfl) ?_
 delta accrue_daily_c1
 refine Sat.call (s_account_Active c1 c0 day) (by kernel_rfl) (fun r => ?_)
 refine Sat.ite (by kernel_rfl) ?_ ?_
 ·exact Sat.ret0 [true] (by kernel_rfl) (by kernel_rfl)
 refine Sat.call (s_balAt c1.Journal c0 73048 day) (by kernel_rfl) (fun r1 => ?_)
 refine Sat.call (s_account_Product c1 c0 day) (by kernel_rfl) (fun r2 => ?_)
 refine Sat.ite (by kernel_rfl) ?_ ?_
 ·exact Sat.cut (s0 := (0, 0, 0, 0)) [(4, false), (5, false)] c_ok (by kernel_rfl) (by kernel_rfl) (by kernel_rfl) (by kernel_rfl) (s_accrue_daily_c1_j0 day c0 r1)
 refine Sat.ite (by kernel_rfl) ?_ ?_
 ·refine Sat.call (s_accrue_grains r2.1 r1 day) (by kernel_rfl) (fun r3 => ?_)
  exact Sat.cut (s0 := (r3.Hi, r3.Lo, 0, 0)) [(4, false), (5, false)] c_ok (by kernel_rfl) (by kernel_rfl) (by kernel_rfl) (by kernel_rfl) (s_accrue_daily_c1_j0 day c0 r1)
 refine Sat.ite (by kernel_rfl) ?_ ?_
 ·refine Sat.call (s_accrue_grains r2.1 r1 day) (by kernel_rfl) (fun r4 => ?_)
  exact Sat.cut (s0 := (0, 0, r4.Hi, r4.Lo)) [(4, false), (5, false)] c_ok (by kernel_rfl) (by kernel_rfl) (by kernel_rfl) (by kernel_rfl) (s_accrue_daily_c1_j0 day c0 r1)
 exact Sat.cut (s0 := (0, 0, 0, 0)) [(4, false), (5, false)] c_ok (by kernel_rfl) (by kernel_rfl) (by kernel_rfl) (by kernel_rfl) (s_accrue_daily_c1_j0 day c0 r1)
noncomputable def b85 : Code := (Tryz.f85.body).getD .skip
def accrue_Series_E : ((List ApiAccrual) × Int) → List RR := fun r => [.own 157 (List.map ApiAccrual.enc r.1), .val (.int .i64 r.2)]
def accrue_Series_l1_S (to' : Int) (r3 : (Int × ApiBooks)) : (Int × (List ApiAccrual)) → St := fun s => (⟨[(3, .rv (.val (.int .i64 to'))), (12, .rv (.val (.fn 134 [[.int .i64 r3.1], [.slice (List.map ApiCurrency.enc r3.2.Currencies), .slice (List.map ApiCalendar.enc r3.2.Calendars), .slice (List.map ApiGl.enc r3.2.Chart), .int .i64 r3.2.Plan.Cash, .int .i64 r3.2.Plan.Deposits, .int .i64 r3.2.Plan.InterestPaid, .int .i64 r3.2.Plan.InterestEarned, .int .i64 r3.2.Plan.FeeEarned, .int .i64 r3.2.Plan.Tax, .int .i64 r3.2.Plan.Clearing, .int .i64 r3.2.Plan.Loans, .int .i64 r3.2.Plan.LoanInterest, .int .i64 r3.2.Plan.Penalty, .int .i64 r3.2.Plan.Provision, .int .i64 r3.2.Plan.ProvisionCost, .int .i64 r3.2.Plan.Loss, .int .i64 r3.2.Plan.Recovery, .slice (List.map ApiProduct.enc r3.2.Products), .slice (List.map ApiAccount.enc r3.2.Accounts), .slice (List.map ApiEntry.enc r3.2.Journal), .slice (List.map ApiHold.enc r3.2.Holds), .slice (List.map ApiBlock.enc r3.2.Blocks)]]))), (13, .rv (.own 0)), (14, .rv (.val (.int .i64 s.1)))], [(0, some (.vec 157 (List.map ApiAccrual.enc s.2)))], 1⟩ : St)
theorem s_accrue_Series_l1 (to' : Int) (r3 : (Int × ApiBooks)) (s : (Int × (List ApiAccrual))) : Sat (cx 63 [.tmp 8, .tmp 9]) (loopR (R0 accrue_Series_E)) (loopD (cx 63 [.tmp 8, .tmp 9]) (R0 accrue_Series_E) D0 (accrue_Series_l1_S to' r3) [(3, false), (12, false), (13, false), (14, false)] ((cx 63 [.tmp 8, .tmp 9]).kAt b85 [true, true, true, true, true, false, true, false] (k0 (cx 63 [.tmp 8, .tmp 9]).ti (cx 63 [.tmp 8, .tmp 9]).rvs))) ((cx 63 [.tmp 8, .tmp 9]).ex (sub b85 [true, true, true, true, true, false, true, false, false]) (accrue_Series_l1_S to' r3 s) T.done) (accrue_Series_l1 to' r3 s) := by
 delta accrue_Series_l1
 refine Sat.ite (by kernel_rfl) ?_ ?_
 ·refine Sat.call (s_accrue_daily_c1 s.1 r3.1 r3.2) (by kernel_rfl) (fun r4 => ?_)
  refine Sat.need (g := true) (p := ((List.map ApiAccrual.enc s.2).length + (List.map ApiAccrual.enc ([r4])).length) * 56 ≤ 140737488355328) (by kernel_rfl) (fun h _ => by simpa [sliceRows_map, List.length_set] using h) ?_
  exact Sat.next (by kernel_rfl) (Eq.trans (b := (⟨[(3, .rv (.val (.int .i64 to'))), (12, .rv (.val (.fn 134 [[.int .i64 r3.1], [.slice (List.map ApiCurrency.enc r3.2.Currencies), .slice (List.map ApiCalendar.enc r3.2.Calendars), .slice (List.map ApiGl.enc r3.2.Chart), .int .i64 r3.2.Plan.Cash, .int .i64 r3.2.Plan.Deposits, .int .i64 r3.2.Plan.InterestPaid, .int .i64 r3.2.Plan.InterestEarned, .int .i64 r3.2.Plan.FeeEarned, .int .i64 r3.2.Plan.Tax, .int .i64 r3.2.Plan.Clearing, .int .i64 r3.2.Plan.Loans, .int .i64 r3.2.Plan.LoanInterest, .int .i64 r3.2.Plan.Penalty, .int .i64 r3.2.Plan.Provision, .int .i64 r3.2.Plan.ProvisionCost, .int .i64 r3.2.Plan.Loss, .int .i64 r3.2.Plan.Recovery, .slice (List.map ApiProduct.enc r3.2.Products), .slice (List.map ApiAccount.enc r3.2.Accounts), .slice (List.map ApiEntry.enc r3.2.Journal), .slice (List.map ApiHold.enc r3.2.Holds), .slice (List.map ApiBlock.enc r3.2.Blocks)]]))), (13, .rv (.own 0)), (14, .rv (.val (.int .i64 (IntKind.wrap .i64 (s.1 + 1)))))], [(0, some (.vec 157 ((List.map ApiAccrual.enc s.2) ++ (List.map ApiAccrual.enc ([r4])))))], 1⟩ : St)) (by kernel_rfl) (by simp [accrue_Series_l1_S, ApiAccrual.enc, List.map_append, List.map_set, List.map_take, List.map_drop, sliceRows_map, List.map_replicate, eInt, eBool, eStr]))
 refine Sat.out (id := 0) (A := some (s.2, 0)) (by kernel_rfl) ?_
 exact Sat.ret0 [false, true] (by kernel_rfl) (by kernel_rfl)
theorem s_accrue_Series (b : ApiBooks) (id : Int) (from' : Int) (to' : Int) : DoesP Tryz.prog gt 85 [.val (.agg (ApiBooks.enc b)), .val (.int .i64 id), .val (.int .i64 from'), .val (.int .i64 to')] accrue_Series_E (accrue_Series b id from' to') := by
 refine does_of (c := (cx 63 [.tmp 8, .tmp 9])) c_ok (fn := Tryz.f85) (code := b85) Tryz.func85 (by kernel_rfl) (by kernel_rfl) (by kernel_rfl) (by kernel_rfl) (by kernel_rfl) ?_
 delta accrue_Series
 refine Sat.call (s_account_Find b id) (by kernel_rfl) (fun r => ?_)
 refine Sat.ite (by kernel_rfl) ?_ ?_
 ·exact Sat.ret0 [false, true] (by kernel_rfl) (by kernel_rfl)
 refine Sat.call (s_date_Valid from') (by kernel_rfl) (fun r1 => ?_)
 refine Sat.callG (s_date_Valid to') (by kernel_rfl) (fun r2 => ?_)
 refine Sat.ite (by kernel_rfl) ?_ ?_
 ·exact Sat.ret0 [false, true] (by kernel_rfl) (by kernel_rfl)
 refine Sat.call (s_accrue_daily b id) (by kernel_rfl) (fun r3 => ?_)
 refine Sat.need (g := true) (p := (0 : Int) ≤ 0 ∧ 0 ≤ (IntKind.wrap .i64 ((IntKind.wrap .i64 (to' - from')) + 1)) ∧ (IntKind.wrap .i64 ((IntKind.wrap .i64 (to' - from')) + 1)) * 56 ≤ 140737488355328) (by kernel_rfl) (fun h _ => by exact h) ?_
 exact Sat.loop (s0 := (from', (List.replicate (0 : Int).toNat (⟨0, 0, 0, (⟨0, 0⟩ : ApiWide), (⟨0, 0⟩ : ApiWide)⟩ : ApiAccrual)))) [(3, false), (12, false), (13, false), (14, false)] c_ok (by kernel_rfl) (Eq.trans (b := (⟨[(3, .rv (.val (.int .i64 to'))), (12, .rv (.val (.fn 134 [[.int .i64 r3.1], [.slice (List.map ApiCurrency.enc r3.2.Currencies), .slice (List.map ApiCalendar.enc r3.2.Calendars), .slice (List.map ApiGl.enc r3.2.Chart), .int .i64 r3.2.Plan.Cash, .int .i64 r3.2.Plan.Deposits, .int .i64 r3.2.Plan.InterestPaid, .int .i64 r3.2.Plan.InterestEarned, .int .i64 r3.2.Plan.FeeEarned, .int .i64 r3.2.Plan.Tax, .int .i64 r3.2.Plan.Clearing, .int .i64 r3.2.Plan.Loans, .int .i64 r3.2.Plan.LoanInterest, .int .i64 r3.2.Plan.Penalty, .int .i64 r3.2.Plan.Provision, .int .i64 r3.2.Plan.ProvisionCost, .int .i64 r3.2.Plan.Loss, .int .i64 r3.2.Plan.Recovery, .slice (List.map ApiProduct.enc r3.2.Products), .slice (List.map ApiAccount.enc r3.2.Accounts), .slice (List.map ApiEntry.enc r3.2.Journal), .slice (List.map ApiHold.enc r3.2.Holds), .slice (List.map ApiBlock.enc r3.2.Blocks)]]))), (13, .rv (.own 0)), (14, .rv (.val (.int .i64 from')))], [(0, some (.vec 157 (List.replicate (0 : Int).toNat [.int .i64 0, .int .i64 0, .int .i64 0, .int .i64 0, .int .u64 0, .int .i64 0, .int .u64 0])))], 1⟩ : St)) (by kernel_rfl) (by simp [accrue_Series_l1_S, ApiAccrual.enc, List.map_append, List.map_set, List.map_take, List.map_drop, sliceRows_map, List.map_replicate, eInt, eBool, eStr])) (by kernel_rfl) (by kernel_rfl) (s_accrue_Series_l1 to' r3)
noncomputable def b87 : Code := (Tryz.f87.body).getD .skip
def accrue_Total_E : (ApiWide × ApiWide × Int) → List RR := fun r => [.val (.agg (ApiWide.enc r.1)), .val (.agg (ApiWide.enc r.2.1)), .val (.int .i64 r.2.2)]
def accrue_Total_l1_S (l : (List ApiAccrual)) : (Int × Int × Int × Int × Int) → St := fun s => (⟨[(2, .box 0 0), (3, .box 1 0), (5, .box 2 0), (6, .box 3 0), (13, .rv (.val (.slice (List.map ApiAccrual.enc l)))), (14, .rv (.val (.int .i64 ((List.map ApiAccrual.enc l).length : Int)))), (15, .rv (.val (.int .i64 s.1)))], [(0, some (.box [.val (.int .i64 0), .val (.int .u64 0)])), (1, some (.box [.val (.int .i64 0), .val (.int .u64 0)])), (2, some (.box [.val (.int .i64 s.2.1), .val (.int .u64 s.2.2.1)])), (3, some (.box [.val (.int .i64 s.2.2.2.1), .val (.int .u64 s.2.2.2.2)]))], 4⟩ : St)
theorem s_accrue_Total_l1 (l : (List ApiAccrual)) (s : (Int × Int × Int × Int × Int)) : Sat (cx 46 [.cell 2 49, .cell 3 49, .tmp 4]) (loopR (R0 accrue_Total_E)) (loopD (cx 46 [.cell 2 49, .cell 3 49, .tmp 4]) (R0 accrue_Total_E) D0 (accrue_Total_l1_S l) [(2, false), (3, false), (5, false), (6, false), (13, false), (14, false), (15, false)] ((cx 46 [.cell 2 49, .cell 3 49, .tmp 4]).kAt b87 [true, true, false, true, false] (k0 (cx 46 [.cell 2 49, .cell 3 49, .tmp 4]).ti (cx 46 [.cell 2 49, .cell 3 49, .tmp 4]).rvs))) ((cx 46 [.cell 2 49, .cell 3 49, .tmp 4]).ex (sub b87 [true, true, false, true, false, false]) (accrue_Total_l1_S l s) T.done) (accrue_Total_l1 l s) := by
 delta accrue_Total_l1
 refine Sat.ite (by kernel_rfl) ?_ ?_
 ·refine Sat.opt (enc := ApiAccrual.enc) (by kernel_rfl) (getRow_map _ _ _) (fun li => ?_)
  refine Sat.call (s_wide_Add (⟨s.2.1, s.2.2.1⟩ : ApiWide) li.Credit) (by kernel_rfl) (fun r => ?_)
  refine Sat.call (s_wide_Add (⟨s.2.2.2.1, s.2.2.2.2⟩ : ApiWide) li.Debit) (by kernel_rfl) (fun r1 => ?_)
  refine Sat.ite (by kernel_rfl) ?_ ?_
  ·refine Sat.retL (D := D0) (A := some ((⟨0, 0⟩ : ApiWide), (⟨0, 0⟩ : ApiWide), 6)) (by kernel_rfl) ?_
   exact Sat.ret0 [true, true, true] (by kernel_rfl) (by kernel_rfl)
  exact Sat.next (by kernel_rfl) (by kernel_rfl)
 refine Sat.out (id := 0) (A := some ((⟨s.2.1, s.2.2.1⟩ : ApiWide), (⟨s.2.2.2.1, s.2.2.2.2⟩ : ApiWide), 0)) (by kernel_rfl) ?_
 exact Sat.ret0 [true, true, true] (by kernel_rfl) (by kernel_rfl)
theorem s_accrue_Total (l : (List ApiAccrual)) : DoesP Tryz.prog gt 87 [.val (.slice (List.map ApiAccrual.enc l))] accrue_Total_E (accrue_Total l) := by
 refine does_of (c := (cx 46 [.cell 2 49, .cell 3 49, .tmp 4])) c_ok (fn := Tryz.f87) (code := b87) Tryz.func87 (by kernel_rfl) (by kernel_rfl) (by kernel_rfl) (by kernel_rfl) (by kernel_rfl) ?_
 delta accrue_Total
 exact Sat.loop (s0 := (0, 0, 0, 0, 0)) [(2, false), (3, false), (5, false), (6, false), (13, false), (14, false), (15, false)] c_ok (by kernel_rfl) (by kernel_rfl) (by kernel_rfl) (by kernel_rfl) (s_accrue_Total_l1 l)
noncomputable def b110 : Code := (Tryz.f110.body).getD .skip
def wide_Cmp_E : Int → List RR := fun r => [.val (.int .i64 r)]
theorem s_wide_Cmp (a : ApiWide) (b : ApiWide) : DoesP Tryz.prog gt 110 [.val (.agg (ApiWide.enc a)), .val (.agg (ApiWide.enc b))] wide_Cmp_E (wide_Cmp a b) := by
 refine does_of (c := (cx 29 [.tmp 4])) c_ok (fn := Tryz.f110) (code := b110) Tryz.func110 (by kernel_rfl) (by kernel_rfl) (by kernel_rfl) (by kernel_rfl) (by kernel_rfl) ?_
 delta wide_Cmp
 refine Sat.ite (by kernel_rfl) ?_ ?_
 ·exact Sat.ret0 [true] (by kernel_rfl) (by kernel_rfl)
 refine Sat.ite (by kernel_rfl) ?_ ?_
 ·exact Sat.ret0 [true] (by kernel_rfl) (by kernel_rfl)
 exact Sat.ret0 [true] (by kernel_rfl) (by kernel_rfl)
noncomputable def b113 : Code := (Tryz.f113.body).getD .skip
def rounding_Valid_E : Bool → List RR := fun r => [.val (.bool r)]
theorem s_rounding_Valid (mode : Int) : DoesP Tryz.prog gt 113 [.val (.int .i64 mode)] rounding_Valid_E (rounding_Valid mode) := by
 refine does_of (c := (cx 9 [.tmp 2])) c_ok (fn := Tryz.f113) (code := b113) Tryz.func113 (by kernel_rfl) (by kernel_rfl) (by kernel_rfl) (by kernel_rfl) (by kernel_rfl) ?_
 delta rounding_Valid
 exact Sat.ret0 [true] (by kernel_rfl) (by kernel_rfl)
noncomputable def b206 : Code := (Tryz.f206.body).getD .skip
def math_bits_Len64_E : Int → List RR := fun r => [.val (.int .i64 r)]
def math_bits_Len64_j0_S : (Int × Int) → St := fun s2 => (⟨[(0, .rv (.val (.int .u64 s2.1))), (2, .rv (.val (.int .i64 s2.2)))], [], 0⟩ : St)
def math_bits_Len64_j1_S : (Int × Int) → St := fun s1 => (⟨[(0, .rv (.val (.int .u64 s1.1))), (2, .rv (.val (.int .i64 s1.2)))], [], 0⟩ : St)
def math_bits_Len64_j2_S : (Int × Int) → St := fun s => (⟨[(0, .rv (.val (.int .u64 s.1))), (2, .rv (.val (.int .i64 s.2)))], [], 0⟩ : St)
theorem s_math_bits_Len64_j0 (s2 : (Int × Int)) : Sat (cx 25 [.tmp 2]) (R0 math_bits_Len64_E) D0 ((cx 25 [.tmp 2]).ex (sub b206 [true, true, true, true]) (math_bits_Len64_j0_S s2) ((cx 25 [.tmp 2]).kAt b206 [true, true, true, true] (k0 (cx 25 [.tmp 2]).ti (cx 25 [.tmp 2]).rvs))) (math_bits_Len64_j0 s2) := by
 delta math_bits_Len64_j0
 refine Sat.need (g := true) (p := (0 : Int) ≤ (IntKind.wrap .u8 s2.1) ∧ (IntKind.wrap .u8 s2.1) < ((bs [0, 1, 2, 2, 3, 3, 3, 3, 4, 4, 4, 4, 4, 4, 4, 4, 5, 5, 5, 5, 5, 5, 5, 5, 5, 5, 5, 5, 5, 5, 5, 5, 6, 6, 6, 6, 6, 6, 6, 6, 6, 6, 6, 6, 6, 6, 6, 6, 6, 6, 6, 6, 6, 6, 6, 6, 6, 6, 6, 6, 6, 6, 6, 6, 7, 7, 7, 7, 7, 7, 7, 7, 7, 7, 7, 7, 7, 7, 7, 7, 7, 7, 7, 7, 7, 7, 7, 7, 7, 7, 7, 7, 7, 7, 7, 7, 7, 7, 7, 7, 7, 7, 7, 7, 7, 7, 7, 7, 7, 7, 7, 7, 7, 7, 7, 7, 7, 7, 7, 7, 7, 7, 7, 7, 7, 7, 7, 7, 8, 8, 8, 8, 8, 8, 8, 8, 8, 8, 8, 8, 8, 8, 8, 8, 8, 8, 8, 8, 8, 8, 8, 8, 8, 8, 8, 8, 8, 8, 8, 8, 8, 8, 8, 8, 8, 8, 8, 8, 8, 8, 8, 8, 8, 8, 8, 8, 8, 8, 8, 8, 8, 8, 8, 8, 8, 8, 8, 8, 8, 8, 8, 8, 8, 8, 8, 8, 8, 8, 8, 8, 8, 8, 8, 8, 8, 8, 8, 8, 8, 8, 8, 8, 8, 8, 8, 8, 8, 8, 8, 8, 8, 8, 8, 8, 8, 8, 8, 8, 8, 8, 8, 8, 8, 8, 8, 8, 8, 8, 8, 8, 8, 8, 8, 8, 8, 8, 8, 8, 8, 8, 8, 8, 8, 8, 8, 8]).size : Int)) (by kernel_rfl) (fun h _ => by exact h) ?_
 exact Sat.ret0 [true] (by kernel_rfl) (by kernel_rfl)
theorem s_math_bits_Len64_j1 (s1 : (Int × Int)) : Sat (cx 25 [.tmp 2]) (R0 math_bits_Len64_E) D0 ((cx 25 [.tmp 2]).ex (sub b206 [true, true, true]) (math_bits_Len64_j1_S s1) ((cx 25 [.tmp 2]).kAt b206 [true, true, true] (k0 (cx 25 [.tmp 2]).ti (cx 25 [.tmp 2]).rvs))) (math_bits_Len64_j1 s1) := by
 delta math_bits_Len64_j1
 refine Sat.ite (by kernel_rfl) ?_ ?_
 ·refine Sat.need0 (g := true) (p := (0 : Int) ≤ 8) (by kernel_rfl) (by decide) ?_
  exact Sat.cut (s0 := ((s1.1.fdiv (2 ^ 8)), (IntKind.wrap .i64 (s1.2 + 8)))) [(0, false), (2, false)] c_ok (by kernel_rfl) (by kernel_rfl) (by kernel_rfl) (by kernel_rfl) (s_math_bits_Len64_j0)
 exact Sat.cut (s0 := (s1.1, s1.2)) [(0, false), (2, false)] c_ok (by kernel_rfl) (by kernel_rfl) (by kernel_rfl) (by kernel_rfl) (s_math_bits_Len64_j0)
theorem s_math_bits_Len64_j2 (s : (Int × Int)) : Sat (cx 25 [.tmp 2]) (R0 math_bits_Len64_E) D0 ((cx 25 [.tmp 2]).ex (sub b206 [true, true]) (math_bits_Len64_j2_S s) ((cx 25 [.tmp 2]).kAt b206 [true, true] (k0 (cx 25 [.tmp 2]).ti (cx 25 [.tmp 2]).rvs))) (math_bits_Len64_j2 s) := by
 delta math_bits_Len64_j2
 refine Sat.ite (by kernel_rfl) ?_ ?_
 ·refine Sat.need0 (g := true) (p := (0 : Int) ≤ 16) (by kernel_rfl) (by decide) ?_
  exact Sat.cut (s0 := ((s.1.fdiv (2 ^ 16)), (IntKind.wrap .i64 (s.2 + 16)))) [(0, false), (2, false)] c_ok (by kernel_rfl) (by kernel_rfl) (by kernel_rfl) (by kernel_rfl) (s_math_bits_Len64_j1)
 exact Sat.cut (s0 := (s.1, s.2)) [(0, false), (2, false)] c_ok (by kernel_rfl) (by kernel_rfl) (by kernel_rfl) (by kernel_rfl) (s_math_bits_Len64_j1)
theorem s_math_bits_Len64 (x : Int) : DoesP Tryz.prog gt 206 [.val (.int .u64 x)] math_bits_Len64_E (math_bits_Len64 x) := by
 refine does_of (c := (cx 25 [.tmp 2])) c_ok (fn := Tryz.f206) (code := b206) Tryz.func206 (by kernel_rfl) (by kernel_rfl) (by kernel_rfl) (by kernel_rfl) (by kernel_rfl) ?_
 delta math_bits_Len64
 refine Sat.ite (by kernel_rfl) ?_ ?_
 ·refine Sat.need0 (g := true) (p := (0 : Int) ≤ 32) (by kernel_rfl) (by decide) ?_
  exact Sat.cut (s0 := ((x.fdiv (2 ^ 32)), 32)) [(0, false), (2, false)] c_ok (by kernel_rfl) (by kernel_rfl) (by kernel_rfl) (by kernel_rfl) (s_math_bits_Len64_j2)
 exact Sat.cut (s0 := (x, 0)) [(0, false), (2, false)] c_ok (by kernel_rfl) (by kernel_rfl) (by kernel_rfl) (by kernel_rfl) (s_math_bits_Len64_j2)
noncomputable def b204 : Code := (Tryz.f204.body).getD .skip
def math_bits_LeadingZeros64_E : Int → List RR := fun r => [.val (.int .i64 r)]
theorem s_math_bits_LeadingZeros64 (x : Int) : DoesP Tryz.prog gt 204 [.val (.int .u64 x)] math_bits_LeadingZeros64_E (math_bits_LeadingZeros64 x) := by
 refine does_of (c := (cx 6 [.tmp 2])) c_ok (fn := Tryz.f204) (code := b204) Tryz.func204 (by kernel_rfl) (by kernel_rfl) (by kernel_rfl) (by kernel_rfl) (by kernel_rfl) ?_
 delta math_bits_LeadingZeros64
 refine Sat.call (s_math_bits_Len64 x) (by kernel_rfl) (fun r => ?_)
 exact Sat.ret0 [true] (by kernel_rfl) (by kernel_rfl)
noncomputable def b196 : Code := (Tryz.f196.body).getD .skip
def math_bits_Div64_E : (Int × Int) → List RR := fun r => [.val (.int .u64 r.1), .val (.int .u64 r.2)]
def math_bits_Div64_j0_S (hi : Int) (lo : Int) (y : Int) (r : Int) (s3 : Int) : Int → St := fun s5 => (⟨[(2, .rv (.val (.int .u64 (IntKind.wrap .u64 (y * 2 ^ (min ((IntKind.wrap .u64 r) : Int).toNat 64)))))), (8, .rv (.val (.int .u64 (IntKind.wrap .u64 r)))), (14, .rv (.val (.int .u64 (bitsI .and .u64 (IntKind.wrap .u64 (lo * 2 ^ (min ((IntKind.wrap .u64 r) : Int).toNat 64))) 4294967295)))), (15, .rv (.val (.int .u64 s3))), (17, .rv (.val (.int .u64 (IntKind.wrap .u64 ((IntKind.wrap .u64 ((IntKind.wrap .u64 ((bitsI .or .u64 (IntKind.wrap .u64 (hi * 2 ^ (min ((IntKind.wrap .u64 r) : Int).toNat 64))) (lo.fdiv (2 ^ (min ((IntKind.wrap .u64 (64 - (IntKind.wrap .u64 r))) : Int).toNat 64)))) * 4294967296)) + ((IntKind.wrap .u64 (lo * 2 ^ (min ((IntKind.wrap .u64 r) : Int).toNat 64))).fdiv (2 ^ 32)))) - (IntKind.wrap .u64 (s3 * (IntKind.wrap .u64 (y * 2 ^ (min ((IntKind.wrap .u64 r) : Int).toNat 64)))))))))), (18, .rv (.val (.int .u64 s5)))], [], 0⟩ : St)
def math_bits_Div64_l2_S (hi : Int) (lo : Int) (y : Int) (r : Int) (s3 : Int) : (Int × Int) → St := fun s4 => (⟨[(2, .rv (.val (.int .u64 (IntKind.wrap .u64 (y * 2 ^ (min ((IntKind.wrap .u64 r) : Int).toNat 64)))))), (8, .rv (.val (.int .u64 (IntKind.wrap .u64 r)))), (9, .rv (.val (.int .u64 ((IntKind.wrap .u64 (y * 2 ^ (min ((IntKind.wrap .u64 r) : Int).toNat 64))).fdiv (2 ^ 32))))), (10, .rv (.val (.int .u64 (bitsI .and .u64 (IntKind.wrap .u64 (y * 2 ^ (min ((IntKind.wrap .u64 r) : Int).toNat 64))) 4294967295)))), (14, .rv (.val (.int .u64 (bitsI .and .u64 (IntKind.wrap .u64 (lo * 2 ^ (min ((IntKind.wrap .u64 r) : Int).toNat 64))) 4294967295)))), (15, .rv (.val (.int .u64 s3))), (16, .rv (.val (.int .u64 s4.1))), (17, .rv (.val (.int .u64 (IntKind.wrap .u64 ((IntKind.wrap .u64 ((IntKind.wrap .u64 ((bitsI .or .u64 (IntKind.wrap .u64 (hi * 2 ^ (min ((IntKind.wrap .u64 r) : Int).toNat 64))) (lo.fdiv (2 ^ (min ((IntKind.wrap .u64 (64 - (IntKind.wrap .u64 r))) : Int).toNat 64)))) * 4294967296)) + ((IntKind.wrap .u64 (lo * 2 ^ (min ((IntKind.wrap .u64 r) : Int).toNat 64))).fdiv (2 ^ 32)))) - (IntKind.wrap .u64 (s3 * (IntKind.wrap .u64 (y * 2 ^ (min ((IntKind.wrap .u64 r) : Int).toNat 64)))))))))), (18, .rv (.val (.int .u64 s4.2)))], [], 0⟩ : St)
def math_bits_Div64_j2_S (hi : Int) (lo : Int) (y : Int) (r : Int) : Int → St := fun s3 => (⟨[(2, .rv (.val (.int .u64 (IntKind.wrap .u64 (y * 2 ^ (min ((IntKind.wrap .u64 r) : Int).toNat 64)))))), (8, .rv (.val (.int .u64 (IntKind.wrap .u64 r)))), (9, .rv (.val (.int .u64 ((IntKind.wrap .u64 (y * 2 ^ (min ((IntKind.wrap .u64 r) : Int).toNat 64))).fdiv (2 ^ 32))))), (10, .rv (.val (.int .u64 (bitsI .and .u64 (IntKind.wrap .u64 (y * 2 ^ (min ((IntKind.wrap .u64 r) : Int).toNat 64))) 4294967295)))), (11, .rv (.val (.int .u64 (bitsI .or .u64 (IntKind.wrap .u64 (hi * 2 ^ (min ((IntKind.wrap .u64 r) : Int).toNat 64))) (lo.fdiv (2 ^ (min ((IntKind.wrap .u64 (64 - (IntKind.wrap .u64 r))) : Int).toNat 64))))))), (13, .rv (.val (.int .u64 ((IntKind.wrap .u64 (lo * 2 ^ (min ((IntKind.wrap .u64 r) : Int).toNat 64))).fdiv (2 ^ 32))))), (14, .rv (.val (.int .u64 (bitsI .and .u64 (IntKind.wrap .u64 (lo * 2 ^ (min ((IntKind.wrap .u64 r) : Int).toNat 64))) 4294967295)))), (15, .rv (.val (.int .u64 s3)))], [], 0⟩ : St)
def math_bits_Div64_l1_S (hi : Int) (lo : Int) (y : Int) (r : Int) : (Int × Int) → St := fun s2 => (⟨[(2, .rv (.val (.int .u64 (IntKind.wrap .u64 (y * 2 ^ (min ((IntKind.wrap .u64 r) : Int).toNat 64)))))), (8, .rv (.val (.int .u64 (IntKind.wrap .u64 r)))), (9, .rv (.val (.int .u64 ((IntKind.wrap .u64 (y * 2 ^ (min ((IntKind.wrap .u64 r) : Int).toNat 64))).fdiv (2 ^ 32))))), (10, .rv (.val (.int .u64 (bitsI .and .u64 (IntKind.wrap .u64 (y * 2 ^ (min ((IntKind.wrap .u64 r) : Int).toNat 64))) 4294967295)))), (11, .rv (.val (.int .u64 (bitsI .or .u64 (IntKind.wrap .u64 (hi * 2 ^ (min ((IntKind.wrap .u64 r) : Int).toNat 64))) (lo.fdiv (2 ^ (min ((IntKind.wrap .u64 (64 - (IntKind.wrap .u64 r))) : Int).toNat 64))))))), (13, .rv (.val (.int .u64 ((IntKind.wrap .u64 (lo * 2 ^ (min ((IntKind.wrap .u64 r) : Int).toNat 64))).fdiv (2 ^ 32))))), (14, .rv (.val (.int .u64 (bitsI .and .u64 (IntKind.wrap .u64 (lo * 2 ^ (min ((IntKind.wrap .u64 r) : Int).toNat 64))) 4294967295)))), (15, .rv (.val (.int .u64 s2.1))), (16, .rv (.val (.int .u64 s2.2)))], [], 0⟩ : St)
def math_bits_Div64_j4_S (hi : Int) (lo : Int) (y : Int) : Unit → St := fun s1 => (⟨[(0, .rv (.val (.int .u64 hi))), (1, .rv (.val (.int .u64 lo))), (2, .rv (.val (.int .u64 y)))], [], 0⟩ : St)
def math_bits_Div64_j5_S (hi : Int) (lo : Int) (y : Int) : Unit → St := fun s => (⟨[(0, .rv (.val (.int .u64 hi))), (1, .rv (.val (.int .u64 lo))), (2, .rv (.val (.int .u64 y)))], [], 0⟩ : St)
theorem s_math_bits_Div64_j0 (hi : Int) (lo : Int) (y : Int) (r : Int) (s3 : Int) (s5 : Int) : Sat (cx 135 [.tmp 6, .tmp 7]) (R0 math_bits_Div64_E) D0 ((cx 135 [.tmp 6, .tmp 7]).ex (sub b196 [true, true, true, true, true, true, true, true, true, true, true, true, true, true, true, true, true, true, true]) (math_bits_Div64_j0_S hi lo y r s3 s5) ((cx 135 [.tmp 6, .tmp 7]).kAt b196 [true, true, true, true, true, true, true, true, true, true, true, true, true, true, true, true, true, true, true] (k0 (cx 135 [.tmp 6, .tmp 7]).ti (cx 135 [.tmp 6, .tmp 7]).rvs))) (math_bits_Div64_j0 hi lo y r s3 s5) := by
 delta math_bits_Div64_j0
 refine Sat.need (g := true) (p := (0 : Int) ≤ (IntKind.wrap .u64 r)) (by kernel_rfl) (fun h _ => by exact h) ?_
 exact Sat.ret0 [true, true] (by kernel_rfl) (by kernel_rfl)
theorem s_math_bits_Div64_l2 (hi : Int) (lo : Int) (y : Int) (r : Int) (s3 : Int) (s4 : (Int × Int)) : Sat (cx 135 [.tmp 6, .tmp 7]) (loopR (R0 math_bits_Div64_E)) (loopD (cx 135 [.tmp 6, .tmp 7]) (R0 math_bits_Div64_E) D0 (math_bits_Div64_l2_S hi lo y r s3) [(2, false), (8, false), (9, false), (10, false), (14, false), (15, false), (16, false), (17, false), (18, false)] ((cx 135 [.tmp 6, .tmp 7]).kAt b196 [true, true, true, true, true, true, true, true, true, true, true, true, true, true, true, true, true, true, false, false] (k0 (cx 135 [.tmp 6, .tmp 7]).ti (cx 135 [.tmp 6, .tmp 7]).rvs))) ((cx 135 [.tmp 6, .tmp 7]).ex (sub b196 [true, true, true, true, true, true, true, true, true, true, true, true, true, true, true, true, true, true, false, false, false]) (math_bits_Div64_l2_S hi lo y r s3 s4) T.done) (math_bits_Div64_l2 hi lo y r s3 s4) := by
 delta math_bits_Div64_l2
 refine Sat.ite (by kernel_rfl) ?_ ?_
 ·refine Sat.ite (by kernel_rfl) ?_ ?_
  ·refine Sat.out (id := 2) (by kernel_rfl) ?_
   exact Sat.cut (s0 := (IntKind.wrap .u64 (s4.2 - 1))) [(2, false), (8, false), (14, false), (15, false), (17, false), (18, false)] c_ok (by kernel_rfl) (by kernel_rfl) (by kernel_rfl) (by kernel_rfl) (s_math_bits_Div64_j0 hi lo y r s3)
  exact Sat.next (by kernel_rfl) (by kernel_rfl)
 refine Sat.out (id := 2) (by kernel_rfl) ?_
 exact Sat.cut (s0 := s4.2) [(2, false), (8, false), (14, false), (15, false), (17, false), (18, false)] c_ok (by kernel_rfl) (by kernel_rfl) (by kernel_rfl) (by kernel_rfl) (s_math_bits_Div64_j0 hi lo y r s3)
end Go.Cb
