/- Each function does what its plain form says. Conditions: none. -/
import Derived.Test.YtkiolflkkbfaiaaDoorCbDefs
import Derived.Test.YtkiolflkkbfaiaaDoorCbTis
set_option linter.unusedVariables false
set_option linter.unusedSimpArgs false
namespace Go.Cb
open Go.Eng Go.RowKit
open Go.Proofs
noncomputable def b17 : Code := (Tryd.f17.body).getD .skip
def slices_Clone_api_Leg_api_Leg_E : (List ApiLeg) → List RR := fun r => [.own 61 (List.map ApiLeg.enc r)]
theorem s_slices_Clone_api_Leg_api_Leg (s : (List ApiLeg)) : DoesP Tryd.prog gt 17 [.val (.slice (List.map ApiLeg.enc s))] slices_Clone_api_Leg_api_Leg_E (slices_Clone_api_Leg_api_Leg s) := by
  refine does_of (c := (cx 8 [.tmp 2])) c_ok (fn := Tryd.f17) (code := b17) Tryd.func17 (by kernel_rfl) (by kernel_rfl) (by kernel_rfl) (by kernel_rfl) (by kernel_rfl) ?_
  delta slices_Clone_api_Leg_api_Leg
  refine Sat.anyNil (l := s) (enc := ApiLeg.enc) (A' := some ([])) (by kernel_rfl) (fun h => by simp [h]) ?_ ?_
  · refine Sat.iteT (by kernel_rfl) ?_
    exact Sat.ret0 [false] (by kernel_rfl) (by kernel_rfl)
  refine Sat.iteF (by kernel_rfl) ?_
  refine Sat.need (g := true) (p := (∀ r ∈ (List.map ApiLeg.enc s), r.length = 3) ∧ ((List.map ApiLeg.enc ([])).length + (List.map ApiLeg.enc s).length) * 32 ≤ 140737488355328) (by kernel_rfl) (fun h _ => by exact ⟨map_len ApiLeg.enc 3 (fun _ => rfl) _, by simpa [sliceRows, List.length_set] using h⟩) ?_
  exact Sat.ret0 [false] (by kernel_rfl) (Eq.trans (b := [.own 61 ((List.map ApiLeg.enc ([])) ++ (List.map ApiLeg.enc s))]) (by kernel_rfl) (by simp [slices_Clone_api_Leg_api_Leg_E, ApiLeg.enc, List.map_append, List.map_set, List.map_take, List.map_drop, sliceRows_map, List.map_replicate, eInt, eBool, eStr]))
noncomputable def b12 : Code := (Tryd.f12.body).getD .skip
def clone_Entry_E : ApiEntry → List RR := fun r => [.val (.agg (ApiEntry.enc r))]
theorem s_clone_Entry (e : ApiEntry) : DoesP Tryd.prog gt 12 [.val (.agg (ApiEntry.enc e))] clone_Entry_E (clone_Entry e) := by
  refine does_of (c := (cx 8 [.cell 2 29])) c_ok (fn := Tryd.f12) (code := b12) Tryd.func12 (by kernel_rfl) (by kernel_rfl) (by kernel_rfl) (by kernel_rfl) (by kernel_rfl) ?_
  delta clone_Entry
  refine Sat.call (s_slices_Clone_api_Leg_api_Leg e.Legs) (by kernel_rfl) (fun r => ?_)
  exact Sat.ret0 [true] (by kernel_rfl) (by kernel_rfl)
noncomputable def b8 : Code := (Tryd.f8.body).getD .skip
def backdate_Events_E : (List ApiEntry) → List RR := fun r => [.own 29 (List.map ApiEntry.enc r)]
def backdate_Events_j0_S (j : (List ApiEntry)) (s : (Int × (List ApiEntry))) : (List ApiEntry) → St := fun s1 => (⟨[(3, .rv (.own 0)), (6, .rv (.val (.slice (List.map ApiEntry.enc j)))), (7, .rv (.val (.int .i64 ((List.map ApiEntry.enc j).length : Int)))), (8, .rv (.val (.int .i64 s.1)))], [(0, some (.vec 29 (List.map ApiEntry.enc s1)))], 1⟩ : St)
def backdate_Events_l1_S (j : (List ApiEntry)) : (Int × (List ApiEntry)) → St := fun s => (⟨[(3, .rv (.own 0)), (6, .rv (.val (.slice (List.map ApiEntry.enc j)))), (7, .rv (.val (.int .i64 ((List.map ApiEntry.enc j).length : Int)))), (8, .rv (.val (.int .i64 s.1)))], [(0, some (.vec 29 (List.map ApiEntry.enc s.2)))], 1⟩ : St)
theorem s_backdate_Events_j0 (j : (List ApiEntry)) (s : (Int × (List ApiEntry))) (s1 : (List ApiEntry)) : Sat (cx 27 [.tmp 2]) (loopR (R0 backdate_Events_E)) (loopD (cx 27 [.tmp 2]) (R0 backdate_Events_E) D0 (backdate_Events_l1_S j) [(3, false), (6, false), (7, false), (8, false)] ((cx 27 [.tmp 2]).kAt b8 [true, true, false, true, false] (k0 (cx 27 [.tmp 2]).ti (cx 27 [.tmp 2]).rvs))) ((cx 27 [.tmp 2]).ex (sub b8 [true, true, false, true, false, false, true, true, true]) (backdate_Events_j0_S j s s1) ((cx 27 [.tmp 2]).kAt b8 [true, true, false, true, false, false, true, true, true] (k0 (cx 27 [.tmp 2]).ti (cx 27 [.tmp 2]).rvs))) (backdate_Events_j0 s s1) := by
  delta backdate_Events_j0
  exact Sat.next (by kernel_rfl) (by kernel_rfl)
theorem s_backdate_Events_l1 (j : (List ApiEntry)) (s : (Int × (List ApiEntry))) : Sat (cx 27 [.tmp 2]) (loopR (R0 backdate_Events_E)) (loopD (cx 27 [.tmp 2]) (R0 backdate_Events_E) D0 (backdate_Events_l1_S j) [(3, false), (6, false), (7, false), (8, false)] ((cx 27 [.tmp 2]).kAt b8 [true, true, false, true, false] (k0 (cx 27 [.tmp 2]).ti (cx 27 [.tmp 2]).rvs))) ((cx 27 [.tmp 2]).ex (sub b8 [true, true, false, true, false, false]) (backdate_Events_l1_S j s) T.done) (backdate_Events_l1 j s) := by
  delta backdate_Events_l1
  refine Sat.ite (by kernel_rfl) ?_ ?_
  · refine Sat.opt (enc := ApiEntry.enc) (by kernel_rfl) (getRow_map _ _ _) (fun ji => ?_)
    refine Sat.ite (by kernel_rfl) ?_ ?_
    · refine Sat.call (s_clone_Entry ji) (by kernel_rfl) (fun r => ?_)
      refine Sat.need (g := true) (p := ((List.map ApiEntry.enc s.2).length + (List.map ApiEntry.enc ([r])).length) * 112 ≤ 140737488355328) (by kernel_rfl) (fun h _ => by simpa [sliceRows, List.length_set] using h) ?_
      exact Sat.cut (s0 := (s.2 ++ ([r]))) [(3, false), (6, false), (7, false), (8, false)] c_ok (by kernel_rfl) (Eq.trans (b := (⟨[(3, .rv (.own 0)), (6, .rv (.val (.slice (List.map ApiEntry.enc j)))), (7, .rv (.val (.int .i64 ((List.map ApiEntry.enc j).length : Int)))), (8, .rv (.val (.int .i64 s.1)))], [(0, some (.vec 29 ((List.map ApiEntry.enc s.2) ++ (List.map ApiEntry.enc ([r])))))], 1⟩ : St)) (by kernel_rfl) (by simp [backdate_Events_j0_S, ApiEntry.enc, List.map_append, List.map_set, List.map_take, List.map_drop, sliceRows_map, List.map_replicate, eInt, eBool, eStr])) (by kernel_rfl) (by kernel_rfl) (s_backdate_Events_j0 j s)
    exact Sat.cut (s0 := s.2) [(3, false), (6, false), (7, false), (8, false)] c_ok (by kernel_rfl) (by kernel_rfl) (by kernel_rfl) (by kernel_rfl) (s_backdate_Events_j0 j s)
  refine Sat.out (id := 0) (A := some s.2) (by kernel_rfl) ?_
  exact Sat.ret0 [false] (by kernel_rfl) (by kernel_rfl)
theorem s_backdate_Events (j : (List ApiEntry)) : DoesP Tryd.prog gt 8 [.val (.slice (List.map ApiEntry.enc j))] backdate_Events_E (backdate_Events j) := by
  refine does_of (c := (cx 27 [.tmp 2])) c_ok (fn := Tryd.f8) (code := b8) Tryd.func8 (by kernel_rfl) (by kernel_rfl) (by kernel_rfl) (by kernel_rfl) (by kernel_rfl) ?_
  delta backdate_Events
  exact Sat.loop (s0 := (0, [])) [(3, false), (6, false), (7, false), (8, false)] c_ok (by kernel_rfl) (by kernel_rfl) (by kernel_rfl) (by kernel_rfl) (s_backdate_Events_l1 j)
noncomputable def b5 : Code := (Tryd.f5.body).getD .skip
def backdate_Affected_E : (List Int) → List RR := fun r => [.own 3 (List.map (eInt .i64) r)]
def backdate_Affected_j0_S (l : (List ApiPeriod)) (id : Int) (value : Int) (s : (Int × (List Int))) : (List Int) → St := fun s1 => (⟨[(1, .rv (.val (.int .i64 id))), (2, .rv (.val (.int .i64 value))), (7, .rv (.own 0)), (10, .rv (.val (.slice (List.map ApiPeriod.enc l)))), (11, .rv (.val (.int .i64 ((List.map ApiPeriod.enc l).length : Int)))), (12, .rv (.val (.int .i64 s.1)))], [(0, some (.vec 3 (List.map (eInt .i64) s1)))], 1⟩ : St)
def backdate_Affected_l1_S (l : (List ApiPeriod)) (id : Int) (value : Int) : (Int × (List Int)) → St := fun s => (⟨[(1, .rv (.val (.int .i64 id))), (2, .rv (.val (.int .i64 value))), (7, .rv (.own 0)), (10, .rv (.val (.slice (List.map ApiPeriod.enc l)))), (11, .rv (.val (.int .i64 ((List.map ApiPeriod.enc l).length : Int)))), (12, .rv (.val (.int .i64 s.1)))], [(0, some (.vec 3 (List.map (eInt .i64) s.2)))], 1⟩ : St)
theorem s_backdate_Affected_j0 (l : (List ApiPeriod)) (id : Int) (value : Int) (s : (Int × (List Int))) (s1 : (List Int)) : Sat (cx 33 [.tmp 6]) (loopR (R0 backdate_Affected_E)) (loopD (cx 33 [.tmp 6]) (R0 backdate_Affected_E) D0 (backdate_Affected_l1_S l id value) [(1, false), (2, false), (7, false), (10, false), (11, false), (12, false)] ((cx 33 [.tmp 6]).kAt b5 [true, true, false, true, false] (k0 (cx 33 [.tmp 6]).ti (cx 33 [.tmp 6]).rvs))) ((cx 33 [.tmp 6]).ex (sub b5 [true, true, false, true, false, false, true, true, true]) (backdate_Affected_j0_S l id value s s1) ((cx 33 [.tmp 6]).kAt b5 [true, true, false, true, false, false, true, true, true] (k0 (cx 33 [.tmp 6]).ti (cx 33 [.tmp 6]).rvs))) (backdate_Affected_j0 s s1) := by
  delta backdate_Affected_j0
  exact Sat.next (by kernel_rfl) (by kernel_rfl)
theorem s_backdate_Affected_l1 (l : (List ApiPeriod)) (id : Int) (value : Int) (s : (Int × (List Int))) : Sat (cx 33 [.tmp 6]) (loopR (R0 backdate_Affected_E)) (loopD (cx 33 [.tmp 6]) (R0 backdate_Affected_E) D0 (backdate_Affected_l1_S l id value) [(1, false), (2, false), (7, false), (10, false), (11, false), (12, false)] ((cx 33 [.tmp 6]).kAt b5 [true, true, false, true, false] (k0 (cx 33 [.tmp 6]).ti (cx 33 [.tmp 6]).rvs))) ((cx 33 [.tmp 6]).ex (sub b5 [true, true, false, true, false, false]) (backdate_Affected_l1_S l id value s) T.done) (backdate_Affected_l1 l id value s) := by
  delta backdate_Affected_l1
  refine Sat.ite (by kernel_rfl) ?_ ?_
  · refine Sat.opt (enc := ApiPeriod.enc) (by kernel_rfl) (getRow_map _ _ _) (fun li => ?_)
    refine Sat.ite (by kernel_rfl) ?_ ?_
    · refine Sat.need (g := true) (p := ((List.map (eInt .i64) s.2).length + (List.map (eInt .i64) ([s.1])).length) * 8 ≤ 140737488355328) (by kernel_rfl) (fun h _ => by simpa [sliceRows, List.length_set] using h) ?_
      exact Sat.cut (s0 := (s.2 ++ ([s.1]))) [(1, false), (2, false), (7, false), (10, false), (11, false), (12, false)] c_ok (by kernel_rfl) (Eq.trans (b := (⟨[(1, .rv (.val (.int .i64 id))), (2, .rv (.val (.int .i64 value))), (7, .rv (.own 0)), (10, .rv (.val (.slice (List.map ApiPeriod.enc l)))), (11, .rv (.val (.int .i64 ((List.map ApiPeriod.enc l).length : Int)))), (12, .rv (.val (.int .i64 s.1)))], [(0, some (.vec 3 ((List.map (eInt .i64) s.2) ++ (List.map (eInt .i64) ([s.1])))))], 1⟩ : St)) (by kernel_rfl) (by simp [backdate_Affected_j0_S, List.map_append, List.map_set, List.map_take, List.map_drop, sliceRows_map, List.map_replicate, eInt, eBool, eStr])) (by kernel_rfl) (by kernel_rfl) (s_backdate_Affected_j0 l id value s)
    exact Sat.cut (s0 := s.2) [(1, false), (2, false), (7, false), (10, false), (11, false), (12, false)] c_ok (by kernel_rfl) (by kernel_rfl) (by kernel_rfl) (by kernel_rfl) (s_backdate_Affected_j0 l id value s)
  refine Sat.out (id := 0) (A := some s.2) (by kernel_rfl) ?_
  exact Sat.ret0 [false] (by kernel_rfl) (by kernel_rfl)
theorem s_backdate_Affected (l : (List ApiPeriod)) (id : Int) (value : Int) : DoesP Tryd.prog gt 5 [.val (.slice (List.map ApiPeriod.enc l)), .val (.int .i64 id), .val (.int .i64 value)] backdate_Affected_E (backdate_Affected l id value) := by
  refine does_of (c := (cx 33 [.tmp 6])) c_ok (fn := Tryd.f5) (code := b5) Tryd.func5 (by kernel_rfl) (by kernel_rfl) (by kernel_rfl) (by kernel_rfl) (by kernel_rfl) ?_
  delta backdate_Affected
  exact Sat.loop (s0 := (0, [])) [(1, false), (2, false), (7, false), (10, false), (11, false), (12, false)] c_ok (by kernel_rfl) (by kernel_rfl) (by kernel_rfl) (by kernel_rfl) (s_backdate_Affected_l1 l id value)
noncomputable def b21 : Code := (Tryd.f21.body).getD .skip
def account_index_c1_E : Bool → List RR := fun r => [.val (.bool r)]
theorem s_account_index_c1 (a : ApiAccount) (c0 : Int) : DoesP Tryd.prog gt 21 [.val (.agg (ApiAccount.enc a)), .row [.int .i64 c0]] account_index_c1_E (account_index_c1 a c0) := by
  refine does_of (c := (cx 8 [.tmp 3])) c_ok (fn := Tryd.f21) (code := b21) Tryd.func21 (by kernel_rfl) (by kernel_rfl) (by kernel_rfl) (by kernel_rfl) (by kernel_rfl) ?_
  delta account_index_c1
  exact Sat.ret0 [true] (by kernel_rfl) (by kernel_rfl)
noncomputable def b20 : Code := (Tryd.f20.body).getD .skip
def slices_IndexFunc_api_Account_api_Account__account_index_c1_E : Int → List RR := fun r => [.val (.int .i64 r)]
def slices_IndexFunc_api_Account_api_Account__account_index_c1_l1_S (s : (List ApiAccount)) (f0 : Int) : Int → St := fun s1 => (⟨[(0, .rv (.val (.slice (List.map ApiAccount.enc s)))), (1, .rv (.val (.fn 21 [[.int .i64 f0]]))), (7, .rv (.val (.int .i64 ((List.map ApiAccount.enc s).length : Int)))), (8, .rv (.val (.int .i64 s1)))], [], 0⟩ : St)
theorem s_slices_IndexFunc_api_Account_api_Account__account_index_c1_l1 (s : (List ApiAccount)) (f0 : Int) (s1 : Int) : Sat (cx 19 [.tmp 4]) (loopR (R0 slices_IndexFunc_api_Account_api_Account__account_index_c1_E)) (loopD (cx 19 [.tmp 4]) (R0 slices_IndexFunc_api_Account_api_Account__account_index_c1_E) D0 (slices_IndexFunc_api_Account_api_Account__account_index_c1_l1_S s f0) [(0, false), (1, false), (7, false), (8, false)] ((cx 19 [.tmp 4]).kAt b20 [true, false, true, false] (k0 (cx 19 [.tmp 4]).ti (cx 19 [.tmp 4]).rvs))) ((cx 19 [.tmp 4]).ex (sub b20 [true, false, true, false, false]) (slices_IndexFunc_api_Account_api_Account__account_index_c1_l1_S s f0 s1) T.done) (slices_IndexFunc_api_Account_api_Account__account_index_c1_l1 s f0 s1) := by
  delta slices_IndexFunc_api_Account_api_Account__account_index_c1_l1
  refine Sat.ite (by kernel_rfl) ?_ ?_
  · refine Sat.opt (enc := ApiAccount.enc) (by kernel_rfl) (getRow_map _ _ _) (fun si => ?_)
    refine Sat.call (s_account_index_c1 si f0) (by kernel_rfl) (fun r => ?_)
    refine Sat.ite (by kernel_rfl) ?_ ?_
    · refine Sat.retL (D := D0) (A := some s1) (by kernel_rfl) ?_
      exact Sat.ret0 [true] (by kernel_rfl) (by kernel_rfl)
    exact Sat.next (by kernel_rfl) (by kernel_rfl)
  refine Sat.out (id := 0) (A := some (-1)) (by kernel_rfl) ?_
  exact Sat.ret0 [true] (by kernel_rfl) (by kernel_rfl)
theorem s_slices_IndexFunc_api_Account_api_Account__account_index_c1 (s : (List ApiAccount)) (f0 : Int) : DoesP Tryd.prog gt 20 [.val (.slice (List.map ApiAccount.enc s)), .val (.fn 21 [[.int .i64 f0]])] slices_IndexFunc_api_Account_api_Account__account_index_c1_E (slices_IndexFunc_api_Account_api_Account__account_index_c1 s f0) := by
  refine does_of (c := (cx 19 [.tmp 4])) c_ok (fn := Tryd.f20) (code := b20) Tryd.func20 (by kernel_rfl) (by kernel_rfl) (by kernel_rfl) (by kernel_rfl) (by kernel_rfl) ?_
  delta slices_IndexFunc_api_Account_api_Account__account_index_c1
  exact Sat.loop (s0 := 0) [(0, false), (1, false), (7, false), (8, false)] c_ok (by kernel_rfl) (by kernel_rfl) (by kernel_rfl) (by kernel_rfl) (s_slices_IndexFunc_api_Account_api_Account__account_index_c1_l1 s f0)
noncomputable def b18 : Code := (Tryd.f18.body).getD .skip
def account_index_E : Int → List RR := fun r => [.val (.int .i64 r)]
theorem s_account_index (b : ApiBooks) (id : Int) : DoesP Tryd.prog gt 18 [.val (.agg (ApiBooks.enc b)), .val (.int .i64 id)] account_index_E (account_index b id) := by
  refine does_of (c := (cx 9 [.tmp 4])) c_ok (fn := Tryd.f18) (code := b18) Tryd.func18 (by kernel_rfl) (by kernel_rfl) (by kernel_rfl) (by kernel_rfl) (by kernel_rfl) ?_
  delta account_index
  refine Sat.call (s_slices_IndexFunc_api_Account_api_Account__account_index_c1 b.Accounts id) (by kernel_rfl) (fun r => ?_)
  exact Sat.ret0 [true] (by kernel_rfl) (by kernel_rfl)
noncomputable def b14 : Code := (Tryd.f14.body).getD .skip
def account_Find_E : (ApiAccount × Bool) → List RR := fun r => [.val (.agg (ApiAccount.enc r.1)), .val (.bool r.2)]
theorem s_account_Find (b : ApiBooks) (id : Int) : DoesP Tryd.prog gt 14 [.val (.agg (ApiBooks.enc b)), .val (.int .i64 id)] account_Find_E (account_Find b id) := by
  refine does_of (c := (cx 18 [.cell 4 55, .tmp 5])) c_ok (fn := Tryd.f14) (code := b14) Tryd.func14 (by kernel_rfl) (by kernel_rfl) (by kernel_rfl) (by kernel_rfl) (by kernel_rfl) ?_
  delta account_Find
  refine Sat.call (s_account_index b id) (by kernel_rfl) (fun r => ?_)
  refine Sat.ite (by kernel_rfl) ?_ ?_
  · exact Sat.ret0 [true, true] (by kernel_rfl) (by kernel_rfl)
  refine Sat.opt (enc := ApiAccount.enc) (by kernel_rfl) (getRow_map _ _ _) (fun account => ?_)
  exact Sat.ret0 [true, true] (by kernel_rfl) (by kernel_rfl)
noncomputable def b10 : Code := (Tryd.f10.body).getD .skip
def backdate_Clean_E : Bool → List RR := fun r => [.val (.bool r)]
def backdate_Clean_l1_S (b : ApiBooks) (l : (List ApiPeriod)) (id : Int) : Unit → St := fun s => (⟨[(1, .rv (.val (.slice (List.map ApiPeriod.enc l)))), (2, .rv (.val (.int .i64 id))), (3, .box 0 0), (19, .rv (.val (.slice (List.map ApiPeriod.enc l)))), (20, .rv (.val (.int .i64 ((List.map ApiPeriod.enc l).length : Int)))), (21, .rv (.val (.int .i64 0)))], [(0, some (.box [.val (.slice (List.map ApiCurrency.enc b.Currencies)), .val (.slice (List.map ApiCalendar.enc b.Calendars)), .val (.slice (List.map ApiGl.enc b.Chart)), .val (.int .i64 b.Plan.Cash), .val (.int .i64 b.Plan.Deposits), .val (.int .i64 b.Plan.InterestPaid), .val (.int .i64 b.Plan.InterestEarned), .val (.int .i64 b.Plan.FeeEarned), .val (.int .i64 b.Plan.Tax), .val (.int .i64 b.Plan.Clearing), .val (.int .i64 b.Plan.Loans), .val (.int .i64 b.Plan.LoanInterest), .val (.int .i64 b.Plan.Penalty), .val (.int .i64 b.Plan.Provision), .val (.int .i64 b.Plan.ProvisionCost), .val (.int .i64 b.Plan.Loss), .val (.int .i64 b.Plan.Recovery), .val (.slice (List.map ApiProduct.enc b.Products)), .val (.slice (List.map ApiAccount.enc b.Accounts)), .val (.slice (List.map ApiEntry.enc b.Journal)), .val (.slice (List.map ApiHold.enc b.Holds)), .val (.slice (List.map ApiBlock.enc b.Blocks))]))], 1⟩ : St)
theorem s_backdate_Clean_l1 (b : ApiBooks) (l : (List ApiPeriod)) (id : Int) (s : Unit) : Sat (cx 38 [.tmp 6]) (loopR (R0 backdate_Clean_E)) (loopD (cx 38 [.tmp 6]) (R0 backdate_Clean_E) D0 (backdate_Clean_l1_S b l id) [(1, false), (2, false), (3, false), (19, false), (20, false), (21, false)] ((cx 38 [.tmp 6]).kAt b10 [true, true, false, true, false] (k0 (cx 38 [.tmp 6]).ti (cx 38 [.tmp 6]).rvs))) ((cx 38 [.tmp 6]).ex (sub b10 [true, true, false, true, false, false]) (backdate_Clean_l1_S b l id s) T.done) (backdate_Clean_l1 l s) := by
  delta backdate_Clean_l1
  refine Sat.ite (by kernel_rfl) ?_ ?_
  · refine Sat.opt (enc := ApiPeriod.enc) (by kernel_rfl) (getRow_map _ _ _) (fun li => ?_)
    exact Sat.none
  refine Sat.out (id := 0) (A := some true) (by kernel_rfl) ?_
  exact Sat.ret0 [true] (by kernel_rfl) (by kernel_rfl)
theorem s_backdate_Clean (b : ApiBooks) (l : (List ApiPeriod)) (id : Int) : DoesP Tryd.prog gt 10 [.val (.agg (ApiBooks.enc b)), .val (.slice (List.map ApiPeriod.enc l)), .val (.int .i64 id)] backdate_Clean_E (backdate_Clean b l id) := by
  refine does_of (c := (cx 38 [.tmp 6])) c_ok (fn := Tryd.f10) (code := b10) Tryd.func10 (by kernel_rfl) (by kernel_rfl) (by kernel_rfl) (by kernel_rfl) (by kernel_rfl) ?_
  delta backdate_Clean
  refine Sat.call (s_account_Find b id) (by kernel_rfl) (fun r => ?_)
  refine Sat.ite (by kernel_rfl) ?_ ?_
  · exact Sat.ret0 [true] (by kernel_rfl) (by kernel_rfl)
  exact Sat.loop (s0 := ()) [(1, false), (2, false), (3, false), (19, false), (20, false), (21, false)] c_ok (by kernel_rfl) (by kernel_rfl) (by kernel_rfl) (by kernel_rfl) (s_backdate_Clean_l1 b l id)
noncomputable def b4 : Code := (Tryd.f4.body).getD .skip
def corebanklaw30_Lives_E : Bool → List RR := fun r => [.val (.bool r)]
theorem s_corebanklaw30_Lives : DoesP Tryd.prog gt 4 [] corebanklaw30_Lives_E (corebanklaw30_Lives) := by
  refine does_of (c := (cx 51 [.tmp 0])) c_ok (fn := Tryd.f4) (code := b4) Tryd.func4 (by kernel_rfl) (by kernel_rfl) (by kernel_rfl) (by kernel_rfl) (by kernel_rfl) ?_
  delta corebanklaw30_Lives
  refine Sat.call (s_backdate_Events ([(⟨0, 0, 0, 1, 0, 0, (bs [97]), (bs []), [], 0⟩ : ApiEntry), (⟨0, 0, 0, 4, 0, 0, (bs [98]), (bs []), [], 0⟩ : ApiEntry), (⟨0, 0, 0, 5, 0, 0, (bs [99]), (bs []), [], 0⟩ : ApiEntry), (⟨0, 0, 0, 6, 0, 0, (bs [100]), (bs []), [], 0⟩ : ApiEntry)])) (by kernel_rfl) (fun r => ?_)
  refine Sat.call (s_backdate_Affected ([(⟨1000, 0, 5, 0, 0, 0, 0, (⟨0, 0⟩ : ApiWide), (⟨0, 0⟩ : ApiWide)⟩ : ApiPeriod), (⟨1001, 0, 9, 0, 0, 0, 0, (⟨0, 0⟩ : ApiWide), (⟨0, 0⟩ : ApiWide)⟩ : ApiPeriod), (⟨1000, 0, 9, 0, 0, 0, 0, (⟨0, 0⟩ : ApiWide), (⟨0, 0⟩ : ApiWide)⟩ : ApiPeriod)]) 1000 6) (by kernel_rfl) (fun r1 => ?_)
  refine Sat.optG (enc := ApiEntry.enc) (by kernel_rfl) (getRow_map _ _ _) (fun o => ?_)
  refine Sat.optG (enc := ApiEntry.enc) (by kernel_rfl) (getEl_map _ _ _) (fun x => ?_)
  refine Sat.optG (enc := ApiEntry.enc) (by kernel_rfl) (getRow_map _ _ _) (fun o2 => ?_)
  refine Sat.optG (enc := ApiEntry.enc) (by kernel_rfl) (getEl_map _ _ _) (fun x3 => ?_)
  refine Sat.optG (enc := (eInt .i64)) (by kernel_rfl) (getRow_map _ _ _) (fun o4 => ?_)
  refine Sat.optG (enc := (eInt .i64)) (by kernel_rfl) (getEl_map _ _ _) (fun x5 => ?_)
  refine Sat.callG (s_backdate_Clean (⟨[], [], [], (⟨0, 0, 0, 0, 0, 0, 0, 0, 0, 0, 0, 0, 0, 0⟩ : ApiPlan), [], [], [], [], []⟩ : ApiBooks) ([]) 1000) (by kernel_rfl) (fun r6 => ?_)
  exact Sat.ret0 [true] (by kernel_rfl) (by kernel_rfl)
noncomputable def b6 : Code := (Tryd.f6.body).getD .skip
def corebankref30_Affected_E : (List Int) → List RR := fun r => [.own 3 (List.map (eInt .i64) r)]
def corebankref30_Affected_j0_S (l : (List ApiPeriod)) (id : Int) (value : Int) (s : (Int × (List Int))) : (List Int) → St := fun s2 => (⟨[(0, .rv (.val (.slice (List.map ApiPeriod.enc l)))), (1, .rv (.val (.int .i64 id))), (2, .rv (.val (.int .i64 value))), (7, .rv (.own 0)), (8, .rv (.val (.int .i64 s.1)))], [(0, some (.vec 3 (List.map (eInt .i64) s2)))], 1⟩ : St)
def corebankref30_Affected_l1_S (l : (List ApiPeriod)) (id : Int) (value : Int) : (Int × (List Int)) → St := fun s => (⟨[(0, .rv (.val (.slice (List.map ApiPeriod.enc l)))), (1, .rv (.val (.int .i64 id))), (2, .rv (.val (.int .i64 value))), (7, .rv (.own 0)), (8, .rv (.val (.int .i64 s.1)))], [(0, some (.vec 3 (List.map (eInt .i64) s.2)))], 1⟩ : St)
theorem s_corebankref30_Affected_j0 (l : (List ApiPeriod)) (id : Int) (value : Int) (s : (Int × (List Int))) (s2 : (List Int)) : Sat (cx 36 [.tmp 6]) (loopR (R0 corebankref30_Affected_E)) (loopD (cx 36 [.tmp 6]) (R0 corebankref30_Affected_E) D0 (corebankref30_Affected_l1_S l id value) [(0, false), (1, false), (2, false), (7, false), (8, false)] ((cx 36 [.tmp 6]).kAt b6 [true, true, false, true, false] (k0 (cx 36 [.tmp 6]).ti (cx 36 [.tmp 6]).rvs))) ((cx 36 [.tmp 6]).ex (sub b6 [true, true, false, true, false, false, true, true]) (corebankref30_Affected_j0_S l id value s s2) ((cx 36 [.tmp 6]).kAt b6 [true, true, false, true, false, false, true, true] (k0 (cx 36 [.tmp 6]).ti (cx 36 [.tmp 6]).rvs))) (corebankref30_Affected_j0 s s2) := by
  delta corebankref30_Affected_j0
  exact Sat.next (by kernel_rfl) (by kernel_rfl)
theorem s_corebankref30_Affected_l1 (l : (List ApiPeriod)) (id : Int) (value : Int) (s : (Int × (List Int))) : Sat (cx 36 [.tmp 6]) (loopR (R0 corebankref30_Affected_E)) (loopD (cx 36 [.tmp 6]) (R0 corebankref30_Affected_E) D0 (corebankref30_Affected_l1_S l id value) [(0, false), (1, false), (2, false), (7, false), (8, false)] ((cx 36 [.tmp 6]).kAt b6 [true, true, false, true, false] (k0 (cx 36 [.tmp 6]).ti (cx 36 [.tmp 6]).rvs))) ((cx 36 [.tmp 6]).ex (sub b6 [true, true, false, true, false, false]) (corebankref30_Affected_l1_S l id value s) T.done) (corebankref30_Affected_l1 l id value s) := by
  delta corebankref30_Affected_l1
  refine Sat.ite (by kernel_rfl) ?_ ?_
  · refine Sat.opt (enc := ApiPeriod.enc) (by kernel_rfl) (getRow_map _ _ _) (fun li => ?_)
    refine Sat.optG (enc := ApiPeriod.enc) (by kernel_rfl) (getRow_map _ _ _) (fun li1 => ?_)
    refine Sat.ite (by kernel_rfl) ?_ ?_
    · refine Sat.need (g := true) (p := ((List.map (eInt .i64) s.2).length + (List.map (eInt .i64) ([s.1])).length) * 8 ≤ 140737488355328) (by kernel_rfl) (fun h _ => by simpa [sliceRows, List.length_set] using h) ?_
      exact Sat.cut (s0 := (s.2 ++ ([s.1]))) [(0, false), (1, false), (2, false), (7, false), (8, false)] c_ok (by kernel_rfl) (Eq.trans (b := (⟨[(0, .rv (.val (.slice (List.map ApiPeriod.enc l)))), (1, .rv (.val (.int .i64 id))), (2, .rv (.val (.int .i64 value))), (7, .rv (.own 0)), (8, .rv (.val (.int .i64 s.1)))], [(0, some (.vec 3 ((List.map (eInt .i64) s.2) ++ (List.map (eInt .i64) ([s.1])))))], 1⟩ : St)) (by kernel_rfl) (by simp [corebankref30_Affected_j0_S, List.map_append, List.map_set, List.map_take, List.map_drop, sliceRows_map, List.map_replicate, eInt, eBool, eStr])) (by kernel_rfl) (by kernel_rfl) (s_corebankref30_Affected_j0 l id value s)
    exact Sat.cut (s0 := s.2) [(0, false), (1, false), (2, false), (7, false), (8, false)] c_ok (by kernel_rfl) (by kernel_rfl) (by kernel_rfl) (by kernel_rfl) (s_corebankref30_Affected_j0 l id value s)
  refine Sat.out (id := 0) (A := some s.2) (by kernel_rfl) ?_
  exact Sat.ret0 [false] (by kernel_rfl) (by kernel_rfl)
theorem s_corebankref30_Affected (l : (List ApiPeriod)) (id : Int) (value : Int) : DoesP Tryd.prog gt 6 [.val (.slice (List.map ApiPeriod.enc l)), .val (.int .i64 id), .val (.int .i64 value)] corebankref30_Affected_E (corebankref30_Affected l id value) := by
  refine does_of (c := (cx 36 [.tmp 6])) c_ok (fn := Tryd.f6) (code := b6) Tryd.func6 (by kernel_rfl) (by kernel_rfl) (by kernel_rfl) (by kernel_rfl) (by kernel_rfl) ?_
  delta corebankref30_Affected
  exact Sat.loop (s0 := (0, [])) [(0, false), (1, false), (2, false), (7, false), (8, false)] c_ok (by kernel_rfl) (by kernel_rfl) (by kernel_rfl) (by kernel_rfl) (s_corebankref30_Affected_l1 l id value)
noncomputable def b13 : Code := (Tryd.f13.body).getD .skip
def corebankref30_Event_E : Bool → List RR := fun r => [.val (.bool r)]
theorem s_corebankref30_Event (e : ApiEntry) : DoesP Tryd.prog gt 13 [.val (.agg (ApiEntry.enc e))] corebankref30_Event_E (corebankref30_Event e) := by
  refine does_of (c := (cx 11 [.tmp 2])) c_ok (fn := Tryd.f13) (code := b13) Tryd.func13 (by kernel_rfl) (by kernel_rfl) (by kernel_rfl) (by kernel_rfl) (by kernel_rfl) ?_
  delta corebankref30_Event
  exact Sat.ret0 [true] (by kernel_rfl) (by kernel_rfl)
noncomputable def b9 : Code := (Tryd.f9.body).getD .skip
def corebankref30_Events_E : (List ApiEntry) → List RR := fun r => [.own 29 (List.map ApiEntry.enc r)]
def corebankref30_Events_j0_S (j : (List ApiEntry)) (s : (Int × (List ApiEntry))) : (List ApiEntry) → St := fun s2 => (⟨[(0, .rv (.val (.slice (List.map ApiEntry.enc j)))), (3, .rv (.own 0)), (4, .rv (.val (.int .i64 s.1)))], [(0, some (.vec 29 (List.map ApiEntry.enc s2)))], 1⟩ : St)
def corebankref30_Events_l1_S (j : (List ApiEntry)) : (Int × (List ApiEntry)) → St := fun s => (⟨[(0, .rv (.val (.slice (List.map ApiEntry.enc j)))), (3, .rv (.own 0)), (4, .rv (.val (.int .i64 s.1)))], [(0, some (.vec 29 (List.map ApiEntry.enc s.2)))], 1⟩ : St)
theorem s_corebankref30_Events_j0 (j : (List ApiEntry)) (s : (Int × (List ApiEntry))) (s2 : (List ApiEntry)) : Sat (cx 24 [.tmp 2]) (loopR (R0 corebankref30_Events_E)) (loopD (cx 24 [.tmp 2]) (R0 corebankref30_Events_E) D0 (corebankref30_Events_l1_S j) [(0, false), (3, false), (4, false)] ((cx 24 [.tmp 2]).kAt b9 [true, true, false, true, false] (k0 (cx 24 [.tmp 2]).ti (cx 24 [.tmp 2]).rvs))) ((cx 24 [.tmp 2]).ex (sub b9 [true, true, false, true, false, false, true, true]) (corebankref30_Events_j0_S j s s2) ((cx 24 [.tmp 2]).kAt b9 [true, true, false, true, false, false, true, true] (k0 (cx 24 [.tmp 2]).ti (cx 24 [.tmp 2]).rvs))) (corebankref30_Events_j0 s s2) := by
  delta corebankref30_Events_j0
  exact Sat.next (by kernel_rfl) (by kernel_rfl)
theorem s_corebankref30_Events_l1 (j : (List ApiEntry)) (s : (Int × (List ApiEntry))) : Sat (cx 24 [.tmp 2]) (loopR (R0 corebankref30_Events_E)) (loopD (cx 24 [.tmp 2]) (R0 corebankref30_Events_E) D0 (corebankref30_Events_l1_S j) [(0, false), (3, false), (4, false)] ((cx 24 [.tmp 2]).kAt b9 [true, true, false, true, false] (k0 (cx 24 [.tmp 2]).ti (cx 24 [.tmp 2]).rvs))) ((cx 24 [.tmp 2]).ex (sub b9 [true, true, false, true, false, false]) (corebankref30_Events_l1_S j s) T.done) (corebankref30_Events_l1 j s) := by
  delta corebankref30_Events_l1
  refine Sat.ite (by kernel_rfl) ?_ ?_
  · refine Sat.opt (enc := ApiEntry.enc) (by kernel_rfl) (getRow_map _ _ _) (fun ji => ?_)
    refine Sat.call (s_corebankref30_Event ji) (by kernel_rfl) (fun r => ?_)
    refine Sat.ite (by kernel_rfl) ?_ ?_
    · refine Sat.opt (enc := ApiEntry.enc) (by kernel_rfl) (getRow_map _ _ _) (fun ji1 => ?_)
      refine Sat.need (g := true) (p := ((List.map ApiEntry.enc s.2).length + (List.map ApiEntry.enc ([ji1])).length) * 112 ≤ 140737488355328) (by kernel_rfl) (fun h _ => by simpa [sliceRows, List.length_set] using h) ?_
      exact Sat.cut (s0 := (s.2 ++ ([ji1]))) [(0, false), (3, false), (4, false)] c_ok (by kernel_rfl) (Eq.trans (b := (⟨[(0, .rv (.val (.slice (List.map ApiEntry.enc j)))), (3, .rv (.own 0)), (4, .rv (.val (.int .i64 s.1)))], [(0, some (.vec 29 ((List.map ApiEntry.enc s.2) ++ (List.map ApiEntry.enc ([ji1])))))], 1⟩ : St)) (by kernel_rfl) (by simp [corebankref30_Events_j0_S, ApiEntry.enc, List.map_append, List.map_set, List.map_take, List.map_drop, sliceRows_map, List.map_replicate, eInt, eBool, eStr])) (by kernel_rfl) (by kernel_rfl) (s_corebankref30_Events_j0 j s)
    exact Sat.cut (s0 := s.2) [(0, false), (3, false), (4, false)] c_ok (by kernel_rfl) (by kernel_rfl) (by kernel_rfl) (by kernel_rfl) (s_corebankref30_Events_j0 j s)
  refine Sat.out (id := 0) (A := some s.2) (by kernel_rfl) ?_
  exact Sat.ret0 [false] (by kernel_rfl) (by kernel_rfl)
theorem s_corebankref30_Events (j : (List ApiEntry)) : DoesP Tryd.prog gt 9 [.val (.slice (List.map ApiEntry.enc j))] corebankref30_Events_E (corebankref30_Events j) := by
  refine does_of (c := (cx 24 [.tmp 2])) c_ok (fn := Tryd.f9) (code := b9) Tryd.func9 (by kernel_rfl) (by kernel_rfl) (by kernel_rfl) (by kernel_rfl) (by kernel_rfl) ?_
  delta corebankref30_Events
  exact Sat.loop (s0 := (0, [])) [(0, false), (3, false), (4, false)] c_ok (by kernel_rfl) (by kernel_rfl) (by kernel_rfl) (by kernel_rfl) (s_corebankref30_Events_l1 j)
noncomputable def b16 : Code := (Tryd.f16.body).getD .skip
def corebankref19_SameLegs_E : Bool → List RR := fun r => [.val (.bool r)]
def corebankref19_SameLegs_l1_S (a : (List ApiLeg)) (b : (List ApiLeg)) : Int → St := fun s => (⟨[(0, .rv (.val (.slice (List.map ApiLeg.enc a)))), (1, .rv (.val (.slice (List.map ApiLeg.enc b)))), (5, .rv (.val (.int .i64 s)))], [], 0⟩ : St)
theorem s_corebankref19_SameLegs_l1 (a : (List ApiLeg)) (b : (List ApiLeg)) (s : Int) : Sat (cx 26 [.tmp 4]) (loopR (R0 corebankref19_SameLegs_E)) (loopD (cx 26 [.tmp 4]) (R0 corebankref19_SameLegs_E) D0 (corebankref19_SameLegs_l1_S a b) [(0, false), (1, false), (5, false)] ((cx 26 [.tmp 4]).kAt b16 [true, true, false, true, false] (k0 (cx 26 [.tmp 4]).ti (cx 26 [.tmp 4]).rvs))) ((cx 26 [.tmp 4]).ex (sub b16 [true, true, false, true, false, false]) (corebankref19_SameLegs_l1_S a b s) T.done) (corebankref19_SameLegs_l1 a b s) := by
  delta corebankref19_SameLegs_l1
  refine Sat.ite (by kernel_rfl) ?_ ?_
  · refine Sat.opt (enc := ApiLeg.enc) (by kernel_rfl) (getRow_map _ _ _) (fun ai => ?_)
    refine Sat.opt (enc := ApiLeg.enc) (by kernel_rfl) (getRow_map _ _ _) (fun bi => ?_)
    refine Sat.ite (by kernel_rfl) ?_ ?_
    · refine Sat.retL (D := D0) (A := some false) (by kernel_rfl) ?_
      exact Sat.ret0 [true] (by kernel_rfl) (by kernel_rfl)
    exact Sat.next (by kernel_rfl) (by kernel_rfl)
  refine Sat.out (id := 0) (A := some true) (by kernel_rfl) ?_
  exact Sat.ret0 [true] (by kernel_rfl) (by kernel_rfl)
theorem s_corebankref19_SameLegs (a : (List ApiLeg)) (b : (List ApiLeg)) : DoesP Tryd.prog gt 16 [.val (.slice (List.map ApiLeg.enc a)), .val (.slice (List.map ApiLeg.enc b))] corebankref19_SameLegs_E (corebankref19_SameLegs a b) := by
  refine does_of (c := (cx 26 [.tmp 4])) c_ok (fn := Tryd.f16) (code := b16) Tryd.func16 (by kernel_rfl) (by kernel_rfl) (by kernel_rfl) (by kernel_rfl) (by kernel_rfl) ?_
  delta corebankref19_SameLegs
  refine Sat.ite (by kernel_rfl) ?_ ?_
  · exact Sat.ret0 [true] (by kernel_rfl) (by kernel_rfl)
  exact Sat.loop (s0 := 0) [(0, false), (1, false), (5, false)] c_ok (by kernel_rfl) (by kernel_rfl) (by kernel_rfl) (by kernel_rfl) (s_corebankref19_SameLegs_l1 a b)
noncomputable def b11 : Code := (Tryd.f11.body).getD .skip
def corebankref19_Same_E : Bool → List RR := fun r => [.val (.bool r)]
theorem s_corebankref19_Same (a : ApiEntry) (b : ApiEntry) : DoesP Tryd.prog gt 11 [.val (.agg (ApiEntry.enc a)), .val (.agg (ApiEntry.enc b))] corebankref19_Same_E (corebankref19_Same a b) := by
  refine does_of (c := (cx 73 [.tmp 4])) c_ok (fn := Tryd.f11) (code := b11) Tryd.func11 (by kernel_rfl) (by kernel_rfl) (by kernel_rfl) (by kernel_rfl) (by kernel_rfl) ?_
  delta corebankref19_Same
  refine Sat.callG (s_corebankref19_SameLegs a.Legs b.Legs) (by kernel_rfl) (fun r => ?_)
  exact Sat.ret0 [true] (by kernel_rfl) (by kernel_rfl)
noncomputable def b7 : Code := (Tryd.f7.body).getD .skip
def corebanklaw30_sameEntries_E : Bool → List RR := fun r => [.val (.bool r)]
def corebanklaw30_sameEntries_l1_S (a : (List ApiEntry)) (b : (List ApiEntry)) : Int → St := fun s => (⟨[(0, .rv (.val (.slice (List.map ApiEntry.enc a)))), (1, .rv (.val (.slice (List.map ApiEntry.enc b)))), (5, .rv (.val (.int .i64 s)))], [], 0⟩ : St)
theorem s_corebanklaw30_sameEntries_l1 (a : (List ApiEntry)) (b : (List ApiEntry)) (s : Int) : Sat (cx 27 [.tmp 4]) (loopR (R0 corebanklaw30_sameEntries_E)) (loopD (cx 27 [.tmp 4]) (R0 corebanklaw30_sameEntries_E) D0 (corebanklaw30_sameEntries_l1_S a b) [(0, false), (1, false), (5, false)] ((cx 27 [.tmp 4]).kAt b7 [true, true, false, true, false] (k0 (cx 27 [.tmp 4]).ti (cx 27 [.tmp 4]).rvs))) ((cx 27 [.tmp 4]).ex (sub b7 [true, true, false, true, false, false]) (corebanklaw30_sameEntries_l1_S a b s) T.done) (corebanklaw30_sameEntries_l1 a b s) := by
  delta corebanklaw30_sameEntries_l1
  refine Sat.ite (by kernel_rfl) ?_ ?_
  · refine Sat.opt (enc := ApiEntry.enc) (by kernel_rfl) (getRow_map _ _ _) (fun ai => ?_)
    refine Sat.opt (enc := ApiEntry.enc) (by kernel_rfl) (getRow_map _ _ _) (fun bi => ?_)
    refine Sat.call (s_corebankref19_Same ai bi) (by kernel_rfl) (fun r => ?_)
    refine Sat.ite (by kernel_rfl) ?_ ?_
    · refine Sat.retL (D := D0) (A := some false) (by kernel_rfl) ?_
      exact Sat.ret0 [true] (by kernel_rfl) (by kernel_rfl)
    exact Sat.next (by kernel_rfl) (by kernel_rfl)
  refine Sat.out (id := 0) (A := some true) (by kernel_rfl) ?_
  exact Sat.ret0 [true] (by kernel_rfl) (by kernel_rfl)
theorem s_corebanklaw30_sameEntries (a : (List ApiEntry)) (b : (List ApiEntry)) : DoesP Tryd.prog gt 7 [.val (.slice (List.map ApiEntry.enc a)), .val (.slice (List.map ApiEntry.enc b))] corebanklaw30_sameEntries_E (corebanklaw30_sameEntries a b) := by
  refine does_of (c := (cx 27 [.tmp 4])) c_ok (fn := Tryd.f7) (code := b7) Tryd.func7 (by kernel_rfl) (by kernel_rfl) (by kernel_rfl) (by kernel_rfl) (by kernel_rfl) ?_
  delta corebanklaw30_sameEntries
  refine Sat.ite (by kernel_rfl) ?_ ?_
  · exact Sat.ret0 [true] (by kernel_rfl) (by kernel_rfl)
  exact Sat.loop (s0 := 0) [(0, false), (1, false), (5, false)] c_ok (by kernel_rfl) (by kernel_rfl) (by kernel_rfl) (by kernel_rfl) (s_corebanklaw30_sameEntries_l1 a b)
noncomputable def b3 : Code := (Tryd.f3.body).getD .skip
def corebanklaw30_BackdateEvents_E : Bool → List RR := fun r => [.val (.bool r)]
def corebanklaw30_BackdateEvents_l2_S (j : (List ApiEntry)) (r2 : (List Int)) (r3 : (List Int)) : Int → St := fun s4 => (⟨[(0, .rv (.val (.slice (List.map ApiEntry.enc j)))), (8, .rv (.own 0)), (9, .rv (.own 1)), (10, .rv (.val (.int .i64 s4)))], [(0, some (.vec 3 (List.map (eInt .i64) r2))), (1, some (.vec 3 (List.map (eInt .i64) r3)))], 2⟩ : St)
def corebanklaw30_BackdateEvents_l1_S (j : (List ApiEntry)) (l : (List ApiPeriod)) (x : Arr2Int) : Int → St := fun s => (⟨[(0, .rv (.val (.slice (List.map ApiEntry.enc j)))), (1, .rv (.val (.slice (List.map ApiPeriod.enc l)))), (5, .box 0 0), (7, .rv (.val (.int .i64 s)))], [(0, some (.box [.val (.int .i64 x.x0), .val (.int .i64 x.x1)]))], 1⟩ : St)
theorem s_corebanklaw30_BackdateEvents_l2 (j : (List ApiEntry)) (r2 : (List Int)) (r3 : (List Int)) (s4 : Int) : Sat (cx 74 [.tmp 6]) (loopR (R0 corebanklaw30_BackdateEvents_E)) (loopD (cx 74 [.tmp 6]) (R0 corebanklaw30_BackdateEvents_E) D0 (corebanklaw30_BackdateEvents_l2_S j r2 r3) [(0, false), (8, false), (9, false), (10, false)] ((cx 74 [.tmp 6]).kAt b3 [true, true, true, true, true, false, true, false] (k0 (cx 74 [.tmp 6]).ti (cx 74 [.tmp 6]).rvs))) ((cx 74 [.tmp 6]).ex (sub b3 [true, true, true, true, true, false, true, false, false]) (corebanklaw30_BackdateEvents_l2_S j r2 r3 s4) T.done) (corebanklaw30_BackdateEvents_l2 j r2 r3 s4) := by
  delta corebanklaw30_BackdateEvents_l2
  refine Sat.ite (by kernel_rfl) ?_ ?_
  · refine Sat.opt (enc := (eInt .i64)) (by kernel_rfl) (getRow_map _ _ _) (fun o => ?_)
    refine Sat.opt (enc := (eInt .i64)) (by kernel_rfl) (getEl_map _ _ _) (fun x5 => ?_)
    refine Sat.opt (enc := (eInt .i64)) (by kernel_rfl) (getRow_map _ _ _) (fun o6 => ?_)
    refine Sat.opt (enc := (eInt .i64)) (by kernel_rfl) (getEl_map _ _ _) (fun x7 => ?_)
    refine Sat.ite (by kernel_rfl) ?_ ?_
    · refine Sat.retL (D := D0) (A := some false) (by kernel_rfl) ?_
      exact Sat.ret0 [true] (by kernel_rfl) (by kernel_rfl)
    exact Sat.next (by kernel_rfl) (by kernel_rfl)
  refine Sat.out (id := 2) (by kernel_rfl) ?_
  refine Sat.call (s_backdate_Events j) (by kernel_rfl) (fun r8 => ?_)
  refine Sat.call (s_corebankref30_Events j) (by kernel_rfl) (fun r9 => ?_)
  refine Sat.call (s_corebanklaw30_sameEntries r8 r9) (by kernel_rfl) (fun r10 => ?_)
  refine Sat.callG (s_corebanklaw30_Lives) (by kernel_rfl) (fun r11 => ?_)
  exact Sat.ret0 [true] (by kernel_rfl) (by kernel_rfl)
theorem s_corebanklaw30_BackdateEvents_l1 (j : (List ApiEntry)) (l : (List ApiPeriod)) (x : Arr2Int) (s : Int) : Sat (cx 74 [.tmp 6]) (loopR (R0 corebanklaw30_BackdateEvents_E)) (loopD (cx 74 [.tmp 6]) (R0 corebanklaw30_BackdateEvents_E) D0 (corebanklaw30_BackdateEvents_l1_S j l x) [(0, false), (1, false), (5, false), (7, false)] ((cx 74 [.tmp 6]).kAt b3 [true, true, false, true, false] (k0 (cx 74 [.tmp 6]).ti (cx 74 [.tmp 6]).rvs))) ((cx 74 [.tmp 6]).ex (sub b3 [true, true, false, true, false, false]) (corebanklaw30_BackdateEvents_l1_S j l x s) T.done) (corebanklaw30_BackdateEvents_l1 j l x s) := by
  delta corebanklaw30_BackdateEvents_l1
  refine Sat.ite (by kernel_rfl) ?_ ?_
  · refine Sat.opt (enc := ApiEntry.enc) (by kernel_rfl) (getRow_map _ _ _) (fun ji => ?_)
    refine Sat.ite (by kernel_rfl) ?_ ?_
    · refine Sat.call (s_corebanklaw30_Lives) (by kernel_rfl) (fun r1 => ?_)
      refine Sat.retL (D := D0) (A := some r1) (by kernel_rfl) ?_
      exact Sat.ret0 [true] (by kernel_rfl) (by kernel_rfl)
    exact Sat.next (by kernel_rfl) (by kernel_rfl)
  refine Sat.out (id := 0) (by kernel_rfl) ?_
  refine Sat.need0 (g := true) (p := (0 : Int) ≤ 0 ∧ (0 : Int) < ((2 : Nat) : Int)) (by kernel_rfl) (by decide) ?_
  refine Sat.need0 (g := true) (p := (0 : Int) ≤ 1 ∧ (1 : Int) < ((2 : Nat) : Int)) (by kernel_rfl) (by decide) ?_
  refine Sat.call (s_backdate_Affected l x.x0 x.x1) (by kernel_rfl) (fun r2 => ?_)
  refine Sat.need0 (g := true) (p := (0 : Int) ≤ 0 ∧ (0 : Int) < ((2 : Nat) : Int)) (by kernel_rfl) (by decide) ?_
  refine Sat.need0 (g := true) (p := (0 : Int) ≤ 1 ∧ (1 : Int) < ((2 : Nat) : Int)) (by kernel_rfl) (by decide) ?_
  refine Sat.call (s_corebankref30_Affected l x.x0 x.x1) (by kernel_rfl) (fun r3 => ?_)
  refine Sat.ite (by kernel_rfl) ?_ ?_
  · exact Sat.ret0 [true] (by kernel_rfl) (by kernel_rfl)
  exact Sat.loop (s0 := 0) [(0, false), (8, false), (9, false), (10, false)] c_ok (by kernel_rfl) (by kernel_rfl) (by kernel_rfl) (by kernel_rfl) (s_corebanklaw30_BackdateEvents_l2 j r2 r3)
theorem s_corebanklaw30_BackdateEvents (j : (List ApiEntry)) (l : (List ApiPeriod)) (x : Arr2Int) : DoesP Tryd.prog gt 3 [.val (.slice (List.map ApiEntry.enc j)), .val (.slice (List.map ApiPeriod.enc l)), .val (.agg (Arr2Int.enc x))] corebanklaw30_BackdateEvents_E (corebanklaw30_BackdateEvents j l x) := by
  refine does_of (c := (cx 74 [.tmp 6])) c_ok (fn := Tryd.f3) (code := b3) Tryd.func3 (by kernel_rfl) (by kernel_rfl) (by kernel_rfl) (by kernel_rfl) (by kernel_rfl) ?_
  delta corebanklaw30_BackdateEvents
  refine Sat.ite (by kernel_rfl) ?_ ?_
  · refine Sat.call (s_corebanklaw30_Lives) (by kernel_rfl) (fun r => ?_)
    exact Sat.ret0 [true] (by kernel_rfl) (by kernel_rfl)
  exact Sat.loop (s0 := 0) [(0, false), (1, false), (5, false), (7, false)] c_ok (by kernel_rfl) (by kernel_rfl) (by kernel_rfl) (by kernel_rfl) (s_corebanklaw30_BackdateEvents_l1 j l x)
end Go.Cb
