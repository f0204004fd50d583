/- Parts of a proof, merged: Each function does what its plain form says, part 4. · Each function does what its plain form says, part 5. · Each function does what its plain form says, all parts. · Plain lemmas: numbers that fit, places in lists, loops. · A calculus of 'has an answer, and it meets Q' for the printed functions. Conditions: none. -/
import Derived.Test.YtkiolflkkbfaiaaGreatDoorPk3
import Derived.Test.YtkiolflkkbfaiaaGreatDoorPk1
set_option linter.unusedVariables false
set_option linter.unusedSimpArgs false
namespace Go.Cb
open Go.Eng Go.RowKit
open Go.Proofs
theorem s_math_bits_Div64_j2 (hi : Int) (lo : Int) (y : Int) (r : Int) (s3 : Int) : Sat (cx 135 [.tmp 6, .tmp 7]) (R0 math_bits_Div64_E) D0 ((cx 135 [.tmp 6, .tmp 7]).ex (sub b196 [true, true, true, true, true, true, true, true, true, true, true, true, true, true, true]) (math_bits_Div64_j2_S hi lo y r s3) ((cx 135 [.tmp 6, .tmp 7]).kAt b196 [true, true, true, true, true, true, true, true, true, true, true, true, true, true, true] (k0 (cx 135 [.tmp 6, .tmp 7]).ti (cx 135 [.tmp 6, .tmp 7]).rvs))) (math_bits_Div64_j2 hi lo y r s3) := by
 delta math_bits_Div64_j2
 refine Sat.need (g := true) (p := ((IntKind.wrap .u64 (y * 2 ^ (min ((IntKind.wrap .u64 r) : Int).toNat 64))).fdiv (2 ^ 32)) ≠ 0) (by kernel_rfl) (fun h _ => by exact h) ?_
 exact Sat.loop (s0 := ((IntKind.wrap .u64 ((IntKind.wrap .u64 ((IntKind.wrap .u64 ((IntKind.wrap .u64 ((bitsI .or .u64 (IntKind.wrap .u64 (hi * 2 ^ (min ((IntKind.wrap .u64 r) : Int).toNat 64))) (lo.fdiv (2 ^ (min ((IntKind.wrap .u64 (64 - (IntKind.wrap .u64 r))) : Int).toNat 64)))) * 4294967296)) + ((IntKind.wrap .u64 (lo * 2 ^ (min ((IntKind.wrap .u64 r) : Int).toNat 64))).fdiv (2 ^ 32)))) - (IntKind.wrap .u64 (s3 * (IntKind.wrap .u64 (y * 2 ^ (min ((IntKind.wrap .u64 r) : Int).toNat 64))))))) - (IntKind.wrap .u64 ((IntKind.wrap .u64 ((IntKind.wrap .u64 ((IntKind.wrap .u64 ((IntKind.wrap .u64 ((bitsI .or .u64 (IntKind.wrap .u64 (hi * 2 ^ (min ((IntKind.wrap .u64 r) : Int).toNat 64))) (lo.fdiv (2 ^ (min ((IntKind.wrap .u64 (64 - (IntKind.wrap .u64 r))) : Int).toNat 64)))) * 4294967296)) + ((IntKind.wrap .u64 (lo * 2 ^ (min ((IntKind.wrap .u64 r) : Int).toNat 64))).fdiv (2 ^ 32)))) - (IntKind.wrap .u64 (s3 * (IntKind.wrap .u64 (y * 2 ^ (min ((IntKind.wrap .u64 r) : Int).toNat 64))))))).tdiv ((IntKind.wrap .u64 (y * 2 ^ (min ((IntKind.wrap .u64 r) : Int).toNat 64))).fdiv (2 ^ 32)))) * ((IntKind.wrap .u64 (y * 2 ^ (min ((IntKind.wrap .u64 r) : Int).toNat 64))).fdiv (2 ^ 32)))))), (IntKind.wrap .u64 ((IntKind.wrap .u64 ((IntKind.wrap .u64 ((IntKind.wrap .u64 ((bitsI .or .u64 (IntKind.wrap .u64 (hi * 2 ^ (min ((IntKind.wrap .u64 r) : Int).toNat 64))) (lo.fdiv (2 ^ (min ((IntKind.wrap .u64 (64 - (IntKind.wrap .u64 r))) : Int).toNat 64)))) * 4294967296)) + ((IntKind.wrap .u64 (lo * 2 ^ (min ((IntKind.wrap .u64 r) : Int).toNat 64))).fdiv (2 ^ 32)))) - (IntKind.wrap .u64 (s3 * (IntKind.wrap .u64 (y * 2 ^ (min ((IntKind.wrap .u64 r) : Int).toNat 64))))))).tdiv ((IntKind.wrap .u64 (y * 2 ^ (min ((IntKind.wrap .u64 r) : Int).toNat 64))).fdiv (2 ^ 32)))))) [(2, false), (8, false), (9, false), (10, false), (14, false), (15, false), (16, false), (17, false), (18, false)] c_ok (by kernel_rfl) (by kernel_rfl) (by kernel_rfl) (by kernel_rfl) (s_math_bits_Div64_l2 hi lo y r s3)
theorem s_math_bits_Div64_l1 (hi : Int) (lo : Int) (y : Int) (r : Int) (s2 : (Int × Int)) : Sat (cx 135 [.tmp 6, .tmp 7]) (loopR (R0 math_bits_Div64_E)) (loopD (cx 135 [.tmp 6, .tmp 7]) (R0 math_bits_Div64_E) D0 (math_bits_Div64_l1_S hi lo y r) [(2, false), (8, false), (9, false), (10, false), (11, false), (13, false), (14, false), (15, false), (16, false)] ((cx 135 [.tmp 6, .tmp 7]).kAt b196 [true, true, true, true, true, true, true, true, true, true, true, true, true, true, false, false] (k0 (cx 135 [.tmp 6, .tmp 7]).ti (cx 135 [.tmp 6, .tmp 7]).rvs))) ((cx 135 [.tmp 6, .tmp 7]).ex (sub b196 [true, true, true, true, true, true, true, true, true, true, true, true, true, true, false, false, false]) (math_bits_Div64_l1_S hi lo y r s2) T.done) (math_bits_Div64_l1 hi lo y r s2) := by
 delta math_bits_Div64_l1
 refine Sat.ite (by kernel_rfl) ?_ ?_
 ·refine Sat.ite (by kernel_rfl) ?_ ?_
  ·refine Sat.out (id := 0) (by kernel_rfl) ?_
   exact Sat.cut (s0 := (IntKind.wrap .u64 (s2.1 - 1))) [(2, false), (8, false), (9, false), (10, false), (11, false), (13, false), (14, false), (15, false)] c_ok (by kernel_rfl) (by kernel_rfl) (by kernel_rfl) (by kernel_rfl) (s_math_bits_Div64_j2 hi lo y r)
  exact Sat.next (by kernel_rfl) (by kernel_rfl)
 refine Sat.out (id := 0) (by kernel_rfl) ?_
 exact Sat.cut (s0 := s2.1) [(2, false), (8, false), (9, false), (10, false), (11, false), (13, false), (14, false), (15, false)] c_ok (by kernel_rfl) (by kernel_rfl) (by kernel_rfl) (by kernel_rfl) (s_math_bits_Div64_j2 hi lo y r)
theorem s_math_bits_Div64_j4 (hi : Int) (lo : Int) (y : Int) (s1 : Unit) : Sat (cx 135 [.tmp 6, .tmp 7]) (R0 math_bits_Div64_E) D0 ((cx 135 [.tmp 6, .tmp 7]).ex (sub b196 [true, true, true]) (math_bits_Div64_j4_S hi lo y s1) ((cx 135 [.tmp 6, .tmp 7]).kAt b196 [true, true, true] (k0 (cx 135 [.tmp 6, .tmp 7]).ti (cx 135 [.tmp 6, .tmp 7]).rvs))) (math_bits_Div64_j4 hi lo y s1) := by
 delta math_bits_Div64_j4
 refine Sat.ite (by kernel_rfl) ?_ ?_
 ·refine Sat.need (g := true) (p := y ≠ 0) (by kernel_rfl) (fun h _ => by exact h) ?_
  refine Sat.need (g := true) (p := y ≠ 0) (by kernel_rfl) (fun h _ => by exact h) ?_
  exact Sat.ret0 [true, true] (by kernel_rfl) (by kernel_rfl)
 refine Sat.call (s_math_bits_LeadingZeros64 y) (by kernel_rfl) (fun r => ?_)
 refine Sat.need (g := true) (p := (0 : Int) ≤ (IntKind.wrap .u64 r)) (by kernel_rfl) (fun h _ => by exact h) ?_
 refine Sat.need0 (g := true) (p := (0 : Int) ≤ 32) (by kernel_rfl) (by decide) ?_
 refine Sat.need (g := true) (p := (0 : Int) ≤ (IntKind.wrap .u64 r)) (by kernel_rfl) (fun h _ => by exact h) ?_
 refine Sat.need (g := true) (p := (0 : Int) ≤ (IntKind.wrap .u64 (64 - (IntKind.wrap .u64 r)))) (by kernel_rfl) (fun h _ => by exact h) ?_
 refine Sat.need (g := true) (p := (0 : Int) ≤ (IntKind.wrap .u64 r)) (by kernel_rfl) (fun h _ => by exact h) ?_
 refine Sat.need0 (g := true) (p := (0 : Int) ≤ 32) (by kernel_rfl) (by decide) ?_
 refine Sat.need (g := true) (p := ((IntKind.wrap .u64 (y * 2 ^ (min ((IntKind.wrap .u64 r) : Int).toNat 64))).fdiv (2 ^ 32)) ≠ 0) (by kernel_rfl) (fun h _ => by exact h) ?_
 exact Sat.loop (s0 := ((IntKind.wrap .u64 ((bitsI .or .u64 (IntKind.wrap .u64 (hi * 2 ^ (min ((IntKind.wrap .u64 r) : Int).toNat 64))) (lo.fdiv (2 ^ (min ((IntKind.wrap .u64 (64 - (IntKind.wrap .u64 r))) : Int).toNat 64)))).tdiv ((IntKind.wrap .u64 (y * 2 ^ (min ((IntKind.wrap .u64 r) : Int).toNat 64))).fdiv (2 ^ 32)))), (IntKind.wrap .u64 ((bitsI .or .u64 (IntKind.wrap .u64 (hi * 2 ^ (min ((IntKind.wrap .u64 r) : Int).toNat 64))) (lo.fdiv (2 ^ (min ((IntKind.wrap .u64 (64 - (IntKind.wrap .u64 r))) : Int).toNat 64)))) - (IntKind.wrap .u64 ((IntKind.wrap .u64 ((bitsI .or .u64 (IntKind.wrap .u64 (hi * 2 ^ (min ((IntKind.wrap .u64 r) : Int).toNat 64))) (lo.fdiv (2 ^ (min ((IntKind.wrap .u64 (64 - (IntKind.wrap .u64 r))) : Int).toNat 64)))).tdiv ((IntKind.wrap .u64 (y * 2 ^ (min ((IntKind.wrap .u64 r) : Int).toNat 64))).fdiv (2 ^ 32)))) * ((IntKind.wrap .u64 (y * 2 ^ (min ((IntKind.wrap .u64 r) : Int).toNat 64))).fdiv (2 ^ 32)))))))) [(2, false), (8, false), (9, false), (10, false), (11, false), (13, false), (14, false), (15, false), (16, false)] c_ok (by kernel_rfl) (by kernel_rfl) (by kernel_rfl) (by kernel_rfl) (s_math_bits_Div64_l1 hi lo y r)
theorem s_math_bits_Div64_j5 (hi : Int) (lo : Int) (y : Int) (s : Unit) : Sat (cx 135 [.tmp 6, .tmp 7]) (R0 math_bits_Div64_E) D0 ((cx 135 [.tmp 6, .tmp 7]).ex (sub b196 [true, true]) (math_bits_Div64_j5_S hi lo y s) ((cx 135 [.tmp 6, .tmp 7]).kAt b196 [true, true] (k0 (cx 135 [.tmp 6, .tmp 7]).ti (cx 135 [.tmp 6, .tmp 7]).rvs))) (math_bits_Div64_j5 hi lo y s) := by
 delta math_bits_Div64_j5
 refine Sat.ite (by kernel_rfl) ?_ ?_
 ·exact Sat.none
 exact Sat.cut (s0 := ()) [(0, false), (1, false), (2, false)] c_ok (by kernel_rfl) (by kernel_rfl) (by kernel_rfl) (by kernel_rfl) (s_math_bits_Div64_j4 hi lo y)
theorem s_math_bits_Div64 (hi : Int) (lo : Int) (y : Int) : DoesP Tryz.prog gt 196 [.val (.int .u64 hi), .val (.int .u64 lo), .val (.int .u64 y)] math_bits_Div64_E (math_bits_Div64 hi lo y) := by
 refine does_of (c := (cx 135 [.tmp 6, .tmp 7])) c_ok (fn := Tryz.f196) (code := b196) Tryz.func196 (by kernel_rfl) (by kernel_rfl) (by kernel_rfl) (by kernel_rfl) (by kernel_rfl) ?_
 delta math_bits_Div64
 refine Sat.ite (by kernel_rfl) ?_ ?_
 ·exact Sat.none
 exact Sat.cut (s0 := ()) [(0, false), (1, false), (2, false)] c_ok (by kernel_rfl) (by kernel_rfl) (by kernel_rfl) (by kernel_rfl) (s_math_bits_Div64_j5 hi lo y)
noncomputable def b174 : Code := (Tryz.f174.body).getD .skip
def wide_size_divide_E : (WideSize × Int) → List RR := fun r => [.val (.agg (WideSize.enc r.1)), .val (.int .u64 r.2)]
theorem s_wide_size_divide (s : WideSize) (n : Int) : DoesP Tryz.prog gt 174 [.val (.agg (WideSize.enc s)), .val (.int .u64 n)] wide_size_divide_E (wide_size_divide s n) := by
 refine does_of (c := (cx 26 [.cell 4 235, .tmp 5])) c_ok (fn := Tryz.f174) (code := b174) Tryz.func174 (by kernel_rfl) (by kernel_rfl) (by kernel_rfl) (by kernel_rfl) (by kernel_rfl) ?_
 delta wide_size_divide
 refine Sat.need (g := true) (p := n ≠ 0) (by kernel_rfl) (fun h _ => by exact h) ?_
 refine Sat.call (s_math_bits_Div64 (s.hi.tmod n) s.lo n) (by kernel_rfl) (fun r => ?_)
 refine Sat.need (g := true) (p := n ≠ 0) (by kernel_rfl) (fun h _ => by exact h) ?_
 exact Sat.ret0 [true, true] (by kernel_rfl) (by kernel_rfl)
noncomputable def b140 : Code := (Tryz.f140.body).getD .skip
def wide_Div_E : (ApiWide × Int × Int) → List RR := fun r => [.val (.agg (ApiWide.enc r.1)), .val (.int .i64 r.2.1), .val (.int .i64 r.2.2)]
def wide_Div_j0_S (a : ApiWide) : (Int × Int × Int) → St := fun s => (⟨[(2, .box 0 0), (4, .box 1 0), (7, .box 2 0), (8, .rv (.val (.int .u64 s.1)))], [(0, some (.box [.val (.int .i64 a.Hi), .val (.int .u64 a.Lo)])), (1, some (.box [.val (.int .i64 0), .val (.int .u64 0)])), (2, some (.box [.val (.int .u64 s.2.1), .val (.int .u64 s.2.2)]))], 3⟩ : St)
theorem s_wide_Div_j0 (a : ApiWide) (s : (Int × Int × Int)) : Sat (cx 54 [.cell 4 49, .tmp 5, .tmp 6]) (R0 wide_Div_E) D0 ((cx 54 [.cell 4 49, .tmp 5, .tmp 6]).ex (sub b140 [true, true, true, true]) (wide_Div_j0_S a s) ((cx 54 [.cell 4 49, .tmp 5, .tmp 6]).kAt b140 [true, true, true, true] (k0 (cx 54 [.cell 4 49, .tmp 5, .tmp 6]).ti (cx 54 [.cell 4 49, .tmp 5, .tmp 6]).rvs))) (wide_Div_j0 a s) := by
 delta wide_Div_j0
 refine Sat.call (s_wide_size_signed (⟨s.2.1, s.2.2⟩ : WideSize) (bif (decide (a.Hi < 0)) then (!((s.2.1 == 0) && ((s.2.2 == 0) && true))) else false)) (by kernel_rfl) (fun r3 => ?_)
 exact Sat.ret0 [true, true, true] (by kernel_rfl) (by kernel_rfl)
theorem s_wide_Div (a : ApiWide) (n : Int) : DoesP Tryz.prog gt 140 [.val (.agg (ApiWide.enc a)), .val (.int .i64 n)] wide_Div_E (wide_Div a n) := by
 refine does_of (c := (cx 54 [.cell 4 49, .tmp 5, .tmp 6])) c_ok (fn := Tryz.f140) (code := b140) Tryz.func140 (by kernel_rfl) (by kernel_rfl) (by kernel_rfl) (by kernel_rfl) (by kernel_rfl) ?_
 delta wide_Div
 refine Sat.ite (by kernel_rfl) ?_ ?_
 ·exact Sat.ret0 [true, true, true] (by kernel_rfl) (by kernel_rfl)
 refine Sat.call (s_wide_absolute a) (by kernel_rfl) (fun r => ?_)
 refine Sat.call (s_wide_size_divide r (IntKind.wrap .u64 n)) (by kernel_rfl) (fun r1 => ?_)
 refine Sat.ite (by kernel_rfl) ?_ ?_
 ·refine Sat.call (s_wide_size_times r1.1 1 1) (by kernel_rfl) (fun r2 => ?_)
  exact Sat.cut (s0 := ((IntKind.wrap .u64 ((IntKind.wrap .u64 n) - r1.2)), r2.1.hi, r2.1.lo)) [(2, false), (4, false), (7, false), (8, false)] c_ok (by kernel_rfl) (by kernel_rfl) (by kernel_rfl) (by kernel_rfl) (s_wide_Div_j0 a)
 exact Sat.cut (s0 := (r1.2, r1.1.hi, r1.1.lo)) [(2, false), (4, false), (7, false), (8, false)] c_ok (by kernel_rfl) (by kernel_rfl) (by kernel_rfl) (by kernel_rfl) (s_wide_Div_j0 a)
noncomputable def b142 : Code := (Tryz.f142.body).getD .skip
def rounding_more_E : Int → List RR := fun r => [.val (.int .i64 r)]
theorem s_rounding_more (q : ApiWide) (rest : Int) (n : Int) (mode : Int) : DoesP Tryz.prog gt 142 [.val (.agg (ApiWide.enc q)), .val (.int .i64 rest), .val (.int .i64 n), .val (.int .i64 mode)] rounding_more_E (rounding_more q rest n mode) := by
 refine does_of (c := (cx 45 [.tmp 8])) c_ok (fn := Tryz.f142) (code := b142) Tryz.func142 (by kernel_rfl) (by kernel_rfl) (by kernel_rfl) (by kernel_rfl) (by kernel_rfl) ?_
 delta rounding_more
 refine Sat.ite (by kernel_rfl) ?_ ?_
 ·refine Sat.ite (by kernel_rfl) ?_ ?_
  ·refine Sat.needH (g := true) (p := (0 : Int) ≤ mode ∧ mode < ((5 : Nat) : Int)) (by kernel_rfl) (fun h _ => h) (fun hq => ?_)
   refine Sat.opt (x := getI ([(⟨0, 0⟩ : RoundingStep), (⟨1, 0⟩ : RoundingStep), (⟨0, 1⟩ : RoundingStep), (⟨0, 0⟩ : RoundingStep), (⟨1, 1⟩ : RoundingStep)] : List RoundingStep) mode) (enc := RoundingStep.enc) (by kernel_rfl) (getPart_arr 2 (cells := [.int .i64 0, .int .i64 0, .int .i64 1, .int .i64 0, .int .i64 0, .int .i64 1, .int .i64 0, .int .i64 0, .int .i64 1, .int .i64 1]) rfl (fun _ => rfl) _ hq.1 (by decide)) (fun a => ?_)
   exact Sat.ret0 [true] (by kernel_rfl) (by kernel_rfl)
  refine Sat.needH (g := true) (p := (0 : Int) ≤ mode ∧ mode < ((5 : Nat) : Int)) (by kernel_rfl) (fun h _ => h) (fun hq => ?_)
  refine Sat.opt (x := getI ([(⟨0, 0⟩ : RoundingStep), (⟨1, 0⟩ : RoundingStep), (⟨0, 1⟩ : RoundingStep), (⟨0, 0⟩ : RoundingStep), (⟨1, 1⟩ : RoundingStep)] : List RoundingStep) mode) (enc := RoundingStep.enc) (by kernel_rfl) (getPart_arr 2 (cells := [.int .i64 0, .int .i64 0, .int .i64 1, .int .i64 0, .int .i64 0, .int .i64 1, .int .i64 0, .int .i64 0, .int .i64 1, .int .i64 1]) rfl (fun _ => rfl) _ hq.1 (by decide)) (fun a1 => ?_)
  exact Sat.ret0 [true] (by kernel_rfl) (by kernel_rfl)
 refine Sat.ite (by kernel_rfl) ?_ ?_
 ·exact Sat.ret0 [true] (by kernel_rfl) (by kernel_rfl)
 refine Sat.ite (by kernel_rfl) ?_ ?_
 ·exact Sat.ret0 [true] (by kernel_rfl) (by kernel_rfl)
 refine Sat.ite (by kernel_rfl) ?_ ?_
 ·exact Sat.ret0 [true] (by kernel_rfl) (by kernel_rfl)
 refine Sat.ite (by kernel_rfl) ?_ ?_
 ·exact Sat.ret0 [true] (by kernel_rfl) (by kernel_rfl)
 exact Sat.ret0 [true] (by kernel_rfl) (by kernel_rfl)
noncomputable def b141 : Code := (Tryz.f141.body).getD .skip
def wide_Of_E : ApiWide → List RR := fun r => [.val (.agg (ApiWide.enc r))]
theorem s_wide_Of (n : Int) : DoesP Tryz.prog gt 141 [.val (.int .i64 n)] wide_Of_E (wide_Of n) := by
 refine does_of (c := (cx 8 [.cell 2 49])) c_ok (fn := Tryz.f141) (code := b141) Tryz.func141 (by kernel_rfl) (by kernel_rfl) (by kernel_rfl) (by kernel_rfl) (by kernel_rfl) ?_
 delta wide_Of
 refine Sat.need0 (g := true) (p := (0 : Int) ≤ 63) (by kernel_rfl) (by decide) ?_
 exact Sat.ret0 [true] (by kernel_rfl) (by kernel_rfl)
noncomputable def b143 : Code := (Tryz.f143.body).getD .skip
def wide_Int_E : (Int × Bool) → List RR := fun r => [.val (.int .i64 r.1), .val (.bool r.2)]
theorem s_wide_Int (a : ApiWide) : DoesP Tryz.prog gt 143 [.val (.agg (ApiWide.enc a))] wide_Int_E (wide_Int a) := by
 refine does_of (c := (cx 13 [.tmp 2, .tmp 3])) c_ok (fn := Tryz.f143) (code := b143) Tryz.func143 (by kernel_rfl) (by kernel_rfl) (by kernel_rfl) (by kernel_rfl) (by kernel_rfl) ?_
 delta wide_Int
 refine Sat.call (s_wide_Of (IntKind.wrap .i64 a.Lo)) (by kernel_rfl) (fun r => ?_)
 refine Sat.ite (by kernel_rfl) ?_ ?_
 ·exact Sat.ret0 [true, true] (by kernel_rfl) (by kernel_rfl)
 exact Sat.ret0 [true, true] (by kernel_rfl) (by kernel_rfl)
noncomputable def b114 : Code := (Tryz.f114.body).getD .skip
def rounding_Divide_E : (Int × Int) → List RR := fun r => [.val (.int .i64 r.1), .val (.int .i64 r.2)]
def rounding_Divide_j0_S : (Int × Int) → St := fun s => (⟨[(8, .box 0 0)], [(0, some (.box [.val (.int .i64 s.1), .val (.int .u64 s.2)]))], 1⟩ : St)
theorem s_rounding_Divide_j0 (s : (Int × Int)) : Sat (cx 48 [.tmp 6, .tmp 7]) (R0 rounding_Divide_E) D0 ((cx 48 [.tmp 6, .tmp 7]).ex (sub b114 [true, true, true, true]) (rounding_Divide_j0_S s) ((cx 48 [.tmp 6, .tmp 7]).kAt b114 [true, true, true, true] (k0 (cx 48 [.tmp 6, .tmp 7]).ti (cx 48 [.tmp 6, .tmp 7]).rvs))) (rounding_Divide_j0 s) := by
 delta rounding_Divide_j0
 refine Sat.call (s_wide_Int (⟨s.1, s.2⟩ : ApiWide)) (by kernel_rfl) (fun r5 => ?_)
 refine Sat.ite (by kernel_rfl) ?_ ?_
 ·exact Sat.ret0 [true, true] (by kernel_rfl) (by kernel_rfl)
 exact Sat.ret0 [true, true] (by kernel_rfl) (by kernel_rfl)
theorem s_rounding_Divide (a : ApiWide) (n : Int) (mode : Int) : DoesP Tryz.prog gt 114 [.val (.agg (ApiWide.enc a)), .val (.int .i64 n), .val (.int .i64 mode)] rounding_Divide_E (rounding_Divide a n mode) := by
 refine does_of (c := (cx 48 [.tmp 6, .tmp 7])) c_ok (fn := Tryz.f114) (code := b114) Tryz.func114 (by kernel_rfl) (by kernel_rfl) (by kernel_rfl) (by kernel_rfl) (by kernel_rfl) ?_
 delta rounding_Divide
 refine Sat.callG (s_rounding_Valid mode) (by kernel_rfl) (fun r => ?_)
 refine Sat.ite (by kernel_rfl) ?_ ?_
 ·exact Sat.ret0 [true, true] (by kernel_rfl) (by kernel_rfl)
 refine Sat.call (s_wide_Div a n) (by kernel_rfl) (fun r1 => ?_)
 refine Sat.ite (by kernel_rfl) ?_ ?_
 ·refine Sat.call (s_rounding_more r1.1 r1.2.1 n mode) (by kernel_rfl) (fun r2 => ?_)
  refine Sat.call (s_wide_Of r2) (by kernel_rfl) (fun r3 => ?_)
  refine Sat.call (s_wide_Add r1.1 r3) (by kernel_rfl) (fun r4 => ?_)
  exact Sat.cut (s0 := (r4.1.Hi, r4.1.Lo)) [(8, false)] c_ok (by kernel_rfl) (by kernel_rfl) (by kernel_rfl) (by kernel_rfl) (s_rounding_Divide_j0)
 exact Sat.cut (s0 := (r1.1.Hi, r1.1.Lo)) [(8, false)] c_ok (by kernel_rfl) (by kernel_rfl) (by kernel_rfl) (by kernel_rfl) (s_rounding_Divide_j0)
noncomputable def b112 : Code := (Tryz.f112.body).getD .skip
def rounding_valid_E : Bool → List RR := fun r => [.val (.bool r)]
theorem s_rounding_valid (amount : Int) : DoesP Tryz.prog gt 112 [.val (.int .i64 amount)] rounding_valid_E (rounding_valid amount) := by
 refine does_of (c := (cx 9 [.tmp 2])) c_ok (fn := Tryz.f112) (code := b112) Tryz.func112 (by kernel_rfl) (by kernel_rfl) (by kernel_rfl) (by kernel_rfl) (by kernel_rfl) ?_
 delta rounding_valid
 exact Sat.ret0 [true] (by kernel_rfl) (by kernel_rfl)
def bitsSub64_E : (Int × Int) → List RR := fun r => [.val (.int .u64 r.1), .val (.int .u64 r.2)]
theorem s_bitsSub64 (x y c : Int) : DoesP Tryz.prog gt 172 [.val (.int .u64 x), .val (.int .u64 y), .val (.int .u64 c)] bitsSub64_E (bitsSub64 x y c) :=
 does_bitsSub64 Tryz.func172 (by kernel_rfl) (by kernel_rfl) (by kernel_rfl) (by kernel_rfl)
noncomputable def b139 : Code := (Tryz.f139.body).getD .skip
def wide_Sub_E : (ApiWide × Int) → List RR := fun r => [.val (.agg (ApiWide.enc r.1)), .val (.int .i64 r.2)]
theorem s_wide_Sub (a : ApiWide) (b : ApiWide) : DoesP Tryz.prog gt 139 [.val (.agg (ApiWide.enc a)), .val (.agg (ApiWide.enc b))] wide_Sub_E (wide_Sub a b) := by
 refine does_of (c := (cx 44 [.cell 4 49, .tmp 5])) c_ok (fn := Tryz.f139) (code := b139) Tryz.func139 (by kernel_rfl) (by kernel_rfl) (by kernel_rfl) (by kernel_rfl) (by kernel_rfl) ?_
 delta wide_Sub
 refine Sat.call (s_bitsSub64 a.Lo b.Lo 0) (by kernel_rfl) (fun r => ?_)
 refine Sat.ite (by kernel_rfl) ?_ ?_
 ·exact Sat.ret0 [true, true] (by kernel_rfl) (by kernel_rfl)
 exact Sat.ret0 [true, true] (by kernel_rfl) (by kernel_rfl)
noncomputable def b111 : Code := (Tryz.f111.body).getD .skip
def rounding_Amount_E : (Int × ApiWide × Int) → List RR := fun r => [.val (.int .i64 r.1), .val (.agg (ApiWide.enc r.2.1)), .val (.int .i64 r.2.2)]
theorem s_rounding_Amount (grains : ApiWide) (mode : Int) : DoesP Tryz.prog gt 111 [.val (.agg (ApiWide.enc grains)), .val (.int .i64 mode)] rounding_Amount_E (rounding_Amount grains mode) := by
 refine does_of (c := (cx 34 [.tmp 4, .cell 5 49, .tmp 6])) c_ok (fn := Tryz.f111) (code := b111) Tryz.func111 (by kernel_rfl) (by kernel_rfl) (by kernel_rfl) (by kernel_rfl) (by kernel_rfl) ?_
 delta rounding_Amount
 refine Sat.call (s_rounding_Divide grains 1603080000000 mode) (by kernel_rfl) (fun r => ?_)
 refine Sat.ite (by kernel_rfl) ?_ ?_
 ·exact Sat.ret0 [true, true, true] (by kernel_rfl) (by kernel_rfl)
 refine Sat.call (s_rounding_valid r.1) (by kernel_rfl) (fun r1 => ?_)
 refine Sat.ite (by kernel_rfl) ?_ ?_
 ·exact Sat.ret0 [true, true, true] (by kernel_rfl) (by kernel_rfl)
 refine Sat.call (s_wide_Mul r.1 1603080000000) (by kernel_rfl) (fun r2 => ?_)
 refine Sat.call (s_wide_Sub grains r2) (by kernel_rfl) (fun r3 => ?_)
 exact Sat.ret0 [true, true, true] (by kernel_rfl) (by kernel_rfl)
noncomputable def b89 : Code := (Tryz.f89.body).getD .skip
def settle_settled_E : (Int × ApiWide × Int) → List RR := fun r => [.val (.int .i64 r.1), .val (.agg (ApiWide.enc r.2.1)), .val (.int .i64 r.2.2)]
def settle_settled_j0_S (s3 : (Int × Int × Int)) : (Int × Int) → St := fun s4 => (⟨[(7, .box 0 0), (11, .rv (.val (.int .i64 s3.1))), (12, .box 1 0)], [(0, some (.box [.val (.int .i64 0), .val (.int .u64 0)])), (1, some (.box [.val (.int .i64 s4.1), .val (.int .u64 s4.2)]))], 2⟩ : St)
def settle_settled_j1_S (x : ApiInterest) : (Int × Int × Int) → St := fun s3 => (⟨[(3, .box 0 0), (7, .box 1 0), (11, .rv (.val (.int .i64 s3.1))), (12, .box 2 0)], [(0, some (.box [.val (.slice (List.map ApiTier.enc x.Tiers)), .val (.bool x.Marginal), .val (.int .i64 x.Basis), .val (.int .i64 x.Mode), .val (.bool x.Keep)])), (1, some (.box [.val (.int .i64 0), .val (.int .u64 0)])), (2, some (.box [.val (.int .i64 s3.2.1), .val (.int .u64 s3.2.2)]))], 3⟩ : St)
def settle_settled_j2_S (x : ApiInterest) : (Int × Int) → St := fun s => (⟨[(3, .box 0 0), (4, .box 1 0), (7, .box 2 0)], [(0, some (.box [.val (.slice (List.map ApiTier.enc x.Tiers)), .val (.bool x.Marginal), .val (.int .i64 x.Basis), .val (.int .i64 x.Mode), .val (.bool x.Keep)])), (1, some (.box [.val (.int .i64 s.1), .val (.int .u64 s.2)])), (2, some (.box [.val (.int .i64 0), .val (.int .u64 0)]))], 3⟩ : St)
theorem s_settle_settled_j0 (s3 : (Int × Int × Int)) (s4 : (Int × Int)) : Sat (cx 50 [.tmp 6, .cell 7 49, .tmp 8]) (R0 settle_settled_E) D0 ((cx 50 [.tmp 6, .cell 7 49, .tmp 8]).ex (sub b89 [true, true, true, true, true]) (settle_settled_j0_S s3 s4) ((cx 50 [.tmp 6, .cell 7 49, .tmp 8]).kAt b89 [true, true, true, true, true] (k0 (cx 50 [.tmp 6, .cell 7 49, .tmp 8]).ti (cx 50 [.tmp 6, .cell 7 49, .tmp 8]).rvs))) (settle_settled_j0 s3 s4) := by
 delta settle_settled_j0
 exact Sat.ret0 [true, true, true] (by kernel_rfl) (by kernel_rfl)
theorem s_settle_settled_j1 (x : ApiInterest) (s3 : (Int × Int × Int)) : Sat (cx 50 [.tmp 6, .cell 7 49, .tmp 8]) (R0 settle_settled_E) D0 ((cx 50 [.tmp 6, .cell 7 49, .tmp 8]).ex (sub b89 [true, true, true, true]) (settle_settled_j1_S x s3) ((cx 50 [.tmp 6, .cell 7 49, .tmp 8]).kAt b89 [true, true, true, true] (k0 (cx 50 [.tmp 6, .cell 7 49, .tmp 8]).ti (cx 50 [.tmp 6, .cell 7 49, .tmp 8]).rvs))) (settle_settled_j1 x s3) := by
 delta settle_settled_j1
 refine Sat.ite (by kernel_rfl) ?_ ?_
 ·exact Sat.cut (s0 := (0, 0)) [(7, false), (11, false), (12, false)] c_ok (by kernel_rfl) (by kernel_rfl) (by kernel_rfl) (by kernel_rfl) (s_settle_settled_j0 s3)
 exact Sat.cut (s0 := (s3.2.1, s3.2.2)) [(7, false), (11, false), (12, false)] c_ok (by kernel_rfl) (by kernel_rfl) (by kernel_rfl) (by kernel_rfl) (s_settle_settled_j0 s3)
theorem s_settle_settled_j2 (x : ApiInterest) (s : (Int × Int)) : Sat (cx 50 [.tmp 6, .cell 7 49, .tmp 8]) (R0 settle_settled_E) D0 ((cx 50 [.tmp 6, .cell 7 49, .tmp 8]).ex (sub b89 [true, true]) (settle_settled_j2_S x s) ((cx 50 [.tmp 6, .cell 7 49, .tmp 8]).kAt b89 [true, true] (k0 (cx 50 [.tmp 6, .cell 7 49, .tmp 8]).ti (cx 50 [.tmp 6, .cell 7 49, .tmp 8]).rvs))) (settle_settled_j2 x s) := by
 delta settle_settled_j2
 refine Sat.call (s_wide_Cmp (⟨s.1, s.2⟩ : ApiWide) (⟨0, 0⟩ : ApiWide)) (by kernel_rfl) (fun r1 => ?_)
 refine Sat.ite (by kernel_rfl) ?_ ?_
 ·refine Sat.call (s_rounding_Amount (⟨s.1, s.2⟩ : ApiWide) x.Mode) (by kernel_rfl) (fun r2 => ?_)
  refine Sat.ite (by kernel_rfl) ?_ ?_
  ·exact Sat.ret0 [true, true, true] (by kernel_rfl) (by kernel_rfl)
  exact Sat.cut (s0 := (r2.1, r2.2.1.Hi, r2.2.1.Lo)) [(3, false), (7, false), (11, false), (12, false)] c_ok (by kernel_rfl) (by kernel_rfl) (by kernel_rfl) (by kernel_rfl) (s_settle_settled_j1 x)
 exact Sat.cut (s0 := (0, s.1, s.2)) [(3, false), (7, false), (11, false), (12, false)] c_ok (by kernel_rfl) (by kernel_rfl) (by kernel_rfl) (by kernel_rfl) (s_settle_settled_j1 x)
theorem s_settle_settled (x : ApiInterest) (grains : ApiWide) (rest : ApiWide) : DoesP Tryz.prog gt 89 [.val (.agg (ApiInterest.enc x)), .val (.agg (ApiWide.enc grains)), .val (.agg (ApiWide.enc rest))] settle_settled_E (settle_settled x grains rest) := by
 refine does_of (c := (cx 50 [.tmp 6, .cell 7 49, .tmp 8])) c_ok (fn := Tryz.f89) (code := b89) Tryz.func89 (by kernel_rfl) (by kernel_rfl) (by kernel_rfl) (by kernel_rfl) (by kernel_rfl) ?_
 delta settle_settled
 refine Sat.ite (by kernel_rfl) ?_ ?_
 ·refine Sat.call (s_wide_Add grains rest) (by kernel_rfl) (fun r => ?_)
  refine Sat.ite (by kernel_rfl) ?_ ?_
  ·exact Sat.ret0 [true, true, true] (by kernel_rfl) (by kernel_rfl)
  exact Sat.cut (s0 := (r.1.Hi, r.1.Lo)) [(3, false), (4, false), (7, false)] c_ok (by kernel_rfl) (by kernel_rfl) (by kernel_rfl) (by kernel_rfl) (s_settle_settled_j2 x)
 exact Sat.cut (s0 := (grains.Hi, grains.Lo)) [(3, false), (4, false), (7, false)] c_ok (by kernel_rfl) (by kernel_rfl) (by kernel_rfl) (by kernel_rfl) (s_settle_settled_j2 x)
noncomputable def b90 : Code := (Tryz.f90.body).getD .skip
def rounding_Percent_E : (Int × Int) → List RR := fun r => [.val (.int .i64 r.1), .val (.int .i64 r.2)]
theorem s_rounding_Percent (amount : Int) (ppm : Int) (mode : Int) : DoesP Tryz.prog gt 90 [.val (.int .i64 amount), .val (.int .i64 ppm), .val (.int .i64 mode)] rounding_Percent_E (rounding_Percent amount ppm mode) := by
 refine does_of (c := (cx 31 [.tmp 6, .tmp 7])) c_ok (fn := Tryz.f90) (code := b90) Tryz.func90 (by kernel_rfl) (by kernel_rfl) (by kernel_rfl) (by kernel_rfl) (by kernel_rfl) ?_
 delta rounding_Percent
 refine Sat.call (s_rounding_valid amount) (by kernel_rfl) (fun r => ?_)
 refine Sat.callG (s_rounding_Valid mode) (by kernel_rfl) (fun r1 => ?_)
 refine Sat.ite (by kernel_rfl) ?_ ?_
 ·exact Sat.ret0 [true, true] (by kernel_rfl) (by kernel_rfl)
 refine Sat.call (s_wide_Mul amount ppm) (by kernel_rfl) (fun r2 => ?_)
 refine Sat.call (s_rounding_Divide r2 1000000 mode) (by kernel_rfl) (fun r3 => ?_)
 exact Sat.ret0 [true, true] (by kernel_rfl) (by kernel_rfl)
noncomputable def b64 : Code := (Tryz.f64.body).getD .skip
def settle_Period_E : (ApiPeriod × Int) → List RR := fun r => [.val (.agg (ApiPeriod.enc r.1)), .val (.int .i64 r.2)]
theorem s_settle_Period (b : ApiBooks) (l : (List ApiPeriod)) (id : Int) (to' : Int) : DoesP Tryz.prog gt 64 [.val (.agg (ApiBooks.enc b)), .val (.slice (List.map ApiPeriod.enc l)), .val (.int .i64 id), .val (.int .i64 to')] settle_Period_E (settle_Period b l id to') := by
 refine does_of (c := (cx 138 [.cell 8 51, .tmp 9])) c_ok (fn := Tryz.f64) (code := b64) Tryz.func64 (by kernel_rfl) (by kernel_rfl) (by kernel_rfl) (by kernel_rfl) (by kernel_rfl) ?_
 delta settle_Period
 refine Sat.call (s_account_Find b id) (by kernel_rfl) (fun r => ?_)
 refine Sat.ite (by kernel_rfl) ?_ ?_
 ·exact Sat.ret0 [true, true] (by kernel_rfl) (by kernel_rfl)
 refine Sat.call (s_settle_first l r.1) (by kernel_rfl) (fun r1 => ?_)
 refine Sat.call (s_date_Valid to') (by kernel_rfl) (fun r2 => ?_)
 refine Sat.callG (s_date_Valid r1) (by kernel_rfl) (fun r3 => ?_)
 refine Sat.ite (by kernel_rfl) ?_ ?_
 ·exact Sat.ret0 [true, true] (by kernel_rfl) (by kernel_rfl)
 refine Sat.call (s_accrue_Series b id r1 to') (by kernel_rfl) (fun r4 => ?_)
 refine Sat.ite (by kernel_rfl) ?_ ?_
 ·exact Sat.ret0 [true, true] (by kernel_rfl) (by kernel_rfl)
 refine Sat.call (s_account_Product b id to') (by kernel_rfl) (fun r5 => ?_)
 refine Sat.ite (by kernel_rfl) ?_ ?_
 ·exact Sat.ret0 [true, true] (by kernel_rfl) (by kernel_rfl)
 refine Sat.call (s_accrue_Total r4.1) (by kernel_rfl) (fun r6 => ?_)
 refine Sat.ite (by kernel_rfl) ?_ ?_
 ·exact Sat.ret0 [true, true] (by kernel_rfl) (by kernel_rfl)
 refine Sat.call (s_settle_Last l id) (by kernel_rfl) (fun r7 => ?_)
 refine Sat.call (s_settle_settled r5.1.Credit r6.1 r7.1.CreditRest) (by kernel_rfl) (fun r8 => ?_)
 refine Sat.ite (by kernel_rfl) ?_ ?_
 ·exact Sat.ret0 [true, true] (by kernel_rfl) (by kernel_rfl)
 refine Sat.call (s_settle_settled r5.1.Debit r6.2.1 r7.1.DebitRest) (by kernel_rfl) (fun r9 => ?_)
 refine Sat.ite (by kernel_rfl) ?_ ?_
 ·exact Sat.ret0 [true, true] (by kernel_rfl) (by kernel_rfl)
 refine Sat.call (s_rounding_Percent r8.1 r5.1.TaxPpm 1) (by kernel_rfl) (fun r10 => ?_)
 refine Sat.ite (by kernel_rfl) ?_ ?_
 ·exact Sat.ret0 [true, true] (by kernel_rfl) (by kernel_rfl)
 exact Sat.ret0 [true, true] (by kernel_rfl) (by kernel_rfl)
noncomputable def b42 : Code := (Tryz.f42.body).getD .skip
def backdate_computed_E : (ApiPeriod × Int) → List RR := fun r => [.val (.agg (ApiPeriod.enc r.1)), .val (.int .i64 r.2)]
theorem s_backdate_computed (b : ApiBooks) (l : (List ApiPeriod)) (i : Int) : DoesP Tryz.prog gt 42 [.val (.agg (ApiBooks.enc b)), .val (.slice (List.map ApiPeriod.enc l)), .val (.int .i64 i)] backdate_computed_E (backdate_computed b l i) := by
 refine does_of (c := (cx 28 [.cell 6 51, .tmp 7])) c_ok (fn := Tryz.f42) (code := b42) Tryz.func42 (by kernel_rfl) (by kernel_rfl) (by kernel_rfl) (by kernel_rfl) (by kernel_rfl) ?_
 delta backdate_computed
 refine Sat.need (g := true) (p := ((0 : Int) ≤ 0 ∧ 0 ≤ i ∧ i ≤ i ∧ i ≤ ((List.map ApiPeriod.enc l).length : Int)) ∧ ∀ r ∈ (List.map ApiPeriod.enc l), r.length = 11) (by kernel_rfl) (fun h _ => by exact ⟨by simpa using h, map_len ApiPeriod.enc 11 (fun _ => rfl) _⟩) ?_
 refine Sat.opt (enc := ApiPeriod.enc) (by kernel_rfl) (getRow_map _ _ _) (fun li => ?_)
 refine Sat.opt (enc := ApiPeriod.enc) (by kernel_rfl) (getRow_map _ _ _) (fun li1 => ?_)
 refine Sat.call (DoesP.cast (args := [.val (.agg [.slice (List.map ApiCurrency.enc b.Currencies), .slice (List.map ApiCalendar.enc b.Calendars), .slice (List.map ApiGl.enc b.Chart), .int .i64 b.Plan.Cash, .int .i64 b.Plan.Deposits, .int .i64 b.Plan.InterestPaid, .int .i64 b.Plan.InterestEarned, .int .i64 b.Plan.FeeEarned, .int .i64 b.Plan.Tax, .int .i64 b.Plan.Clearing, .int .i64 b.Plan.Loans, .int .i64 b.Plan.LoanInterest, .int .i64 b.Plan.Penalty, .int .i64 b.Plan.Provision, .int .i64 b.Plan.ProvisionCost, .int .i64 b.Plan.Loss, .int .i64 b.Plan.Recovery, .slice (List.map ApiProduct.enc b.Products), .slice (List.map ApiAccount.enc b.Accounts), .slice (List.map ApiEntry.enc b.Journal), .slice (List.map ApiHold.enc b.Holds), .slice (List.map ApiBlock.enc b.Blocks)]), .val (.slice (sliceRows (List.map ApiPeriod.enc l) 0 i)), .val (.int .i64 li.Account), .val (.int .i64 li1.To)]) (by simp [ApiBooks.enc, ApiPeriod.enc, List.map_append, List.map_set, List.map_take, List.map_drop, sliceRows_map, List.map_replicate, eInt, eBool, eStr]) (s_settle_Period b (subl l 0 i) li.Account li1.To)) (by kernel_rfl) (fun r => ?_)
 exact Sat.ret0 [true, true] (by kernel_rfl) (by kernel_rfl)
noncomputable def b22 : Code := (Tryz.f22.body).getD .skip
def backdate_fits_E : Bool → List RR := fun r => [.val (.bool r)]
theorem s_backdate_fits (b : ApiBooks) (l : (List ApiPeriod)) (i : Int) : DoesP Tryz.prog gt 22 [.val (.agg (ApiBooks.enc b)), .val (.slice (List.map ApiPeriod.enc l)), .val (.int .i64 i)] backdate_fits_E (backdate_fits b l i) := by
 refine does_of (c := (cx 32 [.tmp 6])) c_ok (fn := Tryz.f22) (code := b22) Tryz.func22 (by kernel_rfl) (by kernel_rfl) (by kernel_rfl) (by kernel_rfl) (by kernel_rfl) ?_
 delta backdate_fits
 refine Sat.call (s_backdate_computed b l i) (by kernel_rfl) (fun r => ?_)
 refine Sat.opt (enc := ApiPeriod.enc) (by kernel_rfl) (getRow_map _ _ _) (fun li => ?_)
 refine Sat.optG (enc := ApiPeriod.enc) (by kernel_rfl) (getRow_map _ _ _) (fun li1 => ?_)
 exact Sat.ret0 [true] (by kernel_rfl) (by kernel_rfl)
noncomputable def b8 : Code := (Tryz.f8.body).getD .skip
def backdate_Clean_E : Bool → List RR := fun r => [.val (.bool r)]
def backdate_Clean_l1_S (b : ApiBooks) (l : (List ApiPeriod)) (id : Int) : Int → St := fun s => (⟨[(1, .rv (.val (.slice (List.map ApiPeriod.enc l)))), (2, .rv (.val (.int .i64 id))), (3, .box 0 0), (19, .rv (.val (.slice (List.map ApiPeriod.enc l)))), (20, .rv (.val (.int .i64 ((List.map ApiPeriod.enc l).length : Int)))), (21, .rv (.val (.int .i64 s)))], [(0, some (.box [.val (.slice (List.map ApiCurrency.enc b.Currencies)), .val (.slice (List.map ApiCalendar.enc b.Calendars)), .val (.slice (List.map ApiGl.enc b.Chart)), .val (.int .i64 b.Plan.Cash), .val (.int .i64 b.Plan.Deposits), .val (.int .i64 b.Plan.InterestPaid), .val (.int .i64 b.Plan.InterestEarned), .val (.int .i64 b.Plan.FeeEarned), .val (.int .i64 b.Plan.Tax), .val (.int .i64 b.Plan.Clearing), .val (.int .i64 b.Plan.Loans), .val (.int .i64 b.Plan.LoanInterest), .val (.int .i64 b.Plan.Penalty), .val (.int .i64 b.Plan.Provision), .val (.int .i64 b.Plan.ProvisionCost), .val (.int .i64 b.Plan.Loss), .val (.int .i64 b.Plan.Recovery), .val (.slice (List.map ApiProduct.enc b.Products)), .val (.slice (List.map ApiAccount.enc b.Accounts)), .val (.slice (List.map ApiEntry.enc b.Journal)), .val (.slice (List.map ApiHold.enc b.Holds)), .val (.slice (List.map ApiBlock.enc b.Blocks))]))], 1⟩ : St)
theorem s_backdate_Clean_l1 (b : ApiBooks) (l : (List ApiPeriod)) (id : Int) (s : Int) : Sat (cx 38 [.tmp 6]) (loopR (R0 backdate_Clean_E)) (loopD (cx 38 [.tmp 6]) (R0 backdate_Clean_E) D0 (backdate_Clean_l1_S b l id) [(1, false), (2, false), (3, false), (19, false), (20, false), (21, false)] ((cx 38 [.tmp 6]).kAt b8 [true, true, false, true, false] (k0 (cx 38 [.tmp 6]).ti (cx 38 [.tmp 6]).rvs))) ((cx 38 [.tmp 6]).ex (sub b8 [true, true, false, true, false, false]) (backdate_Clean_l1_S b l id s) T.done) (backdate_Clean_l1 b l id s) := by
 delta backdate_Clean_l1
 refine Sat.ite (by kernel_rfl) ?_ ?_
 ·refine Sat.opt (enc := ApiPeriod.enc) (by kernel_rfl) (getRow_map _ _ _) (fun li => ?_)
  refine Sat.callG (s_backdate_fits b l s) (by kernel_rfl) (fun r1 => ?_)
  refine Sat.ite (by kernel_rfl) ?_ ?_
  ·refine Sat.retL (D := D0) (A := some false) (by kernel_rfl) ?_
   exact Sat.ret0 [true] (by kernel_rfl) (by kernel_rfl)
  exact Sat.next (by kernel_rfl) (by kernel_rfl)
 refine Sat.out (id := 0) (A := some true) (by kernel_rfl) ?_
 exact Sat.ret0 [true] (by kernel_rfl) (by kernel_rfl)
theorem s_backdate_Clean (b : ApiBooks) (l : (List ApiPeriod)) (id : Int) : DoesP Tryz.prog gt 8 [.val (.agg (ApiBooks.enc b)), .val (.slice (List.map ApiPeriod.enc l)), .val (.int .i64 id)] backdate_Clean_E (backdate_Clean b l id) := by
 refine does_of (c := (cx 38 [.tmp 6])) c_ok (fn := Tryz.f8) (code := b8) Tryz.func8 (by kernel_rfl) (by kernel_rfl) (by kernel_rfl) (by kernel_rfl) (by kernel_rfl) ?_
 delta backdate_Clean
 refine Sat.call (s_account_Find b id) (by kernel_rfl) (fun r => ?_)
 refine Sat.ite (by kernel_rfl) ?_ ?_
 ·exact Sat.ret0 [true] (by kernel_rfl) (by kernel_rfl)
 exact Sat.loop (s0 := 0) [(1, false), (2, false), (3, false), (19, false), (20, false), (21, false)] c_ok (by kernel_rfl) (by kernel_rfl) (by kernel_rfl) (by kernel_rfl) (s_backdate_Clean_l1 b l id)
noncomputable def b7 : Code := (Tryz.f7.body).getD .skip
def l30_Lives_E : Bool → List RR := fun r => [.val (.bool r)]
theorem s_l30_Lives : DoesP Tryz.prog gt 7 [] l30_Lives_E (l30_Lives) := by
 refine does_of (c := (cx 51 [.tmp 0])) c_ok (fn := Tryz.f7) (code := b7) Tryz.func7 (by kernel_rfl) (by kernel_rfl) (by kernel_rfl) (by kernel_rfl) (by kernel_rfl) ?_
 delta l30_Lives
 refine Sat.call (s_backdate_Events ([(⟨0, 0, 0, 1, 0, 0, (bs [97]), (bs []), [], 0⟩ : ApiEntry), (⟨0, 0, 0, 4, 0, 0, (bs [98]), (bs []), [], 0⟩ : ApiEntry), (⟨0, 0, 0, 5, 0, 0, (bs [99]), (bs []), [], 0⟩ : ApiEntry), (⟨0, 0, 0, 6, 0, 0, (bs [100]), (bs []), [], 0⟩ : ApiEntry)])) (by kernel_rfl) (fun r => ?_)
 refine Sat.call (s_backdate_Affected ([(⟨1000, 0, 5, 0, 0, 0, 0, (⟨0, 0⟩ : ApiWide), (⟨0, 0⟩ : ApiWide)⟩ : ApiPeriod), (⟨1001, 0, 9, 0, 0, 0, 0, (⟨0, 0⟩ : ApiWide), (⟨0, 0⟩ : ApiWide)⟩ : ApiPeriod), (⟨1000, 0, 9, 0, 0, 0, 0, (⟨0, 0⟩ : ApiWide), (⟨0, 0⟩ : ApiWide)⟩ : ApiPeriod)]) 1000 6) (by kernel_rfl) (fun r1 => ?_)
 refine Sat.optG (enc := ApiEntry.enc) (by kernel_rfl) (getRow_map _ _ _) (fun o => ?_)
 refine Sat.optG (enc := ApiEntry.enc) (by kernel_rfl) (getEl_map _ _ _) (fun x => ?_)
 refine Sat.optG (enc := ApiEntry.enc) (by kernel_rfl) (getRow_map _ _ _) (fun o2 => ?_)
 refine Sat.optG (enc := ApiEntry.enc) (by kernel_rfl) (getEl_map _ _ _) (fun x3 => ?_)
 refine Sat.optG (enc := (eInt .i64)) (by kernel_rfl) (getRow_map _ _ _) (fun o4 => ?_)
 refine Sat.optG (enc := (eInt .i64)) (by kernel_rfl) (getEl_map _ _ _) (fun x5 => ?_)
 refine Sat.callG (s_backdate_Clean (⟨[], [], [], (⟨0, 0, 0, 0, 0, 0, 0, 0, 0, 0, 0, 0, 0, 0⟩ : ApiPlan), [], [], [], [], []⟩ : ApiBooks) ([]) 1000) (by kernel_rfl) (fun r6 => ?_)
 exact Sat.ret0 [true] (by kernel_rfl) (by kernel_rfl)
noncomputable def b69 : Code := (Tryz.f69.body).getD .skip
def q29_Last_E : (ApiPeriod × Bool) → List RR := fun r => [.val (.agg (ApiPeriod.enc r.1)), .val (.bool r.2)]
def q29_Last_l1_S (l : (List ApiPeriod)) (id : Int) : Int → St := fun s => (⟨[(0, .rv (.val (.slice (List.map ApiPeriod.enc l)))), (1, .rv (.val (.int .i64 id))), (4, .box 0 0), (6, .rv (.val (.int .i64 s)))], [(0, some (.box [.val (.int .i64 0), .val (.int .i64 0), .val (.int .i64 0), .val (.int .i64 0), .val (.int .i64 0), .val (.int .i64 0), .val (.int .i64 0), .val (.int .i64 0), .val (.int .u64 0), .val (.int .i64 0), .val (.int .u64 0)]))], 1⟩ : St)
theorem s_q29_Last_l1 (l : (List ApiPeriod)) (id : Int) (s : Int) : Sat (cx 26 [.cell 4 51, .tmp 5]) (loopR (R0 q29_Last_E)) (loopD (cx 26 [.cell 4 51, .tmp 5]) (R0 q29_Last_E) D0 (q29_Last_l1_S l id) [(0, false), (1, false), (4, false), (6, false)] ((cx 26 [.cell 4 51, .tmp 5]).kAt b69 [true, false, true, false] (k0 (cx 26 [.cell 4 51, .tmp 5]).ti (cx 26 [.cell 4 51, .tmp 5]).rvs))) ((cx 26 [.cell 4 51, .tmp 5]).ex (sub b69 [true, false, true, false, false]) (q29_Last_l1_S l id s) T.done) (q29_Last_l1 l id s) := by
 delta q29_Last_l1
 refine Sat.ite (by kernel_rfl) ?_ ?_
 ·refine Sat.opt (enc := ApiPeriod.enc) (by kernel_rfl) (getRow_map _ _ _) (fun li => ?_)
  refine Sat.ite (by kernel_rfl) ?_ ?_
  ·refine Sat.opt (enc := ApiPeriod.enc) (by kernel_rfl) (getRow_map _ _ _) (fun li1 => ?_)
   refine Sat.retL (D := D0) (A := some (li1, true)) (by kernel_rfl) ?_
   exact Sat.ret0 [true, true] (by kernel_rfl) (by kernel_rfl)
  exact Sat.next (by kernel_rfl) (by kernel_rfl)
 refine Sat.out (id := 0) (A := some ((⟨0, 0, 0, 0, 0, 0, 0, (⟨0, 0⟩ : ApiWide), (⟨0, 0⟩ : ApiWide)⟩ : ApiPeriod), false)) (by kernel_rfl) ?_
 exact Sat.ret0 [true, true] (by kernel_rfl) (by kernel_rfl)
theorem s_q29_Last (l : (List ApiPeriod)) (id : Int) : DoesP Tryz.prog gt 69 [.val (.slice (List.map ApiPeriod.enc l)), .val (.int .i64 id)] q29_Last_E (q29_Last l id) := by
 refine does_of (c := (cx 26 [.cell 4 51, .tmp 5])) c_ok (fn := Tryz.f69) (code := b69) Tryz.func69 (by kernel_rfl) (by kernel_rfl) (by kernel_rfl) (by kernel_rfl) (by kernel_rfl) ?_
 delta q29_Last
 exact Sat.loop (s0 := (IntKind.wrap .i64 (((List.map ApiPeriod.enc l).length : Int) - 1))) [(0, false), (1, false), (4, false), (6, false)] c_ok (by kernel_rfl) (by kernel_rfl) (by kernel_rfl) (by kernel_rfl) (s_q29_Last_l1 l id)
noncomputable def b65 : Code := (Tryz.f65.body).getD .skip
def q29_First_E : Int → List RR := fun r => [.val (.int .i64 r)]
theorem s_q29_First (b : ApiBooks) (l : (List ApiPeriod)) (id : Int) : DoesP Tryz.prog gt 65 [.val (.agg (ApiBooks.enc b)), .val (.slice (List.map ApiPeriod.enc l)), .val (.int .i64 id)] q29_First_E (q29_First b l id) := by
 refine does_of (c := (cx 33 [.tmp 6])) c_ok (fn := Tryz.f65) (code := b65) Tryz.func65 (by kernel_rfl) (by kernel_rfl) (by kernel_rfl) (by kernel_rfl) (by kernel_rfl) ?_
 delta q29_First
 refine Sat.call (s_q29_Last l id) (by kernel_rfl) (fun r => ?_)
 refine Sat.ite (by kernel_rfl) ?_ ?_
 ·refine Sat.call (s_q24_Find b id) (by kernel_rfl) (fun r1 => ?_)
  exact Sat.ret0 [true] (by kernel_rfl) (by kernel_rfl)
 refine Sat.ite (by kernel_rfl) ?_ ?_
 ·exact Sat.ret0 [true] (by kernel_rfl) (by kernel_rfl)
 exact Sat.ret0 [true] (by kernel_rfl) (by kernel_rfl)
noncomputable def b147 : Code := (Tryz.f147.body).getD .skip
def q21_moved_E : Int → List RR := fun r => [.val (.int .i64 r)]
def q21_moved_j0_S (e : ApiEntry) (account : Int) (s : (Int × Int)) : Int → St := fun s2 => (⟨[(1, .rv (.val (.int .i64 account))), (2, .box 0 0), (5, .rv (.val (.int .i64 s2))), (6, .rv (.val (.int .i64 s.2)))], [(0, some (.box [.val (.int .i64 e.Id), .val (.int .i64 e.Booked), .val (.int .i64 e.Value), .val (.int .i64 e.Kind), .val (.int .i64 e.Auth), .val (.int .i64 e.Period), .val (.str e.Key), .val (.str e.Text), .val (.slice (List.map ApiLeg.enc e.Legs)), .val (.int .u64 e.Chain)]))], 1⟩ : St)
def q21_moved_l1_S (e : ApiEntry) (account : Int) : (Int × Int) → St := fun s => (⟨[(1, .rv (.val (.int .i64 account))), (2, .box 0 0), (5, .rv (.val (.int .i64 s.1))), (6, .rv (.val (.int .i64 s.2)))], [(0, some (.box [.val (.int .i64 e.Id), .val (.int .i64 e.Booked), .val (.int .i64 e.Value), .val (.int .i64 e.Kind), .val (.int .i64 e.Auth), .val (.int .i64 e.Period), .val (.str e.Key), .val (.str e.Text), .val (.slice (List.map ApiLeg.enc e.Legs)), .val (.int .u64 e.Chain)]))], 1⟩ : St)
theorem s_q21_moved_j0 (e : ApiEntry) (account : Int) (s : (Int × Int)) (s2 : Int) : Sat (cx 31 [.tmp 4]) (loopR (R0 q21_moved_E)) (loopD (cx 31 [.tmp 4]) (R0 q21_moved_E) D0 (q21_moved_l1_S e account) [(1, false), (2, false), (5, false), (6, false)] ((cx 31 [.tmp 4]).kAt b147 [true, true, false, true, false] (k0 (cx 31 [.tmp 4]).ti (cx 31 [.tmp 4]).rvs))) ((cx 31 [.tmp 4]).ex (sub b147 [true, true, false, true, false, false, true, true]) (q21_moved_j0_S e account s s2) ((cx 31 [.tmp 4]).kAt b147 [true, true, false, true, false, false, true, true] (k0 (cx 31 [.tmp 4]).ti (cx 31 [.tmp 4]).rvs))) (q21_moved_j0 s s2) := by
 delta q21_moved_j0
 exact Sat.next (by kernel_rfl) (by kernel_rfl)
theorem s_q21_moved_l1 (e : ApiEntry) (account : Int) (s : (Int × Int)) : Sat (cx 31 [.tmp 4]) (loopR (R0 q21_moved_E)) (loopD (cx 31 [.tmp 4]) (R0 q21_moved_E) D0 (q21_moved_l1_S e account) [(1, false), (2, false), (5, false), (6, false)] ((cx 31 [.tmp 4]).kAt b147 [true, true, false, true, false] (k0 (cx 31 [.tmp 4]).ti (cx 31 [.tmp 4]).rvs))) ((cx 31 [.tmp 4]).ex (sub b147 [true, true, false, true, false, false]) (q21_moved_l1_S e account s) T.done) (q21_moved_l1 e account s) := by
 delta q21_moved_l1
 refine Sat.ite (by kernel_rfl) ?_ ?_
 ·refine Sat.opt (enc := ApiLeg.enc) (by kernel_rfl) (getRow_map _ _ _) (fun leg => ?_)
  refine Sat.ite (by kernel_rfl) ?_ ?_
  ·refine Sat.opt (enc := ApiLeg.enc) (by kernel_rfl) (getRow_map _ _ _) (fun leg1 => ?_)
   exact Sat.cut (s0 := (IntKind.wrap .i64 (s.1 - leg1.Amount))) [(1, false), (2, false), (5, false), (6, false)] c_ok (by kernel_rfl) (by kernel_rfl) (by kernel_rfl) (by kernel_rfl) (s_q21_moved_j0 e account s)
  exact Sat.cut (s0 := s.1) [(1, false), (2, false), (5, false), (6, false)] c_ok (by kernel_rfl) (by kernel_rfl) (by kernel_rfl) (by kernel_rfl) (s_q21_moved_j0 e account s)
 refine Sat.out (id := 0) (A := some s.1) (by kernel_rfl) ?_
 exact Sat.ret0 [true] (by kernel_rfl) (by kernel_rfl)
theorem s_q21_moved (e : ApiEntry) (account : Int) : DoesP Tryz.prog gt 147 [.val (.agg (ApiEntry.enc e)), .val (.int .i64 account)] q21_moved_E (q21_moved e account) := by
 refine does_of (c := (cx 31 [.tmp 4])) c_ok (fn := Tryz.f147) (code := b147) Tryz.func147 (by kernel_rfl) (by kernel_rfl) (by kernel_rfl) (by kernel_rfl) (by kernel_rfl) ?_
 delta q21_moved
 exact Sat.loop (s0 := (0, 0)) [(1, false), (2, false), (5, false), (6, false)] c_ok (by kernel_rfl) (by kernel_rfl) (by kernel_rfl) (by kernel_rfl) (s_q21_moved_l1 e account)
noncomputable def b116 : Code := (Tryz.f116.body).getD .skip
def q21_At_E : Int → List RR := fun r => [.val (.int .i64 r)]
def q21_At_j0_S (j : (List ApiEntry)) (account : Int) (booked : Int) (value : Int) (s : (Int × Int)) : Int → St := fun s3 => (⟨[(0, .rv (.val (.slice (List.map ApiEntry.enc j)))), (1, .rv (.val (.int .i64 account))), (2, .rv (.val (.int .i64 booked))), (3, .rv (.val (.int .i64 value))), (9, .rv (.val (.int .i64 s3))), (10, .rv (.val (.int .i64 s.2)))], [], 0⟩ : St)
def q21_At_l1_S (j : (List ApiEntry)) (account : Int) (booked : Int) (value : Int) : (Int × Int) → St := fun s => (⟨[(0, .rv (.val (.slice (List.map ApiEntry.enc j)))), (1, .rv (.val (.int .i64 account))), (2, .rv (.val (.int .i64 booked))), (3, .rv (.val (.int .i64 value))), (9, .rv (.val (.int .i64 s.1))), (10, .rv (.val (.int .i64 s.2)))], [], 0⟩ : St)
theorem s_q21_At_j0 (j : (List ApiEntry)) (account : Int) (booked : Int) (value : Int) (s : (Int × Int)) (s3 : Int) : Sat (cx 42 [.tmp 8]) (loopR (R0 q21_At_E)) (loopD (cx 42 [.tmp 8]) (R0 q21_At_E) D0 (q21_At_l1_S j account booked value) [(0, false), (1, false), (2, false), (3, false), (9, false), (10, false)] ((cx 42 [.tmp 8]).kAt b116 [true, true, false, true, false] (k0 (cx 42 [.tmp 8]).ti (cx 42 [.tmp 8]).rvs))) ((cx 42 [.tmp 8]).ex (sub b116 [true, true, false, true, false, false, true, true]) (q21_At_j0_S j account booked value s s3) ((cx 42 [.tmp 8]).kAt b116 [true, true, false, true, false, false, true, true] (k0 (cx 42 [.tmp 8]).ti (cx 42 [.tmp 8]).rvs))) (q21_At_j0 s s3) := by
 delta q21_At_j0
 exact Sat.next (by kernel_rfl) (by kernel_rfl)
theorem s_q21_At_l1 (j : (List ApiEntry)) (account : Int) (booked : Int) (value : Int) (s : (Int × Int)) : Sat (cx 42 [.tmp 8]) (loopR (R0 q21_At_E)) (loopD (cx 42 [.tmp 8]) (R0 q21_At_E) D0 (q21_At_l1_S j account booked value) [(0, false), (1, false), (2, false), (3, false), (9, false), (10, false)] ((cx 42 [.tmp 8]).kAt b116 [true, true, false, true, false] (k0 (cx 42 [.tmp 8]).ti (cx 42 [.tmp 8]).rvs))) ((cx 42 [.tmp 8]).ex (sub b116 [true, true, false, true, false, false]) (q21_At_l1_S j account booked value s) T.done) (q21_At_l1 j account booked value s) := by
 delta q21_At_l1
 refine Sat.ite (by kernel_rfl) ?_ ?_
 ·refine Sat.opt (enc := ApiEntry.enc) (by kernel_rfl) (getRow_map _ _ _) (fun ji => ?_)
  refine Sat.optG (enc := ApiEntry.enc) (by kernel_rfl) (getRow_map _ _ _) (fun ji1 => ?_)
  refine Sat.ite (by kernel_rfl) ?_ ?_
  ·refine Sat.opt (enc := ApiEntry.enc) (by kernel_rfl) (getRow_map _ _ _) (fun ji2 => ?_)
   refine Sat.call (s_q21_moved ji2 account) (by kernel_rfl) (fun r => ?_)
   exact Sat.cut (s0 := (IntKind.wrap .i64 (s.1 + r))) [(0, false), (1, false), (2, false), (3, false), (9, false), (10, false)] c_ok (by kernel_rfl) (by kernel_rfl) (by kernel_rfl) (by kernel_rfl) (s_q21_At_j0 j account booked value s)
  exact Sat.cut (s0 := s.1) [(0, false), (1, false), (2, false), (3, false), (9, false), (10, false)] c_ok (by kernel_rfl) (by kernel_rfl) (by kernel_rfl) (by kernel_rfl) (s_q21_At_j0 j account booked value s)
 refine Sat.out (id := 0) (A := some s.1) (by kernel_rfl) ?_
 exact Sat.ret0 [true] (by kernel_rfl) (by kernel_rfl)
theorem s_q21_At (j : (List ApiEntry)) (account : Int) (booked : Int) (value : Int) : DoesP Tryz.prog gt 116 [.val (.slice (List.map ApiEntry.enc j)), .val (.int .i64 account), .val (.int .i64 booked), .val (.int .i64 value)] q21_At_E (q21_At j account booked value) := by
 refine does_of (c := (cx 42 [.tmp 8])) c_ok (fn := Tryz.f116) (code := b116) Tryz.func116 (by kernel_rfl) (by kernel_rfl) (by kernel_rfl) (by kernel_rfl) (by kernel_rfl) ?_
 delta q21_At
 exact Sat.loop (s0 := (0, 0)) [(0, false), (1, false), (2, false), (3, false), (9, false), (10, false)] c_ok (by kernel_rfl) (by kernel_rfl) (by kernel_rfl) (by kernel_rfl) (s_q21_At_l1 j account booked value)
noncomputable def b67 : Code := (Tryz.f67.body).getD .skip
def q24_Product_E : (ApiProduct × Bool) → List RR := fun r => [.val (.agg (ApiProduct.enc r.1)), .val (.bool r.2)]
theorem s_q24_Product (b : ApiBooks) (id : Int) (day : Int) : DoesP Tryz.prog gt 67 [.val (.agg (ApiBooks.enc b)), .val (.int .i64 id), .val (.int .i64 day)] q24_Product_E (q24_Product b id day) := by
 refine does_of (c := (cx 27 [.cell 6 80, .tmp 7])) c_ok (fn := Tryz.f67) (code := b67) Tryz.func67 (by kernel_rfl) (by kernel_rfl) (by kernel_rfl) (by kernel_rfl) (by kernel_rfl) ?_
 delta q24_Product
 refine Sat.call (s_q24_Find b id) (by kernel_rfl) (fun r => ?_)
 refine Sat.ite (by kernel_rfl) ?_ ?_
 ·exact Sat.ret0 [true, true] (by kernel_rfl) (by kernel_rfl)
 refine Sat.call (s_q17_At b.Products r.1.Product day) (by kernel_rfl) (fun r1 => ?_)
 exact Sat.ret0 [true, true] (by kernel_rfl) (by kernel_rfl)
noncomputable def b117 : Code := (Tryz.f117.body).getD .skip
def q15_Side_E : ApiInterest → List RR := fun r => [.val (.agg (ApiInterest.enc r))]
theorem s_q15_Side (p : ApiProduct) (balance : Int) : DoesP Tryz.prog gt 117 [.val (.agg (ApiProduct.enc p)), .val (.int .i64 balance)] q15_Side_E (q15_Side p balance) := by
 refine does_of (c := (cx 11 [.cell 4 76])) c_ok (fn := Tryz.f117) (code := b117) Tryz.func117 (by kernel_rfl) (by kernel_rfl) (by kernel_rfl) (by kernel_rfl) (by kernel_rfl) ?_
 delta q15_Side
 refine Sat.ite (by kernel_rfl) ?_ ?_
 ·exact Sat.ret0 [true] (by kernel_rfl) (by kernel_rfl)
 exact Sat.ret0 [true] (by kernel_rfl) (by kernel_rfl)
noncomputable def b148 : Code := (Tryz.f148.body).getD .skip
def q14_Size_E : Int → List RR := fun r => [.val (.int .i64 r)]
theorem s_q14_Size (balance : Int) : DoesP Tryz.prog gt 148 [.val (.int .i64 balance)] q14_Size_E (q14_Size balance) := by
 refine does_of (c := (cx 10 [.tmp 2])) c_ok (fn := Tryz.f148) (code := b148) Tryz.func148 (by kernel_rfl) (by kernel_rfl) (by kernel_rfl) (by kernel_rfl) (by kernel_rfl) ?_
 delta q14_Size
 refine Sat.ite (by kernel_rfl) ?_ ?_
 ·exact Sat.ret0 [true] (by kernel_rfl) (by kernel_rfl)
 refine Sat.ite (by kernel_rfl) ?_ ?_
 ·exact Sat.ret0 [true] (by kernel_rfl) (by kernel_rfl)
 exact Sat.ret0 [true] (by kernel_rfl) (by kernel_rfl)
noncomputable def b149 : Code := (Tryz.f149.body).getD .skip
def q14_Rate_E : Int → List RR := fun r => [.val (.int .i64 r)]
def q14_Rate_j0_S (l : (List ApiTier)) (balance : Int) (s : (Int × Int)) : Int → St := fun s3 => (⟨[(0, .rv (.val (.slice (List.map ApiTier.enc l)))), (1, .rv (.val (.int .i64 balance))), (5, .rv (.val (.int .i64 s3))), (6, .rv (.val (.int .i64 s.2)))], [], 0⟩ : St)
def q14_Rate_l1_S (l : (List ApiTier)) (balance : Int) : (Int × Int) → St := fun s => (⟨[(0, .rv (.val (.slice (List.map ApiTier.enc l)))), (1, .rv (.val (.int .i64 balance))), (5, .rv (.val (.int .i64 s.1))), (6, .rv (.val (.int .i64 s.2)))], [], 0⟩ : St)
theorem s_q14_Rate_j0 (l : (List ApiTier)) (balance : Int) (s : (Int × Int)) (s3 : Int) : Sat (cx 30 [.tmp 4]) (loopR (R0 q14_Rate_E)) (loopD (cx 30 [.tmp 4]) (R0 q14_Rate_E) D0 (q14_Rate_l1_S l balance) [(0, false), (1, false), (5, false), (6, false)] ((cx 30 [.tmp 4]).kAt b149 [true, true, true, false, true, false] (k0 (cx 30 [.tmp 4]).ti (cx 30 [.tmp 4]).rvs))) ((cx 30 [.tmp 4]).ex (sub b149 [true, true, true, false, true, false, false, true, true]) (q14_Rate_j0_S l balance s s3) ((cx 30 [.tmp 4]).kAt b149 [true, true, true, false, true, false, false, true, true] (k0 (cx 30 [.tmp 4]).ti (cx 30 [.tmp 4]).rvs))) (q14_Rate_j0 s s3) := by
 delta q14_Rate_j0
 exact Sat.next (by kernel_rfl) (by kernel_rfl)
theorem s_q14_Rate_l1 (l : (List ApiTier)) (balance : Int) (s : (Int × Int)) : Sat (cx 30 [.tmp 4]) (loopR (R0 q14_Rate_E)) (loopD (cx 30 [.tmp 4]) (R0 q14_Rate_E) D0 (q14_Rate_l1_S l balance) [(0, false), (1, false), (5, false), (6, false)] ((cx 30 [.tmp 4]).kAt b149 [true, true, true, false, true, false] (k0 (cx 30 [.tmp 4]).ti (cx 30 [.tmp 4]).rvs))) ((cx 30 [.tmp 4]).ex (sub b149 [true, true, true, false, true, false, false]) (q14_Rate_l1_S l balance s) T.done) (q14_Rate_l1 l balance s) := by
 delta q14_Rate_l1
 refine Sat.ite (by kernel_rfl) ?_ ?_
 ·refine Sat.opt (enc := ApiTier.enc) (by kernel_rfl) (getRow_map _ _ _) (fun li => ?_)
  refine Sat.call (s_q14_Size balance) (by kernel_rfl) (fun r1 => ?_)
  refine Sat.ite (by kernel_rfl) ?_ ?_
  ·refine Sat.opt (enc := ApiTier.enc) (by kernel_rfl) (getRow_map _ _ _) (fun li2 => ?_)
   exact Sat.cut (s0 := li2.Ppm) [(0, false), (1, false), (5, false), (6, false)] c_ok (by kernel_rfl) (by kernel_rfl) (by kernel_rfl) (by kernel_rfl) (s_q14_Rate_j0 l balance s)
  exact Sat.cut (s0 := s.1) [(0, false), (1, false), (5, false), (6, false)] c_ok (by kernel_rfl) (by kernel_rfl) (by kernel_rfl) (by kernel_rfl) (s_q14_Rate_j0 l balance s)
 refine Sat.out (id := 0) (A := some s.1) (by kernel_rfl) ?_
 exact Sat.ret0 [true] (by kernel_rfl) (by kernel_rfl)
theorem s_q14_Rate (l : (List ApiTier)) (balance : Int) : DoesP Tryz.prog gt 149 [.val (.slice (List.map ApiTier.enc l)), .val (.int .i64 balance)] q14_Rate_E (q14_Rate l balance) := by
 refine does_of (c := (cx 30 [.tmp 4])) c_ok (fn := Tryz.f149) (code := b149) Tryz.func149 (by kernel_rfl) (by kernel_rfl) (by kernel_rfl) (by kernel_rfl) (by kernel_rfl) ?_
 delta q14_Rate
 refine Sat.call (s_q14_Check l) (by kernel_rfl) (fun r => ?_)
 refine Sat.ite (by kernel_rfl) ?_ ?_
 ·exact Sat.ret0 [true] (by kernel_rfl) (by kernel_rfl)
 exact Sat.loop (s0 := (0, 0)) [(0, false), (1, false), (5, false), (6, false)] c_ok (by kernel_rfl) (by kernel_rfl) (by kernel_rfl) (by kernel_rfl) (s_q14_Rate_l1 l balance)
noncomputable def b119 : Code := (Tryz.f119.body).getD .skip
def q14_Slices_E : (List ApiSlice) → List RR := fun r => [.own 212 (List.map ApiSlice.enc r)]
def q14_Slices_j0_S (l : (List ApiTier)) (r : Int) (s : (Int × (List ApiSlice))) : (List ApiSlice) → St := fun s8 => (⟨[(0, .rv (.val (.slice (List.map ApiTier.enc l)))), (7, .rv (.own 0)), (8, .rv (.val (.int .i64 r))), (9, .rv (.val (.int .i64 s.1)))], [(0, some (.vec 212 (List.map ApiSlice.enc s8)))], 1⟩ : St)
def q14_Slices_j1_S (l : (List ApiTier)) (r : Int) (s : (Int × (List ApiSlice))) : Int → St := fun s4 => (⟨[(0, .rv (.val (.slice (List.map ApiTier.enc l)))), (7, .rv (.own 0)), (8, .rv (.val (.int .i64 r))), (9, .rv (.val (.int .i64 s.1))), (10, .rv (.val (.int .i64 s4)))], [(0, some (.vec 212 (List.map ApiSlice.enc s.2)))], 1⟩ : St)
def q14_Slices_l1_S (l : (List ApiTier)) (r : Int) : (Int × (List ApiSlice)) → St := fun s => (⟨[(0, .rv (.val (.slice (List.map ApiTier.enc l)))), (7, .rv (.own 0)), (8, .rv (.val (.int .i64 r))), (9, .rv (.val (.int .i64 s.1)))], [(0, some (.vec 212 (List.map ApiSlice.enc s.2)))], 1⟩ : St)
theorem s_q14_Slices_j0 (l : (List ApiTier)) (r : Int) (s : (Int × (List ApiSlice))) (s8 : (List ApiSlice)) : Sat (cx 87 [.tmp 6]) (loopR (R0 q14_Slices_E)) (loopD (cx 87 [.tmp 6]) (R0 q14_Slices_E) D0 (q14_Slices_l1_S l r) [(0, false), (7, false), (8, false), (9, false)] ((cx 87 [.tmp 6]).kAt b119 [true, true, true, true, true, false, true, false] (k0 (cx 87 [.tmp 6]).ti (cx 87 [.tmp 6]).rvs))) ((cx 87 [.tmp 6]).ex (sub b119 [true, true, true, true, true, false, true, false, false, true, true]) (q14_Slices_j0_S l r s s8) ((cx 87 [.tmp 6]).kAt b119 [true, true, true, true, true, false, true, false, false, true, true] (k0 (cx 87 [.tmp 6]).ti (cx 87 [.tmp 6]).rvs))) (q14_Slices_j0 s s8) := by
 delta q14_Slices_j0
 exact Sat.next (by kernel_rfl) (by kernel_rfl)
theorem s_q14_Slices_j1 (l : (List ApiTier)) (r : Int) (s : (Int × (List ApiSlice))) (s4 : Int) : Sat (cx 87 [.tmp 6]) (loopR (R0 q14_Slices_E)) (loopD (cx 87 [.tmp 6]) (R0 q14_Slices_E) D0 (q14_Slices_l1_S l r) [(0, false), (7, false), (8, false), (9, false)] ((cx 87 [.tmp 6]).kAt b119 [true, true, true, true, true, false, true, false] (k0 (cx 87 [.tmp 6]).ti (cx 87 [.tmp 6]).rvs))) ((cx 87 [.tmp 6]).ex (sub b119 [true, true, true, true, true, false, true, false, false, true, false, false, true, true]) (q14_Slices_j1_S l r s s4) ((cx 87 [.tmp 6]).kAt b119 [true, true, true, true, true, false, true, false, false, true, false, false, true, true] (k0 (cx 87 [.tmp 6]).ti (cx 87 [.tmp 6]).rvs))) (q14_Slices_j1 l s s4) := by
 delta q14_Slices_j1
 refine Sat.opt (enc := ApiTier.enc) (by kernel_rfl) (getRow_map _ _ _) (fun li5 => ?_)
 refine Sat.ite (by kernel_rfl) ?_ ?_
 ·refine Sat.opt (enc := ApiTier.enc) (by kernel_rfl) (getRow_map _ _ _) (fun li6 => ?_)
  refine Sat.opt (enc := ApiTier.enc) (by kernel_rfl) (getRow_map _ _ _) (fun li7 => ?_)
  refine Sat.need (g := true) (p := ((List.map ApiSlice.enc s.2).length + (List.map ApiSlice.enc ([(⟨(IntKind.wrap .i64 (s4 - li6.From)), li7.Ppm⟩ : ApiSlice)])).length) * 16 ≤ 140737488355328) (by kernel_rfl) (fun h _ => by simpa [sliceRows_map, List.length_set] using h) ?_
  exact Sat.cut (s0 := (s.2 ++ ([(⟨(IntKind.wrap .i64 (s4 - li6.From)), li7.Ppm⟩ : ApiSlice)]))) [(0, false), (7, false), (8, false), (9, false)] c_ok (by kernel_rfl) (Eq.trans (b := (⟨[(0, .rv (.val (.slice (List.map ApiTier.enc l)))), (7, .rv (.own 0)), (8, .rv (.val (.int .i64 r))), (9, .rv (.val (.int .i64 s.1)))], [(0, some (.vec 212 ((List.map ApiSlice.enc s.2) ++ (List.map ApiSlice.enc ([(⟨(IntKind.wrap .i64 (s4 - li6.From)), li7.Ppm⟩ : ApiSlice)])))))], 1⟩ : St)) (by kernel_rfl) (by simp [q14_Slices_j0_S, ApiSlice.enc, List.map_append, List.map_set, List.map_take, List.map_drop, sliceRows_map, List.map_replicate, eInt, eBool, eStr])) (by kernel_rfl) (by kernel_rfl) (s_q14_Slices_j0 l r s)
 exact Sat.cut (s0 := s.2) [(0, false), (7, false), (8, false), (9, false)] c_ok (by kernel_rfl) (by kernel_rfl) (by kernel_rfl) (by kernel_rfl) (s_q14_Slices_j0 l r s)
theorem s_q14_Slices_l1 (l : (List ApiTier)) (r : Int) (s : (Int × (List ApiSlice))) : Sat (cx 87 [.tmp 6]) (loopR (R0 q14_Slices_E)) (loopD (cx 87 [.tmp 6]) (R0 q14_Slices_E) D0 (q14_Slices_l1_S l r) [(0, false), (7, false), (8, false), (9, false)] ((cx 87 [.tmp 6]).kAt b119 [true, true, true, true, true, false, true, false] (k0 (cx 87 [.tmp 6]).ti (cx 87 [.tmp 6]).rvs))) ((cx 87 [.tmp 6]).ex (sub b119 [true, true, true, true, true, false, true, false, false]) (q14_Slices_l1_S l r s) T.done) (q14_Slices_l1 l r s) := by
 delta q14_Slices_l1
 refine Sat.ite (by kernel_rfl) ?_ ?_
 ·refine Sat.optG (enc := ApiTier.enc) (by kernel_rfl) (getRow_map _ _ _) (fun li => ?_)
  refine Sat.ite (by kernel_rfl) ?_ ?_
  ·refine Sat.opt (enc := ApiTier.enc) (by kernel_rfl) (getRow_map _ _ _) (fun li3 => ?_)
   exact Sat.cut (s0 := li3.From) [(0, false), (7, false), (8, false), (9, false), (10, false)] c_ok (by kernel_rfl) (by kernel_rfl) (by kernel_rfl) (by kernel_rfl) (s_q14_Slices_j1 l r s)
  exact Sat.cut (s0 := r) [(0, false), (7, false), (8, false), (9, false), (10, false)] c_ok (by kernel_rfl) (by kernel_rfl) (by kernel_rfl) (by kernel_rfl) (s_q14_Slices_j1 l r s)
 refine Sat.out (id := 0) (A := some s.2) (by kernel_rfl) ?_
 exact Sat.ret0 [false] (by kernel_rfl) (by kernel_rfl)
theorem s_q14_Slices (l : (List ApiTier)) (marginal : Bool) (balance : Int) : DoesP Tryz.prog gt 119 [.val (.slice (List.map ApiTier.enc l)), .val (.bool marginal), .val (.int .i64 balance)] q14_Slices_E (q14_Slices l marginal balance) := by
 refine does_of (c := (cx 87 [.tmp 6])) c_ok (fn := Tryz.f119) (code := b119) Tryz.func119 (by kernel_rfl) (by kernel_rfl) (by kernel_rfl) (by kernel_rfl) (by kernel_rfl) ?_
 delta q14_Slices
 refine Sat.call (s_q14_Size balance) (by kernel_rfl) (fun r => ?_)
 refine Sat.call (s_q14_Check l) (by kernel_rfl) (fun r1 => ?_)
 refine Sat.ite (by kernel_rfl) ?_ ?_
 ·exact Sat.ret0 [false] (by kernel_rfl) (by kernel_rfl)
 refine Sat.ite (by kernel_rfl) ?_ ?_
 ·refine Sat.call (s_q14_Rate l balance) (by kernel_rfl) (fun r2 => ?_)
  exact Sat.ret0 [false] (by kernel_rfl) (by kernel_rfl)
 exact Sat.loop (s0 := (0, [])) [(0, false), (7, false), (8, false), (9, false)] c_ok (by kernel_rfl) (by kernel_rfl) (by kernel_rfl) (by kernel_rfl) (s_q14_Slices_l1 l r)
noncomputable def b151 : Code := (Tryz.f151.body).getD .skip
def q04_Leap_E : Bool → List RR := fun r => [.val (.bool r)]
theorem s_q04_Leap (year : Int) : DoesP Tryz.prog gt 151 [.val (.int .i64 year)] q04_Leap_E (q04_Leap year) := by
 refine does_of (c := (cx 16 [.tmp 2])) c_ok (fn := Tryz.f151) (code := b151) Tryz.func151 (by kernel_rfl) (by kernel_rfl) (by kernel_rfl) (by kernel_rfl) (by kernel_rfl) ?_
 delta q04_Leap
 refine Sat.need0 (g := true) (p := 4 ≠ (0 : Int)) (by kernel_rfl) (by decide) ?_
 refine Sat.need0 (g := ((((year.tmod 4) == 0) == true) && true)) (p := 100 ≠ (0 : Int)) (by kernel_rfl) (by decide) ?_
 refine Sat.need0 (g := ((((year.tmod 100) != 0) == false) && ((((year.tmod 4) == 0) == true) && true))) (p := 400 ≠ (0 : Int)) (by kernel_rfl) (by decide) ?_
 exact Sat.ret0 [true] (by kernel_rfl) (by kernel_rfl)
noncomputable def b177 : Code := (Tryz.f177.body).getD .skip
def q04_yearLength_E : Int → List RR := fun r => [.val (.int .i64 r)]
theorem s_q04_yearLength (year : Int) : DoesP Tryz.prog gt 177 [.val (.int .i64 year)] q04_yearLength_E (q04_yearLength year) := by
 refine does_of (c := (cx 5 [.tmp 2])) c_ok (fn := Tryz.f177) (code := b177) Tryz.func177 (by kernel_rfl) (by kernel_rfl) (by kernel_rfl) (by kernel_rfl) (by kernel_rfl) ?_
 delta q04_yearLength
 refine Sat.call (s_q04_Leap year) (by kernel_rfl) (fun r => ?_)
 refine Sat.ite (by kernel_rfl) ?_ ?_
 ·exact Sat.ret0 [true] (by kernel_rfl) (by kernel_rfl)
 exact Sat.ret0 [true] (by kernel_rfl) (by kernel_rfl)
noncomputable def b178 : Code := (Tryz.f178.body).getD .skip
def q04_Length_E : Int → List RR := fun r => [.val (.int .i64 r)]
def q04_Length_j0_S (year : Int) (month : Int) : Bool → St := fun s1 => (⟨[(0, .rv (.val (.int .i64 year))), (5, .rv (.val (.int .i64 month))), (14, .rv (.val (.bool s1)))], [], 0⟩ : St)
def q04_Length_j1_S (year : Int) (month : Int) : Bool → St := fun s => (⟨[(0, .rv (.val (.int .i64 year))), (5, .rv (.val (.int .i64 month))), (6, .rv (.val (.bool s)))], [], 0⟩ : St)
theorem s_q04_Length_j0 (year : Int) (month : Int) (s1 : Bool) : Sat (cx 23 [.tmp 4]) (R0 q04_Length_E) D0 ((cx 23 [.tmp 4]).ex (sub b178 [true, false, true, false, true, true, true]) (q04_Length_j0_S year month s1) ((cx 23 [.tmp 4]).kAt b178 [true, false, true, false, true, true, true] (k0 (cx 23 [.tmp 4]).ti (cx 23 [.tmp 4]).rvs))) (q04_Length_j0 year month s1) := by
 delta q04_Length_j0
 refine Sat.ite (by kernel_rfl) ?_ ?_
 ·exact Sat.ret0 [true] (by kernel_rfl) (by kernel_rfl)
 refine Sat.ite (by kernel_rfl) ?_ ?_
 ·refine Sat.call (s_q04_Leap year) (by kernel_rfl) (fun r => ?_)
  refine Sat.ite (by kernel_rfl) ?_ ?_
  ·exact Sat.ret0 [true] (by kernel_rfl) (by kernel_rfl)
  exact Sat.ret0 [true] (by kernel_rfl) (by kernel_rfl)
 exact Sat.ret0 [true] (by kernel_rfl) (by kernel_rfl)
theorem s_q04_Length_j1 (year : Int) (month : Int) (s : Bool) : Sat (cx 23 [.tmp 4]) (R0 q04_Length_E) D0 ((cx 23 [.tmp 4]).ex (sub b178 [true, false, true, false, true]) (q04_Length_j1_S year month s) ((cx 23 [.tmp 4]).kAt b178 [true, false, true, false, true] (k0 (cx 23 [.tmp 4]).ti (cx 23 [.tmp 4]).rvs))) (q04_Length_j1 year month s) := by
 delta q04_Length_j1
 refine Sat.ite (by kernel_rfl) ?_ ?_
 ·exact Sat.ret0 [true] (by kernel_rfl) (by kernel_rfl)
 refine Sat.ite (by kernel_rfl) ?_ ?_
 ·exact Sat.cut (s0 := (month == 4)) [(0, false), (5, false), (14, false)] c_ok (by kernel_rfl) (by kernel_rfl) (by kernel_rfl) (by kernel_rfl) (s_q04_Length_j0 year month)
 refine Sat.ite (by kernel_rfl) ?_ ?_
 ·exact Sat.cut (s0 := (month == 6)) [(0, false), (5, false), (14, false)] c_ok (by kernel_rfl) (by kernel_rfl) (by kernel_rfl) (by kernel_rfl) (s_q04_Length_j0 year month)
 refine Sat.ite (by kernel_rfl) ?_ ?_
 ·exact Sat.cut (s0 := (month == 9)) [(0, false), (5, false), (14, false)] c_ok (by kernel_rfl) (by kernel_rfl) (by kernel_rfl) (by kernel_rfl) (s_q04_Length_j0 year month)
 exact Sat.cut (s0 := (month == 11)) [(0, false), (5, false), (14, false)] c_ok (by kernel_rfl) (by kernel_rfl) (by kernel_rfl) (by kernel_rfl) (s_q04_Length_j0 year month)
theorem s_q04_Length (year : Int) (month : Int) : DoesP Tryz.prog gt 178 [.val (.int .i64 year), .val (.int .i64 month)] q04_Length_E (q04_Length year month) := by
 refine does_of (c := (cx 23 [.tmp 4])) c_ok (fn := Tryz.f178) (code := b178) Tryz.func178 (by kernel_rfl) (by kernel_rfl) (by kernel_rfl) (by kernel_rfl) (by kernel_rfl) ?_
 delta q04_Length
 refine Sat.ite (by kernel_rfl) ?_ ?_
 ·exact Sat.cut (s0 := (month == 1)) [(0, false), (5, false), (6, false)] c_ok (by kernel_rfl) (by kernel_rfl) (by kernel_rfl) (by kernel_rfl) (s_q04_Length_j1 year month)
 refine Sat.ite (by kernel_rfl) ?_ ?_
 ·exact Sat.cut (s0 := (month == 3)) [(0, false), (5, false), (6, false)] c_ok (by kernel_rfl) (by kernel_rfl) (by kernel_rfl) (by kernel_rfl) (s_q04_Length_j1 year month)
 refine Sat.ite (by kernel_rfl) ?_ ?_
 ·exact Sat.cut (s0 := (month == 5)) [(0, false), (5, false), (6, false)] c_ok (by kernel_rfl) (by kernel_rfl) (by kernel_rfl) (by kernel_rfl) (s_q04_Length_j1 year month)
 refine Sat.ite (by kernel_rfl) ?_ ?_
 ·exact Sat.cut (s0 := (month == 7)) [(0, false), (5, false), (6, false)] c_ok (by kernel_rfl) (by kernel_rfl) (by kernel_rfl) (by kernel_rfl) (s_q04_Length_j1 year month)
 refine Sat.ite (by kernel_rfl) ?_ ?_
 ·exact Sat.cut (s0 := (month == 8)) [(0, false), (5, false), (6, false)] c_ok (by kernel_rfl) (by kernel_rfl) (by kernel_rfl) (by kernel_rfl) (s_q04_Length_j1 year month)
 refine Sat.ite (by kernel_rfl) ?_ ?_
 ·exact Sat.cut (s0 := (month == 10)) [(0, false), (5, false), (6, false)] c_ok (by kernel_rfl) (by kernel_rfl) (by kernel_rfl) (by kernel_rfl) (s_q04_Length_j1 year month)
 exact Sat.cut (s0 := (month == 12)) [(0, false), (5, false), (6, false)] c_ok (by kernel_rfl) (by kernel_rfl) (by kernel_rfl) (by kernel_rfl) (s_q04_Length_j1 year month)
noncomputable def b150 : Code := (Tryz.f150.body).getD .skip
def q04_Civil_E : (Int × Int × Int) → List RR := fun r => [.val (.int .i64 r.1), .val (.int .i64 r.2.1), .val (.int .i64 r.2.2)]
def q04_Civil_l2_S (s : (Int × Int)) : (Int × Int) → St := fun s3 => (⟨[(0, .rv (.val (.int .i64 s3.1))), (5, .rv (.val (.int .i64 s.2))), (6, .rv (.val (.int .i64 s3.2)))], [], 0⟩ : St)
def q04_Civil_l1_S : (Int × Int) → St := fun s => (⟨[(0, .rv (.val (.int .i64 s.1))), (5, .rv (.val (.int .i64 s.2))), (6, .rv (.val (.int .i64 1)))], [], 0⟩ : St)
theorem s_q04_Civil_l2 (s : (Int × Int)) (s3 : (Int × Int)) : Sat (cx 36 [.tmp 2, .tmp 3, .tmp 4]) (loopR (R0 q04_Civil_E)) (loopD (cx 36 [.tmp 2, .tmp 3, .tmp 4]) (R0 q04_Civil_E) D0 (q04_Civil_l2_S s) [(0, false), (5, false), (6, false)] ((cx 36 [.tmp 2, .tmp 3, .tmp 4]).kAt b150 [true, true, true, true, false, false] (k0 (cx 36 [.tmp 2, .tmp 3, .tmp 4]).ti (cx 36 [.tmp 2, .tmp 3, .tmp 4]).rvs))) ((cx 36 [.tmp 2, .tmp 3, .tmp 4]).ex (sub b150 [true, true, true, true, false, false, false]) (q04_Civil_l2_S s s3) T.done) (q04_Civil_l2 s s3) := by
 delta q04_Civil_l2
 refine Sat.call (s_q04_Length s.2 s3.2) (by kernel_rfl) (fun r4 => ?_)
 refine Sat.ite (by kernel_rfl) ?_ ?_
 ·refine Sat.call (s_q04_Length s.2 s3.2) (by kernel_rfl) (fun r5 => ?_)
  exact Sat.next (by kernel_rfl) (by kernel_rfl)
 refine Sat.out (id := 2) (A := some (s.2, s3.2, (IntKind.wrap .i64 (s3.1 + 1)))) (by kernel_rfl) ?_
 exact Sat.ret0 [true, true, true] (by kernel_rfl) (by kernel_rfl)
theorem s_q04_Civil_l1 (s : (Int × Int)) : Sat (cx 36 [.tmp 2, .tmp 3, .tmp 4]) (loopR (R0 q04_Civil_E)) (loopD (cx 36 [.tmp 2, .tmp 3, .tmp 4]) (R0 q04_Civil_E) D0 (q04_Civil_l1_S) [(0, false), (5, false), (6, false)] ((cx 36 [.tmp 2, .tmp 3, .tmp 4]).kAt b150 [true, true, true, false, false] (k0 (cx 36 [.tmp 2, .tmp 3, .tmp 4]).ti (cx 36 [.tmp 2, .tmp 3, .tmp 4]).rvs))) ((cx 36 [.tmp 2, .tmp 3, .tmp 4]).ex (sub b150 [true, true, true, false, false, false]) (q04_Civil_l1_S s) T.done) (q04_Civil_l1 s) := by
 delta q04_Civil_l1
 refine Sat.call (s_q04_yearLength s.2) (by kernel_rfl) (fun r1 => ?_)
 refine Sat.ite (by kernel_rfl) ?_ ?_
 ·refine Sat.call (s_q04_yearLength s.2) (by kernel_rfl) (fun r2 => ?_)
  exact Sat.next (by kernel_rfl) (by kernel_rfl)
 refine Sat.out (id := 0) (by kernel_rfl) ?_
 exact Sat.loop (s0 := (s.1, 1)) [(0, false), (5, false), (6, false)] c_ok (by kernel_rfl) (by kernel_rfl) (by kernel_rfl) (by kernel_rfl) (s_q04_Civil_l2 s)
theorem s_q04_Civil (day : Int) : DoesP Tryz.prog gt 150 [.val (.int .i64 day)] q04_Civil_E (q04_Civil day) := by
 refine does_of (c := (cx 36 [.tmp 2, .tmp 3, .tmp 4])) c_ok (fn := Tryz.f150) (code := b150) Tryz.func150 (by kernel_rfl) (by kernel_rfl) (by kernel_rfl) (by kernel_rfl) (by kernel_rfl) ?_
 delta q04_Civil
 refine Sat.call (s_q04_Valid day) (by kernel_rfl) (fun r => ?_)
 refine Sat.ite (by kernel_rfl) ?_ ?_
 ·exact Sat.ret0 [true, true, true] (by kernel_rfl) (by kernel_rfl)
 exact Sat.loop (s0 := (day, 2000)) [(0, false), (5, false), (6, false)] c_ok (by kernel_rfl) (by kernel_rfl) (by kernel_rfl) (by kernel_rfl) (s_q04_Civil_l1)
noncomputable def b152 : Code := (Tryz.f152.body).getD .skip
def q06_Thirty_E : Int → List RR := fun r => [.val (.int .i64 r)]
theorem s_q06_Thirty (from' : Int) (to' : Int) : DoesP Tryz.prog gt 152 [.val (.int .i64 from'), .val (.int .i64 to')] q06_Thirty_E (q06_Thirty from' to') := by
 refine does_of (c := (cx 46 [.tmp 4])) c_ok (fn := Tryz.f152) (code := b152) Tryz.func152 (by kernel_rfl) (by kernel_rfl) (by kernel_rfl) (by kernel_rfl) (by kernel_rfl) ?_
 delta q06_Thirty
 refine Sat.call (s_q04_Valid from') (by kernel_rfl) (fun r => ?_)
 refine Sat.callG (s_q04_Valid to') (by kernel_rfl) (fun r1 => ?_)
 refine Sat.ite (by kernel_rfl) ?_ ?_
 ·exact Sat.ret0 [true] (by kernel_rfl) (by kernel_rfl)
 refine Sat.call (s_q04_Civil from') (by kernel_rfl) (fun r2 => ?_)
 refine Sat.call (s_q04_Civil to') (by kernel_rfl) (fun r3 => ?_)
 exact Sat.ret0 [true] (by kernel_rfl) (by kernel_rfl)
noncomputable def b120 : Code := (Tryz.f120.body).getD .skip
def q06_Weight_E : Int → List RR := fun r => [.val (.int .i64 r)]
theorem s_q06_Weight (basis : Int) (day : Int) : DoesP Tryz.prog gt 120 [.val (.int .i64 basis), .val (.int .i64 day)] q06_Weight_E (q06_Weight basis day) := by
 refine does_of (c := (cx 33 [.tmp 4])) c_ok (fn := Tryz.f120) (code := b120) Tryz.func120 (by kernel_rfl) (by kernel_rfl) (by kernel_rfl) (by kernel_rfl) (by kernel_rfl) ?_
 delta q06_Weight
 refine Sat.call (s_q04_Valid day) (by kernel_rfl) (fun r => ?_)
 refine Sat.ite (by kernel_rfl) ?_ ?_
 ·exact Sat.ret0 [true] (by kernel_rfl) (by kernel_rfl)
 refine Sat.ite (by kernel_rfl) ?_ ?_
 ·exact Sat.ret0 [true] (by kernel_rfl) (by kernel_rfl)
 refine Sat.ite (by kernel_rfl) ?_ ?_
 ·exact Sat.ret0 [true] (by kernel_rfl) (by kernel_rfl)
 refine Sat.ite (by kernel_rfl) ?_ ?_
 ·refine Sat.call (s_q04_Civil day) (by kernel_rfl) (fun r1 => ?_)
  refine Sat.call (s_q04_Leap r1.1) (by kernel_rfl) (fun r2 => ?_)
  refine Sat.ite (by kernel_rfl) ?_ ?_
  ·exact Sat.ret0 [true] (by kernel_rfl) (by kernel_rfl)
  exact Sat.ret0 [true] (by kernel_rfl) (by kernel_rfl)
 refine Sat.ite (by kernel_rfl) ?_ ?_
 ·refine Sat.call (s_q06_Thirty day (IntKind.wrap .i64 (day + 1))) (by kernel_rfl) (fun r3 => ?_)
  exact Sat.ret0 [true] (by kernel_rfl) (by kernel_rfl)
 exact Sat.ret0 [true] (by kernel_rfl) (by kernel_rfl)
noncomputable def b127 : Code := (Tryz.f127.body).getD .skip
def q01_Of_E : ApiWide → List RR := fun r => [.val (.agg (ApiWide.enc r))]
theorem s_q01_Of (n : Int) : DoesP Tryz.prog gt 127 [.val (.int .i64 n)] q01_Of_E (q01_Of n) := by
 refine does_of (c := (cx 11 [.cell 2 49])) c_ok (fn := Tryz.f127) (code := b127) Tryz.func127 (by kernel_rfl) (by kernel_rfl) (by kernel_rfl) (by kernel_rfl) (by kernel_rfl) ?_
 delta q01_Of
 refine Sat.ite (by kernel_rfl) ?_ ?_
 ·exact Sat.ret0 [true] (by kernel_rfl) (by kernel_rfl)
 exact Sat.ret0 [true] (by kernel_rfl) (by kernel_rfl)
noncomputable def b121 : Code := (Tryz.f121.body).getD .skip
def q01_Split_E : (Bool × Corebankref01Mag) → List RR := fun r => [.val (.bool r.1), .val (.agg (Corebankref01Mag.enc r.2))]
def q01_Split_j0_S (a : ApiWide) : Int → St := fun s => (⟨[(3, .box 0 0), (4, .rv (.val (.int .u64 s))), (5, .rv (.val (.int .u64 (IntKind.wrap .u64 ((bitsI .xor .u64 18446744073709551615 a.Lo) + 1)))))], [(0, some (.box [.val (.int .u64 0), .val (.int .u64 0)]))], 1⟩ : St)
theorem s_q01_Split_j0 (a : ApiWide) (s : Int) : Sat (cx 29 [.tmp 2, .cell 3 190]) (R0 q01_Split_E) D0 ((cx 29 [.tmp 2, .cell 3 190]).ex (sub b121 [true, true, true, true, true, true]) (q01_Split_j0_S a s) ((cx 29 [.tmp 2, .cell 3 190]).kAt b121 [true, true, true, true, true, true] (k0 (cx 29 [.tmp 2, .cell 3 190]).ti (cx 29 [.tmp 2, .cell 3 190]).rvs))) (q01_Split_j0 a s) := by
 delta q01_Split_j0
 exact Sat.ret0 [true, true] (by kernel_rfl) (by kernel_rfl)
theorem s_q01_Split (a : ApiWide) : DoesP Tryz.prog gt 121 [.val (.agg (ApiWide.enc a))] q01_Split_E (q01_Split a) := by
 refine does_of (c := (cx 29 [.tmp 2, .cell 3 190])) c_ok (fn := Tryz.f121) (code := b121) Tryz.func121 (by kernel_rfl) (by kernel_rfl) (by kernel_rfl) (by kernel_rfl) (by kernel_rfl) ?_
 delta q01_Split
 refine Sat.ite (by kernel_rfl) ?_ ?_
 ·exact Sat.ret0 [true, true] (by kernel_rfl) (by kernel_rfl)
 refine Sat.ite (by kernel_rfl) ?_ ?_
 ·exact Sat.cut (s0 := (IntKind.wrap .u64 ((bitsI .xor .u64 18446744073709551615 (IntKind.wrap .u64 a.Hi)) + 1))) [(3, false), (4, false), (5, false)] c_ok (by kernel_rfl) (by kernel_rfl) (by kernel_rfl) (by kernel_rfl) (s_q01_Split_j0 a)
 exact Sat.cut (s0 := (bitsI .xor .u64 18446744073709551615 (IntKind.wrap .u64 a.Hi))) [(3, false), (4, false), (5, false)] c_ok (by kernel_rfl) (by kernel_rfl) (by kernel_rfl) (by kernel_rfl) (s_q01_Split_j0 a)
noncomputable def b159 : Code := (Tryz.f159.body).getD .skip
def q01_size_E : Int → List RR := fun r => [.val (.int .u64 r)]
theorem s_q01_size (n : Int) : DoesP Tryz.prog gt 159 [.val (.int .i64 n)] q01_size_E (q01_size n) := by
 refine does_of (c := (cx 11 [.tmp 2])) c_ok (fn := Tryz.f159) (code := b159) Tryz.func159 (by kernel_rfl) (by kernel_rfl) (by kernel_rfl) (by kernel_rfl) (by kernel_rfl) ?_
 delta q01_size
 refine Sat.ite (by kernel_rfl) ?_ ?_
 ·exact Sat.ret0 [true] (by kernel_rfl) (by kernel_rfl)
 exact Sat.ret0 [true] (by kernel_rfl) (by kernel_rfl)
noncomputable def b153 : Code := (Tryz.f153.body).getD .skip
def q01_plus_E : (Corebankref01Mag × Bool) → List RR := fun r => [.val (.agg (Corebankref01Mag.enc r.1)), .val (.bool r.2)]
def q01_plus_j0_S (a : Corebankref01Mag) (b : Corebankref01Mag) : Int → St := fun s => (⟨[(2, .box 0 0), (3, .box 1 0), (4, .box 2 0), (6, .rv (.val (.int .u64 (IntKind.wrap .u64 (a.L + b.L))))), (7, .rv (.val (.int .u64 s)))], [(0, some (.box [.val (.int .u64 a.H), .val (.int .u64 a.L)])), (1, some (.box [.val (.int .u64 b.H), .val (.int .u64 b.L)])), (2, some (.box [.val (.int .u64 0), .val (.int .u64 0)]))], 3⟩ : St)
theorem s_q01_plus_j0 (a : Corebankref01Mag) (b : Corebankref01Mag) (s : Int) : Sat (cx 40 [.cell 4 190, .tmp 5]) (R0 q01_plus_E) D0 ((cx 40 [.cell 4 190, .tmp 5]).ex (sub b153 [true, true, true, true]) (q01_plus_j0_S a b s) ((cx 40 [.cell 4 190, .tmp 5]).kAt b153 [true, true, true, true] (k0 (cx 40 [.cell 4 190, .tmp 5]).ti (cx 40 [.cell 4 190, .tmp 5]).rvs))) (q01_plus_j0 a b s) := by
 delta q01_plus_j0
 exact Sat.ret0 [true, true] (by kernel_rfl) (by kernel_rfl)
theorem s_q01_plus (a : Corebankref01Mag) (b : Corebankref01Mag) : DoesP Tryz.prog gt 153 [.val (.agg (Corebankref01Mag.enc a)), .val (.agg (Corebankref01Mag.enc b))] q01_plus_E (q01_plus a b) := by
 refine does_of (c := (cx 40 [.cell 4 190, .tmp 5])) c_ok (fn := Tryz.f153) (code := b153) Tryz.func153 (by kernel_rfl) (by kernel_rfl) (by kernel_rfl) (by kernel_rfl) (by kernel_rfl) ?_
 delta q01_plus
 refine Sat.ite (by kernel_rfl) ?_ ?_
 ·exact Sat.cut (s0 := 1) [(2, false), (3, false), (4, false), (6, false), (7, false)] c_ok (by kernel_rfl) (by kernel_rfl) (by kernel_rfl) (by kernel_rfl) (s_q01_plus_j0 a b)
 exact Sat.cut (s0 := 0) [(2, false), (3, false), (4, false), (6, false), (7, false)] c_ok (by kernel_rfl) (by kernel_rfl) (by kernel_rfl) (by kernel_rfl) (s_q01_plus_j0 a b)
noncomputable def b158 : Code := (Tryz.f158.body).getD .skip
def q01_times_E : (Corebankref01Mag × Bool) → List RR := fun r => [.val (.agg (Corebankref01Mag.enc r.1)), .val (.bool r.2)]
def q01_times_j0_S (m : Corebankref01Mag) (s : (Int × Bool × Int × Int × Int)) : (Bool × Int × Int) → St := fun s2 => (⟨[(1, .rv (.val (.int .u64 s.1))), (2, .box 0 0), (4, .box 1 0), (6, .box 2 0), (7, .rv (.val (.bool s2.1))), (8, .rv (.val (.int .i64 s.2.2.1)))], [(0, some (.box [.val (.int .u64 m.H), .val (.int .u64 m.L)])), (1, some (.box [.val (.int .u64 0), .val (.int .u64 0)])), (2, some (.box [.val (.int .u64 s2.2.1), .val (.int .u64 s2.2.2)]))], 3⟩ : St)
def q01_times_l1_S (m : Corebankref01Mag) : (Int × Bool × Int × Int × Int) → St := fun s => (⟨[(1, .rv (.val (.int .u64 s.1))), (2, .box 0 0), (4, .box 1 0), (6, .box 2 0), (7, .rv (.val (.bool s.2.1))), (8, .rv (.val (.int .i64 s.2.2.1)))], [(0, some (.box [.val (.int .u64 m.H), .val (.int .u64 m.L)])), (1, some (.box [.val (.int .u64 0), .val (.int .u64 0)])), (2, some (.box [.val (.int .u64 s.2.2.2.1), .val (.int .u64 s.2.2.2.2)]))], 3⟩ : St)
theorem s_q01_times_j0 (m : Corebankref01Mag) (s : (Int × Bool × Int × Int × Int)) (s2 : (Bool × Int × Int)) : Sat (cx 45 [.cell 4 190, .tmp 5]) (loopR (R0 q01_times_E)) (loopD (cx 45 [.cell 4 190, .tmp 5]) (R0 q01_times_E) D0 (q01_times_l1_S m) [(1, false), (2, false), (4, false), (6, false), (7, false), (8, false)] ((cx 45 [.cell 4 190, .tmp 5]).kAt b158 [true, true, true, false, true, false] (k0 (cx 45 [.cell 4 190, .tmp 5]).ti (cx 45 [.cell 4 190, .tmp 5]).rvs))) ((cx 45 [.cell 4 190, .tmp 5]).ex (sub b158 [true, true, true, false, true, false, false, true, false, false, true, true, true, true]) (q01_times_j0_S m s s2) ((cx 45 [.cell 4 190, .tmp 5]).kAt b158 [true, true, true, false, true, false, false, true, false, false, true, true, true, true] (k0 (cx 45 [.cell 4 190, .tmp 5]).ti (cx 45 [.cell 4 190, .tmp 5]).rvs))) (q01_times_j0 s s2) := by
 delta q01_times_j0
 refine Sat.need0 (g := true) (p := (0 : Int) ≤ 1) (by kernel_rfl) (by decide) ?_
 exact Sat.next (by kernel_rfl) (by kernel_rfl)
theorem s_q01_times_l1 (m : Corebankref01Mag) (s : (Int × Bool × Int × Int × Int)) : Sat (cx 45 [.cell 4 190, .tmp 5]) (loopR (R0 q01_times_E)) (loopD (cx 45 [.cell 4 190, .tmp 5]) (R0 q01_times_E) D0 (q01_times_l1_S m) [(1, false), (2, false), (4, false), (6, false), (7, false), (8, false)] ((cx 45 [.cell 4 190, .tmp 5]).kAt b158 [true, true, true, false, true, false] (k0 (cx 45 [.cell 4 190, .tmp 5]).ti (cx 45 [.cell 4 190, .tmp 5]).rvs))) ((cx 45 [.cell 4 190, .tmp 5]).ex (sub b158 [true, true, true, false, true, false, false]) (q01_times_l1_S m s) T.done) (q01_times_l1 m s) := by
 delta q01_times_l1
 refine Sat.ite (by kernel_rfl) ?_ ?_
 ·refine Sat.call (s_q01_plus (⟨s.2.2.2.1, s.2.2.2.2⟩ : Corebankref01Mag) (⟨s.2.2.2.1, s.2.2.2.2⟩ : Corebankref01Mag)) (by kernel_rfl) (fun r => ?_)
  refine Sat.ite (by kernel_rfl) ?_ ?_
  ·refine Sat.call (s_q01_plus r.1 m) (by kernel_rfl) (fun r1 => ?_)
   exact Sat.cut (s0 := ((bif (bif s.2.1 then r.2 else false) then r1.2 else false), r1.1.H, r1.1.L)) [(1, false), (2, false), (4, false), (6, false), (7, false), (8, false)] c_ok (by kernel_rfl) (by kernel_rfl) (by kernel_rfl) (by kernel_rfl) (s_q01_times_j0 m s)
  exact Sat.cut (s0 := ((bif s.2.1 then r.2 else false), r.1.H, r.1.L)) [(1, false), (2, false), (4, false), (6, false), (7, false), (8, false)] c_ok (by kernel_rfl) (by kernel_rfl) (by kernel_rfl) (by kernel_rfl) (s_q01_times_j0 m s)
 refine Sat.out (id := 0) (A := some ((⟨s.2.2.2.1, s.2.2.2.2⟩ : Corebankref01Mag), s.2.1)) (by kernel_rfl) ?_
 exact Sat.ret0 [true, true] (by kernel_rfl) (by kernel_rfl)
theorem s_q01_times (m : Corebankref01Mag) (n : Int) : DoesP Tryz.prog gt 158 [.val (.agg (Corebankref01Mag.enc m)), .val (.int .u64 n)] q01_times_E (q01_times m n) := by
 refine does_of (c := (cx 45 [.cell 4 190, .tmp 5])) c_ok (fn := Tryz.f158) (code := b158) Tryz.func158 (by kernel_rfl) (by kernel_rfl) (by kernel_rfl) (by kernel_rfl) (by kernel_rfl) ?_
 delta q01_times
 exact Sat.loop (s0 := (n, true, 0, 0, 0)) [(1, false), (2, false), (4, false), (6, false), (7, false), (8, false)] c_ok (by kernel_rfl) (by kernel_rfl) (by kernel_rfl) (by kernel_rfl) (s_q01_times_l1 m)
noncomputable def b156 : Code := (Tryz.f156.body).getD .skip
def q01_Join_E : (ApiWide × Bool) → List RR := fun r => [.val (.agg (ApiWide.enc r.1)), .val (.bool r.2)]
def q01_Join_j0_S (m : Corebankref01Mag) : Int → St := fun s => (⟨[(3, .box 0 0), (4, .box 1 0), (6, .rv (.val (.int .u64 (IntKind.wrap .u64 ((bitsI .xor .u64 18446744073709551615 m.L) + 1))))), (7, .rv (.val (.int .u64 s)))], [(0, some (.box [.val (.int .u64 m.H), .val (.int .u64 m.L)])), (1, some (.box [.val (.int .i64 0), .val (.int .u64 0)]))], 2⟩ : St)
theorem s_q01_Join_j0 (m : Corebankref01Mag) (s : Int) : Sat (cx 47 [.cell 4 49, .tmp 5]) (R0 q01_Join_E) D0 ((cx 47 [.cell 4 49, .tmp 5]).ex (sub b156 [true, true, true, true]) (q01_Join_j0_S m s) ((cx 47 [.cell 4 49, .tmp 5]).kAt b156 [true, true, true, true] (k0 (cx 47 [.cell 4 49, .tmp 5]).ti (cx 47 [.cell 4 49, .tmp 5]).rvs))) (q01_Join_j0 m s) := by
 delta q01_Join_j0
 exact Sat.ret0 [true, true] (by kernel_rfl) (by kernel_rfl)
theorem s_q01_Join (negative : Bool) (m : Corebankref01Mag) : DoesP Tryz.prog gt 156 [.val (.bool negative), .val (.agg (Corebankref01Mag.enc m))] q01_Join_E (q01_Join negative m) := by
 refine does_of (c := (cx 47 [.cell 4 49, .tmp 5])) c_ok (fn := Tryz.f156) (code := b156) Tryz.func156 (by kernel_rfl) (by kernel_rfl) (by kernel_rfl) (by kernel_rfl) (by kernel_rfl) ?_
 delta q01_Join
 refine Sat.ite (by kernel_rfl) ?_ ?_
 ·exact Sat.ret0 [true, true] (by kernel_rfl) (by kernel_rfl)
 refine Sat.ite (by kernel_rfl) ?_ ?_
 ·exact Sat.cut (s0 := (IntKind.wrap .u64 ((bitsI .xor .u64 18446744073709551615 m.H) + 1))) [(3, false), (4, false), (6, false), (7, false)] c_ok (by kernel_rfl) (by kernel_rfl) (by kernel_rfl) (by kernel_rfl) (s_q01_Join_j0 m)
 exact Sat.cut (s0 := (bitsI .xor .u64 18446744073709551615 m.H)) [(3, false), (4, false), (6, false), (7, false)] c_ok (by kernel_rfl) (by kernel_rfl) (by kernel_rfl) (by kernel_rfl) (s_q01_Join_j0 m)
noncomputable def b129 : Code := (Tryz.f129.body).getD .skip
def q01_Scale_E : (ApiWide × Int) → List RR := fun r => [.val (.agg (ApiWide.enc r.1)), .val (.int .i64 r.2)]
theorem s_q01_Scale (a : ApiWide) (n : Int) : DoesP Tryz.prog gt 129 [.val (.agg (ApiWide.enc a)), .val (.int .i64 n)] q01_Scale_E (q01_Scale a n) := by
 refine does_of (c := (cx 41 [.cell 4 49, .tmp 5])) c_ok (fn := Tryz.f129) (code := b129) Tryz.func129 (by kernel_rfl) (by kernel_rfl) (by kernel_rfl) (by kernel_rfl) (by kernel_rfl) ?_
 delta q01_Scale
 refine Sat.call (s_q01_Split a) (by kernel_rfl) (fun r => ?_)
 refine Sat.call (s_q01_size n) (by kernel_rfl) (fun r1 => ?_)
 refine Sat.call (s_q01_times r.2 r1) (by kernel_rfl) (fun r2 => ?_)
 refine Sat.call (s_q01_Join (!(r.1 == (decide (n < 0)))) r2.1) (by kernel_rfl) (fun r3 => ?_)
 refine Sat.ite (by kernel_rfl) ?_ ?_
 ·exact Sat.ret0 [true, true] (by kernel_rfl) (by kernel_rfl)
 exact Sat.ret0 [true, true] (by kernel_rfl) (by kernel_rfl)
noncomputable def b96 : Code := (Tryz.f96.body).getD .skip
def q01_Mul_E : ApiWide → List RR := fun r => [.val (.agg (ApiWide.enc r))]
theorem s_q01_Mul (a : Int) (b : Int) : DoesP Tryz.prog gt 96 [.val (.int .i64 a), .val (.int .i64 b)] q01_Mul_E (q01_Mul a b) := by
 refine does_of (c := (cx 15 [.cell 4 49])) c_ok (fn := Tryz.f96) (code := b96) Tryz.func96 (by kernel_rfl) (by kernel_rfl) (by kernel_rfl) (by kernel_rfl) (by kernel_rfl) ?_
 delta q01_Mul
 refine Sat.call (s_q01_Of a) (by kernel_rfl) (fun r => ?_)
 refine Sat.call (s_q01_Scale r b) (by kernel_rfl) (fun r1 => ?_)
 exact Sat.ret0 [true] (by kernel_rfl) (by kernel_rfl)
noncomputable def b154 : Code := (Tryz.f154.body).getD .skip
def q01_Less_E : Bool → List RR := fun r => [.val (.bool r)]
theorem s_q01_Less (a : Corebankref01Mag) (b : Corebankref01Mag) : DoesP Tryz.prog gt 154 [.val (.agg (Corebankref01Mag.enc a)), .val (.agg (Corebankref01Mag.enc b))] q01_Less_E (q01_Less a b) := by
 refine does_of (c := (cx 24 [.tmp 4])) c_ok (fn := Tryz.f154) (code := b154) Tryz.func154 (by kernel_rfl) (by kernel_rfl) (by kernel_rfl) (by kernel_rfl) (by kernel_rfl) ?_
 delta q01_Less
 exact Sat.ret0 [true] (by kernel_rfl) (by kernel_rfl)
noncomputable def b155 : Code := (Tryz.f155.body).getD .skip
def q01_minus_E : Corebankref01Mag → List RR := fun r => [.val (.agg (Corebankref01Mag.enc r))]
def q01_minus_j0_S (a : Corebankref01Mag) (b : Corebankref01Mag) : Int → St := fun s => (⟨[(2, .box 0 0), (3, .box 1 0), (4, .box 2 0), (5, .rv (.val (.int .u64 s)))], [(0, some (.box [.val (.int .u64 a.H), .val (.int .u64 a.L)])), (1, some (.box [.val (.int .u64 b.H), .val (.int .u64 b.L)])), (2, some (.box [.val (.int .u64 0), .val (.int .u64 0)]))], 3⟩ : St)
theorem s_q01_minus_j0 (a : Corebankref01Mag) (b : Corebankref01Mag) (s : Int) : Sat (cx 25 [.cell 4 190]) (R0 q01_minus_E) D0 ((cx 25 [.cell 4 190]).ex (sub b155 [true, true, true]) (q01_minus_j0_S a b s) ((cx 25 [.cell 4 190]).kAt b155 [true, true, true] (k0 (cx 25 [.cell 4 190]).ti (cx 25 [.cell 4 190]).rvs))) (q01_minus_j0 a b s) := by
 delta q01_minus_j0
 exact Sat.ret0 [true] (by kernel_rfl) (by kernel_rfl)
theorem s_q01_minus (a : Corebankref01Mag) (b : Corebankref01Mag) : DoesP Tryz.prog gt 155 [.val (.agg (Corebankref01Mag.enc a)), .val (.agg (Corebankref01Mag.enc b))] q01_minus_E (q01_minus a b) := by
 refine does_of (c := (cx 25 [.cell 4 190])) c_ok (fn := Tryz.f155) (code := b155) Tryz.func155 (by kernel_rfl) (by kernel_rfl) (by kernel_rfl) (by kernel_rfl) (by kernel_rfl) ?_
 delta q01_minus
 refine Sat.ite (by kernel_rfl) ?_ ?_
 ·exact Sat.cut (s0 := (IntKind.wrap .u64 ((IntKind.wrap .u64 (a.H - b.H)) - 1))) [(2, false), (3, false), (4, false), (5, false)] c_ok (by kernel_rfl) (by kernel_rfl) (by kernel_rfl) (by kernel_rfl) (s_q01_minus_j0 a b)
 exact Sat.cut (s0 := (IntKind.wrap .u64 (a.H - b.H))) [(2, false), (3, false), (4, false), (5, false)] c_ok (by kernel_rfl) (by kernel_rfl) (by kernel_rfl) (by kernel_rfl) (s_q01_minus_j0 a b)
noncomputable def b122 : Code := (Tryz.f122.body).getD .skip
def q01_sum_E : (ApiWide × Int) → List RR := fun r => [.val (.agg (ApiWide.enc r.1)), .val (.int .i64 r.2)]
def q01_sum_j0_S : (Bool × Bool × Int × Int) → St := fun s => (⟨[(8, .box 0 0), (10, .rv (.val (.bool s.1))), (11, .box 1 0), (12, .rv (.val (.bool s.2.1)))], [(0, some (.box [.val (.int .i64 0), .val (.int .u64 0)])), (1, some (.box [.val (.int .u64 s.2.2.1), .val (.int .u64 s.2.2.2)]))], 2⟩ : St)
theorem s_q01_sum_j0 (s : (Bool × Bool × Int × Int)) : Sat (cx 52 [.cell 8 49, .tmp 9]) (R0 q01_sum_E) D0 ((cx 52 [.cell 8 49, .tmp 9]).ex (sub b122 [true, true, true]) (q01_sum_j0_S s) ((cx 52 [.cell 8 49, .tmp 9]).kAt b122 [true, true, true] (k0 (cx 52 [.cell 8 49, .tmp 9]).ti (cx 52 [.cell 8 49, .tmp 9]).rvs))) (q01_sum_j0 s) := by
 delta q01_sum_j0
 refine Sat.call (s_q01_Join s.1 (⟨s.2.2.1, s.2.2.2⟩ : Corebankref01Mag)) (by kernel_rfl) (fun r1 => ?_)
 refine Sat.ite (by kernel_rfl) ?_ ?_
 ·exact Sat.ret0 [true, true] (by kernel_rfl) (by kernel_rfl)
 exact Sat.ret0 [true, true] (by kernel_rfl) (by kernel_rfl)
theorem s_q01_sum (an : Bool) (a : Corebankref01Mag) (bn : Bool) (b : Corebankref01Mag) : DoesP Tryz.prog gt 122 [.val (.bool an), .val (.agg (Corebankref01Mag.enc a)), .val (.bool bn), .val (.agg (Corebankref01Mag.enc b))] q01_sum_E (q01_sum an a bn b) := by
 refine does_of (c := (cx 52 [.cell 8 49, .tmp 9])) c_ok (fn := Tryz.f122) (code := b122) Tryz.func122 (by kernel_rfl) (by kernel_rfl) (by kernel_rfl) (by kernel_rfl) (by kernel_rfl) ?_
 delta q01_sum
 refine Sat.ite (by kernel_rfl) ?_ ?_
 ·refine Sat.call (s_q01_plus a b) (by kernel_rfl) (fun r => ?_)
  exact Sat.cut (s0 := (an, r.2, r.1.H, r.1.L)) [(8, false), (10, false), (11, false), (12, false)] c_ok (by kernel_rfl) (by kernel_rfl) (by kernel_rfl) (by kernel_rfl) (s_q01_sum_j0)
 refine Sat.call (s_q01_Less a b) (by kernel_rfl) (fun r2 => ?_)
 refine Sat.ite (by kernel_rfl) ?_ ?_
 ·refine Sat.call (s_q01_minus b a) (by kernel_rfl) (fun r3 => ?_)
  exact Sat.cut (s0 := (bn, true, r3.H, r3.L)) [(8, false), (10, false), (11, false), (12, false)] c_ok (by kernel_rfl) (by kernel_rfl) (by kernel_rfl) (by kernel_rfl) (s_q01_sum_j0)
 refine Sat.call (s_q01_minus a b) (by kernel_rfl) (fun r4 => ?_)
 exact Sat.cut (s0 := (an, true, r4.H, r4.L)) [(8, false), (10, false), (11, false), (12, false)] c_ok (by kernel_rfl) (by kernel_rfl) (by kernel_rfl) (by kernel_rfl) (s_q01_sum_j0)
noncomputable def b92 : Code := (Tryz.f92.body).getD .skip
def q01_Add_E : (ApiWide × Int) → List RR := fun r => [.val (.agg (ApiWide.enc r.1)), .val (.int .i64 r.2)]
theorem s_q01_Add (a : ApiWide) (b : ApiWide) : DoesP Tryz.prog gt 92 [.val (.agg (ApiWide.enc a)), .val (.agg (ApiWide.enc b))] q01_Add_E (q01_Add a b) := by
 refine does_of (c := (cx 27 [.cell 4 49, .tmp 5])) c_ok (fn := Tryz.f92) (code := b92) Tryz.func92 (by kernel_rfl) (by kernel_rfl) (by kernel_rfl) (by kernel_rfl) (by kernel_rfl) ?_
 delta q01_Add
 refine Sat.call (s_q01_Split a) (by kernel_rfl) (fun r => ?_)
 refine Sat.call (s_q01_Split b) (by kernel_rfl) (fun r1 => ?_)
 refine Sat.call (s_q01_sum r.1 r.2 r1.1 r1.2) (by kernel_rfl) (fun r2 => ?_)
 exact Sat.ret0 [true, true] (by kernel_rfl) (by kernel_rfl)
noncomputable def b118 : Code := (Tryz.f118.body).getD .skip
def q14_Grains_E : (ApiWide × Int) → List RR := fun r => [.val (.agg (ApiWide.enc r.1)), .val (.int .i64 r.2)]
def q14_Grains_l2_S (l : (List ApiSlice)) (weight : Int) : (Int × Int × Int) → St := fun s3 => (⟨[(0, .rv (.val (.slice (List.map ApiSlice.enc l)))), (1, .rv (.val (.int .i64 weight))), (4, .box 0 0), (7, .box 1 0), (8, .rv (.val (.int .i64 s3.1)))], [(0, some (.box [.val (.int .i64 0), .val (.int .u64 0)])), (1, some (.box [.val (.int .i64 s3.2.1), .val (.int .u64 s3.2.2)]))], 2⟩ : St)
def q14_Grains_l1_S (l : (List ApiSlice)) (weight : Int) : Int → St := fun s => (⟨[(0, .rv (.val (.slice (List.map ApiSlice.enc l)))), (1, .rv (.val (.int .i64 weight))), (4, .box 0 0), (6, .rv (.val (.int .i64 s)))], [(0, some (.box [.val (.int .i64 0), .val (.int .u64 0)]))], 1⟩ : St)
theorem s_q14_Grains_l2 (l : (List ApiSlice)) (weight : Int) (s3 : (Int × Int × Int)) : Sat (cx 84 [.cell 4 49, .tmp 5]) (loopR (R0 q14_Grains_E)) (loopD (cx 84 [.cell 4 49, .tmp 5]) (R0 q14_Grains_E) D0 (q14_Grains_l2_S l weight) [(0, false), (1, false), (4, false), (7, false), (8, false)] ((cx 84 [.cell 4 49, .tmp 5]).kAt b118 [true, true, true, true, true, false, true, false] (k0 (cx 84 [.cell 4 49, .tmp 5]).ti (cx 84 [.cell 4 49, .tmp 5]).rvs))) ((cx 84 [.cell 4 49, .tmp 5]).ex (sub b118 [true, true, true, true, true, false, true, false, false]) (q14_Grains_l2_S l weight s3) T.done) (q14_Grains_l2 l weight s3) := by
 delta q14_Grains_l2
 refine Sat.ite (by kernel_rfl) ?_ ?_
 ·refine Sat.opt (enc := ApiSlice.enc) (by kernel_rfl) (getRow_map _ _ _) (fun li4 => ?_)
  refine Sat.opt (enc := ApiSlice.enc) (by kernel_rfl) (getRow_map _ _ _) (fun li5 => ?_)
  refine Sat.call (s_q01_Mul li4.Amount li5.Ppm) (by kernel_rfl) (fun r => ?_)
  refine Sat.call (s_q01_Scale r weight) (by kernel_rfl) (fun r6 => ?_)
  refine Sat.call (s_q01_Add (⟨s3.2.1, s3.2.2⟩ : ApiWide) r6.1) (by kernel_rfl) (fun r7 => ?_)
  exact Sat.next (by kernel_rfl) (by kernel_rfl)
 refine Sat.out (id := 2) (A := some ((⟨s3.2.1, s3.2.2⟩ : ApiWide), 0)) (by kernel_rfl) ?_
 exact Sat.ret0 [true, true] (by kernel_rfl) (by kernel_rfl)
theorem s_q14_Grains_l1 (l : (List ApiSlice)) (weight : Int) (s : Int) : Sat (cx 84 [.cell 4 49, .tmp 5]) (loopR (R0 q14_Grains_E)) (loopD (cx 84 [.cell 4 49, .tmp 5]) (R0 q14_Grains_E) D0 (q14_Grains_l1_S l weight) [(0, false), (1, false), (4, false), (6, false)] ((cx 84 [.cell 4 49, .tmp 5]).kAt b118 [true, true, false, true, false] (k0 (cx 84 [.cell 4 49, .tmp 5]).ti (cx 84 [.cell 4 49, .tmp 5]).rvs))) ((cx 84 [.cell 4 49, .tmp 5]).ex (sub b118 [true, true, false, true, false, false]) (q14_Grains_l1_S l weight s) T.done) (q14_Grains_l1 l weight s) := by
 delta q14_Grains_l1
 refine Sat.ite (by kernel_rfl) ?_ ?_
 ·refine Sat.opt (enc := ApiSlice.enc) (by kernel_rfl) (getRow_map _ _ _) (fun li => ?_)
  refine Sat.optG (enc := ApiSlice.enc) (by kernel_rfl) (getRow_map _ _ _) (fun li1 => ?_)
  refine Sat.optG (enc := ApiSlice.enc) (by kernel_rfl) (getRow_map _ _ _) (fun li2 => ?_)
  refine Sat.ite (by kernel_rfl) ?_ ?_
  ·refine Sat.retL (D := D0) (A := some ((⟨0, 0⟩ : ApiWide), 1)) (by kernel_rfl) ?_
   exact Sat.ret0 [true, true] (by kernel_rfl) (by kernel_rfl)
  exact Sat.next (by kernel_rfl) (by kernel_rfl)
 refine Sat.out (id := 0) (by kernel_rfl) ?_
 refine Sat.ite (by kernel_rfl) ?_ ?_
 ·exact Sat.ret0 [true, true] (by kernel_rfl) (by kernel_rfl)
 exact Sat.loop (s0 := (0, 0, 0)) [(0, false), (1, false), (4, false), (7, false), (8, false)] c_ok (by kernel_rfl) (by kernel_rfl) (by kernel_rfl) (by kernel_rfl) (s_q14_Grains_l2 l weight)
theorem s_q14_Grains (l : (List ApiSlice)) (weight : Int) : DoesP Tryz.prog gt 118 [.val (.slice (List.map ApiSlice.enc l)), .val (.int .i64 weight)] q14_Grains_E (q14_Grains l weight) := by
 refine does_of (c := (cx 84 [.cell 4 49, .tmp 5])) c_ok (fn := Tryz.f118) (code := b118) Tryz.func118 (by kernel_rfl) (by kernel_rfl) (by kernel_rfl) (by kernel_rfl) (by kernel_rfl) ?_
 delta q14_Grains
 refine Sat.ite (by kernel_rfl) ?_ ?_
 ·exact Sat.ret0 [true, true] (by kernel_rfl) (by kernel_rfl)
 exact Sat.loop (s0 := 0) [(0, false), (1, false), (4, false), (6, false)] c_ok (by kernel_rfl) (by kernel_rfl) (by kernel_rfl) (by kernel_rfl) (s_q14_Grains_l1 l weight)
noncomputable def b91 : Code := (Tryz.f91.body).getD .skip
def q27_Day_E : (ApiAccrual × Int) → List RR := fun r => [.val (.agg (ApiAccrual.enc r.1)), .val (.int .i64 r.2)]
def q27_Day_j0_S (id : Int) (day : Int) (r3 : Int) (s : (Int × Int)) : (Int × Int) → St := fun s9 => (⟨[(6, .box 0 0), (10, .box 1 0)], [(0, some (.box [.val (.int .i64 0), .val (.int .i64 0), .val (.int .i64 0), .val (.int .i64 0), .val (.int .u64 0), .val (.int .i64 0), .val (.int .u64 0)])), (1, some (.box [.val (.int .i64 id), .val (.int .i64 day), .val (.int .i64 r3), .val (.int .i64 s.1), .val (.int .u64 s.2), .val (.int .i64 s9.1), .val (.int .u64 s9.2)]))], 2⟩ : St)
def q27_Day_j1_S (id : Int) (day : Int) (r3 : Int) (r8 : (ApiWide × Int)) : (Int × Int) → St := fun s => (⟨[(6, .box 0 0), (10, .box 1 0), (14, .box 2 0)], [(0, some (.box [.val (.int .i64 0), .val (.int .i64 0), .val (.int .i64 0), .val (.int .i64 0), .val (.int .u64 0), .val (.int .i64 0), .val (.int .u64 0)])), (1, some (.box [.val (.int .i64 id), .val (.int .i64 day), .val (.int .i64 r3), .val (.int .i64 s.1), .val (.int .u64 s.2), .val (.int .i64 0), .val (.int .u64 0)])), (2, some (.box [.val (.int .i64 r8.1.Hi), .val (.int .u64 r8.1.Lo)]))], 3⟩ : St)
theorem s_q27_Day_j0 (id : Int) (day : Int) (r3 : Int) (s : (Int × Int)) (s9 : (Int × Int)) : Sat (cx 84 [.cell 6 157, .tmp 7]) (R0 q27_Day_E) D0 ((cx 84 [.cell 6 157, .tmp 7]).ex (sub b91 [true, true, true, true, true, true, true, true, true, true, true, true]) (q27_Day_j0_S id day r3 s s9) ((cx 84 [.cell 6 157, .tmp 7]).kAt b91 [true, true, true, true, true, true, true, true, true, true, true, true] (k0 (cx 84 [.cell 6 157, .tmp 7]).ti (cx 84 [.cell 6 157, .tmp 7]).rvs))) (q27_Day_j0 id day r3 s s9) := by
 delta q27_Day_j0
 exact Sat.ret0 [true, true] (by kernel_rfl) (by kernel_rfl)
theorem s_q27_Day_j1 (id : Int) (day : Int) (r3 : Int) (r8 : (ApiWide × Int)) (s : (Int × Int)) : Sat (cx 84 [.cell 6 157, .tmp 7]) (R0 q27_Day_E) D0 ((cx 84 [.cell 6 157, .tmp 7]).ex (sub b91 [true, true, true, true, true, true, true, true, true, true, true]) (q27_Day_j1_S id day r3 r8 s) ((cx 84 [.cell 6 157, .tmp 7]).kAt b91 [true, true, true, true, true, true, true, true, true, true, true] (k0 (cx 84 [.cell 6 157, .tmp 7]).ti (cx 84 [.cell 6 157, .tmp 7]).rvs))) (q27_Day_j1 id day r3 r8 s) := by
 delta q27_Day_j1
 refine Sat.ite (by kernel_rfl) ?_ ?_
 ·exact Sat.cut (s0 := (r8.1.Hi, r8.1.Lo)) [(6, false), (10, false)] c_ok (by kernel_rfl) (by kernel_rfl) (by kernel_rfl) (by kernel_rfl) (s_q27_Day_j0 id day r3 s)
 exact Sat.cut (s0 := (0, 0)) [(6, false), (10, false)] c_ok (by kernel_rfl) (by kernel_rfl) (by kernel_rfl) (by kernel_rfl) (s_q27_Day_j0 id day r3 s)
theorem s_q27_Day (b : ApiBooks) (id : Int) (day : Int) : DoesP Tryz.prog gt 91 [.val (.agg (ApiBooks.enc b)), .val (.int .i64 id), .val (.int .i64 day)] q27_Day_E (q27_Day b id day) := by
 refine does_of (c := (cx 84 [.cell 6 157, .tmp 7])) c_ok (fn := Tryz.f91) (code := b91) Tryz.func91 (by kernel_rfl) (by kernel_rfl) (by kernel_rfl) (by kernel_rfl) (by kernel_rfl) ?_
 delta q27_Day
 refine Sat.call (s_q24_Find b id) (by kernel_rfl) (fun r => ?_)
 refine Sat.ite (by kernel_rfl) ?_ ?_
 ·exact Sat.ret0 [true, true] (by kernel_rfl) (by kernel_rfl)
 refine Sat.call (s_q04_Valid day) (by kernel_rfl) (fun r1 => ?_)
 refine Sat.ite (by kernel_rfl) ?_ ?_
 ·exact Sat.ret0 [true, true] (by kernel_rfl) (by kernel_rfl)
 refine Sat.call (s_q24_Active b id day) (by kernel_rfl) (fun r2 => ?_)
 refine Sat.ite (by kernel_rfl) ?_ ?_
 ·exact Sat.ret0 [true, true] (by kernel_rfl) (by kernel_rfl)
 refine Sat.call (s_q21_At b.Journal id 73048 day) (by kernel_rfl) (fun r3 => ?_)
 refine Sat.call (s_q24_Product b id day) (by kernel_rfl) (fun r4 => ?_)
 refine Sat.ite (by kernel_rfl) ?_ ?_
 ·exact Sat.ret0 [true, true] (by kernel_rfl) (by kernel_rfl)
 refine Sat.call (s_q15_Side r4.1 r3) (by kernel_rfl) (fun r5 => ?_)
 refine Sat.call (s_q14_Slices r5.Tiers r5.Marginal r3) (by kernel_rfl) (fun r6 => ?_)
 refine Sat.call (s_q06_Weight r5.Basis day) (by kernel_rfl) (fun r7 => ?_)
 refine Sat.call (s_q14_Grains r6 r7) (by kernel_rfl) (fun r8 => ?_)
 refine Sat.ite (by kernel_rfl) ?_ ?_
 ·exact Sat.cut (s0 := (r8.1.Hi, r8.1.Lo)) [(6, false), (10, false), (14, false)] c_ok (by kernel_rfl) (by kernel_rfl) (by kernel_rfl) (by kernel_rfl) (s_q27_Day_j1 id day r3 r8)
 exact Sat.cut (s0 := (0, 0)) [(6, false), (10, false), (14, false)] c_ok (by kernel_rfl) (by kernel_rfl) (by kernel_rfl) (by kernel_rfl) (s_q27_Day_j1 id day r3 r8)
noncomputable def b66 : Code := (Tryz.f66.body).getD .skip
def q27_Series_E : ((List ApiAccrual) × Int) → List RR := fun r => [.own 157 (List.map ApiAccrual.enc r.1), .val (.int .i64 r.2)]
def q27_Series_l1_S (b : ApiBooks) (id : Int) (to' : Int) : (Int × (List ApiAccrual)) → St := fun s => (⟨[(1, .rv (.val (.int .i64 id))), (3, .rv (.val (.int .i64 to'))), (4, .box 0 0), (12, .rv (.own 1)), (13, .rv (.val (.int .i64 s.1)))], [(0, some (.box [.val (.slice (List.map ApiCurrency.enc b.Currencies)), .val (.slice (List.map ApiCalendar.enc b.Calendars)), .val (.slice (List.map ApiGl.enc b.Chart)), .val (.int .i64 b.Plan.Cash), .val (.int .i64 b.Plan.Deposits), .val (.int .i64 b.Plan.InterestPaid), .val (.int .i64 b.Plan.InterestEarned), .val (.int .i64 b.Plan.FeeEarned), .val (.int .i64 b.Plan.Tax), .val (.int .i64 b.Plan.Clearing), .val (.int .i64 b.Plan.Loans), .val (.int .i64 b.Plan.LoanInterest), .val (.int .i64 b.Plan.Penalty), .val (.int .i64 b.Plan.Provision), .val (.int .i64 b.Plan.ProvisionCost), .val (.int .i64 b.Plan.Loss), .val (.int .i64 b.Plan.Recovery), .val (.slice (List.map ApiProduct.enc b.Products)), .val (.slice (List.map ApiAccount.enc b.Accounts)), .val (.slice (List.map ApiEntry.enc b.Journal)), .val (.slice (List.map ApiHold.enc b.Holds)), .val (.slice (List.map ApiBlock.enc b.Blocks))])), (1, some (.vec 157 (List.map ApiAccrual.enc s.2)))], 2⟩ : St)
theorem s_q27_Series_l1 (b : ApiBooks) (id : Int) (to' : Int) (s : (Int × (List ApiAccrual))) : Sat (cx 61 [.tmp 8, .tmp 9]) (loopR (R0 q27_Series_E)) (loopD (cx 61 [.tmp 8, .tmp 9]) (R0 q27_Series_E) D0 (q27_Series_l1_S b id to') [(1, false), (3, false), (4, false), (12, false), (13, false)] ((cx 61 [.tmp 8, .tmp 9]).kAt b66 [true, true, true, true, false, true, false] (k0 (cx 61 [.tmp 8, .tmp 9]).ti (cx 61 [.tmp 8, .tmp 9]).rvs))) ((cx 61 [.tmp 8, .tmp 9]).ex (sub b66 [true, true, true, true, false, true, false, false]) (q27_Series_l1_S b id to' s) T.done) (q27_Series_l1 b id to' s) := by
 delta q27_Series_l1
 refine Sat.ite (by kernel_rfl) ?_ ?_
 ·refine Sat.call (s_q27_Day b id s.1) (by kernel_rfl) (fun r3 => ?_)
  refine Sat.need (g := true) (p := ((List.map ApiAccrual.enc s.2).length + (List.map ApiAccrual.enc ([r3.1])).length) * 56 ≤ 140737488355328) (by kernel_rfl) (fun h _ => by simpa [sliceRows_map, List.length_set] using h) ?_
  exact Sat.next (by kernel_rfl) (Eq.trans (b := (⟨[(1, .rv (.val (.int .i64 id))), (3, .rv (.val (.int .i64 to'))), (4, .box 0 0), (12, .rv (.own 1)), (13, .rv (.val (.int .i64 (IntKind.wrap .i64 (s.1 + 1)))))], [(0, some (.box [.val (.slice (List.map ApiCurrency.enc b.Currencies)), .val (.slice (List.map ApiCalendar.enc b.Calendars)), .val (.slice (List.map ApiGl.enc b.Chart)), .val (.int .i64 b.Plan.Cash), .val (.int .i64 b.Plan.Deposits), .val (.int .i64 b.Plan.InterestPaid), .val (.int .i64 b.Plan.InterestEarned), .val (.int .i64 b.Plan.FeeEarned), .val (.int .i64 b.Plan.Tax), .val (.int .i64 b.Plan.Clearing), .val (.int .i64 b.Plan.Loans), .val (.int .i64 b.Plan.LoanInterest), .val (.int .i64 b.Plan.Penalty), .val (.int .i64 b.Plan.Provision), .val (.int .i64 b.Plan.ProvisionCost), .val (.int .i64 b.Plan.Loss), .val (.int .i64 b.Plan.Recovery), .val (.slice (List.map ApiProduct.enc b.Products)), .val (.slice (List.map ApiAccount.enc b.Accounts)), .val (.slice (List.map ApiEntry.enc b.Journal)), .val (.slice (List.map ApiHold.enc b.Holds)), .val (.slice (List.map ApiBlock.enc b.Blocks))])), (1, some (.vec 157 ((List.map ApiAccrual.enc s.2) ++ (List.map ApiAccrual.enc ([r3.1])))))], 2⟩ : St)) (by kernel_rfl) (by simp [q27_Series_l1_S, ApiAccrual.enc, List.map_append, List.map_set, List.map_take, List.map_drop, sliceRows_map, List.map_replicate, eInt, eBool, eStr]))
 refine Sat.out (id := 0) (A := some (s.2, 0)) (by kernel_rfl) ?_
 exact Sat.ret0 [false, true] (by kernel_rfl) (by kernel_rfl)
theorem s_q27_Series (b : ApiBooks) (id : Int) (from' : Int) (to' : Int) : DoesP Tryz.prog gt 66 [.val (.agg (ApiBooks.enc b)), .val (.int .i64 id), .val (.int .i64 from'), .val (.int .i64 to')] q27_Series_E (q27_Series b id from' to') := by
 refine does_of (c := (cx 61 [.tmp 8, .tmp 9])) c_ok (fn := Tryz.f66) (code := b66) Tryz.func66 (by kernel_rfl) (by kernel_rfl) (by kernel_rfl) (by kernel_rfl) (by kernel_rfl) ?_
 delta q27_Series
 refine Sat.call (s_q24_Find b id) (by kernel_rfl) (fun r => ?_)
 refine Sat.ite (by kernel_rfl) ?_ ?_
 ·exact Sat.ret0 [false, true] (by kernel_rfl) (by kernel_rfl)
 refine Sat.call (s_q04_Valid from') (by kernel_rfl) (fun r1 => ?_)
 refine Sat.callG (s_q04_Valid to') (by kernel_rfl) (fun r2 => ?_)
 refine Sat.ite (by kernel_rfl) ?_ ?_
 ·exact Sat.ret0 [false, true] (by kernel_rfl) (by kernel_rfl)
 exact Sat.loop (s0 := (from', [])) [(1, false), (3, false), (4, false), (12, false), (13, false)] c_ok (by kernel_rfl) (by kernel_rfl) (by kernel_rfl) (by kernel_rfl) (s_q27_Series_l1 b id to')
noncomputable def b68 : Code := (Tryz.f68.body).getD .skip
def q27_Total_E : (ApiWide × ApiWide × Int) → List RR := fun r => [.val (.agg (ApiWide.enc r.1)), .val (.agg (ApiWide.enc r.2.1)), .val (.int .i64 r.2.2)]
def q27_Total_l1_S (l : (List ApiAccrual)) : (Int × Int × Int × Int × Int) → St := fun s => (⟨[(0, .rv (.val (.slice (List.map ApiAccrual.enc l)))), (2, .box 0 0), (3, .box 1 0), (5, .box 2 0), (6, .box 3 0), (7, .rv (.val (.int .i64 s.1)))], [(0, some (.box [.val (.int .i64 0), .val (.int .u64 0)])), (1, some (.box [.val (.int .i64 0), .val (.int .u64 0)])), (2, some (.box [.val (.int .i64 s.2.1), .val (.int .u64 s.2.2.1)])), (3, some (.box [.val (.int .i64 s.2.2.2.1), .val (.int .u64 s.2.2.2.2)]))], 4⟩ : St)
end Go.Cb
set_option linter.unusedVariables false
set_option linter.unusedSimpArgs false
namespace Go.Cb
open Go.Eng Go.RowKit
open Go.Proofs
theorem s_q27_Total_l1 (l : (List ApiAccrual)) (s : (Int × Int × Int × Int × Int)) : Sat (cx 50 [.cell 2 49, .cell 3 49, .tmp 4]) (loopR (R0 q27_Total_E)) (loopD (cx 50 [.cell 2 49, .cell 3 49, .tmp 4]) (R0 q27_Total_E) D0 (q27_Total_l1_S l) [(0, false), (2, false), (3, false), (5, false), (6, false), (7, false)] ((cx 50 [.cell 2 49, .cell 3 49, .tmp 4]).kAt b68 [true, true, false, true, false] (k0 (cx 50 [.cell 2 49, .cell 3 49, .tmp 4]).ti (cx 50 [.cell 2 49, .cell 3 49, .tmp 4]).rvs))) ((cx 50 [.cell 2 49, .cell 3 49, .tmp 4]).ex (sub b68 [true, true, false, true, false, false]) (q27_Total_l1_S l s) T.done) (q27_Total_l1 l s) := by
 delta q27_Total_l1
 refine Sat.ite (by kernel_rfl) ?_ ?_
 ·refine Sat.opt (enc := ApiAccrual.enc) (by kernel_rfl) (getRow_map _ _ _) (fun li => ?_)
  refine Sat.call (s_q01_Add (⟨s.2.1, s.2.2.1⟩ : ApiWide) li.Credit) (by kernel_rfl) (fun r => ?_)
  refine Sat.opt (enc := ApiAccrual.enc) (by kernel_rfl) (getRow_map _ _ _) (fun li1 => ?_)
  refine Sat.call (s_q01_Add (⟨s.2.2.2.1, s.2.2.2.2⟩ : ApiWide) li1.Debit) (by kernel_rfl) (fun r2 => ?_)
  refine Sat.ite (by kernel_rfl) ?_ ?_
  ·refine Sat.retL (D := D0) (A := some ((⟨0, 0⟩ : ApiWide), (⟨0, 0⟩ : ApiWide), 6)) (by kernel_rfl) ?_
   exact Sat.ret0 [true, true, true] (by kernel_rfl) (by kernel_rfl)
  exact Sat.next (by kernel_rfl) (by kernel_rfl)
 refine Sat.out (id := 0) (A := some ((⟨s.2.1, s.2.2.1⟩ : ApiWide), (⟨s.2.2.2.1, s.2.2.2.2⟩ : ApiWide), 0)) (by kernel_rfl) ?_
 exact Sat.ret0 [true, true, true] (by kernel_rfl) (by kernel_rfl)
theorem s_q27_Total (l : (List ApiAccrual)) : DoesP Tryz.prog gt 68 [.val (.slice (List.map ApiAccrual.enc l))] q27_Total_E (q27_Total l) := by
 refine does_of (c := (cx 50 [.cell 2 49, .cell 3 49, .tmp 4])) c_ok (fn := Tryz.f68) (code := b68) Tryz.func68 (by kernel_rfl) (by kernel_rfl) (by kernel_rfl) (by kernel_rfl) (by kernel_rfl) ?_
 delta q27_Total
 exact Sat.loop (s0 := (0, 0, 0, 0, 0)) [(0, false), (2, false), (3, false), (5, false), (6, false), (7, false)] c_ok (by kernel_rfl) (by kernel_rfl) (by kernel_rfl) (by kernel_rfl) (s_q27_Total_l1 l)
noncomputable def b124 : Code := (Tryz.f124.body).getD .skip
def q02_Valid_E : Bool → List RR := fun r => [.val (.bool r)]
theorem s_q02_Valid (mode : Int) : DoesP Tryz.prog gt 124 [.val (.int .i64 mode)] q02_Valid_E (q02_Valid mode) := by
 refine does_of (c := (cx 9 [.tmp 2])) c_ok (fn := Tryz.f124) (code := b124) Tryz.func124 (by kernel_rfl) (by kernel_rfl) (by kernel_rfl) (by kernel_rfl) (by kernel_rfl) ?_
 delta q02_Valid
 exact Sat.ret0 [true] (by kernel_rfl) (by kernel_rfl)
noncomputable def b179 : Code := (Tryz.f179.body).getD .skip
def q01_shifted_E : (Corebankref01Mag × Bool) → List RR := fun r => [.val (.agg (Corebankref01Mag.enc r.1)), .val (.bool r.2)]
theorem s_q01_shifted (m : Corebankref01Mag) : DoesP Tryz.prog gt 179 [.val (.agg (Corebankref01Mag.enc m))] q01_shifted_E (q01_shifted m) := by
 refine does_of (c := (cx 9 [.cell 2 190, .tmp 3])) c_ok (fn := Tryz.f179) (code := b179) Tryz.func179 (by kernel_rfl) (by kernel_rfl) (by kernel_rfl) (by kernel_rfl) (by kernel_rfl) ?_
 delta q01_shifted
 refine Sat.call (s_q01_plus m m) (by kernel_rfl) (fun r => ?_)
 exact Sat.ret0 [true, true] (by kernel_rfl) (by kernel_rfl)
noncomputable def b157 : Code := (Tryz.f157.body).getD .skip
def q01_Quotient_E : (Corebankref01Mag × Int) → List RR := fun r => [.val (.agg (Corebankref01Mag.enc r.1)), .val (.int .u64 r.2)]
def q01_Quotient_j0_S (n : Int) (s : (Int × Int × Int × Int × Int × Int)) (r : (Corebankref01Mag × Bool)) (r2 : (Corebankref01Mag × Bool)) : (Int × Int) → St := fun s3 => (⟨[(1, .rv (.val (.int .u64 n))), (2, .box 0 0), (4, .box 1 0), (6, .box 2 0), (7, .rv (.val (.int .u64 s3.1))), (8, .rv (.val (.int .i64 s.2.1)))], [(0, some (.box [.val (.int .u64 r.1.H), .val (.int .u64 r.1.L)])), (1, some (.box [.val (.int .u64 0), .val (.int .u64 0)])), (2, some (.box [.val (.int .u64 r2.1.H), .val (.int .u64 s3.2)]))], 3⟩ : St)
def q01_Quotient_j1_S (n : Int) (s : (Int × Int × Int × Int × Int × Int)) : Int → St := fun s1 => (⟨[(1, .rv (.val (.int .u64 n))), (2, .box 0 0), (4, .box 1 0), (6, .box 2 0), (7, .rv (.val (.int .u64 s1))), (8, .rv (.val (.int .i64 s.2.1)))], [(0, some (.box [.val (.int .u64 s.2.2.1), .val (.int .u64 s.2.2.2.1)])), (1, some (.box [.val (.int .u64 0), .val (.int .u64 0)])), (2, some (.box [.val (.int .u64 s.2.2.2.2.1), .val (.int .u64 s.2.2.2.2.2)]))], 3⟩ : St)
def q01_Quotient_l1_S (n : Int) : (Int × Int × Int × Int × Int × Int) → St := fun s => (⟨[(1, .rv (.val (.int .u64 n))), (2, .box 0 0), (4, .box 1 0), (6, .box 2 0), (7, .rv (.val (.int .u64 s.1))), (8, .rv (.val (.int .i64 s.2.1)))], [(0, some (.box [.val (.int .u64 s.2.2.1), .val (.int .u64 s.2.2.2.1)])), (1, some (.box [.val (.int .u64 0), .val (.int .u64 0)])), (2, some (.box [.val (.int .u64 s.2.2.2.2.1), .val (.int .u64 s.2.2.2.2.2)]))], 3⟩ : St)
theorem s_q01_Quotient_j0 (n : Int) (s : (Int × Int × Int × Int × Int × Int)) (r : (Corebankref01Mag × Bool)) (r2 : (Corebankref01Mag × Bool)) (s3 : (Int × Int)) : Sat (cx 44 [.cell 4 190, .tmp 5]) (loopR (R0 q01_Quotient_E)) (loopD (cx 44 [.cell 4 190, .tmp 5]) (R0 q01_Quotient_E) D0 (q01_Quotient_l1_S n) [(1, false), (2, false), (4, false), (6, false), (7, false), (8, false)] ((cx 44 [.cell 4 190, .tmp 5]).kAt b157 [true, true, true, false, true, false] (k0 (cx 44 [.cell 4 190, .tmp 5]).ti (cx 44 [.cell 4 190, .tmp 5]).rvs))) ((cx 44 [.cell 4 190, .tmp 5]).ex (sub b157 [true, true, true, false, true, false, false, true, true]) (q01_Quotient_j0_S n s r r2 s3) ((cx 44 [.cell 4 190, .tmp 5]).kAt b157 [true, true, true, false, true, false, false, true, true] (k0 (cx 44 [.cell 4 190, .tmp 5]).ti (cx 44 [.cell 4 190, .tmp 5]).rvs))) (q01_Quotient_j0 s r r2 s3) := by
 delta q01_Quotient_j0
 exact Sat.next (by kernel_rfl) (by kernel_rfl)
theorem s_q01_Quotient_j1 (n : Int) (s : (Int × Int × Int × Int × Int × Int)) (s1 : Int) : Sat (cx 44 [.cell 4 190, .tmp 5]) (loopR (R0 q01_Quotient_E)) (loopD (cx 44 [.cell 4 190, .tmp 5]) (R0 q01_Quotient_E) D0 (q01_Quotient_l1_S n) [(1, false), (2, false), (4, false), (6, false), (7, false), (8, false)] ((cx 44 [.cell 4 190, .tmp 5]).kAt b157 [true, true, true, false, true, false] (k0 (cx 44 [.cell 4 190, .tmp 5]).ti (cx 44 [.cell 4 190, .tmp 5]).rvs))) ((cx 44 [.cell 4 190, .tmp 5]).ex (sub b157 [true, true, true, false, true, false, false, true, false, false, true, true]) (q01_Quotient_j1_S n s s1) ((cx 44 [.cell 4 190, .tmp 5]).kAt b157 [true, true, true, false, true, false, false, true, false, false, true, true] (k0 (cx 44 [.cell 4 190, .tmp 5]).ti (cx 44 [.cell 4 190, .tmp 5]).rvs))) (q01_Quotient_j1 n s s1) := by
 delta q01_Quotient_j1
 refine Sat.call (s_q01_shifted (⟨s.2.2.1, s.2.2.2.1⟩ : Corebankref01Mag)) (by kernel_rfl) (fun r => ?_)
 refine Sat.call (s_q01_shifted (⟨s.2.2.2.2.1, s.2.2.2.2.2⟩ : Corebankref01Mag)) (by kernel_rfl) (fun r2 => ?_)
 refine Sat.ite (by kernel_rfl) ?_ ?_
 ·exact Sat.cut (s0 := ((IntKind.wrap .u64 (s1 - n)), (IntKind.wrap .u64 (r2.1.L + 1)))) [(1, false), (2, false), (4, false), (6, false), (7, false), (8, false)] c_ok (by kernel_rfl) (by kernel_rfl) (by kernel_rfl) (by kernel_rfl) (s_q01_Quotient_j0 n s r r2)
 exact Sat.cut (s0 := (s1, r2.1.L)) [(1, false), (2, false), (4, false), (6, false), (7, false), (8, false)] c_ok (by kernel_rfl) (by kernel_rfl) (by kernel_rfl) (by kernel_rfl) (s_q01_Quotient_j0 n s r r2)
theorem s_q01_Quotient_l1 (n : Int) (s : (Int × Int × Int × Int × Int × Int)) : Sat (cx 44 [.cell 4 190, .tmp 5]) (loopR (R0 q01_Quotient_E)) (loopD (cx 44 [.cell 4 190, .tmp 5]) (R0 q01_Quotient_E) D0 (q01_Quotient_l1_S n) [(1, false), (2, false), (4, false), (6, false), (7, false), (8, false)] ((cx 44 [.cell 4 190, .tmp 5]).kAt b157 [true, true, true, false, true, false] (k0 (cx 44 [.cell 4 190, .tmp 5]).ti (cx 44 [.cell 4 190, .tmp 5]).rvs))) ((cx 44 [.cell 4 190, .tmp 5]).ex (sub b157 [true, true, true, false, true, false, false]) (q01_Quotient_l1_S n s) T.done) (q01_Quotient_l1 n s) := by
 delta q01_Quotient_l1
 refine Sat.ite (by kernel_rfl) ?_ ?_
 ·refine Sat.need0 (g := true) (p := (0 : Int) ≤ 1) (by kernel_rfl) (by decide) ?_
  refine Sat.ite (by kernel_rfl) ?_ ?_
  ·exact Sat.cut (s0 := (IntKind.wrap .u64 ((IntKind.wrap .u64 (s.1 * 2 ^ 1)) + 1))) [(1, false), (2, false), (4, false), (6, false), (7, false), (8, false)] c_ok (by kernel_rfl) (by kernel_rfl) (by kernel_rfl) (by kernel_rfl) (s_q01_Quotient_j1 n s)
  exact Sat.cut (s0 := (IntKind.wrap .u64 (s.1 * 2 ^ 1))) [(1, false), (2, false), (4, false), (6, false), (7, false), (8, false)] c_ok (by kernel_rfl) (by kernel_rfl) (by kernel_rfl) (by kernel_rfl) (s_q01_Quotient_j1 n s)
 refine Sat.out (id := 0) (A := some ((⟨s.2.2.2.2.1, s.2.2.2.2.2⟩ : Corebankref01Mag), s.1)) (by kernel_rfl) ?_
 exact Sat.ret0 [true, true] (by kernel_rfl) (by kernel_rfl)
theorem s_q01_Quotient (m : Corebankref01Mag) (n : Int) : DoesP Tryz.prog gt 157 [.val (.agg (Corebankref01Mag.enc m)), .val (.int .u64 n)] q01_Quotient_E (q01_Quotient m n) := by
 refine does_of (c := (cx 44 [.cell 4 190, .tmp 5])) c_ok (fn := Tryz.f157) (code := b157) Tryz.func157 (by kernel_rfl) (by kernel_rfl) (by kernel_rfl) (by kernel_rfl) (by kernel_rfl) ?_
 delta q01_Quotient
 exact Sat.loop (s0 := (0, 0, m.H, m.L, 0, 0)) [(1, false), (2, false), (4, false), (6, false), (7, false), (8, false)] c_ok (by kernel_rfl) (by kernel_rfl) (by kernel_rfl) (by kernel_rfl) (s_q01_Quotient_l1 n)
noncomputable def b125 : Code := (Tryz.f125.body).getD .skip
def q01_Div_E : (ApiWide × Int × Int) → List RR := fun r => [.val (.agg (ApiWide.enc r.1)), .val (.int .i64 r.2.1), .val (.int .i64 r.2.2)]
def q01_Div_j0_S (r : (Bool × Corebankref01Mag)) : (Int × Int × Int) → St := fun s => (⟨[(4, .box 0 0), (7, .rv (.val (.bool r.1))), (9, .box 1 0), (10, .rv (.val (.int .u64 s.1)))], [(0, some (.box [.val (.int .i64 0), .val (.int .u64 0)])), (1, some (.box [.val (.int .u64 s.2.1), .val (.int .u64 s.2.2)]))], 2⟩ : St)
theorem s_q01_Div_j0 (r : (Bool × Corebankref01Mag)) (s : (Int × Int × Int)) : Sat (cx 52 [.cell 4 49, .tmp 5, .tmp 6]) (R0 q01_Div_E) D0 ((cx 52 [.cell 4 49, .tmp 5, .tmp 6]).ex (sub b125 [true, true, true, true, true]) (q01_Div_j0_S r s) ((cx 52 [.cell 4 49, .tmp 5, .tmp 6]).kAt b125 [true, true, true, true, true] (k0 (cx 52 [.cell 4 49, .tmp 5, .tmp 6]).ti (cx 52 [.cell 4 49, .tmp 5, .tmp 6]).rvs))) (q01_Div_j0 r s) := by
 delta q01_Div_j0
 refine Sat.call (s_q01_Join r.1 (⟨s.2.1, s.2.2⟩ : Corebankref01Mag)) (by kernel_rfl) (fun r3 => ?_)
 exact Sat.ret0 [true, true, true] (by kernel_rfl) (by kernel_rfl)
theorem s_q01_Div (a : ApiWide) (n : Int) : DoesP Tryz.prog gt 125 [.val (.agg (ApiWide.enc a)), .val (.int .i64 n)] q01_Div_E (q01_Div a n) := by
 refine does_of (c := (cx 52 [.cell 4 49, .tmp 5, .tmp 6])) c_ok (fn := Tryz.f125) (code := b125) Tryz.func125 (by kernel_rfl) (by kernel_rfl) (by kernel_rfl) (by kernel_rfl) (by kernel_rfl) ?_
 delta q01_Div
 refine Sat.ite (by kernel_rfl) ?_ ?_
 ·exact Sat.ret0 [true, true, true] (by kernel_rfl) (by kernel_rfl)
 refine Sat.call (s_q01_Split a) (by kernel_rfl) (fun r => ?_)
 refine Sat.call (s_q01_Quotient r.2 (IntKind.wrap .u64 n)) (by kernel_rfl) (fun r1 => ?_)
 refine Sat.ite (by kernel_rfl) ?_ ?_
 ·refine Sat.call (s_q01_plus r1.1 (⟨0, 1⟩ : Corebankref01Mag)) (by kernel_rfl) (fun r2 => ?_)
  exact Sat.cut (s0 := ((IntKind.wrap .u64 ((IntKind.wrap .u64 n) - r1.2)), r2.1.H, r2.1.L)) [(4, false), (7, false), (9, false), (10, false)] c_ok (by kernel_rfl) (by kernel_rfl) (by kernel_rfl) (by kernel_rfl) (s_q01_Div_j0 r)
 exact Sat.cut (s0 := (r1.2, r1.1.H, r1.1.L)) [(4, false), (7, false), (9, false), (10, false)] c_ok (by kernel_rfl) (by kernel_rfl) (by kernel_rfl) (by kernel_rfl) (s_q01_Div_j0 r)
noncomputable def b126 : Code := (Tryz.f126.body).getD .skip
def q02_up_E : Bool → List RR := fun r => [.val (.bool r)]
theorem s_q02_up (negative : Bool) (odd : Bool) (r_ : Int) (n : Int) (mode : Int) : DoesP Tryz.prog gt 126 [.val (.bool negative), .val (.bool odd), .val (.int .i64 r_), .val (.int .i64 n), .val (.int .i64 mode)] q02_up_E (q02_up negative odd r_ n mode) := by
 refine does_of (c := (cx 38 [.tmp 10])) c_ok (fn := Tryz.f126) (code := b126) Tryz.func126 (by kernel_rfl) (by kernel_rfl) (by kernel_rfl) (by kernel_rfl) (by kernel_rfl) ?_
 delta q02_up
 refine Sat.ite (by kernel_rfl) ?_ ?_
 ·exact Sat.ret0 [true] (by kernel_rfl) (by kernel_rfl)
 refine Sat.ite (by kernel_rfl) ?_ ?_
 ·exact Sat.ret0 [true] (by kernel_rfl) (by kernel_rfl)
 refine Sat.ite (by kernel_rfl) ?_ ?_
 ·exact Sat.ret0 [true] (by kernel_rfl) (by kernel_rfl)
 refine Sat.ite (by kernel_rfl) ?_ ?_
 ·exact Sat.ret0 [true] (by kernel_rfl) (by kernel_rfl)
 refine Sat.ite (by kernel_rfl) ?_ ?_
 ·exact Sat.ret0 [true] (by kernel_rfl) (by kernel_rfl)
 refine Sat.ite (by kernel_rfl) ?_ ?_
 ·exact Sat.ret0 [true] (by kernel_rfl) (by kernel_rfl)
 exact Sat.ret0 [true] (by kernel_rfl) (by kernel_rfl)
noncomputable def b128 : Code := (Tryz.f128.body).getD .skip
def q01_Int_E : (Int × Bool) → List RR := fun r => [.val (.int .i64 r.1), .val (.bool r.2)]
theorem s_q01_Int (a : ApiWide) : DoesP Tryz.prog gt 128 [.val (.agg (ApiWide.enc a))] q01_Int_E (q01_Int a) := by
 refine does_of (c := (cx 13 [.tmp 2, .tmp 3])) c_ok (fn := Tryz.f128) (code := b128) Tryz.func128 (by kernel_rfl) (by kernel_rfl) (by kernel_rfl) (by kernel_rfl) (by kernel_rfl) ?_
 delta q01_Int
 refine Sat.call (s_q01_Of (IntKind.wrap .i64 a.Lo)) (by kernel_rfl) (fun r => ?_)
 refine Sat.ite (by kernel_rfl) ?_ ?_
 ·exact Sat.ret0 [true, true] (by kernel_rfl) (by kernel_rfl)
 exact Sat.ret0 [true, true] (by kernel_rfl) (by kernel_rfl)
noncomputable def b95 : Code := (Tryz.f95.body).getD .skip
def q02_Divide_E : (Int × Int) → List RR := fun r => [.val (.int .i64 r.1), .val (.int .i64 r.2)]
def q02_Divide_j0_S : (Int × Int) → St := fun s => (⟨[(8, .box 0 0)], [(0, some (.box [.val (.int .i64 s.1), .val (.int .u64 s.2)]))], 1⟩ : St)
theorem s_q02_Divide_j0 (s : (Int × Int)) : Sat (cx 59 [.tmp 6, .tmp 7]) (R0 q02_Divide_E) D0 ((cx 59 [.tmp 6, .tmp 7]).ex (sub b95 [true, true, true, true]) (q02_Divide_j0_S s) ((cx 59 [.tmp 6, .tmp 7]).kAt b95 [true, true, true, true] (k0 (cx 59 [.tmp 6, .tmp 7]).ti (cx 59 [.tmp 6, .tmp 7]).rvs))) (q02_Divide_j0 s) := by
 delta q02_Divide_j0
 refine Sat.call (s_q01_Int (⟨s.1, s.2⟩ : ApiWide)) (by kernel_rfl) (fun r5 => ?_)
 refine Sat.ite (by kernel_rfl) ?_ ?_
 ·exact Sat.ret0 [true, true] (by kernel_rfl) (by kernel_rfl)
 exact Sat.ret0 [true, true] (by kernel_rfl) (by kernel_rfl)
theorem s_q02_Divide (a : ApiWide) (n : Int) (mode : Int) : DoesP Tryz.prog gt 95 [.val (.agg (ApiWide.enc a)), .val (.int .i64 n), .val (.int .i64 mode)] q02_Divide_E (q02_Divide a n mode) := by
 refine does_of (c := (cx 59 [.tmp 6, .tmp 7])) c_ok (fn := Tryz.f95) (code := b95) Tryz.func95 (by kernel_rfl) (by kernel_rfl) (by kernel_rfl) (by kernel_rfl) (by kernel_rfl) ?_
 delta q02_Divide
 refine Sat.callG (s_q02_Valid mode) (by kernel_rfl) (fun r => ?_)
 refine Sat.ite (by kernel_rfl) ?_ ?_
 ·exact Sat.ret0 [true, true] (by kernel_rfl) (by kernel_rfl)
 refine Sat.call (s_q01_Div a n) (by kernel_rfl) (fun r1 => ?_)
 refine Sat.need0 (g := (((decide (r1.2.1 > 0)) == true) && true)) (p := 2 ≠ (0 : Int)) (by kernel_rfl) (by decide) ?_
 refine Sat.callG (s_q02_up (decide (a.Hi < 0)) ((r1.1.Lo.tmod 2) == 1) r1.2.1 n mode) (by kernel_rfl) (fun r2 => ?_)
 refine Sat.ite (by kernel_rfl) ?_ ?_
 ·refine Sat.call (s_q01_Of 1) (by kernel_rfl) (fun r3 => ?_)
  refine Sat.call (s_q01_Add r1.1 r3) (by kernel_rfl) (fun r4 => ?_)
  exact Sat.cut (s0 := (r4.1.Hi, r4.1.Lo)) [(8, false)] c_ok (by kernel_rfl) (by kernel_rfl) (by kernel_rfl) (by kernel_rfl) (s_q02_Divide_j0)
 exact Sat.cut (s0 := (r1.1.Hi, r1.1.Lo)) [(8, false)] c_ok (by kernel_rfl) (by kernel_rfl) (by kernel_rfl) (by kernel_rfl) (s_q02_Divide_j0)
noncomputable def b94 : Code := (Tryz.f94.body).getD .skip
def q02_Good_E : Bool → List RR := fun r => [.val (.bool r)]
theorem s_q02_Good (amount : Int) : DoesP Tryz.prog gt 94 [.val (.int .i64 amount)] q02_Good_E (q02_Good amount) := by
 refine does_of (c := (cx 9 [.tmp 2])) c_ok (fn := Tryz.f94) (code := b94) Tryz.func94 (by kernel_rfl) (by kernel_rfl) (by kernel_rfl) (by kernel_rfl) (by kernel_rfl) ?_
 delta q02_Good
 exact Sat.ret0 [true] (by kernel_rfl) (by kernel_rfl)
noncomputable def b123 : Code := (Tryz.f123.body).getD .skip
def q01_Sub_E : (ApiWide × Int) → List RR := fun r => [.val (.agg (ApiWide.enc r.1)), .val (.int .i64 r.2)]
theorem s_q01_Sub (a : ApiWide) (b : ApiWide) : DoesP Tryz.prog gt 123 [.val (.agg (ApiWide.enc a)), .val (.agg (ApiWide.enc b))] q01_Sub_E (q01_Sub a b) := by
 refine does_of (c := (cx 28 [.cell 4 49, .tmp 5])) c_ok (fn := Tryz.f123) (code := b123) Tryz.func123 (by kernel_rfl) (by kernel_rfl) (by kernel_rfl) (by kernel_rfl) (by kernel_rfl) ?_
 delta q01_Sub
 refine Sat.call (s_q01_Split a) (by kernel_rfl) (fun r => ?_)
 refine Sat.call (s_q01_Split b) (by kernel_rfl) (fun r1 => ?_)
 refine Sat.call (s_q01_sum r.1 r.2 (!r1.1) r1.2) (by kernel_rfl) (fun r2 => ?_)
 exact Sat.ret0 [true, true] (by kernel_rfl) (by kernel_rfl)
noncomputable def b93 : Code := (Tryz.f93.body).getD .skip
def q02_Amount_E : (Int × ApiWide × Int) → List RR := fun r => [.val (.int .i64 r.1), .val (.agg (ApiWide.enc r.2.1)), .val (.int .i64 r.2.2)]
theorem s_q02_Amount (grains : ApiWide) (mode : Int) : DoesP Tryz.prog gt 93 [.val (.agg (ApiWide.enc grains)), .val (.int .i64 mode)] q02_Amount_E (q02_Amount grains mode) := by
 refine does_of (c := (cx 34 [.tmp 4, .cell 5 49, .tmp 6])) c_ok (fn := Tryz.f93) (code := b93) Tryz.func93 (by kernel_rfl) (by kernel_rfl) (by kernel_rfl) (by kernel_rfl) (by kernel_rfl) ?_
 delta q02_Amount
 refine Sat.call (s_q02_Divide grains 1603080000000 mode) (by kernel_rfl) (fun r => ?_)
 refine Sat.ite (by kernel_rfl) ?_ ?_
 ·exact Sat.ret0 [true, true, true] (by kernel_rfl) (by kernel_rfl)
 refine Sat.call (s_q02_Good r.1) (by kernel_rfl) (fun r1 => ?_)
 refine Sat.ite (by kernel_rfl) ?_ ?_
 ·exact Sat.ret0 [true, true, true] (by kernel_rfl) (by kernel_rfl)
 refine Sat.call (s_q01_Mul r.1 1603080000000) (by kernel_rfl) (fun r2 => ?_)
 refine Sat.call (s_q01_Sub grains r2) (by kernel_rfl) (fun r3 => ?_)
 exact Sat.ret0 [true, true, true] (by kernel_rfl) (by kernel_rfl)
noncomputable def b70 : Code := (Tryz.f70.body).getD .skip
def q29_settled_E : (Int × ApiWide × Int) → List RR := fun r => [.val (.int .i64 r.1), .val (.agg (ApiWide.enc r.2.1)), .val (.int .i64 r.2.2)]
def q29_settled_j0_S (x : ApiInterest) : (Int × Int) → St := fun s => (⟨[(3, .box 0 0), (5, .box 1 0), (7, .box 2 0)], [(0, some (.box [.val (.int .i64 s.1), .val (.int .u64 s.2)])), (1, some (.box [.val (.slice (List.map ApiTier.enc x.Tiers)), .val (.bool x.Marginal), .val (.int .i64 x.Basis), .val (.int .i64 x.Mode), .val (.bool x.Keep)])), (2, some (.box [.val (.int .i64 0), .val (.int .u64 0)]))], 3⟩ : St)
theorem s_q29_settled_j0 (x : ApiInterest) (s : (Int × Int)) : Sat (cx 54 [.tmp 6, .cell 7 49, .tmp 8]) (R0 q29_settled_E) D0 ((cx 54 [.tmp 6, .cell 7 49, .tmp 8]).ex (sub b70 [true, true]) (q29_settled_j0_S x s) ((cx 54 [.tmp 6, .cell 7 49, .tmp 8]).kAt b70 [true, true] (k0 (cx 54 [.tmp 6, .cell 7 49, .tmp 8]).ti (cx 54 [.tmp 6, .cell 7 49, .tmp 8]).rvs))) (q29_settled_j0 x s) := by
 delta q29_settled_j0
 refine Sat.ite (by kernel_rfl) ?_ ?_
 ·refine Sat.ite (by kernel_rfl) ?_ ?_
  ·exact Sat.ret0 [true, true, true] (by kernel_rfl) (by kernel_rfl)
  exact Sat.ret0 [true, true, true] (by kernel_rfl) (by kernel_rfl)
 refine Sat.call (s_q02_Amount (⟨s.1, s.2⟩ : ApiWide) x.Mode) (by kernel_rfl) (fun r1 => ?_)
 refine Sat.ite (by kernel_rfl) ?_ ?_
 ·exact Sat.ret0 [true, true, true] (by kernel_rfl) (by kernel_rfl)
 exact Sat.ret0 [true, true, true] (by kernel_rfl) (by kernel_rfl)
theorem s_q29_settled (grains : ApiWide) (rest : ApiWide) (x : ApiInterest) : DoesP Tryz.prog gt 70 [.val (.agg (ApiWide.enc grains)), .val (.agg (ApiWide.enc rest)), .val (.agg (ApiInterest.enc x))] q29_settled_E (q29_settled grains rest x) := by
 refine does_of (c := (cx 54 [.tmp 6, .cell 7 49, .tmp 8])) c_ok (fn := Tryz.f70) (code := b70) Tryz.func70 (by kernel_rfl) (by kernel_rfl) (by kernel_rfl) (by kernel_rfl) (by kernel_rfl) ?_
 delta q29_settled
 refine Sat.ite (by kernel_rfl) ?_ ?_
 ·refine Sat.call (s_q01_Add grains rest) (by kernel_rfl) (fun r => ?_)
  refine Sat.ite (by kernel_rfl) ?_ ?_
  ·exact Sat.ret0 [true, true, true] (by kernel_rfl) (by kernel_rfl)
  exact Sat.cut (s0 := (r.1.Hi, r.1.Lo)) [(3, false), (5, false), (7, false)] c_ok (by kernel_rfl) (by kernel_rfl) (by kernel_rfl) (by kernel_rfl) (s_q29_settled_j0 x)
 exact Sat.cut (s0 := (grains.Hi, grains.Lo)) [(3, false), (5, false), (7, false)] c_ok (by kernel_rfl) (by kernel_rfl) (by kernel_rfl) (by kernel_rfl) (s_q29_settled_j0 x)
noncomputable def b71 : Code := (Tryz.f71.body).getD .skip
def q02_Percent_E : (Int × Int) → List RR := fun r => [.val (.int .i64 r.1), .val (.int .i64 r.2)]
theorem s_q02_Percent (amount : Int) (ppm : Int) (mode : Int) : DoesP Tryz.prog gt 71 [.val (.int .i64 amount), .val (.int .i64 ppm), .val (.int .i64 mode)] q02_Percent_E (q02_Percent amount ppm mode) := by
 refine does_of (c := (cx 26 [.tmp 6, .tmp 7])) c_ok (fn := Tryz.f71) (code := b71) Tryz.func71 (by kernel_rfl) (by kernel_rfl) (by kernel_rfl) (by kernel_rfl) (by kernel_rfl) ?_
 delta q02_Percent
 refine Sat.call (s_q02_Good amount) (by kernel_rfl) (fun r => ?_)
 refine Sat.ite (by kernel_rfl) ?_ ?_
 ·exact Sat.ret0 [true, true] (by kernel_rfl) (by kernel_rfl)
 refine Sat.call (s_q01_Mul amount ppm) (by kernel_rfl) (fun r1 => ?_)
 refine Sat.call (s_q02_Divide r1 1000000 mode) (by kernel_rfl) (fun r2 => ?_)
 exact Sat.ret0 [true, true] (by kernel_rfl) (by kernel_rfl)
noncomputable def b43 : Code := (Tryz.f43.body).getD .skip
def q29_Period_E : (ApiPeriod × Int) → List RR := fun r => [.val (.agg (ApiPeriod.enc r.1)), .val (.int .i64 r.2)]
theorem s_q29_Period (b : ApiBooks) (l : (List ApiPeriod)) (id : Int) (to' : Int) : DoesP Tryz.prog gt 43 [.val (.agg (ApiBooks.enc b)), .val (.slice (List.map ApiPeriod.enc l)), .val (.int .i64 id), .val (.int .i64 to')] q29_Period_E (q29_Period b l id to') := by
 refine does_of (c := (cx 150 [.cell 8 51, .tmp 9])) c_ok (fn := Tryz.f43) (code := b43) Tryz.func43 (by kernel_rfl) (by kernel_rfl) (by kernel_rfl) (by kernel_rfl) (by kernel_rfl) ?_
 delta q29_Period
 refine Sat.call (s_q24_Find b id) (by kernel_rfl) (fun r => ?_)
 refine Sat.ite (by kernel_rfl) ?_ ?_
 ·exact Sat.ret0 [true, true] (by kernel_rfl) (by kernel_rfl)
 refine Sat.call (s_q29_First b l id) (by kernel_rfl) (fun r1 => ?_)
 refine Sat.call (s_q04_Valid to') (by kernel_rfl) (fun r2 => ?_)
 refine Sat.callG (s_q04_Valid r1) (by kernel_rfl) (fun r3 => ?_)
 refine Sat.ite (by kernel_rfl) ?_ ?_
 ·exact Sat.ret0 [true, true] (by kernel_rfl) (by kernel_rfl)
 refine Sat.call (s_q27_Series b id r1 to') (by kernel_rfl) (fun r4 => ?_)
 refine Sat.ite (by kernel_rfl) ?_ ?_
 ·exact Sat.ret0 [true, true] (by kernel_rfl) (by kernel_rfl)
 refine Sat.call (s_q24_Product b id to') (by kernel_rfl) (fun r5 => ?_)
 refine Sat.ite (by kernel_rfl) ?_ ?_
 ·exact Sat.ret0 [true, true] (by kernel_rfl) (by kernel_rfl)
 refine Sat.call (s_q27_Total r4.1) (by kernel_rfl) (fun r6 => ?_)
 refine Sat.ite (by kernel_rfl) ?_ ?_
 ·exact Sat.ret0 [true, true] (by kernel_rfl) (by kernel_rfl)
 refine Sat.call (s_q29_Last l id) (by kernel_rfl) (fun r7 => ?_)
 refine Sat.call (s_q29_settled r6.1 r7.1.CreditRest r5.1.Credit) (by kernel_rfl) (fun r8 => ?_)
 refine Sat.ite (by kernel_rfl) ?_ ?_
 ·exact Sat.ret0 [true, true] (by kernel_rfl) (by kernel_rfl)
 refine Sat.call (s_q29_settled r6.2.1 r7.1.DebitRest r5.1.Debit) (by kernel_rfl) (fun r9 => ?_)
 refine Sat.ite (by kernel_rfl) ?_ ?_
 ·exact Sat.ret0 [true, true] (by kernel_rfl) (by kernel_rfl)
 refine Sat.call (s_q02_Percent r8.1 r5.1.TaxPpm 1) (by kernel_rfl) (fun r10 => ?_)
 refine Sat.ite (by kernel_rfl) ?_ ?_
 ·exact Sat.ret0 [true, true] (by kernel_rfl) (by kernel_rfl)
 exact Sat.ret0 [true, true] (by kernel_rfl) (by kernel_rfl)
noncomputable def b44 : Code := (Tryz.f44.body).getD .skip
def q30_amounts_E : Bool → List RR := fun r => [.val (.bool r)]
theorem s_q30_amounts (a : ApiPeriod) (b : ApiPeriod) : DoesP Tryz.prog gt 44 [.val (.agg (ApiPeriod.enc a)), .val (.agg (ApiPeriod.enc b))] q30_amounts_E (q30_amounts a b) := by
 refine does_of (c := (cx 24 [.tmp 4])) c_ok (fn := Tryz.f44) (code := b44) Tryz.func44 (by kernel_rfl) (by kernel_rfl) (by kernel_rfl) (by kernel_rfl) (by kernel_rfl) ?_
 delta q30_amounts
 exact Sat.ret0 [true] (by kernel_rfl) (by kernel_rfl)
noncomputable def b23 : Code := (Tryz.f23.body).getD .skip
def q30_Fits_E : Bool → List RR := fun r => [.val (.bool r)]
theorem s_q30_Fits (b : ApiBooks) (before : (List ApiPeriod)) (x : ApiPeriod) : DoesP Tryz.prog gt 23 [.val (.agg (ApiBooks.enc b)), .val (.slice (List.map ApiPeriod.enc before)), .val (.agg (ApiPeriod.enc x))] q30_Fits_E (q30_Fits b before x) := by
 refine does_of (c := (cx 47 [.tmp 6])) c_ok (fn := Tryz.f23) (code := b23) Tryz.func23 (by kernel_rfl) (by kernel_rfl) (by kernel_rfl) (by kernel_rfl) (by kernel_rfl) ?_
 delta q30_Fits
 refine Sat.call (s_q29_Period b before x.Account x.To) (by kernel_rfl) (fun r => ?_)
 refine Sat.callG (s_q30_amounts r.1 x) (by kernel_rfl) (fun r1 => ?_)
 exact Sat.ret0 [true] (by kernel_rfl) (by kernel_rfl)
noncomputable def b9 : Code := (Tryz.f9.body).getD .skip
def q30_Clean_E : Bool → List RR := fun r => [.val (.bool r)]
def q30_Clean_l1_S (b : ApiBooks) (l : (List ApiPeriod)) (id : Int) : Int → St := fun s => (⟨[(1, .rv (.val (.slice (List.map ApiPeriod.enc l)))), (2, .rv (.val (.int .i64 id))), (3, .box 0 0), (9, .rv (.val (.int .i64 s)))], [(0, some (.box [.val (.slice (List.map ApiCurrency.enc b.Currencies)), .val (.slice (List.map ApiCalendar.enc b.Calendars)), .val (.slice (List.map ApiGl.enc b.Chart)), .val (.int .i64 b.Plan.Cash), .val (.int .i64 b.Plan.Deposits), .val (.int .i64 b.Plan.InterestPaid), .val (.int .i64 b.Plan.InterestEarned), .val (.int .i64 b.Plan.FeeEarned), .val (.int .i64 b.Plan.Tax), .val (.int .i64 b.Plan.Clearing), .val (.int .i64 b.Plan.Loans), .val (.int .i64 b.Plan.LoanInterest), .val (.int .i64 b.Plan.Penalty), .val (.int .i64 b.Plan.Provision), .val (.int .i64 b.Plan.ProvisionCost), .val (.int .i64 b.Plan.Loss), .val (.int .i64 b.Plan.Recovery), .val (.slice (List.map ApiProduct.enc b.Products)), .val (.slice (List.map ApiAccount.enc b.Accounts)), .val (.slice (List.map ApiEntry.enc b.Journal)), .val (.slice (List.map ApiHold.enc b.Holds)), .val (.slice (List.map ApiBlock.enc b.Blocks))]))], 1⟩ : St)
theorem s_q30_Clean_l1 (b : ApiBooks) (l : (List ApiPeriod)) (id : Int) (s : Int) : Sat (cx 43 [.tmp 6]) (loopR (R0 q30_Clean_E)) (loopD (cx 43 [.tmp 6]) (R0 q30_Clean_E) D0 (q30_Clean_l1_S b l id) [(1, false), (2, false), (3, false), (9, false)] ((cx 43 [.tmp 6]).kAt b9 [true, true, false, true, false] (k0 (cx 43 [.tmp 6]).ti (cx 43 [.tmp 6]).rvs))) ((cx 43 [.tmp 6]).ex (sub b9 [true, true, false, true, false, false]) (q30_Clean_l1_S b l id s) T.done) (q30_Clean_l1 b l id s) := by
 delta q30_Clean_l1
 refine Sat.ite (by kernel_rfl) ?_ ?_
 ·refine Sat.opt (enc := ApiPeriod.enc) (by kernel_rfl) (getRow_map _ _ _) (fun li => ?_)
  refine Sat.need (g := (((li.Account == id) == true) && true)) (p := ((0 : Int) ≤ 0 ∧ 0 ≤ s ∧ s ≤ ((List.map ApiPeriod.enc l).length : Int)) ∧ ∀ r ∈ (List.map ApiPeriod.enc l), r.length = 11) (by kernel_rfl) (fun h0 hg => by have h := h0 hg; exact ⟨by simpa using h, map_len ApiPeriod.enc 11 (fun _ => rfl) _⟩) ?_
  refine Sat.optG (enc := ApiPeriod.enc) (by kernel_rfl) (getRow_map _ _ _) (fun li1 => ?_)
  refine Sat.callG (DoesP.cast (args := [.val (.agg [.slice (List.map ApiCurrency.enc b.Currencies), .slice (List.map ApiCalendar.enc b.Calendars), .slice (List.map ApiGl.enc b.Chart), .int .i64 b.Plan.Cash, .int .i64 b.Plan.Deposits, .int .i64 b.Plan.InterestPaid, .int .i64 b.Plan.InterestEarned, .int .i64 b.Plan.FeeEarned, .int .i64 b.Plan.Tax, .int .i64 b.Plan.Clearing, .int .i64 b.Plan.Loans, .int .i64 b.Plan.LoanInterest, .int .i64 b.Plan.Penalty, .int .i64 b.Plan.Provision, .int .i64 b.Plan.ProvisionCost, .int .i64 b.Plan.Loss, .int .i64 b.Plan.Recovery, .slice (List.map ApiProduct.enc b.Products), .slice (List.map ApiAccount.enc b.Accounts), .slice (List.map ApiEntry.enc b.Journal), .slice (List.map ApiHold.enc b.Holds), .slice (List.map ApiBlock.enc b.Blocks)]), .val (.slice (sliceRows (List.map ApiPeriod.enc l) 0 s)), .val (.agg [.int .i64 li1.Account, .int .i64 li1.From, .int .i64 li1.To, .int .i64 li1.Credit, .int .i64 li1.Debit, .int .i64 li1.Tax, .int .i64 li1.Count, .int .i64 li1.CreditRest.Hi, .int .u64 li1.CreditRest.Lo, .int .i64 li1.DebitRest.Hi, .int .u64 li1.DebitRest.Lo])]) (by simp [ApiBooks.enc, ApiPeriod.enc, ApiPeriod.enc, List.map_append, List.map_set, List.map_take, List.map_drop, sliceRows_map, List.map_replicate, eInt, eBool, eStr]) (s_q30_Fits b (subl l 0 s) li1)) (by kernel_rfl) (fun r2 => ?_)
  refine Sat.ite (by kernel_rfl) ?_ ?_
  ·refine Sat.retL (D := D0) (A := some false) (by kernel_rfl) ?_
   exact Sat.ret0 [true] (by kernel_rfl) (by kernel_rfl)
  exact Sat.next (by kernel_rfl) (by kernel_rfl)
 refine Sat.out (id := 0) (A := some true) (by kernel_rfl) ?_
 exact Sat.ret0 [true] (by kernel_rfl) (by kernel_rfl)
theorem s_q30_Clean (b : ApiBooks) (l : (List ApiPeriod)) (id : Int) : DoesP Tryz.prog gt 9 [.val (.agg (ApiBooks.enc b)), .val (.slice (List.map ApiPeriod.enc l)), .val (.int .i64 id)] q30_Clean_E (q30_Clean b l id) := by
 refine does_of (c := (cx 43 [.tmp 6])) c_ok (fn := Tryz.f9) (code := b9) Tryz.func9 (by kernel_rfl) (by kernel_rfl) (by kernel_rfl) (by kernel_rfl) (by kernel_rfl) ?_
 delta q30_Clean
 refine Sat.call (s_q24_Find b id) (by kernel_rfl) (fun r => ?_)
 refine Sat.ite (by kernel_rfl) ?_ ?_
 ·exact Sat.ret0 [true] (by kernel_rfl) (by kernel_rfl)
 exact Sat.loop (s0 := 0) [(1, false), (2, false), (3, false), (9, false)] c_ok (by kernel_rfl) (by kernel_rfl) (by kernel_rfl) (by kernel_rfl) (s_q30_Clean_l1 b l id)
noncomputable def b3 : Code := (Tryz.f3.body).getD .skip
def l30_BackdateCleans_E : Bool → List RR := fun r => [.val (.bool r)]
theorem s_l30_BackdateCleans (b : ApiBooks) (l : (List ApiPeriod)) (id : Int) : DoesP Tryz.prog gt 3 [.val (.agg (ApiBooks.enc b)), .val (.slice (List.map ApiPeriod.enc l)), .val (.int .i64 id)] l30_BackdateCleans_E (l30_BackdateCleans b l id) := by
 refine does_of (c := (cx 36 [.tmp 6])) c_ok (fn := Tryz.f3) (code := b3) Tryz.func3 (by kernel_rfl) (by kernel_rfl) (by kernel_rfl) (by kernel_rfl) (by kernel_rfl) ?_
 delta l30_BackdateCleans
 refine Sat.call (s_l30_Few b l) (by kernel_rfl) (fun r => ?_)
 refine Sat.callG (s_l30_near b l id) (by kernel_rfl) (fun r1 => ?_)
 refine Sat.callG (s_q26_Check b) (by kernel_rfl) (fun r2 => ?_)
 refine Sat.ite (by kernel_rfl) ?_ ?_
 ·refine Sat.call (s_l30_Lives) (by kernel_rfl) (fun r3 => ?_)
  exact Sat.ret0 [true] (by kernel_rfl) (by kernel_rfl)
 refine Sat.call (s_backdate_Clean b l id) (by kernel_rfl) (fun r4 => ?_)
 refine Sat.call (s_q30_Clean b l id) (by kernel_rfl) (fun r5 => ?_)
 refine Sat.callG (s_l30_Lives) (by kernel_rfl) (fun r6 => ?_)
 exact Sat.ret0 [true] (by kernel_rfl) (by kernel_rfl)
end Go.Cb
set_option linter.unusedVariables false
set_option linter.unusedSimpArgs false
namespace Go.Cb
open Go.Eng Go.RowKit
end Go.Cb
set_option linter.unusedVariables false
set_option linter.unusedSimpArgs false
namespace Go.Cb
open Go.Eng
theorem w64_in {n : Int} (h1 : -9223372036854775808 ≤ n) (h2 : n ≤ 9223372036854775807) : IntKind.wrap .i64 n = n := by
  unfold IntKind.wrap IntKind.bits IntKind.signed
  simp only
  split <;> rename_i h <;> simp at h <;> omega
theorem w64_succ {n : Nat} (h : n ≤ 9223372036854775806) : IntKind.wrap .i64 ((n : Int) + 1) = (n : Int) + 1 := by
  rw [w64_in] <;> omega
theorem getI_nat {τ : Type} (l : List τ) (n : Nat) : getI l (n : Int) = l[n]? := by
  unfold getI
  rw [if_pos (by omega)]
  rfl
theorem getI_lt {τ : Type} (l : List τ) (n : Nat) (h : n < l.length) : getI l (n : Int) = some l[n] := by
  rw [getI_nat, List.getElem?_eq_getElem h]
theorem getI_some {τ : Type} {l : List τ} {n : Int} (h0 : 0 ≤ n) (h : n < l.length) : ∃ x, getI l n = some x ∧ l[n.toNat]? = some x ∧ x ∈ l := by
  have : n.toNat < l.length := by omega
  refine ⟨l[n.toNat], ?_, List.getElem?_eq_getElem this, List.getElem_mem this⟩
  unfold getI
  rw [if_pos h0, List.getElem?_eq_getElem this]
section
variable {σ ρ : Type}
theorem iterN_steps {B : σ → Option (σ ⊕ ρ)} (n k : Nat) (st : Nat → σ) (step : ∀ i, i < n → B (st i) = some (.inl (st (i + 1)))) : iterN B (n + k) (st 0) = iterN B k (st n) := by
  induction n generalizing k with
  | zero => rw [Nat.zero_add]
  | succ n ih =>
    rw [show n + 1 + k = n + (k + 1) by omega, ih (k + 1) (fun i hi => step i (by omega))]
    show (match B (st n) with
      | none => none
      | some (.inl s') => iterN B k s'
      | some (.inr r) => some r) = _
    rw [step n (by omega)]
theorem iterN_out {B : σ → Option (σ ⊕ ρ)} {s : σ} {A : Option ρ} (k : Nat) (h : B s = A.map .inr) : iterN B (k + 1) s = A := by
  show (match B s with
      | none => none
      | some (.inl s') => iterN B k s'
      | some (.inr r) => some r) = _
  rw [h]; cases A <;> rfl
theorem iter_run {B : σ → Option (σ ⊕ ρ)} {s0 : σ} {A : Option ρ} (n : Nat) (st : Nat → σ) (h0 : st 0 = s0) (hn : n ≤ 18446744073709551615) (step : ∀ i, i < n → B (st i) = some (.inl (st (i + 1)))) (fin : B (st n) = A.map .inr) : Iter B s0 = A := by
  unfold Iter FUEL
  rw [← h0, show (18446744073709551616 : Nat) = n + ((18446744073709551615 - n) + 1) by omega, iterN_steps n _ st step, iterN_out _ fin]
theorem iter_end {B : σ → Option (σ ⊕ ρ)} {s : σ} {r : ρ} (h : B s = some (.inr r)) : Iter B s = some r := iter_run 0 (fun _ => s) rfl (by omega) (fun i h => by omega) h
theorem iter_map {B : σ → Option (σ ⊕ ρ)} {s : σ} {A : Option ρ} (h : B s = A.map .inr) : Iter B s = A := iter_run 0 (fun _ => s) rfl (by omega) (fun i h => by omega) h
theorem first_or (n : Nat) (q : Nat → Bool) : (∃ i, i < n ∧ q i = true ∧ ∀ k, k < i → q k = false) ∨ ∀ k, k < n → q k = false := by
  induction n with
  | zero => exact .inr (fun k h => by omega)
  | succ n ih =>
    rcases ih with ⟨i, h1, h2, h3⟩ | h
    · exact .inl ⟨i, by omega, h2, h3⟩
    · cases hq : q n with
      | true => exact .inl ⟨n, by omega, hq, h⟩
      | false =>
        refine .inr (fun k hk => ?_)
        by_cases e : k = n
        · subst e; exact hq
        · exact h k (by omega)
end
theorem take_succ_of {τ : Type} (l : List τ) (i : Nat) (h : i < l.length) : l.take (i + 1) = l.take i ++ [l[i]] := by
  rw [List.take_add_one, List.getElem?_eq_getElem h]; rfl
end Go.Cb
set_option linter.unusedVariables false
namespace Go.Cb
open Go.Eng Go.RowKit
universe u
def W {α : Type} (m : Option α) (Q : α → Prop) : Prop := ∃ r, m = some r ∧ Q r
section
variable {α β σ ρ τ : Type}
theorem W.some {a : α} {Q : α → Prop} (h : Q a) : W (some a) Q := ⟨a, rfl, h⟩
theorem W.mono {m : Option α} {Q Q' : α → Prop} (h : W m Q) (hq : ∀ r, m = Option.some r → Q r → Q' r) : W m Q' := by
  obtain ⟨r, h1, h2⟩ := h
  exact ⟨r, h1, hq r h1 h2⟩
theorem W.bind {m : Option α} {f : α → Option β} {Q : β → Prop} (h : W m (fun x => W (f x) Q)) : W (m.bind f) Q := by
  obtain ⟨r, h1, s, h2, h3⟩ := h
  subst h1
  exact ⟨s, h2, h3⟩
theorem W.ite {c : Prop} [Decidable c] {a b : Option α} {Q : α → Prop} (ha : c → W a Q) (hb : ¬ c → W b Q) : W (if c then a else b) Q := by
  split
  · exact ha ‹_›
  · exact hb ‹_›
theorem W.row {G : Nat → τ → Prop} {n : Nat} {xs : List τ} {i : Int} {Q : τ → Prop} (hg : gList G n xs) (h0 : 0 ≤ i) (hl : i < (xs.length : Int)) (h : ∀ x, xs[i.toNat]? = Option.some x → G n x → Q x) : W (getI xs i) Q := by
  have hi : i.toNat < xs.length := by omega
  refine ⟨xs[i.toNat], ?_, h _ (List.getElem?_eq_getElem hi) (hg.2 _ (List.getElem_mem hi))⟩
  unfold getI
  rw [if_pos h0]
  exact List.getElem?_eq_getElem hi
theorem iterN_w {step : σ → Option (σ ⊕ ρ)} (Inv : σ → Prop) (μ : σ → Nat) {Q : ρ → Prop} (h : ∀ s, Inv s → W (step s) (fun x => match x with | .inl s' => Inv s' ∧ μ s' < μ s | .inr r => Q r)) :
    ∀ (n : Nat) (s : σ), Inv s → μ s < n → W (iterN step n s) Q
  | 0, s, _, hm => by omega
  | n + 1, s, hs, hm => by
    obtain ⟨r, h1, h2⟩ := h s hs
    unfold iterN
    rw [h1]
    cases r with
    | inl s' => exact iterN_w Inv μ h n s' h2.1 (Nat.lt_of_lt_of_le h2.2 (Nat.le_of_lt_succ hm))
    | inr r => exact ⟨r, rfl, h2⟩
theorem W.iter {step : σ → Option (σ ⊕ ρ)} (Inv : σ → Prop) (μ : σ → Nat) {s : σ} {Q : ρ → Prop} (h0 : Inv s) (hm : μ s < 18446744073709551616) (h : ∀ s, Inv s → W (step s) (fun x => match x with | .inl s' => Inv s' ∧ μ s' < μ s | .inr r => Q r)) : W (Iter step s) Q :=
  iterN_w Inv μ h FUEL s h0 hm
theorem W.map {m : Option α} {f : α → β} {Q : β → Prop} (h : W m (fun x => Q (f x))) : W (m.map f) Q := by
  obtain ⟨r, h1, h2⟩ := h
  subst h1
  exact ⟨f r, rfl, h2⟩
theorem W.need {c : Prop} [Decidable c] {a : Option α} {Q : α → Prop} (hc : c) (ha : W a Q) : W (if c then a else none) Q := by
  rw [if_pos hc]; exact ha
theorem W.guard [Inhabited α] {c : Prop} [Decidable c] {a : Option α} {Q : α → Prop} (ha : c → W a (fun _ => True)) (h : ∀ x, Q x) : W (if c then a else Option.some default) Q := by
  split
  · obtain ⟨r, h1, _⟩ := ha ‹_›
    exact ⟨r, h1, h r⟩
  · exact ⟨_, rfl, h _⟩
theorem W.row0 {xs : List τ} {i : Int} {Q : τ → Prop} (h0 : 0 ≤ i) (hl : i < (xs.length : Int)) (h : ∀ x, xs[i.toNat]? = Option.some x → Q x) : W (getI xs i) Q := by
  have hi : i.toNat < xs.length := by omega
  refine ⟨xs[i.toNat], ?_, h _ (List.getElem?_eq_getElem hi)⟩
  unfold getI
  rw [if_pos h0]
  exact List.getElem?_eq_getElem hi
theorem W.idx0 {xs : List τ} {i : Int} {Q : τ → Prop} (h0 : 0 ≤ i) (hl : i < (xs.length : Int)) (h : ∀ x, xs[i.toNat]? = Option.some x → Q x) : W (xs[(i : Int).toNat]?) Q := by
  have hi : i.toNat < xs.length := by omega
  exact ⟨xs[i.toNat], List.getElem?_eq_getElem hi, h _ (List.getElem?_eq_getElem hi)⟩
theorem W.idxG {G : Nat → τ → Prop} {n : Nat} {xs : List τ} {i : Int} {Q : τ → Prop} (hg : gList G n xs) (h0 : 0 ≤ i) (hl : i < (xs.length : Int)) (h : ∀ x, xs[i.toNat]? = Option.some x → G n x → Q x) : W (xs[(i : Int).toNat]?) Q :=
  W.idx0 h0 hl (fun x hx => h x hx (hg.2 x (List.mem_of_getElem? hx)))
theorem W.over {step : Int → Option (Int ⊕ ρ)} (n : Nat) {Q : ρ → Prop} (hn : n ≤ 9223372036854775807) (h : ∀ s, 0 ≤ s → s ≤ (n : Int) → W (step s) (fun x => match x with | .inl s' => s < (n : Int) ∧ s' = s + 1 | .inr r => Q r)) : W (Iter step 0) Q := by
  refine W.iter (fun s => 0 ≤ s ∧ s ≤ (n : Int)) (fun s => n - s.toNat) ⟨by omega, by omega⟩ (by omega) (fun s hs => ?_)
  refine (h s hs.1 hs.2).mono (fun r _ hr => ?_)
  cases r with
  | inl s' =>
    obtain ⟨h1, h2⟩ := hr
    have := hs.1
    exact ⟨⟨by omega, by omega⟩, by omega⟩
  | inr r => exact hr
theorem W.from {step : Int → Option (Int ⊕ ρ)} (n : Nat) {k : Int} {Q : ρ → Prop} (hn : n ≤ 9223372036854775807) (hk : 0 ≤ k) (h : ∀ s, 0 ≤ s → k ≤ s → W (step s) (fun x => match x with | .inl s' => s < (n : Int) ∧ s' = s + 1 | .inr r => Q r)) : W (Iter step k) Q := by
  refine W.iter (fun s => k ≤ s) (fun s => n - s.toNat) (Int.le_refl k) (by omega) (fun s hs => ?_)
  refine (h s (Int.le_trans hk hs) hs).mono (fun r _ hr => ?_)
  cases r with
  | inl s' =>
    obtain ⟨h1, h2⟩ := hr
    have h3 : k ≤ s := hs
    exact ⟨show k ≤ s' by omega, show n - s'.toNat < n - s.toNat by omega⟩
  | inr r => exact hr
theorem W.overT (ix : σ → Int) {step : σ → Option (σ ⊕ ρ)} (n : Nat) {k : σ} {Q : ρ → Prop} (hn : n ≤ 9223372036854775807) (hk : 0 ≤ ix k) (h : ∀ s, 0 ≤ ix s → W (step s) (fun x => match x with | .inl s' => ix s < (n : Int) ∧ ix s' = ix s + 1 | .inr r => Q r)) : W (Iter step k) Q := by
  refine W.iter (fun s => 0 ≤ ix s) (fun s => n - (ix s).toNat) hk (by omega) (fun s hs => ?_)
  refine (h s hs).mono (fun r _ hr => ?_)
  cases r with
  | inl s' =>
    obtain ⟨h1, h2⟩ := hr
    have h3 : 0 ≤ ix s := hs
    exact ⟨show 0 ≤ ix s' by omega, show n - (ix s').toNat < n - (ix s).toNat by omega⟩
  | inr r => exact hr
def gAny {τ : Type} (n : Nat) (x : τ) : Prop := True
theorem good_nil {G : Nat → τ → Prop} {n : Nat} (_u : Unit) : gList G n ([] : List τ) := ⟨Nat.zero_le _, fun y h => by cases h⟩
theorem good_subl {G : Nat → τ → Prop} {n : Nat} {xs : List τ} {i j : Int} (h : gList G n xs) : gList G n (subl xs i j) := by
  unfold subl
  refine ⟨Nat.le_trans (by simp; omega) h.1, fun y hy => h.2 y ?_⟩
  exact List.mem_of_mem_take (List.mem_of_mem_drop hy)
theorem good_any {G : Nat → τ → Prop} {n : Nat} {xs : List τ} (h : gList G n xs) : gList gAny n xs := ⟨h.1, fun _ _ => trivial⟩
theorem gstr_empty {n : Nat} : gStr n (bs []) := ⟨Nat.zero_le _, Nat.zero_le _⟩
theorem gstr_bs {n : Nat} {l : List UInt8} (h : l.length ≤ 1024) (hN : 1024 ≤ n ∧ n ≤ 4398046511104) : gStr n (bs l) := ⟨Nat.le_trans (show (bs l).size ≤ 1024 from h) hN.1, Nat.le_trans (show (bs l).size ≤ 1024 from h) (by decide)⟩
theorem good_pre {G : Nat → τ → Prop} {n : Nat} {xs : List τ} (h : gList G n xs) : gList G n ([] ++ xs) := h
theorem gint_zero {n : Nat} : gInt .i64 n 0 := rfl
theorem gintu_zero {n : Nat} : gInt .u64 n 0 := rfl
theorem glist_nil {G : Nat → τ → Prop} {n : Nat} : gList G n ([] : List τ) := ⟨Nat.zero_le _, fun y h => by cases h⟩
theorem loop_len (b : ByteArray) : ∀ (k i : Nat) (r : List UInt8), b.size - i = k → (ByteArray.toList.loop b i r).length = r.length + k
  | 0, i, r, h => by
    unfold ByteArray.toList.loop
    rw [if_neg (by omega)]
    simp
  | k + 1, i, r, h => by
    unfold ByteArray.toList.loop
    rw [if_pos (by omega), loop_len b k (i + 1) _ (by omega)]
    simp
    omega
theorem toList_len (b : ByteArray) : b.toList.length = b.size := by
  unfold ByteArray.toList
  rw [loop_len b b.size 0 [] (by omega)]
  simp
theorem empty_iff (s : ByteArray) : (s.toList == (bs []).toList) = decide ((s.size : Int) < 1) := by
  have h1 : (bs []).toList = [] := List.eq_nil_of_length_eq_zero (toList_len _)
  have h2 := toList_len s
  rw [h1]
  cases h : s.toList with
  | nil => rw [h] at h2; simp at h2; simp [← h2]
  | cons a r =>
    rw [h] at h2
    simp at h2
    have : ¬ ((s.size : Int) < 1) := by omega
    simp [this]
theorem wrap_succ {s : Int} {n : Nat} (hn : n ≤ 9223372036854775807) (h0 : 0 ≤ s) (h : s < (n : Int)) : IntKind.wrap .i64 (s + 1) = s + 1 :=
  w64_in (by omega) (by omega)
end
end Go.Cb
