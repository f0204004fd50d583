/- The types of the program that the functions name. Conditions: none. -/
import Derived.Test.YtkiolflkkbfaiaaDoorCbTypes
import Derived.Test.YtkiolflkkbfaiaaDoorProg
import Derived.KernelRfl
set_option linter.unusedVariables false
set_option linter.unusedSimpArgs false
namespace Go.Cb
open Go.Eng Go.RowKit
open Go.Proofs
noncomputable def gt : Nat → Option (List D) := fun _ => none
def tis : List (Nat × TI) := [(3, { kind := .int .i64, size := 1, bytes := 8, zero := [.val (.int .i64 0)], eqok := false }),
  (4, { kind := .bool, size := 1, bytes := 1, zero := [.val (.bool false)], eqok := false }),
  (9, { kind := .str, size := 1, bytes := 16, zero := [.val (.str (bs []))], eqok := false }),
  (22, { kind := .slice 29, size := 1, bytes := 24, zero := [.nils], eqok := false }),
  (23, { kind := .slice 38, size := 1, bytes := 24, zero := [.nils], eqok := false }),
  (24, { kind := .array 2 3, size := 2, bytes := 16, zero := [.val (.int .i64 0), .val (.int .i64 0)], eqok := false }),
  (26, { kind := .slice 61, size := 1, bytes := 24, zero := [.nils], eqok := false }),
  (27, { kind := .int .u64, size := 1, bytes := 8, zero := [.val (.int .u64 0)], eqok := false }),
  (29, { kind := .struct [(3, 0, 1), (3, 1, 1), (3, 2, 1), (3, 3, 1), (3, 4, 1), (3, 5, 1), (9, 6, 1), (9, 7, 1), (26, 8, 1), (27, 9, 1)], size := 10, bytes := 112, zero := [.val (.int .i64 0), .val (.int .i64 0), .val (.int .i64 0), .val (.int .i64 0), .val (.int .i64 0), .val (.int .i64 0), .val (.str (bs [])), .val (.str (bs [])), .nils, .val (.int .u64 0)], eqok := true }),
  (30, { kind := .slice 3, size := 1, bytes := 24, zero := [.nils], eqok := false }),
  (36, { kind := .struct [(3, 0, 1), (27, 1, 1)], size := 2, bytes := 16, zero := [.val (.int .i64 0), .val (.int .u64 0)], eqok := true }),
  (38, { kind := .struct [(3, 0, 1), (3, 1, 1), (3, 2, 1), (3, 3, 1), (3, 4, 1), (3, 5, 1), (3, 6, 1), (36, 7, 2), (36, 9, 2)], size := 11, bytes := 88, zero := [.val (.int .i64 0), .val (.int .i64 0), .val (.int .i64 0), .val (.int .i64 0), .val (.int .i64 0), .val (.int .i64 0), .val (.int .i64 0), .val (.int .i64 0), .val (.int .u64 0), .val (.int .i64 0), .val (.int .u64 0)], eqok := true }),
  (40, { kind := .slice 174, size := 1, bytes := 24, zero := [.nils], eqok := false }),
  (41, { kind := .slice 176, size := 1, bytes := 24, zero := [.nils], eqok := false }),
  (42, { kind := .slice 178, size := 1, bytes := 24, zero := [.nils], eqok := false }),
  (44, { kind := .struct [(3, 0, 1), (3, 1, 1), (3, 2, 1), (3, 3, 1), (3, 4, 1), (3, 5, 1), (3, 6, 1), (3, 7, 1), (3, 8, 1), (3, 9, 1), (3, 10, 1), (3, 11, 1), (3, 12, 1), (3, 13, 1)], size := 14, bytes := 112, zero := [.val (.int .i64 0), .val (.int .i64 0), .val (.int .i64 0), .val (.int .i64 0), .val (.int .i64 0), .val (.int .i64 0), .val (.int .i64 0), .val (.int .i64 0), .val (.int .i64 0), .val (.int .i64 0), .val (.int .i64 0), .val (.int .i64 0), .val (.int .i64 0), .val (.int .i64 0)], eqok := true }),
  (45, { kind := .slice 80, size := 1, bytes := 24, zero := [.nils], eqok := false }),
  (46, { kind := .slice 55, size := 1, bytes := 24, zero := [.nils], eqok := false }),
  (47, { kind := .slice 180, size := 1, bytes := 24, zero := [.nils], eqok := false }),
  (48, { kind := .slice 182, size := 1, bytes := 24, zero := [.nils], eqok := false }),
  (50, { kind := .struct [(40, 0, 1), (41, 1, 1), (42, 2, 1), (44, 3, 14), (45, 17, 1), (46, 18, 1), (22, 19, 1), (47, 20, 1), (48, 21, 1)], size := 22, bytes := 304, zero := [.nils, .nils, .nils, .val (.int .i64 0), .val (.int .i64 0), .val (.int .i64 0), .val (.int .i64 0), .val (.int .i64 0), .val (.int .i64 0), .val (.int .i64 0), .val (.int .i64 0), .val (.int .i64 0), .val (.int .i64 0), .val (.int .i64 0), .val (.int .i64 0), .val (.int .i64 0), .val (.int .i64 0), .nils, .nils, .nils, .nils, .nils], eqok := true }),
  (55, { kind := .struct [(3, 0, 1), (3, 1, 1), (3, 2, 1), (3, 3, 1), (9, 4, 1), (9, 5, 1), (9, 6, 1)], size := 7, bytes := 80, zero := [.val (.int .i64 0), .val (.int .i64 0), .val (.int .i64 0), .val (.int .i64 0), .val (.str (bs [])), .val (.str (bs [])), .val (.str (bs []))], eqok := true }),
  (61, { kind := .struct [(3, 0, 1), (3, 1, 1), (9, 2, 1)], size := 3, bytes := 32, zero := [.val (.int .i64 0), .val (.int .i64 0), .val (.str (bs []))], eqok := true }),
  (74, { kind := .slice 141, size := 1, bytes := 24, zero := [.nils], eqok := false }),
  (76, { kind := .struct [(74, 0, 1), (4, 1, 1), (3, 2, 1), (3, 3, 1), (4, 4, 1)], size := 5, bytes := 56, zero := [.nils, .val (.bool false), .val (.int .i64 0), .val (.int .i64 0), .val (.bool false)], eqok := true }),
  (77, { kind := .slice 187, size := 1, bytes := 24, zero := [.nils], eqok := false }),
  (78, { kind := .slice 189, size := 1, bytes := 24, zero := [.nils], eqok := false }),
  (80, { kind := .struct [(9, 0, 1), (9, 1, 1), (9, 2, 1), (3, 3, 1), (3, 4, 1), (3, 5, 1), (3, 6, 1), (76, 7, 5), (76, 12, 5), (77, 17, 1), (78, 18, 1)], size := 19, bytes := 240, zero := [.val (.str (bs [])), .val (.str (bs [])), .val (.str (bs [])), .val (.int .i64 0), .val (.int .i64 0), .val (.int .i64 0), .val (.int .i64 0), .nils, .val (.bool false), .val (.int .i64 0), .val (.int .i64 0), .val (.bool false), .nils, .val (.bool false), .val (.int .i64 0), .val (.int .i64 0), .val (.bool false), .nils, .nils], eqok := true }),
  (141, { kind := .struct [(3, 0, 1), (3, 1, 1)], size := 2, bytes := 16, zero := [.val (.int .i64 0), .val (.int .i64 0)], eqok := true }),
  (174, { kind := .struct [(9, 0, 1), (3, 1, 1)], size := 2, bytes := 24, zero := [.val (.str (bs [])), .val (.int .i64 0)], eqok := true }),
  (176, { kind := .struct [(9, 0, 1), (30, 1, 1), (30, 2, 1)], size := 3, bytes := 64, zero := [.val (.str (bs [])), .nils, .nils], eqok := true }),
  (178, { kind := .struct [(3, 0, 1), (3, 1, 1), (3, 2, 1), (9, 3, 1)], size := 4, bytes := 40, zero := [.val (.int .i64 0), .val (.int .i64 0), .val (.int .i64 0), .val (.str (bs []))], eqok := true }),
  (180, { kind := .struct [(3, 0, 1), (3, 1, 1), (3, 2, 1), (3, 3, 1), (3, 4, 1), (9, 5, 1)], size := 6, bytes := 56, zero := [.val (.int .i64 0), .val (.int .i64 0), .val (.int .i64 0), .val (.int .i64 0), .val (.int .i64 0), .val (.str (bs []))], eqok := true }),
  (182, { kind := .struct [(3, 0, 1), (3, 1, 1), (3, 2, 1), (3, 3, 1), (3, 4, 1), (3, 5, 1), (9, 6, 1)], size := 7, bytes := 64, zero := [.val (.int .i64 0), .val (.int .i64 0), .val (.int .i64 0), .val (.int .i64 0), .val (.int .i64 0), .val (.int .i64 0), .val (.str (bs []))], eqok := true }),
  (183, { kind := .slice 185, size := 1, bytes := 24, zero := [.nils], eqok := false }),
  (185, { kind := .struct [(3, 0, 1), (3, 1, 1), (9, 2, 1), (183, 3, 1)], size := 4, bytes := 56, zero := [.val (.int .i64 0), .val (.int .i64 0), .val (.str (bs [])), .nils], eqok := true }),
  (187, { kind := .struct [(9, 0, 1), (3, 1, 1), (185, 2, 4), (185, 6, 4)], size := 10, bytes := 136, zero := [.val (.str (bs [])), .val (.int .i64 0), .val (.int .i64 0), .val (.int .i64 0), .val (.str (bs [])), .nils, .val (.int .i64 0), .val (.int .i64 0), .val (.str (bs [])), .nils], eqok := true }),
  (189, { kind := .struct [(9, 0, 1), (3, 1, 1), (185, 2, 4)], size := 6, bytes := 80, zero := [.val (.str (bs [])), .val (.int .i64 0), .val (.int .i64 0), .val (.int .i64 0), .val (.str (bs [])), .nils], eqok := true })]
theorem tis_ok : AllTi Tryd.prog tis := ⟨by kernel_rfl, by kernel_rfl, by kernel_rfl, by kernel_rfl, by kernel_rfl, by kernel_rfl, by kernel_rfl, by kernel_rfl, by kernel_rfl, by kernel_rfl, by kernel_rfl, by kernel_rfl, by kernel_rfl, by kernel_rfl, by kernel_rfl, by kernel_rfl, by kernel_rfl, by kernel_rfl, by kernel_rfl, by kernel_rfl, by kernel_rfl, by kernel_rfl, by kernel_rfl, by kernel_rfl, by kernel_rfl, by kernel_rfl, by kernel_rfl, by kernel_rfl, by kernel_rfl, by kernel_rfl, by kernel_rfl, by kernel_rfl, by kernel_rfl, by kernel_rfl, by kernel_rfl, by kernel_rfl, by kernel_rfl, by kernel_rfl, trivial⟩
noncomputable def cx (n : Nat) (rvs : List ResultVar) : Cx := ⟨Tryd.prog, gt, lookT tis, n, rvs⟩
theorem globOK {l : List (String × DataW Unit)} {W : World} (hL : laidMetH Tryd.prog l W) : GlobOK gt W (fun b => b < W.heap.size) := fun g cs h => by cases h
theorem c_ok {n : Nat} {rvs : List ResultVar} : (cx n rvs).OK := ⟨by kernel_rfl, lookT_ok tis_ok⟩
end Go.Cb
