/- Parts of a proof, merged: The functions have answers. · The program's functions and the document's: the same plain functions. · Civil dates: the program's and the document's. · 128 bit numbers: the program's and the document's compute the same. · 128 bit numbers: what the program computes. · 128 bit numbers: what the document computes. · 128 bit numbers: what the document computes, part 2; and that it is what the program computes. · The division of two words by one: the program's library computes quotient and remainder. · The division of two words by one, and of 128 bit numbers: the program's and the document's. Conditions: none. -/
import Derived.Test.YtkiolflkkbfaiaaGreatDoorPk2
import Derived.Test.YtkiolflkkbfaiaaGreatDoorPk4
import Derived.KernelRfl
import Derived.Lib.Mul64
set_option linter.unusedVariables false
set_option linter.unusedSimpArgs false
namespace Go.Cb
open Go.Eng Go.RowKit
def ApiCurrency.sz (n : Nat) (x : ApiCurrency) : Prop := gStr n x.Code
def ApiCalendar.sz (n : Nat) (x : ApiCalendar) : Prop := gStr n x.Name ∧ (gList gAny) n x.Weekend ∧ (gList gAny) n x.Holidays
def ApiGl.sz (n : Nat) (x : ApiGl) : Prop := gStr n x.Name
def ApiInterest.sz (n : Nat) (x : ApiInterest) : Prop := (gList gAny) n x.Tiers
inductive ApiExpr.sz (n : Nat) : ApiExpr → Prop where
 | mk {x : ApiExpr} : gStr n x.S → (x.Args.length ≤ n) → (∀ y ∈ x.Args, ApiExpr.sz n y) → ApiExpr.sz n x
theorem sz_ApiExpr {n : Nat} {x : ApiExpr} (h : ApiExpr.sz n x) : gStr n x.S ∧ (gList ApiExpr.sz) n x.Args := by
 cases h with
 | mk h_S h_Args k_Args => exact ⟨h_S, ⟨h_Args, k_Args⟩⟩
def ApiFee.sz (n : Nat) (x : ApiFee) : Prop := gStr n x.Name ∧ ApiExpr.sz n x.When ∧ ApiExpr.sz n x.Amount
def ApiRule.sz (n : Nat) (x : ApiRule) : Prop := gStr n x.Name ∧ ApiExpr.sz n x.Amount
def ApiProduct.sz (n : Nat) (x : ApiProduct) : Prop := gStr n x.Name ∧ gStr n x.Currency ∧ gStr n x.Calendar ∧ ApiInterest.sz n x.Credit ∧ ApiInterest.sz n x.Debit ∧ (gList ApiFee.sz) n x.Fees ∧ (gList ApiRule.sz) n x.Rules
def ApiAccount.sz (n : Nat) (x : ApiAccount) : Prop := gStr n x.Owner ∧ gStr n x.Product ∧ gStr n x.Number
def ApiLeg.sz (n : Nat) (x : ApiLeg) : Prop := gStr n x.Currency
def ApiEntry.sz (n : Nat) (x : ApiEntry) : Prop := gStr n x.Key ∧ gStr n x.Text ∧ (gList ApiLeg.sz) n x.Legs
def ApiHold.sz (n : Nat) (x : ApiHold) : Prop := gStr n x.Key
def ApiBlock.sz (n : Nat) (x : ApiBlock) : Prop := gStr n x.Source
def ApiBooks.sz (n : Nat) (x : ApiBooks) : Prop := (gList ApiCurrency.sz) n x.Currencies ∧ (gList ApiCalendar.sz) n x.Calendars ∧ (gList ApiGl.sz) n x.Chart ∧ (gList ApiProduct.sz) n x.Products ∧ (gList ApiAccount.sz) n x.Accounts ∧ (gList ApiEntry.sz) n x.Journal ∧ (gList ApiHold.sz) n x.Holds ∧ (gList ApiBlock.sz) n x.Blocks
def ApiVar.sz (n : Nat) (x : ApiVar) : Prop := gStr n x.Name
def ApiMoney.sz (n : Nat) (x : ApiMoney) : Prop := gStr n x.Currency
theorem w_l30_Few {N : Nat} (hN : 1024 ≤ N ∧ N ≤ 4398046511104) {b : ApiBooks} {l : List ApiPeriod} (g_b : ApiBooks.sz N b) (g_l : (gList gAny) N l) : W (l30_Few b l) (fun r => True) := by
 delta l30_Few
 refine W.ite (fun h_1 => ?_) (fun h_1 => ?_)
 ·exact W.some trivial
 ·try simp [empty_iff] at h_1
  have n_2 : b.Journal.length ≤ 9223372036854775807 := (Nat.le_trans (g_b.2.2.2.2.2.1).1 (Nat.le_trans hN.2 (by decide)))
  refine W.over (b.Journal.length) n_2 (fun s h0_s hn_s => ?_)
  delta l30_Few_l1
  refine W.ite (fun h_3 => ?_) (fun h_3 => ?_)
  ·try simp [empty_iff] at h_3
   refine W.bind ?_
   refine W.row (G := ApiEntry.sz) (g_b.2.2.2.2.2.1) (by first | omega | (rw [w64_in] <;> omega)) (by first | omega | (rw [w64_in] <;> omega)) (fun journal hx_journal g_journal => ?_)
   refine W.ite (fun h_4 => ?_) (fun h_4 => ?_)
   ·exact W.some trivial
   ·try simp [empty_iff] at h_4
    exact W.some ⟨by omega, wrap_succ n_2 h0_s (by omega)⟩
  ·exact W.some trivial
theorem w_q24_Find {N : Nat} (hN : 1024 ≤ N ∧ N ≤ 4398046511104) {b : ApiBooks} {id : Int} (g_b : ApiBooks.sz N b) : W (q24_Find b id) (fun r => (ApiAccount.sz N r.1 ∧ True)) := by
 delta q24_Find
 have n_1 : b.Accounts.length ≤ 9223372036854775807 := (Nat.le_trans (g_b.2.2.2.2.1).1 (Nat.le_trans hN.2 (by decide)))
 refine W.over (b.Accounts.length) n_1 (fun s h0_s hn_s => ?_)
 delta q24_Find_l1
 refine W.ite (fun h_2 => ?_) (fun h_2 => ?_)
 ·try simp [empty_iff] at h_2
  refine W.bind ?_
  refine W.row (G := ApiAccount.sz) (g_b.2.2.2.2.1) (by first | omega | (rw [w64_in] <;> omega)) (by first | omega | (rw [w64_in] <;> omega)) (fun account hx_account g_account => ?_)
  refine W.ite (fun h_3 => ?_) (fun h_3 => ?_)
  ·try simp [empty_iff] at h_3
   refine W.bind ?_
   refine W.row (G := ApiAccount.sz) (g_b.2.2.2.2.1) (by first | omega | (rw [w64_in] <;> omega)) (by first | omega | (rw [w64_in] <;> omega)) (fun account1 hx_account1 g_account1 => ?_)
   exact W.some ⟨(g_account1), trivial⟩
  ·try simp [empty_iff] at h_3
   exact W.some ⟨by omega, wrap_succ n_1 h0_s (by omega)⟩
 ·exact W.some ⟨⟨(gstr_bs (by decide) hN), (gstr_bs (by decide) hN), (gstr_bs (by decide) hN)⟩, trivial⟩
theorem w_l30_near {N : Nat} (hN : 1024 ≤ N ∧ N ≤ 4398046511104) {b : ApiBooks} {l : List ApiPeriod} {id : Int} (g_b : ApiBooks.sz N b) (g_l : (gList gAny) N l) : W (l30_near b l id) (fun r => True) := by
 delta l30_near
 refine W.bind ?_
 refine (w_q24_Find hN (g_b)).mono (fun r _ g_r => ?_)
 have n_1 : l.length ≤ 9223372036854775807 := (Nat.le_trans (g_l).1 (Nat.le_trans hN.2 (by decide)))
 refine W.overT (fun s => s.2) (l.length) n_1 (by simp) (fun s h0_s => ?_)
 have h0_s : 0 ≤ s.2 := h0_s
 delta l30_near_l1
 refine W.ite (fun h_2 => ?_) (fun h_2 => ?_)
 ·try simp [empty_iff] at h_2
  refine W.bind ?_
  refine W.row0 (by first | omega | (rw [w64_in] <;> omega)) (by first | omega | (rw [w64_in] <;> omega) | (simp; omega)) (fun li hx_li => ?_)
  refine W.ite (fun h_3 => ?_) (fun h_3 => ?_)
  ·try simp [empty_iff] at h_3
   delta l30_near_j0
   exact W.some ⟨show s.2 < _ by omega, wrap_succ n_1 h0_s (by omega)⟩
  ·try simp [empty_iff] at h_3
   refine W.bind ?_
   refine W.row0 (by first | omega | (rw [w64_in] <;> omega)) (by first | omega | (rw [w64_in] <;> omega) | (simp; omega)) (fun li2 hx_li2 => ?_)
   refine W.bind ?_
   refine W.guard (fun h_4 => ?_) (fun li3 => ?_)
   ·try simp [empty_iff] at h_4
    refine W.row0 (by first | omega | (rw [w64_in] <;> omega)) (by first | omega | (rw [w64_in] <;> omega) | (simp; omega)) (fun li3 hx_li3 => ?_)
    exact trivial
   refine W.bind ?_
   refine W.guard (fun h_5 => ?_) (fun li4 => ?_)
   ·try simp [empty_iff] at h_5
    refine W.row0 (by first | omega | (rw [w64_in] <;> omega)) (by first | omega | (rw [w64_in] <;> omega) | (simp; omega)) (fun li4 hx_li4 => ?_)
    exact trivial
   refine W.ite (fun h_6 => ?_) (fun h_6 => ?_)
   ·exact W.some trivial
   ·try simp [empty_iff] at h_6
    refine W.bind ?_
    refine W.row0 (by first | omega | (rw [w64_in] <;> omega)) (by first | omega | (rw [w64_in] <;> omega) | (simp; omega)) (fun li5 hx_li5 => ?_)
    delta l30_near_j0
    exact W.some ⟨show s.2 < _ by omega, wrap_succ n_1 h0_s (by omega)⟩
 ·exact W.some trivial
theorem w_q03_Code {N : Nat} (hN : 1024 ≤ N ∧ N ≤ 4398046511104) {s : ByteArray} (g_s : gStr N s) : W (q03_Code s) (fun r => True) := by
 delta q03_Code
 refine W.ite (fun h_1 => ?_) (fun h_1 => ?_)
 ·exact W.some trivial
 ·try simp [empty_iff] at h_1
  have n_2 : 3 ≤ 9223372036854775807 := (by omega)
  refine W.over (3) n_2 (fun s1 h0_s1 hn_s1 => ?_)
  delta q03_Code_l1
  refine W.ite (fun h_3 => ?_) (fun h_3 => ?_)
  ·try simp [empty_iff] at h_3
   refine W.need (by have a1 := (g_s).1; first | omega | (intro hc; (try simp [empty_iff] at hc); omega) | (intro hc; simp only [empty_iff] at hc; simp at hc; omega) | (simp only [List.length_nil, List.length_append, List.length_cons, subl, List.length_drop, List.length_take, List.length_map]; omega)) ?_
   refine W.need (by have a1 := (g_s).1; first | omega | (intro hc; (try simp [empty_iff] at hc); omega) | (intro hc; simp only [empty_iff] at hc; simp at hc; omega) | (simp only [List.length_nil, List.length_append, List.length_cons, subl, List.length_drop, List.length_take, List.length_map]; omega)) ?_
   refine W.ite (fun h_4 => ?_) (fun h_4 => ?_)
   ·exact W.some trivial
   ·try simp [empty_iff] at h_4
    exact W.some ⟨by omega, wrap_succ n_2 h0_s1 (by omega)⟩
  ·exact W.some trivial
theorem w_q03_Check {N : Nat} (hN : 1024 ≤ N ∧ N ≤ 4398046511104) {l : List ApiCurrency} (g_l : (gList ApiCurrency.sz) N l) : W (q03_Check l) (fun r => True) := by
 delta q03_Check
 refine W.ite (fun h_1 => ?_) (fun h_1 => ?_)
 ·exact W.some trivial
 ·try simp [empty_iff] at h_1
  have n_2 : l.length ≤ 9223372036854775807 := (Nat.le_trans (g_l).1 (Nat.le_trans hN.2 (by decide)))
  refine W.over (l.length) n_2 (fun s h0_s hn_s => ?_)
  delta q03_Check_l1
  refine W.ite (fun h_3 => ?_) (fun h_3 => ?_)
  ·try simp [empty_iff] at h_3
   refine W.bind ?_
   refine W.row (G := ApiCurrency.sz) (g_l) (by first | omega | (rw [w64_in] <;> omega)) (by first | omega | (rw [w64_in] <;> omega)) (fun li hx_li g_li => ?_)
   refine W.bind ?_
   refine (w_q03_Code hN (g_li)).mono (fun r _ g_r => ?_)
   refine W.ite (fun h_4 => ?_) (fun h_4 => ?_)
   ·exact W.some trivial
   ·try simp [empty_iff] at h_4
    refine W.bind ?_
    refine W.row (G := ApiCurrency.sz) (g_l) (by first | omega | (rw [w64_in] <;> omega)) (by first | omega | (rw [w64_in] <;> omega)) (fun li1 hx_li1 g_li1 => ?_)
    refine W.bind ?_
    refine W.guard (fun h_5 => ?_) (fun li2 => ?_)
    ·try simp [empty_iff] at h_5
     refine W.row (G := ApiCurrency.sz) (g_l) (by first | omega | (rw [w64_in] <;> omega)) (by first | omega | (rw [w64_in] <;> omega)) (fun li2 hx_li2 g_li2 => ?_)
     exact trivial
    refine W.ite (fun h_6 => ?_) (fun h_6 => ?_)
    ·exact W.some trivial
    ·try simp [empty_iff] at h_6
     refine W.bind ?_
     refine W.guard (fun h_7 => ?_) (fun li3 => ?_)
     ·try simp [empty_iff] at h_7
      refine W.row (G := ApiCurrency.sz) (g_l) (by first | omega | (rw [w64_in] <;> omega)) (by first | omega | (rw [w64_in] <;> omega)) (fun li3 hx_li3 g_li3 => ?_)
      exact trivial
     refine W.bind ?_
     refine W.guard (fun h_8 => ?_) (fun li4 => ?_)
     ·try simp [empty_iff] at h_8
      refine W.row (G := ApiCurrency.sz) (g_l) (by first | omega | (rw [w64_in] <;> omega)) (by first | omega | (rw [w64_in] <;> omega)) (fun li4 hx_li4 g_li4 => ?_)
      exact trivial
     refine W.ite (fun h_9 => ?_) (fun h_9 => ?_)
     ·exact W.some trivial
     ·try simp [empty_iff] at h_9
      exact W.some ⟨by omega, wrap_succ n_2 h0_s (by omega)⟩
  ·exact W.some trivial
theorem w_q05_Name {N : Nat} (hN : 1024 ≤ N ∧ N ≤ 4398046511104) {s : ByteArray} (g_s : gStr N s) : W (q05_Name s) (fun r => True) := by
 delta q05_Name
 refine W.need (by have a1 := (g_s).1; first | omega | (intro hc; (try simp [empty_iff] at hc); omega) | (intro hc; simp only [empty_iff] at hc; simp at hc; omega) | (simp only [List.length_nil, List.length_append, List.length_cons, subl, List.length_drop, List.length_take, List.length_map]; omega)) ?_
 refine W.need (by have a1 := (g_s).1; first | omega | (intro hc; (try simp [empty_iff] at hc); omega) | (intro hc; simp only [empty_iff] at hc; simp at hc; omega) | (simp only [List.length_nil, List.length_append, List.length_cons, subl, List.length_drop, List.length_take, List.length_map]; omega)) ?_
 refine W.ite (fun h_1 => ?_) (fun h_1 => ?_)
 ·exact W.some trivial
 ·try simp [empty_iff] at h_1
  have n_2 : s.size ≤ 9223372036854775807 := (g_s).2
  refine W.over (s.size) n_2 (fun s1 h0_s1 hn_s1 => ?_)
  delta q05_Name_l1
  refine W.ite (fun h_3 => ?_) (fun h_3 => ?_)
  ·try simp [empty_iff] at h_3
   refine W.need (by have a1 := (g_s).1; first | omega | (intro hc; (try simp [empty_iff] at hc); omega) | (intro hc; simp only [empty_iff] at hc; simp at hc; omega) | (simp only [List.length_nil, List.length_append, List.length_cons, subl, List.length_drop, List.length_take, List.length_map]; omega)) ?_
   refine W.need (by have a1 := (g_s).1; first | omega | (intro hc; (try simp [empty_iff] at hc); omega) | (intro hc; simp only [empty_iff] at hc; simp at hc; omega) | (simp only [List.length_nil, List.length_append, List.length_cons, subl, List.length_drop, List.length_take, List.length_map]; omega)) ?_
   refine W.need (by have a1 := (g_s).1; first | omega | (intro hc; (try simp [empty_iff] at hc); omega) | (intro hc; simp only [empty_iff] at hc; simp at hc; omega) | (simp only [List.length_nil, List.length_append, List.length_cons, subl, List.length_drop, List.length_take, List.length_map]; omega)) ?_
   refine W.need (by have a1 := (g_s).1; first | omega | (intro hc; (try simp [empty_iff] at hc); omega) | (intro hc; simp only [empty_iff] at hc; simp at hc; omega) | (simp only [List.length_nil, List.length_append, List.length_cons, subl, List.length_drop, List.length_take, List.length_map]; omega)) ?_
   refine W.need (by have a1 := (g_s).1; first | omega | (intro hc; (try simp [empty_iff] at hc); omega) | (intro hc; simp only [empty_iff] at hc; simp at hc; omega) | (simp only [List.length_nil, List.length_append, List.length_cons, subl, List.length_drop, List.length_take, List.length_map]; omega)) ?_
   refine W.ite (fun h_4 => ?_) (fun h_4 => ?_)
   ·exact W.some trivial
   ·try simp [empty_iff] at h_4
    exact W.some ⟨by omega, wrap_succ n_2 h0_s1 (by omega)⟩
  ·exact W.some trivial
theorem w_q05_Rises {N : Nat} (hN : 1024 ≤ N ∧ N ≤ 4398046511104) {l : List Int} (g_l : (gList gAny) N l) : W (q05_Rises l) (fun r => True) := by
 delta q05_Rises
 have n_1 : l.length ≤ 9223372036854775807 := (Nat.le_trans (g_l).1 (Nat.le_trans hN.2 (by decide)))
 refine W.from (l.length) n_1 (by omega) (fun s h0_s _hn_s => ?_)
 delta q05_Rises_l1
 refine W.ite (fun h_2 => ?_) (fun h_2 => ?_)
 ·try simp [empty_iff] at h_2
  refine W.bind ?_
  refine W.row0 (by first | omega | (rw [w64_in] <;> omega)) (by first | omega | (rw [w64_in] <;> omega) | (simp; omega)) (fun li hx_li => ?_)
  refine W.bind ?_
  refine W.row0 (by first | omega | (rw [w64_in] <;> omega)) (by first | omega | (rw [w64_in] <;> omega) | (simp; omega)) (fun li1 hx_li1 => ?_)
  refine W.ite (fun h_3 => ?_) (fun h_3 => ?_)
  ·exact W.some trivial
  ·try simp [empty_iff] at h_3
   exact W.some ⟨by omega, wrap_succ n_1 h0_s (by omega)⟩
 ·exact W.some trivial
theorem w_q04_Valid {N : Nat} (hN : 1024 ≤ N ∧ N ≤ 4398046511104) {day : Int} : W (q04_Valid day) (fun r => True) := by
 delta q04_Valid
 exact W.some trivial
theorem w_q05_Check {N : Nat} (hN : 1024 ≤ N ∧ N ≤ 4398046511104) {c : ApiCalendar} (g_c : ApiCalendar.sz N c) : W (q05_Check c) (fun r => True) := by
 delta q05_Check
 refine W.bind ?_
 refine (w_q05_Name hN (g_c.1)).mono (fun r _ g_r => ?_)
 refine W.ite (fun h_1 => ?_) (fun h_1 => ?_)
 ·exact W.some trivial
 ·try simp [empty_iff] at h_1
  have n_2 : c.Weekend.length ≤ 9223372036854775807 := (Nat.le_trans (g_c.2.1).1 (Nat.le_trans hN.2 (by decide)))
  refine W.over (c.Weekend.length) n_2 (fun s h0_s hn_s => ?_)
  delta q05_Check_l1
  refine W.ite (fun h_3 => ?_) (fun h_3 => ?_)
  ·try simp [empty_iff] at h_3
   refine W.bind ?_
   refine W.row0 (by first | omega | (rw [w64_in] <;> omega)) (by first | omega | (rw [w64_in] <;> omega) | (simp; omega)) (fun weekend hx_weekend => ?_)
   refine W.bind ?_
   refine W.guard (fun h_4 => ?_) (fun weekend1 => ?_)
   ·try simp [empty_iff] at h_4
    refine W.row0 (by first | omega | (rw [w64_in] <;> omega)) (by first | omega | (rw [w64_in] <;> omega) | (simp; omega)) (fun weekend1 hx_weekend1 => ?_)
    exact trivial
   refine W.ite (fun h_5 => ?_) (fun h_5 => ?_)
   ·exact W.some trivial
   ·try simp [empty_iff] at h_5
    exact W.some ⟨by omega, wrap_succ n_2 h0_s (by omega)⟩
  ·try simp [empty_iff] at h_3
   refine W.map ?_
   refine W.bind ?_
   refine W.guard (fun h_4 => ?_) (fun r2 => ?_)
   ·try simp [empty_iff] at h_4
    refine (w_q05_Rises hN (good_any (g_c.2.1))).mono (fun r2 _ g_r2 => ?_)
    exact trivial
   refine W.ite (fun h_5 => ?_) (fun h_5 => ?_)
   ·exact W.some trivial
   ·try simp [empty_iff] at h_5
    refine W.ite (fun h_6 => ?_) (fun h_6 => ?_)
    ·exact W.some trivial
    ·try simp [empty_iff] at h_6
     have n_7 : c.Holidays.length ≤ 9223372036854775807 := (Nat.le_trans (g_c.2.2).1 (Nat.le_trans hN.2 (by decide)))
     refine W.over (c.Holidays.length) n_7 (fun s3 h0_s3 hn_s3 => ?_)
     delta q05_Check_l2
     refine W.ite (fun h_8 => ?_) (fun h_8 => ?_)
     ·try simp [empty_iff] at h_8
      refine W.bind ?_
      refine W.row0 (by first | omega | (rw [w64_in] <;> omega)) (by first | omega | (rw [w64_in] <;> omega) | (simp; omega)) (fun holiday hx_holiday => ?_)
      refine W.bind ?_
      refine (w_q04_Valid hN).mono (fun r4 _ g_r4 => ?_)
      refine W.ite (fun h_9 => ?_) (fun h_9 => ?_)
      ·exact W.some trivial
      ·try simp [empty_iff] at h_9
       exact W.some ⟨by omega, wrap_succ n_7 h0_s3 (by omega)⟩
     ·try simp [empty_iff] at h_8
      refine W.map ?_
      refine W.bind ?_
      refine (w_q05_Rises hN (good_any (g_c.2.2))).mono (fun r5 _ g_r5 => ?_)
      refine W.ite (fun h_9 => ?_) (fun h_9 => ?_)
      ·exact W.some trivial
      ·exact W.some trivial
theorem w_q26_calendars {N : Nat} (hN : 1024 ≤ N ∧ N ≤ 4398046511104) {l : List ApiCalendar} (g_l : (gList ApiCalendar.sz) N l) : W (q26_calendars l) (fun r => True) := by
 delta q26_calendars
 have n_1 : l.length ≤ 9223372036854775807 := (Nat.le_trans (g_l).1 (Nat.le_trans hN.2 (by decide)))
 refine W.over (l.length) n_1 (fun s h0_s hn_s => ?_)
 delta q26_calendars_l1
 refine W.ite (fun h_2 => ?_) (fun h_2 => ?_)
 ·try simp [empty_iff] at h_2
  refine W.bind ?_
  refine W.row (G := ApiCalendar.sz) (g_l) (by first | omega | (rw [w64_in] <;> omega)) (by first | omega | (rw [w64_in] <;> omega)) (fun li hx_li g_li => ?_)
  refine W.bind ?_
  refine (w_q05_Check hN (g_li)).mono (fun r _ g_r => ?_)
  refine W.ite (fun h_3 => ?_) (fun h_3 => ?_)
  ·exact W.some trivial
  ·try simp [empty_iff] at h_3
   refine W.bind ?_
   refine W.guard (fun h_4 => ?_) (fun li1 => ?_)
   ·try simp [empty_iff] at h_4
    refine W.row (G := ApiCalendar.sz) (g_l) (by first | omega | (rw [w64_in] <;> omega)) (by first | omega | (rw [w64_in] <;> omega)) (fun li1 hx_li1 g_li1 => ?_)
    exact trivial
   refine W.bind ?_
   refine W.guard (fun h_5 => ?_) (fun li2 => ?_)
   ·try simp [empty_iff] at h_5
    refine W.row (G := ApiCalendar.sz) (g_l) (by first | omega | (rw [w64_in] <;> omega)) (by first | omega | (rw [w64_in] <;> omega)) (fun li2 hx_li2 g_li2 => ?_)
    exact trivial
   refine W.ite (fun h_6 => ?_) (fun h_6 => ?_)
   ·exact W.some trivial
   ·try simp [empty_iff] at h_6
    exact W.some ⟨by omega, wrap_succ n_1 h0_s (by omega)⟩
 ·exact W.some trivial
theorem w_q18_name {N : Nat} (hN : 1024 ≤ N ∧ N ≤ 4398046511104) {s : ByteArray} (g_s : gStr N s) : W (q18_name s) (fun r => True) := by
 delta q18_name
 refine W.need (by have a1 := (g_s).1; first | omega | (intro hc; (try simp [empty_iff] at hc); omega) | (intro hc; simp only [empty_iff] at hc; simp at hc; omega) | (simp only [List.length_nil, List.length_append, List.length_cons, subl, List.length_drop, List.length_take, List.length_map]; omega)) ?_
 refine W.need (by have a1 := (g_s).1; first | omega | (intro hc; (try simp [empty_iff] at hc); omega) | (intro hc; simp only [empty_iff] at hc; simp at hc; omega) | (simp only [List.length_nil, List.length_append, List.length_cons, subl, List.length_drop, List.length_take, List.length_map]; omega)) ?_
 refine W.ite (fun h_1 => ?_) (fun h_1 => ?_)
 ·exact W.some trivial
 ·try simp [empty_iff] at h_1
  have n_2 : s.size ≤ 9223372036854775807 := (g_s).2
  refine W.from (s.size) n_2 (by omega) (fun s1 h0_s1 _hn_s1 => ?_)
  delta q18_name_l1
  refine W.ite (fun h_3 => ?_) (fun h_3 => ?_)
  ·try simp [empty_iff] at h_3
   refine W.need (by have a1 := (g_s).1; first | omega | (intro hc; (try simp [empty_iff] at hc); omega) | (intro hc; simp only [empty_iff] at hc; simp at hc; omega) | (simp only [List.length_nil, List.length_append, List.length_cons, subl, List.length_drop, List.length_take, List.length_map]; omega)) ?_
   refine W.need (by have a1 := (g_s).1; first | omega | (intro hc; (try simp [empty_iff] at hc); omega) | (intro hc; simp only [empty_iff] at hc; simp at hc; omega) | (simp only [List.length_nil, List.length_append, List.length_cons, subl, List.length_drop, List.length_take, List.length_map]; omega)) ?_
   refine W.need (by have a1 := (g_s).1; first | omega | (intro hc; (try simp [empty_iff] at hc); omega) | (intro hc; simp only [empty_iff] at hc; simp at hc; omega) | (simp only [List.length_nil, List.length_append, List.length_cons, subl, List.length_drop, List.length_take, List.length_map]; omega)) ?_
   refine W.need (by have a1 := (g_s).1; first | omega | (intro hc; (try simp [empty_iff] at hc); omega) | (intro hc; simp only [empty_iff] at hc; simp at hc; omega) | (simp only [List.length_nil, List.length_append, List.length_cons, subl, List.length_drop, List.length_take, List.length_map]; omega)) ?_
   refine W.need (by have a1 := (g_s).1; first | omega | (intro hc; (try simp [empty_iff] at hc); omega) | (intro hc; simp only [empty_iff] at hc; simp at hc; omega) | (simp only [List.length_nil, List.length_append, List.length_cons, subl, List.length_drop, List.length_take, List.length_map]; omega)) ?_
   refine W.ite (fun h_4 => ?_) (fun h_4 => ?_)
   ·exact W.some trivial
   ·try simp [empty_iff] at h_4
    exact W.some ⟨by omega, wrap_succ n_2 h0_s1 (by omega)⟩
  ·exact W.some trivial
theorem w_q18_Find {N : Nat} (hN : 1024 ≤ N ∧ N ≤ 4398046511104) {l : List ApiGl} {id : Int} (g_l : (gList ApiGl.sz) N l) : W (q18_Find l id) (fun r => (ApiGl.sz N r.1 ∧ True)) := by
 delta q18_Find
 have n_1 : l.length ≤ 9223372036854775807 := (Nat.le_trans (g_l).1 (Nat.le_trans hN.2 (by decide)))
 refine W.over (l.length) n_1 (fun s h0_s hn_s => ?_)
 delta q18_Find_l1
 refine W.ite (fun h_2 => ?_) (fun h_2 => ?_)
 ·try simp [empty_iff] at h_2
  refine W.bind ?_
  refine W.row (G := ApiGl.sz) (g_l) (by first | omega | (rw [w64_in] <;> omega)) (by first | omega | (rw [w64_in] <;> omega)) (fun li hx_li g_li => ?_)
  refine W.ite (fun h_3 => ?_) (fun h_3 => ?_)
  ·try simp [empty_iff] at h_3
   refine W.bind ?_
   refine W.row (G := ApiGl.sz) (g_l) (by first | omega | (rw [w64_in] <;> omega)) (by first | omega | (rw [w64_in] <;> omega)) (fun li1 hx_li1 g_li1 => ?_)
   exact W.some ⟨(g_li1), trivial⟩
  ·try simp [empty_iff] at h_3
   exact W.some ⟨by omega, wrap_succ n_1 h0_s (by omega)⟩
 ·exact W.some ⟨(gstr_bs (by decide) hN), trivial⟩
theorem w_q18_Parent {N : Nat} (hN : 1024 ≤ N ∧ N ≤ 4398046511104) {l : List ApiGl} {id : Int} (g_l : (gList ApiGl.sz) N l) : W (q18_Parent l id) (fun r => True) := by
 delta q18_Parent
 have n_1 : l.length ≤ 9223372036854775807 := (Nat.le_trans (g_l).1 (Nat.le_trans hN.2 (by decide)))
 refine W.over (l.length) n_1 (fun s h0_s hn_s => ?_)
 delta q18_Parent_l1
 refine W.ite (fun h_2 => ?_) (fun h_2 => ?_)
 ·try simp [empty_iff] at h_2
  refine W.bind ?_
  refine W.row (G := ApiGl.sz) (g_l) (by first | omega | (rw [w64_in] <;> omega)) (by first | omega | (rw [w64_in] <;> omega)) (fun li hx_li g_li => ?_)
  refine W.ite (fun h_3 => ?_) (fun h_3 => ?_)
  ·exact W.some trivial
  ·try simp [empty_iff] at h_3
   exact W.some ⟨by omega, wrap_succ n_1 h0_s (by omega)⟩
 ·exact W.some trivial
theorem w_q18_used {N : Nat} (hN : 1024 ≤ N ∧ N ≤ 4398046511104) {l : List ApiGl} {id : Int} {kind : Int} (g_l : (gList ApiGl.sz) N l) : W (q18_used l id kind) (fun r => True) := by
 delta q18_used
 refine W.bind ?_
 refine (w_q18_Find hN (g_l)).mono (fun r _ g_r => ?_)
 refine W.bind ?_
 refine W.guard (fun h_1 => ?_) (fun r1 => ?_)
 ·try simp [empty_iff] at h_1
  refine (w_q18_Parent hN (g_l)).mono (fun r1 _ g_r1 => ?_)
  exact trivial
 refine W.ite (fun h_2 => ?_) (fun h_2 => ?_)
 ·exact W.some trivial
 ·try simp [empty_iff] at h_2
  refine W.ite (fun h_3 => ?_) (fun h_3 => ?_)
  ·exact W.some trivial
  ·exact W.some trivial
theorem w_q18_Check {N : Nat} (hN : 1024 ≤ N ∧ N ≤ 4398046511104) {l : List ApiGl} {p : ApiPlan} (g_l : (gList ApiGl.sz) N l) : W (q18_Check l p) (fun r => True) := by
 delta q18_Check
 refine W.ite (fun h_1 => ?_) (fun h_1 => ?_)
 ·exact W.some trivial
 ·try simp [empty_iff] at h_1
  have n_2 : l.length ≤ 9223372036854775807 := (Nat.le_trans (g_l).1 (Nat.le_trans hN.2 (by decide)))
  refine W.over (l.length) n_2 (fun s h0_s hn_s => ?_)
  delta q18_Check_l1
  refine W.ite (fun h_3 => ?_) (fun h_3 => ?_)
  ·try simp [empty_iff] at h_3
   refine W.bind ?_
   refine W.row (G := ApiGl.sz) (g_l) (by first | omega | (rw [w64_in] <;> omega)) (by first | omega | (rw [w64_in] <;> omega)) (fun li hx_li g_li => ?_)
   refine W.ite (fun h_4 => ?_) (fun h_4 => ?_)
   ·exact W.some trivial
   ·try simp [empty_iff] at h_4
    refine W.bind ?_
    refine W.guard (fun h_5 => ?_) (fun li1 => ?_)
    ·try simp [empty_iff] at h_5
     refine W.row (G := ApiGl.sz) (g_l) (by first | omega | (rw [w64_in] <;> omega)) (by first | omega | (rw [w64_in] <;> omega)) (fun li1 hx_li1 g_li1 => ?_)
     exact trivial
    refine W.ite (fun h_6 => ?_) (fun h_6 => ?_)
    ·exact W.some trivial
    ·try simp [empty_iff] at h_6
     refine W.bind ?_
     refine (w_q18_name hN (g_li)).mono (fun r _ g_r => ?_)
     refine W.ite (fun h_7 => ?_) (fun h_7 => ?_)
     ·exact W.some trivial
     ·try simp [empty_iff] at h_7
      refine W.ite (fun h_8 => ?_) (fun h_8 => ?_)
      ·try simp [empty_iff] at h_8
       delta q18_Check_j0
       exact W.some ⟨by omega, wrap_succ n_2 h0_s (by omega)⟩
      ·try simp [empty_iff] at h_8
       refine W.need (by have a1 := (g_l).1; first | omega | (intro hc; (try simp [empty_iff] at hc); omega) | (intro hc; simp only [empty_iff] at hc; simp at hc; omega) | (simp only [List.length_nil, List.length_append, List.length_cons, subl, List.length_drop, List.length_take, List.length_map]; omega)) ?_
       refine W.bind ?_
       refine (w_q18_Find hN (good_subl g_l)).mono (fun r3 _ g_r3 => ?_)
       refine W.ite (fun h_9 => ?_) (fun h_9 => ?_)
       ·exact W.some trivial
       ·try simp [empty_iff] at h_9
        refine W.ite (fun h_10 => ?_) (fun h_10 => ?_)
        ·exact W.some trivial
        ·try simp [empty_iff] at h_10
         delta q18_Check_j0
         exact W.some ⟨by omega, wrap_succ n_2 h0_s (by omega)⟩
  ·try simp [empty_iff] at h_3
   refine W.map ?_
   have n_4 : 14 ≤ 9223372036854775807 := (by omega)
   refine W.over (14) n_4 (fun s4 h0_s4 hn_s4 => ?_)
   delta q18_Check_l2
   refine W.ite (fun h_5 => ?_) (fun h_5 => ?_)
   ·try simp [empty_iff] at h_5
    refine W.bind ?_
    refine W.row0 (by first | omega | (rw [w64_in] <;> omega)) (by first | omega | (rw [w64_in] <;> omega) | (simp; omega)) (fun o hx_o => ?_)
    refine W.bind ?_
    refine W.idx0 (by first | omega | (rw [w64_in] <;> omega)) (by first | omega | (rw [w64_in] <;> omega) | (simp; omega)) (fun x hx_x => ?_)
    refine W.bind ?_
    refine W.row0 (by first | omega | (rw [w64_in] <;> omega)) (by first | omega | (rw [w64_in] <;> omega) | (simp; omega)) (fun o5 hx_o5 => ?_)
    refine W.bind ?_
    refine W.idx0 (by first | omega | (rw [w64_in] <;> omega)) (by first | omega | (rw [w64_in] <;> omega) | (simp; omega)) (fun x6 hx_x6 => ?_)
    refine W.bind ?_
    refine (w_q18_used hN (g_l)).mono (fun r7 _ g_r7 => ?_)
    refine W.ite (fun h_6 => ?_) (fun h_6 => ?_)
    ·exact W.some trivial
    ·try simp [empty_iff] at h_6
     exact W.some ⟨by omega, wrap_succ n_4 h0_s4 (by omega)⟩
   ·exact W.some trivial
theorem w_q17_before {N : Nat} (hN : 1024 ≤ N ∧ N ≤ 4398046511104) {a : ApiProduct} {b : ApiProduct} (g_a : ApiProduct.sz N a) (g_b : ApiProduct.sz N b) : W (q17_before a b) (fun r => True) := by
 delta q17_before
 exact W.some trivial
theorem w_q17_Check {N : Nat} (hN : 1024 ≤ N ∧ N ≤ 4398046511104) {l : List ApiProduct} (g_l : (gList ApiProduct.sz) N l) : W (q17_Check l) (fun r => True) := by
 delta q17_Check
 refine W.ite (fun h_1 => ?_) (fun h_1 => ?_)
 ·exact W.some trivial
 ·try simp [empty_iff] at h_1
  have n_2 : l.length ≤ 9223372036854775807 := (Nat.le_trans (g_l).1 (Nat.le_trans hN.2 (by decide)))
  refine W.from (l.length) n_2 (by omega) (fun s h0_s _hn_s => ?_)
  delta q17_Check_l1
  refine W.ite (fun h_3 => ?_) (fun h_3 => ?_)
  ·try simp [empty_iff] at h_3
   refine W.bind ?_
   refine W.row (G := ApiProduct.sz) (g_l) (by first | omega | (rw [w64_in] <;> omega)) (by first | omega | (rw [w64_in] <;> omega)) (fun li hx_li g_li => ?_)
   refine W.bind ?_
   refine W.row (G := ApiProduct.sz) (g_l) (by first | omega | (rw [w64_in] <;> omega)) (by first | omega | (rw [w64_in] <;> omega)) (fun li1 hx_li1 g_li1 => ?_)
   refine W.bind ?_
   refine (w_q17_before hN (g_li) (g_li1)).mono (fun r _ g_r => ?_)
   refine W.ite (fun h_4 => ?_) (fun h_4 => ?_)
   ·exact W.some trivial
   ·try simp [empty_iff] at h_4
    exact W.some ⟨by omega, wrap_succ n_2 h0_s (by omega)⟩
  ·try simp [empty_iff] at h_3
   refine W.map ?_
   have n_4 : l.length ≤ 9223372036854775807 := (Nat.le_trans (g_l).1 (Nat.le_trans hN.2 (by decide)))
   refine W.from (l.length) n_4 (by omega) (fun s2 h0_s2 _hn_s2 => ?_)
   delta q17_Check_l2
   refine W.ite (fun h_5 => ?_) (fun h_5 => ?_)
   ·try simp [empty_iff] at h_5
    refine W.bind ?_
    refine W.row (G := ApiProduct.sz) (g_l) (by first | omega | (rw [w64_in] <;> omega)) (by first | omega | (rw [w64_in] <;> omega)) (fun li3 hx_li3 g_li3 => ?_)
    refine W.bind ?_
    refine W.row (G := ApiProduct.sz) (g_l) (by first | omega | (rw [w64_in] <;> omega)) (by first | omega | (rw [w64_in] <;> omega)) (fun li4 hx_li4 g_li4 => ?_)
    refine W.bind ?_
    refine W.guard (fun h_6 => ?_) (fun li5 => ?_)
    ·try simp [empty_iff] at h_6
     refine W.row (G := ApiProduct.sz) (g_l) (by first | omega | (rw [w64_in] <;> omega)) (by first | omega | (rw [w64_in] <;> omega)) (fun li5 hx_li5 g_li5 => ?_)
     exact trivial
    refine W.bind ?_
    refine W.guard (fun h_7 => ?_) (fun li6 => ?_)
    ·try simp [empty_iff] at h_7
     refine W.row (G := ApiProduct.sz) (g_l) (by first | omega | (rw [w64_in] <;> omega)) (by first | omega | (rw [w64_in] <;> omega)) (fun li6 hx_li6 g_li6 => ?_)
     exact trivial
    refine W.ite (fun h_8 => ?_) (fun h_8 => ?_)
    ·exact W.some trivial
    ·try simp [empty_iff] at h_8
     exact W.some ⟨by omega, wrap_succ n_4 h0_s2 (by omega)⟩
   ·exact W.some trivial
theorem w_q15_Name {N : Nat} (hN : 1024 ≤ N ∧ N ≤ 4398046511104) {s : ByteArray} (g_s : gStr N s) : W (q15_Name s) (fun r => True) := by
 delta q15_Name
 refine W.need (by have a1 := (g_s).1; first | omega | (intro hc; (try simp [empty_iff] at hc); omega) | (intro hc; simp only [empty_iff] at hc; simp at hc; omega) | (simp only [List.length_nil, List.length_append, List.length_cons, subl, List.length_drop, List.length_take, List.length_map]; omega)) ?_
 refine W.need (by have a1 := (g_s).1; first | omega | (intro hc; (try simp [empty_iff] at hc); omega) | (intro hc; simp only [empty_iff] at hc; simp at hc; omega) | (simp only [List.length_nil, List.length_append, List.length_cons, subl, List.length_drop, List.length_take, List.length_map]; omega)) ?_
 refine W.ite (fun h_1 => ?_) (fun h_1 => ?_)
 ·exact W.some trivial
 ·try simp [empty_iff] at h_1
  have n_2 : s.size ≤ 9223372036854775807 := (g_s).2
  refine W.from (s.size) n_2 (by omega) (fun s1 h0_s1 _hn_s1 => ?_)
  delta q15_Name_l1
  refine W.ite (fun h_3 => ?_) (fun h_3 => ?_)
  ·try simp [empty_iff] at h_3
   refine W.need (by have a1 := (g_s).1; first | omega | (intro hc; (try simp [empty_iff] at hc); omega) | (intro hc; simp only [empty_iff] at hc; simp at hc; omega) | (simp only [List.length_nil, List.length_append, List.length_cons, subl, List.length_drop, List.length_take, List.length_map]; omega)) ?_
   refine W.need (by have a1 := (g_s).1; first | omega | (intro hc; (try simp [empty_iff] at hc); omega) | (intro hc; simp only [empty_iff] at hc; simp at hc; omega) | (simp only [List.length_nil, List.length_append, List.length_cons, subl, List.length_drop, List.length_take, List.length_map]; omega)) ?_
   refine W.need (by have a1 := (g_s).1; first | omega | (intro hc; (try simp [empty_iff] at hc); omega) | (intro hc; simp only [empty_iff] at hc; simp at hc; omega) | (simp only [List.length_nil, List.length_append, List.length_cons, subl, List.length_drop, List.length_take, List.length_map]; omega)) ?_
   refine W.need (by have a1 := (g_s).1; first | omega | (intro hc; (try simp [empty_iff] at hc); omega) | (intro hc; simp only [empty_iff] at hc; simp at hc; omega) | (simp only [List.length_nil, List.length_append, List.length_cons, subl, List.length_drop, List.length_take, List.length_map]; omega)) ?_
   refine W.need (by have a1 := (g_s).1; first | omega | (intro hc; (try simp [empty_iff] at hc); omega) | (intro hc; simp only [empty_iff] at hc; simp at hc; omega) | (simp only [List.length_nil, List.length_append, List.length_cons, subl, List.length_drop, List.length_take, List.length_map]; omega)) ?_
   refine W.ite (fun h_4 => ?_) (fun h_4 => ?_)
   ·exact W.some trivial
   ·try simp [empty_iff] at h_4
    exact W.some ⟨by omega, wrap_succ n_2 h0_s1 (by omega)⟩
  ·exact W.some trivial
theorem w_q03_Find {N : Nat} (hN : 1024 ≤ N ∧ N ≤ 4398046511104) {l : List ApiCurrency} {code : ByteArray} (g_l : (gList ApiCurrency.sz) N l) (g_code : gStr N code) : W (q03_Find l code) (fun r => (ApiCurrency.sz N r.1 ∧ True)) := by
 delta q03_Find
 have n_1 : l.length ≤ 9223372036854775807 := (Nat.le_trans (g_l).1 (Nat.le_trans hN.2 (by decide)))
 refine W.over (l.length) n_1 (fun s h0_s hn_s => ?_)
 delta q03_Find_l1
 refine W.ite (fun h_2 => ?_) (fun h_2 => ?_)
 ·try simp [empty_iff] at h_2
  refine W.bind ?_
  refine W.row (G := ApiCurrency.sz) (g_l) (by first | omega | (rw [w64_in] <;> omega)) (by first | omega | (rw [w64_in] <;> omega)) (fun li hx_li g_li => ?_)
  refine W.ite (fun h_3 => ?_) (fun h_3 => ?_)
  ·try simp [empty_iff] at h_3
   refine W.bind ?_
   refine W.row (G := ApiCurrency.sz) (g_l) (by first | omega | (rw [w64_in] <;> omega)) (by first | omega | (rw [w64_in] <;> omega)) (fun li1 hx_li1 g_li1 => ?_)
   exact W.some ⟨(g_li1), trivial⟩
  ·try simp [empty_iff] at h_3
   exact W.some ⟨by omega, wrap_succ n_1 h0_s (by omega)⟩
 ·exact W.some ⟨(gstr_bs (by decide) hN), trivial⟩
theorem w_q05_Find {N : Nat} (hN : 1024 ≤ N ∧ N ≤ 4398046511104) {l : List ApiCalendar} {name : ByteArray} (g_l : (gList ApiCalendar.sz) N l) (g_name : gStr N name) : W (q05_Find l name) (fun r => (ApiCalendar.sz N r.1 ∧ True)) := by
 delta q05_Find
 have n_1 : l.length ≤ 9223372036854775807 := (Nat.le_trans (g_l).1 (Nat.le_trans hN.2 (by decide)))
 refine W.over (l.length) n_1 (fun s h0_s hn_s => ?_)
 delta q05_Find_l1
 refine W.ite (fun h_2 => ?_) (fun h_2 => ?_)
 ·try simp [empty_iff] at h_2
  refine W.bind ?_
  refine W.row (G := ApiCalendar.sz) (g_l) (by first | omega | (rw [w64_in] <;> omega)) (by first | omega | (rw [w64_in] <;> omega)) (fun li hx_li g_li => ?_)
  refine W.ite (fun h_3 => ?_) (fun h_3 => ?_)
  ·try simp [empty_iff] at h_3
   refine W.bind ?_
   refine W.row (G := ApiCalendar.sz) (g_l) (by first | omega | (rw [w64_in] <;> omega)) (by first | omega | (rw [w64_in] <;> omega)) (fun li1 hx_li1 g_li1 => ?_)
   exact W.some ⟨(g_li1), trivial⟩
  ·try simp [empty_iff] at h_3
   exact W.some ⟨by omega, wrap_succ n_1 h0_s (by omega)⟩
 ·exact W.some ⟨⟨(gstr_bs (by decide) hN), glist_nil, glist_nil⟩, trivial⟩
theorem w_q14_Check {N : Nat} (hN : 1024 ≤ N ∧ N ≤ 4398046511104) {l : List ApiTier} (g_l : (gList gAny) N l) : W (q14_Check l) (fun r => True) := by
 delta q14_Check
 refine W.ite (fun h_1 => ?_) (fun h_1 => ?_)
 ·exact W.some trivial
 ·try simp [empty_iff] at h_1
  have n_2 : l.length ≤ 9223372036854775807 := (Nat.le_trans (g_l).1 (Nat.le_trans hN.2 (by decide)))
  refine W.over (l.length) n_2 (fun s h0_s hn_s => ?_)
  delta q14_Check_l1
  refine W.ite (fun h_3 => ?_) (fun h_3 => ?_)
  ·try simp [empty_iff] at h_3
   refine W.bind ?_
   refine W.row0 (by first | omega | (rw [w64_in] <;> omega)) (by first | omega | (rw [w64_in] <;> omega) | (simp; omega)) (fun li hx_li => ?_)
   refine W.bind ?_
   refine W.guard (fun h_4 => ?_) (fun li1 => ?_)
   ·try simp [empty_iff] at h_4
    refine W.row0 (by first | omega | (rw [w64_in] <;> omega)) (by first | omega | (rw [w64_in] <;> omega) | (simp; omega)) (fun li1 hx_li1 => ?_)
    exact trivial
   refine W.bind ?_
   refine W.guard (fun h_5 => ?_) (fun li2 => ?_)
   ·try simp [empty_iff] at h_5
    refine W.row0 (by first | omega | (rw [w64_in] <;> omega)) (by first | omega | (rw [w64_in] <;> omega) | (simp; omega)) (fun li2 hx_li2 => ?_)
    exact trivial
   refine W.bind ?_
   refine W.guard (fun h_6 => ?_) (fun li3 => ?_)
   ·try simp [empty_iff] at h_6
    refine W.row0 (by first | omega | (rw [w64_in] <;> omega)) (by first | omega | (rw [w64_in] <;> omega) | (simp; omega)) (fun li3 hx_li3 => ?_)
    exact trivial
   refine W.ite (fun h_7 => ?_) (fun h_7 => ?_)
   ·exact W.some trivial
   ·try simp [empty_iff] at h_7
    exact W.some ⟨by omega, wrap_succ n_2 h0_s (by omega)⟩
  ·try simp [empty_iff] at h_3
   refine W.map ?_
   have n_4 : l.length ≤ 9223372036854775807 := (Nat.le_trans (g_l).1 (Nat.le_trans hN.2 (by decide)))
   refine W.from (l.length) n_4 (by omega) (fun s4 h0_s4 _hn_s4 => ?_)
   delta q14_Check_l2
   refine W.ite (fun h_5 => ?_) (fun h_5 => ?_)
   ·try simp [empty_iff] at h_5
    refine W.bind ?_
    refine W.row0 (by first | omega | (rw [w64_in] <;> omega)) (by first | omega | (rw [w64_in] <;> omega) | (simp; omega)) (fun li5 hx_li5 => ?_)
    refine W.bind ?_
    refine W.row0 (by first | omega | (rw [w64_in] <;> omega)) (by first | omega | (rw [w64_in] <;> omega) | (simp; omega)) (fun li6 hx_li6 => ?_)
    refine W.ite (fun h_6 => ?_) (fun h_6 => ?_)
    ·exact W.some trivial
    ·try simp [empty_iff] at h_6
     exact W.some ⟨by omega, wrap_succ n_4 h0_s4 (by omega)⟩
   ·try simp [empty_iff] at h_5
    refine W.map ?_
    refine W.bind ?_
    refine W.guard (fun h_6 => ?_) (fun li7 => ?_)
    ·try simp [empty_iff] at h_6
     refine W.row0 (by first | omega | (rw [w64_in] <;> omega)) (by first | omega | (rw [w64_in] <;> omega) | (simp; omega)) (fun li7 hx_li7 => ?_)
     exact trivial
    refine W.ite (fun h_7 => ?_) (fun h_7 => ?_)
    ·exact W.some trivial
    ·exact W.some trivial
theorem w_q15_interest {N : Nat} (hN : 1024 ≤ N ∧ N ≤ 4398046511104) {x : ApiInterest} (g_x : ApiInterest.sz N x) : W (q15_interest x) (fun r => True) := by
 delta q15_interest
 refine W.bind ?_
 refine (w_q14_Check hN (good_any (g_x))).mono (fun r _ g_r => ?_)
 refine W.ite (fun h_1 => ?_) (fun h_1 => ?_)
 ·exact W.some trivial
 ·try simp [empty_iff] at h_1
  refine W.ite (fun h_2 => ?_) (fun h_2 => ?_)
  ·exact W.some trivial
  ·exact W.some trivial
theorem w_q15_Vars {N : Nat} (hN : 1024 ≤ N ∧ N ≤ 4398046511104) : W (q15_Vars) (fun r => (gList ApiVar.sz) N r) := by
 delta q15_Vars
 exact W.some ⟨by simp only [List.length_cons, List.length_nil]; omega, fun y hy => by simp only [List.mem_cons, List.not_mem_nil, or_false] at hy; rcases hy with rfl | rfl | rfl | rfl | rfl | rfl | rfl <;> first | trivial | exact gstr_bs (by decide) hN⟩
def dep : Nat → ApiExpr → Prop
 | 0, _ => False
 | k + 1, e => ∀ y ∈ e.Args, dep k y
theorem dep_up : ∀ {k : Nat} {e : ApiExpr}, dep k e → dep (k + 1) e
 | 0, _, h => h.elim
 | k + 1, e, h => fun y hy => dep_up (h y hy)
theorem dep_le {k m : Nat} {e : ApiExpr} (h : dep k e) (hm : k ≤ m) : dep m e := by
 induction hm with
 | refl => exact h
 | step _ ih => exact dep_up ih
def nds : Nat → ApiExpr → Nat
 | 0, _ => 0
 | k + 1, e => 1 + (e.Args.map (nds k)).sum
theorem sum_take (f : ApiExpr → Nat) (l : List ApiExpr) (i : Nat) (h : i < l.length) : ((l.take (i + 1)).map f).sum = ((l.take i).map f).sum + f l[i] := by
 rw [take_succ_of l i h, List.map_append, List.sum_append]; simp
theorem w_count {N : Nat} (hN : 1024 ≤ N ∧ N ≤ 4398046511104) : ∀ (f : Nat) {e : ApiExpr} {most : Int}, ApiExpr.sz N e → most ≤ 4398046511104 → -1 ≤ most → most + 2 ≤ f → 1 ≤ f →
  W (q10_count f e most) (fun r => 1 ≤ r ∧ (r ≤ most ∨ r = 1 ∨ r ≤ most + 1) ∧ (r ≤ most → dep r.toNat e ∧ ∀ k, (nds k e : Int) ≤ r))
 | 0, e, most, he, h1, h2, h3, h4 => by omega
 | f + 1, e, most, he, h1, h2, h3, h4 => by
  have ha := (sz_ApiExpr he).2
  show W (Iter (q10_count_l1 e most (q10_count f)) (1, 0)) _
  refine W.iter (fun s => 0 ≤ s.2 ∧ s.2 ≤ (e.Args.length : Int) ∧ 1 ≤ s.1 ∧ (s.1 ≤ most ∨ s.1 = 1 ∨ s.1 ≤ most + 1) ∧ (s.1 ≤ most → ∀ i : Nat, (i : Int) < s.2 → ∀ y, e.Args[i]? = some y → dep (s.1 - 1).toNat y) ∧ (s.1 ≤ most → ∀ k, 1 + (((e.Args.take s.2.toNat).map (nds k)).sum : Int) ≤ s.1)) (fun s => e.Args.length - s.2.toNat) ⟨by simp, by simp, by simp, by simp, fun _ i hi => by simp at hi; omega, fun _ k => by simp⟩ (by have := ha.1; simp; omega) (fun s hs => ?_)
  obtain ⟨i0, i1, i2, i3, i4, i5⟩ := hs
  have hl := ha.1
  unfold q10_count_l1
  refine W.ite (fun h => ?_) (fun h => ?_)
  ·simp only [List.length_map, Bool.cond_false_right, Bool.and_eq_true, decide_eq_true_eq] at h
   refine W.bind (W.row ha i0 h.1 (fun y hy gy => ?_))
   have w1 : IntKind.wrap .i64 (most - s.1) = most - s.1 := w64_in (by omega) (by omega)
   rw [w1]
   refine W.bind ((w_count hN f gy (by omega) (by omega) (by omega) (by omega)).mono (fun r _ hr => ?_))
   obtain ⟨r1, r2, r3⟩ := hr
   have w2 : IntKind.wrap .i64 (s.1 + r) = s.1 + r := w64_in (by omega) (by omega)
   have w3 : IntKind.wrap .i64 (s.2 + 1) = s.2 + 1 := w64_in (by omega) (by omega)
   rw [w2, w3]
   have hlt : s.2.toNat < e.Args.length := by omega
   have hy2 : e.Args[s.2.toNat] = y := by
    rw [List.getElem?_eq_getElem hlt] at hy; exact Option.some.inj hy
   refine W.some ⟨⟨show 0 ≤ s.2 + 1 by omega, show s.2 + 1 ≤ (e.Args.length : Int) by omega, show 1 ≤ s.1 + r by omega, show s.1 + r ≤ most ∨ s.1 + r = 1 ∨ s.1 + r ≤ most + 1 by omega, fun hm i hi z hz => ?_, fun hm k => ?_⟩, show e.Args.length - (s.2 + 1).toNat < e.Args.length - s.2.toNat by omega⟩
   ·have hm : s.1 + r ≤ most := hm
    have hi : (i : Int) < s.2 + 1 := hi
    show dep (s.1 + r - 1).toNat z
    by_cases hc : (i : Int) < s.2
    ·exact dep_le (i4 (by omega) i hc z hz) (by omega)
    ·have : i = s.2.toNat := by omega
     subst this
     have e1 : y = z := Option.some.inj (hy.symm.trans hz)
     subst e1
     exact dep_le (r3 (by omega)).1 (by omega)
   ·have hm : s.1 + r ≤ most := hm
    show 1 + (((e.Args.take (s.2 + 1).toNat).map (nds k)).sum : Int) ≤ s.1 + r
    have a1 := i5 (by omega) k
    have a2 := (r3 (by omega)).2 k
    rw [show (s.2 + 1).toNat = s.2.toNat + 1 by omega, sum_take _ _ _ hlt, hy2]
    omega
  ·simp only [List.length_map, Bool.cond_false_right, Bool.and_eq_true, decide_eq_true_eq] at h
   refine W.some ⟨i2, i3, fun hm => ?_⟩
   have he2 : s.2 = (e.Args.length : Int) := by omega
   refine ⟨?_, fun k => ?_⟩
   ·have : s.1.toNat = (s.1 - 1).toNat + 1 := by omega
    rw [this]
    intro y hy
    obtain ⟨i, hi, rfl⟩ := List.mem_iff_getElem.1 hy
    exact i4 hm i (by omega) _ (List.getElem?_eq_getElem hi)
   ·cases k with
    | zero => simp [nds]; omega
    | succ k =>
     have := i5 hm k
     rw [he2] at this
     simp at this
     show ((1 + (e.Args.map (nds k)).sum : Nat) : Int) ≤ s.1
     simpa using this
theorem w_q10_Great {N : Nat} (hN : 1024 ≤ N ∧ N ≤ 4398046511104) {e : ApiExpr} {most : Int} (g_e : ApiExpr.sz N e) (h0 : 0 ≤ most) (h1 : most ≤ 100) : W (q10_Great e most) (fun r => r = false → dep 101 e ∧ ∀ k, nds k e ≤ 101) := by
 unfold q10_Great
 refine W.bind ((w_count hN 2097152 g_e (by omega) (by omega) (by omega) (by omega)).mono (fun r _ hr => ?_))
 refine W.some (fun hf => ?_)
 have hle : r ≤ most := by
  simp at hf; omega
 have := hr.2.2 hle
 exact ⟨dep_le this.1 (by omega), fun k => by have := this.2 k; omega⟩
theorem w_q10_Depth {N : Nat} (hN : 1024 ≤ N ∧ N ≤ 4398046511104) : ∀ (f : Nat) {k : Nat} {e : ApiExpr}, ApiExpr.sz N e → dep k e → k ≤ f → W (q10_Depth f e) (fun r => True)
 | 0, k, e, he, hd, hk => by
  obtain rfl : k = 0 := by omega
  exact hd.elim
 | f + 1, k, e, he, hd, hk => by
  have ha := (sz_ApiExpr he).2
  have hl := ha.1
  cases k with
  | zero => exact hd.elim
  | succ k =>
   show W (Iter (q10_Depth_l1 e (q10_Depth f)) (0, 0)) _
   refine W.overT (fun s => s.2) e.Args.length (by omega) (by simp) (fun s h0 => ?_)
   unfold q10_Depth_l1
   refine W.ite (fun h => ?_) (fun h => W.some trivial)
   simp at h
   refine W.bind (W.row ha h0 h (fun y hy gy => ?_))
   refine W.bind ((w_q10_Depth hN f gy (hd y (List.mem_of_getElem? hy)) (by omega)).mono (fun r _ _ => ?_))
   exact W.some ⟨show s.2 < _ by omega, w64_in (by omega) (by omega)⟩
theorem w_q10_Operands {N : Nat} (hN : 1024 ≤ N ∧ N ≤ 4398046511104) {op : Int} : W (q10_Operands op) (fun r => True) := by
 delta q10_Operands
 refine W.ite (fun h_1 => ?_) (fun h_1 => ?_)
 ·exact W.some trivial
 ·try simp [empty_iff] at h_1
  refine W.ite (fun h_2 => ?_) (fun h_2 => ?_)
  ·exact W.some trivial
  ·try simp [empty_iff] at h_2
   refine W.ite (fun h_3 => ?_) (fun h_3 => ?_)
   ·exact W.some trivial
   ·try simp [empty_iff] at h_3
    refine W.ite (fun h_4 => ?_) (fun h_4 => ?_)
    ·exact W.some trivial
    ·exact W.some trivial
theorem w_q10_most {N : Nat} (hN : 1024 ≤ N ∧ N ≤ 4398046511104) {op : Int} : W (q10_most op) (fun r => True) := by
 delta q10_most
 refine W.ite (fun h_1 => ?_) (fun h_1 => ?_)
 ·exact W.some trivial
 ·try simp [empty_iff] at h_1
  refine W.ite (fun h_2 => ?_) (fun h_2 => ?_)
  ·exact W.some trivial
  ·try simp [empty_iff] at h_2
   refine W.ite (fun h_3 => ?_) (fun h_3 => ?_)
   ·exact W.some trivial
   ·exact W.some trivial
theorem w_q10_right {N : Nat} (hN : 1024 ≤ N ∧ N ≤ 4398046511104) : ∀ (f : Nat) {k : Nat} {e : ApiExpr}, ApiExpr.sz N e → dep k e → k ≤ f → W (q10_right f e) (fun r => True)
 | 0, k, e, he, hd, hk => by
  obtain rfl : k = 0 := by omega
  exact hd.elim
 | f + 1, k, e, he, hd, hk => by
  have ha := (sz_ApiExpr he).2
  have hl := ha.1
  cases k with
  | zero => exact hd.elim
  | succ k =>
   show W (q10_right_body (q10_right f) e) _
   unfold q10_right_body
   refine W.bind ((w_q10_Operands hN).mono (fun r _ _ => ?_))
   refine W.bind (W.guard (fun _ => (w_q10_most hN)) (fun r1 => ?_))
   refine W.ite (fun _ => W.some trivial) (fun _ => ?_)
   refine W.over e.Args.length (by omega) (fun s h0 hn => ?_)
   unfold q10_right_l1
   refine W.ite (fun h => ?_) (fun h => W.some trivial)
   simp at h
   refine W.bind (W.row ha h0 h (fun y hy gy => ?_))
   refine W.bind ((w_q10_right hN f gy (hd y (List.mem_of_getElem? hy)) (by omega)).mono (fun r _ _ => ?_))
   refine W.ite (fun _ => W.some trivial) (fun _ => W.some ⟨by omega, w64_in (by omega) (by omega)⟩)
theorem subl_len {τ : Type} (l : List τ) (i j : Int) : (subl l i j).length ≤ l.length := by
 unfold subl; simp; omega
theorem subl_cut {τ : Type} (l : List τ) (i : Int) (h0 : 0 ≤ i) (h1 : i ≤ l.length) : (subl l 0 i).length + (subl l i l.length).length = l.length := by
 unfold subl; simp; omega
theorem good_app {τ : Type} {G : Nat → τ → Prop} {n : Nat} {a b : List τ} (ha : ∀ y ∈ a, G n y) (hb : ∀ y ∈ b, G n y) (hl : (a ++ b).length ≤ n) : gList G n (a ++ b) := ⟨hl, fun y hy => by
 rcases List.mem_append.1 hy with h | h
 ·exact ha y h
 ·exact hb y h⟩
theorem subl_mem {τ : Type} {l : List τ} {i j : Int} {y : τ} (h : y ∈ subl l i j) : y ∈ l := List.mem_of_mem_take (List.mem_of_mem_drop h)
theorem w_q10_insert {N : Nat} (hN : 1024 ≤ N ∧ N ≤ 4398046511104) {l : List ByteArray} {s : ByteArray} (g_l : ∀ y ∈ l, gStr N y) (g_s : gStr N s) (hl : l.length ≤ 1000) : W (q10_insert l s) (fun r => r.length ≤ l.length + 1 ∧ ∀ y ∈ r, gStr N y) := by
 unfold q10_insert
 refine W.iter (fun s => 0 ≤ s ∧ s ≤ (l.length : Int)) (fun s => l.length - s.toNat) ⟨by omega, by omega⟩ (by omega) (fun s1 hs => ?_)
 unfold q10_insert_l1
 have fin : W (if (0 : Int) ≤ 0 ∧ 0 ≤ s1 ∧ s1 ≤ (l.length : Int) then (if (([] : List ByteArray).length + (subl l 0 s1).length) * 16 ≤ 140737488355328 then (if ((([] ++ (subl l 0 s1)) : List ByteArray).length + ([s] : List ByteArray).length) * 16 ≤ 140737488355328 then (if (0 : Int) ≤ s1 ∧ s1 ≤ ((List.map eStr l).length : Int) ∧ ((List.map eStr l).length : Int) ≤ (l.length : Int) then (if ((([] ++ (subl l 0 s1)) ++ ([s])).length + (subl l s1 ((List.map eStr l).length : Int)).length) * 16 ≤ 140737488355328 then (some ((([] ++ (subl l 0 s1)) ++ ([s])) ++ (subl l s1 ((List.map eStr l).length : Int)))) else none) else none) else none) else none) else none) (fun r => r.length ≤ l.length + 1 ∧ ∀ y ∈ r, gStr N y) := by
  have a1 := subl_len l 0 s1
  have a2 := subl_len l s1 l.length
  have a3 := subl_cut l s1 hs.1 hs.2
  rw [if_pos ⟨by omega, hs.1, hs.2⟩, if_pos (by simp; omega), if_pos (by simp; omega), if_pos ⟨hs.1, by simp; omega, by simp⟩, if_pos (by simp; omega)]
  refine W.some ⟨by simp; omega, fun y hy => ?_⟩
  simp only [List.nil_append, List.length_map, List.mem_append, List.mem_singleton] at hy
  rcases hy with (hy | rfl) | hy
  ·exact g_l y (subl_mem hy)
  ·exact g_s
  ·exact g_l y (subl_mem hy)
 have row : ∀ (Q : ByteArray → Prop), (∀ x, Q x) → W (if (((decide (s1 < ((List.map eStr l).length : Int))) == true) && true) = true then getI l s1 else some default) Q := fun Q hQ => W.guard (fun h => W.row0 hs.1 (by simpa using h) (fun x _ => trivial)) hQ
 refine W.bind (row _ (fun li => ?_))
 refine W.ite (fun h => ?_) (fun _ => ?_)
 ·simp only [List.length_map, Bool.cond_false_right, Bool.and_eq_true, decide_eq_true_eq] at h
  have w : IntKind.wrap .i64 (s1 + 1) = s1 + 1 := w64_in (by omega) (by omega)
  rw [w]
  exact W.some ⟨⟨show 0 ≤ s1 + 1 by omega, show s1 + 1 ≤ _ by omega⟩, show l.length - (s1 + 1).toNat < l.length - s1.toNat by omega⟩
 ·refine W.map (W.bind (row _ (fun li2 => W.ite (fun _ => W.some ⟨by omega, g_l⟩) (fun _ => fin))))
theorem w_q10_Names {N : Nat} (hN : 1024 ≤ N ∧ N ≤ 4398046511104) : ∀ (f : Nat) {k : Nat} {e : ApiExpr}, ApiExpr.sz N e → dep k e → k ≤ f → nds k e ≤ 101 → W (q10_Names f e) (fun r => r.length ≤ nds k e ∧ ∀ y ∈ r, gStr N y)
 | 0, k, e, he, hd, hk, hn => by
  obtain rfl : k = 0 := by omega
  exact hd.elim
 | f + 1, k, e, he, hd, hk, hn => by
  have ha := (sz_ApiExpr he).2
  have hl := ha.1
  cases k with
  | zero => exact hd.elim
  | succ k =>
   have hkn : nds (k + 1) e = 1 + (e.Args.map (nds k)).sum := rfl
   show W (q10_Names_body (q10_Names f) e) _
   have core : ∀ s : List ByteArray, s.length ≤ 1 → (∀ y ∈ s, gStr N y) → W (q10_Names_j2 e (q10_Names f) s) (fun r => r.length ≤ nds (k + 1) e ∧ ∀ y ∈ r, gStr N y) := by
    intro s hs gs
    unfold q10_Names_j2
    refine W.iter (fun s => 0 ≤ s.2 ∧ s.2 ≤ (e.Args.length : Int) ∧ s.1.length ≤ 1 + ((e.Args.take s.2.toNat).map (nds k)).sum ∧ ∀ y ∈ s.1, gStr N y) (fun s => e.Args.length - s.2.toNat) ⟨by simp, by simp, by simpa using hs, gs⟩ (by simp; omega) (fun s1 h1 => ?_)
    obtain ⟨i0, i1, i2, i3⟩ := h1
    have bnd : ∀ i : Nat, ((e.Args.take i).map (nds k)).sum ≤ (e.Args.map (nds k)).sum := fun i => by
     have : (e.Args.map (nds k)).sum = ((e.Args.take i).map (nds k)).sum + ((e.Args.drop i).map (nds k)).sum := by
      rw [← List.sum_append, ← List.map_append, List.take_append_drop]
     omega
    unfold q10_Names_l1
    refine W.ite (fun h => ?_) (fun h => ?_)
    ·simp at h
     refine W.bind (W.row ha i0 h (fun y hy gy => ?_))
     have hlt : s1.2.toNat < e.Args.length := by omega
     have hy2 : e.Args[s1.2.toNat] = y := by
      rw [List.getElem?_eq_getElem hlt] at hy; exact Option.some.inj hy
     have st := sum_take (nds k) e.Args s1.2.toNat hlt
     rw [hy2] at st
     have b1 := bnd (s1.2.toNat + 1)
     refine W.bind ((w_q10_Names hN f gy (hd y (List.mem_of_getElem? hy)) (by omega) (by omega)).mono (fun r _ hr => ?_))
     refine W.iter (fun s => 0 ≤ s.2 ∧ s.2 ≤ (r.length : Int) ∧ s.1.length ≤ s1.1.length + s.2.toNat ∧ ∀ y ∈ s.1, gStr N y) (fun s => r.length - s.2.toNat) ⟨by simp, by simp, by simp, i3⟩ (by simp; omega) (fun s2 h2 => ?_)
     obtain ⟨j0, j1, j2, j3⟩ := h2
     unfold q10_Names_l2
     refine W.ite (fun h => ?_) (fun h => ?_)
     ·simp at h
      refine W.bind (W.row0 j0 h (fun ri hri => ?_))
      refine W.bind ((w_q10_insert hN j3 (hr.2 ri (List.mem_of_getElem? hri)) (by omega)).mono (fun r3 _ h3 => ?_))
      have w : IntKind.wrap .i64 (s2.2 + 1) = s2.2 + 1 := w64_in (by omega) (by omega)
      rw [w]
      exact W.some ⟨⟨show 0 ≤ s2.2 + 1 by omega, show s2.2 + 1 ≤ _ by omega, show r3.length ≤ s1.1.length + (s2.2 + 1).toNat by omega, h3.2⟩, show r.length - (s2.2 + 1).toNat < r.length - s2.2.toNat by omega⟩
     ·simp at h
      have w : IntKind.wrap .i64 (s1.2 + 1) = s1.2 + 1 := w64_in (by omega) (by omega)
      rw [w]
      exact W.some ⟨⟨show 0 ≤ s1.2 + 1 by omega, show s1.2 + 1 ≤ _ by omega, show s2.1.length ≤ 1 + ((e.Args.take (s1.2 + 1).toNat).map (nds k)).sum by rw [show (s1.2 + 1).toNat = s1.2.toNat + 1 by omega]; omega, j3⟩, show e.Args.length - (s1.2 + 1).toNat < e.Args.length - s1.2.toNat by omega⟩
    ·have := bnd s1.2.toNat
     exact W.some ⟨by omega, i3⟩
   unfold q10_Names_body
   refine W.ite (fun _ => ?_) (fun _ => core [] (by simp) (fun y hy => by cases hy))
   rw [if_pos (by simp)]
   exact core _ (by simp) (fun y hy => by
    simp at hy
    subst hy
    exact (sz_ApiExpr he).1)
theorem w_q07_Name {N : Nat} (hN : 1024 ≤ N ∧ N ≤ 4398046511104) {s : ByteArray} (g_s : gStr N s) : W (q07_Name s) (fun r => True) := by
 delta q07_Name
 refine W.need (by have a1 := (g_s).1; first | omega | (intro hc; (try simp [empty_iff] at hc); omega) | (intro hc; simp only [empty_iff] at hc; simp at hc; omega) | (simp only [List.length_nil, List.length_append, List.length_cons, subl, List.length_drop, List.length_take, List.length_map]; omega)) ?_
 refine W.need (by have a1 := (g_s).1; first | omega | (intro hc; (try simp [empty_iff] at hc); omega) | (intro hc; simp only [empty_iff] at hc; simp at hc; omega) | (simp only [List.length_nil, List.length_append, List.length_cons, subl, List.length_drop, List.length_take, List.length_map]; omega)) ?_
 refine W.ite (fun h_1 => ?_) (fun h_1 => ?_)
 ·exact W.some trivial
 ·try simp [empty_iff] at h_1
  have n_2 : s.size ≤ 9223372036854775807 := (g_s).2
  refine W.over (s.size) n_2 (fun s1 h0_s1 hn_s1 => ?_)
  delta q07_Name_l1
  refine W.ite (fun h_3 => ?_) (fun h_3 => ?_)
  ·try simp [empty_iff] at h_3
   refine W.need (by have a1 := (g_s).1; first | omega | (intro hc; (try simp [empty_iff] at hc); omega) | (intro hc; simp only [empty_iff] at hc; simp at hc; omega) | (simp only [List.length_nil, List.length_append, List.length_cons, subl, List.length_drop, List.length_take, List.length_map]; omega)) ?_
   refine W.need (by have a1 := (g_s).1; first | omega | (intro hc; (try simp [empty_iff] at hc); omega) | (intro hc; simp only [empty_iff] at hc; simp at hc; omega) | (simp only [List.length_nil, List.length_append, List.length_cons, subl, List.length_drop, List.length_take, List.length_map]; omega)) ?_
   refine W.need (by have a1 := (g_s).1; first | omega | (intro hc; (try simp [empty_iff] at hc); omega) | (intro hc; simp only [empty_iff] at hc; simp at hc; omega) | (simp only [List.length_nil, List.length_append, List.length_cons, subl, List.length_drop, List.length_take, List.length_map]; omega)) ?_
   refine W.need (by have a1 := (g_s).1; first | omega | (intro hc; (try simp [empty_iff] at hc); omega) | (intro hc; simp only [empty_iff] at hc; simp at hc; omega) | (simp only [List.length_nil, List.length_append, List.length_cons, subl, List.length_drop, List.length_take, List.length_map]; omega)) ?_
   refine W.need (by have a1 := (g_s).1; first | omega | (intro hc; (try simp [empty_iff] at hc); omega) | (intro hc; simp only [empty_iff] at hc; simp at hc; omega) | (simp only [List.length_nil, List.length_append, List.length_cons, subl, List.length_drop, List.length_take, List.length_map]; omega)) ?_
   refine W.ite (fun h_4 => ?_) (fun h_4 => ?_)
   ·exact W.some trivial
   ·try simp [empty_iff] at h_4
    exact W.some ⟨by omega, wrap_succ n_2 h0_s1 (by omega)⟩
  ·exact W.some trivial
theorem w_q09_Words {N : Nat} (hN : 1024 ≤ N ∧ N ≤ 4398046511104) : W (q09_Words) (fun r => (gList gStr) N r) := by
 delta q09_Words
 exact W.some ⟨by simp only [List.length_cons, List.length_nil]; omega, fun y hy => by simp only [List.mem_cons, List.not_mem_nil, or_false] at hy; rcases hy with rfl | rfl | rfl | rfl | rfl | rfl | rfl | rfl | rfl | rfl | rfl | rfl | rfl | rfl | rfl | rfl | rfl | rfl | rfl | rfl | rfl | rfl | rfl | rfl | rfl | rfl | rfl | rfl | rfl | rfl | rfl | rfl | rfl | rfl | rfl | rfl | rfl | rfl | rfl | rfl | rfl | rfl <;> first | trivial | exact gstr_bs (by decide) hN⟩
theorem w_q09_Word {N : Nat} (hN : 1024 ≤ N ∧ N ≤ 4398046511104) {s : ByteArray} (g_s : gStr N s) : W (q09_Word s) (fun r => True) := by
 delta q09_Word
 refine W.bind ?_
 refine (w_q09_Words hN).mono (fun r _ g_r => ?_)
 have n_1 : r.length ≤ 9223372036854775807 := (Nat.le_trans (g_r).1 (Nat.le_trans hN.2 (by decide)))
 refine W.over (r.length) n_1 (fun s1 h0_s1 hn_s1 => ?_)
 delta q09_Word_l1
 refine W.ite (fun h_2 => ?_) (fun h_2 => ?_)
 ·try simp [empty_iff] at h_2
  refine W.bind ?_
  refine W.row (G := gStr) (g_r) (by first | omega | (rw [w64_in] <;> omega)) (by first | omega | (rw [w64_in] <;> omega)) (fun o hx_o g_o => ?_)
  refine W.bind ?_
  refine W.idxG (G := gStr) (g_r) (by first | omega | (rw [w64_in] <;> omega)) (by first | omega | (rw [w64_in] <;> omega)) (fun x hx_x g_x => ?_)
  refine W.ite (fun h_3 => ?_) (fun h_3 => ?_)
  ·exact W.some trivial
  ·try simp [empty_iff] at h_3
   exact W.some ⟨by omega, wrap_succ n_1 h0_s1 (by omega)⟩
 ·exact W.some trivial
theorem w_q10_Variable {N : Nat} (hN : 1024 ≤ N ∧ N ≤ 4398046511104) {s : ByteArray} (g_s : gStr N s) : W (q10_Variable s) (fun r => True) := by
 delta q10_Variable
 refine W.bind ?_
 refine (w_q07_Name hN (g_s)).mono (fun r _ g_r => ?_)
 refine W.bind ?_
 refine W.guard (fun h_1 => ?_) (fun r1 => ?_)
 ·try simp [empty_iff] at h_1
  refine (w_q09_Word hN (g_s)).mono (fun r1 _ g_r1 => ?_)
  exact trivial
 exact W.some trivial
theorem w_q10_Validate {N : Nat} (hN : 1024 ≤ N ∧ N ≤ 4398046511104) {e : ApiExpr} (g_e : ApiExpr.sz N e) : W (q10_Validate e) (fun r => r = 0 → dep 101 e) := by
 unfold q10_Validate
 refine W.bind ((w_q10_Great hN g_e (by omega) (by omega)).mono (fun r _ hr => ?_))
 cases r with
 | true =>
  refine W.bind ⟨default, rfl, ?_⟩
  exact W.some (fun h => by cases h)
 | false =>
  obtain ⟨hd, hn⟩ := hr rfl
  refine W.bind ((w_q10_Depth hN 2097152 g_e hd (by omega)).mono (fun r1 _ _ => ?_))
  refine W.ite (fun _ => W.some (fun h => by cases h)) (fun _ => ?_)
  refine W.bind ((w_q10_right hN 2097152 g_e hd (by omega)).mono (fun r2 _ _ => ?_))
  refine W.ite (fun _ => W.some (fun h => by cases h)) (fun _ => ?_)
  have := hn 101
  refine W.bind ((w_q10_Names hN 2097152 g_e hd (by omega) this).mono (fun r3 _ h3 => ?_))
  refine W.over r3.length (by omega) (fun s h0 hn2 => ?_)
  unfold q10_Validate_l1
  refine W.ite (fun h => ?_) (fun h => W.some (fun _ => hd))
  simp at h
  refine W.bind (W.row0 h0 h (fun ri hri => ?_))
  refine W.bind ((w_q10_Variable hN (h3.2 ri (List.mem_of_getElem? hri))).mono (fun r4 _ _ => ?_))
  refine W.ite (fun _ => W.some (fun h => by cases h)) (fun _ => W.some ⟨by omega, w64_in (by omega) (by omega)⟩)
theorem w_q11_Good {N : Nat} (hN : 1024 ≤ N ∧ N ≤ 4398046511104) {t : Int} : W (q11_Good t) (fun r => True) := by
 delta q11_Good
 exact W.some trivial
theorem w_q11_scalar {N : Nat} (hN : 1024 ≤ N ∧ N ≤ 4398046511104) {t : Int} : W (q11_scalar t) (fun r => True) := by
 delta q11_scalar
 exact W.some trivial
theorem w_q11_product {N : Nat} (hN : 1024 ≤ N ∧ N ≤ 4398046511104) {a : Int} {b : Int} : W (q11_product a b) (fun r => (True ∧ True)) := by
 delta q11_product
 refine W.bind ?_
 refine (w_q11_scalar hN).mono (fun r _ g_r => ?_)
 refine W.bind ?_
 refine W.guard (fun h_1 => ?_) (fun r1 => ?_)
 ·try simp [empty_iff] at h_1
  refine (w_q11_scalar hN).mono (fun r1 _ g_r1 => ?_)
  exact trivial
 refine W.ite (fun h_2 => ?_) (fun h_2 => ?_)
 ·exact W.some ⟨trivial, trivial⟩
 ·try simp [empty_iff] at h_2
  refine W.ite (fun h_3 => ?_) (fun h_3 => ?_)
  ·exact W.some ⟨trivial, trivial⟩
  ·try simp [empty_iff] at h_3
   refine W.ite (fun h_4 => ?_) (fun h_4 => ?_)
   ·exact W.some ⟨trivial, trivial⟩
   ·exact W.some ⟨trivial, trivial⟩
theorem w_q11_two {N : Nat} (hN : 1024 ≤ N ∧ N ≤ 4398046511104) {op : Int} {a : Int} {b : Int} : W (q11_two op a b) (fun r => (True ∧ True)) := by
 delta q11_two
 refine W.ite (fun h_1 => ?_) (fun h_1 => ?_)
 ·try simp [empty_iff] at h_1
  refine W.ite (fun h_2 => ?_) (fun h_2 => ?_)
  ·exact W.some ⟨trivial, trivial⟩
  ·try simp [empty_iff] at h_2
   refine W.bind ?_
   refine W.guard (fun h_3 => ?_) (fun r => ?_)
   ·try simp [empty_iff] at h_3
    refine (w_q11_scalar hN).mono (fun r _ g_r => ?_)
    exact trivial
   exact W.some ⟨trivial, trivial⟩
 ·try simp [empty_iff] at h_1
  refine W.ite (fun h_2 => ?_) (fun h_2 => ?_)
  ·try simp [empty_iff] at h_2
   refine W.ite (fun h_3 => ?_) (fun h_3 => ?_)
   ·exact W.some ⟨trivial, trivial⟩
   ·try simp [empty_iff] at h_3
    refine W.ite (fun h_4 => ?_) (fun h_4 => ?_)
    ·exact W.some ⟨trivial, trivial⟩
    ·try simp [empty_iff] at h_4
     refine W.bind ?_
     refine W.guard (fun h_5 => ?_) (fun r1 => ?_)
     ·try simp [empty_iff] at h_5
      refine (w_q11_scalar hN).mono (fun r1 _ g_r1 => ?_)
      exact trivial
     exact W.some ⟨trivial, trivial⟩
  ·try simp [empty_iff] at h_2
   refine W.ite (fun h_3 => ?_) (fun h_3 => ?_)
   ·try simp [empty_iff] at h_3
    refine W.bind ?_
    refine (w_q11_product hN).mono (fun r2 _ g_r2 => ?_)
    exact W.some ⟨trivial, trivial⟩
   ·try simp [empty_iff] at h_3
    refine W.ite (fun h_4 => ?_) (fun h_4 => ?_)
    ·try simp [empty_iff] at h_4
     refine W.ite (fun h_5 => ?_) (fun h_5 => ?_)
     ·exact W.some ⟨trivial, trivial⟩
     ·try simp [empty_iff] at h_5
      refine W.bind ?_
      refine (w_q11_scalar hN).mono (fun r3 _ g_r3 => ?_)
      exact W.some ⟨trivial, trivial⟩
    ·try simp [empty_iff] at h_4
     refine W.ite (fun h_5 => ?_) (fun h_5 => ?_)
     ·try simp [empty_iff] at h_5
      delta q11_two_j3
      refine W.ite (fun h_6 => ?_) (fun h_6 => ?_)
      ·exact W.some ⟨trivial, trivial⟩
      ·try simp [empty_iff] at h_6
       refine W.ite (fun h_7 => ?_) (fun h_7 => ?_)
       ·try simp [empty_iff] at h_7
        delta q11_two_j2
        refine W.ite (fun h_8 => ?_) (fun h_8 => ?_)
        ·exact W.some ⟨trivial, trivial⟩
        ·try simp [empty_iff] at h_8
         refine W.ite (fun h_9 => ?_) (fun h_9 => ?_)
         ·try simp [empty_iff] at h_9
          delta q11_two_j1
          refine W.ite (fun h_10 => ?_) (fun h_10 => ?_)
          ·exact W.some ⟨trivial, trivial⟩
          ·try simp [empty_iff] at h_10
           refine W.ite (fun h_11 => ?_) (fun h_11 => ?_)
           ·try simp [empty_iff] at h_11
            delta q11_two_j0
            refine W.ite (fun h_12 => ?_) (fun h_12 => ?_)
            ·exact W.some ⟨trivial, trivial⟩
            ·exact W.some ⟨trivial, trivial⟩
           ·try simp [empty_iff] at h_11
            delta q11_two_j0
            refine W.ite (fun h_12 => ?_) (fun h_12 => ?_)
            ·exact W.some ⟨trivial, trivial⟩
            ·exact W.some ⟨trivial, trivial⟩
         ·try simp [empty_iff] at h_9
          delta q11_two_j1
          refine W.ite (fun h_10 => ?_) (fun h_10 => ?_)
          ·exact W.some ⟨trivial, trivial⟩
          ·try simp [empty_iff] at h_10
           refine W.ite (fun h_11 => ?_) (fun h_11 => ?_)
           ·try simp [empty_iff] at h_11
            delta q11_two_j0
            refine W.ite (fun h_12 => ?_) (fun h_12 => ?_)
            ·exact W.some ⟨trivial, trivial⟩
            ·exact W.some ⟨trivial, trivial⟩
           ·try simp [empty_iff] at h_11
            delta q11_two_j0
            refine W.ite (fun h_12 => ?_) (fun h_12 => ?_)
            ·exact W.some ⟨trivial, trivial⟩
            ·exact W.some ⟨trivial, trivial⟩
       ·try simp [empty_iff] at h_7
        delta q11_two_j2
        refine W.ite (fun h_8 => ?_) (fun h_8 => ?_)
        ·exact W.some ⟨trivial, trivial⟩
        ·try simp [empty_iff] at h_8
         refine W.ite (fun h_9 => ?_) (fun h_9 => ?_)
         ·try simp [empty_iff] at h_9
          delta q11_two_j1
          refine W.ite (fun h_10 => ?_) (fun h_10 => ?_)
          ·exact W.some ⟨trivial, trivial⟩
          ·try simp [empty_iff] at h_10
           refine W.ite (fun h_11 => ?_) (fun h_11 => ?_)
           ·try simp [empty_iff] at h_11
            delta q11_two_j0
            refine W.ite (fun h_12 => ?_) (fun h_12 => ?_)
            ·exact W.some ⟨trivial, trivial⟩
            ·exact W.some ⟨trivial, trivial⟩
           ·try simp [empty_iff] at h_11
            delta q11_two_j0
            refine W.ite (fun h_12 => ?_) (fun h_12 => ?_)
            ·exact W.some ⟨trivial, trivial⟩
            ·exact W.some ⟨trivial, trivial⟩
         ·try simp [empty_iff] at h_9
          delta q11_two_j1
          refine W.ite (fun h_10 => ?_) (fun h_10 => ?_)
          ·exact W.some ⟨trivial, trivial⟩
          ·try simp [empty_iff] at h_10
           refine W.ite (fun h_11 => ?_) (fun h_11 => ?_)
           ·try simp [empty_iff] at h_11
            delta q11_two_j0
            refine W.ite (fun h_12 => ?_) (fun h_12 => ?_)
            ·exact W.some ⟨trivial, trivial⟩
            ·exact W.some ⟨trivial, trivial⟩
           ·try simp [empty_iff] at h_11
            delta q11_two_j0
            refine W.ite (fun h_12 => ?_) (fun h_12 => ?_)
            ·exact W.some ⟨trivial, trivial⟩
            ·exact W.some ⟨trivial, trivial⟩
     ·try simp [empty_iff] at h_5
      delta q11_two_j3
      refine W.ite (fun h_6 => ?_) (fun h_6 => ?_)
      ·exact W.some ⟨trivial, trivial⟩
      ·try simp [empty_iff] at h_6
       refine W.ite (fun h_7 => ?_) (fun h_7 => ?_)
       ·try simp [empty_iff] at h_7
        delta q11_two_j2
        refine W.ite (fun h_8 => ?_) (fun h_8 => ?_)
        ·exact W.some ⟨trivial, trivial⟩
        ·try simp [empty_iff] at h_8
         refine W.ite (fun h_9 => ?_) (fun h_9 => ?_)
         ·try simp [empty_iff] at h_9
          delta q11_two_j1
          refine W.ite (fun h_10 => ?_) (fun h_10 => ?_)
          ·exact W.some ⟨trivial, trivial⟩
          ·try simp [empty_iff] at h_10
           refine W.ite (fun h_11 => ?_) (fun h_11 => ?_)
           ·try simp [empty_iff] at h_11
            delta q11_two_j0
            refine W.ite (fun h_12 => ?_) (fun h_12 => ?_)
            ·exact W.some ⟨trivial, trivial⟩
            ·exact W.some ⟨trivial, trivial⟩
           ·try simp [empty_iff] at h_11
            delta q11_two_j0
            refine W.ite (fun h_12 => ?_) (fun h_12 => ?_)
            ·exact W.some ⟨trivial, trivial⟩
            ·exact W.some ⟨trivial, trivial⟩
         ·try simp [empty_iff] at h_9
          delta q11_two_j1
          refine W.ite (fun h_10 => ?_) (fun h_10 => ?_)
          ·exact W.some ⟨trivial, trivial⟩
          ·try simp [empty_iff] at h_10
           refine W.ite (fun h_11 => ?_) (fun h_11 => ?_)
           ·try simp [empty_iff] at h_11
            delta q11_two_j0
            refine W.ite (fun h_12 => ?_) (fun h_12 => ?_)
            ·exact W.some ⟨trivial, trivial⟩
            ·exact W.some ⟨trivial, trivial⟩
           ·try simp [empty_iff] at h_11
            delta q11_two_j0
            refine W.ite (fun h_12 => ?_) (fun h_12 => ?_)
            ·exact W.some ⟨trivial, trivial⟩
            ·exact W.some ⟨trivial, trivial⟩
       ·try simp [empty_iff] at h_7
        delta q11_two_j2
        refine W.ite (fun h_8 => ?_) (fun h_8 => ?_)
        ·exact W.some ⟨trivial, trivial⟩
        ·try simp [empty_iff] at h_8
         refine W.ite (fun h_9 => ?_) (fun h_9 => ?_)
         ·try simp [empty_iff] at h_9
          delta q11_two_j1
          refine W.ite (fun h_10 => ?_) (fun h_10 => ?_)
          ·exact W.some ⟨trivial, trivial⟩
          ·try simp [empty_iff] at h_10
           refine W.ite (fun h_11 => ?_) (fun h_11 => ?_)
           ·try simp [empty_iff] at h_11
            delta q11_two_j0
            refine W.ite (fun h_12 => ?_) (fun h_12 => ?_)
            ·exact W.some ⟨trivial, trivial⟩
            ·exact W.some ⟨trivial, trivial⟩
           ·try simp [empty_iff] at h_11
            delta q11_two_j0
            refine W.ite (fun h_12 => ?_) (fun h_12 => ?_)
            ·exact W.some ⟨trivial, trivial⟩
            ·exact W.some ⟨trivial, trivial⟩
         ·try simp [empty_iff] at h_9
          delta q11_two_j1
          refine W.ite (fun h_10 => ?_) (fun h_10 => ?_)
          ·exact W.some ⟨trivial, trivial⟩
          ·try simp [empty_iff] at h_10
           refine W.ite (fun h_11 => ?_) (fun h_11 => ?_)
           ·try simp [empty_iff] at h_11
            delta q11_two_j0
            refine W.ite (fun h_12 => ?_) (fun h_12 => ?_)
            ·exact W.some ⟨trivial, trivial⟩
            ·exact W.some ⟨trivial, trivial⟩
           ·try simp [empty_iff] at h_11
            delta q11_two_j0
            refine W.ite (fun h_12 => ?_) (fun h_12 => ?_)
            ·exact W.some ⟨trivial, trivial⟩
            ·exact W.some ⟨trivial, trivial⟩
theorem w_q11_result {N : Nat} (hN : 1024 ≤ N ∧ N ≤ 4398046511104) {op : Int} {l : List Int} (g_l : (gList gAny) N l) : W (q11_result op l) (fun r => (True ∧ True)) := by
 delta q11_result
 refine W.ite (fun h_1 => ?_) (fun h_1 => ?_)
 ·try simp [empty_iff] at h_1
  refine W.bind ?_
  refine W.row0 (by first | omega | (rw [w64_in] <;> omega)) (by first | omega | (rw [w64_in] <;> omega) | (simp; omega)) (fun li hx_li => ?_)
  refine W.bind ?_
  refine W.row0 (by first | omega | (rw [w64_in] <;> omega)) (by first | omega | (rw [w64_in] <;> omega) | (simp; omega)) (fun li1 hx_li1 => ?_)
  refine W.bind ?_
  refine (w_q11_scalar hN).mono (fun r _ g_r => ?_)
  exact W.some ⟨trivial, trivial⟩
 ·try simp [empty_iff] at h_1
  refine W.ite (fun h_2 => ?_) (fun h_2 => ?_)
  ·try simp [empty_iff] at h_2
   refine W.bind ?_
   refine W.row0 (by first | omega | (rw [w64_in] <;> omega)) (by first | omega | (rw [w64_in] <;> omega) | (simp; omega)) (fun li2 hx_li2 => ?_)
   exact W.some ⟨trivial, trivial⟩
  ·try simp [empty_iff] at h_2
   refine W.ite (fun h_3 => ?_) (fun h_3 => ?_)
   ·try simp [empty_iff] at h_3
    refine W.bind ?_
    refine W.row0 (by first | omega | (rw [w64_in] <;> omega)) (by first | omega | (rw [w64_in] <;> omega) | (simp; omega)) (fun li3 hx_li3 => ?_)
    refine W.bind ?_
    refine W.row0 (by first | omega | (rw [w64_in] <;> omega)) (by first | omega | (rw [w64_in] <;> omega) | (simp; omega)) (fun li4 hx_li4 => ?_)
    refine W.bind ?_
    refine W.guard (fun h_4 => ?_) (fun li5 => ?_)
    ·try simp [empty_iff] at h_4
     refine W.row0 (by first | omega | (rw [w64_in] <;> omega)) (by first | omega | (rw [w64_in] <;> omega) | (simp; omega)) (fun li5 hx_li5 => ?_)
     exact trivial
    refine W.bind ?_
    refine W.guard (fun h_5 => ?_) (fun li6 => ?_)
    ·try simp [empty_iff] at h_5
     refine W.row0 (by first | omega | (rw [w64_in] <;> omega)) (by first | omega | (rw [w64_in] <;> omega) | (simp; omega)) (fun li6 hx_li6 => ?_)
     exact trivial
    exact W.some ⟨trivial, trivial⟩
   ·try simp [empty_iff] at h_3
    refine W.ite (fun h_4 => ?_) (fun h_4 => ?_)
    ·try simp [empty_iff] at h_4
     refine W.bind ?_
     refine W.row0 (by first | omega | (rw [w64_in] <;> omega)) (by first | omega | (rw [w64_in] <;> omega) | (simp; omega)) (fun li7 hx_li7 => ?_)
     refine W.bind ?_
     refine W.row0 (by first | omega | (rw [w64_in] <;> omega)) (by first | omega | (rw [w64_in] <;> omega) | (simp; omega)) (fun li8 hx_li8 => ?_)
     refine W.bind ?_
     refine (w_q11_two hN).mono (fun r9 _ g_r9 => ?_)
     exact W.some ⟨trivial, trivial⟩
    ·exact W.some ⟨trivial, trivial⟩
theorem w_q11_Result {N : Nat} (hN : 1024 ≤ N ∧ N ≤ 4398046511104) {op : Int} {types : List Int} (g_types : (gList gAny) N types) : W (q11_Result op types) (fun r => (True ∧ True)) := by
 delta q11_Result
 refine W.ite (fun h_1 => ?_) (fun h_1 => ?_)
 ·exact W.some ⟨trivial, trivial⟩
 ·try simp [empty_iff] at h_1
  have n_2 : types.length ≤ 9223372036854775807 := (Nat.le_trans (g_types).1 (Nat.le_trans hN.2 (by decide)))
  refine W.over (types.length) n_2 (fun s h0_s hn_s => ?_)
  delta q11_Result_l1
  refine W.ite (fun h_3 => ?_) (fun h_3 => ?_)
  ·try simp [empty_iff] at h_3
   refine W.bind ?_
   refine W.row0 (by first | omega | (rw [w64_in] <;> omega)) (by first | omega | (rw [w64_in] <;> omega) | (simp; omega)) (fun type hx_type => ?_)
   refine W.bind ?_
   refine (w_q11_Good hN).mono (fun r _ g_r => ?_)
   refine W.ite (fun h_4 => ?_) (fun h_4 => ?_)
   ·exact W.some ⟨trivial, trivial⟩
   ·try simp [empty_iff] at h_4
    exact W.some ⟨by omega, wrap_succ n_2 h0_s (by omega)⟩
  ·try simp [empty_iff] at h_3
   refine W.map ?_
   refine W.bind ?_
   refine (w_q11_result hN (good_any (g_types))).mono (fun r1 _ g_r1 => ?_)
   refine W.ite (fun h_4 => ?_) (fun h_4 => ?_)
   ·exact W.some ⟨trivial, trivial⟩
   ·exact W.some ⟨trivial, trivial⟩
theorem w_q11_of {N : Nat} (hN : 1024 ≤ N ∧ N ≤ 4398046511104) {vars : List ApiVar} (gv : gList ApiVar.sz N vars) : ∀ (f : Nat) {k : Nat} {e : ApiExpr}, ApiExpr.sz N e → dep k e → k ≤ f → W (q11_of f e vars) (fun r => True)
 | 0, k, e, he, hd, hk => by
  obtain rfl : k = 0 := by omega
  exact hd.elim
 | f + 1, k, e, he, hd, hk => by
  have ha := (sz_ApiExpr he).2
  have hl := ha.1
  have hv := gv.1
  cases k with
  | zero => exact hd.elim
  | succ k =>
   show W (q11_of_body (q11_of f) e vars) _
   unfold q11_of_body
   refine W.ite (fun _ => W.some trivial) (fun _ => W.ite (fun _ => W.some trivial) (fun _ => W.ite (fun _ => W.some trivial) (fun _ => W.ite (fun _ => ?_) (fun _ => ?_))))
   ·refine W.over vars.length (by omega) (fun s h0 hn => ?_)
    unfold q11_of_l1
    refine W.ite (fun h => ?_) (fun h => W.some trivial)
    simp at h
    refine W.bind (W.row0 h0 h (fun x hx => ?_))
    refine W.bind (W.guard (fun _ => W.row0 h0 h (fun _ _ => trivial)) (fun x1 => ?_))
    refine W.bind (W.guard (fun _ => w_q11_Good hN) (fun r => ?_))
    refine W.ite (fun _ => W.bind (W.row0 h0 h (fun _ _ => W.some trivial))) (fun _ => W.bind (W.row0 h0 h (fun _ _ => W.ite (fun _ => W.some trivial) (fun _ => W.some ⟨by omega, w64_in (by omega) (by omega)⟩))))
   ·refine W.iter (fun s => 0 ≤ s.1 ∧ s.1 ≤ (e.Args.length : Int) ∧ s.2.length ≤ s.1.toNat) (fun s => e.Args.length - s.1.toNat) ⟨by simp, by simp, by simp⟩ (by simp; omega) (fun s hs => ?_)
    obtain ⟨i0, i1, i2⟩ := hs
    unfold q11_of_l2
    refine W.ite (fun h => ?_) (fun h => ?_)
    ·simp at h
     refine W.bind (W.row ha i0 h (fun y hy gy => ?_))
     refine W.bind ((w_q11_of hN gv f gy (hd y (List.mem_of_getElem? hy)) (by omega)).mono (fun r5 _ _ => ?_))
     refine W.ite (fun _ => W.some trivial) (fun _ => ?_)
     rw [if_pos (by simp; omega)]
     have w : IntKind.wrap .i64 (s.1 + 1) = s.1 + 1 := w64_in (by omega) (by omega)
     rw [w]
     exact W.some ⟨⟨show 0 ≤ s.1 + 1 by omega, show s.1 + 1 ≤ _ by omega, show (s.2 ++ [r5.1]).length ≤ (s.1 + 1).toNat by simp; omega⟩, show e.Args.length - (s.1 + 1).toNat < e.Args.length - s.1.toNat by omega⟩
    ·refine W.map (W.bind ((w_q11_Result hN (types := s.2) ⟨by omega, fun _ _ => trivial⟩).mono (fun r6 _ _ => ?_)))
     exact W.ite (fun _ => W.some trivial) (fun _ => W.some trivial)
theorem w_q11_Of {N : Nat} (hN : 1024 ≤ N ∧ N ≤ 4398046511104) {e : ApiExpr} {vars : List ApiVar} (g_e : ApiExpr.sz N e) (g_vars : (gList ApiVar.sz) N vars) : W (q11_Of e vars) (fun r => True ∧ True) := by
 unfold q11_Of
 refine W.bind ((w_q10_Validate hN g_e).mono (fun r _ hr => ?_))
 refine W.ite (fun _ => W.some ⟨trivial, trivial⟩) (fun h => ?_)
 refine W.bind ((w_q11_of hN g_vars 2097152 g_e (hr (by simpa using h)) (by omega)).mono (fun r1 _ _ => ?_))
 exact W.some ⟨trivial, trivial⟩
theorem w_q11_Check {N : Nat} (hN : 1024 ≤ N ∧ N ≤ 4398046511104) {e : ApiExpr} {vars : List ApiVar} {want : Int} (g_e : ApiExpr.sz N e) (g_vars : (gList ApiVar.sz) N vars) : W (q11_Check e vars want) (fun r => True) := by
 delta q11_Check
 refine W.bind ?_
 refine (w_q11_Of hN (g_e) (g_vars)).mono (fun r _ g_r => ?_)
 refine W.ite (fun h_1 => ?_) (fun h_1 => ?_)
 ·exact W.some trivial
 ·try simp [empty_iff] at h_1
  refine W.ite (fun h_2 => ?_) (fun h_2 => ?_)
  ·exact W.some trivial
  ·exact W.some trivial
theorem w_q15_fee {N : Nat} (hN : 1024 ≤ N ∧ N ≤ 4398046511104) {f : ApiFee} (g_f : ApiFee.sz N f) : W (q15_fee f) (fun r => True) := by
 delta q15_fee
 refine W.bind ?_
 refine (w_q15_Name hN (g_f.1)).mono (fun r _ g_r => ?_)
 refine W.ite (fun h_1 => ?_) (fun h_1 => ?_)
 ·exact W.some trivial
 ·try simp [empty_iff] at h_1
  refine W.ite (fun h_2 => ?_) (fun h_2 => ?_)
  ·exact W.some trivial
  ·try simp [empty_iff] at h_2
   refine W.bind ?_
   refine (w_q15_Vars hN).mono (fun r1 _ g_r1 => ?_)
   refine W.bind ?_
   refine (w_q11_Check hN (g_f.2.1) (g_r1)).mono (fun r2 _ g_r2 => ?_)
   refine W.ite (fun h_3 => ?_) (fun h_3 => ?_)
   ·exact W.some trivial
   ·try simp [empty_iff] at h_3
    refine W.bind ?_
    refine (w_q15_Vars hN).mono (fun r3 _ g_r3 => ?_)
    refine W.bind ?_
    refine (w_q11_Check hN (g_f.2.2) (g_r3)).mono (fun r4 _ g_r4 => ?_)
    exact W.some trivial
theorem w_q15_rule {N : Nat} (hN : 1024 ≤ N ∧ N ≤ 4398046511104) {x : ApiRule} (g_x : ApiRule.sz N x) : W (q15_rule x) (fun r => True) := by
 delta q15_rule
 refine W.bind ?_
 refine (w_q15_Name hN (g_x.1)).mono (fun r _ g_r => ?_)
 refine W.ite (fun h_1 => ?_) (fun h_1 => ?_)
 ·exact W.some trivial
 ·try simp [empty_iff] at h_1
  refine W.ite (fun h_2 => ?_) (fun h_2 => ?_)
  ·exact W.some trivial
  ·try simp [empty_iff] at h_2
   refine W.bind ?_
   refine (w_q15_Vars hN).mono (fun r1 _ g_r1 => ?_)
   refine W.bind ?_
   refine (w_q11_Check hN (g_x.2) (g_r1)).mono (fun r2 _ g_r2 => ?_)
   exact W.some trivial
theorem w_q15_Check {N : Nat} (hN : 1024 ≤ N ∧ N ≤ 4398046511104) {p : ApiProduct} {l : List ApiCurrency} {c : List ApiCalendar} (g_p : ApiProduct.sz N p) (g_l : (gList ApiCurrency.sz) N l) (g_c : (gList ApiCalendar.sz) N c) : W (q15_Check p l c) (fun r => True) := by
 delta q15_Check
 refine W.bind ?_
 refine (w_q15_Name hN (g_p.1)).mono (fun r _ g_r => ?_)
 refine W.ite (fun h_1 => ?_) (fun h_1 => ?_)
 ·exact W.some trivial
 ·try simp [empty_iff] at h_1
  refine W.bind ?_
  refine (w_q03_Find hN (g_l) (g_p.2.1)).mono (fun r1 _ g_r1 => ?_)
  refine W.ite (fun h_2 => ?_) (fun h_2 => ?_)
  ·exact W.some trivial
  ·try simp [empty_iff] at h_2
   refine W.bind ?_
   refine (w_q05_Find hN (g_c) (g_p.2.2.1)).mono (fun r2 _ g_r2 => ?_)
   refine W.ite (fun h_3 => ?_) (fun h_3 => ?_)
   ·exact W.some trivial
   ·try simp [empty_iff] at h_3
    refine W.bind ?_
    refine (w_q04_Valid hN).mono (fun r3 _ g_r3 => ?_)
    refine W.ite (fun h_4 => ?_) (fun h_4 => ?_)
    ·exact W.some trivial
    ·try simp [empty_iff] at h_4
     refine W.bind ?_
     refine (w_q15_interest hN (g_p.2.2.2.1)).mono (fun r4 _ g_r4 => ?_)
     refine W.ite (fun h_5 => ?_) (fun h_5 => ?_)
     ·exact W.some trivial
     ·try simp [empty_iff] at h_5
      refine W.bind ?_
      refine (w_q15_interest hN (g_p.2.2.2.2.1)).mono (fun r5 _ g_r5 => ?_)
      refine W.ite (fun h_6 => ?_) (fun h_6 => ?_)
      ·exact W.some trivial
      ·try simp [empty_iff] at h_6
       refine W.ite (fun h_7 => ?_) (fun h_7 => ?_)
       ·exact W.some trivial
       ·try simp [empty_iff] at h_7
        have n_8 : p.Fees.length ≤ 9223372036854775807 := (Nat.le_trans (g_p.2.2.2.2.2.1).1 (Nat.le_trans hN.2 (by decide)))
        refine W.over (p.Fees.length) n_8 (fun s h0_s hn_s => ?_)
        delta q15_Check_l1
        refine W.ite (fun h_9 => ?_) (fun h_9 => ?_)
        ·try simp [empty_iff] at h_9
         refine W.bind ?_
         refine W.row (G := ApiFee.sz) (g_p.2.2.2.2.2.1) (by first | omega | (rw [w64_in] <;> omega)) (by first | omega | (rw [w64_in] <;> omega)) (fun fee hx_fee g_fee => ?_)
         refine W.bind ?_
         refine (w_q15_fee hN (g_fee)).mono (fun r6 _ g_r6 => ?_)
         refine W.ite (fun h_10 => ?_) (fun h_10 => ?_)
         ·exact W.some trivial
         ·try simp [empty_iff] at h_10
          exact W.some ⟨by omega, wrap_succ n_8 h0_s (by omega)⟩
        ·try simp [empty_iff] at h_9
         refine W.map ?_
         have n_10 : p.Rules.length ≤ 9223372036854775807 := (Nat.le_trans (g_p.2.2.2.2.2.2).1 (Nat.le_trans hN.2 (by decide)))
         refine W.over (p.Rules.length) n_10 (fun s7 h0_s7 hn_s7 => ?_)
         delta q15_Check_l2
         refine W.ite (fun h_11 => ?_) (fun h_11 => ?_)
         ·try simp [empty_iff] at h_11
          refine W.bind ?_
          refine W.row (G := ApiRule.sz) (g_p.2.2.2.2.2.2) (by first | omega | (rw [w64_in] <;> omega)) (by first | omega | (rw [w64_in] <;> omega)) (fun rule hx_rule g_rule => ?_)
          refine W.bind ?_
          refine (w_q15_rule hN (g_rule)).mono (fun r8 _ g_r8 => ?_)
          refine W.ite (fun h_12 => ?_) (fun h_12 => ?_)
          ·exact W.some trivial
          ·try simp [empty_iff] at h_12
           exact W.some ⟨by omega, wrap_succ n_10 h0_s7 (by omega)⟩
         ·exact W.some trivial
theorem w_q26_products {N : Nat} (hN : 1024 ≤ N ∧ N ≤ 4398046511104) {b : ApiBooks} (g_b : ApiBooks.sz N b) : W (q26_products b) (fun r => True) := by
 delta q26_products
 refine W.bind ?_
 refine (w_q17_Check hN (g_b.2.2.2.1)).mono (fun r _ g_r => ?_)
 have n_1 : b.Products.length ≤ 9223372036854775807 := (Nat.le_trans (g_b.2.2.2.1).1 (Nat.le_trans hN.2 (by decide)))
 refine W.overT (fun s => s.2) (b.Products.length) n_1 (by simp) (fun s h0_s => ?_)
 have h0_s : 0 ≤ s.2 := h0_s
 delta q26_products_l1
 refine W.ite (fun h_2 => ?_) (fun h_2 => ?_)
 ·try simp [empty_iff] at h_2
  refine W.bind ?_
  refine W.row (G := ApiProduct.sz) (g_b.2.2.2.1) (by first | omega | (rw [w64_in] <;> omega)) (by first | omega | (rw [w64_in] <;> omega)) (fun product hx_product g_product => ?_)
  refine W.bind ?_
  refine (w_q15_Check hN (g_product) (g_b.1) (g_b.2.1)).mono (fun r1 _ g_r1 => ?_)
  exact W.some ⟨show s.2 < _ by omega, wrap_succ n_1 h0_s (by omega)⟩
 ·exact W.some trivial
theorem w_q08_Plain {N : Nat} (hN : 1024 ≤ N ∧ N ≤ 4398046511104) {s : ByteArray} (g_s : gStr N s) : W (q08_Plain s) (fun r => True) := by
 delta q08_Plain
 have n_1 : s.size ≤ 9223372036854775807 := (g_s).2
 refine W.over (s.size) n_1 (fun s1 h0_s1 hn_s1 => ?_)
 delta q08_Plain_l1
 refine W.ite (fun h_2 => ?_) (fun h_2 => ?_)
 ·try simp [empty_iff] at h_2
  refine W.need (by have a1 := (g_s).1; first | omega | (intro hc; (try simp [empty_iff] at hc); omega) | (intro hc; simp only [empty_iff] at hc; simp at hc; omega) | (simp only [List.length_nil, List.length_append, List.length_cons, subl, List.length_drop, List.length_take, List.length_map]; omega)) ?_
  refine W.need (by have a1 := (g_s).1; first | omega | (intro hc; (try simp [empty_iff] at hc); omega) | (intro hc; simp only [empty_iff] at hc; simp at hc; omega) | (simp only [List.length_nil, List.length_append, List.length_cons, subl, List.length_drop, List.length_take, List.length_map]; omega)) ?_
  refine W.need (by have a1 := (g_s).1; first | omega | (intro hc; (try simp [empty_iff] at hc); omega) | (intro hc; simp only [empty_iff] at hc; simp at hc; omega) | (simp only [List.length_nil, List.length_append, List.length_cons, subl, List.length_drop, List.length_take, List.length_map]; omega)) ?_
  refine W.need (by have a1 := (g_s).1; first | omega | (intro hc; (try simp [empty_iff] at hc); omega) | (intro hc; simp only [empty_iff] at hc; simp at hc; omega) | (simp only [List.length_nil, List.length_append, List.length_cons, subl, List.length_drop, List.length_take, List.length_map]; omega)) ?_
  refine W.ite (fun h_3 => ?_) (fun h_3 => ?_)
  ·exact W.some trivial
  ·try simp [empty_iff] at h_3
   exact W.some ⟨by omega, wrap_succ n_1 h0_s1 (by omega)⟩
 ·exact W.some trivial
theorem bt_rng (s : ByteArray) (i : Int) : 0 ≤ bt s i ∧ bt s i ≤ 255 := by
 unfold bt
 split
 ·rename_i h
  have := (s[i.toNat]'h).toNat_lt
  omega
 ·omega
theorem wu8 (n : Int) : IntKind.wrap .u8 n = n % 256 := by
 unfold IntKind.wrap IntKind.bits IntKind.signed
 simp
theorem w_q08_rest {N : Nat} (hN : 1024 ≤ N ∧ N ≤ 4398046511104) {s : ByteArray} (g_s : s.size ≤ 9223372036854775807) : W (q08_rest s) (fun r => 0 ≤ r ∧ r ≤ 96) := by
 unfold q08_rest
 refine W.iter (fun s1 => (0 ≤ s1.1 ∧ s1.1 ≤ 96) ∧ 0 ≤ s1.2 ∧ s1.2 ≤ (s.size : Int)) (fun s1 => s.size - s1.2.toNat) ⟨by simp, by simp⟩ (by simp; omega) (fun s1 h => ?_)
 obtain ⟨⟨a0, a1⟩, b0, b1⟩ := h
 unfold q08_rest_l1
 refine W.ite (fun h => ?_) (fun _ => W.some ⟨a0, a1⟩)
 simp at h
 have hb := bt_rng s s1.2
 have w3 : IntKind.wrap .i64 (s1.2 + 1) = s1.2 + 1 := w64_in (by omega) (by omega)
 rw [if_pos ⟨b0, h⟩]
 have w8 : ∀ n : Int, IntKind.wrap .i64 (IntKind.wrap .u8 n) = n % 256 := fun n => by rw [wu8]; exact w64_in (by omega) (by omega)
 have w1 : IntKind.wrap .i64 (10 * s1.1) = 10 * s1.1 := w64_in (by omega) (by omega)
 have w2 : IntKind.wrap .i64 (100 * s1.1) = 100 * s1.1 := w64_in (by omega) (by omega)
 refine W.ite (fun _ => ?_) (fun _ => ?_)
 ·unfold q08_rest_j0
  rw [if_pos ⟨b0, h⟩, w8, w1, w3, w64_in (by omega) (by omega), Int.tmod_eq_emod_of_nonneg (by omega)]
  exact W.some ⟨⟨⟨show 0 ≤ _ % 97 by omega, show _ % 97 ≤ 96 by omega⟩, show 0 ≤ s1.2 + 1 by omega, show s1.2 + 1 ≤ _ by omega⟩, show s.size - (s1.2 + 1).toNat < s.size - s1.2.toNat by omega⟩
 ·unfold q08_rest_j0
  rw [if_pos ⟨b0, h⟩, w8, w2, w3, w64_in (n := 100 * s1.1 + (bt s s1.2 - 65) % 256) (by omega) (by omega), w64_in (by omega) (by omega), Int.tmod_eq_emod_of_nonneg (by omega)]
  exact W.some ⟨⟨⟨show 0 ≤ _ % 97 by omega, show _ % 97 ≤ 96 by omega⟩, show 0 ≤ s1.2 + 1 by omega, show s1.2 + 1 ≤ _ by omega⟩, show s.size - (s1.2 + 1).toNat < s.size - s1.2.toNat by omega⟩
theorem bsz2 : (bs [48, 48]).size = 2 := rfl
theorem digsz : (bs [48, 49, 50, 51, 52, 53, 54, 55, 56, 57]).size = 10 := rfl
theorem w_q08_Seal {N : Nat} (hN : 1024 ≤ N ∧ N ≤ 4398046511104) {s : ByteArray} (g_s : gStr N s) : W (q08_Seal s) (fun r => gStr N r.1 ∧ True) := by
 unfold q08_Seal
 refine W.ite (fun _ => W.some ⟨gstr_empty, trivial⟩) (fun h => ?_)
 have hs : (1 : Int) ≤ s.size ∧ (s.size : Int) ≤ 46 := by simp at h; omega
 refine W.bind ((w_q08_Plain hN g_s).mono (fun r _ _ => ?_))
 refine W.ite (fun _ => W.some ⟨gstr_empty, trivial⟩) (fun _ => ?_)
 rw [if_pos (by rw [bsz2]; omega)]
 refine W.bind ((w_q08_rest hN (s := s ++ bs [48, 48]) (by rw [ByteArray.size_append, bsz2]; omega)).mono (fun r1 _ hr => ?_))
 have w0 : IntKind.wrap .i64 (98 - r1) = 98 - r1 := w64_in (by omega) (by omega)
 have t1 : (98 - r1).tdiv 10 = (98 - r1) / 10 := Int.tdiv_eq_ediv_of_nonneg (by omega)
 have t2 : (98 - r1).tmod 10 = (98 - r1) % 10 := Int.tmod_eq_emod_of_nonneg (by omega)
 have w1 : IntKind.wrap .i64 ((98 - r1) / 10) = (98 - r1) / 10 := w64_in (by omega) (by omega)
 have w2 : IntKind.wrap .i64 ((98 - r1) / 10 + 1) = (98 - r1) / 10 + 1 := w64_in (by omega) (by omega)
 have w3 : IntKind.wrap .i64 ((98 - r1) % 10 + 1) = (98 - r1) % 10 + 1 := w64_in (by omega) (by omega)
 simp only [w0, t1, t2, w1, w2, w3, ByteArray.size_append, ByteArray.size_extract, digsz]
 rw [if_pos (by omega), if_pos (by omega), if_pos (by omega), if_pos (by omega)]
 refine W.some ⟨?_, trivial⟩
 unfold gStr maxLen
 simp only [ByteArray.size_append, ByteArray.size_extract, digsz]
 omega
theorem w_q24_Number {N : Nat} (hN : 1024 ≤ N ∧ N ≤ 4398046511104) {id : Int} : W (q24_Number id) (fun r => gStr N r) := by
 unfold q24_Number
 refine W.ite (fun _ => W.some gstr_empty) (fun h => ?_)
 have hi : 1000 ≤ id ∧ id ≤ 99999999 := by simp at h; omega
 refine W.iter (fun s => (0 ≤ s.1 ∧ s.1 ≤ 99999999) ∧ (0 ≤ s.2.2 ∧ s.2.2 ≤ 8) ∧ (s.2.1.size : Int) = s.2.2) (fun s => 8 - s.2.2.toNat) ⟨⟨by simp; omega, by simp; omega⟩, ⟨by simp, by simp⟩, rfl⟩ (by simp) (fun s h => ?_)
 obtain ⟨⟨a0, a1⟩, ⟨b0, b1⟩, c⟩ := h
 have c1 : (bs [67, 66]).size = 2 := rfl
 unfold q24_Number_l1
 refine W.ite (fun h => ?_) (fun _ => W.map ?_)
 ·simp at h
  have t1 : s.1.tdiv 10 = s.1 / 10 := Int.tdiv_eq_ediv_of_nonneg a0
  have t2 : s.1.tmod 10 = s.1 % 10 := Int.tmod_eq_emod_of_nonneg a0
  have w1 : IntKind.wrap .i64 (s.1 / 10) = s.1 / 10 := w64_in (by omega) (by omega)
  have w2 : IntKind.wrap .i64 (s.1 % 10 + 1) = s.1 % 10 + 1 := w64_in (by omega) (by omega)
  have w3 : IntKind.wrap .i64 (s.2.2 + 1) = s.2.2 + 1 := w64_in (by omega) (by omega)
  simp only [t1, t2, w1, w2, w3, ByteArray.size_extract, digsz]
  rw [if_pos (by omega), if_pos (by omega)]
  refine W.some ⟨⟨⟨show 0 ≤ s.1 / 10 by omega, show s.1 / 10 ≤ _ by omega⟩, ⟨show 0 ≤ s.2.2 + 1 by omega, show s.2.2 + 1 ≤ 8 by omega⟩, ?_⟩, show 8 - (s.2.2 + 1).toNat < 8 - s.2.2.toNat by omega⟩
  simp only [ByteArray.size_append, ByteArray.size_extract, digsz]
  omega
 ·rw [if_pos (by rw [c1]; omega)]
  refine W.bind ((w_q08_Seal hN (s := bs [67, 66] ++ s.2.1) ?_).mono (fun r _ hr => W.some hr.1))
  unfold gStr maxLen
  rw [ByteArray.size_append, c1]
  omega
theorem w_q24_shaped {N : Nat} (hN : 1024 ≤ N ∧ N ≤ 4398046511104) {a : ApiAccount} (g_a : ApiAccount.sz N a) : W (q24_shaped a) (fun r => True) := by
 delta q24_shaped
 refine W.bind ?_
 refine W.guard (fun h_1 => ?_) (fun r => ?_)
 ·try simp [empty_iff] at h_1
  refine (w_q04_Valid hN).mono (fun r _ g_r => ?_)
  exact trivial
 refine W.bind ?_
 refine W.guard (fun h_2 => ?_) (fun r1 => ?_)
 ·try simp [empty_iff] at h_2
  refine (w_q24_Number hN).mono (fun r1 _ g_r1 => ?_)
  exact trivial
 exact W.some trivial
theorem w_q17_At {N : Nat} (hN : 1024 ≤ N ∧ N ≤ 4398046511104) {l : List ApiProduct} {name : ByteArray} {day : Int} (g_l : (gList ApiProduct.sz) N l) (g_name : gStr N name) : W (q17_At l name day) (fun r => (ApiProduct.sz N r.1 ∧ True)) := by
 delta q17_At
 have z0_q17_At_l1 := Nat.le_trans (g_l).1 hN.2
 refine W.iter (fun s => 0 ≤ s.2 ∧ s.1 < (l.length : Int) ∧ l.length ≤ 4398046511104) (fun s => (l.length - s.2.toNat)) (by (try simp only [List.length_map]); omega) (by (try simp only [List.length_map]); omega) (fun s hI_s => ?_)
 have hI_s : 0 ≤ s.2 ∧ s.1 < (l.length : Int) ∧ l.length ≤ 4398046511104 := hI_s
 delta q17_At_l1
 refine W.ite (fun h_1 => ?_) (fun h_1 => ?_)
 ·try simp [empty_iff] at h_1
  refine W.bind ?_
  refine W.row (G := ApiProduct.sz) (g_l) (by first | omega | (rw [w64_in] <;> omega)) (by first | omega | (rw [w64_in] <;> omega)) (fun li hx_li g_li => ?_)
  refine W.bind ?_
  refine W.guard (fun h_2 => ?_) (fun li1 => ?_)
  ·try simp [empty_iff] at h_2
   refine W.row (G := ApiProduct.sz) (g_l) (by first | omega | (rw [w64_in] <;> omega)) (by first | omega | (rw [w64_in] <;> omega)) (fun li1 hx_li1 g_li1 => ?_)
   exact trivial
  refine W.bind ?_
  refine W.guard (fun h_3 => ?_) (fun li2 => ?_)
  ·try simp [empty_iff] at h_3
   refine W.row (G := ApiProduct.sz) (g_l) (by first | omega | (rw [w64_in] <;> omega)) (by first | omega | (rw [w64_in] <;> omega)) (fun li2 hx_li2 g_li2 => ?_)
   exact trivial
  refine W.bind ?_
  refine W.guard (fun h_4 => ?_) (fun li3 => ?_)
  ·try simp [empty_iff] at h_4
   refine W.row (G := ApiProduct.sz) (g_l) (by first | omega | (rw [w64_in] <;> omega)) (by first | omega | (rw [w64_in] <;> omega)) (fun li3 hx_li3 g_li3 => ?_)
   exact trivial
  refine W.ite (fun h_5 => ?_) (fun h_5 => ?_)
  ·try simp [empty_iff] at h_5
   delta q17_At_j0
   exact W.some (by have hw0 : IntKind.wrap .i64 (s.2 + 1) = (s.2 + 1) := w64_in (by omega) (by omega); exact ⟨by simp only [hw0]; omega, by simp only [hw0]; omega⟩)
  ·try simp [empty_iff] at h_5
   delta q17_At_j0
   exact W.some (by have hw0 : IntKind.wrap .i64 (s.2 + 1) = (s.2 + 1) := w64_in (by omega) (by omega); exact ⟨by simp only [hw0]; omega, by simp only [hw0]; omega⟩)
 ·try simp [empty_iff] at h_1
  refine W.map ?_
  refine W.ite (fun h_2 => ?_) (fun h_2 => ?_)
  ·exact W.some ⟨⟨(gstr_bs (by decide) hN), (gstr_bs (by decide) hN), (gstr_bs (by decide) hN), glist_nil, glist_nil, glist_nil, glist_nil⟩, trivial⟩
  ·try simp [empty_iff] at h_2
   refine W.bind ?_
   refine W.row (G := ApiProduct.sz) (g_l) (by first | omega | (rw [w64_in] <;> omega)) (by first | omega | (rw [w64_in] <;> omega)) (fun li5 hx_li5 g_li5 => ?_)
   exact W.some ⟨(g_li5), trivial⟩
theorem w_q24_owned {N : Nat} (hN : 1024 ≤ N ∧ N ≤ 4398046511104) {b : ApiBooks} {a : ApiAccount} (g_b : ApiBooks.sz N b) (g_a : ApiAccount.sz N a) : W (q24_owned b a) (fun r => True) := by
 delta q24_owned
 refine W.bind ?_
 refine (w_q15_Name hN (g_a.1)).mono (fun r _ g_r => ?_)
 refine W.ite (fun h_1 => ?_) (fun h_1 => ?_)
 ·exact W.some trivial
 ·try simp [empty_iff] at h_1
  refine W.bind ?_
  refine (w_q17_At hN (g_b.2.2.2.1) (g_a.2.1)).mono (fun r1 _ g_r1 => ?_)
  refine W.ite (fun h_2 => ?_) (fun h_2 => ?_)
  ·exact W.some trivial
  ·exact W.some trivial
theorem w_q24_Check {N : Nat} (hN : 1024 ≤ N ∧ N ≤ 4398046511104) {b : ApiBooks} (g_b : ApiBooks.sz N b) : W (q24_Check b) (fun r => True) := by
 delta q24_Check
 refine W.ite (fun h_1 => ?_) (fun h_1 => ?_)
 ·exact W.some trivial
 ·try simp [empty_iff] at h_1
  have n_2 : b.Accounts.length ≤ 9223372036854775807 := (Nat.le_trans (g_b.2.2.2.2.1).1 (Nat.le_trans hN.2 (by decide)))
  refine W.over (b.Accounts.length) n_2 (fun s h0_s hn_s => ?_)
  delta q24_Check_l1
  refine W.ite (fun h_3 => ?_) (fun h_3 => ?_)
  ·try simp [empty_iff] at h_3
   refine W.bind ?_
   refine W.row (G := ApiAccount.sz) (g_b.2.2.2.2.1) (by first | omega | (rw [w64_in] <;> omega)) (by first | omega | (rw [w64_in] <;> omega)) (fun account hx_account g_account => ?_)
   refine W.bind ?_
   refine W.guard (fun h_4 => ?_) (fun r => ?_)
   ·try simp [empty_iff] at h_4
    refine (w_q04_Valid hN).mono (fun r _ g_r => ?_)
    exact trivial
   refine W.bind ?_
   refine (w_q24_shaped hN (g_account)).mono (fun r1 _ g_r1 => ?_)
   refine W.ite (fun h_5 => ?_) (fun h_5 => ?_)
   ·exact W.some trivial
   ·try simp [empty_iff] at h_5
    refine W.bind ?_
    refine W.guard (fun h_6 => ?_) (fun account2 => ?_)
    ·try simp [empty_iff] at h_6
     refine W.row (G := ApiAccount.sz) (g_b.2.2.2.2.1) (by first | omega | (rw [w64_in] <;> omega)) (by first | omega | (rw [w64_in] <;> omega)) (fun account2 hx_account2 g_account2 => ?_)
     exact trivial
    refine W.ite (fun h_7 => ?_) (fun h_7 => ?_)
    ·exact W.some trivial
    ·try simp [empty_iff] at h_7
     refine W.bind ?_
     refine (w_q24_owned hN (g_b) (g_account)).mono (fun r3 _ g_r3 => ?_)
     refine W.ite (fun h_8 => ?_) (fun h_8 => ?_)
     ·exact W.some trivial
     ·try simp [empty_iff] at h_8
      exact W.some ⟨by omega, wrap_succ n_2 h0_s (by omega)⟩
  ·exact W.some trivial
theorem w_q07_Printed {N : Nat} (hN : 1024 ≤ N ∧ N ≤ 4398046511104) {s : ByteArray} {most : Int} {low : Int} (g_s : gStr N s) : W (q07_Printed s most low) (fun r => True) := by
 delta q07_Printed
 refine W.ite (fun h_1 => ?_) (fun h_1 => ?_)
 ·exact W.some trivial
 ·try simp [empty_iff] at h_1
  have n_2 : s.size ≤ 9223372036854775807 := (g_s).2
  refine W.over (s.size) n_2 (fun s1 h0_s1 hn_s1 => ?_)
  delta q07_Printed_l1
  refine W.ite (fun h_3 => ?_) (fun h_3 => ?_)
  ·try simp [empty_iff] at h_3
   refine W.need (by have a1 := (g_s).1; first | omega | (intro hc; (try simp [empty_iff] at hc); omega) | (intro hc; simp only [empty_iff] at hc; simp at hc; omega) | (simp only [List.length_nil, List.length_append, List.length_cons, subl, List.length_drop, List.length_take, List.length_map]; omega)) ?_
   refine W.need (by have a1 := (g_s).1; first | omega | (intro hc; (try simp [empty_iff] at hc); omega) | (intro hc; simp only [empty_iff] at hc; simp at hc; omega) | (simp only [List.length_nil, List.length_append, List.length_cons, subl, List.length_drop, List.length_take, List.length_map]; omega)) ?_
   refine W.ite (fun h_4 => ?_) (fun h_4 => ?_)
   ·exact W.some trivial
   ·try simp [empty_iff] at h_4
    exact W.some ⟨by omega, wrap_succ n_2 h0_s1 (by omega)⟩
  ·exact W.some trivial
theorem w_q07_Key {N : Nat} (hN : 1024 ≤ N ∧ N ≤ 4398046511104) {s : ByteArray} (g_s : gStr N s) : W (q07_Key s) (fun r => True) := by
 delta q07_Key
 refine W.bind ?_
 refine W.guard (fun h_1 => ?_) (fun r => ?_)
 ·try simp [empty_iff] at h_1
  refine (w_q07_Printed hN (g_s)).mono (fun r _ g_r => ?_)
  exact trivial
 exact W.some trivial
theorem w_q19_Code {N : Nat} (hN : 1024 ≤ N ∧ N ≤ 4398046511104) {s : ByteArray} (g_s : gStr N s) : W (q19_Code s) (fun r => True) := by
 delta q19_Code
 refine W.ite (fun h_1 => ?_) (fun h_1 => ?_)
 ·exact W.some trivial
 ·try simp [empty_iff] at h_1
  have n_2 : s.size ≤ 9223372036854775807 := (g_s).2
  refine W.over (s.size) n_2 (fun s1 h0_s1 hn_s1 => ?_)
  delta q19_Code_l1
  refine W.ite (fun h_3 => ?_) (fun h_3 => ?_)
  ·try simp [empty_iff] at h_3
   refine W.need (by have a1 := (g_s).1; first | omega | (intro hc; (try simp [empty_iff] at hc); omega) | (intro hc; simp only [empty_iff] at hc; simp at hc; omega) | (simp only [List.length_nil, List.length_append, List.length_cons, subl, List.length_drop, List.length_take, List.length_map]; omega)) ?_
   refine W.need (by have a1 := (g_s).1; first | omega | (intro hc; (try simp [empty_iff] at hc); omega) | (intro hc; simp only [empty_iff] at hc; simp at hc; omega) | (simp only [List.length_nil, List.length_append, List.length_cons, subl, List.length_drop, List.length_take, List.length_map]; omega)) ?_
   refine W.ite (fun h_4 => ?_) (fun h_4 => ?_)
   ·exact W.some trivial
   ·try simp [empty_iff] at h_4
    exact W.some ⟨by omega, wrap_succ n_2 h0_s1 (by omega)⟩
  ·exact W.some trivial
theorem w_q19_leg {N : Nat} (hN : 1024 ≤ N ∧ N ≤ 4398046511104) {x : ApiLeg} (g_x : ApiLeg.sz N x) : W (q19_leg x) (fun r => True) := by
 delta q19_leg
 refine W.ite (fun h_1 => ?_) (fun h_1 => ?_)
 ·exact W.some trivial
 ·try simp [empty_iff] at h_1
  refine W.bind ?_
  refine (w_q19_Code hN (g_x)).mono (fun r _ g_r => ?_)
  refine W.ite (fun h_2 => ?_) (fun h_2 => ?_)
  ·exact W.some trivial
  ·exact W.some trivial
theorem w_q19_Sums {N : Nat} (hN : 1024 ≤ N ∧ N ≤ 4398046511104) {l : List ApiLeg} (g_l : (gList ApiLeg.sz) N l) : W (q19_Sums l) (fun r => gList ApiMoney.sz N r) := by
 have hl := g_l.1
 unfold q19_Sums
 refine W.iter (fun s => 0 ≤ s.1 ∧ s.1 ≤ (l.length : Int) ∧ s.2.length ≤ s.1.toNat ∧ ∀ y ∈ s.2, ApiMoney.sz N y) (fun s => l.length - s.1.toNat) ⟨by simp, by simp, by simp, fun y hy => by cases hy⟩ (by simp; omega) (fun s hs => ?_)
 obtain ⟨i0, i1, i2, i3⟩ := hs
 unfold q19_Sums_l1
 refine W.ite (fun h => ?_) (fun _ => W.some ⟨by omega, i3⟩)
 simp at h
 have hL : s.2.length ≤ 4398046511104 := by omega
 refine W.iter (fun k => 0 ≤ k ∧ k ≤ (s.2.length : Int)) (fun k => s.2.length - k.toNat) ⟨by simp, by simp⟩ (by simp; omega) (fun k hk => ?_)
 obtain ⟨k0, k1⟩ := hk
 have j0 : ∀ (p q : Int), (p = k ∨ (p = k + 1 ∧ k < s.2.length)) → W (q19_Sums_j0 l s k (p, q)) (fun x => match x with
   | .inl s' => (0 ≤ s'.1 ∧ s'.1 ≤ (l.length : Int) ∧ s'.2.length ≤ s'.1.toNat ∧ ∀ y ∈ s'.2, ApiMoney.sz N y) ∧ l.length - s'.1.toNat < l.length - s.1.toNat
   | .inr r => gList ApiMoney.sz N r) := by
  intro p q hp
  have a3 := subl_cut s.2 k k0 k1
  have a4 := subl_len s.2 p s.2.length
  have a5 : (subl s.2 0 k).length + (subl s.2 p s.2.length).length ≤ s.2.length := by
   unfold subl; simp; omega
  unfold q19_Sums_j0
  refine W.bind (W.row g_l i0 h (fun li6 _ g6 => ?_))
  rw [if_pos (by simp; omega), if_pos (by simp only [List.length_map]; omega), if_pos (by simp; omega)]
  have w : IntKind.wrap .i64 (s.1 + 1) = s.1 + 1 := w64_in (by omega) (by omega)
  rw [w]
  exact W.some ⟨⟨show 0 ≤ s.1 + 1 by omega, show s.1 + 1 ≤ _ by omega, show (List.length _) ≤ (s.1 + 1).toNat by simp; omega, fun y hy => by
   simp only [List.nil_append, List.length_map, List.mem_append, List.mem_singleton] at hy
   rcases hy with (hy | rfl) | hy
   ·exact i3 y (subl_mem hy)
   ·exact g6
   ·exact i3 y (subl_mem hy)⟩, show l.length - (s.1 + 1).toNat < l.length - s.1.toNat by omega⟩
 have row : ∀ (Q : ApiMoney → Prop), (∀ x, Q x) → W (if (((decide (k < ((List.map ApiMoney.enc s.2).length : Int))) == true) && true) = true then getI s.2 k else some default) Q := fun Q hQ => W.guard (fun h => W.row0 k0 (by simpa using h) (fun x _ => trivial)) hQ
 have leg : ∀ (Q : ApiLeg → Prop), (∀ x, Q x) → W (if (((decide (k < ((List.map ApiMoney.enc s.2).length : Int))) == true) && true) = true then getI l s.1 else some default) Q := fun Q hQ => W.guard (fun _ => W.row0 i0 h (fun x _ => trivial)) hQ
 unfold q19_Sums_l2
 refine W.bind (row _ (fun o => ?_))
 refine W.bind (W.guard (fun h => W.idx0 k0 (by simpa using h) (fun _ _ => trivial)) (fun x => ?_))
 refine W.bind (leg _ (fun li => ?_))
 refine W.ite (fun h2 => ?_) (fun _ => ?_)
 ·simp only [List.length_map, Bool.cond_false_right, Bool.and_eq_true, decide_eq_true_eq] at h2
  have w : IntKind.wrap .i64 (k + 1) = k + 1 := w64_in (by omega) (by omega)
  rw [w]
  exact W.some ⟨⟨show 0 ≤ k + 1 by omega, show k + 1 ≤ _ by omega⟩, show s.2.length - (k + 1).toNat < s.2.length - k.toNat by omega⟩
 ·have a2 := subl_len s.2 0 k
  refine W.map ?_
  rw [if_pos ⟨by omega, k0, k1⟩, if_pos (by simp; omega)]
  refine W.bind (W.row g_l i0 h (fun li2 _ _ => ?_))
  refine W.bind (row _ (fun si => ?_))
  refine W.bind (leg _ (fun li3 => ?_))
  refine W.ite (fun h2 => ?_) (fun _ => (j0 k _ (.inl rfl)).mono (fun r _ hr => by cases r <;> exact hr))
  simp only [List.length_map, Bool.cond_false_right, Bool.and_eq_true, decide_eq_true_eq] at h2
  have w : IntKind.wrap .i64 (k + 1) = k + 1 := w64_in (by omega) (by omega)
  rw [w]
  exact W.bind (W.row0 k0 h2.1 (fun si4 _ => (j0 (k + 1) _ (.inr ⟨rfl, h2.1⟩)).mono (fun r _ hr => by cases r <;> exact hr)))
theorem w_q19_Check {N : Nat} (hN : 1024 ≤ N ∧ N ≤ 4398046511104) {e : ApiEntry} (g_e : ApiEntry.sz N e) : W (q19_Check e) (fun r => True) := by
 delta q19_Check
 refine W.bind ?_
 refine (w_q07_Key hN (g_e.1)).mono (fun r _ g_r => ?_)
 refine W.ite (fun h_1 => ?_) (fun h_1 => ?_)
 ·exact W.some trivial
 ·try simp [empty_iff] at h_1
  refine W.bind ?_
  refine (w_q07_Printed hN (g_e.2.1)).mono (fun r1 _ g_r1 => ?_)
  refine W.bind ?_
  refine W.guard (fun h_2 => ?_) (fun r2 => ?_)
  ·try simp [empty_iff] at h_2
   refine (w_q04_Valid hN).mono (fun r2 _ g_r2 => ?_)
   exact trivial
  refine W.bind ?_
  refine W.guard (fun h_3 => ?_) (fun r3 => ?_)
  ·try simp [empty_iff] at h_3
   refine (w_q04_Valid hN).mono (fun r3 _ g_r3 => ?_)
   exact trivial
  refine W.bind ?_
  refine W.guard (fun h_4 => ?_) (fun r4 => ?_)
  ·try simp [empty_iff] at h_4
   refine (w_q04_Valid hN).mono (fun r4 _ g_r4 => ?_)
   exact trivial
  refine W.ite (fun h_5 => ?_) (fun h_5 => ?_)
  ·exact W.some trivial
  ·try simp [empty_iff] at h_5
   refine W.ite (fun h_6 => ?_) (fun h_6 => ?_)
   ·exact W.some trivial
   ·try simp [empty_iff] at h_6
    have n_7 : e.Legs.length ≤ 9223372036854775807 := (Nat.le_trans (g_e.2.2).1 (Nat.le_trans hN.2 (by decide)))
    refine W.over (e.Legs.length) n_7 (fun s h0_s hn_s => ?_)
    delta q19_Check_l1
    refine W.ite (fun h_8 => ?_) (fun h_8 => ?_)
    ·try simp [empty_iff] at h_8
     refine W.bind ?_
     refine W.row (G := ApiLeg.sz) (g_e.2.2) (by first | omega | (rw [w64_in] <;> omega)) (by first | omega | (rw [w64_in] <;> omega)) (fun leg hx_leg g_leg => ?_)
     refine W.bind ?_
     refine (w_q19_leg hN (g_leg)).mono (fun r5 _ g_r5 => ?_)
     refine W.ite (fun h_9 => ?_) (fun h_9 => ?_)
     ·exact W.some trivial
     ·try simp [empty_iff] at h_9
      exact W.some ⟨by omega, wrap_succ n_7 h0_s (by omega)⟩
    ·try simp [empty_iff] at h_8
     refine W.map ?_
     refine W.bind ?_
     refine (w_q19_Sums hN (g_e.2.2)).mono (fun r6 _ g_r6 => ?_)
     have n_9 : r6.length ≤ 9223372036854775807 := (Nat.le_trans (g_r6).1 (Nat.le_trans hN.2 (by decide)))
     refine W.over (r6.length) n_9 (fun s7 h0_s7 hn_s7 => ?_)
     delta q19_Check_l2
     refine W.ite (fun h_10 => ?_) (fun h_10 => ?_)
     ·try simp [empty_iff] at h_10
      refine W.bind ?_
      refine W.row (G := ApiMoney.sz) (g_r6) (by first | omega | (rw [w64_in] <;> omega)) (by first | omega | (rw [w64_in] <;> omega)) (fun o hx_o g_o => ?_)
      refine W.bind ?_
      refine W.idxG (G := ApiMoney.sz) (g_r6) (by first | omega | (rw [w64_in] <;> omega)) (by first | omega | (rw [w64_in] <;> omega)) (fun x hx_x g_x => ?_)
      refine W.ite (fun h_11 => ?_) (fun h_11 => ?_)
      ·exact W.some trivial
      ·try simp [empty_iff] at h_11
       exact W.some ⟨by omega, wrap_succ n_9 h0_s7 (by omega)⟩
     ·exact W.some trivial
theorem w_q20_Examine {N : Nat} (hN : 1024 ≤ N ∧ N ≤ 4398046511104) {j : List ApiEntry} {e : ApiEntry} (g_j : (gList ApiEntry.sz) N j) (g_e : ApiEntry.sz N e) : W (q20_Examine j e) (fun r => True) := by
 have hl := g_j.1
 unfold q20_Examine
 refine W.bind ((w_q19_Check hN g_e).mono (fun r _ _ => ?_))
 refine W.ite (fun _ => W.some trivial) (fun _ => ?_)
 refine W.over j.length (by omega) (fun s h0 hn => ?_)
 unfold q20_Examine_l1
 refine W.ite (fun h => ?_) (fun _ => W.map ?_)
 ·simp at h
  refine W.bind (W.row0 h0 h (fun ji _ => ?_))
  exact W.ite (fun _ => W.some trivial) (fun _ => W.some ⟨by omega, w64_in (by omega) (by omega)⟩)
 ·refine W.bind (W.guard (fun h => ?_) (fun ji1 => ?_))
  ·simp only [List.length_map, decide_eq_true_eq, beq_true, Bool.and_true] at h ⊢
   rw [w64_in (by omega) (by omega)]
   exact W.row0 (by omega) (by omega) (fun _ _ => trivial)
  ·exact W.ite (fun _ => W.some trivial) (fun _ => W.ite (fun _ => W.some trivial) (fun _ => W.some trivial))
theorem w_q07_natural {N : Nat} (hN : 1024 ≤ N ∧ N ≤ 4398046511104) {n : Int} (h0 : 0 ≤ n) (h1 : n < 18446744073709551616) : W (q07_natural n) (fun r => r.size ≤ 20) := by
 unfold q07_natural
 refine W.iter (fun s => 0 ≤ s.1 ∧ s.1 * 10 ^ s.2.size ≤ n ∧ s.2.size ≤ 20) (fun s => 20 - s.2.size) ⟨h0, by simp [ByteArray.size], by simp [ByteArray.size]⟩ (by omega) (fun s hs => ?_)
 obtain ⟨a0, a1, a2⟩ := hs
 unfold q07_natural_l1
 refine W.ite (fun h => ?_) (fun _ => W.some a2)
 rw [empty_iff] at h
 have hsz : s.2.size ≤ 19 := by
  refine Nat.le_of_not_lt (fun hlt => ?_)
  have he : s.2.size = 20 := by omega
  have hp : 1 ≤ s.1 := by simp at h; omega
  rw [he] at a1
  omega
 have hle : s.1 ≤ n := by
  have : s.1 * 1 ≤ s.1 * 10 ^ s.2.size := Int.mul_le_mul_of_nonneg_left (Int.pow_pos (n := 10) (by decide)) a0
  omega
 have t1 : s.1.tdiv 10 = s.1 / 10 := Int.tdiv_eq_ediv_of_nonneg a0
 have t2 : s.1.tmod 10 = s.1 % 10 := Int.tmod_eq_emod_of_nonneg a0
 have wu6 : ∀ n : Int, IntKind.wrap .u64 n = n % 18446744073709551616 := fun n => by
  unfold IntKind.wrap IntKind.bits IntKind.signed
  simp
 have w1 : (s.1 / 10) % 18446744073709551616 = s.1 / 10 := by omega
 have w2 : (s.1 % 10 + 1) % 18446744073709551616 = s.1 % 10 + 1 := by omega
 simp only [t1, t2, wu6, w1, w2, ByteArray.size_extract, digsz]
 rw [if_pos (by omega), if_pos (by omega)]
 have e : ((bs [48, 49, 50, 51, 52, 53, 54, 55, 56, 57]).extract (s.1 % 10).toNat (s.1 % 10 + 1).toNat ++ s.2).size = s.2.size + 1 := by
  simp only [ByteArray.size_append, ByteArray.size_extract, digsz]
  omega
 refine W.some ⟨⟨show 0 ≤ s.1 / 10 by omega, ?_, ?_⟩, ?_⟩
 ·show s.1 / 10 * 10 ^ (ByteArray.size _) ≤ n
  rw [e, Int.pow_succ, Int.mul_comm (10 ^ s.2.size) 10, ← Int.mul_assoc]
  have hp : (0 : Int) ≤ 10 ^ s.2.size := Int.le_of_lt (Int.pow_pos (by decide))
  have := Int.mul_le_mul_of_nonneg_right (show s.1 / 10 * 10 ≤ s.1 by omega) hp
  omega
 ·show ByteArray.size _ ≤ 20
  rw [e]; omega
 ·show 20 - ByteArray.size _ < 20 - s.2.size
  rw [e]; omega
theorem w_q07_Int {N : Nat} (hN : 1024 ≤ N ∧ N ≤ 4398046511104) {n : Int} : W (q07_Int n) (fun r => r.size ≤ 21) := by
 have wu6 : ∀ n : Int, IntKind.wrap .u64 n = n % 18446744073709551616 := fun n => by
  unfold IntKind.wrap IntKind.bits IntKind.signed
  simp
 unfold q07_Int
 refine W.ite (fun _ => ?_) (fun _ => ?_)
 ·exact W.bind ((w_q07_natural hN (by rw [wu6]; omega) (by rw [wu6]; omega)).mono (fun r _ hr => W.some (by omega)))
 ·refine W.bind ((w_q07_natural hN (by rw [wu6]; omega) (by rw [wu6]; omega)).mono (fun r _ hr => ?_))
  have c : (bs [45]).size = 1 := rfl
  rw [if_pos (by rw [c]; omega)]
  exact W.some (by rw [ByteArray.size_append, c]; omega)
def szs (l : List ByteArray) : Nat := (l.map (fun b => b.size + 22)).sum
theorem szs_take (l : List ByteArray) (i : Nat) (h : i < l.length) : szs (l.take (i + 1)) = szs (l.take i) + (l[i].size + 22) := by
 unfold szs
 rw [take_succ_of l i h, List.map_append, List.sum_append]; simp
theorem szs_le (l : List ByteArray) (i : Nat) : szs (l.take i) ≤ szs l := by
 have : szs l = szs (l.take i) + szs (l.drop i) := by
  unfold szs
  rw [← List.sum_append, ← List.map_append, List.take_append_drop]
 omega
theorem w_q07_Pack {N : Nat} (hN : 1024 ≤ N ∧ N ≤ 4398046511104) {l : List ByteArray} (hl : l.length ≤ 4398046511104) (hs : szs l ≤ 4611686018427387904) : W (q07_Pack l) (fun r => r.size ≤ szs l) := by
 unfold q07_Pack
 refine W.iter (fun s => 0 ≤ s.2 ∧ s.2 ≤ (l.length : Int) ∧ s.1.size ≤ szs (l.take s.2.toNat)) (fun s => l.length - s.2.toNat) ⟨by simp, by simp, by simp [ByteArray.size]⟩ (by simp; omega) (fun s h => ?_)
 obtain ⟨i0, i1, i2⟩ := h
 unfold q07_Pack_l1
 refine W.ite (fun h => ?_) (fun h => W.some (by have := szs_le l s.2.toNat; omega))
 simp at h
 have hlt : s.2.toNat < l.length := by omega
 have st := szs_take l s.2.toNat hlt
 have le := szs_le l (s.2.toNat + 1)
 have c : (bs [58]).size = 1 := rfl
 refine W.bind (W.row0 i0 h (fun li hx => ?_))
 have e1 : l[s.2.toNat] = li := by rw [List.getElem?_eq_getElem hlt] at hx; exact Option.some.inj hx
 rw [e1] at st
 refine W.bind ((w_q07_Int hN).mono (fun r _ hr => ?_))
 rw [if_pos (by omega), if_pos (by rw [ByteArray.size_append, c]; omega)]
 refine W.bind (W.row0 i0 h (fun li1 hx1 => ?_))
 have e2 : li = li1 := Option.some.inj (hx.symm.trans hx1)
 subst e2
 rw [if_pos (by simp only [ByteArray.size_append, c]; omega)]
 have w : IntKind.wrap .i64 (s.2 + 1) = s.2 + 1 := w64_in (by omega) (by omega)
 rw [w]
 exact W.some ⟨⟨show 0 ≤ s.2 + 1 by omega, show s.2 + 1 ≤ _ by omega, show ByteArray.size _ ≤ szs (l.take (s.2 + 1).toNat) by rw [show (s.2 + 1).toNat = s.2.toNat + 1 by omega]; simp only [ByteArray.size_append, c]; omega⟩, show l.length - (s.2 + 1).toNat < l.length - s.2.toNat by omega⟩
theorem szs_all {l : List ByteArray} {M : Nat} (h : ∀ y ∈ l, y.size ≤ M) : szs l ≤ l.length * (M + 22) := by
 induction l with
 | nil => simp [szs]
 | cons a r ih =>
  have h1 := h a (by simp)
  have h2 := ih (fun y hy => h y (by simp [hy]))
  have : szs (a :: r) = a.size + 22 + szs r := by simp [szs]
  rw [this, List.length_cons, Nat.add_mul]
  omega
theorem w_q19_Encode {N : Nat} (hN : 1024 ≤ N ∧ N ≤ 4398046511104) (hS : N ≤ 1048576) {e : ApiEntry} (g_e : ApiEntry.sz N e) : W (q19_Encode e) (fun r => r.size ≤ 4398046511104) := by
 have hl := g_e.2.2.1
 have k1 := g_e.1.1
 have k2 := g_e.2.1.1
 unfold q19_Encode
 refine W.iter (fun s => 0 ≤ s.1 ∧ s.1 ≤ (e.Legs.length : Int) ∧ s.2.length = s.1.toNat ∧ ∀ y ∈ s.2, y.size ≤ N + 108) (fun s => e.Legs.length - s.1.toNat) ⟨by simp, by simp, by simp, fun y hy => by cases hy⟩ (by simp; omega) (fun s h => ?_)
 obtain ⟨i0, i1, i2, i3⟩ := h
 unfold q19_Encode_l1
 refine W.ite (fun h => ?_) (fun h => W.map ?_)
 ·simp at h
  refine W.bind (W.row g_e.2.2 i0 h (fun leg _ gl => ?_))
  have k3 : leg.Currency.size ≤ N := gl.1
  refine W.bind ((w_q07_Int hN).mono (fun r _ hr => ?_))
  refine W.bind ((w_q07_Int hN).mono (fun r1 _ hr1 => ?_))
  have hz : szs [r, r1, leg.Currency] ≤ N + 108 := by simp [szs]; omega
  refine W.bind ((w_q07_Pack hN (l := [r, r1, leg.Currency]) (by simp) (by omega)).mono (fun r2 _ hr2 => ?_))
  rw [if_pos (by simp; omega)]
  have w : IntKind.wrap .i64 (s.1 + 1) = s.1 + 1 := w64_in (by omega) (by omega)
  rw [w]
  refine W.some ⟨⟨show 0 ≤ s.1 + 1 by omega, show s.1 + 1 ≤ _ by omega, show (s.2 ++ [r2]).length = (s.1 + 1).toNat by simp; omega, fun y hy => ?_⟩, show e.Legs.length - (s.1 + 1).toNat < e.Legs.length - s.1.toNat by omega⟩
  rcases List.mem_append.1 hy with hy | hy
  ·exact i3 y hy
  ·simp at hy; subst hy; omega
 ·refine W.bind ((w_q07_Int hN).mono (fun r3 _ h3 => ?_))
  refine W.bind ((w_q07_Int hN).mono (fun r4 _ h4 => ?_))
  refine W.bind ((w_q07_Int hN).mono (fun r5 _ h5 => ?_))
  refine W.bind ((w_q07_Int hN).mono (fun r6 _ h6 => ?_))
  refine W.bind ((w_q07_Int hN).mono (fun r7 _ h7 => ?_))
  refine W.bind ((w_q07_Int hN).mono (fun r8 _ h8 => ?_))
  have hz := szs_all i3
  have hm : s.2.length * (N + 108 + 22) ≤ 1048576 * (1048576 + 130) := Nat.mul_le_mul (by omega) (by omega)
  refine W.bind ((w_q07_Pack hN (l := s.2) (by omega) (by omega)).mono (fun r9 _ h9 => ?_))
  have hz2 : szs [r3, r4, r5, r6, r7, r8, e.Key, e.Text, r9] ≤ 4398046511104 := by simp [szs]; omega
  exact W.bind ((w_q07_Pack hN (l := [r3, r4, r5, r6, r7, r8, e.Key, e.Text, r9]) (by simp) (by omega)).mono (fun r10 _ h10 => W.some (by omega)))
theorem bytes_len (l : List Int) : (bytesOf (List.map (eInt .u8) l)).size = l.length := by
 unfold bytesOf
 have : ∀ (r : List Int) (b : ByteArray), (r.foldl (fun (r : ByteArray) n => r.push (UInt8.ofNat n.toNat)) b).size = b.size + r.length := by
  intro r
  induction r with
  | nil => intro b; simp
  | cons a r ih => intro b; rw [List.foldl_cons, ih, ByteArray.size_push, List.length_cons]; omega
 rw [this]
 simp [ByteArray.size]
theorem w_q08_eight {N : Nat} (hN : 1024 ≤ N ∧ N ≤ 4398046511104) {h : Int} : W (q08_eight h) (fun r => gStr N r) := by
 unfold q08_eight
 refine W.iter (fun s => 0 ≤ s.2.1 ∧ s.2.1 ≤ 8 ∧ s.2.2.length = s.2.1.toNat) (fun s => 8 - s.2.1.toNat) ⟨by simp, by simp, by simp⟩ (by simp) (fun s hs => ?_)
 obtain ⟨a0, a1, a2⟩ := hs
 unfold q08_eight_l1
 refine W.ite (fun h => ?_) (fun _ => W.some ?_)
 ·simp at h
  rw [if_pos (by simp; omega)]
  have w : IntKind.wrap .i64 (s.2.1 + 1) = s.2.1 + 1 := w64_in (by omega) (by omega)
  rw [w]
  exact W.some ⟨⟨show 0 ≤ s.2.1 + 1 by omega, show s.2.1 + 1 ≤ 8 by omega, show (s.2.2 ++ [_]).length = (s.2.1 + 1).toNat by simp; omega⟩, show 8 - (s.2.1 + 1).toNat < 8 - s.2.1.toNat by omega⟩
 ·show gStr N _
  unfold gStr maxLen
  rw [bytes_len]
  omega
theorem w_q08_Extend {N : Nat} (hN : 1024 ≤ N ∧ N ≤ 4398046511104) {h : Int} {s : ByteArray} (g_s : gStr N s) : W (q08_Extend h s) (fun r => True) := by
 delta q08_Extend
 have n_1 : s.size ≤ 9223372036854775807 := (g_s).2
 refine W.overT (fun s1 => s1.2) (s.size) n_1 (by simp) (fun s1 h0_s1 => ?_)
 have h0_s1 : 0 ≤ s1.2 := h0_s1
 delta q08_Extend_l1
 refine W.ite (fun h_2 => ?_) (fun h_2 => ?_)
 ·try simp [empty_iff] at h_2
  refine W.need (by have a1 := (g_s).1; first | omega | (intro hc; (try simp [empty_iff] at hc); omega) | (intro hc; simp only [empty_iff] at hc; simp at hc; omega) | (simp only [List.length_nil, List.length_append, List.length_cons, subl, List.length_drop, List.length_take, List.length_map]; omega)) ?_
  exact W.some ⟨show s1.2 < _ by omega, wrap_succ n_1 h0_s1 (by omega)⟩
 ·exact W.some trivial
theorem w_q08_Hash {N : Nat} (hN : 1024 ≤ N ∧ N ≤ 4398046511104) {s : ByteArray} (g_s : gStr N s) : W (q08_Hash s) (fun r => True) := by
 delta q08_Hash
 refine W.bind ?_
 refine (w_q08_Extend hN (g_s)).mono (fun r _ g_r => ?_)
 exact W.some trivial
theorem w_q08_Chain {N : Nat} (hN : 1024 ≤ N ∧ N ≤ 4398046511104) {prev : Int} {s : ByteArray} (g_s : s.size ≤ 4398046511104) : W (q08_Chain prev s) (fun r => True) := by
 unfold q08_Chain
 refine W.bind ((w_q08_eight hN).mono (fun r _ hr => ?_))
 refine W.bind ((w_q08_Hash hN hr).mono (fun r1 _ _ => ?_))
 refine W.bind ((w_q08_Extend (N := 4398046511104) ⟨by omega, by omega⟩ (s := s) ⟨g_s, by unfold maxLen; omega⟩).mono (fun r2 _ _ => W.some trivial))
theorem w_q20_next {N : Nat} (hN : 1024 ≤ N ∧ N ≤ 4398046511104) (hS : N ≤ 1048576) {j : List ApiEntry} {e : ApiEntry} (g_j : (gList ApiEntry.sz) N j) (g_e : ApiEntry.sz N e) : W (q20_next j e) (fun r => ApiEntry.sz N r) := by
 have hl := g_j.1
 have core : ∀ s, W (q20_next_j0 j e s) (fun r => ApiEntry.sz N r) := by
  intro s
  unfold q20_next_j0
  refine W.bind ((w_q19_Encode hN hS (e := ⟨IntKind.wrap .i64 (((List.map ApiEntry.enc j).length : Int) + 1), e.Booked, e.Value, e.Kind, e.Auth, e.Period, e.Key, e.Text, e.Legs, e.Chain⟩) g_e).mono (fun r _ hr => ?_))
  exact W.bind ((w_q08_Chain hN hr).mono (fun r1 _ _ => W.some g_e))
 unfold q20_next
 refine W.ite (fun h => ?_) (fun _ => core 0)
 simp only [List.length_map, decide_eq_true_eq] at h ⊢
 rw [w64_in (by omega) (by omega)]
 exact W.bind (W.row0 (by omega) (by omega) (fun ji _ => core _))
theorem w_q19_SameLegs {N : Nat} (hN : 1024 ≤ N ∧ N ≤ 4398046511104) {a : List ApiLeg} {b : List ApiLeg} (g_a : (gList ApiLeg.sz) N a) (g_b : (gList ApiLeg.sz) N b) : W (q19_SameLegs a b) (fun r => True) := by
 delta q19_SameLegs
 refine W.ite (fun h_1 => ?_) (fun h_1 => ?_)
 ·exact W.some trivial
 ·try simp [empty_iff] at h_1
  have n_2 : a.length ≤ 9223372036854775807 := (Nat.le_trans (g_a).1 (Nat.le_trans hN.2 (by decide)))
  refine W.over (a.length) n_2 (fun s h0_s hn_s => ?_)
  delta q19_SameLegs_l1
  refine W.ite (fun h_3 => ?_) (fun h_3 => ?_)
  ·try simp [empty_iff] at h_3
   refine W.bind ?_
   refine W.row (G := ApiLeg.sz) (g_a) (by first | omega | (rw [w64_in] <;> omega)) (by first | omega | (rw [w64_in] <;> omega)) (fun ai hx_ai g_ai => ?_)
   refine W.bind ?_
   refine W.row (G := ApiLeg.sz) (g_b) (by first | omega | (rw [w64_in] <;> omega)) (by first | omega | (rw [w64_in] <;> omega)) (fun bi hx_bi g_bi => ?_)
   refine W.ite (fun h_4 => ?_) (fun h_4 => ?_)
   ·exact W.some trivial
   ·try simp [empty_iff] at h_4
    exact W.some ⟨by omega, wrap_succ n_2 h0_s (by omega)⟩
  ·exact W.some trivial
theorem w_q19_Same {N : Nat} (hN : 1024 ≤ N ∧ N ≤ 4398046511104) {a : ApiEntry} {b : ApiEntry} (g_a : ApiEntry.sz N a) (g_b : ApiEntry.sz N b) : W (q19_Same a b) (fun r => True) := by
 delta q19_Same
 refine W.bind ?_
 refine W.guard (fun h_1 => ?_) (fun r => ?_)
 ·try simp [empty_iff] at h_1
  refine (w_q19_SameLegs hN (g_a.2.2) (g_b.2.2)).mono (fun r _ g_r => ?_)
  exact trivial
 exact W.some trivial
theorem W.guardQ {α : Type} [Inhabited α] {c : Prop} [Decidable c] {a : Option α} {Q Q0 : α → Prop} (ha : c → W a Q0) (hd : Q0 default) (h : ∀ x, Q0 x → Q x) : W (if c then a else Option.some default) Q := by
 split
 ·obtain ⟨r, h1, h2⟩ := ha ‹_›
  exact ⟨r, h1, h r h2⟩
 ·exact ⟨_, rfl, h _ hd⟩
theorem entry_default {N : Nat} : ApiEntry.sz N default := ⟨⟨Nat.zero_le _, Nat.zero_le _⟩, ⟨Nat.zero_le _, Nat.zero_le _⟩, ⟨Nat.zero_le _, fun y hy => by cases hy⟩⟩
theorem w_q20_Verify {N : Nat} (hN : 1024 ≤ N ∧ N ≤ 4398046511104) (hS : N ≤ 1048576) {j : List ApiEntry} (g_j : (gList ApiEntry.sz) N j) : W (q20_Verify j) (fun r => True) := by
 have hl := g_j.1
 unfold q20_Verify
 refine W.over j.length (by omega) (fun s h0 hn => ?_)
 unfold q20_Verify_l1
 refine W.ite (fun h => ?_) (fun h => W.some trivial)
 simp at h
 rw [if_pos ⟨by omega, h0, hn⟩]
 refine W.bind (W.row g_j h0 h (fun ji _ gji => ?_))
 refine W.bind ((w_q20_Examine hN (good_subl g_j) gji).mono (fun r _ _ => ?_))
 rw [if_pos (fun _ => ⟨by omega, h0, hn⟩)]
 refine W.bind (W.guardQ (Q0 := ApiEntry.sz N) (fun _ => W.row g_j h0 h (fun x _ gx => gx)) entry_default (fun ji1 g1 => ?_))
 refine W.bind (W.guardQ (Q0 := ApiEntry.sz N) (fun _ => w_q20_next hN hS (good_subl g_j) g1) entry_default (fun r2 g2 => ?_))
 refine W.bind (W.guardQ (Q0 := ApiEntry.sz N) (fun _ => W.row g_j h0 h (fun x _ gx => gx)) entry_default (fun ji3 g3 => ?_))
 refine W.bind (W.guard (fun _ => (w_q19_Same hN g2 g3).mono (fun _ _ _ => trivial)) (fun r4 => ?_))
 exact W.ite (fun _ => W.some trivial) (fun _ => W.some ⟨by omega, w64_in (by omega) (by omega)⟩)
theorem w_q26_parent {N : Nat} (hN : 1024 ≤ N ∧ N ≤ 4398046511104) {l : List ApiGl} {id : Int} (g_l : (gList ApiGl.sz) N l) : W (q26_parent l id) (fun r => True) := by
 delta q26_parent
 have n_1 : l.length ≤ 9223372036854775807 := (Nat.le_trans (g_l).1 (Nat.le_trans hN.2 (by decide)))
 refine W.over (l.length) n_1 (fun s h0_s hn_s => ?_)
 delta q26_parent_l1
 refine W.ite (fun h_2 => ?_) (fun h_2 => ?_)
 ·try simp [empty_iff] at h_2
  refine W.bind ?_
  refine W.row (G := ApiGl.sz) (g_l) (by first | omega | (rw [w64_in] <;> omega)) (by first | omega | (rw [w64_in] <;> omega)) (fun li hx_li g_li => ?_)
  refine W.ite (fun h_3 => ?_) (fun h_3 => ?_)
  ·exact W.some trivial
  ·try simp [empty_iff] at h_3
   exact W.some ⟨by omega, wrap_succ n_1 h0_s (by omega)⟩
 ·exact W.some trivial
theorem w_q24_Active {N : Nat} (hN : 1024 ≤ N ∧ N ≤ 4398046511104) {b : ApiBooks} {id : Int} {day : Int} (g_b : ApiBooks.sz N b) : W (q24_Active b id day) (fun r => True) := by
 delta q24_Active
 refine W.bind ?_
 refine (w_q24_Find hN (g_b)).mono (fun r _ g_r => ?_)
 exact W.some trivial
theorem w_q26_leg {N : Nat} (hN : 1024 ≤ N ∧ N ≤ 4398046511104) {b : ApiBooks} {x : ApiLeg} {booked : Int} (g_b : ApiBooks.sz N b) (g_x : ApiLeg.sz N x) : W (q26_leg b x booked) (fun r => True) := by
 delta q26_leg
 refine W.bind ?_
 refine (w_q03_Find hN (g_b.1) (g_x)).mono (fun r _ g_r => ?_)
 refine W.ite (fun h_1 => ?_) (fun h_1 => ?_)
 ·try simp [empty_iff] at h_1
  refine W.bind ?_
  refine (w_q18_Find hN (g_b.2.2.1)).mono (fun r1 _ g_r1 => ?_)
  refine W.bind ?_
  refine W.guard (fun h_2 => ?_) (fun r2 => ?_)
  ·try simp [empty_iff] at h_2
   refine (w_q26_parent hN (g_b.2.2.1)).mono (fun r2 _ g_r2 => ?_)
   exact trivial
  refine W.ite (fun h_3 => ?_) (fun h_3 => ?_)
  ·exact W.some trivial
  ·try simp [empty_iff] at h_3
   refine W.ite (fun h_4 => ?_) (fun h_4 => ?_)
   ·exact W.some trivial
   ·exact W.some trivial
 ·try simp [empty_iff] at h_1
  refine W.bind ?_
  refine (w_q24_Find hN (g_b)).mono (fun r3 _ g_r3 => ?_)
  refine W.ite (fun h_2 => ?_) (fun h_2 => ?_)
  ·exact W.some trivial
  ·try simp [empty_iff] at h_2
   refine W.bind ?_
   refine (w_q17_At hN (g_b.2.2.2.1) (g_r3.1.2.1)).mono (fun r4 _ g_r4 => ?_)
   refine W.ite (fun h_3 => ?_) (fun h_3 => ?_)
   ·exact W.some trivial
   ·try simp [empty_iff] at h_3
    refine W.bind ?_
    refine (w_q24_Active hN (g_b)).mono (fun r5 _ g_r5 => ?_)
    refine W.ite (fun h_4 => ?_) (fun h_4 => ?_)
    ·exact W.some trivial
    ·exact W.some trivial
theorem w_q26_Legs {N : Nat} (hN : 1024 ≤ N ∧ N ≤ 4398046511104) {b : ApiBooks} {e : ApiEntry} (g_b : ApiBooks.sz N b) (g_e : ApiEntry.sz N e) : W (q26_Legs b e) (fun r => True) := by
 delta q26_Legs
 have n_1 : e.Legs.length ≤ 9223372036854775807 := (Nat.le_trans (g_e.2.2).1 (Nat.le_trans hN.2 (by decide)))
 refine W.over (e.Legs.length) n_1 (fun s h0_s hn_s => ?_)
 delta q26_Legs_l1
 refine W.ite (fun h_2 => ?_) (fun h_2 => ?_)
 ·try simp [empty_iff] at h_2
  refine W.bind ?_
  refine W.row (G := ApiLeg.sz) (g_e.2.2) (by first | omega | (rw [w64_in] <;> omega)) (by first | omega | (rw [w64_in] <;> omega)) (fun leg hx_leg g_leg => ?_)
  refine W.bind ?_
  refine (w_q26_leg hN (g_b) (g_leg)).mono (fun r _ g_r => ?_)
  refine W.ite (fun h_3 => ?_) (fun h_3 => ?_)
  ·exact W.some trivial
  ·try simp [empty_iff] at h_3
   exact W.some ⟨by omega, wrap_succ n_1 h0_s (by omega)⟩
 ·exact W.some trivial
theorem w_q26_entries {N : Nat} (hN : 1024 ≤ N ∧ N ≤ 4398046511104) (hS : N ≤ 1048576) {b : ApiBooks} (g_b : ApiBooks.sz N b) : W (q26_entries b) (fun r => True) := by
 delta q26_entries
 refine W.bind ?_
 refine (w_q20_Verify hN hS (g_b.2.2.2.2.2.1)).mono (fun r _ g_r => ?_)
 refine W.ite (fun h_1 => ?_) (fun h_1 => ?_)
 ·exact W.some trivial
 ·try simp [empty_iff] at h_1
  have n_2 : b.Journal.length ≤ 9223372036854775807 := (Nat.le_trans (g_b.2.2.2.2.2.1).1 (Nat.le_trans hN.2 (by decide)))
  refine W.over (b.Journal.length) n_2 (fun s h0_s hn_s => ?_)
  delta q26_entries_l1
  refine W.ite (fun h_3 => ?_) (fun h_3 => ?_)
  ·try simp [empty_iff] at h_3
   refine W.bind ?_
   refine W.row (G := ApiEntry.sz) (g_b.2.2.2.2.2.1) (by first | omega | (rw [w64_in] <;> omega)) (by first | omega | (rw [w64_in] <;> omega)) (fun journal hx_journal g_journal => ?_)
   refine W.bind ?_
   refine (w_q26_Legs hN (g_b) (g_journal)).mono (fun r1 _ g_r1 => ?_)
   refine W.ite (fun h_4 => ?_) (fun h_4 => ?_)
   ·exact W.some trivial
   ·try simp [empty_iff] at h_4
    exact W.some ⟨by omega, wrap_succ n_2 h0_s (by omega)⟩
  ·exact W.some trivial
theorem w_q22_one {N : Nat} (hN : 1024 ≤ N ∧ N ≤ 4398046511104) {h : ApiHold} (g_h : ApiHold.sz N h) : W (q22_one h) (fun r => True) := by
 delta q22_one
 refine W.bind ?_
 refine W.guard (fun h_1 => ?_) (fun r => ?_)
 ·try simp [empty_iff] at h_1
  refine (w_q04_Valid hN).mono (fun r _ g_r => ?_)
  exact trivial
 refine W.bind ?_
 refine W.guard (fun h_2 => ?_) (fun r1 => ?_)
 ·try simp [empty_iff] at h_2
  refine (w_q04_Valid hN).mono (fun r1 _ g_r1 => ?_)
  exact trivial
 refine W.ite (fun h_3 => ?_) (fun h_3 => ?_)
 ·exact W.some trivial
 ·try simp [empty_iff] at h_3
  refine W.bind ?_
  refine (w_q07_Key hN (g_h)).mono (fun r2 _ g_r2 => ?_)
  refine W.ite (fun h_4 => ?_) (fun h_4 => ?_)
  ·exact W.some trivial
  ·exact W.some trivial
theorem w_q22_named {N : Nat} (hN : 1024 ≤ N ∧ N ≤ 4398046511104) {l : List ApiHold} {key : ByteArray} (g_l : (gList ApiHold.sz) N l) (g_key : gStr N key) : W (q22_named l key) (fun r => True) := by
 delta q22_named
 have n_1 : l.length ≤ 9223372036854775807 := (Nat.le_trans (g_l).1 (Nat.le_trans hN.2 (by decide)))
 refine W.over (l.length) n_1 (fun s h0_s hn_s => ?_)
 delta q22_named_l1
 refine W.ite (fun h_2 => ?_) (fun h_2 => ?_)
 ·try simp [empty_iff] at h_2
  refine W.bind ?_
  refine W.row (G := ApiHold.sz) (g_l) (by first | omega | (rw [w64_in] <;> omega)) (by first | omega | (rw [w64_in] <;> omega)) (fun li hx_li g_li => ?_)
  refine W.ite (fun h_3 => ?_) (fun h_3 => ?_)
  ·exact W.some trivial
  ·try simp [empty_iff] at h_3
   exact W.some ⟨by omega, wrap_succ n_1 h0_s (by omega)⟩
 ·exact W.some trivial
theorem w_q22_Check {N : Nat} (hN : 1024 ≤ N ∧ N ≤ 4398046511104) {l : List ApiHold} (g_l : (gList ApiHold.sz) N l) : W (q22_Check l) (fun r => True) := by
 delta q22_Check
 refine W.ite (fun h_1 => ?_) (fun h_1 => ?_)
 ·exact W.some trivial
 ·try simp [empty_iff] at h_1
  have n_2 : l.length ≤ 9223372036854775807 := (Nat.le_trans (g_l).1 (Nat.le_trans hN.2 (by decide)))
  refine W.over (l.length) n_2 (fun s h0_s hn_s => ?_)
  delta q22_Check_l1
  refine W.ite (fun h_3 => ?_) (fun h_3 => ?_)
  ·try simp [empty_iff] at h_3
   refine W.bind ?_
   refine W.row (G := ApiHold.sz) (g_l) (by first | omega | (rw [w64_in] <;> omega)) (by first | omega | (rw [w64_in] <;> omega)) (fun li hx_li g_li => ?_)
   refine W.bind ?_
   refine (w_q22_one hN (g_li)).mono (fun r _ g_r => ?_)
   refine W.ite (fun h_4 => ?_) (fun h_4 => ?_)
   ·exact W.some trivial
   ·try simp [empty_iff] at h_4
    refine W.bind ?_
    refine W.guard (fun h_5 => ?_) (fun li1 => ?_)
    ·try simp [empty_iff] at h_5
     refine W.row (G := ApiHold.sz) (g_l) (by first | omega | (rw [w64_in] <;> omega)) (by first | omega | (rw [w64_in] <;> omega)) (fun li1 hx_li1 g_li1 => ?_)
     exact trivial
    refine W.bind ?_
    refine W.guard (fun h_6 => ?_) (fun li2 => ?_)
    ·try simp [empty_iff] at h_6
     refine W.row (G := ApiHold.sz) (g_l) (by first | omega | (rw [w64_in] <;> omega)) (by first | omega | (rw [w64_in] <;> omega)) (fun li2 hx_li2 g_li2 => ?_)
     exact trivial
    refine W.ite (fun h_7 => ?_) (fun h_7 => ?_)
    ·exact W.some trivial
    ·try simp [empty_iff] at h_7
     refine W.need (by have a1 := (g_l).1; first | omega | (intro hc; (try simp [empty_iff] at hc); omega) | (intro hc; simp only [empty_iff] at hc; simp at hc; omega) | (simp only [List.length_nil, List.length_append, List.length_cons, subl, List.length_drop, List.length_take, List.length_map]; omega)) ?_
     refine W.bind ?_
     refine W.row (G := ApiHold.sz) (g_l) (by first | omega | (rw [w64_in] <;> omega)) (by first | omega | (rw [w64_in] <;> omega)) (fun li3 hx_li3 g_li3 => ?_)
     refine W.bind ?_
     refine (w_q22_named hN (good_subl g_l) (g_li3)).mono (fun r4 _ g_r4 => ?_)
     refine W.ite (fun h_8 => ?_) (fun h_8 => ?_)
     ·exact W.some trivial
     ·try simp [empty_iff] at h_8
      exact W.some ⟨by omega, wrap_succ n_2 h0_s (by omega)⟩
  ·exact W.some trivial
theorem w_q23_good {N : Nat} (hN : 1024 ≤ N ∧ N ≤ 4398046511104) {b : ApiBlock} (g_b : ApiBlock.sz N b) : W (q23_good b) (fun r => True) := by
 delta q23_good
 refine W.ite (fun h_1 => ?_) (fun h_1 => ?_)
 ·exact W.some trivial
 ·try simp [empty_iff] at h_1
  refine W.ite (fun h_2 => ?_) (fun h_2 => ?_)
  ·exact W.some trivial
  ·try simp [empty_iff] at h_2
   refine W.bind ?_
   refine (w_q04_Valid hN).mono (fun r _ g_r => ?_)
   refine W.bind ?_
   refine W.guard (fun h_3 => ?_) (fun r1 => ?_)
   ·try simp [empty_iff] at h_3
    refine (w_q04_Valid hN).mono (fun r1 _ g_r1 => ?_)
    exact trivial
   exact W.some trivial
theorem w_q23_Check {N : Nat} (hN : 1024 ≤ N ∧ N ≤ 4398046511104) {l : List ApiBlock} (g_l : (gList ApiBlock.sz) N l) : W (q23_Check l) (fun r => True) := by
 delta q23_Check
 refine W.ite (fun h_1 => ?_) (fun h_1 => ?_)
 ·exact W.some trivial
 ·try simp [empty_iff] at h_1
  have n_2 : l.length ≤ 9223372036854775807 := (Nat.le_trans (g_l).1 (Nat.le_trans hN.2 (by decide)))
  refine W.over (l.length) n_2 (fun s h0_s hn_s => ?_)
  delta q23_Check_l1
  refine W.ite (fun h_3 => ?_) (fun h_3 => ?_)
  ·try simp [empty_iff] at h_3
   refine W.bind ?_
   refine W.row (G := ApiBlock.sz) (g_l) (by first | omega | (rw [w64_in] <;> omega)) (by first | omega | (rw [w64_in] <;> omega)) (fun li hx_li g_li => ?_)
   refine W.bind ?_
   refine (w_q23_good hN (g_li)).mono (fun r _ g_r => ?_)
   refine W.ite (fun h_4 => ?_) (fun h_4 => ?_)
   ·exact W.some trivial
   ·try simp [empty_iff] at h_4
    refine W.bind ?_
    refine W.row (G := ApiBlock.sz) (g_l) (by first | omega | (rw [w64_in] <;> omega)) (by first | omega | (rw [w64_in] <;> omega)) (fun li1 hx_li1 g_li1 => ?_)
    refine W.bind ?_
    refine (w_q05_Name hN (g_li1)).mono (fun r2 _ g_r2 => ?_)
    refine W.ite (fun h_5 => ?_) (fun h_5 => ?_)
    ·exact W.some trivial
    ·try simp [empty_iff] at h_5
     refine W.bind ?_
     refine W.guard (fun h_6 => ?_) (fun li3 => ?_)
     ·try simp [empty_iff] at h_6
      refine W.row (G := ApiBlock.sz) (g_l) (by first | omega | (rw [w64_in] <;> omega)) (by first | omega | (rw [w64_in] <;> omega)) (fun li3 hx_li3 g_li3 => ?_)
      exact trivial
     refine W.bind ?_
     refine W.guard (fun h_7 => ?_) (fun li4 => ?_)
     ·try simp [empty_iff] at h_7
      refine W.row (G := ApiBlock.sz) (g_l) (by first | omega | (rw [w64_in] <;> omega)) (by first | omega | (rw [w64_in] <;> omega)) (fun li4 hx_li4 g_li4 => ?_)
      exact trivial
     refine W.ite (fun h_8 => ?_) (fun h_8 => ?_)
     ·exact W.some trivial
     ·try simp [empty_iff] at h_8
      exact W.some ⟨by omega, wrap_succ n_2 h0_s (by omega)⟩
  ·exact W.some trivial
theorem w_q26_Check {N : Nat} (hN : 1024 ≤ N ∧ N ≤ 4398046511104) (hS : N ≤ 1048576) {b : ApiBooks} (g_b : ApiBooks.sz N b) : W (q26_Check b) (fun r => True) := by
 have j1 : ∀ s, W (q26_Check_j1 b s) (fun _ => True) := fun s => W.ite (fun _ => W.bind ((w_q23_Check hN g_b.2.2.2.2.2.2.2).mono (fun _ _ _ => W.some trivial))) (fun _ => W.some trivial)
 have j2 : ∀ s, W (q26_Check_j2 b s) (fun _ => True) := fun s => W.ite (fun _ => W.bind ((w_q22_Check hN g_b.2.2.2.2.2.2.1).mono (fun _ _ _ => j1 _))) (fun _ => j1 _)
 have j3 : ∀ s, W (q26_Check_j3 b s) (fun _ => True) := fun s => W.ite (fun _ => W.bind ((w_q26_entries hN hS g_b).mono (fun _ _ _ => j2 _))) (fun _ => j2 _)
 have j4 : ∀ s, W (q26_Check_j4 b s) (fun _ => True) := fun s => W.ite (fun _ => W.bind ((w_q24_Check hN g_b).mono (fun _ _ _ => j3 _))) (fun _ => j3 _)
 have j5 : ∀ s, W (q26_Check_j5 b s) (fun _ => True) := fun s => W.ite (fun _ => W.bind ((w_q26_products hN g_b).mono (fun _ _ _ => j4 _))) (fun _ => j4 _)
 have j6 : ∀ s, W (q26_Check_j6 b s) (fun _ => True) := fun s => W.ite (fun _ => W.bind ((w_q18_Check hN g_b.2.2.1).mono (fun _ _ _ => j5 _))) (fun _ => j5 _)
 exact W.bind ((w_q03_Check hN g_b.1).mono (fun _ _ _ => W.ite (fun _ => W.bind ((w_q26_calendars hN g_b.2.1).mono (fun _ _ _ => j6 _))) (fun _ => j6 _)))
theorem w_q29_Last {N : Nat} (hN : 1024 ≤ N ∧ N ≤ 4398046511104) {l : List ApiPeriod} {id : Int} (g_l : (gList gAny) N l) : W (q29_Last l id) (fun r => (True ∧ True)) := by
 delta q29_Last
 have z0_q29_Last_l1 := Nat.le_trans (g_l).1 hN.2
 refine W.iter (fun s => -1 ≤ s ∧ s < (l.length : Int) ∧ l.length ≤ 4398046511104) (fun s => ((s + 1).toNat)) (by have hw0 : IntKind.wrap .i64 (((List.map ApiPeriod.enc l).length : Int) - 1) = (((List.map ApiPeriod.enc l).length : Int) - 1) := w64_in (by simp only [List.length_map]; omega) (by simp only [List.length_map]; omega); (try simp only [hw0]); (try simp only [List.length_map]); omega) (by have hw0 : IntKind.wrap .i64 (((List.map ApiPeriod.enc l).length : Int) - 1) = (((List.map ApiPeriod.enc l).length : Int) - 1) := w64_in (by simp only [List.length_map]; omega) (by simp only [List.length_map]; omega); (try simp only [hw0]); (try simp only [List.length_map]); omega) (fun s hI_s => ?_)
 have hI_s : -1 ≤ s ∧ s < (l.length : Int) ∧ l.length ≤ 4398046511104 := hI_s
 delta q29_Last_l1
 refine W.ite (fun h_1 => ?_) (fun h_1 => ?_)
 ·try simp [empty_iff] at h_1
  refine W.bind ?_
  refine W.row0 (by first | omega | (rw [w64_in] <;> omega)) (by first | omega | (rw [w64_in] <;> omega) | (simp; omega)) (fun li hx_li => ?_)
  refine W.ite (fun h_2 => ?_) (fun h_2 => ?_)
  ·try simp [empty_iff] at h_2
   refine W.bind ?_
   refine W.row0 (by first | omega | (rw [w64_in] <;> omega)) (by first | omega | (rw [w64_in] <;> omega) | (simp; omega)) (fun li1 hx_li1 => ?_)
   exact W.some ⟨trivial, trivial⟩
  ·try simp [empty_iff] at h_2
   exact W.some (by have hw0 : IntKind.wrap .i64 (s - 1) = (s - 1) := w64_in (by omega) (by omega); exact ⟨by simp only [hw0]; omega, by simp only [hw0]; omega⟩)
 ·exact W.some ⟨trivial, trivial⟩
theorem w_q24_Product {N : Nat} (hN : 1024 ≤ N ∧ N ≤ 4398046511104) {b : ApiBooks} {id : Int} {day : Int} (g_b : ApiBooks.sz N b) : W (q24_Product b id day) (fun r => (ApiProduct.sz N r.1 ∧ True)) := by
 delta q24_Product
 refine W.bind ?_
 refine (w_q24_Find hN (g_b)).mono (fun r _ g_r => ?_)
 refine W.ite (fun h_1 => ?_) (fun h_1 => ?_)
 ·exact W.some ⟨⟨(gstr_bs (by decide) hN), (gstr_bs (by decide) hN), (gstr_bs (by decide) hN), glist_nil, glist_nil, glist_nil, glist_nil⟩, trivial⟩
 ·try simp [empty_iff] at h_1
  refine W.bind ?_
  refine (w_q17_At hN (g_b.2.2.2.1) (g_r.1.2.1)).mono (fun r1 _ g_r1 => ?_)
  exact W.some ⟨(g_r1.1), trivial⟩
end Go.Cb
set_option linter.unusedSimpArgs false
namespace Go.Cb
open Go.Eng Go.RowKit
theorem e_Valid : date_Valid = q04_Valid := rfl
theorem e_Leap : date_Leap = q04_Leap := rfl
theorem e_Last : settle_Last = q29_Last := rfl
theorem e_RValid : rounding_Valid = q02_Valid := rfl
theorem e_Good : rounding_valid = q02_Good := rfl
theorem e_size {b : Int} (h1 : -9223372036854775808 ≤ b) (h2 : b ≤ 9223372036854775807) : tier_size b = q14_Size b := by
  unfold tier_size q14_Size
  by_cases h : b = -9223372036854775808
  · subst h; rfl
  · have e1 : decide (b < -9223372036854775807) = false := by simp; omega
    have e2 : (b == -9223372036854775808) = false := by simpa using h
    have e3 : IntKind.wrap .i64 (0 - b) = 0 - b := w64_in (by omega) (by omega)
    rw [e1, e2, e3]
    by_cases hb : b < 0
    · simp [hb]
      omega
    · simp [hb]
      omega
theorem e_Rate_l1 {l : List ApiTier} {b : Int} (h1 : -9223372036854775808 ≤ b) (h2 : b ≤ 9223372036854775807) (s : Int × Int) : tier_Rate_l1 l b s = q14_Rate_l1 l b s := by
  unfold tier_Rate_l1 q14_Rate_l1
  rw [e_size h1 h2]
  cases hg : getI l s.2 with
  | none => rfl
  | some x => rfl
theorem e_At_l1 : catalog_At_l1 = q17_At_l1 := by
  funext l n d s
  unfold catalog_At_l1 q17_At_l1
  cases hg : getI l s.2 with
  | none => rfl
  | some x =>
    generalize decide (s.1 < 0) = c
    simp only [Option.bind_some]
    cases hn : (x.Name.toList == n.toList) with
    | false => cases c <;> rfl
    | true =>
      simp only [cond_true, beq_self_eq_true, Bool.and_true, if_true, Option.bind_some]
      cases hd : decide (x.From ≤ d) with
      | false => cases c <;> rfl
      | true => cases c <;> rfl
theorem e_At : catalog_At = q17_At := by
  funext l n d
  unfold catalog_At q17_At
  rw [e_At_l1]
section
variable {σ ρ τ : Type}
theorem iterN_bind {step1 : σ → Option (σ ⊕ ρ)} {step2 : σ → Option (σ ⊕ τ)} {f : ρ → Option τ} (h : ∀ s, step2 s = (step1 s).bind fun x => match x with | .inl s' => some (.inl s') | .inr r => (f r).map .inr) : ∀ (n : Nat) (s : σ), iterN step2 n s = (iterN step1 n s).bind f
  | 0, s => rfl
  | n + 1, s => by
    unfold iterN
    rw [h s]
    cases step1 s with
    | none => rfl
    | some x =>
      cases x with
      | inl s' => exact iterN_bind h n s'
      | inr r =>
        simp only [Option.bind_some]
        cases f r <;> rfl
theorem iter_bind {step1 : σ → Option (σ ⊕ ρ)} {step2 : σ → Option (σ ⊕ τ)} {f : ρ → Option τ} (h : ∀ s, step2 s = (step1 s).bind fun x => match x with | .inl s' => some (.inl s') | .inr r => (f r).map .inr) (s : σ) : Iter step2 s = (Iter step1 s).bind f := iterN_bind h FUEL s
end
theorem e_Find (b : ApiBooks) (id : Int) : account_Find b id = q24_Find b id := by
  unfold account_Find q24_Find account_index slices_IndexFunc_api_Account_api_Account__account_index_c1
  have hb : ∀ m : Option Int, (m.bind fun r => some r) = m := fun m => by cases m <;> rfl
  rw [hb]
  refine (iter_bind (fun s => ?_) 0).symm
  unfold q24_Find_l1 slices_IndexFunc_api_Account_api_Account__account_index_c1_l1 account_index_c1
  cases hc : decide (s < ((List.map ApiAccount.enc b.Accounts).length : Int)) with
  | false => rfl
  | true =>
    simp only [if_true]
    cases hg : getI b.Accounts s with
    | none => rfl
    | some x =>
      have h0 : 0 ≤ s := by
        unfold getI at hg
        split at hg
        · assumption
        · cases hg
      simp only [Option.bind_some]
      cases hi : (x.Id == id) with
      | false => rfl
      | true =>
        simp only [if_true, Option.bind_some]
        have hs : decide (s < 0) = false := by simp; omega
        rw [hs, hg]
        rfl
theorem e_Active : account_Active = q24_Active := by
  funext b id d
  unfold account_Active q24_Active
  rw [e_Find]
theorem e_Product : account_Product = q24_Product := by
  funext b id d
  unfold account_Product q24_Product
  rw [e_Find, e_At]
theorem e_Asc (l : List ApiTier) : ((tier_ascending_api_Tier__tier_Check_c1 l).bind fun r => if (!r) = true then (some 10) else ((if (((decide (((List.map ApiTier.enc l).length : Int) > 0)) == true) && true) = true then getI l 0 else some default).bind fun li1 => if (bif (decide (((List.map ApiTier.enc l).length : Int) > 0)) then (li1.From != 0) else false) = true then (some 1) else (some 0))) = Iter (q14_Check_l2 l) 1 := by
  unfold tier_ascending_api_Tier__tier_Check_c1
  refine (iter_bind (fun s => ?_) 1).symm
  unfold q14_Check_l2 tier_ascending_api_Tier__tier_Check_c1_l1 tier_Check_c1
  cases hc : decide (s < ((List.map ApiTier.enc l).length : Int)) with
  | false => rfl
  | true =>
    simp only [if_true]
    cases hg : getI l s with
    | none => rfl
    | some x =>
      simp only [Option.bind_some]
      cases hg2 : getI l (IntKind.wrap .i64 (s - 1)) with
      | none => rfl
      | some y =>
        simp only [Option.bind_some]
        cases decide (x.From ≤ y.From) <;> rfl
theorem e_TCheck_l1 : tier_Check_l1 = q14_Check_l1 := by
  funext l s
  unfold tier_Check_l1 q14_Check_l1
  rw [← e_Asc]
  cases hc : decide (s < ((List.map ApiTier.enc l).length : Int)) with
  | false => rfl
  | true =>
    simp only [if_true]
    cases hg : getI l s with
    | none => rfl
    | some x =>
      simp only [Option.bind_some]
      cases h1 : decide (x.From < 0) with
      | true => rfl
      | false =>
        simp only [cond_false, beq_self_eq_true, Bool.and_true, if_true, Option.bind_some]
        cases h2 : decide (x.From > 1000000000000) with
        | true => rfl
        | false =>
          simp only [cond_false, beq_self_eq_true, Bool.and_true, if_true, Option.bind_some]
          cases h3 : decide (x.Ppm < 0) with
          | true => rfl
          | false => rfl
theorem e_TCheck : tier_Check = q14_Check := by
  funext l
  unfold tier_Check q14_Check
  rw [e_TCheck_l1]
theorem e_Rate {l : List ApiTier} {b : Int} (h1 : -9223372036854775808 ≤ b) (h2 : b ≤ 9223372036854775807) : tier_Rate l b = q14_Rate l b := by
  unfold tier_Rate q14_Rate
  rw [e_TCheck, show tier_Rate_l1 l b = q14_Rate_l1 l b from funext (e_Rate_l1 h1 h2)]
theorem e_Side {p : ApiProduct} (b : Int) (h1 : p.Debit.Tiers.length ≤ 1099511627776) (h2 : p.Credit.Tiers.length ≤ 1099511627776) : product_Side p b = q15_Side p b := by
  have hcl : ∀ l : List ApiTier, l.length ≤ 1099511627776 → slices_Clone_api_Tier_api_Tier l = some l := by
    intro l hl
    unfold slices_Clone_api_Tier_api_Tier
    rw [if_pos (by simp; omega)]
    rfl
  unfold product_Side q15_Side product_Side_j0
  cases decide (b < 0)
  · simp only [hcl _ h2]; rfl
  · simp only [hcl _ h1]; rfl
theorem e_Slices_j1 {l : List ApiTier} {s : Int × List ApiSlice} {x : ApiTier} (h : getI l s.1 = some x) (v : Int) : tier_Slices_j1 s x v = q14_Slices_j1 l s v := by
  unfold tier_Slices_j1 q14_Slices_j1
  rw [h]
  rfl
theorem e_Slices_l1 (l : List ApiTier) (r : Int) (s : Int × List ApiSlice) : tier_Slices_l1 l r s = q14_Slices_l1 l r s := by
  unfold tier_Slices_l1 q14_Slices_l1
  cases hc : decide (s.1 < ((List.map ApiTier.enc l).length : Int)) with
  | false => rfl
  | true =>
    simp only [if_true]
    cases hg : getI l s.1 with
    | none =>
      have hn : ∀ v, q14_Slices_j1 l s v = none := fun v => by unfold q14_Slices_j1; rw [hg]; rfl
      simp only [hn]
      cases decide (IntKind.wrap .i64 (s.1 + 1) < ((List.map ApiTier.enc l).length : Int)) with
      | false => rfl
      | true =>
        simp only [beq_self_eq_true, Bool.and_true, if_true, cond_true]
        cases getI l (IntKind.wrap .i64 (s.1 + 1)) with
        | none => rfl
        | some y =>
          simp only [Option.bind_some]
          cases decide (y.From < r) <;> rfl
    | some x =>
      simp only [Option.bind_some]
      cases decide (IntKind.wrap .i64 (s.1 + 1) < ((List.map ApiTier.enc l).length : Int)) with
      | false =>
        simp only [e_Slices_j1 hg]
        rfl
      | true =>
        simp only [beq_self_eq_true, Bool.and_true, if_true, cond_true]
        cases getI l (IntKind.wrap .i64 (s.1 + 1)) with
        | none => rfl
        | some y =>
          simp only [Option.bind_some]
          by_cases hy : y.From < r
          · simp only [hy, if_true, decide_true]
            rw [e_Slices_j1 hg]
          · simp only [hy, if_false, decide_false]
            rw [e_Slices_j1 hg]
            rfl
theorem check_nil : q14_Check [] = some 0 := by kernel_rfl
theorem sl_gen {τ : Type} (e y : Bool) (C : Option Int) (X : Option (List τ)) (h : e = true → C = some 0) :
    ((if ((e == false) && true) = true then C else some default).bind fun r1 => if (bif (bif e then true else (r1 != 0)) then true else y) = true then (some []) else X) =
      C.bind fun r1 => if (bif (bif (r1 != 0) then true else e) then true else y) = true then (some []) else X := by
  cases e with
  | true => rw [h rfl]; rfl
  | false =>
    cases C with
    | none => rfl
    | some c =>
      simp only [beq_self_eq_true, Bool.and_true, if_true, Option.bind_some, cond_false]
      cases (c != 0) <;> rfl
theorem e_Slices {l : List ApiTier} {m : Bool} {b : Int} (h1 : -9223372036854775808 ≤ b) (h2 : b ≤ 9223372036854775807) : tier_Slices l m b = q14_Slices l m b := by
  have hl : ∀ z, tier_Slices_l1 l z = q14_Slices_l1 l z := fun z => funext (e_Slices_l1 l z)
  unfold tier_Slices q14_Slices
  rw [e_size h1 h2, e_TCheck, e_Rate h1 h2]
  refine congrArg _ (funext fun z => ?_)
  rw [hl z]
  refine sl_gen _ _ _ _ (fun hq => ?_)
  have hn : l = [] := by simpa using hq
  rw [hn]
  exact check_nil
theorem e_length (y : Int) {m : Int} (h1 : 1 ≤ m) (h2 : m ≤ 12) : date_length y m = q04_Length y m := by
  have h : m = 1 ∨ m = 2 ∨ m = 3 ∨ m = 4 ∨ m = 5 ∨ m = 6 ∨ m = 7 ∨ m = 8 ∨ m = 9 ∨ m = 10 ∨ m = 11 ∨ m = 12 := by omega
  unfold date_length q04_Length
  rw [e_Leap]
  unfold q04_Length_j1 q04_Length_j0 q04_Leap
  generalize (bif ((y.tmod 4) == 0) then (bif ((y.tmod 100) != 0) then true else ((y.tmod 400) == 0)) else false) = lp
  rcases h with rfl | rfl | rfl | rfl | rfl | rfl | rfl | rfl | rfl | rfl | rfl | rfl <;> cases lp <;> rfl
end Go.Cb
set_option linter.unusedSimpArgs false
namespace Go.Cb
open Go.Eng Go.RowKit
def bgv (y : Int) : Int := 365 * (y - 2000) + (y - 2000 + 3) / 4 - (if y > 2100 then 1 else 0)
theorem e_begin {y : Int} (h1 : 2000 ≤ y) (h2 : y ≤ 2300) : date_begin y = some (bgv y) := by
  have w1 : IntKind.wrap .i64 (y - 2000) = y - 2000 := w64_in (by omega) (by omega)
  have w2 : IntKind.wrap .i64 (y - 2000 + 3) = y - 2000 + 3 := w64_in (by omega) (by omega)
  have t : (y - 2000 + 3).tdiv 4 = (y - 2000 + 3) / 4 := Int.tdiv_eq_ediv_of_nonneg (by omega)
  have w3 : IntKind.wrap .i64 ((y - 2000 + 3) / 4) = (y - 2000 + 3) / 4 := w64_in (by omega) (by omega)
  have w4 : IntKind.wrap .i64 ((y - 2000 + 3) / 4 - 1) = (y - 2000 + 3) / 4 - 1 := w64_in (by omega) (by omega)
  have w5 : IntKind.wrap .i64 (365 * (y - 2000)) = 365 * (y - 2000) := w64_in (by omega) (by omega)
  have w6 : IntKind.wrap .i64 (365 * (y - 2000) + (y - 2000 + 3) / 4) = 365 * (y - 2000) + (y - 2000 + 3) / 4 := w64_in (by omega) (by omega)
  have w7 : IntKind.wrap .i64 (365 * (y - 2000) + ((y - 2000 + 3) / 4 - 1)) = 365 * (y - 2000) + ((y - 2000 + 3) / 4 - 1) := w64_in (by omega) (by omega)
  unfold date_begin date_begin_j0 bgv
  simp only [w1, w2, t, w3, w4, w5, w6, w7]
  by_cases h : y > 2100
  · simp only [h, decide_true, if_true]
    congr 1
    omega
  · simp only [h, decide_false, if_false]
    simp
def ylv (y : Int) : Int := if y % 4 = 0 ∧ (y % 100 ≠ 0 ∨ y % 400 = 0) then 366 else 365
theorem e_year {y : Int} (h1 : 2000 ≤ y) : q04_yearLength y = some (ylv y) := by
  unfold q04_yearLength q04_Leap ylv
  have t1 : y.tmod 4 = y % 4 := Int.tmod_eq_emod_of_nonneg (by omega)
  have t2 : y.tmod 100 = y % 100 := Int.tmod_eq_emod_of_nonneg (by omega)
  have t3 : y.tmod 400 = y % 400 := Int.tmod_eq_emod_of_nonneg (by omega)
  rw [t1, t2, t3]
  simp only [Option.bind_some]
  by_cases a : y % 4 = 0 <;> by_cases b : y % 100 = 0 <;> by_cases c : y % 400 = 0 <;> simp [a, b, c]
theorem bg_succ {y : Int} (h1 : 2000 ≤ y) (h2 : y ≤ 2199) : bgv (y + 1) = bgv y + ylv y := by
  unfold bgv ylv
  have hq : y = 2000 ∨ (2000 < y ∧ y < 2100) ∨ y = 2100 ∨ (2100 < y ∧ y ≤ 2199) := by omega
  split <;> split <;> split <;> omega
section
variable {σ ρ : Type}
theorem iterN_congr {a b : σ → Option (σ ⊕ ρ)} (Inv : σ → Prop) (h : ∀ s, Inv s → a s = b s) (hi : ∀ s s', Inv s → a s = some (.inl s') → Inv s') : ∀ (n : Nat) (s : σ), Inv s → iterN a n s = iterN b n s
  | 0, s, _ => rfl
  | n + 1, s, hs => by
    unfold iterN
    rw [← h s hs]
    cases hx : a s with
    | none => rfl
    | some x =>
      cases x with
      | inl s' => exact iterN_congr Inv h hi n s' (hi s s' hs hx)
      | inr r => rfl
theorem iter_congr {a b : σ → Option (σ ⊕ ρ)} (Inv : σ → Prop) {s : σ} (h0 : Inv s) (h : ∀ s, Inv s → a s = b s) (hi : ∀ s s', Inv s → a s = some (.inl s') → Inv s') : Iter a s = Iter b s := iterN_congr Inv h hi FUEL s h0
end
def mrest (y m : Int) : Int := if m = 1 then ylv y else if m = 2 then ylv y - 31 else if m = 3 then 306 else if m = 4 then 275 else if m = 5 then 245 else if m = 6 then 214 else if m = 7 then 184 else if m = 8 then 153 else if m = 9 then 122 else if m = 10 then 92 else if m = 11 then 61 else 31
def mlen (y m : Int) : Int := if m = 2 then ylv y - 337 else if m = 4 ∨ m = 6 ∨ m = 9 ∨ m = 11 then 30 else 31
theorem e_mlen {y m : Int} (h0 : 2000 ≤ y) (h1 : 1 ≤ m) (h2 : m ≤ 12) : date_length y m = some (mlen y m) := by
  rw [e_length y h1 h2]
  have hy := e_year h0
  unfold q04_yearLength at hy
  unfold q04_Length q04_Length_j1 q04_Length_j0 mlen
  cases hl : q04_Leap y with
  | none => rw [hl] at hy; cases hy
  | some lp =>
    rw [hl] at hy
    simp only [Option.bind_some] at hy
    have h : m = 1 ∨ m = 2 ∨ m = 3 ∨ m = 4 ∨ m = 5 ∨ m = 6 ∨ m = 7 ∨ m = 8 ∨ m = 9 ∨ m = 10 ∨ m = 11 ∨ m = 12 := by omega
    rcases h with rfl | rfl | rfl | rfl | rfl | rfl | rfl | rfl | rfl | rfl | rfl | rfl <;> first
      | rfl
      | (cases lp with
         | true =>
           have : (366 : Int) = ylv y := Option.some.inj hy
           rw [← this]; rfl
         | false =>
           have : (365 : Int) = ylv y := Option.some.inj hy
           rw [← this]; rfl)
theorem e_months {y : Int} (h0 : 2000 ≤ y) {s0 : Int × Int} (hs : s0.2 = y) {d : Int} (hd : 0 ≤ d) (hd2 : d < ylv y) : Iter (date_Civil_l2 y) (d, 1) = Iter (q04_Civil_l2 s0) (d, 1) := by
  have hyl : ylv y = 365 ∨ ylv y = 366 := by unfold ylv; split <;> simp
  refine iter_congr (fun s => 1 ≤ s.2 ∧ s.2 ≤ 12 ∧ 0 ≤ s.1 ∧ s.1 < mrest y s.2) ⟨by simp, by simp, hd, by simpa [mrest] using hd2⟩ (fun s hi => ?_) (fun s s' hi hx => ?_)
  · unfold date_Civil_l2 q04_Civil_l2
    rw [hs, e_length y hi.1 hi.2.1]
  · obtain ⟨a1, a2, a3, a4⟩ := hi
    unfold date_Civil_l2 at hx
    rw [e_mlen h0 a1 a2] at hx
    simp only [Option.bind_some] at hx
    split at hx
    · rename_i hc
      simp only [decide_eq_true_eq] at hc
      have e := Sum.inl.inj (Option.some.inj hx)
      subst e
      have w2 : IntKind.wrap .i64 (s.2 + 1) = s.2 + 1 := w64_in (by omega) (by omega)
      have hm : 0 ≤ mlen y s.2 ∧ s.1 < 400 ∧ s.2 < 12 ∧ mrest y (s.2 + 1) = mrest y s.2 - mlen y s.2 := by
        have h : s.2 = 1 ∨ s.2 = 2 ∨ s.2 = 3 ∨ s.2 = 4 ∨ s.2 = 5 ∨ s.2 = 6 ∨ s.2 = 7 ∨ s.2 = 8 ∨ s.2 = 9 ∨ s.2 = 10 ∨ s.2 = 11 ∨ s.2 = 12 := by omega
        rcases h with h | h | h | h | h | h | h | h | h | h | h | h <;> rw [h] at a4 hc ⊢ <;> simp [mlen, mrest] at a4 hc ⊢ <;> omega
      have w1 : IntKind.wrap .i64 (s.1 - mlen y s.2) = s.1 - mlen y s.2 := w64_in (by omega) (by omega)
      show 1 ≤ IntKind.wrap .i64 (s.2 + 1) ∧ IntKind.wrap .i64 (s.2 + 1) ≤ 12 ∧ 0 ≤ IntKind.wrap .i64 (s.1 - mlen y s.2) ∧ IntKind.wrap .i64 (s.1 - mlen y s.2) < mrest y (IntKind.wrap .i64 (s.2 + 1))
      rw [w1, w2]
      omega
    · cases (Option.some.inj hx)
theorem bg_mono {y z : Int} (h0 : 2000 ≤ y) (h : y ≤ z) : bgv y ≤ bgv z := by
  unfold bgv
  split <;> split <;> omega
theorem year_of {d : Int} (h0 : 0 ≤ d) : ∀ k : Nat, d < bgv (2000 + (k : Int)) → ∃ j : Nat, j < k ∧ bgv (2000 + (j : Int)) ≤ d ∧ d < bgv (2000 + (j : Int) + 1)
  | 0, h => by simp [bgv] at h; omega
  | k + 1, h => by
    by_cases hk : bgv (2000 + (k : Int)) ≤ d
    · exact ⟨k, by omega, hk, by rw [show (2000 : Int) + (k : Int) + 1 = 2000 + ((k + 1 : Nat) : Int) by omega]; exact h⟩
    · obtain ⟨j, h1, h2⟩ := year_of h0 k (by omega)
      exact ⟨j, by omega, h2⟩
theorem e_Civil_doc {d : Int} {j : Nat} (hj : j ≤ 199) (h1 : bgv (2000 + (j : Int)) ≤ d) (h2 : d < bgv (2000 + (j : Int) + 1)) (hd : d ≤ 73048) :
    Iter q04_Civil_l1 (d, 2000) = Iter (q04_Civil_l2 (d - bgv (2000 + (j : Int)), 2000 + (j : Int))) (d - bgv (2000 + (j : Int)), 1) := by
  have hb0 : bgv 2000 = 0 := by simp [bgv]
  have hnn : ∀ i : Nat, 0 ≤ bgv (2000 + (i : Int)) := fun i => by have := bg_mono (y := 2000) (z := 2000 + (i : Int)) (by omega) (by omega); omega
  refine iter_run j (fun i => (d - bgv (2000 + (i : Int)), 2000 + (i : Int))) (by simp [hb0]) (by omega) (fun i hi => ?_) ?_
  · unfold q04_Civil_l1
    rw [e_year (by simp; omega)]
    have hs := bg_succ (y := 2000 + (i : Int)) (by omega) (by omega)
    have hm := bg_mono (y := 2000 + (i : Int) + 1) (z := 2000 + (j : Int)) (by omega) (by omega)
    have hi0 := hnn i
    have hyl : 0 ≤ ylv (2000 + (i : Int)) := by unfold ylv; split <;> simp
    simp only [Option.bind_some]
    rw [if_pos (by simp; omega)]
    have w1 : IntKind.wrap .i64 (d - bgv (2000 + (i : Int)) - ylv (2000 + (i : Int))) = d - bgv (2000 + (i : Int)) - ylv (2000 + (i : Int)) := w64_in (by omega) (by omega)
    have w2 : IntKind.wrap .i64 (2000 + (i : Int) + 1) = 2000 + (i : Int) + 1 := w64_in (by omega) (by omega)
    rw [w1, w2]
    have c : ((i + 1 : Nat) : Int) = (i : Int) + 1 := by omega
    rw [c, ← Int.add_assoc, hs]
    congr 3
    omega
  · unfold q04_Civil_l1
    rw [e_year (by simp; omega)]
    have hs := bg_succ (y := 2000 + (j : Int)) (by omega) (by omega)
    simp only [Option.bind_some]
    rw [if_neg (by simp; omega)]
theorem e_Civil_prog {d : Int} {j : Nat} (hj : j ≤ 199) (h1 : bgv (2000 + (j : Int)) ≤ d) (h2 : d < bgv (2000 + (j : Int) + 1)) (h0 : 0 ≤ d) (hd : d ≤ 73048) :
    Iter (date_Civil_l1 d) (2000 + d / 366) = Iter (date_Civil_l2 (2000 + (j : Int))) (d - bgv (2000 + (j : Int)), 1) := by
  obtain ⟨g, hg⟩ : ∃ g : Nat, d / 366 = (g : Int) := ⟨(d / 366).toNat, by omega⟩
  have hbg : bgv (2000 + (g : Int)) ≤ d := by
    unfold bgv
    split <;> omega
  have hgj : g ≤ j := by
    refine Nat.le_of_not_lt (fun hlt => ?_)
    have := bg_mono (y := 2000 + (j : Int) + 1) (z := 2000 + (g : Int)) (by omega) (by omega)
    omega
  rw [hg]
  refine iter_run (j - g) (fun i => 2000 + (g : Int) + (i : Int)) (by simp) (by omega) (fun i hi => ?_) ?_
  · unfold date_Civil_l1
    have w : IntKind.wrap .i64 (2000 + (g : Int) + (i : Int) + 1) = 2000 + (g : Int) + (i : Int) + 1 := w64_in (by omega) (by omega)
    have hm := bg_mono (y := 2000 + (g : Int) + (i : Int) + 1) (z := 2000 + (j : Int)) (by omega) (by omega)
    rw [w, e_begin (by omega) (by omega)]
    simp only [Option.bind_some]
    rw [if_pos (by simp; omega)]
    have c : ((i + 1 : Nat) : Int) = (i : Int) + 1 := by omega
    rw [c, ← Int.add_assoc]
  · unfold date_Civil_l1
    have e : 2000 + (g : Int) + ((j - g : Nat) : Int) = 2000 + (j : Int) := by omega
    rw [e]
    have w : IntKind.wrap .i64 (2000 + (j : Int) + 1) = 2000 + (j : Int) + 1 := w64_in (by omega) (by omega)
    rw [w, e_begin (by omega) (by omega), e_begin (by omega) (by omega)]
    simp only [Option.bind_some]
    have hnn := bg_mono (y := 2000) (z := 2000 + (j : Int)) (by omega) (by omega)
    have hb0 : bgv 2000 = 0 := by simp [bgv]
    have w1 : IntKind.wrap .i64 (d - bgv (2000 + (j : Int))) = d - bgv (2000 + (j : Int)) := w64_in (by omega) (by omega)
    rw [if_neg (by simp; omega), w1]
theorem e_Civil (d : Int) : date_Civil d = q04_Civil d := by
  unfold date_Civil q04_Civil
  rw [e_Valid]
  unfold q04_Valid
  simp only [Option.bind_some]
  split
  · rfl
  · rename_i hv
    have hv' : 0 ≤ d ∧ d ≤ 73048 := by
      simp at hv
      omega
    obtain ⟨j, hj, h1, h2⟩ := year_of hv'.1 200 (by have : bgv (2000 + ((200 : Nat) : Int)) = 73049 := by simp [bgv]
                                                    omega)
    have t : d.tdiv 366 = d / 366 := Int.tdiv_eq_ediv_of_nonneg hv'.1
    have w1 : IntKind.wrap .i64 (d / 366) = d / 366 := w64_in (by omega) (by omega)
    have w2 : IntKind.wrap .i64 (2000 + d / 366) = 2000 + d / 366 := w64_in (by omega) (by omega)
    rw [t, w1, w2, e_Civil_prog (by omega) h1 h2 hv'.1 hv'.2, e_Civil_doc (by omega) h1 h2 hv'.2]
    have hs := bg_succ (y := 2000 + (j : Int)) (by omega) (by omega)
    refine e_months (y := 2000 + (j : Int)) ?_ rfl ?_ ?_ <;> omega
end Go.Cb
set_option linter.unusedSimpArgs false
namespace Go.Cb
open Go.Eng Go.RowKit
theorem wu (n : Int) : IntKind.wrap .u64 n = n % 18446744073709551616 := by
  unfold IntKind.wrap IntKind.bits IntKind.signed
  simp
theorem wi (n : Int) : IntKind.wrap .i64 n = (n + 9223372036854775808) % 18446744073709551616 - 9223372036854775808 := by
  unfold IntKind.wrap IntKind.bits IntKind.signed
  simp only
  split <;> rename_i h <;> simp at h <;> omega
theorem ofInt_toNat {x : Int} (h0 : 0 ≤ x) (h1 : x < 18446744073709551616) : (BitVec.ofInt 64 x).toNat = x.toNat := by
  rw [BitVec.toNat_ofInt]
  simp
  rw [Int.emod_eq_of_lt h0 h1]
theorem xor_ones {x : Int} (h0 : 0 ≤ x) (h1 : x < 18446744073709551616) : bitsI .xor .u64 18446744073709551615 x = 18446744073709551615 - x := by
  unfold bitsI
  show IntKind.wrap .u64 (((BitVec.ofInt 64 18446744073709551615 ^^^ BitVec.ofInt 64 x).toNat : Nat) : Int) = _
  have e : BitVec.ofInt 64 18446744073709551615 = BitVec.allOnes 64 := rfl
  rw [e, BitVec.allOnes_xor, BitVec.toNat_not, ofInt_toNat h0 h1, wu]
  simp
  omega
theorem xor_neg {x : Int} (h0 : -9223372036854775808 ≤ x) (h1 : x ≤ 9223372036854775807) : bitsI .xor .i64 (-1) x = -1 - x := by
  unfold bitsI
  show IntKind.wrap .i64 (((BitVec.ofInt 64 (-1) ^^^ BitVec.ofInt 64 x).toNat : Nat) : Int) = _
  have e : BitVec.ofInt 64 (-1) = BitVec.allOnes 64 := rfl
  rw [e, BitVec.allOnes_xor, BitVec.toNat_not, BitVec.toNat_ofInt, wi]
  simp
  omega
theorem and_lo {x : Int} (h0 : 0 ≤ x) (h1 : x < 18446744073709551616) : bitsI .and .u64 x 4294967295 = x % 4294967296 := by
  unfold bitsI
  show IntKind.wrap .u64 (((BitVec.ofInt 64 x &&& BitVec.ofInt 64 4294967295).toNat : Nat) : Int) = _
  rw [BitVec.toNat_and, ofInt_toNat h0 h1, show (BitVec.ofInt 64 4294967295).toNat = 2 ^ 32 - 1 from rfl, Nat.and_two_pow_sub_one_eq_mod, wu]
  omega
theorem and_1 {x : Int} (h0 : 0 ≤ x) (h1 : x < 18446744073709551616) : bitsI .and .u64 x 1 = x % 2 := by
  unfold bitsI
  show IntKind.wrap .u64 (((BitVec.ofInt 64 x &&& BitVec.ofInt 64 1).toNat : Nat) : Int) = _
  rw [BitVec.toNat_and, ofInt_toNat h0 h1, show (BitVec.ofInt 64 1).toNat = 2 ^ 1 - 1 from rfl, Nat.and_two_pow_sub_one_eq_mod, wu]
  omega
theorem nat_top (n : Nat) : n &&& 2 ^ 63 = if n.testBit 63 then 2 ^ 63 else 0 := by
  apply Nat.eq_of_testBit_eq
  intro i
  rw [Nat.testBit_and, Nat.testBit_two_pow]
  by_cases h : (63 : Nat) = i
  · subst h
    cases n.testBit 63 <;> rfl
  · simp only [h, decide_false, Bool.and_false]
    split
    · rw [Nat.testBit_two_pow]; simp [h]
    · simp
theorem and_top {x : Int} (h0 : 0 ≤ x) (h1 : x < 18446744073709551616) : (bitsI .and .u64 x 9223372036854775808 != 0) = decide (9223372036854775808 ≤ x) := by
  unfold bitsI
  show (IntKind.wrap .u64 (((BitVec.ofInt 64 x &&& BitVec.ofInt 64 9223372036854775808).toNat : Nat) : Int) != 0) = _
  rw [BitVec.toNat_and, ofInt_toNat h0 h1, show (BitVec.ofInt 64 9223372036854775808).toNat = 2 ^ 63 from rfl, nat_top, wu]
  have : x.toNat.testBit 63 = decide (9223372036854775808 ≤ x) := by
    rw [Nat.testBit_eq_decide_div_mod_eq]
    apply decide_eq_decide.2
    omega
  rw [this]
  by_cases h : 9223372036854775808 ≤ x
  · simp [h]
  · simp [h]
theorem or_add {a b : Int} {s : Nat} (ha : 0 ≤ a) (hb : 0 ≤ b) (hb1 : b < 2 ^ s) (h : a * 2 ^ s + b < 18446744073709551616) : bitsI .or .u64 (a * 2 ^ s) b = a * 2 ^ s + b := by
  obtain ⟨m, rfl⟩ : ∃ m : Nat, a = m := ⟨a.toNat, by omega⟩
  obtain ⟨n, rfl⟩ : ∃ n : Nat, b = n := ⟨b.toNat, by omega⟩
  have hc : ((m : Int) * 2 ^ s) = ((2 ^ s * m : Nat) : Int) := by simp [Int.mul_comm]
  rw [hc] at h ⊢
  have hn : n < 2 ^ s := by
    have : ((2 : Int) ^ s) = ((2 ^ s : Nat) : Int) := by simp
    rw [this] at hb1
    omega
  unfold bitsI
  show IntKind.wrap .u64 (((BitVec.ofInt 64 ((2 ^ s * m : Nat) : Int) ||| BitVec.ofInt 64 (n : Int)).toNat : Nat) : Int) = _
  rw [BitVec.toNat_or, ofInt_toNat (by omega) (by omega), ofInt_toNat (by omega) (by omega), Int.toNat_natCast, Int.toNat_natCast, ← Nat.two_pow_add_eq_or_of_lt hn, wu]
  omega
end Go.Cb
set_option linter.unusedSimpArgs false
set_option linter.unusedVariables false
namespace Go.Cb
open Go.Eng Go.RowKit
def wok (a : ApiWide) : Prop := (-9223372036854775808 ≤ a.Hi ∧ a.Hi ≤ 9223372036854775807) ∧ 0 ≤ a.Lo ∧ a.Lo ≤ 18446744073709551615
def wv (a : ApiWide) : Int := a.Hi * 18446744073709551616 + a.Lo
def mk128 (v : Int) : ApiWide := ⟨v / 18446744073709551616, v % 18446744073709551616⟩
def in128 (v : Int) : Prop := -170141183460469231731687303715884105728 ≤ v ∧ v ≤ 170141183460469231731687303715884105727
instance (v : Int) : Decidable (in128 v) := by unfold in128; infer_instance
def P128 : Int := 340282366920938463463374607431768211456
def wres (v : Int) : ApiWide × Int := if in128 v then (mk128 v, 0) else (⟨0, 0⟩, 6)
theorem wv_mk (v : Int) : wv (mk128 v) = v := by unfold wv mk128; simp only; omega
theorem mk_wv {a : ApiWide} (h : wok a) : mk128 (wv a) = a := by
  cases a; unfold wok at h; unfold wv mk128; simp only at *
  congr 1 <;> omega
theorem wok_in {a : ApiWide} (h : wok a) : in128 (wv a) := by unfold wok at h; unfold in128 wv; omega
theorem wok_mk {v : Int} (h : in128 v) : wok (mk128 v) := by unfold in128 at h; unfold wok mk128; simp only; omega
theorem wok_zero : wok ⟨0, 0⟩ := by unfold wok; simp
theorem wok_res (v : Int) : wok (wres v).1 := by
  unfold wres
  split
  · exact wok_mk ‹_›
  · exact wok_zero
theorem mk_ext {h l v : Int} (h1 : h * 18446744073709551616 + l = v) (h2 : 0 ≤ l) (h3 : l ≤ 18446744073709551615) : (⟨h, l⟩ : ApiWide) = mk128 v := by
  unfold mk128
  congr 1 <;> omega
def sok (s : WideSize) : Prop := (0 ≤ s.hi ∧ s.hi ≤ 18446744073709551615) ∧ 0 ≤ s.lo ∧ s.lo ≤ 18446744073709551615
def sv (s : WideSize) : Int := s.hi * 18446744073709551616 + s.lo
def mkS (v : Int) : WideSize := ⟨v / 18446744073709551616, v % 18446744073709551616⟩
theorem sv_mk (v : Int) : sv (mkS v) = v := by unfold sv mkS; simp only; omega
theorem sok_mk {v : Int} (h0 : 0 ≤ v) (h1 : v < 340282366920938463463374607431768211456) : sok (mkS v) := by unfold sok mkS; simp only; omega
theorem s_negate {a : ApiWide} (h : wok a) : wide_negate a = some (mk128 (if wv a = -170141183460469231731687303715884105728 then wv a else - wv a)) := by
  unfold wok at h
  unfold wide_negate bitsAdd64
  rw [xor_ones (by omega) (by omega), xor_neg (by omega) (by omega), if_pos (by omega)]
  simp only [Option.bind_some, wu, wi]
  congr 1
  apply mk_ext
  · unfold wv
    split <;> omega
  · omega
  · omega
theorem s_absolute {a : ApiWide} (h : wok a) : wide_absolute a = some (mkS (wv a).natAbs) := by
  have hw := wok_in h
  unfold wide_absolute wide_absolute_j0
  rw [s_negate h]
  unfold wok at h
  unfold in128 at hw
  simp only [Option.bind_some, wu]
  by_cases hn : a.Hi < 0
  · simp only [hn, decide_true, if_true]
    unfold mk128 mkS
    simp only
    unfold wv at *
    congr 2 <;> split <;> omega
  · simp only [hn, decide_false, Bool.false_eq_true, if_false]
    unfold mkS wv
    congr 2 <;> omega
theorem s_abs {n : Int} (h0 : -9223372036854775808 ≤ n) (h1 : n ≤ 9223372036854775807) : wide_abs n = some ((n.natAbs : Nat) : Int) := by
  unfold wide_abs
  simp only [wu]
  by_cases hn : n < 0
  · simp only [hn, decide_true, if_true]
    congr 1; omega
  · simp only [hn, decide_false, Bool.false_eq_true, if_false]
    congr 1; omega
theorem s_signed {s : WideSize} {m : Bool} (h : sok s) : wide_size_signed s m = some (wres (if m then - sv s else sv s)) := by
  unfold sok at h
  unfold wide_size_signed wres
  have e : (bif (decide (s.hi > 9223372036854775808)) then true else (bif (s.hi == 9223372036854775808) then (bif (!m) then true else (decide (s.lo > 0))) else false)) = !(decide (in128 (if m then - sv s else sv s))) := by
    rw [Bool.eq_iff_iff]
    unfold in128 sv
    cases m <;> simp <;> by_cases h1 : s.hi = 9223372036854775808 <;> by_cases h2 : 9223372036854775808 < s.hi <;> simp [h1, h2] <;> omega
  rw [e]
  by_cases hi : in128 (if m then - sv s else sv s)
  · simp only [hi, decide_true, Bool.not_true, Bool.false_eq_true, if_false, if_true]
    cases m with
    | false =>
      simp only [Bool.false_eq_true, if_false] at hi ⊢
      unfold in128 sv at hi
      unfold wide_size_signed_j0
      simp only [wi]
      congr 2
      apply mk_ext
      · unfold sv; omega
      · omega
      · omega
    | true =>
      simp only [if_true] at hi ⊢
      unfold in128 sv at hi
      have hk : wok (⟨IntKind.wrap .i64 s.hi, s.lo⟩ : ApiWide) := by unfold wok; simp only [wi]; omega
      rw [s_negate hk]
      unfold wide_size_signed_j0
      simp only [Option.bind_some]
      congr 2
      unfold wv sv
      simp only [wi]
      unfold mk128
      simp only
      congr 1 <;> split <;> omega
  · simp only [hi, decide_false, Bool.not_false, if_true, if_false]
theorem s_Mul64 {x y : Int} (hx : 0 ≤ x) (hx1 : x ≤ 18446744073709551615) (hy : 0 ≤ y) (hy1 : y ≤ 18446744073709551615) : math_bits_Mul64 x y = some (x * y / 18446744073709551616, x * y % 18446744073709551616) := by
  obtain ⟨m, rfl⟩ : ∃ m : Nat, x = m := ⟨x.toNat, by omega⟩
  obtain ⟨n, rfl⟩ : ∃ n : Nat, y = n := ⟨y.toNat, by omega⟩
  obtain ⟨a1, a2, a3, a4⟩ := Go.Lib.mul64_hi m n (by omega) (by omega)
  unfold math_bits_Mul64
  rw [and_lo (by omega) (by omega), and_lo (by omega) (by omega)]
  have f1 : Int.fdiv (m : Int) (2 ^ 32) = ((m / 4294967296 : Nat) : Int) := by
    rw [Int.fdiv_eq_ediv_of_nonneg _ (by decide)]; simp
  have f2 : Int.fdiv (n : Int) (2 ^ 32) = ((n / 4294967296 : Nat) : Int) := by
    rw [Int.fdiv_eq_ediv_of_nonneg _ (by decide)]; simp
  have g1 : (m : Int) % 4294967296 = ((m % 4294967296 : Nat) : Int) := by simp
  have g2 : (n : Int) % 4294967296 = ((n % 4294967296 : Nat) : Int) := by simp
  rw [f1, f2, g1, g2]
  simp only [wu, ← Int.natCast_mul]
  have hf : ∀ z : Int, 0 ≤ z → Int.fdiv z (2 ^ 32) = z / 4294967296 := fun z _ => by
    rw [Int.fdiv_eq_ediv_of_nonneg _ (by decide)]; rfl
  generalize m / 4294967296 * (n % 4294967296) = b at *
  generalize m % 4294967296 * (n % 4294967296) = d at *
  generalize m % 4294967296 * (n / 4294967296) = c at *
  have ha : m / 4294967296 * (n / 4294967296) ≤ 18446744065119617025 := Go.Lib.half_mul_le (by omega) (by omega)
  generalize m / 4294967296 * (n / 4294967296) = a at *
  generalize m * n = p at *
  have w1 : (d : Int) % 18446744073709551616 = d := by omega
  rw [w1, hf (d : Int) (by omega)]
  have w2 : (b : Int) % 18446744073709551616 = b := by omega
  have w3 : (a : Int) % 18446744073709551616 = a := by omega
  rw [w2, w3]
  have w4 : ((b : Int) + d / 4294967296) % 18446744073709551616 = b + d / 4294967296 := by omega
  rw [w4, and_lo (by omega) (by omega), hf ((b : Int) + d / 4294967296) (by omega)]
  have w5 : (c : Int) % 18446744073709551616 = c := by omega
  have w6 : (((b : Int) + d / 4294967296) % 4294967296 + c) % 18446744073709551616 = ((b : Int) + d / 4294967296) % 4294967296 + c := by omega
  rw [w5, w6, hf (((b : Int) + d / 4294967296) % 4294967296 + c) (by omega)]
  congr 2
  omega
theorem s_times {s : WideSize} {n more : Int} (h : sok s) (hn : 0 ≤ n) (hn1 : n ≤ 18446744073709551615) (hm : 0 ≤ more) (hm1 : more ≤ 18446744073709551615) :
    wide_size_times s n more = some (mkS ((sv s * n + more) % P128), decide (sv s * n + more < P128)) := by
  unfold P128
  unfold sok at h
  unfold wide_size_times
  rw [s_Mul64 (by omega) (by omega) hn hn1, s_Mul64 (by omega) (by omega) hn hn1]
  have e : sv s * n = s.hi * n * 18446744073709551616 + s.lo * n := by
    unfold sv; rw [Int.add_mul, Int.mul_right_comm]
  have b1 : 0 ≤ s.hi * n := Int.mul_nonneg (by omega) hn
  have b2 : 0 ≤ s.lo * n := Int.mul_nonneg (by omega) hn
  have b3 : s.lo * n ≤ 18446744073709551615 * 18446744073709551615 := Int.mul_le_mul (by omega) hn1 hn (by omega)
  have b4 : s.hi * n ≤ 18446744073709551615 * 18446744073709551615 := Int.mul_le_mul (by omega) hn1 hn (by omega)
  rw [e]
  generalize s.hi * n = A at *
  generalize s.lo * n = B at *
  simp only [Option.bind_some]
  unfold bitsAdd64
  rw [if_pos (by omega)]
  simp only [Option.bind_some, wu]
  rw [if_pos (by omega)]
  simp only [Option.bind_some]
  unfold mkS
  congr 2
  · congr 1
    · omega
    · omega
  · rw [Bool.eq_iff_iff]
    by_cases hA : A / 18446744073709551616 = 0 <;> simp [hA] <;> omega
theorem mul_abs (a b : Int) : ((a * b).natAbs : Int) = (a.natAbs : Int) * (b.natAbs : Int) := by rw [Int.natAbs_mul]; simp
theorem s_Mul {a b : Int} (ha : -9223372036854775808 ≤ a) (ha1 : a ≤ 9223372036854775807) (hb : -9223372036854775808 ≤ b) (hb1 : b ≤ 9223372036854775807) : wide_Mul a b = some (mk128 (a * b)) ∧ in128 (a * b) := by
  have hm := mul_abs a b
  have hle : (a.natAbs : Int) * (b.natAbs : Int) ≤ 9223372036854775808 * 9223372036854775808 := Int.mul_le_mul (by omega) (by omega) (by omega) (by omega)
  have hin : in128 (a * b) := by unfold in128; omega
  refine ⟨?_, hin⟩
  unfold wide_Mul wide_Mul_j0
  rw [s_abs ha ha1, s_abs hb hb1]
  simp only [Option.bind_some]
  rw [s_Mul64 (by omega) (by omega) (by omega) (by omega), ← hm]
  simp only [Option.bind_some, wi]
  have hs : (a * b < 0 → (decide (a < 0) == decide (b < 0)) = false) ∧ (0 < a * b → (decide (a < 0) == decide (b < 0)) = true) := by
    by_cases h1 : a < 0 <;> by_cases h2 : b < 0
    · have := Int.mul_nonneg_of_nonpos_of_nonpos (Int.le_of_lt h1) (Int.le_of_lt h2)
      simp [h1, h2]; omega
    · have := Int.mul_nonpos_of_nonpos_of_nonneg (Int.le_of_lt h1) (Int.not_lt.1 h2)
      simp [h1, h2]; omega
    · have := Int.mul_nonpos_of_nonneg_of_nonpos (Int.not_lt.1 h1) (Int.le_of_lt h2)
      simp [h1, h2]; omega
    · have := Int.mul_nonneg (Int.not_lt.1 h1) (Int.not_lt.1 h2)
      simp [h1, h2]; omega
  unfold in128 at hin
  generalize a * b = p at *
  have hp : (p.natAbs : Int) ≤ 85070591730234615865843651857942052864 := by omega
  cases hq : (decide (a < 0) == decide (b < 0)) with
  | true =>
    simp only [Bool.not_true, Bool.false_eq_true, if_false]
    have : 0 ≤ p := by
      refine Int.not_lt.1 (fun hlt => ?_)
      have := hs.1 hlt
      rw [hq] at this; cases this
    refine congrArg some (mk_ext ?_ ?_ ?_) <;> omega
  | false =>
    simp only [Bool.not_false, if_true]
    have : p ≤ 0 := by
      refine Int.not_lt.1 (fun hlt => ?_)
      have := hs.2 hlt
      rw [hq] at this; cases this
    rw [s_negate (by unfold wok; simp only; omega)]
    simp only [Option.bind_some]
    refine congrArg some ?_
    unfold wv
    simp only
    rw [if_neg (by omega)]
    refine mk_ext ?_ ?_ ?_ <;> unfold mk128 <;> simp only <;> omega
theorem s_Scale {a : ApiWide} {n : Int} (h : wok a) (hn : -9223372036854775808 ≤ n) (hn1 : n ≤ 9223372036854775807) : wide_Scale a n = some (wres (wv a * n)) := by
  have hw := wok_in h
  have hs0 : (a.Hi < 0) ↔ (wv a < 0) := by unfold wok at h; unfold wv; omega
  unfold in128 at hw
  have hm := mul_abs (wv a) n
  unfold wide_Scale
  rw [s_absolute h, s_abs hn hn1]
  simp only [Option.bind_some]
  rw [s_times (sok_mk (by omega) (by omega)) (by omega) (by omega) (by omega) (by omega), sv_mk, Int.add_zero, ← hm]
  have hP : P128 = 340282366920938463463374607431768211456 := rfl
  generalize hB : decide (((wv a * n).natAbs : Int) < P128) = B
  cases B with
  | true =>
    have hb := of_decide_eq_true hB
    simp only [Option.bind_some, Bool.not_true, Bool.false_eq_true, if_false]
    rw [Int.emod_eq_of_lt (by omega) hb, s_signed (sok_mk (by omega) (by omega)), sv_mk]
    simp only [Option.bind_some]
    refine (congrArg some (Prod.eta _)).trans (congrArg (fun v => some (wres v)) ?_)
    have hz : ((mkS ((wv a * n).natAbs : Int)).hi == 0 && ((mkS ((wv a * n).natAbs : Int)).lo == 0 && true)) = decide (wv a * n = 0) := by
      unfold mkS
      simp only [Bool.and_true]
      rw [Bool.eq_iff_iff]
      simp
      omega
    rw [hz]
    have hd : decide (a.Hi < 0) = decide (wv a < 0) := decide_eq_decide.2 hs0
    rw [hd]
    by_cases h1 : wv a < 0 <;> by_cases h2 : n < 0
    · have := Int.mul_nonneg_of_nonpos_of_nonpos (Int.le_of_lt h1) (Int.le_of_lt h2)
      simp [h1, h2]; omega
    · have := Int.mul_nonpos_of_nonpos_of_nonneg (Int.le_of_lt h1) (Int.not_lt.1 h2)
      by_cases h3 : wv a * n = 0 <;> simp [h1, h2, h3]; omega
    · have := Int.mul_nonpos_of_nonneg_of_nonpos (Int.not_lt.1 h1) (Int.le_of_lt h2)
      by_cases h3 : wv a * n = 0 <;> simp [h1, h2, h3]; omega
    · have := Int.mul_nonneg (Int.not_lt.1 h1) (Int.not_lt.1 h2)
      simp [h1, h2]; omega
  | false =>
    have hb := of_decide_eq_false hB
    simp only [Option.bind_some, Bool.not_false, if_true]
    have hne : ¬ in128 (wv a * n) := by unfold in128; omega
    unfold wres
    rw [if_neg hne]
theorem s_Add {a b : ApiWide} (h : wok a) (k : wok b) : wide_Add a b = some (wres (wv a + wv b)) := by
  unfold wok at h k
  unfold wide_Add bitsAdd64
  rw [if_pos (by omega)]
  simp only [Option.bind_some, wi]
  have e : (bif ((decide (a.Hi < 0)) == (decide (b.Hi < 0))) then (!((decide (((a.Hi + b.Hi + 9223372036854775808) % 18446744073709551616 - 9223372036854775808 + (((a.Lo + b.Lo + 0) / 18446744073709551616 + 9223372036854775808) % 18446744073709551616 - 9223372036854775808) + 9223372036854775808) % 18446744073709551616 - 9223372036854775808 < 0)) == (decide (a.Hi < 0)))) else false) = !(decide (in128 (wv a + wv b))) := by
    by_cases h1 : a.Hi < 0 <;> by_cases h2 : b.Hi < 0 <;> by_cases h3 : ((a.Hi + b.Hi + 9223372036854775808) % 18446744073709551616 - 9223372036854775808 + (((a.Lo + b.Lo + 0) / 18446744073709551616 + 9223372036854775808) % 18446744073709551616 - 9223372036854775808) + 9223372036854775808) % 18446744073709551616 - 9223372036854775808 < 0 <;> by_cases h4 : in128 (wv a + wv b) <;> simp only [h1, h2, h3, h4, decide_true, decide_false] <;> first
      | rfl
      | (exfalso; unfold in128 wv at h4; omega)
  rw [e]
  unfold wres
  by_cases hi : in128 (wv a + wv b)
  · simp only [hi, decide_true, Bool.not_true, Bool.false_eq_true, if_false, if_true]
    unfold in128 at hi
    congr 2
    apply mk_ext
    · unfold wv at *; omega
    · omega
    · omega
  · simp only [hi, decide_false, Bool.not_false, if_true, if_false]
theorem s_Sub {a b : ApiWide} (h : wok a) (k : wok b) : wide_Sub a b = some (wres (wv a - wv b)) := by
  unfold wok at h k
  unfold wide_Sub bitsSub64
  rw [if_pos (by omega)]
  simp only [Option.bind_some, wi]
  have hc : (if a.Lo < b.Lo + 0 then (1 : Int) else 0) = (b.Lo - a.Lo + 18446744073709551615) / 18446744073709551616 := by split <;> omega
  rw [hc]
  have e : (bif (!((decide (a.Hi < 0)) == (decide (b.Hi < 0)))) then (!((decide (((a.Hi - b.Hi + 9223372036854775808) % 18446744073709551616 - 9223372036854775808 - (((b.Lo - a.Lo + 18446744073709551615) / 18446744073709551616 + 9223372036854775808) % 18446744073709551616 - 9223372036854775808) + 9223372036854775808) % 18446744073709551616 - 9223372036854775808 < 0)) == (decide (a.Hi < 0)))) else false) = !(decide (in128 (wv a - wv b))) := by
    by_cases h1 : a.Hi < 0 <;> by_cases h2 : b.Hi < 0 <;> by_cases h3 : ((a.Hi - b.Hi + 9223372036854775808) % 18446744073709551616 - 9223372036854775808 - (((b.Lo - a.Lo + 18446744073709551615) / 18446744073709551616 + 9223372036854775808) % 18446744073709551616 - 9223372036854775808) + 9223372036854775808) % 18446744073709551616 - 9223372036854775808 < 0 <;> by_cases h4 : in128 (wv a - wv b) <;> simp only [h1, h2, h3, h4, decide_true, decide_false] <;> first
      | rfl
      | (exfalso; unfold in128 wv at h4; omega)
  rw [e]
  unfold wres
  by_cases hi : in128 (wv a - wv b)
  · simp only [hi, decide_true, Bool.not_true, Bool.false_eq_true, if_false, if_true]
    unfold in128 at hi
    congr 2
    apply mk_ext
    · unfold wv at *; omega
    · omega
    · omega
  · simp only [hi, decide_false, Bool.not_false, if_true, if_false]
end Go.Cb
set_option linter.unusedSimpArgs false
set_option linter.unusedVariables false
namespace Go.Cb
open Go.Eng Go.RowKit
def mok (m : Corebankref01Mag) : Prop := (0 ≤ m.H ∧ m.H ≤ 18446744073709551615) ∧ 0 ≤ m.L ∧ m.L ≤ 18446744073709551615
def mv (m : Corebankref01Mag) : Int := m.H * 18446744073709551616 + m.L
def mkM (v : Int) : Corebankref01Mag := ⟨v / 18446744073709551616, v % 18446744073709551616⟩
theorem mv_mk (v : Int) : mv (mkM v) = v := by unfold mv mkM; simp only; omega
theorem mok_mk {v : Int} (h0 : 0 ≤ v) (h1 : v < P128) : mok (mkM v) := by unfold P128 at h1; unfold mok mkM; simp only; omega
theorem mkM_ext {h l v : Int} (h1 : h * 18446744073709551616 + l = v) (h2 : 0 ≤ l) (h3 : l ≤ 18446744073709551615) : (⟨h, l⟩ : Corebankref01Mag) = mkM v := by
  unfold mkM
  congr 1 <;> omega
theorem modP (x : Int) : x % P128 = x % 340282366920938463463374607431768211456 := rfl
theorem modPn (x : Int) : 0 ≤ x % P128 := by rw [modP]; omega
theorem modPl (x : Int) : x % P128 < P128 := by
  rw [modP]
  have : P128 = 340282366920938463463374607431768211456 := rfl
  omega
theorem r_Split {a : ApiWide} (h : wok a) : q01_Split a = some (decide (wv a < 0), mkM (wv a).natAbs) := by
  unfold wok at h
  unfold q01_Split q01_Split_j0
  simp only [wu]
  rw [xor_ones (by omega) (by omega), xor_ones (by omega) (by omega)]
  by_cases hn : a.Hi ≥ 0
  · have hv : ¬ wv a < 0 := by unfold wv; omega
    simp only [hn, hv, decide_true, decide_false, if_true]
    refine congrArg (fun x => some (false, x)) (mkM_ext ?_ ?_ ?_) <;> (try unfold wv) <;> omega
  · have hv : wv a < 0 := by unfold wv; omega
    simp only [hn, hv, decide_true, decide_false, Bool.false_eq_true, if_false]
    by_cases hl : a.Lo = 0
    · have c : ((18446744073709551615 - a.Lo + 1) % 18446744073709551616 == 0) = true := by simp; omega
      simp only [c, if_true]
      refine congrArg (fun x => some (true, x)) (mkM_ext ?_ ?_ ?_) <;> (try unfold wv) <;> omega
    · have c : ((18446744073709551615 - a.Lo + 1) % 18446744073709551616 == 0) = false := by simp; omega
      simp only [c, Bool.false_eq_true, if_false]
      refine congrArg (fun x => some (true, x)) (mkM_ext ?_ ?_ ?_) <;> (try unfold wv) <;> omega
def sgn (b : Bool) (v : Int) : Int := if b then - v else v
theorem r_Join {b : Bool} {m : Corebankref01Mag} (h : mok m) : ∃ p, q01_Join b m = some (p, decide (in128 (sgn b (mv m)))) ∧ (in128 (sgn b (mv m)) → p = mk128 (sgn b (mv m))) := by
  unfold mok at h
  unfold q01_Join q01_Join_j0 sgn
  cases b with
  | false =>
    simp only [Bool.not_false, if_true, Bool.false_eq_true, if_false, wi]
    refine ⟨_, congrArg (fun x => some (_, x)) (decide_eq_decide.2 ?_), fun hi => ?_⟩
    · unfold in128 mv; omega
    · unfold in128 mv at hi
      refine mk_ext ?_ ?_ ?_ <;> (try unfold mv) <;> omega
  | true =>
    simp only [Bool.not_true, Bool.false_eq_true, if_false, if_true, wi, wu]
    rw [xor_ones (by omega) (by omega), xor_ones (by omega) (by omega)]
    have e : (bif (decide (m.H < 9223372036854775808)) then true else (bif (m.H == 9223372036854775808) then (m.L == 0) else false)) = decide (in128 (- mv m)) := by
      by_cases h1 : m.H < 9223372036854775808 <;> by_cases h2 : m.H = 9223372036854775808 <;> by_cases h3 : m.L = 0 <;> by_cases h4 : in128 (- mv m) <;> simp only [h1, h2, h3, h4, decide_true, decide_false, beq_self_eq_true] <;> first
        | rfl
        | (exfalso; unfold in128 mv at h4; omega)
        | (have h5 : (m.H == 9223372036854775808) = false := by simpa using h2
           have h6 : (m.L == 0) = false := by simpa using h3
           simp only [h5, h6] <;> first
             | rfl
             | (exfalso; unfold in128 mv at h4; omega))
        | (have h5 : (m.H == 9223372036854775808) = false := by simpa using h2
           simp only [h5] <;> first
             | rfl
             | (exfalso; unfold in128 mv at h4; omega))
        | (have h6 : (m.L == 0) = false := by simpa using h3
           simp only [h6] <;> first
             | rfl
             | (exfalso; unfold in128 mv at h4; omega))
    rw [e]
    by_cases hl : m.L = 0
    · have c : ((18446744073709551615 - m.L + 1) % 18446744073709551616 == 0) = true := by simp; omega
      simp only [c, if_true]
      refine ⟨_, rfl, fun hi => ?_⟩
      unfold in128 mv at hi
      refine mk_ext ?_ ?_ ?_ <;> (try unfold mv) <;> omega
    · have c : ((18446744073709551615 - m.L + 1) % 18446744073709551616 == 0) = false := by simp; omega
      simp only [c, Bool.false_eq_true, if_false]
      refine ⟨_, rfl, fun hi => ?_⟩
      unfold in128 mv at hi
      refine mk_ext ?_ ?_ ?_ <;> (try unfold mv) <;> omega
theorem r_plus {a b : Corebankref01Mag} (h : mok a) (k : mok b) : q01_plus a b = some (mkM ((mv a + mv b) % P128), decide (mv a + mv b < P128)) := by
  unfold mok at h k
  unfold q01_plus q01_plus_j0
  have hP : P128 = 340282366920938463463374607431768211456 := rfl
  generalize hB : decide (mv a + mv b < P128) = B
  have q1 := modP (mv a + mv b)
  rw [q1]
  clear q1
  simp only [wu]
  by_cases hc : (a.L + b.L) % 18446744073709551616 < a.L
  · simp only [hc, decide_true, if_true]
    refine congrArg some (Prod.ext ?_ ?_)
    · refine mkM_ext ?_ ?_ ?_ <;> (try unfold mv) <;> omega
    · show (bif decide _ then decide _ else false) = B
      cases B with
      | true =>
        have hb := of_decide_eq_true hB
        unfold mv at hb
        have h1 : (a.H + b.H) % 18446744073709551616 ≥ a.H := by omega
        have h2 : ((a.H + b.H) % 18446744073709551616 + 1) % 18446744073709551616 ≥ 1 := by omega
        rw [decide_eq_true h1, decide_eq_true h2]; rfl
      | false =>
        have hb := of_decide_eq_false hB
        unfold mv at hb
        by_cases h1 : (a.H + b.H) % 18446744073709551616 ≥ a.H
        · have h2 : ¬ ((a.H + b.H) % 18446744073709551616 + 1) % 18446744073709551616 ≥ 1 := by omega
          rw [decide_eq_true h1, decide_eq_false h2]; rfl
        · rw [decide_eq_false h1]; rfl
  · simp only [hc, decide_false, Bool.false_eq_true, if_false]
    refine congrArg some (Prod.ext ?_ ?_)
    · refine mkM_ext ?_ ?_ ?_ <;> (try unfold mv) <;> omega
    · show (bif decide _ then decide _ else false) = B
      have h2 : ((a.H + b.H) % 18446744073709551616 + 0) % 18446744073709551616 ≥ 0 := by omega
      rw [decide_eq_true h2]
      cases B with
      | true =>
        have hb := of_decide_eq_true hB
        unfold mv at hb
        have h1 : (a.H + b.H) % 18446744073709551616 ≥ a.H := by omega
        rw [decide_eq_true h1]; rfl
      | false =>
        have hb := of_decide_eq_false hB
        unfold mv at hb
        have h1 : ¬ (a.H + b.H) % 18446744073709551616 ≥ a.H := by omega
        rw [decide_eq_false h1]; rfl
def tw (M : Int) (n : Int) : Nat → Int × Int
  | 0 => (n, 0)
  | i + 1 => ((tw M n i).1 * 2 % M, 2 * (tw M n i).2 + (tw M n i).1 * 2 / M)
theorem tw_inv {M n : Int} (hM : 0 < M) (h0 : 0 ≤ n) (h1 : n < M) : ∀ i, 0 ≤ (tw M n i).1 ∧ (tw M n i).1 < M ∧ 0 ≤ (tw M n i).2 ∧ n * 2 ^ i = (tw M n i).2 * M + (tw M n i).1
  | 0 => by simp [tw, h0, h1]
  | i + 1 => by
    obtain ⟨a1, a2, a3, a4⟩ := tw_inv hM h0 h1 i
    have e := Int.mul_ediv_add_emod ((tw M n i).1 * 2) M
    have p1 := Int.emod_nonneg ((tw M n i).1 * 2) (Int.ne_of_gt hM)
    have p2 := Int.emod_lt_of_pos ((tw M n i).1 * 2) hM
    have p3 : 0 ≤ (tw M n i).1 * 2 / M := Int.ediv_nonneg (by omega) (by omega)
    refine ⟨p1, p2, ?_, ?_⟩
    · show 0 ≤ 2 * (tw M n i).2 + (tw M n i).1 * 2 / M
      omega
    · show n * 2 ^ (i + 1) = (2 * (tw M n i).2 + (tw M n i).1 * 2 / M) * M + (tw M n i).1 * 2 % M
      rw [Int.pow_succ, ← Int.mul_assoc, a4, Int.add_mul, Int.add_mul, Int.mul_assoc 2, Int.mul_comm ((tw M n i).1 * 2 / M) M]
      omega
theorem tw_end {M n : Int} (hM : 0 < M) (h0 : 0 ≤ n) (h1 : n < M) {k : Nat} (hk : (2 : Int) ^ k = M) : (tw M n k).2 = n ∧ (tw M n k).1 = 0 := by
  obtain ⟨a1, a2, a3, a4⟩ := tw_inv hM h0 h1 k
  rw [hk] at a4
  have : ((tw M n k).2 - n) * M + (tw M n k).1 = 0 := by rw [Int.sub_mul]; omega
  have h2 : (tw M n k).2 - n = 0 := by
    generalize (tw M n k).2 - n = z at *
    refine Int.le_antisymm ?_ ?_
    · refine Int.not_lt.1 (fun hz => ?_)
      have := Int.mul_le_mul_of_nonneg_right (show 1 ≤ z by omega) (Int.le_of_lt hM)
      omega
    · refine Int.not_lt.1 (fun hz => ?_)
      have := Int.mul_le_mul_of_nonneg_right (show z ≤ -1 by omega) (Int.le_of_lt hM)
      omega
  rw [h2] at this
  omega
theorem r_times {m : Corebankref01Mag} {n : Int} (h : mok m) (hn : 0 ≤ n) (hn1 : n ≤ 18446744073709551615) : q01_times m n = some (mkM (mv m * n % P128), decide (mv m * n < P128)) := by
  have hP : P128 = 340282366920938463463374607431768211456 := rfl
  have hm0 : 0 ≤ mv m ∧ mv m < P128 := by unfold mok at h; unfold mv; omega
  unfold q01_times
  have hinv := fun i => tw_inv (M := 18446744073709551616) (n := n) (by omega) hn (by omega) i
  have hT : ∀ i, 0 ≤ mv m * (tw 18446744073709551616 n i).2 := fun i => Int.mul_nonneg hm0.1 (hinv i).2.2.1
  refine iter_run 64 (fun i => ((tw 18446744073709551616 n i).1, decide (mv m * (tw 18446744073709551616 n i).2 < P128), (i : Int), (mkM (mv m * (tw 18446744073709551616 n i).2 % P128)).H, (mkM (mv m * (tw 18446744073709551616 n i).2 % P128)).L)) ?_ (by omega) (fun i hi => ?_) ?_
  · show (n, decide (mv m * 0 < P128), (0 : Int), (mkM (mv m * 0 % P128)).H, (mkM (mv m * 0 % P128)).L) = (n, true, 0, 0, 0)
    rw [Int.mul_zero]
    have : decide ((0 : Int) < P128) = true := decide_eq_true (by omega)
    rw [this]; rfl
  · have hnext : tw 18446744073709551616 n (i + 1) = ((tw 18446744073709551616 n i).1 * 2 % 18446744073709551616, 2 * (tw 18446744073709551616 n i).2 + (tw 18446744073709551616 n i).1 * 2 / 18446744073709551616) := rfl
    have hT1 := hT (i + 1)
    rw [hnext] at hT1 ⊢
    obtain ⟨a1, a2, a3, a4⟩ := hinv i
    have hTi := hT i
    clear a4 hinv hT
    generalize (tw 18446744073709551616 n i).1 = c at *
    generalize (tw 18446744073709551616 n i).2 = q at *
    have eT : mv m * (2 * q + c * 2 / 18446744073709551616) = 2 * (mv m * q) + mv m * (c * 2 / 18446744073709551616) := by
      rw [Int.mul_add, ← Int.mul_assoc, Int.mul_comm (mv m) 2, Int.mul_assoc]
    simp only at hT1
    rw [eT] at hT1 ⊢
    generalize hT : mv m * q = T at *
    have q1 := modP T
    have q2 := modP (T % P128 + T % P128)
    have q3 := modP ((T % P128 + T % P128) % P128 + mv m)
    have q4 := modP (2 * T + mv m)
    have q5 := modP (2 * T)
    have hk : mok (mkM (T % P128)) := mok_mk (modPn _) (modPl _)
    unfold q01_times_l1
    simp only []
    rw [if_pos (decide_eq_true (by omega))]
    have hs : (⟨(mkM (T % P128)).H, (mkM (T % P128)).L⟩ : Corebankref01Mag) = mkM (T % P128) := rfl
    rw [hs, r_plus hk hk, mv_mk, and_top a1 a2]
    simp only [Option.bind_some]
    have w3 : IntKind.wrap .i64 ((i : Int) + 1) = ((i + 1 : Nat) : Int) := by rw [wi]; omega
    by_cases hc : 9223372036854775808 ≤ c
    · have hb : c * 2 / 18446744073709551616 = 1 := by omega
      rw [hb, Int.mul_one]
      rw [if_pos (decide_eq_true hc), r_plus (mok_mk (modPn _) (modPl _)) h, mv_mk]
      simp only [Option.bind_some]
      unfold q01_times_j0
      simp only [w3, wu]
      refine congrArg (fun x => some (Sum.inl x)) (Prod.ext ?_ (Prod.ext ?_ (Prod.ext rfl ?_)))
      · show c * 2 ^ 1 % 18446744073709551616 = _
        rw [show c * 2 ^ 1 = c * 2 by rw [Int.pow_succ]; simp]
      · show (bif (bif decide (T < P128) then decide (T % P128 + T % P128 < P128) else false) then decide ((T % P128 + T % P128) % P128 + mv m < P128) else false) = decide (2 * T + mv m < P128)
        by_cases b1 : T < P128 <;> by_cases b2 : T % P128 + T % P128 < P128 <;> by_cases b3 : (T % P128 + T % P128) % P128 + mv m < P128 <;> by_cases b4 : 2 * T + mv m < P128 <;> simp only [decide_eq_true, decide_eq_false, b1, b2, b3, b4, cond_true, cond_false, not_false_eq_true] <;> (exfalso; omega)
      · show ((mkM _).H, (mkM _).L) = ((mkM _).H, (mkM _).L)
        have : ((T % P128 + T % P128) % P128 + mv m) % P128 = (2 * T + mv m) % P128 := by omega
        rw [this]
    · have hb : c * 2 / 18446744073709551616 = 0 := by omega
      rw [hb, Int.mul_zero, Int.add_zero]
      rw [if_neg (by rw [decide_eq_false hc]; decide)]
      unfold q01_times_j0
      simp only [w3, wu]
      refine congrArg (fun x => some (Sum.inl x)) (Prod.ext ?_ (Prod.ext ?_ (Prod.ext rfl ?_)))
      · show c * 2 ^ 1 % 18446744073709551616 = _
        rw [show c * 2 ^ 1 = c * 2 by rw [Int.pow_succ]; simp]
      · show (bif decide (T < P128) then decide (T % P128 + T % P128 < P128) else false) = decide (2 * T < P128)
        by_cases b1 : T < P128 <;> by_cases b2 : T % P128 + T % P128 < P128 <;> by_cases b4 : 2 * T < P128 <;> simp only [decide_eq_true, decide_eq_false, b1, b2, b4, cond_true, cond_false, not_false_eq_true] <;> (exfalso; omega)
      · show ((mkM _).H, (mkM _).L) = ((mkM _).H, (mkM _).L)
        have : (T % P128 + T % P128) % P128 = (2 * T) % P128 := by omega
        rw [this]
  · obtain ⟨e1, e2⟩ := tw_end (M := 18446744073709551616) (n := n) (by omega) hn (by omega) (k := 64) rfl
    unfold q01_times_l1
    simp only [e1, e2]
    rw [if_neg (by simp)]
    rfl
end Go.Cb
set_option linter.unusedSimpArgs false
set_option linter.unusedVariables false
namespace Go.Cb
open Go.Eng Go.RowKit
theorem hP128 : P128 = 340282366920938463463374607431768211456 := rfl
theorem r_res {b : Bool} {m : Corebankref01Mag} (h : mok m) {ok : Bool} {x : Int} (hx : ok = true → sgn b (mv m) = x) (hn : ok = false → ¬ in128 x) :
    ((q01_Join b m).bind fun r1 => if (bif (!ok) then true else (!r1.2)) = true then (some ((⟨0, 0⟩ : ApiWide), 6)) else (some (r1.1, 0))) = some (wres x) := by
  obtain ⟨p, e1, e2⟩ := r_Join (b := b) h
  rw [e1]
  simp only [Option.bind_some]
  unfold wres
  cases ok with
  | false => rw [if_neg (hn rfl)]; rfl
  | true =>
    have hx := hx rfl
    rw [hx] at e2 ⊢
    by_cases hi : in128 x
    · rw [if_pos hi, decide_eq_true hi, e2 hi]; rfl
    · rw [if_neg hi, decide_eq_false hi]; rfl
theorem r_size {n : Int} (h0 : -9223372036854775808 ≤ n) (h1 : n ≤ 9223372036854775807) : q01_size n = some ((n.natAbs : Nat) : Int) := by
  unfold q01_size
  simp only [wu]
  rw [xor_ones (by omega) (by omega)]
  by_cases hn : n < 0
  · rw [if_pos (decide_eq_true hn)]
    refine congrArg some ?_
    omega
  · rw [if_neg (by rw [decide_eq_false hn]; decide)]
    refine congrArg some ?_
    omega
theorem sgn_mul (x y : Int) : sgn (!(decide (x < 0) == decide (y < 0))) ((x * y).natAbs : Nat) = x * y := by
  unfold sgn
  by_cases h1 : x < 0 <;> by_cases h2 : y < 0
  · have := Int.mul_nonneg_of_nonpos_of_nonpos (Int.le_of_lt h1) (Int.le_of_lt h2)
    simp [h1, h2]; omega
  · have := Int.mul_nonpos_of_nonpos_of_nonneg (Int.le_of_lt h1) (Int.not_lt.1 h2)
    simp [h1, h2]; omega
  · have := Int.mul_nonpos_of_nonneg_of_nonpos (Int.not_lt.1 h1) (Int.le_of_lt h2)
    simp [h1, h2]; omega
  · have := Int.mul_nonneg (Int.not_lt.1 h1) (Int.not_lt.1 h2)
    simp [h1, h2]; omega
theorem abs_lt {a : ApiWide} (h : wok a) : ((wv a).natAbs : Int) < P128 := by
  have hw := wok_in h
  unfold in128 at hw
  rw [hP128]
  omega
theorem r_Scale {a : ApiWide} {n : Int} (h : wok a) (hn : -9223372036854775808 ≤ n) (hn1 : n ≤ 9223372036854775807) : q01_Scale a n = some (wres (wv a * n)) := by
  have hlt := abs_lt h
  unfold q01_Scale
  rw [r_Split h, r_size hn hn1]
  simp only [Option.bind_some]
  rw [r_times (mok_mk (by omega) hlt) (by omega) (by omega), mv_mk, ← mul_abs]
  simp only [Option.bind_some]
  generalize hB : decide (((wv a * n).natAbs : Int) < P128) = B
  refine r_res (ok := B) (x := wv a * n) (mok_mk (modPn _) (modPl _)) (fun hx => ?_) (fun hx => ?_)
  · rw [hx] at hB
    have hx := of_decide_eq_true hB
    rw [mv_mk, Int.emod_eq_of_lt (by omega) hx]
    exact sgn_mul _ _
  · rw [hx] at hB
    have hx := of_decide_eq_false hB
    rw [hP128] at hx
    unfold in128
    omega
theorem r_Of {n : Int} (h0 : -9223372036854775808 ≤ n) (h1 : n ≤ 9223372036854775807) : q01_Of n = some (mk128 n) := by
  unfold q01_Of
  simp only [wu]
  by_cases hn : n < 0
  · rw [if_pos (decide_eq_true hn)]
    refine congrArg some (mk_ext ?_ ?_ ?_) <;> omega
  · rw [if_neg (by rw [decide_eq_false hn]; decide)]
    refine congrArg some (mk_ext ?_ ?_ ?_) <;> omega
theorem s_Of {n : Int} (h0 : -9223372036854775808 ≤ n) (h1 : n ≤ 9223372036854775807) : wide_Of n = some (mk128 n) := by
  unfold wide_Of
  simp only [wu]
  rw [Int.fdiv_eq_ediv_of_nonneg _ (by decide)]
  refine congrArg some (mk_ext ?_ ?_ ?_) <;> omega
theorem e_Of {n : Int} (h0 : -9223372036854775808 ≤ n) (h1 : n ≤ 9223372036854775807) : wide_Of n = q01_Of n := by rw [s_Of h0 h1, r_Of h0 h1]
theorem r_Mul {a b : Int} (ha : -9223372036854775808 ≤ a) (ha1 : a ≤ 9223372036854775807) (hb : -9223372036854775808 ≤ b) (hb1 : b ≤ 9223372036854775807) : q01_Mul a b = some (mk128 (a * b)) := by
  have hin := (s_Mul ha ha1 hb hb1).2
  have hk : in128 a := by unfold in128; omega
  unfold q01_Mul
  rw [r_Of ha ha1]
  simp only [Option.bind_some]
  rw [r_Scale (wok_mk hk) hb hb1, wv_mk]
  simp only [Option.bind_some]
  unfold wres
  rw [if_pos hin]
theorem r_Less (a b : Int) : q01_Less (mkM a) (mkM b) = some (decide (a < b)) := by
  unfold q01_Less mkM
  simp only
  refine congrArg some ?_
  by_cases h1 : a / 18446744073709551616 < b / 18446744073709551616
  · have : a < b := by omega
    rw [decide_eq_true h1, decide_eq_true this]; rfl
  · rw [decide_eq_false h1]
    by_cases h2 : a / 18446744073709551616 = b / 18446744073709551616
    · rw [h2, beq_self_eq_true]
      simp only [cond_false, cond_true]
      exact decide_eq_decide.2 (by omega)
    · have h3 : (a / 18446744073709551616 == b / 18446744073709551616) = false := by simpa using h2
      have h4 : ¬ a < b := by omega
      rw [h3, decide_eq_false h4]; rfl
theorem r_minus {a b : Int} (h0 : 0 ≤ b) (h1 : b ≤ a) (h2 : a < P128) : q01_minus (mkM a) (mkM b) = some (mkM (a - b)) := by
  rw [hP128] at h2
  unfold q01_minus q01_minus_j0
  simp only [wu]
  by_cases hc : (mkM a).L < (mkM b).L
  · rw [if_pos (decide_eq_true hc)]
    refine congrArg some ?_
    unfold mkM at *
    simp only at *
    congr 1 <;> omega
  · rw [if_neg (by rw [decide_eq_false hc]; decide)]
    refine congrArg some ?_
    unfold mkM at *
    simp only at *
    congr 1 <;> omega
theorem r_sum {x y : Int} {bx bY : Bool} {ax ay : Int} (h0 : 0 ≤ ax) (h1 : ax ≤ 170141183460469231731687303715884105728) (k0 : 0 ≤ ay) (k1 : ay ≤ 170141183460469231731687303715884105728)
    (hx : sgn bx ax = x) (hy : sgn bY ay = y) : q01_sum bx (mkM ax) bY (mkM ay) = some (wres (x + y)) := by
  have l1 : ax < P128 := by rw [hP128]; omega
  have l2 : ay < P128 := by rw [hP128]; omega
  unfold q01_sum q01_sum_j0
  rw [r_plus (mok_mk h0 l1) (mok_mk k0 l2), r_Less, mv_mk, mv_mk]
  simp only [Option.bind_some]
  unfold sgn at hx hy
  cases hb : (bx == bY) with
  | true =>
    have hb : bx = bY := by simpa using hb
    subst hb
    simp only [if_true]
    refine r_res (mok_mk (modPn _) (modPl _)) (fun hz => ?_) (fun hz => ?_)
    · have hz := of_decide_eq_true hz
      show sgn bx (mv (mkM _)) = _
      rw [mv_mk, Int.emod_eq_of_lt (by omega) hz]
      unfold sgn
      cases bx <;> simp at hx hy ⊢ <;> omega
    · have hz := of_decide_eq_false hz
      rw [hP128] at hz
      unfold in128
      cases bx <;> simp at hx hy <;> omega
  | false =>
    simp only [Bool.false_eq_true, if_false]
    by_cases hl : ax < ay
    · rw [if_pos (decide_eq_true hl), r_minus h0 (by omega) l2]
      simp only [Option.bind_some]
      refine r_res (mok_mk (v := ay - ax) (by omega) (by omega)) (fun _ => ?_) (fun hz => by cases hz)
      show sgn bY (mv (mkM _)) = _
      rw [mv_mk]
      unfold sgn
      cases bx <;> cases bY <;> simp at hb hx hy ⊢ <;> omega
    · rw [if_neg (by rw [decide_eq_false hl]; decide), r_minus k0 (by omega) l1]
      simp only [Option.bind_some]
      refine r_res (mok_mk (v := ax - ay) (by omega) (by omega)) (fun _ => ?_) (fun hz => by cases hz)
      show sgn bx (mv (mkM _)) = _
      rw [mv_mk]
      unfold sgn
      cases bx <;> cases bY <;> simp at hb hx hy ⊢ <;> omega
theorem sgn_abs (x : Int) : sgn (decide (x < 0)) (x.natAbs : Nat) = x := by
  unfold sgn
  by_cases h : x < 0
  · rw [decide_eq_true h, if_pos rfl]; omega
  · rw [decide_eq_false h]; simp; omega
theorem r_Add {a b : ApiWide} (h : wok a) (k : wok b) : q01_Add a b = some (wres (wv a + wv b)) := by
  have h1 := wok_in h
  have k1 := wok_in k
  unfold in128 at h1 k1
  unfold q01_Add
  rw [r_Split h, r_Split k]
  simp only [Option.bind_some]
  rw [r_sum (by omega) (by omega) (by omega) (by omega) (sgn_abs _) (sgn_abs _)]
  rfl
theorem r_Sub {a b : ApiWide} (h : wok a) (k : wok b) : q01_Sub a b = some (wres (wv a - wv b)) := by
  have h1 := wok_in h
  have k1 := wok_in k
  unfold in128 at h1 k1
  unfold q01_Sub
  rw [r_Split h, r_Split k]
  simp only [Option.bind_some]
  have hn : sgn (!decide (wv b < 0)) ((wv b).natAbs : Nat) = - wv b := by
    unfold sgn
    by_cases h : wv b < 0
    · rw [decide_eq_true h]; simp; omega
    · rw [decide_eq_false h]; simp; omega
  rw [r_sum (by omega) (by omega) (by omega) (by omega) (sgn_abs _) hn]
  rfl
theorem e_Scale {a : ApiWide} {n : Int} (h : wok a) (hn : -9223372036854775808 ≤ n) (hn1 : n ≤ 9223372036854775807) : wide_Scale a n = q01_Scale a n := by rw [s_Scale h hn hn1, r_Scale h hn hn1]
theorem e_Mul {a b : Int} (ha : -9223372036854775808 ≤ a) (ha1 : a ≤ 9223372036854775807) (hb : -9223372036854775808 ≤ b) (hb1 : b ≤ 9223372036854775807) : wide_Mul a b = q01_Mul a b := by rw [(s_Mul ha ha1 hb hb1).1, r_Mul ha ha1 hb hb1]
theorem e_Add {a b : ApiWide} (h : wok a) (k : wok b) : wide_Add a b = q01_Add a b := by rw [s_Add h k, r_Add h k]
theorem e_Sub {a b : ApiWide} (h : wok a) (k : wok b) : wide_Sub a b = q01_Sub a b := by rw [s_Sub h k, r_Sub h k]
theorem r_shifted {v : Int} (h0 : 0 ≤ v) (h1 : v < P128) : q01_shifted (mkM v) = some (mkM ((v + v) % P128), decide (v + v < P128)) := by
  unfold q01_shifted
  rw [r_plus (mok_mk h0 h1) (mok_mk h0 h1), mv_mk]
  rfl
def dw (m n : Int) : Nat → Int × Int
  | 0 => (0, 0)
  | i + 1 => if 2 * (dw m n i).1 + (tw P128 m i).1 * 2 / P128 ≥ n then (2 * (dw m n i).1 + (tw P128 m i).1 * 2 / P128 - n, 2 * (dw m n i).2 + 1) else (2 * (dw m n i).1 + (tw P128 m i).1 * 2 / P128, 2 * (dw m n i).2)
theorem hP0 : (0 : Int) < P128 := by rw [hP128]; omega
theorem dw_inv {m n : Int} (hm : 0 ≤ m) (hm1 : m < P128) (hn : 1 ≤ n) : ∀ i, 0 ≤ (dw m n i).1 ∧ (dw m n i).1 < n ∧ 0 ≤ (dw m n i).2 ∧ (tw P128 m i).2 = (dw m n i).2 * n + (dw m n i).1
  | 0 => by simp [dw, tw]; omega
  | i + 1 => by
    obtain ⟨a1, a2, a3, a4⟩ := dw_inv hm hm1 hn i
    obtain ⟨b1, b2, b3, b4⟩ := tw_inv hP0 hm hm1 i
    have hb : 0 ≤ (tw P128 m i).1 * 2 / P128 ∧ (tw P128 m i).1 * 2 / P128 ≤ 1 := by
      rw [hP128] at b2 ⊢
      rw [hP128] at b1
      omega
    have ht : (tw P128 m (i + 1)).2 = 2 * (tw P128 m i).2 + (tw P128 m i).1 * 2 / P128 := rfl
    rw [ht]
    unfold dw
    generalize (tw P128 m i).1 * 2 / P128 = bit at *
    rw [a4]
    split
    · refine ⟨by simp only; omega, by simp only; omega, by simp only; omega, ?_⟩
      show 2 * ((dw m n i).2 * n + (dw m n i).1) + bit = (2 * (dw m n i).2 + 1) * n + (2 * (dw m n i).1 + bit - n)
      rw [Int.add_mul, Int.mul_assoc]; omega
    · refine ⟨by simp only; omega, by simp only; omega, by simp only; omega, ?_⟩
      show 2 * ((dw m n i).2 * n + (dw m n i).1) + bit = (2 * (dw m n i).2) * n + (2 * (dw m n i).1 + bit)
      rw [Int.mul_assoc]; omega
theorem r_Quotient {m : Corebankref01Mag} {n : Int} (h : mok m) (hn : 1 ≤ n) (hn1 : n ≤ 9223372036854775807) : q01_Quotient m n = some (mkM (mv m / n), mv m % n) := by
  have hm0 : 0 ≤ mv m ∧ mv m < P128 := by rw [hP128]; unfold mok at h; unfold mv; omega
  unfold q01_Quotient
  have ht := fun i => tw_inv hP0 hm0.1 hm0.2 i
  have hd := fun i => dw_inv hm0.1 hm0.2 hn i
  refine iter_run 128 (fun i => ((dw (mv m) n i).1, (i : Int), (mkM (tw P128 (mv m) i).1).H, (mkM (tw P128 (mv m) i).1).L, (mkM ((dw (mv m) n i).2 % P128)).H, (mkM ((dw (mv m) n i).2 % P128)).L)) ?_ (by omega) (fun i hi => ?_) ?_
  · show ((0 : Int), (0 : Int), (mkM (mv m)).H, (mkM (mv m)).L, (mkM (0 % P128)).H, (mkM (0 % P128)).L) = _
    have : mkM (mv m) = m := by
      cases m; unfold mok at h; unfold mkM mv; simp only at *
      congr 1 <;> omega
    rw [this]; rfl
  · obtain ⟨b1, b2, b3, b4⟩ := ht i
    obtain ⟨a1, a2, a3, a4⟩ := hd i
    have htn : (tw P128 (mv m) (i + 1)).1 = (tw P128 (mv m) i).1 * 2 % P128 := rfl
    have hdn : dw (mv m) n (i + 1) = if 2 * (dw (mv m) n i).1 + (tw P128 (mv m) i).1 * 2 / P128 ≥ n then (2 * (dw (mv m) n i).1 + (tw P128 (mv m) i).1 * 2 / P128 - n, 2 * (dw (mv m) n i).2 + 1) else (2 * (dw (mv m) n i).1 + (tw P128 (mv m) i).1 * 2 / P128, 2 * (dw (mv m) n i).2) := rfl
    rw [htn, hdn]
    clear htn hdn b4 a4 ht hd
    generalize (tw P128 (mv m) i).1 = c at *
    generalize (dw (mv m) n i).1 = r at *
    generalize (dw (mv m) n i).2 = q at *
    have w3 : IntKind.wrap .i64 ((i : Int) + 1) = ((i + 1 : Nat) : Int) := by rw [wi]; omega
    have q1 := modP q
    have q2 := modP (q % P128 + q % P128)
    have q4 := modP (2 * q)
    have q5 := modP (2 * q + 1)
    have hs : (⟨(mkM c).H, (mkM c).L⟩ : Corebankref01Mag) = mkM c := rfl
    have hs2 : (⟨(mkM (q % P128)).H, (mkM (q % P128)).L⟩ : Corebankref01Mag) = mkM (q % P128) := rfl
    have bit : (18446744073709551616 * 9223372036854775808 ≤ c ∧ c * 2 / P128 = 1) ∨ (c < 18446744073709551616 * 9223372036854775808 ∧ c * 2 / P128 = 0) := by
      rw [hP128] at b2 ⊢; omega
    have hH : 0 ≤ (mkM c).H ∧ (mkM c).H < 18446744073709551616 := by rw [hP128] at b2; unfold mkM; simp only; omega
    have hHc : (9223372036854775808 ≤ (mkM c).H) ↔ (18446744073709551616 * 9223372036854775808 ≤ c) := by unfold mkM; simp only; omega
    have hcc : (c + c) % P128 = c * 2 % P128 := by rw [Int.mul_comm, show c + c = 2 * c by omega]
    have key : q01_Quotient_j1 n (r, (i : Int), (mkM c).H, (mkM c).L, (mkM (q % P128)).H, (mkM (q % P128)).L) (2 * r + c * 2 / P128) = some (Sum.inl ((if 2 * r + c * 2 / P128 ≥ n then (2 * r + c * 2 / P128 - n, 2 * q + 1) else (2 * r + c * 2 / P128, 2 * q)).1, ((i + 1 : Nat) : Int), (mkM (c * 2 % P128)).H, (mkM (c * 2 % P128)).L, (mkM ((if 2 * r + c * 2 / P128 ≥ n then (2 * r + c * 2 / P128 - n, 2 * q + 1) else (2 * r + c * 2 / P128, 2 * q)).2 % P128)).H, (mkM ((if 2 * r + c * 2 / P128 ≥ n then (2 * r + c * 2 / P128 - n, 2 * q + 1) else (2 * r + c * 2 / P128, 2 * q)).2 % P128)).L)) := by
      unfold q01_Quotient_j1 q01_Quotient_j0
      simp only []
      rw [hs, hs2, r_shifted b1 b2, r_shifted (modPn _) (modPl _), hcc]
      simp only [Option.bind_some]
      generalize hbb : c * 2 / P128 = bb at *
      by_cases hc : 2 * r + bb ≥ n
      · rw [if_pos (decide_eq_true hc), if_pos hc]
        simp only [w3, wu]
        refine congrArg (fun x => some (Sum.inl x)) (Prod.ext ?_ (Prod.ext rfl (Prod.ext rfl (Prod.ext rfl (Prod.ext ?_ ?_)))))
        · simp only; omega
        · unfold mkM; simp only; omega
        · unfold mkM; simp only; omega
      · rw [if_neg (by rw [decide_eq_false hc]; decide), if_neg hc]
        simp only [w3, wu]
        have : (q % P128 + q % P128) % P128 = 2 * q % P128 := by omega
        rw [this]
    unfold q01_Quotient_l1
    simp only []
    rw [if_pos (decide_eq_true (by omega)), and_top hH.1 hH.2]
    have e2 : r * 2 ^ 1 = r * 2 := by rw [Int.pow_succ]; simp
    simp only [wu, e2]
    rcases bit with ⟨c1, c2⟩ | ⟨c1, c2⟩
    · rw [if_pos (decide_eq_true (hHc.2 c1))]
      have e3 : (r * 2 % 18446744073709551616 + 1) % 18446744073709551616 = 2 * r + c * 2 / P128 := by rw [c2]; omega
      rw [e3]
      exact key
    · rw [if_neg (by rw [decide_eq_false (fun hh => absurd (hHc.1 hh) (Int.not_le.2 c1))]; decide)]
      have e3 : r * 2 % 18446744073709551616 = 2 * r + c * 2 / P128 := by rw [c2]; omega
      rw [e3]
      exact key
  · obtain ⟨e1, e2⟩ := tw_end hP0 hm0.1 hm0.2 (k := 128) rfl
    obtain ⟨a1, a2, a3, a4⟩ := hd 128
    rw [e1] at a4
    generalize dw (mv m) n 128 = z at *
    have hq : mv m / n = z.2 ∧ mv m % n = z.1 := by
      rw [a4, Int.add_comm, Int.add_mul_ediv_right _ _ (by omega), Int.add_mul_emod_self_right, Int.ediv_eq_zero_of_lt a1 a2, Int.emod_eq_of_lt a1 a2]
      simp
    have hle : z.2 % P128 = z.2 := by
      refine Int.emod_eq_of_lt a3 ?_
      have : z.2 * 1 ≤ z.2 * n := Int.mul_le_mul_of_nonneg_left hn a3
      have := hm0.2
      omega
    unfold q01_Quotient_l1
    simp only [hle]
    rw [if_neg (by simp), hq.1, hq.2]
    rfl
end Go.Cb
set_option linter.unusedSimpArgs false
set_option linter.unusedVariables false
namespace Go.Cb
open Go.Eng Go.RowKit
def lenTab : ByteArray := bs [0, 1, 2, 2, 3, 3, 3, 3, 4, 4, 4, 4, 4, 4, 4, 4, 5, 5, 5, 5, 5, 5, 5, 5, 5, 5, 5, 5, 5, 5, 5, 5, 6, 6, 6, 6, 6, 6, 6, 6, 6, 6, 6, 6, 6, 6, 6, 6, 6, 6, 6, 6, 6, 6, 6, 6, 6, 6, 6, 6, 6, 6, 6, 6, 7, 7, 7, 7, 7, 7, 7, 7, 7, 7, 7, 7, 7, 7, 7, 7, 7, 7, 7, 7, 7, 7, 7, 7, 7, 7, 7, 7, 7, 7, 7, 7, 7, 7, 7, 7, 7, 7, 7, 7, 7, 7, 7, 7, 7, 7, 7, 7, 7, 7, 7, 7, 7, 7, 7, 7, 7, 7, 7, 7, 7, 7, 7, 7, 8, 8, 8, 8, 8, 8, 8, 8, 8, 8, 8, 8, 8, 8, 8, 8, 8, 8, 8, 8, 8, 8, 8, 8, 8, 8, 8, 8, 8, 8, 8, 8, 8, 8, 8, 8, 8, 8, 8, 8, 8, 8, 8, 8, 8, 8, 8, 8, 8, 8, 8, 8, 8, 8, 8, 8, 8, 8, 8, 8, 8, 8, 8, 8, 8, 8, 8, 8, 8, 8, 8, 8, 8, 8, 8, 8, 8, 8, 8, 8, 8, 8, 8, 8, 8, 8, 8, 8, 8, 8, 8, 8, 8, 8, 8, 8, 8, 8, 8, 8, 8, 8, 8, 8, 8, 8, 8, 8, 8, 8, 8, 8, 8, 8, 8, 8, 8, 8, 8, 8, 8, 8, 8, 8, 8, 8, 8, 8]
def lenOK (v : Nat) : Bool := Nat.beq v 0 || (match bt lenTab (v : Int) with
  | .ofNat (L + 1) => Nat.ble L 7 && Nat.ble (2 ^ L) v && Nat.blt v (2 ^ (L + 1))
  | _ => false)
theorem lenOK_all : ((List.range 256).all lenOK) = true := by kernel_rfl
theorem len_tab {v : Nat} (h : v < 256) (h0 : 0 < v) : ∃ L : Nat, bt lenTab (v : Int) = ((L + 1 : Nat) : Int) ∧ L ≤ 7 ∧ 2 ^ L ≤ v ∧ v < 2 ^ (L + 1) := by
  have := List.all_eq_true.1 lenOK_all v (List.mem_range.2 h)
  unfold lenOK at this
  have hz : Nat.beq v 0 = false := by cases v with
    | zero => omega
    | succ n => rfl
  rw [hz, Bool.false_or] at this
  split at this
  · rename_i L hL
    refine ⟨L, hL, ?_⟩
    simp only [Bool.and_eq_true] at this
    exact ⟨Nat.le_of_ble_eq_true this.1.1, Nat.le_of_ble_eq_true this.1.2, by have := this.2; unfold Nat.blt at this; exact Nat.le_of_ble_eq_true this⟩
  · cases this
set_option maxRecDepth 20000 in
theorem len_j0 {v n : Nat} (h : v < 256) (h0 : 0 < v) (hn : n ≤ 56) : ∃ L : Nat, math_bits_Len64_j0 ((v : Int), (n : Int)) = some ((n + L + 1 : Nat) : Int) ∧ L ≤ 7 ∧ 2 ^ L ≤ v ∧ v < 2 ^ (L + 1) := by
  obtain ⟨L, e, h1, h2, h3⟩ := len_tab h h0
  refine ⟨L, ?_, h1, h2, h3⟩
  unfold math_bits_Len64_j0
  have w8 : IntKind.wrap .u8 (v : Int) = v := by
    unfold IntKind.wrap IntKind.bits IntKind.signed
    simp
    omega
  have hsz : ((lenTab.size : Nat) : Int) = 256 := by
    have : lenTab.size = 256 := by kernel_rfl
    rw [this]; rfl
  show (if (0 : Int) ≤ IntKind.wrap .u8 v ∧ (IntKind.wrap .u8 v : Int) < (lenTab.size : Int) then some (IntKind.wrap .i64 ((n : Int) + IntKind.wrap .i64 (bt lenTab (IntKind.wrap .u8 v : Int)))) else none) = _
  rw [w8, if_pos (by omega), e, wi, wi]
  refine congrArg some ?_
  omega
theorem len_up {x k L : Nat} (h1 : 2 ^ L ≤ x / 2 ^ k) (h2 : x / 2 ^ k < 2 ^ (L + 1)) : 2 ^ (L + k) ≤ x ∧ x < 2 ^ (L + k + 1) := by
  have hp : 0 < 2 ^ k := Nat.two_pow_pos k
  constructor
  · rw [Nat.pow_add]; exact (Nat.le_div_iff_mul_le hp).1 h1
  · rw [show L + k + 1 = (L + 1) + k by omega, Nat.pow_add]; exact (Nat.div_lt_iff_lt_mul hp).1 h2
theorem fdiv_nat (v k : Nat) : Int.fdiv (v : Int) (2 ^ k) = ((v / 2 ^ k : Nat) : Int) := by
  rw [Int.fdiv_eq_ediv_of_nonneg _ (Int.le_of_lt (Int.pow_pos (by decide)))]
  simp
theorem len_j1 {v n : Nat} (h : v < 65536) (h0 : 0 < v) (hn : n ≤ 48) : ∃ L : Nat, math_bits_Len64_j1 ((v : Int), (n : Int)) = some ((n + L + 1 : Nat) : Int) ∧ L ≤ 15 ∧ 2 ^ L ≤ v ∧ v < 2 ^ (L + 1) := by
  unfold math_bits_Len64_j1
  by_cases hc : (v : Int) ≥ 256
  · rw [if_pos (decide_eq_true hc), fdiv_nat v 8]
    have w : IntKind.wrap .i64 ((n : Int) + 8) = ((n + 8 : Nat) : Int) := by rw [wi]; omega
    obtain ⟨L, e, h1, h2, h3⟩ := len_j0 (v := v / 2 ^ 8) (n := n + 8) (by omega) (by omega) (by omega)
    have hu := len_up h2 h3
    exact ⟨L + 8, by rw [w]; exact e.trans (congrArg some (by omega)), by omega, hu⟩
  · rw [if_neg (by rw [decide_eq_false hc]; decide)]
    obtain ⟨L, e, h1, h2, h3⟩ := len_j0 (v := v) (n := n) (by omega) h0 (by omega)
    exact ⟨L, e, by omega, h2, h3⟩
theorem len_j2 {v n : Nat} (h : v < 4294967296) (h0 : 0 < v) (hn : n ≤ 32) : ∃ L : Nat, math_bits_Len64_j2 ((v : Int), (n : Int)) = some ((n + L + 1 : Nat) : Int) ∧ L ≤ 31 ∧ 2 ^ L ≤ v ∧ v < 2 ^ (L + 1) := by
  unfold math_bits_Len64_j2
  by_cases hc : (v : Int) ≥ 65536
  · rw [if_pos (decide_eq_true hc), fdiv_nat v 16]
    have w : IntKind.wrap .i64 ((n : Int) + 16) = ((n + 16 : Nat) : Int) := by rw [wi]; omega
    obtain ⟨L, e, h1, h2, h3⟩ := len_j1 (v := v / 2 ^ 16) (n := n + 16) (by omega) (by omega) (by omega)
    have hu := len_up h2 h3
    exact ⟨L + 16, by rw [w]; exact e.trans (congrArg some (by omega)), by omega, hu⟩
  · rw [if_neg (by rw [decide_eq_false hc]; decide)]
    obtain ⟨L, e, h1, h2, h3⟩ := len_j1 (v := v) (n := n) (by omega) h0 (by omega)
    exact ⟨L, e, by omega, h2, h3⟩
theorem s_Lead {v : Nat} (h : v < 18446744073709551616) (h0 : 0 < v) : ∃ s : Nat, math_bits_LeadingZeros64 (v : Int) = some (s : Int) ∧ s ≤ 63 ∧ 2 ^ 63 ≤ v * 2 ^ s ∧ v * 2 ^ s < 2 ^ 64 := by
  have key : ∃ L : Nat, math_bits_Len64 (v : Int) = some ((L + 1 : Nat) : Int) ∧ L ≤ 63 ∧ 2 ^ L ≤ v ∧ v < 2 ^ (L + 1) := by
    unfold math_bits_Len64
    by_cases hc : (v : Int) ≥ 4294967296
    · rw [if_pos (decide_eq_true hc), fdiv_nat v 32]
      obtain ⟨L, e, h1, h2, h3⟩ := len_j2 (v := v / 2 ^ 32) (n := 32) (by omega) (by omega) (by omega)
      have e : math_bits_Len64_j2 (((v / 2 ^ 32 : Nat) : Int), 32) = some ((32 + L + 1 : Nat) : Int) := e
      have hu := len_up h2 h3
      exact ⟨L + 32, by exact e.trans (congrArg some (by omega)), by omega, hu⟩
    · rw [if_neg (by rw [decide_eq_false hc]; decide)]
      obtain ⟨L, e, h1, h2, h3⟩ := len_j2 (v := v) (n := 0) (by omega) h0 (by omega)
      have e : math_bits_Len64_j2 ((v : Int), 0) = some ((0 + L + 1 : Nat) : Int) := e
      exact ⟨L, by exact e.trans (congrArg some (by omega)), by omega, h2, h3⟩
  obtain ⟨L, e, h1, h2, h3⟩ := key
  refine ⟨63 - L, ?_, by omega, ?_, ?_⟩
  · unfold math_bits_LeadingZeros64
    rw [e]
    simp only [Option.bind_some]
    rw [wi]
    refine congrArg some ?_
    omega
  · have : 2 ^ 63 = 2 ^ L * 2 ^ (63 - L) := by rw [← Nat.pow_add]; congr 1; omega
    rw [this]; exact Nat.mul_le_mul_right _ h2
  · have : 2 ^ 64 = 2 ^ (L + 1) * 2 ^ (63 - L) := by rw [← Nat.pow_add]; congr 1; omega
    rw [this]; exact Nat.mul_lt_mul_of_pos_right h3 (Nat.two_pow_pos _)
theorem digit {σ ρ : Type} (B : σ → Option (σ ⊕ ρ)) (st : Int → Int → σ) (OUT : Int → Option ρ) {yn1 yn0 u d : Int} (hy1 : 2147483648 ≤ yn1) (hy2 : yn1 < 4294967296) (hz1 : 0 ≤ yn0) (hz2 : yn0 < 4294967296)
    (hd1 : 0 ≤ d) (hd2 : d < 4294967296) (hu1 : 0 ≤ u) (hu2 : u < yn1 * 4294967296 + yn0)
    (hB : ∀ q rh, B (st q rh) = if (bif (decide (q ≥ 4294967296)) then true else (decide ((q * yn0) % 18446744073709551616 > ((4294967296 * rh) % 18446744073709551616 + d) % 18446744073709551616))) = true then (if (decide ((rh + yn1) % 18446744073709551616 ≥ 4294967296)) = true then (OUT ((q - 1) % 18446744073709551616)).map .inr else some (.inl (st ((q - 1) % 18446744073709551616) ((rh + yn1) % 18446744073709551616)))) else (OUT q).map .inr) :
    Iter B (st (u / yn1) (u % yn1)) = OUT ((u * 4294967296 + d) / (yn1 * 4294967296 + yn0)) := by
  have e0 : u / yn1 * yn1 + u % yn1 = u := by rw [Int.mul_comm]; exact Int.mul_ediv_add_emod u yn1
  have r0 : 0 ≤ u % yn1 := Int.emod_nonneg _ (by omega)
  have r1 : u % yn1 < yn1 := Int.emod_lt_of_pos _ (by omega)
  have q0 : 0 ≤ u / yn1 := Int.ediv_nonneg hu1 (by omega)
  have q1 : u / yn1 < 4294967298 := by
    refine (Int.ediv_lt_iff_lt_mul (by omega)).2 ?_
    rw [show (4294967298 : Int) * yn1 = yn1 * 4294967298 by rw [Int.mul_comm]]
    omega
  generalize hq : u / yn1 = q at *
  generalize hr : u % yn1 = rh at *
  have hC : (q ≥ 4294967296 → q * yn0 ≥ 4294967296 * yn0 ∧ q * yn1 ≥ 4294967296 * yn1) ∧ (q = 4294967297 → q * yn0 = 4294967297 * yn0 ∧ q * yn1 = 4294967297 * yn1) := by
    refine ⟨fun h => ⟨Int.mul_le_mul_of_nonneg_right h hz1, Int.mul_le_mul_of_nonneg_right h (by omega)⟩, fun h => ?_⟩
    rw [h]; exact ⟨rfl, rfl⟩
  have hA0 : 0 ≤ q * yn0 := Int.mul_nonneg q0 hz1
  have hA1 : q * yn0 ≤ 4294967297 * yn0 := Int.mul_le_mul_of_nonneg_right (by omega) hz1
  have hA2 : q = 0 → q * yn0 = 0 := fun h => by rw [h, Int.zero_mul]
  have hA3 : q ≤ 4294967295 → q * yn0 ≤ 4294967295 * yn0 := fun h => Int.mul_le_mul_of_nonneg_right h hz1
  have hA6 : 1 ≤ q → 1 * yn0 ≤ q * yn0 := fun h => Int.mul_le_mul_of_nonneg_right h hz1
  have hA4 : q = 1 → q * yn0 = yn0 := fun h => by rw [h, Int.one_mul]
  have hA5 : q ≤ 4294967296 → q * yn0 ≤ 4294967296 * yn0 := fun h => Int.mul_le_mul_of_nonneg_right h hz1
  have hq1 : (q - 1) * yn0 = q * yn0 - yn0 := by rw [Int.sub_mul, Int.one_mul]
  have hQ : ∀ j : Int, 0 ≤ j → (q - j) * yn0 ≤ (rh + j * yn1) * 4294967296 + d → (rh + j * yn1) * 4294967296 + d < (q - j) * yn0 + (yn1 * 4294967296 + yn0) → (u * 4294967296 + d) / (yn1 * 4294967296 + yn0) = q - j := by
    intro j hj h1 h2
    have hy : 0 < yn1 * 4294967296 + yn0 := by omega
    have e1 : (q - j) * (yn1 * 4294967296 + yn0) = (q * yn1 - j * yn1) * 4294967296 + (q - j) * yn0 := by
      rw [Int.mul_add, ← Int.mul_assoc, Int.sub_mul q j yn1]
    refine Int.le_antisymm ?_ ?_
    · refine Int.le_of_lt_add_one ((Int.ediv_lt_iff_lt_mul hy).2 ?_)
      rw [Int.add_mul, e1, Int.one_mul]
      generalize (q - j) * yn0 = Z at *
      generalize j * yn1 = J at *
      generalize q * yn1 = C at *
      omega
    · refine (Int.le_ediv_iff_mul_le hy).2 ?_
      rw [e1]
      generalize (q - j) * yn0 = Z at *
      generalize j * yn1 = J at *
      generalize q * yn1 = C at *
      omega
  have hQ0 := hQ 0 (by omega)
  have hQ1 := hQ 1 (by omega)
  have hQ2 := hQ 2 (by omega)
  rw [show (q - 2) * yn0 = q * yn0 - 2 * yn0 by rw [Int.sub_mul]] at hQ2
  rw [hq1, Int.one_mul] at hQ1
  simp only [Int.sub_zero, Int.zero_mul, Int.add_zero] at hQ0
  clear hQ
  have b0 := hB q rh
  have b1 := hB (q - 1) (rh + yn1)
  rw [hq1] at b1
  generalize q * yn1 = C at *
  generalize hA : q * yn0 = A at *
  by_cases c0 : q ≥ 4294967296 ∨ A > 4294967296 * rh + d
  · have g0 : A > 4294967296 * rh + d := by
      rcases c0 with c0 | c0
      · have := hC.1 c0; omega
      · exact c0
    have cc : (bif (decide (q ≥ 4294967296)) then true else (decide (A % 18446744073709551616 > ((4294967296 * rh) % 18446744073709551616 + d) % 18446744073709551616))) = true := by
      by_cases h : q ≥ 4294967296
      · rw [decide_eq_true h]; rfl
      · rw [decide_eq_false h]
        refine decide_eq_true (?_ : A % 18446744073709551616 > (4294967296 * rh % 18446744073709551616 + d) % 18446744073709551616)
        have := hA3 (by omega)
        omega
    have hqp : 1 ≤ q := by
      refine Int.not_lt.1 (fun h => ?_)
      have := hA2 (by omega)
      omega
    rw [cc, if_pos rfl] at b0
    have m1 : (q - 1) % 18446744073709551616 = q - 1 := by omega
    have m2 : (rh + yn1) % 18446744073709551616 = rh + yn1 := by omega
    rw [m1, m2] at b0
    by_cases c1 : rh + yn1 ≥ 4294967296
    · rw [if_pos (decide_eq_true c1)] at b0
      rw [hQ1 (by omega) (by omega)]
      exact iter_map b0
    · rw [if_neg (by rw [decide_eq_false c1]; decide)] at b0
      by_cases c2 : q - 1 ≥ 4294967296 ∨ A - yn0 > 4294967296 * (rh + yn1) + d
      · have g1 : A - yn0 > 4294967296 * (rh + yn1) + d := by
          rcases c2 with c2 | c2
          · have := hC.2 (by omega); omega
          · exact c2
        have cc : (bif (decide (q - 1 ≥ 4294967296)) then true else (decide ((A - yn0) % 18446744073709551616 > ((4294967296 * (rh + yn1)) % 18446744073709551616 + d) % 18446744073709551616))) = true := by
          by_cases h : q - 1 ≥ 4294967296
          · rw [decide_eq_true h]; rfl
          · rw [decide_eq_false h]
            refine decide_eq_true (?_ : (A - yn0) % 18446744073709551616 > (4294967296 * (rh + yn1) % 18446744073709551616 + d) % 18446744073709551616)
            have := hA5 (by omega)
            omega
        have c3 : (rh + yn1 + yn1) % 18446744073709551616 ≥ 4294967296 := by omega
        have hq2 : 2 ≤ q := by
          refine Int.not_lt.1 (fun h => ?_)
          have := hA4 (by omega)
          omega
        have m3 : (q - 1 - 1) % 18446744073709551616 = q - 2 := by omega
        rw [cc, if_pos rfl, if_pos (decide_eq_true c3), m3] at b1
        rw [hQ2 (by omega) (by omega)]
        refine iter_run 1 (fun i => if i = 0 then st q rh else st (q - 1) (rh + yn1)) rfl (by omega) (fun i hi => ?_) b1
        obtain rfl : i = 0 := by omega
        exact b0
      · have cc : (bif (decide (q - 1 ≥ 4294967296)) then true else (decide ((A - yn0) % 18446744073709551616 > ((4294967296 * (rh + yn1)) % 18446744073709551616 + d) % 18446744073709551616))) = false := by
          rw [decide_eq_false (show ¬ q - 1 ≥ 4294967296 by omega)]
          refine decide_eq_false (?_ : ¬ (A - yn0) % 18446744073709551616 > (4294967296 * (rh + yn1) % 18446744073709551616 + d) % 18446744073709551616)
          have := hA5 (by omega)
          have := hA6 hqp
          omega
        rw [cc, if_neg (by decide)] at b1
        rw [hQ1 (by omega) (by omega)]
        refine iter_run 1 (fun i => if i = 0 then st q rh else st (q - 1) (rh + yn1)) rfl (by omega) (fun i hi => ?_) b1
        obtain rfl : i = 0 := by omega
        exact b0
  · have cc : (bif (decide (q ≥ 4294967296)) then true else (decide (A % 18446744073709551616 > ((4294967296 * rh) % 18446744073709551616 + d) % 18446744073709551616))) = false := by
      rw [decide_eq_false (show ¬ q ≥ 4294967296 by omega)]
      refine decide_eq_false (?_ : ¬ A % 18446744073709551616 > (4294967296 * rh % 18446744073709551616 + d) % 18446744073709551616)
      have := hA3 (by omega)
      omega
    rw [cc, if_neg (by decide)] at b0
    rw [hQ0 (by omega) (by omega)]
    exact iter_map b0
end Go.Cb
set_option linter.unusedSimpArgs false
set_option linter.unusedVariables false
namespace Go.Cb
open Go.Eng Go.RowKit
theorem s_Div64 {hi lo y : Int} (h0 : 0 ≤ hi) (h1 : hi < y) (hy : y < 18446744073709551616) (l0 : 0 ≤ lo) (l1 : lo < 18446744073709551616) :
    math_bits_Div64 hi lo y = some ((hi * 18446744073709551616 + lo) / y, (hi * 18446744073709551616 + lo) % y) := by
  have hne : ¬ y ≤ hi := by omega
  have hyz : (y == 0) = false := by simp; omega
  unfold math_bits_Div64 math_bits_Div64_j5 math_bits_Div64_j4
  rw [hyz, if_neg (by decide), if_neg (by rw [decide_eq_false hne]; decide)]
  by_cases hz : hi = 0
  · subst hz
    rw [if_pos (show ((0 : Int) == 0) = true from rfl), if_pos (by omega), if_pos (by omega), Int.zero_mul, Int.zero_add, Int.tdiv_eq_ediv_of_nonneg l0, Int.tmod_eq_emod_of_nonneg l0, wu]
    have a1 : 0 ≤ lo / y := Int.ediv_nonneg l0 (by omega)
    have a2 : lo / y ≤ lo := Int.ediv_le_self y l0
    refine congrArg (fun x => some (x, lo % y)) ?_
    omega
  · have hz' : (hi == 0) = false := by simpa using hz
    rw [hz', if_neg (by decide)]
    obtain ⟨s, e, s1, s2, s3⟩ := s_Lead (v := y.toNat) (by omega) (by omega)
    have hyn : ((y.toNat : Nat) : Int) = y := by omega
    rw [hyn] at e
    rw [e]
    simp only [Option.bind_some]
    have wr : IntKind.wrap .u64 (s : Int) = s := by rw [wu]; omega
    have wr2 : IntKind.wrap .u64 (64 - (s : Int)) = ((64 - s : Nat) : Int) := by rw [wu]; omega
    have hmin : min s 64 = s := by omega
    have hmin2 : min (64 - s) 64 = 64 - s := by omega
    have hSp : (0 : Int) < 2 ^ s := Int.pow_pos (by decide)
    have hSp2 : (0 : Int) < 2 ^ (64 - s) := Int.pow_pos (by decide)
    have hSS : (2 : Int) ^ (64 - s) * 2 ^ s = 18446744073709551616 := by rw [← Int.pow_add, show 64 - s + s = 64 by omega]; rfl
    have hY1 : 9223372036854775808 ≤ y * 2 ^ s ∧ y * 2 ^ s < 18446744073709551616 := by
      have c : y * 2 ^ s = ((y.toNat * 2 ^ s : Nat) : Int) := by rw [Int.natCast_mul, hyn]; simp
      rw [c]; omega
    have wY : IntKind.wrap .u64 (y * 2 ^ s) = y * 2 ^ s := by rw [wu]; omega
    have hhi : 0 ≤ hi * 2 ^ s ∧ hi * 2 ^ s + 2 ^ s ≤ y * 2 ^ s := by
      refine ⟨Int.mul_nonneg h0 (Int.le_of_lt hSp), ?_⟩
      have := Int.mul_le_mul_of_nonneg_right (show hi + 1 ≤ y by omega) (Int.le_of_lt hSp)
      rw [Int.add_mul, Int.one_mul] at this
      exact this
    have wH : IntKind.wrap .u64 (hi * 2 ^ s) = hi * 2 ^ s := by rw [wu]; omega
    have fL : lo.fdiv (2 ^ (64 - s)) = lo / 2 ^ (64 - s) := Int.fdiv_eq_ediv_of_nonneg _ (Int.le_of_lt hSp2)
    have hL : 0 ≤ lo / 2 ^ (64 - s) ∧ lo / 2 ^ (64 - s) < 2 ^ s := by
      refine ⟨Int.ediv_nonneg l0 (Int.le_of_lt hSp2), (Int.ediv_lt_iff_lt_mul hSp2).2 ?_⟩
      rw [Int.mul_comm, hSS]; exact l1
    have wU : bitsI .or .u64 (hi * 2 ^ s) (lo / 2 ^ (64 - s)) = hi * 2 ^ s + lo / 2 ^ (64 - s) := or_add h0 hL.1 hL.2 (by omega)
    have hT : lo * 2 ^ s / 18446744073709551616 = lo / 2 ^ (64 - s) := by
      rw [← hSS]; exact Int.mul_ediv_mul_of_pos_left _ _ hSp
    have hN : (hi * 18446744073709551616 + lo) * 2 ^ s = (hi * 2 ^ s + lo / 2 ^ (64 - s)) * 18446744073709551616 + lo * 2 ^ s % 18446744073709551616 := by
      have := Int.mul_ediv_add_emod (lo * 2 ^ s) 18446744073709551616
      rw [hT] at this
      rw [Int.add_mul, Int.add_mul, Int.mul_right_comm hi 18446744073709551616]
      omega
    have wT : IntKind.wrap .u64 (lo * 2 ^ s) = lo * 2 ^ s % 18446744073709551616 := wu _
    have hsh : ∀ z : Int, Int.fdiv z (2 ^ s) = z / 2 ^ s := fun z => Int.fdiv_eq_ediv_of_nonneg _ (Int.le_of_lt hSp)
    have hU2 : hi * 2 ^ s + lo / 2 ^ (64 - s) < y * 2 ^ s := by omega
    have hU1 : 0 ≤ hi * 2 ^ s + lo / 2 ^ (64 - s) := by omega
    have hT2 : 0 ≤ lo * 2 ^ s % 18446744073709551616 ∧ lo * 2 ^ s % 18446744073709551616 < 18446744073709551616 := by omega
    have hf : ∀ z : Int, Int.fdiv z (2 ^ 32) = z / 4294967296 := fun z => by
      rw [Int.fdiv_eq_ediv_of_nonneg _ (by decide)]; rfl
    have hfin : ∀ Q R : Int, (hi * 18446744073709551616 + lo) * 2 ^ s = Q * (y * 2 ^ s) + R → 0 ≤ R → R < y * 2 ^ s → (hi * 18446744073709551616 + lo) / y = Q ∧ (hi * 18446744073709551616 + lo) % y = R / 2 ^ s := by
      intro Q R hQ hR hR2
      have e1 : (hi * 18446744073709551616 + lo) * 2 ^ s / (y * 2 ^ s) = Q := by
        rw [hQ, Int.add_comm, Int.add_mul_ediv_right _ _ (by omega), Int.ediv_eq_zero_of_lt hR hR2, Int.zero_add]
      rw [Int.mul_ediv_mul_of_pos_left _ _ hSp] at e1
      refine ⟨e1, ?_⟩
      have e2 := Int.mul_ediv_add_emod (hi * 18446744073709551616 + lo) y
      rw [e1] at e2
      have e3 : R = ((hi * 18446744073709551616 + lo) % y) * 2 ^ s := by
        have : (hi * 18446744073709551616 + lo) * 2 ^ s = (y * Q + (hi * 18446744073709551616 + lo) % y) * 2 ^ s := by rw [e2]
        rw [hQ, Int.add_mul, Int.mul_right_comm, Int.mul_comm (y * 2 ^ s) Q] at this
        omega
      rw [e3, Int.mul_ediv_cancel _ (by omega)]
    have hj0 : ∀ q1 q0, math_bits_Div64_j0 hi lo y s q1 q0 = some (((q1 * 4294967296) % 18446744073709551616 + q0) % 18446744073709551616,
        ((((((hi * 2 ^ s + lo / 2 ^ (64 - s)) * 4294967296) % 18446744073709551616 + lo * 2 ^ s % 18446744073709551616 / 4294967296) % 18446744073709551616 - (q1 * (y * 2 ^ s)) % 18446744073709551616) % 18446744073709551616 * 4294967296 % 18446744073709551616 + lo * 2 ^ s % 18446744073709551616 % 4294967296) % 18446744073709551616 - (q0 * (y * 2 ^ s)) % 18446744073709551616) % 18446744073709551616 / 2 ^ s) := by
      intro q1 q0
      unfold math_bits_Div64_j0
      simp only [wr, wr2, Int.toNat_natCast, hmin, hmin2, wY, wH, fL, wU, wT, hsh, hf]
      rw [and_lo hT2.1 hT2.2, if_pos (by omega)]
      simp only [wu]
    have hl2 : ∀ q1 q rh, math_bits_Div64_l2 hi lo y s q1 (rh, q) = if (bif (decide (q ≥ 4294967296)) then true else (decide ((q * (y * 2 ^ s % 4294967296)) % 18446744073709551616 > ((4294967296 * rh) % 18446744073709551616 + lo * 2 ^ s % 18446744073709551616 % 4294967296) % 18446744073709551616))) = true then (if (decide ((rh + y * 2 ^ s / 4294967296) % 18446744073709551616 ≥ 4294967296)) = true then (math_bits_Div64_j0 hi lo y s q1 ((q - 1) % 18446744073709551616)).map .inr else some (.inl ((rh + y * 2 ^ s / 4294967296) % 18446744073709551616, (q - 1) % 18446744073709551616))) else (math_bits_Div64_j0 hi lo y s q1 q).map .inr := by
      intro q1 q rh
      unfold math_bits_Div64_l2
      simp only [wr, wr2, Int.toNat_natCast, hmin, hmin2, wY, wT, hf]
      rw [and_lo hT2.1 hT2.2, and_lo (by omega) hY1.2]
      simp only [wu]
    have hl1 : ∀ q rh, math_bits_Div64_l1 hi lo y s (q, rh) = if (bif (decide (q ≥ 4294967296)) then true else (decide ((q * (y * 2 ^ s % 4294967296)) % 18446744073709551616 > ((4294967296 * rh) % 18446744073709551616 + lo * 2 ^ s % 18446744073709551616 / 4294967296) % 18446744073709551616))) = true then (if (decide ((rh + y * 2 ^ s / 4294967296) % 18446744073709551616 ≥ 4294967296)) = true then (math_bits_Div64_j2 hi lo y s ((q - 1) % 18446744073709551616)).map .inr else some (.inl ((q - 1) % 18446744073709551616, (rh + y * 2 ^ s / 4294967296) % 18446744073709551616))) else (math_bits_Div64_j2 hi lo y s q).map .inr := by
      intro q rh
      unfold math_bits_Div64_l1
      simp only [wr, wr2, Int.toNat_natCast, hmin, hmin2, wY, wT, hf]
      rw [and_lo (by omega) hY1.2]
      simp only [wu]
    have hj2 : ∀ q1, math_bits_Div64_j2 hi lo y s q1 = Iter (math_bits_Div64_l2 hi lo y s q1) (
        ((((hi * 2 ^ s + lo / 2 ^ (64 - s)) * 4294967296 % 18446744073709551616 + lo * 2 ^ s % 18446744073709551616 / 4294967296) % 18446744073709551616 - q1 * (y * 2 ^ s) % 18446744073709551616) % 18446744073709551616 - ((((hi * 2 ^ s + lo / 2 ^ (64 - s)) * 4294967296 % 18446744073709551616 + lo * 2 ^ s % 18446744073709551616 / 4294967296) % 18446744073709551616 - q1 * (y * 2 ^ s) % 18446744073709551616) % 18446744073709551616).tdiv (y * 2 ^ s / 4294967296) % 18446744073709551616 * (y * 2 ^ s / 4294967296) % 18446744073709551616) % 18446744073709551616,
        ((((hi * 2 ^ s + lo / 2 ^ (64 - s)) * 4294967296 % 18446744073709551616 + lo * 2 ^ s % 18446744073709551616 / 4294967296) % 18446744073709551616 - q1 * (y * 2 ^ s) % 18446744073709551616) % 18446744073709551616).tdiv (y * 2 ^ s / 4294967296) % 18446744073709551616) := by
      intro q1
      unfold math_bits_Div64_j2
      simp only [wr, wr2, Int.toNat_natCast, hmin, hmin2, wY, wH, fL, wU, wT, hf]
      rw [if_pos (by omega)]
      simp only [wu]
    simp only [wr, wr2, Int.toNat_natCast, hmin, hmin2, wY, wH, fL, wU, hf]
    rw [if_pos (by omega), if_pos (by omega), if_pos (by omega), if_pos (by omega), if_pos (by omega)]
    simp only [wu]
    clear wr wr2 wY wH fL wU wT hf hsh hSS hL hT hSp2 hhi s2 s3 hyn e
    generalize hi * 2 ^ s + lo / 2 ^ (64 - s) = U at *
    generalize lo * 2 ^ s % 18446744073709551616 = T at *
    generalize hYY : y * 2 ^ s = Y at *
    have dgo := fun (u : Int) (hu : 0 ≤ u) => (show (u.tdiv (Y / 4294967296)) = u / (Y / 4294967296) from Int.tdiv_eq_ediv_of_nonneg hu)
    have red : ∀ u : Int, 0 ≤ u → u < Y → (u / (Y / 4294967296)) % 18446744073709551616 = u / (Y / 4294967296) ∧ (u - u / (Y / 4294967296) * (Y / 4294967296) % 18446744073709551616) % 18446744073709551616 = u % (Y / 4294967296) := by
      intro u hu hu2
      have a0 := Int.mul_ediv_add_emod u (Y / 4294967296)
      have a1 : 0 ≤ u / (Y / 4294967296) := Int.ediv_nonneg hu (by omega)
      have a2 : u / (Y / 4294967296) ≤ u := Int.ediv_le_self _ hu
      have a3 : 0 ≤ u % (Y / 4294967296) := Int.emod_nonneg _ (by omega)
      have a4 : u % (Y / 4294967296) < Y / 4294967296 := Int.emod_lt_of_pos _ (by omega)
      rw [Int.mul_comm (u / (Y / 4294967296))]
      have a5 : 0 ≤ Y / 4294967296 * (u / (Y / 4294967296)) := Int.mul_nonneg (by omega) a1
      generalize Y / 4294967296 * (u / (Y / 4294967296)) = m at *
      generalize u / (Y / 4294967296) = q at *
      omega
    have hYp : Y / 4294967296 * 4294967296 + Y % 4294967296 = Y := by omega
    rw [dgo U hU1, (red U hU1 hU2).1, (red U hU1 hU2).2]
    rw [digit (math_bits_Div64_l1 hi lo y s) (fun q rh => (q, rh)) (fun q => math_bits_Div64_j2 hi lo y s q) (yn1 := Y / 4294967296) (yn0 := Y % 4294967296) (u := U) (d := T / 4294967296) (by omega) (by omega) (by omega) (by omega) (by omega) (by omega) hU1 (by omega) hl1, hYp]
    have E1 := Int.mul_ediv_add_emod (U * 4294967296 + T / 4294967296) Y
    have R1 : 0 ≤ (U * 4294967296 + T / 4294967296) % Y := Int.emod_nonneg _ (by omega)
    have R2 : (U * 4294967296 + T / 4294967296) % Y < Y := Int.emod_lt_of_pos _ (by omega)
    have Q1 : 0 ≤ (U * 4294967296 + T / 4294967296) / Y := Int.ediv_nonneg (by omega) (by omega)
    have Q2 : (U * 4294967296 + T / 4294967296) / Y < 4294967296 := (Int.ediv_lt_iff_lt_mul (by omega)).2 (by omega)
    generalize (U * 4294967296 + T / 4294967296) / Y = q1 at *
    generalize (U * 4294967296 + T / 4294967296) % Y = u2 at *
    rw [hj2]
    have hm : ((U * 4294967296 % 18446744073709551616 + T / 4294967296) % 18446744073709551616 - q1 * Y % 18446744073709551616) % 18446744073709551616 = u2 := by
      rw [Int.mul_comm q1]
      generalize Y * q1 = m at *
      omega
    rw [hm, dgo u2 R1, (red u2 R1 R2).1, (red u2 R1 R2).2]
    rw [digit (math_bits_Div64_l2 hi lo y s q1) (fun q rh => (rh, q)) (fun q => math_bits_Div64_j0 hi lo y s q1 q) (yn1 := Y / 4294967296) (yn0 := Y % 4294967296) (u := u2) (d := T % 4294967296) (by omega) (by omega) (by omega) (by omega) (by omega) (by omega) R1 (by omega) (hl2 q1), hYp]
    have E2 := Int.mul_ediv_add_emod (u2 * 4294967296 + T % 4294967296) Y
    have S1 : 0 ≤ (u2 * 4294967296 + T % 4294967296) % Y := Int.emod_nonneg _ (by omega)
    have S2 : (u2 * 4294967296 + T % 4294967296) % Y < Y := Int.emod_lt_of_pos _ (by omega)
    have P1 : 0 ≤ (u2 * 4294967296 + T % 4294967296) / Y := Int.ediv_nonneg (by omega) (by omega)
    have P2 : (u2 * 4294967296 + T % 4294967296) / Y < 4294967296 := (Int.ediv_lt_iff_lt_mul (by omega)).2 (by omega)
    generalize (u2 * 4294967296 + T % 4294967296) / Y = q0 at *
    generalize (u2 * 4294967296 + T % 4294967296) % Y = r0 at *
    rw [hj0, hm]
    have hn : (((u2 * 4294967296) % 18446744073709551616 + T % 4294967296) % 18446744073709551616 - q0 * Y % 18446744073709551616) % 18446744073709551616 = r0 := by
      rw [Int.mul_comm q0]
      generalize Y * q0 = m at *
      omega
    rw [hn]
    have F := hfin (q1 * 4294967296 + q0) r0 (by
      rw [hN, Int.add_mul, Int.mul_right_comm, Int.mul_comm q1 Y, Int.mul_comm q0 Y]
      omega) S1 S2
    rw [F.1, F.2]
    refine congrArg (fun x => some (x, r0 / 2 ^ s)) ?_
    omega
theorem s_divide {v n : Int} (hv : 0 ≤ v) (hv1 : v < P128) (hn : 1 ≤ n) (hn1 : n ≤ 9223372036854775807) : wide_size_divide (mkS v) n = some (mkS (v / n), v % n) := by
  rw [hP128] at hv1
  have h1 : 0 ≤ (mkS v).hi ∧ (mkS v).hi < 18446744073709551616 := by unfold mkS; simp only; omega
  have h2 : 0 ≤ (mkS v).lo ∧ (mkS v).lo < 18446744073709551616 := by unfold mkS; simp only; omega
  unfold wide_size_divide
  rw [if_pos (by omega), Int.tmod_eq_emod_of_nonneg h1.1, Int.tdiv_eq_ediv_of_nonneg h1.1]
  have m1 : 0 ≤ (mkS v).hi % n := Int.emod_nonneg _ (by omega)
  have m2 : (mkS v).hi % n < n := Int.emod_lt_of_pos _ (by omega)
  rw [s_Div64 m1 m2 (by omega) h2.1 h2.2]
  simp only [Option.bind_some]
  rw [if_pos (by omega), wu]
  have hv2 : v = (mkS v).hi * 18446744073709551616 + (mkS v).lo := by unfold mkS; simp only; omega
  have e := Int.mul_ediv_add_emod (mkS v).hi n
  generalize (mkS v).hi = H at *
  generalize (mkS v).lo = L at *
  have e2 := Int.mul_ediv_add_emod (H % n * 18446744073709551616 + L) n
  have c1 : 0 ≤ H / n := Int.ediv_nonneg h1.1 (by omega)
  have c2 : H / n ≤ H := Int.ediv_le_self _ h1.1
  have c3 : 0 ≤ (H % n * 18446744073709551616 + L) / n := Int.ediv_nonneg (by omega) (by omega)
  have c4 : (H % n * 18446744073709551616 + L) / n < 18446744073709551616 := (Int.ediv_lt_iff_lt_mul (by omega)).2 (by omega)
  have c5 : 0 ≤ (H % n * 18446744073709551616 + L) % n := Int.emod_nonneg _ (by omega)
  have c6 : (H % n * 18446744073709551616 + L) % n < n := Int.emod_lt_of_pos _ (by omega)
  generalize (H % n * 18446744073709551616 + L) / n = ql at *
  generalize (H % n * 18446744073709551616 + L) % n = r at *
  generalize H / n = qh at *
  generalize H % n = rh at *
  have e3 : v = (qh * 18446744073709551616 + ql) * n + r := by
    rw [Int.add_mul, Int.mul_right_comm, Int.mul_comm qh n, Int.mul_comm ql n]
    omega
  have f1 : v / n = qh * 18446744073709551616 + ql := by
    rw [e3, Int.add_comm, Int.add_mul_ediv_right _ _ (by omega), Int.ediv_eq_zero_of_lt c5 c6, Int.zero_add]
  have f2 : v % n = r := by
    rw [e3, Int.add_comm, Int.add_mul_emod_self_right, Int.emod_eq_of_lt c5 c6]
  rw [f1, f2]
  refine congrArg (fun x => some (x, r)) ?_
  unfold mkS
  congr 1 <;> omega
theorem s_Div {a : ApiWide} {n : Int} (h : wok a) (hn : 1 ≤ n) (hn1 : n ≤ 9223372036854775807) : wide_Div a n = some (mk128 (wv a / n), wv a % n, 0) := by
  have hw := wok_in h
  have hlt := abs_lt h
  unfold in128 at hw
  have hs0 : (a.Hi < 0) ↔ (wv a < 0) := by unfold wok at h; unfold wv; omega
  have hd : decide (a.Hi < 0) = decide (wv a < 0) := decide_eq_decide.2 hs0
  unfold wide_Div wide_Div_j0
  have wn : IntKind.wrap .u64 n = n := by rw [wu]; omega
  rw [if_neg (by rw [decide_eq_false (show ¬ n < 1 by omega)]; decide), s_absolute h, wn]
  simp only [Option.bind_some]
  rw [s_divide (by omega) hlt hn hn1]
  simp only [Option.bind_some, hd]
  have e := Int.mul_ediv_add_emod ((wv a).natAbs : Int) n
  have c1 : 0 ≤ ((wv a).natAbs : Int) / n := Int.ediv_nonneg (by omega) (by omega)
  have c2 : ((wv a).natAbs : Int) / n ≤ (wv a).natAbs := Int.ediv_le_self _ (by omega)
  have c5 : 0 ≤ ((wv a).natAbs : Int) % n := Int.emod_nonneg _ (by omega)
  have c6 : ((wv a).natAbs : Int) % n < n := Int.emod_lt_of_pos _ (by omega)
  have c7 : (((wv a).natAbs : Int) / n = ((wv a).natAbs : Int) → n = 1 ∨ ((wv a).natAbs : Int) / n = 0) := fun hq => by
    rcases Int.lt_or_le 1 n with h1 | h1
    · right
      rw [hq] at e
      have : 2 * ((wv a).natAbs : Int) ≤ n * ((wv a).natAbs : Int) := Int.mul_le_mul_of_nonneg_right (by omega) (by omega)
      omega
    · left; omega
  have mn : ∀ q r : Int, wv a = n * q + r → 0 ≤ r → r < n → wv a / n = q ∧ wv a % n = r := by
    intro q r e3 h1 h2
    rw [e3]
    constructor
    · rw [Int.add_comm, Int.add_mul_ediv_left _ _ (by omega), Int.ediv_eq_zero_of_lt h1 h2, Int.zero_add]
    · rw [Int.add_comm, Int.add_mul_emod_self_left, Int.emod_eq_of_lt h1 h2]
  generalize hQ : ((wv a).natAbs : Int) / n = Q at *
  generalize hR : ((wv a).natAbs : Int) % n = R at *
  have wR : ∀ r : Int, 0 ≤ r → r < n → IntKind.wrap .i64 r = r := fun r h1 h2 => by rw [wi]; omega
  have hz : ∀ q : Int, ((mkS q).hi == 0 && ((mkS q).lo == 0 && true)) = decide (q = 0) := by
    intro q
    unfold mkS
    simp only [Bool.and_true]
    rw [Bool.eq_iff_iff]
    simp
    omega
  have res : ∀ q r : Int, 0 ≤ q → q ≤ 170141183460469231731687303715884105728 → 0 ≤ r → r < n → (0 ≤ wv a → q ≤ 170141183460469231731687303715884105727) → wv a = n * (if wv a < 0 then - q else q) + r →
      ((wide_size_signed (⟨(mkS q).hi, (mkS q).lo⟩ : WideSize) (bif (decide (wv a < 0)) then (!((mkS q).hi == 0 && ((mkS q).lo == 0 && true))) else false)).bind fun r3 => some (r3.1, (IntKind.wrap .i64 r), (0 : Int))) = some (mk128 (wv a / n), wv a % n, 0) := by
    intro q r hq0 hq1 hr0 hr1 hq2 he
    obtain ⟨g1, g2⟩ := mn _ _ he hr0 hr1
    have hs : (⟨(mkS q).hi, (mkS q).lo⟩ : WideSize) = mkS q := rfl
    rw [hs, s_signed (sok_mk hq0 (by omega)), sv_mk, hz, wR r hr0 hr1, g1, g2]
    simp only [Option.bind_some]
    refine congrArg (fun x => some (x, r, (0 : Int))) ?_
    by_cases h1 : wv a < 0
    · rw [decide_eq_true h1, if_pos h1]
      by_cases h2 : q = 0
      · subst h2
        have : in128 0 := by unfold in128; omega
        show (wres (if (bif true then !(decide ((0 : Int) = 0)) else false) = true then - 0 else 0)).1 = mk128 (- 0)
        unfold wres
        simp [this]
      · rw [decide_eq_false h2]
        have : in128 (- q) := by unfold in128; omega
        show (wres (- q)).1 = mk128 (- q)
        unfold wres
        rw [if_pos this]
    · rw [decide_eq_false h1, if_neg h1]
      have := hq2 (by omega)
      have : in128 q := by unfold in128; omega
      show (wres q).1 = mk128 q
      unfold wres
      rw [if_pos this]
  by_cases hc : wv a < 0 ∧ R > 0
  · rw [decide_eq_true hc.1, decide_eq_true hc.2, cond_true, if_pos rfl, s_times (sok_mk (by omega) (by omega)) (by decide) (by decide) (by decide) (by decide), sv_mk, Int.mul_one]
    simp only [Option.bind_some]
    have wn2 : IntKind.wrap .u64 (n - R) = n - R := by rw [wu]; omega
    have hm : (Q + 1) % P128 = Q + 1 := by rw [modP]; omega
    rw [hm, wn2]
    have hq1 : Q + 1 ≤ 170141183460469231731687303715884105728 := by
      by_cases hq : Q = (wv a).natAbs
      · rcases c7 hq with h1 | h1 <;> omega
      · omega
    have r := res (Q + 1) (n - R) (by omega) hq1 (by omega) (by omega) (fun h => absurd h (by omega)) (by
      rw [if_pos hc.1, show n * -(Q + 1) = -(n * Q) - n by rw [Int.mul_neg, Int.mul_add]; omega]
      omega)
    rw [decide_eq_true hc.1] at r
    exact r
  · have hcf : (bif decide (wv a < 0) then decide (R > 0) else false) = false := by
      by_cases h1 : wv a < 0
      · have h2 : ¬ R > 0 := fun h => hc ⟨h1, h⟩
        rw [decide_eq_true h1, decide_eq_false h2]; rfl
      · rw [decide_eq_false h1]; rfl
    rw [hcf, if_neg (by decide)]
    refine res Q R c1 (by omega) c5 c6 (fun h => by omega) ?_
    by_cases h1 : wv a < 0
    · rw [if_pos h1, Int.mul_neg]
      have : ¬ R > 0 := fun h => hc ⟨h1, h⟩
      omega
    · rw [if_neg h1]; omega
theorem r_Div {a : ApiWide} {n : Int} (h : wok a) (hn : 1 ≤ n) (hn1 : n ≤ 9223372036854775807) : q01_Div a n = some (mk128 (wv a / n), wv a % n, 0) := by
  have hw := wok_in h
  have hlt := abs_lt h
  unfold in128 at hw
  unfold q01_Div q01_Div_j0
  have wn : IntKind.wrap .u64 n = n := by rw [wu]; omega
  rw [if_neg (by rw [decide_eq_false (show ¬ n < 1 by omega)]; decide), r_Split h, wn]
  simp only [Option.bind_some]
  rw [r_Quotient (mok_mk (by omega) hlt) hn hn1, mv_mk]
  simp only [Option.bind_some]
  have e := Int.mul_ediv_add_emod ((wv a).natAbs : Int) n
  have c1 : 0 ≤ ((wv a).natAbs : Int) / n := Int.ediv_nonneg (by omega) (by omega)
  have c2 : ((wv a).natAbs : Int) / n ≤ (wv a).natAbs := Int.ediv_le_self _ (by omega)
  have c5 : 0 ≤ ((wv a).natAbs : Int) % n := Int.emod_nonneg _ (by omega)
  have c6 : ((wv a).natAbs : Int) % n < n := Int.emod_lt_of_pos _ (by omega)
  have c7 : (((wv a).natAbs : Int) / n = ((wv a).natAbs : Int) → n = 1 ∨ ((wv a).natAbs : Int) / n = 0) := fun hq => by
    rcases Int.lt_or_le 1 n with h1 | h1
    · right
      rw [hq] at e
      have : 2 * ((wv a).natAbs : Int) ≤ n * ((wv a).natAbs : Int) := Int.mul_le_mul_of_nonneg_right (by omega) (by omega)
      omega
    · left; omega
  have mn : ∀ q r : Int, wv a = n * q + r → 0 ≤ r → r < n → wv a / n = q ∧ wv a % n = r := by
    intro q r e3 h1 h2
    rw [e3]
    constructor
    · rw [Int.add_comm, Int.add_mul_ediv_left _ _ (by omega), Int.ediv_eq_zero_of_lt h1 h2, Int.zero_add]
    · rw [Int.add_comm, Int.add_mul_emod_self_left, Int.emod_eq_of_lt h1 h2]
  generalize hQ : ((wv a).natAbs : Int) / n = Q at *
  generalize hR : ((wv a).natAbs : Int) % n = R at *
  have wR : ∀ r : Int, 0 ≤ r → r < n → IntKind.wrap .i64 r = r := fun r h1 h2 => by rw [wi]; omega
  have res : ∀ q r : Int, 0 ≤ q → q ≤ 170141183460469231731687303715884105728 → 0 ≤ r → r < n → (0 ≤ wv a → q ≤ 170141183460469231731687303715884105727) → wv a = n * (if wv a < 0 then - q else q) + r →
      ((q01_Join (decide (wv a < 0)) (⟨(mkM q).H, (mkM q).L⟩ : Corebankref01Mag)).bind fun r3 => some (r3.1, (IntKind.wrap .i64 r), (0 : Int))) = some (mk128 (wv a / n), wv a % n, 0) := by
    intro q r hq0 hq1 hr0 hr1 hq2 he
    obtain ⟨g1, g2⟩ := mn _ _ he hr0 hr1
    have hs : (⟨(mkM q).H, (mkM q).L⟩ : Corebankref01Mag) = mkM q := rfl
    obtain ⟨p, e1, e2⟩ := r_Join (b := decide (wv a < 0)) (m := mkM q) (mok_mk hq0 (by rw [hP128]; omega))
    rw [hs, e1, wR r hr0 hr1, g1, g2]
    rw [mv_mk] at e2
    simp only [Option.bind_some]
    have hsg : sgn (decide (wv a < 0)) q = if wv a < 0 then - q else q := by
      unfold sgn
      by_cases h1 : wv a < 0
      · rw [decide_eq_true h1, if_pos rfl, if_pos h1]
      · rw [decide_eq_false h1, if_neg h1]; rfl
    rw [hsg] at e2
    rw [e2 (by
      unfold in128
      by_cases h1 : wv a < 0
      · rw [if_pos h1]; omega
      · rw [if_neg h1]
        have := hq2 (by omega)
        omega)]
  by_cases hc : wv a < 0 ∧ R > 0
  · have r1 : q01_plus (mkM Q) (⟨0, 1⟩ : Corebankref01Mag) = some (mkM ((Q + 1) % P128), decide (Q + 1 < P128)) := by
      have h1 : mok (mkM Q) := mok_mk c1 (by rw [hP128]; omega)
      have h2 : mok (⟨0, 1⟩ : Corebankref01Mag) := by unfold mok; simp only; omega
      have := r_plus h1 h2
      rw [mv_mk] at this
      exact this
    have hm : (Q + 1) % P128 = Q + 1 := by rw [modP]; omega
    rw [decide_eq_true hc.1, decide_eq_true hc.2, cond_true, if_pos rfl, r1]
    simp only [Option.bind_some]
    have wn2 : IntKind.wrap .u64 (n - R) = n - R := by rw [wu]; omega
    rw [hm, wn2]
    have hq1 : Q + 1 ≤ 170141183460469231731687303715884105728 := by
      by_cases hq : Q = (wv a).natAbs
      · rcases c7 hq with h1 | h1 <;> omega
      · omega
    have r := res (Q + 1) (n - R) (by omega) hq1 (by omega) (by omega) (fun h => absurd h (by omega)) (by
      rw [if_pos hc.1, show n * -(Q + 1) = -(n * Q) - n by rw [Int.mul_neg, Int.mul_add]; omega]
      omega)
    rw [decide_eq_true hc.1] at r
    exact r
  · have hcf : (bif decide (wv a < 0) then decide (R > 0) else false) = false := by
      by_cases h1 : wv a < 0
      · have h2 : ¬ R > 0 := fun h => hc ⟨h1, h⟩
        rw [decide_eq_true h1, decide_eq_false h2]; rfl
      · rw [decide_eq_false h1]; rfl
    rw [hcf, if_neg (by decide)]
    refine res Q R c1 (by omega) c5 c6 (fun h => by omega) ?_
    by_cases h1 : wv a < 0
    · rw [if_pos h1, Int.mul_neg]
      have : ¬ R > 0 := fun h => hc ⟨h1, h⟩
      omega
    · rw [if_neg h1]; omega
theorem e_Div {a : ApiWide} {n : Int} (h : wok a) (hn1 : n ≤ 9223372036854775807) : wide_Div a n = q01_Div a n := by
  by_cases hn : 1 ≤ n
  · rw [s_Div h hn hn1, r_Div h hn hn1]
  · unfold wide_Div q01_Div
    rw [if_pos (decide_eq_true (by omega)), if_pos (decide_eq_true (by omega))]
end Go.Cb
