/- The plain types, and how a value of each lies in memory. Conditions: none. -/
import Derived.Test.YtkiolflkkbfaiaaDoorEngA4
set_option linter.unusedVariables false
set_option linter.unusedSimpArgs false
namespace Go.Cb
open Go.Eng Go.RowKit
structure ApiLeg where
  Account : Int
  Amount : Int
  Currency : ByteArray
  deriving Inhabited
structure ApiEntry where
  Id : Int
  Booked : Int
  Value : Int
  Kind : Int
  Auth : Int
  Period : Int
  Key : ByteArray
  Text : ByteArray
  Legs : (List ApiLeg)
  Chain : Int
  deriving Inhabited
structure ApiWide where
  Hi : Int
  Lo : Int
  deriving Inhabited
structure ApiPeriod where
  Account : Int
  From : Int
  To : Int
  Credit : Int
  Debit : Int
  Tax : Int
  Count : Int
  CreditRest : ApiWide
  DebitRest : ApiWide
  deriving Inhabited
structure Arr2Int where
  x0 : Int
  x1 : Int
  deriving Inhabited
structure ApiCurrency where
  Code : ByteArray
  Digits : Int
  deriving Inhabited
structure ApiCalendar where
  Name : ByteArray
  Weekend : (List Int)
  Holidays : (List Int)
  deriving Inhabited
structure ApiGl where
  Id : Int
  Parent : Int
  Kind : Int
  Name : ByteArray
  deriving Inhabited
structure ApiPlan where
  Cash : Int
  Deposits : Int
  InterestPaid : Int
  InterestEarned : Int
  FeeEarned : Int
  Tax : Int
  Clearing : Int
  Loans : Int
  LoanInterest : Int
  Penalty : Int
  Provision : Int
  ProvisionCost : Int
  Loss : Int
  Recovery : Int
  deriving Inhabited
structure ApiTier where
  From : Int
  Ppm : Int
  deriving Inhabited
structure ApiInterest where
  Tiers : (List ApiTier)
  Marginal : Bool
  Basis : Int
  Mode : Int
  Keep : Bool
  deriving Inhabited
structure ApiExpr where
  Op : Int
  N : Int
  S : ByteArray
  Args : (List ApiExpr)
instance : Inhabited ApiExpr := ⟨⟨default, default, default, []⟩⟩
structure ApiFee where
  Name : ByteArray
  Event : Int
  When : ApiExpr
  Amount : ApiExpr
  deriving Inhabited
structure ApiRule where
  Name : ByteArray
  Window : Int
  Amount : ApiExpr
  deriving Inhabited
structure ApiProduct where
  Name : ByteArray
  Currency : ByteArray
  Calendar : ByteArray
  From : Int
  Every : Int
  Overdraft : Int
  TaxPpm : Int
  Credit : ApiInterest
  Debit : ApiInterest
  Fees : (List ApiFee)
  Rules : (List ApiRule)
  deriving Inhabited
structure ApiAccount where
  Id : Int
  Opened : Int
  Closed : Int
  Extra : Int
  Owner : ByteArray
  Product : ByteArray
  Number : ByteArray
  deriving Inhabited
structure ApiHold where
  Id : Int
  Account : Int
  Amount : Int
  From : Int
  To : Int
  Key : ByteArray
  deriving Inhabited
structure ApiBlock where
  Id : Int
  Account : Int
  Kind : Int
  Amount : Int
  From : Int
  To : Int
  Source : ByteArray
  deriving Inhabited
structure ApiBooks where
  Currencies : (List ApiCurrency)
  Calendars : (List ApiCalendar)
  Chart : (List ApiGl)
  Plan : ApiPlan
  Products : (List ApiProduct)
  Accounts : (List ApiAccount)
  Journal : (List ApiEntry)
  Holds : (List ApiHold)
  Blocks : (List ApiBlock)
  deriving Inhabited
def ApiLeg.enc (x : ApiLeg) : List D := [.int .i64 x.Account, .int .i64 x.Amount, .str x.Currency]
def ApiEntry.enc (x : ApiEntry) : List D := [.int .i64 x.Id, .int .i64 x.Booked, .int .i64 x.Value, .int .i64 x.Kind, .int .i64 x.Auth, .int .i64 x.Period, .str x.Key, .str x.Text, .slice (List.map ApiLeg.enc x.Legs), .int .u64 x.Chain]
def ApiWide.enc (x : ApiWide) : List D := [.int .i64 x.Hi, .int .u64 x.Lo]
def ApiPeriod.enc (x : ApiPeriod) : List D := [.int .i64 x.Account, .int .i64 x.From, .int .i64 x.To, .int .i64 x.Credit, .int .i64 x.Debit, .int .i64 x.Tax, .int .i64 x.Count, .int .i64 x.CreditRest.Hi, .int .u64 x.CreditRest.Lo, .int .i64 x.DebitRest.Hi, .int .u64 x.DebitRest.Lo]
def Arr2Int.enc (x : Arr2Int) : List D := [.int .i64 x.x0, .int .i64 x.x1]
def ApiCurrency.enc (x : ApiCurrency) : List D := [.str x.Code, .int .i64 x.Digits]
def ApiCalendar.enc (x : ApiCalendar) : List D := [.str x.Name, .slice (List.map (eInt .i64) x.Weekend), .slice (List.map (eInt .i64) x.Holidays)]
def ApiGl.enc (x : ApiGl) : List D := [.int .i64 x.Id, .int .i64 x.Parent, .int .i64 x.Kind, .str x.Name]
def ApiPlan.enc (x : ApiPlan) : List D := [.int .i64 x.Cash, .int .i64 x.Deposits, .int .i64 x.InterestPaid, .int .i64 x.InterestEarned, .int .i64 x.FeeEarned, .int .i64 x.Tax, .int .i64 x.Clearing, .int .i64 x.Loans, .int .i64 x.LoanInterest, .int .i64 x.Penalty, .int .i64 x.Provision, .int .i64 x.ProvisionCost, .int .i64 x.Loss, .int .i64 x.Recovery]
def ApiTier.enc (x : ApiTier) : List D := [.int .i64 x.From, .int .i64 x.Ppm]
def ApiInterest.enc (x : ApiInterest) : List D := [.slice (List.map ApiTier.enc x.Tiers), .bool x.Marginal, .int .i64 x.Basis, .int .i64 x.Mode, .bool x.Keep]
theorem ApiExpr.lt {x y : ApiExpr} (h : y ∈ x.Args) : SizeOf.sizeOf y < SizeOf.sizeOf x := by
  cases x
  have := List.sizeOf_lt_of_mem h
  simp at *
  omega
def ApiExpr.enc (x : ApiExpr) : List D := [.int .i64 x.Op, .int .i64 x.N, .str x.S, .slice (x.Args.attach.map fun y => y.1.enc)]
  termination_by SizeOf.sizeOf x
  decreasing_by exact ApiExpr.lt y.2
def ApiExpr.enc1 (x : ApiExpr) : List D := [.int .i64 x.Op, .int .i64 x.N, .str x.S, .slice (List.map ApiExpr.enc x.Args)]
theorem ApiExpr.enc_eq : ApiExpr.enc = ApiExpr.enc1 := by
  funext x
  unfold ApiExpr.enc ApiExpr.enc1
  simp
def ApiFee.enc (x : ApiFee) : List D := [.str x.Name, .int .i64 x.Event, .int .i64 x.When.Op, .int .i64 x.When.N, .str x.When.S, .slice (List.map ApiExpr.enc x.When.Args), .int .i64 x.Amount.Op, .int .i64 x.Amount.N, .str x.Amount.S, .slice (List.map ApiExpr.enc x.Amount.Args)]
def ApiRule.enc (x : ApiRule) : List D := [.str x.Name, .int .i64 x.Window, .int .i64 x.Amount.Op, .int .i64 x.Amount.N, .str x.Amount.S, .slice (List.map ApiExpr.enc x.Amount.Args)]
def ApiProduct.enc (x : ApiProduct) : List D := [.str x.Name, .str x.Currency, .str x.Calendar, .int .i64 x.From, .int .i64 x.Every, .int .i64 x.Overdraft, .int .i64 x.TaxPpm, .slice (List.map ApiTier.enc x.Credit.Tiers), .bool x.Credit.Marginal, .int .i64 x.Credit.Basis, .int .i64 x.Credit.Mode, .bool x.Credit.Keep, .slice (List.map ApiTier.enc x.Debit.Tiers), .bool x.Debit.Marginal, .int .i64 x.Debit.Basis, .int .i64 x.Debit.Mode, .bool x.Debit.Keep, .slice (List.map ApiFee.enc x.Fees), .slice (List.map ApiRule.enc x.Rules)]
def ApiAccount.enc (x : ApiAccount) : List D := [.int .i64 x.Id, .int .i64 x.Opened, .int .i64 x.Closed, .int .i64 x.Extra, .str x.Owner, .str x.Product, .str x.Number]
def ApiHold.enc (x : ApiHold) : List D := [.int .i64 x.Id, .int .i64 x.Account, .int .i64 x.Amount, .int .i64 x.From, .int .i64 x.To, .str x.Key]
def ApiBlock.enc (x : ApiBlock) : List D := [.int .i64 x.Id, .int .i64 x.Account, .int .i64 x.Kind, .int .i64 x.Amount, .int .i64 x.From, .int .i64 x.To, .str x.Source]
def ApiBooks.enc (x : ApiBooks) : List D := [.slice (List.map ApiCurrency.enc x.Currencies), .slice (List.map ApiCalendar.enc x.Calendars), .slice (List.map ApiGl.enc x.Chart), .int .i64 x.Plan.Cash, .int .i64 x.Plan.Deposits, .int .i64 x.Plan.InterestPaid, .int .i64 x.Plan.InterestEarned, .int .i64 x.Plan.FeeEarned, .int .i64 x.Plan.Tax, .int .i64 x.Plan.Clearing, .int .i64 x.Plan.Loans, .int .i64 x.Plan.LoanInterest, .int .i64 x.Plan.Penalty, .int .i64 x.Plan.Provision, .int .i64 x.Plan.ProvisionCost, .int .i64 x.Plan.Loss, .int .i64 x.Plan.Recovery, .slice (List.map ApiProduct.enc x.Products), .slice (List.map ApiAccount.enc x.Accounts), .slice (List.map ApiEntry.enc x.Journal), .slice (List.map ApiHold.enc x.Holds), .slice (List.map ApiBlock.enc x.Blocks)]
def ApiLeg.good (n : Nat) (x : ApiLeg) : Prop := (gInt .i64) n x.Account ∧ (gInt .i64) n x.Amount ∧ gStr n x.Currency
def ApiEntry.good (n : Nat) (x : ApiEntry) : Prop := (gInt .i64) n x.Id ∧ (gInt .i64) n x.Booked ∧ (gInt .i64) n x.Value ∧ (gInt .i64) n x.Kind ∧ (gInt .i64) n x.Auth ∧ (gInt .i64) n x.Period ∧ gStr n x.Key ∧ gStr n x.Text ∧ (gList ApiLeg.good) n x.Legs ∧ (gInt .u64) n x.Chain
def ApiWide.good (n : Nat) (x : ApiWide) : Prop := (gInt .i64) n x.Hi ∧ (gInt .u64) n x.Lo
def ApiPeriod.good (n : Nat) (x : ApiPeriod) : Prop := (gInt .i64) n x.Account ∧ (gInt .i64) n x.From ∧ (gInt .i64) n x.To ∧ (gInt .i64) n x.Credit ∧ (gInt .i64) n x.Debit ∧ (gInt .i64) n x.Tax ∧ (gInt .i64) n x.Count ∧ ApiWide.good n x.CreditRest ∧ ApiWide.good n x.DebitRest
def Arr2Int.good (n : Nat) (x : Arr2Int) : Prop := (gInt .i64) n x.x0 ∧ (gInt .i64) n x.x1
def ApiCurrency.good (n : Nat) (x : ApiCurrency) : Prop := gStr n x.Code ∧ (gInt .i64) n x.Digits
def ApiCalendar.good (n : Nat) (x : ApiCalendar) : Prop := gStr n x.Name ∧ (gList (gInt .i64)) n x.Weekend ∧ (gList (gInt .i64)) n x.Holidays
def ApiGl.good (n : Nat) (x : ApiGl) : Prop := (gInt .i64) n x.Id ∧ (gInt .i64) n x.Parent ∧ (gInt .i64) n x.Kind ∧ gStr n x.Name
def ApiPlan.good (n : Nat) (x : ApiPlan) : Prop := (gInt .i64) n x.Cash ∧ (gInt .i64) n x.Deposits ∧ (gInt .i64) n x.InterestPaid ∧ (gInt .i64) n x.InterestEarned ∧ (gInt .i64) n x.FeeEarned ∧ (gInt .i64) n x.Tax ∧ (gInt .i64) n x.Clearing ∧ (gInt .i64) n x.Loans ∧ (gInt .i64) n x.LoanInterest ∧ (gInt .i64) n x.Penalty ∧ (gInt .i64) n x.Provision ∧ (gInt .i64) n x.ProvisionCost ∧ (gInt .i64) n x.Loss ∧ (gInt .i64) n x.Recovery
def ApiTier.good (n : Nat) (x : ApiTier) : Prop := (gInt .i64) n x.From ∧ (gInt .i64) n x.Ppm
def ApiInterest.good (n : Nat) (x : ApiInterest) : Prop := (gList ApiTier.good) n x.Tiers ∧ gBool n x.Marginal ∧ (gInt .i64) n x.Basis ∧ (gInt .i64) n x.Mode ∧ gBool n x.Keep
inductive ApiExpr.good (n : Nat) : ApiExpr → Prop where
  | mk {x : ApiExpr} : (gInt .i64) n x.Op → (gInt .i64) n x.N → gStr n x.S → (x.Args.length ≤ n) → (∀ y ∈ x.Args, ApiExpr.good n y) → ApiExpr.good n x
def ApiFee.good (n : Nat) (x : ApiFee) : Prop := gStr n x.Name ∧ (gInt .i64) n x.Event ∧ ApiExpr.good n x.When ∧ ApiExpr.good n x.Amount
def ApiRule.good (n : Nat) (x : ApiRule) : Prop := gStr n x.Name ∧ (gInt .i64) n x.Window ∧ ApiExpr.good n x.Amount
def ApiProduct.good (n : Nat) (x : ApiProduct) : Prop := gStr n x.Name ∧ gStr n x.Currency ∧ gStr n x.Calendar ∧ (gInt .i64) n x.From ∧ (gInt .i64) n x.Every ∧ (gInt .i64) n x.Overdraft ∧ (gInt .i64) n x.TaxPpm ∧ ApiInterest.good n x.Credit ∧ ApiInterest.good n x.Debit ∧ (gList ApiFee.good) n x.Fees ∧ (gList ApiRule.good) n x.Rules
def ApiAccount.good (n : Nat) (x : ApiAccount) : Prop := (gInt .i64) n x.Id ∧ (gInt .i64) n x.Opened ∧ (gInt .i64) n x.Closed ∧ (gInt .i64) n x.Extra ∧ gStr n x.Owner ∧ gStr n x.Product ∧ gStr n x.Number
def ApiHold.good (n : Nat) (x : ApiHold) : Prop := (gInt .i64) n x.Id ∧ (gInt .i64) n x.Account ∧ (gInt .i64) n x.Amount ∧ (gInt .i64) n x.From ∧ (gInt .i64) n x.To ∧ gStr n x.Key
def ApiBlock.good (n : Nat) (x : ApiBlock) : Prop := (gInt .i64) n x.Id ∧ (gInt .i64) n x.Account ∧ (gInt .i64) n x.Kind ∧ (gInt .i64) n x.Amount ∧ (gInt .i64) n x.From ∧ (gInt .i64) n x.To ∧ gStr n x.Source
def ApiBooks.good (n : Nat) (x : ApiBooks) : Prop := (gList ApiCurrency.good) n x.Currencies ∧ (gList ApiCalendar.good) n x.Calendars ∧ (gList ApiGl.good) n x.Chart ∧ ApiPlan.good n x.Plan ∧ (gList ApiProduct.good) n x.Products ∧ (gList ApiAccount.good) n x.Accounts ∧ (gList ApiEntry.good) n x.Journal ∧ (gList ApiHold.good) n x.Holds ∧ (gList ApiBlock.good) n x.Blocks
end Go.Cb
