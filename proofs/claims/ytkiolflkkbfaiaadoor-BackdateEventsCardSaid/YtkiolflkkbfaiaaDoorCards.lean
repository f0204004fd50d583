/-
  DERIVED. GIVEN WITH THE SEED: THE CARDS: each row of YtkiolflkkbfaiaaDoorRows.lean that lists a variable, with what it lists TIED to the program's text (the seventh form; the later family's looks); each row that meets fmt, with fmt's text TOLD by the authors' own Lean function (tested against real Go, not proved from fmt's source: count such statements apart). THE CARD IS WHAT COUNTS. Prove the row's statement (the work); the ties are given (YtkiolflkkbfaiaaDoorTie.lean); close each card by the builder's one call (the guide's Derived/Test/ToyasCard.lean, 'card_holds'). Laid BY PROGRAM, IN A SANDBOX (cutbox-door.mjs). By AI agents, Wed Nov 11 2026. No macro, syntax, notation, axiom, sorry.
-/
import Derived.Test.YtkiolflkkbfaiaaDoorRows
import GoSem.ClaimSeven
namespace Go.Proofs.YtkiolflkkbfaiaaDoor
namespace Rows

/-- THE TIED CARD OF 'corebanklaw30.BackdateEvents'. -/
def backdateEventsCard : Claim7 := { stood := { row := backdateEventsRow, standIns := [], harness := (true, "ed12f6f7cc0695f0b95c144c9d5b525bf459e49cc305d78a86108b293de8a954"), looks := false }, kinds := [], alts := [], laidByText := true, laidKinds := [.data], laidTests := true, laidLooks := .later }
def BackdateEventsCardSaid : Prop := Claim7.holds Tryd.pinned (.plain (OpenSpec.ofChange backdateEventsSpec)) backdateEventsCard

/-- THE SECOND FORM's CARD OF 'corebanklaw30.BackdateEvents'. -/
def backdateEventsUptoCard : Claim7 := { stood := { row := backdateEventsUptoRow, standIns := [], harness := (true, "ed12f6f7cc0695f0b95c144c9d5b525bf459e49cc305d78a86108b293de8a954"), looks := false }, kinds := [], alts := [], laidByText := true, laidKinds := [.data], laidTests := true, laidLooks := .later }
def BackdateEventsUptoCardSaid : Prop := Claim7.holds Tryd.pinned (.plain (OpenSpec.upto backdateEventsSpec)) backdateEventsUptoCard
end Rows
end Go.Proofs.YtkiolflkkbfaiaaDoor
