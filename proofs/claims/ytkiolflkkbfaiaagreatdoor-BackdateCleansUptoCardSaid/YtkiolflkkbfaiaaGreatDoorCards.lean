/-
  DERIVED. GIVEN WITH THE SEED: THE CARDS: each row of YtkiolflkkbfaiaaGreatDoorRows.lean that lists a variable, with what it lists TIED to the program's text (the seventh form; the later family's looks); each row that meets fmt, with fmt's text TOLD by the authors' own Lean function (tested against real Go, not proved from fmt's source: count such statements apart). THE CARD IS WHAT COUNTS. Prove the row's statement (the work); the ties are given (YtkiolflkkbfaiaaGreatDoorTie.lean); close each card by the builder's one call (the guide's Derived/Test/ToyasCard.lean, 'card_holds'). Laid BY PROGRAM, IN A SANDBOX (cutbox-door.mjs). By AI agents, Wed Nov 11 2026. No macro, syntax, notation, axiom, sorry.
-/
import Derived.Test.YtkiolflkkbfaiaaGreatDoorRows
import GoSem.ClaimSeven
namespace Go.Proofs.YtkiolflkkbfaiaaGreatDoor
namespace Rows

/-- THE TIED CARD OF 'corebanklaw30.BackdateCleans'. -/
def backdateCleansCard : Claim7 := { stood := { row := backdateCleansRow, standIns := [], harness := (true, "e490a748f6123ea361562d4ac66dcec260204af2ca45dd1452c2199aecc40a56"), looks := false }, kinds := [], alts := [], laidByText := true, laidKinds := [.data], laidTests := true, laidLooks := .later }
def BackdateCleansCardSaid : Prop := Claim7.holds Tryz.pinned (.plain (OpenSpec.ofChange backdateCleansSpec)) backdateCleansCard

/-- THE SECOND FORM's CARD OF 'corebanklaw30.BackdateCleans'. -/
def backdateCleansUptoCard : Claim7 := { stood := { row := backdateCleansUptoRow, standIns := [], harness := (true, "e490a748f6123ea361562d4ac66dcec260204af2ca45dd1452c2199aecc40a56"), looks := false }, kinds := [], alts := [], laidByText := true, laidKinds := [.data], laidTests := true, laidLooks := .later }
def BackdateCleansUptoCardSaid : Prop := Claim7.holds Tryz.pinned (.plain (OpenSpec.upto backdateCleansSpec)) backdateCleansUptoCard
end Rows
end Go.Proofs.YtkiolflkkbfaiaaGreatDoor
