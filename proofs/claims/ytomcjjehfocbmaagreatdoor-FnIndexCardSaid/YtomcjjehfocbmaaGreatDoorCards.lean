/-
  DERIVED. GIVEN WITH THE SEED: THE CARDS: each row of YtomcjjehfocbmaaGreatDoorRows.lean that lists a variable, with what it lists TIED to the program's text (the seventh form; the later family's looks); each row that meets fmt, with fmt's text TOLD by the authors' own Lean function (tested against real Go, not proved from fmt's source: count such statements apart). THE CARD IS WHAT COUNTS. Prove the row's statement (the work); the ties are given (YtomcjjehfocbmaaGreatDoorTie.lean); close each card by the builder's one call (the guide's Derived/Test/ToyasCard.lean, 'card_holds'). Laid BY PROGRAM, IN A SANDBOX (cutbox-door.mjs). By AI agents, Wed Nov 11 2026. No macro, syntax, notation, axiom, sorry.
-/
import Derived.Test.YtomcjjehfocbmaaGreatDoorRows
import GoSem.ClaimSeven
namespace Go.Proofs.YtomcjjehfocbmaaGreatDoor
namespace Rows

/-- THE TIED CARD OF 'laws.FnIndex'. -/
def fnIndexCard : Claim7 := { stood := { row := fnIndexRow, standIns := [], harness := (true, "4937fc9654a6b323302a94c75d2a01fc7e24cd61b2725ed690819da7997dd7b6"), looks := true }, kinds := [], alts := [], laidByText := true, laidKinds := [.handle], laidTests := true, laidLooks := .later }
def FnIndexCardSaid : Prop := Claim7.holds Tryz.pinned (.plain (OpenSpec.ofChange fnIndexSpec)) fnIndexCard

/-- THE SECOND FORM's CARD OF 'laws.FnIndex'. -/
def fnIndexUptoCard : Claim7 := { stood := { row := fnIndexUptoRow, standIns := [], harness := (true, "4937fc9654a6b323302a94c75d2a01fc7e24cd61b2725ed690819da7997dd7b6"), looks := true }, kinds := [], alts := [], laidByText := true, laidKinds := [.handle], laidTests := true, laidLooks := .later }
def FnIndexUptoCardSaid : Prop := Claim7.holds Tryz.pinned (.plain (OpenSpec.upto fnIndexSpec)) fnIndexUptoCard
end Rows
end Go.Proofs.YtomcjjehfocbmaaGreatDoor
