/-
  DERIVED. GIVEN WITH THE SEED: THE CARDS: each row of YtgnjnpfeofhniaaDoorRows.lean that lists a variable, with what it lists TIED to the program's text (the seventh form; the later family's looks); each row that meets fmt, with fmt's text TOLD by the authors' own Lean function (tested against real Go, not proved from fmt's source: count such statements apart). THE CARD IS WHAT COUNTS. Prove the row's statement (the work); the ties are given (YtgnjnpfeofhniaaDoorTie.lean); close each card by the builder's one call (the guide's Derived/Test/ToyasCard.lean, 'card_holds'). Laid BY PROGRAM, IN A SANDBOX (cutbox-door.mjs). By AI agents, Wed Nov 11 2026. No macro, syntax, notation, axiom, sorry.
-/
import Derived.Test.YtgnjnpfeofhniaaDoorRows
import GoSem.ClaimSeven
namespace Go.Proofs.YtgnjnpfeofhniaaDoor
namespace Rows

/-- THE TIED CARD OF 'laws.FnTurnBytes'. -/
def fnTurnBytesCard : Claim7 := { stood := { row := fnTurnBytesRow, standIns := [], harness := (true, "28070433440d52209b2ac164055fc8a224bcc24973f5623430ff41e349b08987"), looks := true }, kinds := [], alts := [], laidByText := true, laidKinds := [.handle], laidTests := true, laidLooks := .later }
def FnTurnBytesCardSaid : Prop := Claim7.holds Tryd.pinned (.plain (OpenSpec.ofChange fnTurnBytesSpec)) fnTurnBytesCard

/-- THE SECOND FORM's CARD OF 'laws.FnTurnBytes'. -/
def fnTurnBytesUptoCard : Claim7 := { stood := { row := fnTurnBytesUptoRow, standIns := [], harness := (true, "28070433440d52209b2ac164055fc8a224bcc24973f5623430ff41e349b08987"), looks := true }, kinds := [], alts := [], laidByText := true, laidKinds := [.handle], laidTests := true, laidLooks := .later }
def FnTurnBytesUptoCardSaid : Prop := Claim7.holds Tryd.pinned (.plain (OpenSpec.upto fnTurnBytesSpec)) fnTurnBytesUptoCard
end Rows
end Go.Proofs.YtgnjnpfeofhniaaDoor
