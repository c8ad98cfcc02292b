/-
  DERIVED. GIVEN WITH THE SEED: THE CARDS: each row of YtdjhokmcpgjiiaaGreatDoorRows.lean that lists a variable, with what it lists TIED to the program's text (the seventh form; the later family's looks); each row that meets fmt, with fmt's text TOLD by the authors' own Lean function (tested against real Go, not proved from fmt's source: count such statements apart). THE CARD IS WHAT COUNTS. Prove the row's statement (the work); the ties are given (YtdjhokmcpgjiiaaGreatDoorTie.lean); close each card by the builder's one call (the guide's Derived/Test/ToyasCard.lean, 'card_holds'). Laid BY PROGRAM, IN A SANDBOX (cutbox-door.mjs). By AI agents, Wed Nov 11 2026. No macro, syntax, notation, axiom, sorry.
-/
import Derived.Test.YtdjhokmcpgjiiaaGreatDoorRows
import GoSem.ClaimSeven
namespace Go.Proofs.YtdjhokmcpgjiiaaGreatDoor
namespace Rows

/-- THE TIED CARD OF 'laws.FnBatchFrom'. -/
def fnBatchFromCard : Claim7 := { stood := { row := fnBatchFromRow, standIns := [], harness := (true, "8a22246c262b986f990a5eb2f99c63d47cc5059d7853785745c19ec75ff20be9"), looks := true }, kinds := [], alts := [], laidByText := true, laidKinds := [.handle], laidTests := true, laidLooks := .later }
def FnBatchFromCardSaid : Prop := Claim7.holds Tryz.pinned (.plain (OpenSpec.ofChange fnBatchFromSpec)) fnBatchFromCard

/-- THE TIED CARD OF 'laws.FnExactBatchFrom'. -/
def fnExactBatchFromCard : Claim7 := { stood := { row := fnExactBatchFromRow, standIns := [], harness := (true, "8a22246c262b986f990a5eb2f99c63d47cc5059d7853785745c19ec75ff20be9"), looks := true }, kinds := [], alts := [], laidByText := true, laidKinds := [.handle], laidTests := true, laidLooks := .later }
def FnExactBatchFromCardSaid : Prop := Claim7.holds Tryz.pinned (.plain (OpenSpec.ofChange fnExactBatchFromSpec)) fnExactBatchFromCard

/-- THE TIED CARD OF 'laws.FnBatchTorn'. -/
def fnBatchTornCard : Claim7 := { stood := { row := fnBatchTornRow, standIns := [], harness := (true, "8a22246c262b986f990a5eb2f99c63d47cc5059d7853785745c19ec75ff20be9"), looks := true }, kinds := [], alts := [], laidByText := true, laidKinds := [.handle], laidTests := true, laidLooks := .later }
def FnBatchTornCardSaid : Prop := Claim7.holds Tryz.pinned (.plain (OpenSpec.ofChange fnBatchTornSpec)) fnBatchTornCard

/-- THE SECOND FORM's CARD OF 'laws.FnBatchFrom'. -/
def fnBatchFromUptoCard : Claim7 := { stood := { row := fnBatchFromUptoRow, standIns := [], harness := (true, "8a22246c262b986f990a5eb2f99c63d47cc5059d7853785745c19ec75ff20be9"), looks := true }, kinds := [], alts := [], laidByText := true, laidKinds := [.handle], laidTests := true, laidLooks := .later }
def FnBatchFromUptoCardSaid : Prop := Claim7.holds Tryz.pinned (.plain (OpenSpec.upto fnBatchFromSpec)) fnBatchFromUptoCard

/-- THE SECOND FORM's CARD OF 'laws.FnExactBatchFrom'. -/
def fnExactBatchFromUptoCard : Claim7 := { stood := { row := fnExactBatchFromUptoRow, standIns := [], harness := (true, "8a22246c262b986f990a5eb2f99c63d47cc5059d7853785745c19ec75ff20be9"), looks := true }, kinds := [], alts := [], laidByText := true, laidKinds := [.handle], laidTests := true, laidLooks := .later }
def FnExactBatchFromUptoCardSaid : Prop := Claim7.holds Tryz.pinned (.plain (OpenSpec.upto fnExactBatchFromSpec)) fnExactBatchFromUptoCard

/-- THE SECOND FORM's CARD OF 'laws.FnBatchTorn'. -/
def fnBatchTornUptoCard : Claim7 := { stood := { row := fnBatchTornUptoRow, standIns := [], harness := (true, "8a22246c262b986f990a5eb2f99c63d47cc5059d7853785745c19ec75ff20be9"), looks := true }, kinds := [], alts := [], laidByText := true, laidKinds := [.handle], laidTests := true, laidLooks := .later }
def FnBatchTornUptoCardSaid : Prop := Claim7.holds Tryz.pinned (.plain (OpenSpec.upto fnBatchTornSpec)) fnBatchTornUptoCard
end Rows
end Go.Proofs.YtdjhokmcpgjiiaaGreatDoor
