/-
  DERIVED. GIVEN WITH THE SEED: THE CARDS: each row of YtdjhokmcpgjiiaaDoorRows.lean that lists a variable, with what it lists TIED to the program's text (the seventh form; the later family's looks); each row that meets fmt, with fmt's text TOLD by the authors' own Lean function (tested against real Go, not proved from fmt's source: count such statements apart). THE CARD IS WHAT COUNTS. Prove the row's statement (the work); the ties are given (YtdjhokmcpgjiiaaDoorTie.lean); close each card by the builder's one call (the guide's Derived/Test/ToyasCard.lean, 'card_holds'). Laid BY PROGRAM, IN A SANDBOX (cutbox-door.mjs). By AI agents, Wed Nov 11 2026. No macro, syntax, notation, axiom, sorry.
-/
import Derived.Test.YtdjhokmcpgjiiaaDoorRows
import GoSem.ClaimSeven
namespace Go.Proofs.YtdjhokmcpgjiiaaDoor
namespace Rows

/-- THE TIED CARD OF 'laws.FnBatch'. -/
def fnBatchCard : Claim7 := { stood := { row := fnBatchRow, standIns := [], harness := (true, "fa28d529ecb7a75c3d55afb69debb86c7ab2c8bdaa29b69c96a2b75f869553fe"), looks := true }, kinds := [], alts := [], laidByText := true, laidKinds := [.handle], laidTests := true, laidLooks := .later }
def FnBatchCardSaid : Prop := Claim7.holds Tryd.pinned (.plain (OpenSpec.ofChange fnBatchSpec)) fnBatchCard

/-- THE TIED CARD OF 'laws.FnBatchDamage'. -/
def fnBatchDamageCard : Claim7 := { stood := { row := fnBatchDamageRow, standIns := [], harness := (true, "fa28d529ecb7a75c3d55afb69debb86c7ab2c8bdaa29b69c96a2b75f869553fe"), looks := true }, kinds := [], alts := [], laidByText := true, laidKinds := [.handle], laidTests := true, laidLooks := .later }
def FnBatchDamageCardSaid : Prop := Claim7.holds Tryd.pinned (.plain (OpenSpec.ofChange fnBatchDamageSpec)) fnBatchDamageCard

/-- THE TIED CARD OF 'laws.FnBatchPacked'. -/
def fnBatchPackedCard : Claim7 := { stood := { row := fnBatchPackedRow, standIns := [], harness := (true, "fa28d529ecb7a75c3d55afb69debb86c7ab2c8bdaa29b69c96a2b75f869553fe"), looks := true }, kinds := [], alts := [], laidByText := true, laidKinds := [.handle], laidTests := true, laidLooks := .later }
def FnBatchPackedCardSaid : Prop := Claim7.holds Tryd.pinned (.plain (OpenSpec.ofChange fnBatchPackedSpec)) fnBatchPackedCard

/-- THE TIED CARD OF 'laws.FnTurnBytes'. -/
def fnTurnBytesCard : Claim7 := { stood := { row := fnTurnBytesRow, standIns := [], harness := (true, "fa28d529ecb7a75c3d55afb69debb86c7ab2c8bdaa29b69c96a2b75f869553fe"), looks := true }, kinds := [], alts := [], laidByText := true, laidKinds := [.handle], laidTests := true, laidLooks := .later }
def FnTurnBytesCardSaid : Prop := Claim7.holds Tryd.pinned (.plain (OpenSpec.ofChange fnTurnBytesSpec)) fnTurnBytesCard

/-- THE SECOND FORM's CARD OF 'laws.FnBatch'. -/
def fnBatchUptoCard : Claim7 := { stood := { row := fnBatchUptoRow, standIns := [], harness := (true, "fa28d529ecb7a75c3d55afb69debb86c7ab2c8bdaa29b69c96a2b75f869553fe"), looks := true }, kinds := [], alts := [], laidByText := true, laidKinds := [.handle], laidTests := true, laidLooks := .later }
def FnBatchUptoCardSaid : Prop := Claim7.holds Tryd.pinned (.plain (OpenSpec.upto fnBatchSpec)) fnBatchUptoCard

/-- THE SECOND FORM's CARD OF 'laws.FnBatchDamage'. -/
def fnBatchDamageUptoCard : Claim7 := { stood := { row := fnBatchDamageUptoRow, standIns := [], harness := (true, "fa28d529ecb7a75c3d55afb69debb86c7ab2c8bdaa29b69c96a2b75f869553fe"), looks := true }, kinds := [], alts := [], laidByText := true, laidKinds := [.handle], laidTests := true, laidLooks := .later }
def FnBatchDamageUptoCardSaid : Prop := Claim7.holds Tryd.pinned (.plain (OpenSpec.upto fnBatchDamageSpec)) fnBatchDamageUptoCard

/-- THE SECOND FORM's CARD OF 'laws.FnBatchPacked'. -/
def fnBatchPackedUptoCard : Claim7 := { stood := { row := fnBatchPackedUptoRow, standIns := [], harness := (true, "fa28d529ecb7a75c3d55afb69debb86c7ab2c8bdaa29b69c96a2b75f869553fe"), looks := true }, kinds := [], alts := [], laidByText := true, laidKinds := [.handle], laidTests := true, laidLooks := .later }
def FnBatchPackedUptoCardSaid : Prop := Claim7.holds Tryd.pinned (.plain (OpenSpec.upto fnBatchPackedSpec)) fnBatchPackedUptoCard

/-- THE SECOND FORM's CARD OF 'laws.FnTurnBytes'. -/
def fnTurnBytesUptoCard : Claim7 := { stood := { row := fnTurnBytesUptoRow, standIns := [], harness := (true, "fa28d529ecb7a75c3d55afb69debb86c7ab2c8bdaa29b69c96a2b75f869553fe"), looks := true }, kinds := [], alts := [], laidByText := true, laidKinds := [.handle], laidTests := true, laidLooks := .later }
def FnTurnBytesUptoCardSaid : Prop := Claim7.holds Tryd.pinned (.plain (OpenSpec.upto fnTurnBytesSpec)) fnTurnBytesUptoCard
end Rows
end Go.Proofs.YtdjhokmcpgjiiaaDoor
