/- A record as bytes: the reference. -/
import Derived.Test.YtgnjnpfeofhniaaDoorV2
import Derived.Test.YtgnjnpfeofhniaaDoorGa
namespace Go.Proofs.YtgnjnpfeofhniaaDoor
set_option linter.unusedVariables false
set_option linter.unusedSimpArgs false
open Go.RowKit

theorem l3Put_row {α : Type} {d : Kind α} {e : TypeId} {w : World} {P : Nat → Prop} {A : Option Addr} {n c : Nat} {xs : List α} (h : AppP d e w P (.slice A n c) xs) : d.Row w P A c xs := by
  obtain ⟨A', c', e, h'⟩ := h.row
  injection e with e1 e2 e3
  subst e1 e3
  exact h'
end Go.Proofs.YtgnjnpfeofhniaaDoor
