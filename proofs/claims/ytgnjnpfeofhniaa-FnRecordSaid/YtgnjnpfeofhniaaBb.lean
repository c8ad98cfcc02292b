/- A batch as bytes: the program. -/
import Derived.Test.YtgnjnpfeofhniaaPb
import Derived.Test.YtgnjnpfeofhniaaP9
import Derived.Test.YtgnjnpfeofhniaaV9
import Derived.Test.YtgnjnpfeofhniaaAx
namespace Go.Proofs.Ytgnjnpfeofhniaa
set_option linter.unusedVariables false
set_option linter.unusedSimpArgs false
open Go.RowKit

/-- Four rows in a literal. -/
theorem rows4 {w : World} {g : Nat} {T : TypeId} {F : Nat → Prop} {xs1 xs2 xs3 xs4 : List Int} {A1 A2 A3 A4 : Option Addr} {c1 c2 c3 c4 : Nat} (h : w.heap[g]? = some (.cells #[.slice A1 xs1.length c1, .slice A2 xs2.length c2, .slice A3 xs3.length c3, .slice A4 xs4.length c4] T (0, 0)))
    (h1 : Ints w F A1 c1 xs1) (h2 : Ints w F A2 c2 xs2) (h3 : Ints w F A3 c3 xs3) (h4 : Ints w F A4 c4 xs4) : (Kind.slice (Kind.int .i64)).Row w (fun _ => True) (some ⟨g, 0, none⟩) 4 [xs1, xs2, xs3, xs4] := by
  have hc : ∀ j u, ([Value.slice A1 xs1.length c1, .slice A2 xs2.length c2, .slice A3 xs3.length c3, .slice A4 xs4.length c4])[j]? = some u → w.cell? ⟨g, j, none⟩ = some u := cells_at (by simpa using h)
  have e : ∀ j, (⟨g, 0, none⟩ : Addr).add j = ⟨g, j, none⟩ := fun j => by unfold Addr.add; split <;> simp_all
  refine ⟨by simp, by omega, fun _ => ⟨_, rfl, trivial, fun j x hj => ?_⟩⟩
  have hF : ∀ b, F b → True := fun _ _ => trivial
  match j, hj with
  | 0, hj => simp at hj; subst hj; exact ⟨_, ⟨A1, c1, rfl, h1.mono hF⟩, fun i u hu => by
      match i, hu with
      | 0, hu => rw [e]; exact hc 0 u hu⟩
  | 1, hj => simp at hj; subst hj; exact ⟨_, ⟨A2, c2, rfl, h2.mono hF⟩, fun i u hu => by
      match i, hu with
      | 0, hu => rw [e]; exact hc 1 u hu⟩
  | 2, hj => simp at hj; subst hj; exact ⟨_, ⟨A3, c3, rfl, h3.mono hF⟩, fun i u hu => by
      match i, hu with
      | 0, hu => rw [e]; exact hc 2 u hu⟩
  | 3, hj => simp at hj; subst hj; exact ⟨_, ⟨A4, c4, rfl, h4.mono hF⟩, fun i u hu => by
      match i, hu with
      | 0, hu => rw [e]; exact hc 3 u hu⟩
end Go.Proofs.Ytgnjnpfeofhniaa
