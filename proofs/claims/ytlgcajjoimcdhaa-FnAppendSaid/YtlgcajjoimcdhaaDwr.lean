/- The draw of ReadEnd. -/
import Derived.Test.YtlgcajjoimcdhaaDw0
namespace Go.Proofs.Ytlgcajjoimcdhaa
set_option linter.unusedVariables false
set_option linter.unusedSimpArgs false
open Go.RowKit

theorem DrawReadEnd_any (bs0 : List Int) (A : Option Addr) (c : Nat) (F : Nat → Prop) (w : World) (h : Kind.byte.Row w F A c bs0) :
    Calls Try.prog 15 #[.slice A bs0.length c] w fun e w' => ∃ (bs : List Bat) (A' : Option Addr) (c' : Nat), e = .returned (.slice A' bs.length c') ∧ Drawn w w' bs A' c' := by
  go_enter Try.func15, Try.ntmps15
  go_wp2_with fail
  refine (drawLog bs0 A c F _ h).mono ?_
  rintro e w1 ⟨g, rfl, hg, hR, hb1⟩
  go_wp2_with fail
  refine (l92Log_drawn g w w1 hg hR hb1).mono ?_
  rintro e w2 ⟨bs, A', c', rfl, hD, _, _⟩
  have HD := Lib.hid hD
  clear hD
  go_wp2
  go_ret
  exact ⟨bs, A', c', rfl, HD.out⟩

end Go.Proofs.Ytlgcajjoimcdhaa
