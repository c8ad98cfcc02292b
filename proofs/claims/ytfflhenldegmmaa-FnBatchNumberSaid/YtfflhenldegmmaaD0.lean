/- The reader is opened. -/
import Derived.Test.YtfflhenldegmmaaD1
import Derived.Test.YtfflhenldegmmaaA2
namespace Go.Proofs.Ytfflhenldegmmaa
set_option linter.unusedVariables false
set_option linter.unusedSimpArgs false
open Go.RowKit

theorem bnd_byte : Kind.byte.Bnd := ⟨Nat.one_pos, fun _ _ _ _ h => h⟩
theorem l6Open_any (bs : List Int) (A : Option Addr) (c : Nat) (F : Nat → Prop) (w : World) (h : Kind.byte.Row w F A c bs) :
    Calls Try.prog 34 #[.slice A bs.length c] w fun e w' => ∃ g, e = .returned (.pointer (some ⟨g, 0, none⟩)) ∧ w.heap.size ≤ g ∧ Rd w' g 0 ∧ Below w.heap.size w w' := by
  have hl := h.1
  have hc := h.2.1
  have hb := (h.bound bnd_byte).mono (F' := fun b => b < w.heap.size) (fun b hb => hb.2)
  by_cases hs : bs.length ≤ 2000
  · go_enter Try.func34, Try.ntmps34
    go_wp2
    go_ret
    refine ⟨w.heap.size, rfl, Nat.le_refl _, ?_, bal _ _⟩
    exact ⟨A, c, bs, heap_alloc_new w _, hb.below (bal _ _), hs⟩
  · go_enter Try.func34, Try.ntmps34
    go_wp2
    go_ret
    have h2 := hb.take 2000
    have hlen : (bs.take 2000).length = 2000 := by simp; omega
    refine ⟨w.heap.size, rfl, Nat.le_refl _, ?_, bal _ _⟩
    refine ⟨A, c, bs.take 2000, ?_, h2.below (bal _ _), by omega⟩
    rw [hlen]
    exact heap_alloc_new w _
end Go.Proofs.Ytfflhenldegmmaa
