/- Draws of a segment and numbers. -/
import Derived.Test.YtomcjjehfocbmaaGreatDoorDw
namespace Go.Proofs.YtomcjjehfocbmaaGreatDoor
set_option linter.unusedVariables false
set_option linter.unusedSimpArgs false
open Go.RowKit

set_option maxHeartbeats 2000000 in
theorem DrawIndexOf_any (bs0 : List Int) (A : Option Addr) (c : Nat) (F : Nat → Prop) (w : World) (h : Kind.byte.Row w F A c bs0) :
    Calls Tryz.prog 4 #[.slice A bs0.length c] w fun e w' => ∃ (bs : List Bat) (A' : Option Addr) (c' : Nat) (ev : Int), e = .returned (.tuple #[.slice A' bs.length c', .int .i64 ev]) ∧ Drawn w w' bs A' c' := by
  go_enter Tryz.func4, Tryz.ntmps4
  go_wp2_with fail
  refine (drawLog bs0 A c F _ h).mono ?_
  rintro e w1 ⟨g, rfl, hg, hR, hb1⟩
  go_wp2_with fail
  refine (l92Log_drawn g w w1 hg hR hb1).mono ?_
  rintro e w2 ⟨bs, A', c', rfl, hD, hR2, hE⟩
  clear hR hb1
  have bD : Below w2.heap.size w2 w2.drew := ⟨rfl, rfl, rfl, Nat.le_refl _, fun _ _ => rfl⟩
  have hgl := hR2.lt
  have bL := bal w2 (.cells #[.int .i64 1, .int .i64 40, .int .i64 60, .int .i64 100, .int .i64 0, .int .i64 10000] 3)
  have bLD : Below w2.heap.size w2 (w2.alloc (.cells #[.int .i64 1, .int .i64 40, .int .i64 60, .int .i64 100, .int .i64 0, .int .i64 10000] 3)).drew := ⟨bL.os, bL.tape, bL.output, bL.size, bL.block⟩
  have hLD : (w2.alloc (.cells #[.int .i64 1, .int .i64 40, .int .i64 60, .int .i64 100, .int .i64 0, .int .i64 10000] 3)).drew.heap[w2.heap.size]? = some (.cells #[.int .i64 1, .int .i64 40, .int .i64 60, .int .i64 100, .int .i64 0, .int .i64 10000] 3) := heap_alloc_new w2 _
  have hne : ¬ (w2.heap.size = g) := by omega
  go_wp2_with fail
  go_region_with (go_at_call 13; first
    | (refine (pickN g _ 6 _ (hR2.below bLD) (by omega) (by omega) (by omega)).mono ?_
       rintro e w3 ⟨v3, rfl, a3, b3, r3, c3⟩
       obtain ⟨D3, E3⟩ := drawn_pick hg (hD.after bLD) (hE.below bLD) c3
       obtain ⟨x, hx⟩ := lit_at [1, 40, 60, 100, 0, 10000] (c3.blk hLD hne) a3 b3
       have HDF := Lib.hid D3
       clear D3 E3 c3 r3)
    | (refine (pickN g _ 6 _ (hR2.below bD) (by omega) (by omega) (by omega)).mono ?_
       rintro e w3 ⟨v3, rfl, a3, b3, r3, c3⟩
       obtain ⟨D3, E3⟩ := drawn_pick hg (hD.after bD) (hE.below bD) c3
       obtain ⟨x, hx⟩ := lit_at [1, 40, 60, 100, 0, 10000] (heap_alloc_new w3 (.cells #[.int .i64 1, .int .i64 40, .int .i64 60, .int .i64 100, .int .i64 0, .int .i64 10000] 3)) a3 b3
       have HDF := Lib.hid (D3.after (bal w3 (.cells #[.int .i64 1, .int .i64 40, .int .i64 60, .int .i64 100, .int .i64 0, .int .i64 10000] 3)))
       clear D3 E3 c3 r3))
  all_goals
    clear hD hE hR2
    go_wp2
    go_ret2
    exact ⟨bs, A', c', x, rfl, HDF.out⟩
end Go.Proofs.YtomcjjehfocbmaaGreatDoor
