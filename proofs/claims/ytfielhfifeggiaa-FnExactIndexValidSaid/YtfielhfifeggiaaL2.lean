/- The law FnExactIndexValid. -/
import Derived.Test.YtfielhfifeggiaaI2
import Derived.Test.YtfielhfifeggiaaOpE
namespace Go.Proofs.Ytfielhfifeggiaa
open Go.RowKit

theorem exactIndexValid_walk (es : List Ent) (A : Option Addr) (c : Nat) (w : World) (h : Ents w (fun _ => True) A c es) :
    Calls Try.prog 4 #[.slice A es.length c] w fun e w' => e = .returned (.bool true) ∧ Below w.heap.size w w' := by
  have hcc := h.2.1
  have hlc := h.1
  by_cases hs : (1048576 : Int) < es.length
  · go_enter Try.func4, Try.ntmps4
    go_wp2_with (go_at_call 11; refine (szEntryS_any es.length c A _ _ (by omega) (by omega) (by omega)).mono ?_; rintro e w1 ⟨rfl, rfl⟩; rw [szOf_neg hs])
    go_ret
    exact ⟨rfl, Below.refl _ _⟩
  · have hn : es.length ≤ 1048576 := by omega
    clear hs
    go_enter Try.func4, Try.ntmps4
    go_wp2_with fail
    refine (szEntryS_any es.length c A _ _ (by omega) (by omega) (by omega)).mono ?_
    rintro e w1 ⟨rfl, rfl⟩
    rw [szOf_pos (by omega)]
    go_wp2_with fail
    refine (toEntryS_any es A c _ _ h hn).mono ?_
    rintro e w2 ⟨A2, c2, rfl, hX2, b2⟩
    go_wp2_with fail
    refine (IndexValidS_any es A2 c2 _ _ hX2.toK).mono ?_
    rintro e w3 ⟨rfl, hb3⟩
    have b3 := bthen b2 hb3
    go_wp2_with fail
    refine (toEntryS_any es A c _ _ (h.below b3) hn).mono ?_
    rintro e w4 ⟨A4, c4, rfl, hX4, hb4⟩
    have b4 := bthen b3 hb4
    go_wp2_with fail
    refine (IndexValid_any es A4 c4 _ _ hX4.toK).mono ?_
    rintro e w5 ⟨rfl, hb5⟩
    have b5 := bthen b4 hb5
    go_wp2_with fail
    refine (toEntryS_any es A c _ _ (h.below b5) hn).mono ?_
    rintro e w6 ⟨A6, c6, rfl, hX6, hb6⟩
    have b6 := bthen b5 hb6
    go_wp2_with fail
    refine (eqEntryS_any es es A4 A6 c4 c6 _ _ _ (hX4.toK.below (bthen hb5 hb6)) hX6.toK).mono ?_
    rintro e w7 ⟨rfl, hb7⟩
    have b7 := bthen b6 hb7
    rw [decide_eq_true rfl]
    go_wp2
    all_goals
      go_ret
      exact ⟨rfl, b7⟩
end Go.Proofs.Ytfielhfifeggiaa
