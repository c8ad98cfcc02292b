/- The law FnExactIndexFind. -/
import Derived.Test.YtfielhfifeggiaaI6
namespace Go.Proofs.Ytfielhfifeggiaa
open Go.RowKit

set_option maxHeartbeats 1000000 in
theorem exactIndexFind_walk (es : List Ent) (A : Option Addr) (c : Nat) (o : Int) (w : World) (h : Ents w (fun _ => True) A c es) (_ho : (Lit.int .i64 o).wf = true) :
    Calls Try.prog 7 #[.slice A es.length c, .int .i64 o] w fun e w' => e = .returned (.bool true) ∧ Below w.heap.size w w' := by
  clear _ho
  have hcc := h.2.1
  have hlc := h.1
  by_cases hs : (1048576 : Int) < es.length
  · go_enter Try.func7, Try.ntmps7
    go_wp2_with (go_at_call 11; refine (szEntryS_any es.length c A _ _ (by omega) (by omega) (by omega)).mono ?_; rintro e w1 ⟨rfl, rfl⟩; rw [szOf_neg hs])
    go_ret
    exact ⟨rfl, Below.refl _ _⟩
  · have hn : es.length ≤ 1048576 := by omega
    clear hs
    go_enter Try.func7, Try.ntmps7
    go_wp2_with fail
    refine (szEntryS_any es.length c A _ _ (by omega) (by omega) (by omega)).mono ?_
    rintro e w1 ⟨rfl, rfl⟩
    rw [szOf_pos (by omega)]
    go_wp2_with fail
    refine (toEntryS_any es A c _ _ h hn).mono ?_
    rintro e w2 ⟨A2, c2, rfl, hX2, b2⟩
    go_wp2_with fail
    refine (IndexFindS_any es A2 c2 _ _ _ hX2.toK).mono ?_
    rintro e w3 ⟨rfl, hb3⟩
    obtain ⟨r, hr⟩ : ∃ r, r = findI es o := ⟨_, rfl⟩
    rw [← hr]
    have HR := Lib.hid hr
    clear hr
    have b3 := bthen b2 hb3
    go_wp2_with fail
    generalize hW3 : World.alloc _ _ = W3
    obtain ⟨hB3, c3, hz3⟩ := alloc1 hW3
    have b3' := bthen b3 c3
    refine (toEntryS_any es A c _ _ (h.below b3') hn).mono ?_
    rintro e w4 ⟨A4, c4, rfl, hX4, hb4⟩
    have b4 := bthen b3' hb4
    have hB4 := blk_below hB3 hb4
    go_wp2_with fail
    refine (IndexFind_any es A4 c4 _ _ _ hX4.toK).mono ?_
    rintro e w5 ⟨rfl, hb5⟩
    rw [← HR.out]
    have b5 := bthen b4 hb5
    have hB5 := blk_below hB4 hb5
    have hX5 := hX4.toK.below hb5
    have hlt : w3.heap.size < w5.heap.size := (Array.getElem?_eq_some_iff.1 hB5).1
    have hne : w3.heap.size ≠ w5.heap.size := by omega
    obtain ⟨x0, x1, xf⟩ := two2 hB5
    go_wp2_with fail
    generalize hW5 : World.alloc _ _ = W5
    obtain ⟨hC5, c5, hz5⟩ := alloc1 hW5
    refine (eqEntry_any (entOr r) (entOr r) _).mono ?_
    rintro e w6 ⟨rfl, hb6⟩
    rw [decide_eq_true rfl]
    have b6 := bthen (bthen b5 c5) hb6
    have hX6 := hX5.below (bthen c5 hb6)
    obtain ⟨y0, y1, yf⟩ := two2 (blk_below (blk_below hB5 c5) hb6)
    obtain ⟨z0, z1, zf⟩ := two2 (blk_below hC5 hb6)
    clear x0 x1 xf hW5 hW3 hB3 hB4 hB5 hC5
    go_wp2_with fail
    refine (toEntryS_any es A c _ _ (h.below b6) hn).mono ?_
    rintro e w7 ⟨A7, c7, rfl, hX7, hb7⟩
    have b7 := bthen b6 hb7
    go_wp2_with fail
    refine (eqEntryS_any es es A4 A7 c4 c7 _ _ _ (hX6.below hb7) hX7.toK).mono ?_
    rintro e w8 ⟨rfl, hb8⟩
    have b8 := bthen b7 hb8
    rw [decide_eq_true rfl]
    go_wp2
    all_goals
      go_ret
      exact ⟨rfl, b8⟩
end Go.Proofs.Ytfielhfifeggiaa
