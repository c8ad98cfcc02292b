/- The span of a batch. -/
import Derived.Test.YtfkhmmekdmochaaB3
namespace Go.Proofs.Ytfkhmmekdmochaa
set_option linter.unusedVariables false
set_option linter.unusedSimpArgs false
open Go.RowKit

theorem BatchSpan_any (b : Bat) (A : Option Addr) (c : Nat) (F : Nat → Prop) (w : World) (h : Recs w F A c b.recs) (hv : batB b = true) :
    Calls Try.prog 33 #[.agg #[.bool b.packed, .bool b.mark, .int .i64 b.prod, .int .i64 b.epoch, .int .i64 b.seq, .slice A b.recs.length c]] w fun e w' =>
      e = .returned (.tuple #[.int .i64 b.first, .int .i64 b.last, .bool true]) ∧ Below w.heap.size w w' := by
  have h0 := batB_pos hv
  have HV := Lib.hid hv
  clear hv
  go_enter Try.func33, Try.ntmps33
  go_wp2_with fail
  generalize hW : World.alloc _ _ = W
  obtain ⟨hA, b1, hsW⟩ := alloc1 hW
  clear hW
  refine (BatchValid_any b A c _ _ (h.below b1)).mono ?_
  rintro e w2 ⟨rfl, hb2⟩
  rw [HV.out]
  have b2 := bthen b1 hb2
  have hA2 := blk_below hA hb2
  have bD : Below w2.heap.size w2 w2.drew := ⟨rfl, rfl, rfl, Nat.le_refl _, fun _ _ => rfl⟩
  have HAD := Lib.hid (blk_below hA2 bD)
  have hF : ∀ W, Below w2.heap.size w2 W → Calls Try.prog 46 #[.agg #[.bool b.packed, .bool b.mark, .int .i64 b.prod, .int .i64 b.epoch, .int .i64 b.seq, .slice A b.recs.length c]] W fun e w' => e = .returned (.int .i64 b.first) ∧ Below W.heap.size W w' :=
    fun W hW => first_any b A c _ W ((h.below b2).below hW) h0
  have hL : ∀ W, Below w2.heap.size w2 W → Calls Try.prog 60 #[.agg #[.bool b.packed, .bool b.mark, .int .i64 b.prod, .int .i64 b.epoch, .int .i64 b.seq, .slice A b.recs.length c]] W fun e w' => e = .returned (.int .i64 b.last) ∧ Below W.heap.size W w' :=
    fun W hW => last_any b A c _ W ((h.below b2).below hW) h0
  obtain ⟨p0, p1, p2, p3, p4, p5, pf⟩ := six hA2
  clear hA hb2
  go_wp2_with fail
  go_region_with (first
    | (go_at_call 46; go_loud (first | (refine (hF _ (bthen bD hbL)).mono ?_; rintro e w6 ⟨rfl, hbF⟩) | (refine (hF _ bD).mono ?_; rintro e w5 ⟨rfl, hbF⟩; obtain ⟨r0, r1, r2, r3, r4, r5, rf⟩ := six (blk_below HAD.out hbF)) | fail))
    | (go_at_call 60; go_loud (first | (refine (hL _ (bthen bD hbF)).mono ?_; rintro e w6 ⟨rfl, hbL⟩) | (refine (hL _ bD).mono ?_; rintro e w5 ⟨rfl, hbL⟩; obtain ⟨r0, r1, r2, r3, r4, r5, rf⟩ := six (blk_below HAD.out hbL)) | fail)))
  all_goals
    have HB := Lib.hid (show Below w.heap.size w _ by first | exact bthen b2 (bthen (bthen bD hbF) hbL) | exact bthen b2 (bthen (bthen bD hbL) hbF))
    clear hF hL hbF hbL bD
    go_wp2
    exact bodyPost_ret (v := .tuple #[.int .i64 b.first, .int .i64 b.last, .bool true]) (by simp [results, Try.results33, go_sem]) rfl ⟨rfl, HB.out⟩

end Go.Proofs.Ytfkhmmekdmochaa
