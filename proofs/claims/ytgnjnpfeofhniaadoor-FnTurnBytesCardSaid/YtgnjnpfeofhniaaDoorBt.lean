/- BatchBytes of the program. -/
import Derived.Test.YtgnjnpfeofhniaaDoorBb
import Derived.Test.YtgnjnpfeofhniaaDoorB3
namespace Go.Proofs.YtgnjnpfeofhniaaDoor
set_option linter.unusedVariables false
set_option linter.unusedSimpArgs false
open Go.RowKit

theorem BatchBytes_any (b : Bat) (A : Option Addr) (c : Nat) (F : Nat → Prop) (w : World) (h : Recs w F A c b.recs) :
    Calls Tryd.prog 8 #[.agg #[.bool b.packed, .bool b.mark, .int .i64 b.prod, .int .i64 b.epoch, .int .i64 b.seq, .slice A b.recs.length c]] w fun e w' => ∃ v, e = .returned (.tuple #[v, .bool (batB b)]) ∧ App (Kind.int .i64) 3 w' w.heap.size v (batOut b) ∧ Below w.heap.size w w' := by
  cases hv : batB b
  · rw [batOut_no hv]
    go_enter Tryd.func8, Tryd.ntmps8
    go_wp2_with fail
    generalize hW : World.alloc _ _ = W
    obtain ⟨hA, b1, hz⟩ := alloc1 hW
    clear hW
    refine (BatchValid_any b A c F W (h.below b1)).mono ?_
    rintro e w2 ⟨rfl, hb2⟩
    rw [hv]
    have hB2 := Lib.hid (bthen b1 hb2)
    clear b1 hb2 hA hz
    have HN := Lib.hid (AppP.nil (Kind.int .i64) 3 w2 (fun k => w.heap.size ≤ k))
    go_wp2
    go_ret2
    exact ⟨_, rfl, HN.out, hB2.out⟩
  · rw [batOut_yes hv]
    have HV := Lib.hid hv
    go_enter Tryd.func8, Tryd.ntmps8
    go_wp2_with fail
    generalize hW : World.alloc _ _ = W
    obtain ⟨hA, b1, hz⟩ := alloc1 hW
    clear hW
    refine (BatchValid_any b A c F W (h.below b1)).mono ?_
    rintro e w2 ⟨rfl, hb2⟩
    rw [hv]
    obtain ⟨x0, x1, x2, x3, x4, x5, xf⟩ := six (blk_below hA hb2)
    have hB2 := Lib.hid (bthen b1 hb2)
    have hr2 := h.below hB2.out
    clear b1 hb2 hA hz hv
    go_wp2_with fail
    refine (bytesOf_any b A c F w2 hr2 HV.out).mono ?_
    rintro e w3 ⟨v, rfl, HX, hb3⟩
    have HXh := Lib.hid (App.from HX hB2.out.size)
    have hB3 := Lib.hid (bthen hB2.out hb3)
    clear HX hb3
    go_wp2
    go_ret2
    exact ⟨_, rfl, HXh.out, hB3.out⟩
end Go.Proofs.YtgnjnpfeofhniaaDoor
