/- The law FnReadBatchesAll. -/
import Derived.Test.YtfkhmmekdmochaaRb
import Derived.Test.YtfkhmmekdmochaaDx
import Derived.Test.YtfkhmmekdmochaaE3
import Derived.Test.YtfkhmmekdmochaaSp
import Derived.Test.YtfkhmmekdmochaaBt
namespace Go.Proofs.Ytfkhmmekdmochaa
set_option linter.unusedVariables false
set_option linter.unusedSimpArgs false
open Go.RowKit

set_option maxRecDepth 20000 in
set_option maxHeartbeats 4000000 in
theorem readBatchesAll_walk (b0 : List Int) (A : Option Addr) (c : Nat) (w : World) (h : Kind.byte.Row w (fun _ => True) A c b0) :
    Calls Try.prog 6 #[.slice A b0.length c] w fun e w' => e = .returned (.bool true) ∧ Below w.heap.size w w' := by
  have hl := h.1
  have hc := h.2.1
  by_cases hs : b0.length ≤ 1048576
  · go_enter Try.func6, Try.ntmps6
    go_wp2_with fail
    refine (DrawReadBatches_any b0 A c _ _ h).mono ?_
    rintro e w1 ⟨bs, B, d, o, m, rfl, ho0, ho1, hm0, hm1, hD⟩
    have hB := hD.row
    have hb1 := hD.below
    have hlen9 := hD.len
    have hlB := hB.1
    have hcB := hB.2.1
    clear hD
    go_wp2_with fail
    refine (ReadBatches_any bs B d _ o m w1 hB).mono ?_
    rintro e w2 ⟨v2, B2, xs, rfl, hRB, HV2, hb2⟩
    obtain ⟨A2, c2, rfl, k2⟩ := HV2.toP.row
    have hB2 := hB.below hb2
    go_wp2_with fail
    refine (ReadBatchesS_any bs B d _ o m w2 hB2).mono ?_
    rintro e w3 ⟨v3, B3, xs3, rfl, hRB3, HV3, hb3⟩
    obtain rfl := hRB3.uniq hRB
    obtain ⟨A3, c3, rfl, k3⟩ := HV3.toP.row
    have k23 := k2.below hb3
    have hB3 := hB2.below hb3
    have b3 := bthen (bthen hb1 hb2) hb3
    have hxl := hRB.le
    have hxc := k3.1
    have hxc2 := k23.1
    have HRB := Lib.hid hRB
    clear HV2 HV3 hB hB2 k2 hb1 hb2 hb3 hRB hRB3
    go_wp2_with fail
    refine (sameLog_any xs3 xs3 A2 A3 c2 c3 _ _ w3 k23 k3).mono ?_
    rintro e w4 ⟨rfl, hb4⟩
    rw [decide_eq_true rfl]
    have k24 := k23.below hb4
    have k34 := k3.below hb4
    have hB4 := hB3.below hb4
    have b4 := bthen b3 hb4
    clear k23 k3 hB3 hb4 b3
    cases hv : logB bs
    · have HV := Lib.hid hv
      clear hv
      go_wp2_with fail
      refine (LogValidS_any bs B d _ _ hB4).mono ?_
      rintro e w5 ⟨rfl, hb5⟩
      rw [HV.out]
      have k25 := k24.below hb5
      have k35 := k34.below hb5
      have b5 := bthen b4 hb5
      clear k24 k34 hb5 b4
      go_wp2_with fail
      refine (sameLog_any xs3 xs3 A2 A3 c2 c3 _ _ w5 k25 k35).mono ?_
      rintro e w6 ⟨rfl, hb6⟩
      rw [decide_eq_true rfl]
      have b6 := Lib.hid (bthen b5 hb6)
      clear b5 hb6 k25 k35 hB4
      go_wp2
      go_ret
      exact ⟨rfl, b6.out⟩
    · have HV := Lib.hid hv
      clear hv
      go_wp2_with fail
      refine (LogValidS_any bs B d _ _ hB4).mono ?_
      rintro e w5 ⟨rfl, hb5⟩
      rw [HV.out]
      have hB5 := hB4.below hb5
      have b5 := bthen b4 hb5
      clear k24 k34 hb5 b4 hB4
      go_wp2_with fail
      refine (ReadBatches_any bs B d _ 0 99999 w5 hB5).mono ?_
      rintro e w6 ⟨v6, B6, xs6, rfl, hRB6, HV6, hb6⟩
      obtain rfl := RBOut.all HV.out hRB6
      obtain ⟨A6, c6, rfl, k6⟩ := HV6.toP.row
      have hB6 := hB5.below hb6
      have b6 := bthen b5 hb6
      clear HV6 hb6 hB5 b5 hRB6
      go_wp2_with fail
      refine (sameLog_any xs6 xs6 A6 B c6 d _ _ w6 k6 hB6).mono ?_
      rintro e w7 ⟨rfl, hb7⟩
      rw [decide_eq_true rfl]
      have b7 := Lib.hid (bthen b6 hb7)
      clear b6 hb7 k6 hB6
      go_wp2
      go_ret
      exact ⟨rfl, b7.out⟩

  · go_enter Try.func6, Try.ntmps6
    go_wp2
    go_ret
    exact ⟨rfl, Below.refl _ _⟩
end Go.Proofs.Ytfkhmmekdmochaa
