/- The law FnLog: segments are scanned. -/
import Derived.Test.YtomcjjehfocbmaaSl
import Derived.Test.YtomcjjehfocbmaaLb
import Derived.Test.YtomcjjehfocbmaaDw
import Derived.Test.YtomcjjehfocbmaaE1
import Derived.Test.YtomcjjehfocbmaaE3
namespace Go.Proofs.Ytomcjjehfocbmaa
set_option linter.unusedVariables false
set_option linter.unusedSimpArgs false
open Go.RowKit

set_option maxRecDepth 20000 in
set_option maxHeartbeats 4000000 in
theorem log_walk (b0 : List Int) (A : Option Addr) (c : Nat) (w : World) (h : Kind.byte.Row w (fun _ => True) A c b0) :
    Calls Try.prog 4 #[.slice A b0.length c] w fun e w' => e = .returned (.bool true) ∧ Below w.heap.size w w' := by
  have hl := h.1
  have hc := h.2.1
  by_cases hs : b0.length ≤ 1048576
  · go_enter Try.func4, Try.ntmps4
    go_wp2_with fail
    refine (DrawLogBytes_any b0 A c _ _ h).mono ?_
    rintro e w1 ⟨bs, B, d, rfl, hD⟩
    have hB := hD.row
    have hb1 := hD.below
    have hlB := hB.1
    have hcB := hB.2.1
    clear hD
    go_wp2_with fail
    refine (LogBytes_any bs B d _ w1 hB).mono ?_
    rintro e w2 ⟨v2, rfl, HV2, hb2⟩
    obtain ⟨A2, c2, rfl, k2⟩ := AppP.row HV2
    have hB2 := hB.below hb2
    go_wp2_with fail
    refine (LogBytesS_any bs B d _ w2 hB2).mono ?_
    rintro e w3 ⟨v3, rfl, HV3, hb3⟩
    obtain ⟨A3, c3, rfl, k3⟩ := AppP.row HV3
    have k23 := k2.below hb3
    have hB3 := hB2.below hb3
    have b3 := bthen (bthen hb1 hb2) hb3
    clear HV2 HV3 hB hB2 k2 hb1 hb2 hb3
    have hol := logOut_len bs
    cases hv : logB bs
    · obtain ⟨ob, hob⟩ : ∃ o, o = logOut bs := ⟨_, rfl⟩
      rw [← hob] at k23 k3 hol
      rw [← hob]
      clear hob
      go_wp2_with fail
      refine (sameInts_any ob ob A2 A3 c2 c3 _ _ w3 k23 k3).mono ?_
      rintro e w4 ⟨rfl, hb4⟩
      rw [decide_eq_true rfl]
      have k24 := k23.below hb4
      have k34 := k3.below hb4
      have b4 := bthen b3 hb4
      go_wp2_with fail
      refine (sameInts_any ob ob A2 A3 c2 c3 _ _ w4 k24 k34).mono ?_
      rintro e w5 ⟨rfl, hb5⟩
      rw [decide_eq_true rfl]
      have b5 := Lib.hid (bthen b4 hb5)
      clear b4 hb5 hb4 b3 k24 k34
      go_wp2
      go_ret
      exact ⟨rfl, b5.out⟩
    · have HS := Lib.hid (scan_cat hv)
      have HLO := Lib.hid (logOut_yes hv)
      clear hv
      obtain ⟨ob, hob⟩ : ∃ o, o = logOut bs := ⟨_, rfl⟩
      rw [← hob] at k23 k3 hol HLO
      rw [← hob]
      have HSS := Lib.hid (show scanOf ob = (bs, ob.length, 0) by rw [HLO.out]; exact HS.out)
      clear hob
      go_wp2_with fail
      refine (sameInts_any ob ob A2 A3 c2 c3 _ _ w3 k23 k3).mono ?_
      rintro e w4 ⟨rfl, hb4⟩
      rw [decide_eq_true rfl]
      have k24 := k23.below hb4
      have hB4 := hB3.below hb4
      have b4 := bthen b3 hb4
      clear k23 k3 b3 hb4 hB3
      go_wp2_with fail
      have HC := LogScan_any ob A2 c2 _ w4 k24 (by omega)
      rw [HSS.out] at HC
      refine HC.mono ?_
      rintro e w5 ⟨A5, c5, rfl, hX5, hb5⟩
      have R5 := hX5.toK
      have b5 := bthen b4 hb5
      have hB5 := hB4.below hb5
      clear HC hX5 b4 hb5 hB4 k24
      go_wp2_with fail
      refine (sameLog_any bs bs A5 B c5 d _ _ w5 R5 hB5).mono ?_
      rintro e w6 ⟨rfl, hb6⟩
      rw [decide_eq_true rfl]
      have b6 := Lib.hid (bthen b5 hb6)
      clear b5 hb6 R5 hB5
      go_wp2
      go_ret
      exact ⟨by simp, b6.out⟩
  · go_enter Try.func4, Try.ntmps4
    go_wp2
    go_ret
    exact ⟨rfl, Below.refl _ _⟩
end Go.Proofs.Ytomcjjehfocbmaa
