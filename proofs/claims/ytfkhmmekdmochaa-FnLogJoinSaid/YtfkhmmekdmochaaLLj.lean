/- The law FnLogJoin: a segment's bytes are those of its batches. -/
import Derived.Test.YtfkhmmekdmochaaLb
import Derived.Test.YtfkhmmekdmochaaBt
import Derived.Test.YtfkhmmekdmochaaDw
import Derived.Test.YtfkhmmekdmochaaE1
namespace Go.Proofs.Ytfkhmmekdmochaa
set_option linter.unusedVariables false
set_option linter.unusedSimpArgs false
open Go.RowKit

set_option maxRecDepth 20000 in
set_option maxHeartbeats 4000000 in
theorem logJoin_walk (b0 : List Int) (A : Option Addr) (c : Nat) (w : World) (h : Kind.byte.Row w (fun _ => True) A c b0) :
    Calls Try.prog 3 #[.slice A b0.length c] w fun e w' => e = .returned (.bool true) ∧ Below w.heap.size w w' := by
  have hl := h.1
  have hc := h.2.1
  by_cases hs : b0.length ≤ 1048576
  · go_enter Try.func3, Try.ntmps3
    go_wp2_with fail
    refine (DrawLogBytes_any b0 A c _ _ h).mono ?_
    rintro e w1 ⟨bs, B, d, rfl, hD⟩
    have hB := hD.row
    have hb1 := hD.below
    have hlB := hB.1
    have hcB := hB.2.1
    clear hD
    go_wp2_with fail
    refine (LogBytes_any bs B d _ w1 hB).mono ?_
    rintro e w2 ⟨v2, rfl, HV2, hb2⟩
    obtain ⟨A2, c2, rfl, k2⟩ := AppP.row HV2
    have hB2 := hB.below hb2
    go_wp2_with fail
    refine (LogBytesS_any bs B d _ w2 hB2).mono ?_
    rintro e w3 ⟨v3, rfl, HV3, hb3⟩
    obtain ⟨A3, c3, rfl, k3⟩ := AppP.row HV3
    have k23 := k2.below hb3
    have hB3 := hB2.below hb3
    have b3 := bthen (bthen hb1 hb2) hb3
    clear HV2 HV3 hB hB2 k2 hb1 hb2 hb3
    have hol := logOut_len bs
    cases hv : logB bs
    · obtain ⟨ob, hob⟩ : ∃ o, o = logOut bs := ⟨_, rfl⟩
      rw [← hob] at k23 k3 hol
      rw [← hob]
      clear hob
      go_wp2_with fail
      refine (sameInts_any ob ob A2 A3 c2 c3 _ _ w3 k23 k3).mono ?_
      rintro e w4 ⟨rfl, hb4⟩
      rw [decide_eq_true rfl]
      have k24 := k23.below hb4
      have k34 := k3.below hb4
      have b4 := bthen b3 hb4
      go_wp2_with fail
      refine (sameInts_any ob ob A2 A3 c2 c3 _ _ w4 k24 k34).mono ?_
      rintro e w5 ⟨rfl, hb5⟩
      rw [decide_eq_true rfl]
      have b5 := Lib.hid (bthen b4 hb5)
      clear b4 hb5 hb4 b3 k24 k34
      go_wp2
      go_ret
      exact ⟨rfl, b5.out⟩
    · have HLO := Lib.hid (logOut_yes hv)
      have HV := Lib.hid hv
      have HALL := Lib.hid (logB_all hv).2
      have HN := Lib.hid (logB_all hv).1
      clear hv
      obtain ⟨ob, hob⟩ : ∃ o, o = logOut bs := ⟨_, rfl⟩
      rw [← hob] at k23 k3 hol HLO
      rw [← hob]
      clear hob
      go_wp2_with fail
      refine (sameInts_any ob ob A2 A3 c2 c3 _ _ w3 k23 k3).mono ?_
      rintro e w4 ⟨rfl, hb4⟩
      rw [decide_eq_true rfl]
      have k24 := k23.below hb4
      have hB4 := hB3.below hb4
      have b4 := bthen b3 hb4
      clear k23 k3 b3 hb4 hB3
      go_wp2_with fail
      generalize hW : World.alloc _ _ = W5
      obtain ⟨hA5, b5, hz5⟩ := alloc1 hW
      clear hW
      have HX5h := Lib.hid (show App (Kind.int .i64) 3 W5 w4.heap.size (.slice (some ⟨w4.heap.size, 0, none⟩) 0 0) [] from appP_lit hA5 (Nat.le_refl _))
      have HB5 := Lib.hid b5
      have HB04 := Lib.hid b4
      clear b4 hA5 hz5 b5
      go_loopw [8, 9] (fun v i wr => ∃ k : Nat, k ≤ bs.length ∧ i = .int .i64 k ∧ App (Kind.int .i64) 3 wr w4.heap.size v (logCat (bs.take k)) ∧ Hid (Below w4.heap.size w4 wr)) (fun _ i _ => bs.length - (intOf i).toNat)
      case atStart => exact ⟨0, Nat.zero_le _, rfl, HX5h.out, HB5⟩
      case round =>
        obtain ⟨k, hk, rfl, HX, HB⟩ := hrel
        clear HX5h HB5
        obtain ⟨Ao, co, rfl, _, _⟩ := HX.slice_
        by_cases hlt : k < bs.length
        · obtain ⟨ad2, C1, d1, rfl, _, hi1, q0, q1, q2, q3, q4, q5⟩ := (hB4.below HB.out).bat_at hlt
          have hbk := HALL.out _ (List.getElem_mem hlt)
          have HROW := Lib.hid (logCat_take hlt)
          have hyl := batBytes_le hbk
          have hxl := logCat_take_len HV.out k
          obtain ⟨xs, hxx⟩ : ∃ xs, xs = logCat (bs.take k) := ⟨_, rfl⟩
          obtain ⟨ys, hyy⟩ : ∃ ys, ys = batBytes bs[k] := ⟨_, rfl⟩
          rw [← hxx, ← hyy] at HROW
          rw [← hxx] at HX hxl
          rw [← hxx]
          rw [← hyy] at hyl
          have HYY := Lib.hid (show batOut bs[k] = ys by rw [hyy]; exact batOut_yes hbk)
          have HBK := Lib.hid hbk
          have HXh := Lib.hid HX
          have HWS := Lib.hid HB.out.size
          clear hxx hyy HX hbk
          go_wp2_with fail
          refine (BatchBytes_any bs[k] C1 d1 _ _ hi1).mono ?_
          rintro e w6 ⟨v6, rfl, HV6, hb6⟩
          rw [HYY.out] at HV6
          rw [HBK.out]
          obtain ⟨A6, c6, rfl, _, _⟩ := HV6.slice_
          have hrow6 := (AppP.row_of HV6).2.2.2
          have HX6 := AppP.below HXh.out hb6
          have HB6 := Lib.hid (bthen HB.out hb6)
          have hSw6 : wr.heap.size ≤ w6.heap.size := hb6.size
          have hown := fun x hx => AppP.own_lt HXh.out (k := x) hx
          clear HV6 hb6 HXh q0 q1 q2 q3 q4 q5 hi1
          go_wp2_with (at_builtin; go_loud (refine wpList_appF (Kind.int .i64) HX6 rfl _ _ 25 (.int .i64 0) 8 rfl Try.underlying25 (by kernel_rfl) rfl (bnd_int .i64) (onec_int .i64) (flat_int .i64) rfl rfl rfl hrow6 (fun x hx => by have := HWS.out; omega) (by omega) (by omega) ?_))
          intro v7 w7 HX7 hc7 _
          rw [← HROW.out] at HX7
          have HB7 := Lib.hid (HB6.out.trans (hc7.below HB6.out.size (fun x hx => AppP.ne HX6 hx)))
          clear hc7 HX6 hrow6
          go_wp2
          go_roundw
          case rel => exact ⟨k + 1, by omega, by go_num, HX7, HB7⟩
          case measure => simp [intOf]; omega
        · have hk2 : k = bs.length := by omega
          subst hk2
          rw [List.take_length, ← HLO.out] at HX
          rw [List.take_length, ← HLO.out]
          obtain ⟨_, _, _, ro⟩ := AppP.row_of HX
          have k2r := k24.below HB.out
          have HB8 := Lib.hid (bthen HB04.out HB.out)
          clear HX k24 hB4
          go_wp2_with fail
          refine (sameInts_any ob ob _ A2 _ c2 _ _ wr ro k2r).mono ?_
          rintro e w9 ⟨rfl, hb9⟩
          rw [decide_eq_true rfl]
          have HB9 := Lib.hid (bthen HB8.out hb9)
          clear hb9 ro k2r
          go_wp2
          go_ret
          exact ⟨rfl, HB9.out⟩
  · go_enter Try.func3, Try.ntmps3
    go_wp2
    go_ret
    exact ⟨rfl, Below.refl _ _⟩
end Go.Proofs.Ytfkhmmekdmochaa
