/- The law FnLogTorn: what was torn off is told. -/
import Derived.Test.YtomcjjehfocbmaaSl
import Derived.Test.YtomcjjehfocbmaaLb
import Derived.Test.YtomcjjehfocbmaaDw
import Derived.Test.YtomcjjehfocbmaaE1
import Derived.Test.YtomcjjehfocbmaaE3
import Derived.Test.YtomcjjehfocbmaaBt
import Derived.Test.YtomcjjehfocbmaaPj
namespace Go.Proofs.Ytomcjjehfocbmaa
set_option linter.unusedVariables false
set_option linter.unusedSimpArgs false
open Go.RowKit

theorem info_intL : (Try.prog.info? 3).map (fun i => (i.zero, i.size, i.bytes)) = some (some (.int .i64 0), 1, 8) := by kernel_rfl
theorem info_batL : (Try.prog.info? 27).map (fun i => (i.zero, i.size, i.bytes)) = some (some (.agg #[.bool false, .bool false, .int .i64 0, .int .i64 0, .int .i64 0, .slice none 0 0]), 6, 56) := by kernel_rfl

set_option maxRecDepth 20000 in
set_option maxHeartbeats 4000000 in
theorem logTorn_walk (b0 : List Int) (A : Option Addr) (c : Nat) (w : World) (h : Kind.byte.Row w (fun _ => True) A c b0) :
    Calls Try.prog 5 #[.slice A b0.length c] w fun e w' => e = .returned (.bool true) ∧ Below w.heap.size w w' := by
  have hl := h.1
  have hc := h.2.1
  by_cases hs : b0.length ≤ 1048576
  · go_enter Try.func5, Try.ntmps5
    go_wp2_with fail
    refine (DrawLogBytes_any b0 A c _ _ h).mono ?_
    rintro e w1 ⟨bs, B, d, rfl, hD⟩
    have hB := hD.row
    have hb1 := hD.below
    have hlB := hB.1
    have hcB := hB.2.1
    clear hD
    go_wp2_with fail
    refine (LogBytes_any bs B d _ w1 hB).mono ?_
    rintro e w2 ⟨v2, rfl, HV2, hb2⟩
    obtain ⟨A2, c2, rfl, k2⟩ := AppP.row HV2
    have hB2 := hB.below hb2
    go_wp2_with fail
    refine (LogBytesS_any bs B d _ w2 hB2).mono ?_
    rintro e w3 ⟨v3, rfl, HV3, hb3⟩
    obtain ⟨A3, c3, rfl, k3⟩ := AppP.row HV3
    have k23 := k2.below hb3
    have hB3 := hB2.below hb3
    have b3 := bthen (bthen hb1 hb2) hb3
    clear HV2 HV3 hB hB2 k2 hb1 hb2 hb3
    have hol := logOut_len bs
    cases hv : logB bs
    · obtain ⟨ob, hob⟩ : ∃ o, o = logOut bs := ⟨_, rfl⟩
      rw [← hob] at k23 k3 hol
      rw [← hob]
      clear hob
      go_wp2_with fail
      refine (sameInts_any ob ob A2 A3 c2 c3 _ _ w3 k23 k3).mono ?_
      rintro e w4 ⟨rfl, hb4⟩
      rw [decide_eq_true rfl]
      have k24 := k23.below hb4
      have k34 := k3.below hb4
      have b4 := bthen b3 hb4
      go_wp2_with fail
      refine (sameInts_any ob ob A2 A3 c2 c3 _ _ w4 k24 k34).mono ?_
      rintro e w5 ⟨rfl, hb5⟩
      rw [decide_eq_true rfl]
      have b5 := Lib.hid (bthen b4 hb5)
      clear b4 hb5 hb4 b3 k24 k34
      go_wp2
      go_ret
      exact ⟨rfl, b5.out⟩
    · have HS := Lib.hid (scan_cat hv)
      have HLO := Lib.hid (logOut_yes hv)
      have HV := Lib.hid hv
      have HALL := Lib.hid (logB_all hv).2
      clear hv
      obtain ⟨ob, hob⟩ : ∃ o, o = logOut bs := ⟨_, rfl⟩
      rw [← hob] at k23 k3 hol HLO
      rw [← hob]
      clear hob
      go_wp2_with fail
      refine (sameInts_any ob ob A2 A3 c2 c3 _ _ w3 k23 k3).mono ?_
      rintro e w4 ⟨rfl, hb4⟩
      rw [decide_eq_true rfl]
      have k24 := k23.below hb4
      have hB4 := hB3.below hb4
      have b4 := bthen b3 hb4
      have k34 := k3.below hb4
      clear k23 k3 b3 hb4 hB3
      by_cases h0 : bs.length = 0
      · have hz : ((bs.length : Int) == 0) = true := by simp [h0]
        have H0 := Lib.hid h0
        clear h0
        go_wp2_with fail
        refine (sameInts_any ob ob A2 A3 c2 c3 _ _ w4 k24 k34).mono ?_
        rintro e w5 ⟨rfl, hb5⟩
        rw [decide_eq_true rfl]
        have b5 := Lib.hid (bthen b4 hb5)
        clear b4 hb5 k24 k34 hB4
        go_wp2
        go_ret
        exact ⟨rfl, b5.out⟩
      · have hz : ((bs.length : Int) == 0) = false := by simp [h0]
        obtain ⟨m, hm⟩ : ∃ m, m + 1 = bs.length := ⟨bs.length - 1, by omega⟩
        have hcl := logCat_last hm
        rw [← HLO.out] at hcl
        have hml : m < bs.length := by omega
        obtain ⟨ys, hys⟩ : ∃ ys, ys = batBytes bs[m] := ⟨_, rfl⟩
        have hy18 := batBytes_18 bs[m]
        rw [← hys] at hcl hy18
        have HBK : Hid (batB bs[m] = true) := Lib.hid (HALL.out _ (List.getElem_mem hml))
        have HYS : Hid (batOut bs[m] = ys) := Lib.hid (by rw [hys]; exact batOut_yes HBK.out)
        obtain ⟨k, hk⟩ : ∃ k, k + 1 = ob.length := ⟨ob.length - 1, by omega⟩
        have HSC : Hid (scanOf (ob.take k) = (bs.take m, (logCat (bs.take m)).length, 1)) := Lib.hid (by rw [HLO.out]; exact scan_torn1 HV.out hm (by rw [← HLO.out]; exact hk))
        obtain ⟨nn, hnn⟩ : ∃ n, n = (logCat (bs.take m)).length := ⟨_, rfl⟩
        rw [← hnn] at HSC hcl
        have hBl := hB4.1
        have hBc := hB4.2.1
        have hOl := k24.1
        have hOc := k24.2.1
        have hw1 : wrap64 ((ob.length : Int) - 1) = (k : Int) := by rw [IntWalk.wrap64_in _ (by omega)]; omega
        have hw1' : IntKind.i64.wrap ((ob.length : Int) - 1) = (k : Int) := by rw [IntWalk.i64_in _ (by omega)]; omega
        have hw2 : wrap64 ((bs.length : Int) - 1) = (m : Int) := by rw [IntWalk.wrap64_in _ (by omega)]; omega
        have hw2' : IntKind.i64.wrap ((bs.length : Int) - 1) = (m : Int) := by rw [IntWalk.i64_in _ (by omega)]; omega
        have hw3 : wrap64 ((ob.length : Int) - (ys.length : Int)) = (nn : Int) := by rw [IntWalk.wrap64_in _ (by omega)]; omega
        have hw3' : IntKind.i64.wrap ((ob.length : Int) - (ys.length : Int)) = (nn : Int) := by rw [IntWalk.i64_in _ (by omega)]; omega
        have s1 : ∀ W : World, (Instr.slice 22 (.slice A2 ob.length c2) none (some (.int .i64 (k : Int))) none).run Try.prog W = .ok (.slice A2 k c2) W := run_cuth Try.underlying22 info_intL _ _ _ k _ rfl (by omega)
        have s2 : ∀ W : World, (Instr.slice 41 (.slice B bs.length d) none (some (.int .i64 (m : Int))) none).run Try.prog W = .ok (.slice B m d) W := run_cuth Try.underlying41 info_batL _ _ _ m _ rfl (by omega)
        have hTk := k24.take k
        have hTkl : (ob.take k).length = k := by rw [List.length_take]; omega
        have hTm := hB4.take m
        have hTml : (bs.take m).length = m := by rw [List.length_take]; omega
        obtain ⟨xs, hxs⟩ : ∃ xs, xs = ob.take k := ⟨_, rfl⟩
        obtain ⟨us, hus⟩ : ∃ us, us = bs.take m := ⟨_, rfl⟩
        rw [← hxs] at hTk hTkl HSC
        rw [← hus] at hTm hTml HSC
        obtain ⟨ad2, C1, d1, rfl, _, hi1, q0, q1, q2, q3, q4, q5⟩ := hB4.bat_at hml
        have HC1 := LogScan_any xs A2 c2 _ w4 hTk (by omega)
        rw [HSC.out, hTkl] at HC1
        dsimp only at HC1
        rw [hTml] at HC1
        have HC1 := Lib.hid HC1
        have hkO : k ≤ ob.length := by omega
        have hm8 : m ≤ 9 := by have := (logB_all HV.out).1; omega
        clear hm hk hcl hnn hys hxs hus hTk hTkl h0
        go_wp2_with fail
        refine HC1.out.mono ?_
        rintro e w5 ⟨A5, c5, rfl, hX5, hb5⟩
        have R5 := hX5.toK
        have b5 := bthen b4 hb5
        have hi5 := hi1.below hb5
        have hT5 := hTm.below hb5
        have Q0 := below_cell hb5 q0
        have Q1 := below_cell hb5 q1
        have Q2 := below_cell hb5 q2
        have Q3 := below_cell hb5 q3
        have Q4 := below_cell hb5 q4
        have Q5 := below_cell hb5 q5
        clear hX5 b4 hb5 hB4 k24 k34 hi1 hTm q0 q1 q2 q3 q4 q5 HC1
        go_wp2_with fail
        refine (BatchBytes_any bs[m] C1 d1 _ _ hi5).mono ?_
        rintro e w6 ⟨v6, rfl, HV6, hb6⟩
        rw [HYS.out] at HV6
        rw [HBK.out]
        obtain ⟨A6, c6, rfl, k6⟩ := AppP.row HV6
        have R6 := R5.below hb6
        have hT6 := hT5.below hb6
        have b6 := bthen b5 hb6
        clear HV6 hb6 R5 hT5 b5 hi5 Q0 Q1 Q2 Q3 Q4 Q5
        have HC2 := sameLog_any us us A5 (some ad2) c5 d _ _ w6 R6 hT6
        rw [hTml, decide_eq_true rfl] at HC2
        go_wp2_with fail
        refine HC2.mono ?_
        rintro e w7 ⟨rfl, hb7⟩
        have b7 := Lib.hid (bthen b6 hb7)
        clear b6 hb7 R6 hT6 HC2
        go_wp2
        go_ret
        exact ⟨by simp, b7.out⟩
  · go_enter Try.func5, Try.ntmps5
    go_wp2
    go_ret
    exact ⟨rfl, Below.refl _ _⟩
end Go.Proofs.Ytomcjjehfocbmaa
