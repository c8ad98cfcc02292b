/- The law FnLogTornAny: nothing is made up. -/
import Derived.Test.YtomcjjehfocbmaaSl
import Derived.Test.YtomcjjehfocbmaaLb
import Derived.Test.YtomcjjehfocbmaaDw
import Derived.Test.YtomcjjehfocbmaaE1
import Derived.Test.YtomcjjehfocbmaaE3
import Derived.Test.YtomcjjehfocbmaaPj
namespace Go.Proofs.Ytomcjjehfocbmaa
set_option linter.unusedVariables false
set_option linter.unusedSimpArgs false
open Go.RowKit

theorem info_intL : (Try.prog.info? 3).map (fun i => (i.zero, i.size, i.bytes)) = some (some (.int .i64 0), 1, 8) := by kernel_rfl
theorem info_batL : (Try.prog.info? 27).map (fun i => (i.zero, i.size, i.bytes)) = some (some (.agg #[.bool false, .bool false, .int .i64 0, .int .i64 0, .int .i64 0, .slice none 0 0]), 6, 56) := by kernel_rfl

set_option maxRecDepth 20000 in
set_option maxHeartbeats 4000000 in
theorem logTornAny_walk (b0 : List Int) (A : Option Addr) (c : Nat) (b1 : List Int) (A1 : Option Addr) (cc1 : Nat) (w : World) (h : Kind.byte.Row w (fun _ => True) A c b0) (h1 : Kind.byte.Row w (fun _ => True) A1 cc1 b1) :
    Calls Try.prog 6 #[.slice A b0.length c, .slice A1 b1.length cc1] w fun e w' => e = .returned (.bool true) ∧ Below w.heap.size w w' := by
  have hl := h.1
  have hc := h.2.1
  have hl1 := h1.1
  have hcc1 := h1.2.1
  by_cases hs : b0.length ≤ 1048576
  · by_cases hs1 : b1.length ≤ 1048576
    · go_enter Try.func6, Try.ntmps6
      go_wp2_with fail
      refine (DrawLogBytes_any b0 A c _ _ h).mono ?_
      rintro e w1 ⟨bs, B, d, rfl, hD⟩
      have hB := hD.row
      have hb1 := hD.below
      have hlB := hB.1
      have hcB := hB.2.1
      clear hD
      go_wp2_with fail
      refine (LogBytes_any bs B d _ w1 hB).mono ?_
      rintro e w2 ⟨v2, rfl, HV2, hb2⟩
      obtain ⟨A2, c2, rfl, k2⟩ := AppP.row HV2
      have hB2 := hB.below hb2
      go_wp2_with fail
      refine (LogBytesS_any bs B d _ w2 hB2).mono ?_
      rintro e w3 ⟨v3, rfl, HV3, hb3⟩
      obtain ⟨A3, c3, rfl, k3⟩ := AppP.row HV3
      have k23 := k2.below hb3
      have hB3 := hB2.below hb3
      have b3 := bthen (bthen hb1 hb2) hb3
      clear HV2 HV3 hB hB2 k2 hb1 hb2 hb3
      have hol := logOut_len bs
      cases hv : logB bs
      · obtain ⟨ob, hob⟩ : ∃ o, o = logOut bs := ⟨_, rfl⟩
        rw [← hob] at k23 k3 hol
        rw [← hob]
        clear hob
        go_wp2_with fail
        refine (sameInts_any ob ob A2 A3 c2 c3 _ _ w3 k23 k3).mono ?_
        rintro e w4 ⟨rfl, hb4⟩
        rw [decide_eq_true rfl]
        have k24 := k23.below hb4
        have k34 := k3.below hb4
        have b4 := bthen b3 hb4
        go_wp2_with fail
        refine (sameInts_any ob ob A2 A3 c2 c3 _ _ w4 k24 k34).mono ?_
        rintro e w5 ⟨rfl, hb5⟩
        rw [decide_eq_true rfl]
        have b5 := Lib.hid (bthen b4 hb5)
        clear b4 hb5 hb4 b3 k24 k34
        go_wp2
        go_ret
        exact ⟨rfl, b5.out⟩
      · have HS := Lib.hid (scan_cat hv)
        have HLO := Lib.hid (logOut_yes hv)
        have HV := Lib.hid hv
        have HALL := Lib.hid (logB_all hv).2
        clear hv
        obtain ⟨ob, hob⟩ : ∃ o, o = logOut bs := ⟨_, rfl⟩
        rw [← hob] at k23 k3 hol HLO
        rw [← hob]
        clear hob
        go_wp2_with fail
        refine (sameInts_any ob ob A2 A3 c2 c3 _ _ w3 k23 k3).mono ?_
        rintro e w4 ⟨rfl, hb4⟩
        rw [decide_eq_true rfl]
        have k24 := k23.below hb4
        have hB4 := hB3.below hb4
        have b4 := bthen b3 hb4
        clear k23 k3 b3 hb4 hB3
        obtain ⟨k, hk⟩ : ∃ k, k = b1.length * 7 % (ob.length + 1) := ⟨_, rfl⟩
        have hkl : k ≤ ob.length := by have := Nat.mod_lt (b1.length * 7) (show 0 < ob.length + 1 by omega); omega
        obtain ⟨j, n, why, hj, hn, hsc, hcase⟩ := scan_any HV.out k (by rw [← HLO.out]; exact hkl)
        rw [← HLO.out] at hsc
        have HSC := Lib.hid hsc
        have hBl := hB4.1
        have hBc := hB4.2.1
        have hOl := k24.1
        have hOc := k24.2.1
        have s1 : ∀ W : World, (Instr.slice 22 (.slice A2 ob.length c2) none (some (.int .i64 (k : Int))) none).run Try.prog W = .ok (.slice A2 k c2) W := run_cuth Try.underlying22 info_intL _ _ _ k _ rfl (by omega)
        have s2 : ∀ W : World, (Instr.slice 41 (.slice B bs.length d) none (some (.int .i64 (j : Int))) none).run Try.prog W = .ok (.slice B j d) W := run_cuth Try.underlying41 info_batL _ _ _ j _ rfl (by omega)
        have hTk := k24.take k
        have hTkl : (ob.take k).length = k := by rw [List.length_take]; omega
        have hTm := hB4.take j
        have hTml : (bs.take j).length = j := by rw [List.length_take]; omega
        obtain ⟨xs, hxs⟩ : ∃ xs, xs = ob.take k := ⟨_, rfl⟩
        obtain ⟨us, hus⟩ : ∃ us, us = bs.take j := ⟨_, rfl⟩
        rw [← hxs] at hTk hTkl HSC
        rw [← hus] at hTm hTml HSC
        have HC1 := LogScan_any xs A2 c2 _ w4 hTk (by omega)
        rw [HSC.out, hTkl] at HC1
        dsimp only at HC1
        rw [hTml] at HC1
        have HC1 := Lib.hid HC1
        have dj : decide ((j : Int) ≤ (bs.length : Int)) = true := by simp; omega
        have dn : decide ((n : Int) ≤ (k : Int)) = true := by simp; omega
        have hkE := Lib.hid hk
        have hrem : ((b1.length : Int) * 7) % ((ob.length : Int) + 1) = (k : Int) := by rw [hk, Int.natCast_emod, Int.natCast_mul, Int.natCast_add]; rfl
        have hn2 : ((ob.length : Int) + 1) ≠ 0 := by omega
        have HT := Lib.hid hTm
        have djn : decide (j ≤ bs.length) = true := by simp; exact hj
        have dnn : decide (n ≤ k) = true := by simp; exact hn
        clear hsc hxs hus hTk hTkl hk hTm
        go_wp2_with fail
        rw [hrem]
        refine HC1.out.mono ?_
        rintro e w5 ⟨A5, c5, rfl, hX5, hb5⟩
        have R5 := hX5.toK
        have b5 := bthen b4 hb5
        have hT5 := HT.out.below hb5
        clear hX5 b4 hb5 hB4 k24 HC1
        have HC2 := sameLog_any us us A5 B c5 d _ _ w5 R5 hT5
        rw [hTml, decide_eq_true rfl] at HC2
        have HC2 := Lib.hid HC2
        have HB5 := Lib.hid b5
        clear R5 hT5 b5
        rcases hcase with ⟨hw0, hnk⟩ | ⟨hw0, hnk⟩
        · subst hw0
          have e1 : ((n : Int) == (k : Int)) = true := by simp; omega
          have HNK := Lib.hid hnk
          clear hnk
          go_wp2_with fail
          refine HC2.out.mono ?_
          rintro e w7 ⟨rfl, hb7⟩
          have b7 := Lib.hid (bthen HB5.out hb7)
          clear hb7 HC2 HB5
          go_wp2
          go_ret
          exact ⟨by simp, b7.out⟩
        · subst hw0
          have e1 : ((n : Int) == (k : Int)) = false := by simp; omega
          have HNK := Lib.hid hnk
          clear hnk
          go_wp2_with fail
          refine HC2.out.mono ?_
          rintro e w7 ⟨rfl, hb7⟩
          have b7 := Lib.hid (bthen HB5.out hb7)
          clear hb7 HC2 HB5
          go_wp2
          go_ret
          exact ⟨by simp, b7.out⟩
    · go_enter Try.func6, Try.ntmps6
      go_wp2
      go_ret
      exact ⟨rfl, Below.refl _ _⟩
  · go_enter Try.func6, Try.ntmps6
    go_wp2
    go_ret
    exact ⟨rfl, Below.refl _ _⟩
end Go.Proofs.Ytomcjjehfocbmaa
