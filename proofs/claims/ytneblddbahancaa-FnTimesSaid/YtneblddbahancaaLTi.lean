/- The law FnTimes. -/
import Derived.Test.YtneblddbahancaaR5
import Derived.Test.YtneblddbahancaaS7
import Derived.Test.YtneblddbahancaaE3
import Derived.Test.YtneblddbahancaaDw
import Derived.Test.YtneblddbahancaaS4
import Derived.Test.YtneblddbahancaaR1
namespace Go.Proofs.Ytneblddbahancaa
set_option linter.unusedVariables false
set_option linter.unusedSimpArgs false
open Go.RowKit

set_option maxRecDepth 100000 in
set_option maxHeartbeats 2000000 in
theorem timesLaw_walk (b0 : List Int) (A : Option Addr) (c : Nat) (w : World) (h : Kind.byte.Row w (fun _ => True) A c b0) :
    Calls Try.prog 9 #[.slice A b0.length c] w fun e w' => e = .returned (.bool true) ∧ Below w.heap.size w w' := by
  have hl := h.1
  have hc := h.2.1
  by_cases hs : b0.length ≤ 1048576
  · go_enter Try.func9, Try.ntmps9
    go_wp2_with fail
    refine (DrawTimesOf_any b0 A c _ _ h).mono ?_
    rintro e w1 ⟨bs, B, d, rfl, hD⟩
    have hB := hD.row
    have hb1 := hD.below
    have hl9 := hD.len
    clear hD
    go_wp2_with fail
    refine (TimesOf_any bs B d _ _ hB).mono ?_
    rintro e w2 ⟨v, rfl, hX2, hb2⟩
    obtain ⟨ts, hts⟩ : ∃ ts, ts = timesOf bs := ⟨_, rfl⟩
    rw [← hts] at hX2
    have HTS := Lib.hid hts
    clear hts
    obtain ⟨A2, c2, rfl, hR2⟩ := AppP.row hX2
    have hR2 := hR2.mono (F' := fun _ => True) (fun _ _ => trivial)
    have hB2 := hB.below hb2
    have b2 := bthen hb1 hb2
    clear hX2 hb1 hb2 hB
    go_wp2_with fail
    refine (TimesOfS_any bs B d _ _ hB2).mono ?_
    rintro e w3 ⟨v3, rfl, hX3, hb3⟩
    rw [← HTS.out] at hX3
    obtain ⟨A3, c3, rfl, hR3⟩ := AppP.row hX3
    have hR3 := hR3.mono (F' := fun _ => True) (fun _ _ => trivial)
    have hR23 := hR2.below hb3
    have hB3 := hB2.below hb3
    have b3 := bthen b2 hb3
    clear hX3 hR2 hb3 hB2 b2
    go_wp2_with fail
    refine (sameInts_any ts ts A2 A3 c2 c3 _ _ _ hR23 hR3).mono ?_
    rintro e w4 ⟨rfl, hb4⟩
    rw [show decide (ts = ts) = true by simp]
    have hR4 := hR23.below hb4
    have hR34 := hR3.below hb4
    have hB4 := hB3.below hb4
    have b4 := Lib.hid (bthen b3 hb4)
    clear b3 hb4 hR3 hR23 hB3
    go_wp2_with fail
    refine (LogValidS_any bs B d _ _ hB4).mono ?_
    rintro e w5 ⟨rfl, hb5⟩
    have hR5 := hR4.below hb5
    have hR35 := hR34.below hb5
    have hB5 := hB4.below hb5
    have b5 := Lib.hid (bthen b4.out hb5)
    clear hb5 b4 hR4 hR34 hB4
    cases hv : logB bs
    · go_wp2_with fail
      refine (sameInts_any ts ts A2 A3 c2 c3 _ _ _ hR5 hR35).mono ?_
      rintro e w6 ⟨rfl, hb6⟩
      rw [show decide (ts = ts) = true by simp]
      go_wp2
      go_ret
      exact ⟨rfl, bthen b5.out hb6⟩
    · have hu : ts = timesUp bs bs.length := by rw [HTS.out]; unfold timesOf; rw [hv]; rfl
      have HLEN := Lib.hid (show ts.length = bs.length by rw [hu, timesUp_len])
      have HAT := Lib.hid (show ∀ k, k < bs.length → ts[k]? = some (timeAt bs k) from fun k hk => by
        rw [hu, List.getElem?_eq_getElem (by rw [timesUp_len]; exact hk), timesUp_at bs _ k hk])
      have hbl := hB5.1
      have hbc := hB5.2.1
      clear hu hv
      go_wp2_with fail
      go_loopw [6, 7] (fun m i wr => ∃ k : Nat, k ≤ bs.length ∧ i = .int .i64 k ∧ m = .int .i64 (mostT (allRecs (bs.take k))) ∧ wr = w5) (fun _ i _ => bs.length - (intOf i).toNat)
      case atStart => exact ⟨0, Nat.zero_le _, rfl, rfl, rfl⟩
      case round =>
        obtain ⟨k, hk, rfl, rfl, rfl⟩ := hrel
        obtain ⟨wo, rfl⟩ : ∃ wo : World, wo = wr := ⟨_, rfl⟩
        by_cases hlt : k < bs.length
        · obtain ⟨ad, B1, b1, rfl, _, hr, q0, q1, q2, q3, q4, q5⟩ := hB5.bat_at hlt
          have hrl := hr.1
          have hrc := hr.2.1
          go_wp2_with fail
          go_loopw [6, 8] (fun m i wr => ∃ j : Nat, j ≤ bs[k].recs.length ∧ i = .int .i64 j ∧ m = .int .i64 (mostT (allRecs (bs.take k) ++ bs[k].recs.take j)) ∧ wr = wo) (fun _ i _ => bs[k].recs.length - (intOf i).toNat)
          case atStart => exact ⟨0, Nat.zero_le _, rfl, by simp, rfl⟩
          case round =>
            obtain ⟨j, hj, rfl, rfl, rfl⟩ := hrel
            by_cases hjl : j < bs[k].recs.length
            · obtain ⟨ad2, C1, d1, C2, d2, rfl, _, _, _, r0, r1, r2, r3, r4, r5⟩ := hr.rec_at hjl
              have hm : Hid (mostT (allRecs (bs.take k) ++ bs[k].recs.take (j + 1)) = max (mostT (allRecs (bs.take k) ++ bs[k].recs.take j)) bs[k].recs[j].time) := Lib.hid (by rw [List.take_succ_eq_append_getElem hjl, ← List.append_assoc, mostT_snoc])
              have hmx : (if mostT (allRecs (bs.take k) ++ bs[k].recs.take j) < bs[k].recs[j].time then bs[k].recs[j].time else mostT (allRecs (bs.take k) ++ bs[k].recs.take j)) = mostT (allRecs (bs.take k) ++ bs[k].recs.take (j + 1)) := by rw [hm.out]; split <;> omega
              go_wp2
              go_roundw
              case rel => exact ⟨j + 1, by omega, by go_num, rfl, trivial⟩
              case measure => simp [intOf]; omega
            · have hj2 : j = bs[k].recs.length := by omega
              subst hj2
              have hkl : k < ts.length := by rw [HLEN.out]; exact hlt
              obtain ⟨ad3, rfl, _, t0⟩ := hR5.int_at hkl
              have hat := HAT.out k hlt
              rw [List.getElem?_eq_getElem hkl] at hat
              injection hat with hat
              rw [hat] at t0
              have HM := Lib.hid (show mostT (allRecs (bs.take k) ++ bs[k].recs.take bs[k].recs.length) = timeAt bs k by rw [List.take_length]; unfold timeAt; rw [allRecs_take_succ hlt])
              have HMM : Hid (mostT (allRecs (bs.take (k + 1))) = timeAt bs k) := Lib.hid rfl
              clear hat
              rw [HM.out]
              go_wp2
              go_roundw
              case rel => exact ⟨k + 1, by omega, by go_num, by rw [HMM.out], trivial⟩
              case measure => simp [intOf]; omega
        · have hle : ((ts.length : Int) == (bs.length : Int)) = true := by rw [HLEN.out]; simp
          go_wp2
          go_ret
          exact ⟨rfl, b5.out⟩
  · go_enter Try.func9, Try.ntmps9
    go_wp2
    go_ret
    exact ⟨rfl, Below.refl _ _⟩
end Go.Proofs.Ytneblddbahancaa
