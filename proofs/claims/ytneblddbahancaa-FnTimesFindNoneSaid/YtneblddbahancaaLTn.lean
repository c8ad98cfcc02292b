/- The law FnTimesFindNone. -/
import Derived.Test.YtneblddbahancaaR5
import Derived.Test.YtneblddbahancaaS7
import Derived.Test.YtneblddbahancaaE3
import Derived.Test.YtneblddbahancaaDw
import Derived.Test.YtneblddbahancaaS4
import Derived.Test.YtneblddbahancaaR1
namespace Go.Proofs.Ytneblddbahancaa
set_option linter.unusedVariables false
set_option linter.unusedSimpArgs false
open Go.RowKit

set_option maxRecDepth 100000 in
set_option maxHeartbeats 2000000 in
theorem timesFindNoneLaw_walk (b0 : List Int) (A : Option Addr) (c : Nat) (w : World) (h : Kind.byte.Row w (fun _ => True) A c b0) :
    Calls Try.prog 13 #[.slice A b0.length c] w fun e w' => e = .returned (.bool true) ∧ Below w.heap.size w w' := by
  have hl := h.1
  have hc := h.2.1
  by_cases hs : b0.length ≤ 1048576
  · go_enter Try.func13, Try.ntmps13
    go_wp2_with fail
    refine (DrawTimesFind_any b0 A c _ _ h).mono ?_
    rintro e w1 ⟨bs, B, d, t, rfl, ht0, ht1, hD⟩
    have hB := hD.row
    have hb1 := hD.below
    clear hD
    go_wp2_with fail
    refine (TimesFind_any bs B d _ t _ hB).mono ?_
    rintro e w2 ⟨rfl, hb2⟩
    have hB2 := hB.below hb2
    obtain ⟨n, hn⟩ : ∃ n, n = timesFind bs t := ⟨_, rfl⟩
    rw [← hn]
    have HN := Lib.hid hn
    clear hn
    go_wp2_with fail
    refine (TimesFindS_any bs B d _ t _ hB2).mono ?_
    rintro e w3 ⟨rfl, hb3⟩
    have hB3 := hB2.below hb3
    rw [← HN.out]
    go_wp2_with fail
    refine (LogValidS_any bs B d _ _ hB3).mono ?_
    rintro e w4 ⟨rfl, hb4⟩
    have hB4 := hB3.below hb4
    have b4 := Lib.hid (bthen (bthen (bthen hb1 hb2) hb3) hb4)
    clear hb1 hb2 hb3 hb4 hB hB2 hB3
    cases hv : logB bs
    · go_wp2
      go_ret
      exact ⟨rfl, b4.out⟩
    · have HIFF := Lib.hid (findT_none_iff hv t)
      have hu : timesOf bs = timesUp bs bs.length := by unfold timesOf; rw [hv]; rfl
      have HV := Lib.hid hv
      clear hv
      go_wp2_with fail
      refine (TimesOf_any bs B d _ _ hB4).mono ?_
      rintro e w5 ⟨v, rfl, hX5, hb5⟩
      obtain ⟨ts, hts⟩ : ∃ ts, ts = timesOf bs := ⟨_, rfl⟩
      rw [← hts] at hX5
      have HLEN := Lib.hid (show ts.length = bs.length by rw [hts, hu, timesUp_len])
      have HAT := Lib.hid (show ∀ k, k < bs.length → ts[k]? = some (timeAt bs k) from fun k hk => by
        rw [hts, hu, List.getElem?_eq_getElem (by rw [timesUp_len]; exact hk), timesUp_at bs _ k hk])
      clear hts hu
      obtain ⟨A5, c5, rfl, hR5⟩ := AppP.row hX5
      have b5 := Lib.hid (bthen b4.out hb5)
      have htl := hR5.1
      have htc := hR5.2.1
      clear hX5 hb5 hB4
      rw [← HN.out] at HIFF
      by_cases h0 : ts.length = 0
      · have d1 : ((ts.length : Int) == 0) = true := by simp [h0]
        have d2 : (n == -1) = true := by rw [beq_iff_eq]; exact HIFF.out.2 (.inl (by rw [← HLEN.out]; exact h0))
        clear h0
        go_wp2
        go_ret
        exact ⟨rfl, b5.out⟩
      · have d1 : ((ts.length : Int) == 0) = false := by simpa using h0
        obtain ⟨k, hk⟩ : ∃ k, k + 1 = ts.length := ⟨ts.length - 1, by omega⟩
        have hkl : k < ts.length := by omega
        obtain ⟨ad, rfl, _, q0⟩ := hR5.int_at hkl
        have hat := HAT.out k (by rw [← HLEN.out]; exact hkl)
        rw [List.getElem?_eq_getElem hkl] at hat
        injection hat with hat
        rw [hat] at q0
        have HK := Lib.hid hk
        have hi : Hid (n = -1 ↔ timeAt bs k < t) := Lib.hid (by
          rw [HIFF.out, ← HLEN.out, show ts.length - 1 = k by omega]
          exact ⟨fun h => h.elim (fun h => absurd h h0) id, .inr⟩)
        have hk' : (ts.length : Int) - 1 = (k : Int) := by omega
        clear hat hk h0
        by_cases h1 : timeAt bs k < t
        · have d2 : (n == -1) = true := by rw [beq_iff_eq]; exact hi.out.2 h1
          have d3 : decide (timeAt bs k < t) = true := by simp [h1]
          clear h1
          go_wp2
          go_ret
          exact ⟨rfl, b5.out⟩
        · have d2 : (n == -1) = false := by rw [beq_eq_false_iff_ne]; exact fun e => h1 (hi.out.1 e)
          have d3 : decide (timeAt bs k < t) = false := by simp; omega
          clear h1
          go_wp2
          go_ret
          exact ⟨rfl, b5.out⟩
  · go_enter Try.func13, Try.ntmps13
    go_wp2
    go_ret
    exact ⟨rfl, Below.refl _ _⟩
end Go.Proofs.Ytneblddbahancaa
