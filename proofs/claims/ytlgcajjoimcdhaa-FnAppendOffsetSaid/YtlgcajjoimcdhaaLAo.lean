/- Laws of appending: its own offsets do not count. -/
import Derived.Test.YtlgcajjoimcdhaaLAe
namespace Go.Proofs.Ytlgcajjoimcdhaa
set_option linter.unusedVariables false
set_option linter.unusedSimpArgs false
open Go.RowKit

set_option maxHeartbeats 4000000 in
theorem appendOffset_walk (b0 : List Int) (A : Option Addr) (c : Nat) (w : World) (h : Kind.byte.Row w (fun _ => True) A c b0) :
    Calls Try.prog 4 #[.slice A b0.length c] w fun e w' => e = .returned (.bool true) ∧ Below w.heap.size w w' := by
  have hl := h.1
  have hc := h.2.1
  by_cases hs : b0.length ≤ 1048576
  · go_enter Try.func4, Try.ntmps4
    go_wp2_with fail
    refine (DrawLogAppend_any b0 A c _ _ h).mono ?_
    rintro e w1 ⟨bs, B, d, b, B1, d1, rfl, hD, hok, hR⟩
    have hB := hD.row
    have hb1 := hD.below
    clear hD hok
    go_wp2_with fail
    generalize hW : World.alloc _ _ = W
    obtain ⟨hA, c1, hsW⟩ := alloc1 hW
    clear hW
    refine (LogAppend_any bs b B B1 d d1 _ _ W (hB.below c1) (hR.below c1)).mono ?_
    rintro e w2 ⟨v2, D2, rfl, hX2, hb2⟩
    obtain ⟨xs, hxs⟩ : ∃ xs, xs = logAppend bs b := ⟨_, rfl⟩
    rw [← hxs] at hX2
    obtain ⟨A2, c2, rfl, hJ2⟩ := hX2.row
    have b2 := bthen c1 hb2
    obtain ⟨p0, p1, p2, p3, p4, p5, pf⟩ := six (blk_below hA hb2)
    have HXS := Lib.hid hxs
    obtain ⟨q, hq⟩ : ∃ q, q = appB bs b := ⟨_, rfl⟩
    rw [← hq]
    have HQ := Lib.hid hq
    clear hxs hX2 hq hA hsW
    go_wp2_with fail
    refine (LogAppendS_any bs b B B1 d d1 _ _ w2 (hB.below b2) (hR.below b2)).mono ?_
    rintro e w3 ⟨v3, D3, rfl, hX3, hb3⟩
    rw [← HXS.out] at hX3
    obtain ⟨A3, c3, rfl, hJ3⟩ := hX3.row
    rw [← HQ.out]
    have b3 := bthen b2 hb3
    have hJ2 := hJ2.toK.below hb3
    have hJ3 := hJ3.toK
    clear hX3 p0 p1 p2 p3 p4 p5 pf
    go_wp2_with fail
    refine (sameLog_any xs xs A2 A3 c2 c3 _ _ w3 hJ2 hJ3).mono ?_
    rintro e w4 ⟨rfl, hb4⟩
    rw [decide_eq_true rfl]
    have b4 := bthen b3 hb4
    have hJ2 := hJ2.below hb4
    have hJ3 := hJ3.below hb4
    cases hqq : q
    · go_wp2_with fail
      refine (sameLog_any xs xs A2 A3 c2 c3 _ _ w4 hJ2 hJ3).mono ?_
      rintro e w5 ⟨rfl, hb5⟩
      rw [decide_eq_true rfl]
      have HB := Lib.hid (bthen hb1 (bthen b4 hb5))
      clear hb5 b4 hb4 b3 hb3 b2 hb2 hJ2 hJ3
      go_wp2
      go_ret
      exact ⟨rfl, HB.out⟩
    · have hap : appB bs b = true := by rw [← HQ.out, hqq]
      have hxe := HXS.out
      rw [logAppend_yes hap] at hxe
      have HAG := Lib.hid (appB_again hap)
      have HAA := Lib.hid (logAppend_yes (appB_again hap))
      have HAP := Lib.hid (appd_again bs b)
      have HXE := Lib.hid hxe
      obtain ⟨hxl, hx2⟩ := appd_at hxe
      have hlog := ((logB_iff _).1 (appB_log hap).1).1
      have hxk : xs.length - 1 < xs.length := by omega
      have hx1 : 1 ≤ xs.length := by omega
      have hx9 : xs.length ≤ 9 := by omega
      have hel := Lib.hid (hx2 hxk)
      have hjl := hJ2.1
      have hjc := hJ2.2.1
      obtain ⟨ad, C, k, rfl, _, hr, q0, q1, q2, q3, q4, q5⟩ := hJ2.bat_at hxk
      rw [hel.out] at hr q0 q1 q2 q3 q4 q5
      obtain ⟨rs, hrs⟩ : ∃ rs, rs = (b.holding (renum b.recs (readEnd bs))) := ⟨_, rfl⟩
      rw [← hrs] at hr q0 q1 q2 q3 q4 q5
      have HRS := Lib.hid hrs
      clear hxe hx2 hxl hlog hrs hap hqq
      go_wp2_with fail
      refine (LogAppend_any bs rs B C d k _ _ w4 (hB.below b4) hr).mono ?_
      rintro e w5 ⟨v5, D5, rfl, hX5, hb5⟩
      rw [HRS.out] at hX5 ⊢
      rw [HAA.out, HAP.out, ← HXE.out] at hX5
      rw [HAG.out]
      obtain ⟨A5, c5, rfl, hJ5⟩ := hX5.row
      have hJ5 := hJ5.toK
      have hJ25 := hJ2.below hb5
      have b5 := bthen b4 hb5
      clear hX5 q0 q1 q2 q3 q4 q5 hr
      go_wp2_with fail
      refine (sameLog_any xs xs A5 (some ad) c5 c2 _ _ w5 hJ5 hJ25).mono ?_
      rintro e w6 ⟨rfl, hb6⟩
      rw [decide_eq_true rfl]
      have HB := Lib.hid (bthen hb1 (bthen b5 hb6))
      clear hb6 b5 hb5 b4 hb4 b3 hb3 b2 hb2 hJ2 hJ3 hJ5 hJ25
      go_wp2
      go_ret
      exact ⟨rfl, HB.out⟩
  · go_enter Try.func4, Try.ntmps4
    go_wp2
    go_ret
    exact ⟨rfl, Below.refl _ _⟩
end Go.Proofs.Ytlgcajjoimcdhaa
