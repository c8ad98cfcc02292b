/- Laws of appending: what was there stays. -/
import Derived.Test.YtlgcajjoimcdhaaLAe
namespace Go.Proofs.Ytlgcajjoimcdhaa
set_option linter.unusedVariables false
set_option linter.unusedSimpArgs false
open Go.RowKit

set_option maxHeartbeats 4000000 in
theorem appendOthers_walk (b0 : List Int) (A : Option Addr) (c : Nat) (w : World) (h : Kind.byte.Row w (fun _ => True) A c b0) :
    Calls Try.prog 5 #[.slice A b0.length c] w fun e w' => e = .returned (.bool true) ∧ Below w.heap.size w w' := by
  have hl := h.1
  have hc := h.2.1
  by_cases hs : b0.length ≤ 1048576
  · go_enter Try.func5, Try.ntmps5
    go_wp2_with fail
    refine (DrawLogAppend_any b0 A c _ _ h).mono ?_
    rintro e w1 ⟨bs, B, d, b, B1, d1, rfl, hD, hok, hR⟩
    have hB := hD.row
    have hb1 := hD.below
    clear hD hok
    go_wp2_with fail
    generalize hW : World.alloc _ _ = W
    obtain ⟨hA, c1, hsW⟩ := alloc1 hW
    clear hW
    refine (LogAppend_any bs b B B1 d d1 _ _ W (hB.below c1) (hR.below c1)).mono ?_
    rintro e w2 ⟨v2, D2, rfl, hX2, hb2⟩
    obtain ⟨xs, hxs⟩ : ∃ xs, xs = logAppend bs b := ⟨_, rfl⟩
    rw [← hxs] at hX2
    obtain ⟨A2, c2, rfl, hJ2⟩ := hX2.row
    have b2 := bthen c1 hb2
    have hA2 := blk_below hA hb2
    obtain ⟨p0, p1, p2, p3, p4, p5, pf⟩ := six hA2
    have HXS := Lib.hid hxs
    obtain ⟨q, hq⟩ : ∃ q, q = appB bs b := ⟨_, rfl⟩
    rw [← hq]
    have HQ := Lib.hid hq
    clear hxs hX2 hq hA hsW
    go_wp2_with fail
    refine (LogAppendS_any bs b B B1 d d1 _ _ w2 (hB.below b2) (hR.below b2)).mono ?_
    rintro e w3 ⟨v3, D3, rfl, hX3, hb3⟩
    rw [← HXS.out] at hX3
    obtain ⟨A3, c3, rfl, hJ3⟩ := hX3.row
    rw [← HQ.out]
    have b3 := bthen b2 hb3
    have hJ2 := hJ2.toK.below hb3
    have hJ3 := hJ3.toK
    have hA3 := blk_below hA2 hb3
    clear hA2 hX3 p0 p1 p2 p3 p4 p5 pf
    go_wp2_with fail
    refine (sameLog_any xs xs A2 A3 c2 c3 _ _ w3 hJ2 hJ3).mono ?_
    rintro e w4 ⟨rfl, hb4⟩
    rw [decide_eq_true rfl]
    have b4 := bthen b3 hb4
    have hA4 := blk_below hA3 hb4
    clear hA3
    have hJ2 := hJ2.below hb4
    have hJ3 := hJ3.below hb4
    cases hqq : q
    · go_wp2_with fail
      refine (sameLog_any xs xs A2 A3 c2 c3 _ _ w4 hJ2 hJ3).mono ?_
      rintro e w5 ⟨rfl, hb5⟩
      rw [decide_eq_true rfl]
      have HB := Lib.hid (bthen hb1 (bthen b4 hb5))
      clear hb5 b4 hb4 b3 hb3 b2 hb2 hJ2 hJ3
      go_wp2
      go_ret
      exact ⟨rfl, HB.out⟩
    · have hap : appB bs b = true := by rw [← HQ.out, hqq]
      have hxe := HXS.out
      rw [logAppend_yes hap] at hxe
      obtain ⟨hxl, hx2⟩ := appd_at hxe
      have hlog := ((logB_iff _).1 (appB_log hap).1).1
      have hxk : xs.length - 1 < xs.length := by omega
      have hx1 : 1 ≤ xs.length := by omega
      have hx9 : xs.length ≤ 9 := by omega
      have hel := Lib.hid (hx2 hxk)
      have hjl := hJ2.1
      have hjc := hJ2.2.1
      have htk : xs.take bs.length = bs := by rw [hxe]; unfold appd; rw [List.take_left]
      have hee : (((xs.length : Int) - 1) == (bs.length : Int)) = true := beq_iff_eq.2 (by omega)
      obtain ⟨ad, C, k, rfl, _, hr, q0, q1, q2, q3, q4, q5⟩ := hJ2.bat_at hxk
      rw [hel.out] at hr q0 q1 q2 q3 q4 q5
      have hT := hJ2.take bs.length
      rw [htk] at hT
      simp only [Bat.holding] at hr q0 q1 q2 q3 q4 q5
      obtain ⟨rs, hrs⟩ : ∃ rs, rs = renum b.recs (readEnd bs) := ⟨_, rfl⟩
      rw [← hrs] at hr q5
      obtain ⟨p0, p1, p2, p3, p4, p5, pf⟩ := six hA4
      have s1 : ∀ W : World, (Instr.slice 23 (.slice (some ad) xs.length c2) none (some (.int .i64 ((xs.length : Int) - 1))) none).run Try.prog W = .ok (.slice (some ad) bs.length c2) W :=
        run_cuth Try.underlying23 info_batC _ _ _ bs.length _ (by omega) (by omega)
      clear hxe hx2 hxl hlog hrs hap hqq htk
      go_wp2_with fail
      generalize hW5 : World.alloc _ _ = W5
      obtain ⟨hA5, c5, hz5⟩ := alloc1 hW5
      clear hW5
      refine (sameLog_any bs bs (some ad) B c2 d _ _ W5 (hT.below c5) (hB.below (bthen b4 c5))).mono ?_
      rintro e w6 ⟨rfl, hb6⟩
      rw [decide_eq_true rfl]
      have hb56 := bthen c5 hb6
      clear p0 p1 p2 p3 p4 p5 pf q0 q1 q2 q3 q4 q5
      obtain ⟨p0, p1, p2, p3, p4, p5, pf⟩ := six (blk_below hA4 hb56)
      obtain ⟨q0, q1, q2, q3, q4, q5, qf⟩ := six (blk_below hA5 hb6)
      have HB := Lib.hid (bthen hb1 (bthen b4 hb56))
      clear hb6 b4 hb4 b3 hb3 b2 hb2 hJ2 hJ3 hA4 hA5 hb56 c5 hr hT s1
      go_wp2
      go_ret
      exact ⟨rfl, HB.out⟩
  · go_enter Try.func5, Try.ntmps5
    go_wp2
    go_ret
    exact ⟨rfl, Below.refl _ _⟩
end Go.Proofs.Ytlgcajjoimcdhaa
