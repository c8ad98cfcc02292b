/- The law FnLogScanOrder: offsets ascend. -/
import Derived.Test.YtomcjjehfocbmaaSl
import Derived.Test.YtomcjjehfocbmaaSs
import Derived.Test.YtomcjjehfocbmaaPj
import Derived.Test.YtomcjjehfocbmaaLb
import Derived.Test.YtomcjjehfocbmaaDw
import Derived.Test.YtomcjjehfocbmaaE1
import Derived.Test.YtomcjjehfocbmaaE3
namespace Go.Proofs.Ytomcjjehfocbmaa
set_option linter.unusedVariables false
set_option linter.unusedSimpArgs false
open Go.RowKit

theorem info_intL : (Try.prog.info? 3).map (fun i => (i.zero, i.size, i.bytes)) = some (some (.int .i64 0), 1, 8) := by kernel_rfl

set_option maxRecDepth 20000 in
set_option maxHeartbeats 4000000 in
theorem logScanOrder_walk (b0 : List Int) (A : Option Addr) (c : Nat) (w : World) (h : Kind.byte.Row w (fun _ => True) A c b0) :
    Calls Try.prog 9 #[.slice A b0.length c] w fun e w' => e = .returned (.bool true) ∧ Below w.heap.size w w' := by
  have hl := h.1
  have hc := h.2.1
  by_cases hs : b0.length ≤ 1048576
  · go_enter Try.func9, Try.ntmps9
    go_wp2_with fail
    refine (DrawLogScan_any b0 A c _ _ h).mono ?_
    rintro e w1 ⟨l, B, d, rfl, hll, hR, b1⟩
    have hlB := hR.1
    have hcB := hR.2.1
    have HR := Lib.hid (show scanOf l = ((scanOf l).1, (scanOf l).2.1, (scanOf l).2.2) from rfl)
    obtain ⟨g1, g2, g3, g4⟩ := scan_good l
    have g5 := scan_again l
    have g6 := scan_twice (l := l)
    obtain ⟨ts, hts⟩ : ∃ ts, ts = (scanOf l).1 := ⟨_, rfl⟩
    obtain ⟨nn, hnn⟩ : ∃ nn, nn = (scanOf l).2.1 := ⟨_, rfl⟩
    obtain ⟨wy, hwy⟩ : ∃ wy, wy = (scanOf l).2.2 := ⟨_, rfl⟩
    rw [← hts] at g1 g3 g4 g5 g6
    rw [← hnn] at g2 g3 g4 g5 g6
    rw [← hwy] at g6
    rw [← hts, ← hnn, ← hwy] at HR
    have G1 := Lib.hid g1
    have G3 := Lib.hid g3
    have G4 := Lib.hid g4
    have G5 := Lib.hid g5
    have G6 := Lib.hid g6
    clear hts hnn hwy g1 g3 g4 g5 g6
    go_wp2_with fail
    have HC := LogScan_any l B d _ w1 hR (by omega)
    rw [HR.out] at HC
    refine HC.mono ?_
    rintro e w2 ⟨A2, c2, rfl, hX2, hb2⟩
    have R2 := hX2.toK
    have b2 := bthen b1 hb2
    have hR2 := hR.below hb2
    clear HC hX2 hb2 b1 hR
    go_wp2_with fail
    have HC := LogScanS_any l B d _ w2 hR2 (by omega)
    rw [HR.out] at HC
    refine HC.mono ?_
    rintro e w3 ⟨A3, c3, rfl, hX3, hb3⟩
    have R3 := hX3.toK
    have R23 := R2.below hb3
    have hR3 := hR2.below hb3
    have b3 := bthen b2 hb3
    clear HC hX3 hb3 b2 hR2 R2
    go_wp2_with fail
    refine (sameLog_any ts ts A2 A3 c2 c3 _ _ w3 R23 R3).mono ?_
    rintro e w4 ⟨rfl, hb4⟩
    rw [decide_eq_true rfl]
    have R24 := R23.below hb4
    have R34 := R3.below hb4
    have hR4 := hR3.below hb4
    have b4 := bthen b3 hb4
    clear b3 hb4 R23 R3 hR3
    by_cases hw : wy = 0
    · subst hw
      by_cases h0 : nn = 0
      · have z0 : ((nn : Int) == 0) = true := by simp [h0]
        have H0 := Lib.hid h0
        clear h0
        go_wp2_with fail
        refine (sameLog_any ts ts A2 A3 c2 c3 _ _ w4 R24 R34).mono ?_
        rintro e w5 ⟨rfl, hb5⟩
        rw [decide_eq_true rfl]
        have b5 := Lib.hid (bthen b4 hb5)
        clear b4 hb5 R24 R34 hR4
        go_wp2
        go_ret
        exact ⟨rfl, b5.out⟩
      · have z0 : ((nn : Int) == 0) = false := by simp; omega
        by_cases hlt : nn < l.length
        · have z1 : decide ((nn : Int) < (l.length : Int)) = true := by simp; omega
          have z2 : decide (nn < l.length) = true := by simp; omega
          go_wp2_with fail
          refine (sameLog_any ts ts A2 A3 c2 c3 _ _ w4 R24 R34).mono ?_
          rintro e w5 ⟨rfl, hb5⟩
          rw [decide_eq_true rfl]
          have b5 := Lib.hid (bthen b4 hb5)
          clear b4 hb5 R24 R34 hR4
          go_wp2
          go_ret
          exact ⟨rfl, b5.out⟩
        · have z1 : decide ((nn : Int) < (l.length : Int)) = false := by simp; omega
          have z2 : decide (nn < l.length) = false := by simp; omega
          have hnl : nn = l.length := by omega
          have hg6 := G6.out rfl hnl (by omega)
          have HG6 := Lib.hid hg6
          clear hg6 R34
          subst hnl
          have HX0 : App (Kind.int .i64) 3 (w4.alloc (.cells #[] 3)) w4.heap.size (.slice (some ⟨w4.heap.size, 0, none⟩) 0 0) [] := appP_lit (heap_alloc_new _ _) (Nat.le_refl _)
          have hR5 := hR4.below (bal w4 (.cells #[] 3))
          have b5 := bthen b4 (bal w4 (.cells #[] 3))
          have R25 := R24.below (bal w4 (.cells #[] 3))
          have hz5 : w4.heap.size < (w4.alloc (.cells #[] 3)).heap.size := by simp
          go_wp2_with (at_builtin; go_loud (refine wpList_appF (Kind.int .i64) HX0 rfl _ _ 22 (.int .i64 0) 8 rfl Try.underlying22 (by kernel_rfl) rfl (bnd_int .i64) (onec_int .i64) (flat_int .i64) rfl rfl rfl hR5 (fun b hb => by omega) (by simp; omega) (by simp; omega) ?_))
          intro v6 w6 HX6 hc6 _
          have hne6 : ∀ b, (Value.slice (some ⟨w4.heap.size, 0, none⟩) 0 0).ownBlock = some b → w4.heap.size ≤ b := fun b hb => by simp [Value.ownBlock] at hb; omega
          have b6 := b4.trans ((((bal w4 (.cells #[] 3)).trans (hc6.below (Nat.le_of_lt hz5) hne6))).mono b4.size)
          have b46 : Below w4.heap.size w4 w6 := (bal w4 (.cells #[] 3)).trans (hc6.below (Nat.le_of_lt hz5) hne6)
          have hR6 := hR4.below b46
          have R26 := R24.below b46
          have hs46 := b46.size
          clear hc6 HX0 hR5 R25 hz5 b5 hne6
          go_wp2_with (at_builtin; go_loud (refine wpList_appF (Kind.int .i64) HX6 rfl _ _ 22 (.int .i64 0) 8 rfl Try.underlying22 (by kernel_rfl) rfl (bnd_int .i64) (onec_int .i64) (flat_int .i64) rfl rfl rfl hR6 (fun b hb => by omega) (by omega) (by omega) ?_))
          intro v7 w7 HX7 hc7 _
          obtain ⟨ll, hll2⟩ : ∃ ll, ll = l ++ l := ⟨_, rfl⟩
          have hlll : ll.length ≤ 14000 := by rw [hll2]; simp; omega
          rw [← hll2] at HX7 HG6
          obtain ⟨A7, c7, rfl, k7⟩ := AppP.row HX7
          have b47 := b46.trans (hc7.below (Nat.le_trans b46.size (Nat.le_refl _)) (fun i hi => AppP.ne HX6 hi))
          have R27 := R24.below b47
          have b7 := bthen b4 b47
          obtain ⟨ag, hag⟩ : ∃ ag : Int, ag = if ts.length = 8 then 0 else 3 := ⟨_, rfl⟩
          rw [← hag] at HG6
          have HAG := Lib.hid hag
          clear hag hll2 HX7 hc7 b47 hR6 R26 b46 b6 HX6 R24 hR4 b4 hs46
          have HC := LogScan_any ll A7 c7 _ w7 k7 (by omega)
          rw [HG6.out] at HC
          have HC := Lib.hid HC
          go_wp2_with fail
          refine HC.out.mono ?_
          rintro e w8 ⟨A8, c8, rfl, hX8, hb8⟩
          have R8 := hX8.toK
          have R28 := R27.below hb8
          have b8 := bthen b7 hb8
          clear hX8 hb8 b7 R27 k7 HC
          have HC2 := sameLog_any ts ts A8 A2 c8 c2 _ _ w8 R8 R28
          rw [decide_eq_true rfl] at HC2
          have HC2 := Lib.hid HC2
          clear R8 R28
          go_wp2_with fail
          refine HC2.out.mono ?_
          rintro e w9 ⟨rfl, hb9⟩
          have b9 := Lib.hid (bthen b8 hb9)
          clear hb9 b8 HC2
          by_cases h8 : ts.length = 8
          · have hag := HAG.out
            rw [if_pos h8] at hag
            subst hag
            have e8 : ((ts.length : Int) == 8) = true := by simp; omega
            have H8 := Lib.hid h8
            clear h8
            go_wp2
            go_ret
            exact ⟨by simp, b9.out⟩
          · have hag := HAG.out
            rw [if_neg h8] at hag
            subst hag
            clear h8
            go_wp2
            go_ret
            exact ⟨by simp, b9.out⟩
    · have zw : (wy != 0) = true := by simp [hw]
      go_wp2_with fail
      refine (sameLog_any ts ts A2 A3 c2 c3 _ _ w4 R24 R34).mono ?_
      rintro e w5 ⟨rfl, hb5⟩
      rw [decide_eq_true rfl]
      have b5 := Lib.hid (bthen b4 hb5)
      clear b4 hb5 R24 R34 hR4
      go_wp2
      go_ret
      exact ⟨rfl, b5.out⟩
  · go_enter Try.func9, Try.ntmps9
    go_wp2
    go_ret
    exact ⟨rfl, Below.refl _ _⟩
end Go.Proofs.Ytomcjjehfocbmaa
