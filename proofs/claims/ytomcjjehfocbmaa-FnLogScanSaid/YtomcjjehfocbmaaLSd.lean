/- The laws FnLogScan, FnLogScanTwice: what is found is valid, and found again. -/
import Derived.Test.YtomcjjehfocbmaaSl
import Derived.Test.YtomcjjehfocbmaaSs
import Derived.Test.YtomcjjehfocbmaaPj
import Derived.Test.YtomcjjehfocbmaaLb
import Derived.Test.YtomcjjehfocbmaaDw
import Derived.Test.YtomcjjehfocbmaaE1
import Derived.Test.YtomcjjehfocbmaaE3
namespace Go.Proofs.Ytomcjjehfocbmaa
set_option linter.unusedVariables false
set_option linter.unusedSimpArgs false
open Go.RowKit

theorem info_intL : (Try.prog.info? 3).map (fun i => (i.zero, i.size, i.bytes)) = some (some (.int .i64 0), 1, 8) := by kernel_rfl

set_option maxRecDepth 20000 in
set_option maxHeartbeats 4000000 in
theorem logScan_walk (b0 : List Int) (A : Option Addr) (c : Nat) (w : World) (h : Kind.byte.Row w (fun _ => True) A c b0) :
    Calls Try.prog 7 #[.slice A b0.length c] w fun e w' => e = .returned (.bool true) ∧ Below w.heap.size w w' := by
  have hl := h.1
  have hc := h.2.1
  by_cases hs : b0.length ≤ 1048576
  · go_enter Try.func7, Try.ntmps7
    go_wp2_with fail
    refine (DrawLogScan_any b0 A c _ _ h).mono ?_
    rintro e w1 ⟨l, B, d, rfl, hll, hR, b1⟩
    have hlB := hR.1
    have hcB := hR.2.1
    have HR := Lib.hid (show scanOf l = ((scanOf l).1, (scanOf l).2.1, (scanOf l).2.2) from rfl)
    obtain ⟨g1, g2, g3, g4⟩ := scan_good l
    have g5 := scan_again l
    have g6 := scan_twice (l := l)
    obtain ⟨ts, hts⟩ : ∃ ts, ts = (scanOf l).1 := ⟨_, rfl⟩
    obtain ⟨nn, hnn⟩ : ∃ nn, nn = (scanOf l).2.1 := ⟨_, rfl⟩
    obtain ⟨wy, hwy⟩ : ∃ wy, wy = (scanOf l).2.2 := ⟨_, rfl⟩
    rw [← hts] at g1 g3 g4 g5 g6
    rw [← hnn] at g2 g3 g4 g5 g6
    rw [← hwy] at g6
    rw [← hts, ← hnn, ← hwy] at HR
    have G1 := Lib.hid g1
    have G3 := Lib.hid g3
    have G4 := Lib.hid g4
    have G5 := Lib.hid g5
    have G6 := Lib.hid g6
    clear hts hnn hwy g1 g3 g4 g5 g6
    go_wp2_with fail
    have HC := LogScan_any l B d _ w1 hR (by omega)
    rw [HR.out] at HC
    refine HC.mono ?_
    rintro e w2 ⟨A2, c2, rfl, hX2, hb2⟩
    have R2 := hX2.toK
    have b2 := bthen b1 hb2
    have hR2 := hR.below hb2
    clear HC hX2 hb2 b1 hR
    go_wp2_with fail
    have HC := LogScanS_any l B d _ w2 hR2 (by omega)
    rw [HR.out] at HC
    refine HC.mono ?_
    rintro e w3 ⟨A3, c3, rfl, hX3, hb3⟩
    have R3 := hX3.toK
    have R23 := R2.below hb3
    have hR3 := hR2.below hb3
    have b3 := bthen b2 hb3
    clear HC hX3 hb3 b2 hR2 R2
    go_wp2_with fail
    refine (sameLog_any ts ts A2 A3 c2 c3 _ _ w3 R23 R3).mono ?_
    rintro e w4 ⟨rfl, hb4⟩
    rw [decide_eq_true rfl]
    have R24 := R23.below hb4
    have R34 := R3.below hb4
    have hR4 := hR3.below hb4
    have b4 := bthen b3 hb4
    clear b3 hb4 R23 R3 hR3
    have hol := logOut_len ts
    go_wp2_with fail
    refine (LogBytes_any ts A2 c2 _ w4 R24).mono ?_
    rintro e w5 ⟨v5, rfl, HV5, hb5⟩
    rw [logOut_yes G1.out] at HV5
    rw [G1.out]
    obtain ⟨ob, hob⟩ : ∃ o, o = logCat ts := ⟨_, rfl⟩
    rw [← hob] at HV5
    have hon : nn = ob.length := by rw [hob, ← G3.out]
    have hot : l.take nn = ob := by rw [hob, G4.out]
    subst hon
    have HOT := Lib.hid hot
    obtain ⟨A5, c5, rfl, k5⟩ := AppP.row HV5
    have R5 := R24.below hb5
    have hR5 := hR4.below hb5
    have b5 := bthen b4 hb5
    clear HV5 hob hot hb5 b4 R24 R34 hR4
    go_wp2_with fail
    refine (LogValid_any ts A2 c2 _ w5 R5).mono ?_
    rintro e w6 ⟨rfl, hb6⟩
    rw [G1.out]
    have k6 := k5.below hb6
    have hR6 := hR5.below hb6
    have b6 := bthen b5 hb6
    have dn : decide ((ob.length : Int) ≤ (l.length : Int)) = true := by simp; omega
    have s1 : ∀ W : World, (Instr.slice 22 (.slice B l.length d) none (some (.int .i64 (ob.length : Int))) none).run Try.prog W = .ok (.slice B ob.length d) W := run_cuth Try.underlying22 info_intL _ _ _ ob.length _ rfl (by omega)
    have hT6 := hR6.take ob.length
    rw [HOT.out] at hT6
    have HC2 := sameInts_any ob ob A5 B c5 d _ _ w6 k6 hT6
    rw [decide_eq_true rfl] at HC2
    have HC2 := Lib.hid HC2
    clear k5 k6 hb6 hR5 hR6 b5 hT6 R5
    go_wp2_with fail
    refine HC2.out.mono ?_
    rintro e w7 ⟨rfl, hb7⟩
    have b7 := Lib.hid (bthen b6 hb7)
    clear hb7 b6 HC2
    go_wp2
    go_ret
    exact ⟨by simp, b7.out⟩
  · go_enter Try.func7, Try.ntmps7
    go_wp2
    go_ret
    exact ⟨rfl, Below.refl _ _⟩
set_option maxRecDepth 20000 in
set_option maxHeartbeats 4000000 in
theorem logScanTwice_walk (b0 : List Int) (A : Option Addr) (c : Nat) (w : World) (h : Kind.byte.Row w (fun _ => True) A c b0) :
    Calls Try.prog 8 #[.slice A b0.length c] w fun e w' => e = .returned (.bool true) ∧ Below w.heap.size w w' := by
  have hl := h.1
  have hc := h.2.1
  by_cases hs : b0.length ≤ 1048576
  · go_enter Try.func8, Try.ntmps8
    go_wp2_with fail
    refine (DrawLogScan_any b0 A c _ _ h).mono ?_
    rintro e w1 ⟨l, B, d, rfl, hll, hR, b1⟩
    have hlB := hR.1
    have hcB := hR.2.1
    have HR := Lib.hid (show scanOf l = ((scanOf l).1, (scanOf l).2.1, (scanOf l).2.2) from rfl)
    obtain ⟨g1, g2, g3, g4⟩ := scan_good l
    have g5 := scan_again l
    have g6 := scan_twice (l := l)
    obtain ⟨ts, hts⟩ : ∃ ts, ts = (scanOf l).1 := ⟨_, rfl⟩
    obtain ⟨nn, hnn⟩ : ∃ nn, nn = (scanOf l).2.1 := ⟨_, rfl⟩
    obtain ⟨wy, hwy⟩ : ∃ wy, wy = (scanOf l).2.2 := ⟨_, rfl⟩
    rw [← hts] at g1 g3 g4 g5 g6
    rw [← hnn] at g2 g3 g4 g5 g6
    rw [← hwy] at g6
    rw [← hts, ← hnn, ← hwy] at HR
    have G1 := Lib.hid g1
    have G3 := Lib.hid g3
    have G4 := Lib.hid g4
    have G5 := Lib.hid g5
    have G6 := Lib.hid g6
    clear hts hnn hwy g1 g3 g4 g5 g6
    go_wp2_with fail
    have HC := LogScan_any l B d _ w1 hR (by omega)
    rw [HR.out] at HC
    refine HC.mono ?_
    rintro e w2 ⟨A2, c2, rfl, hX2, hb2⟩
    have R2 := hX2.toK
    have b2 := bthen b1 hb2
    have hR2 := hR.below hb2
    clear HC hX2 hb2 b1 hR
    go_wp2_with fail
    have HC := LogScanS_any l B d _ w2 hR2 (by omega)
    rw [HR.out] at HC
    refine HC.mono ?_
    rintro e w3 ⟨A3, c3, rfl, hX3, hb3⟩
    have R3 := hX3.toK
    have R23 := R2.below hb3
    have hR3 := hR2.below hb3
    have b3 := bthen b2 hb3
    clear HC hX3 hb3 b2 hR2 R2
    go_wp2_with fail
    refine (sameLog_any ts ts A2 A3 c2 c3 _ _ w3 R23 R3).mono ?_
    rintro e w4 ⟨rfl, hb4⟩
    rw [decide_eq_true rfl]
    have R24 := R23.below hb4
    have R34 := R3.below hb4
    have hR4 := hR3.below hb4
    have b4 := bthen b3 hb4
    clear b3 hb4 R23 R3 hR3
    have s1 : ∀ W : World, (Instr.slice 22 (.slice B l.length d) none (some (.int .i64 (nn : Int))) none).run Try.prog W = .ok (.slice B nn d) W := run_cuth Try.underlying22 info_intL _ _ _ nn _ rfl (by omega)
    have hT4 := hR4.take nn
    have hTl : (l.take nn).length = nn := by rw [List.length_take]; omega
    obtain ⟨xs, hxs⟩ : ∃ xs, xs = l.take nn := ⟨_, rfl⟩
    have HG5 := Lib.hid (show scanOf xs = (ts, nn, 0) by rw [hxs]; exact G5.out)
    rw [← hxs] at hT4 hTl
    have HC := LogScan_any xs B d _ w4 hT4 (by omega)
    rw [HG5.out, hTl] at HC
    dsimp only at HC
    have HC := Lib.hid HC
    clear hxs hT4 hTl
    go_wp2_with fail
    refine HC.out.mono ?_
    rintro e w5 ⟨A5, c5, rfl, hX5, hb5⟩
    have R5 := hX5.toK
    have R25 := R24.below hb5
    have b5 := bthen b4 hb5
    clear hX5 hb5 b4 R24 R34 hR4 HC
    have HC2 := sameLog_any ts ts A5 A2 c5 c2 _ _ w5 R5 R25
    rw [decide_eq_true rfl] at HC2
    have HC2 := Lib.hid HC2
    clear R5 R25
    go_wp2_with fail
    refine HC2.out.mono ?_
    rintro e w7 ⟨rfl, hb7⟩
    have b7 := Lib.hid (bthen b5 hb7)
    clear hb7 b5 HC2
    go_wp2
    go_ret
    exact ⟨by simp, b7.out⟩
  · go_enter Try.func8, Try.ntmps8
    go_wp2
    go_ret
    exact ⟨rfl, Below.refl _ _⟩
end Go.Proofs.Ytomcjjehfocbmaa
