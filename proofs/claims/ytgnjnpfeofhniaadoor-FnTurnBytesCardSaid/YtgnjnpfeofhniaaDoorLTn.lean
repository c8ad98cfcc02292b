/- The law FnTurnBytes: what was turned is written and read. -/
import Derived.Test.YtgnjnpfeofhniaaDoorTs
import Derived.Test.YtgnjnpfeofhniaaDoorDt
import Derived.Test.YtgnjnpfeofhniaaDoorBt
import Derived.Test.YtgnjnpfeofhniaaDoorE3
import Derived.Test.YtgnjnpfeofhniaaDoorBf
namespace Go.Proofs.YtgnjnpfeofhniaaDoor
set_option linter.unusedVariables false
set_option linter.unusedSimpArgs false
open Go.RowKit

theorem BatchFrom_turn (l : List Int) (A : Option Addr) (c : Nat) (F : Nat → Prop) (p : Nat) (P : Int) (w : World) (h : Ints w F A c l) (hb : bytesB l = true) (hn : l.length ≤ 4194304) {b : Bat} (hr : rdBat l p = some b) (hP : P = (p : Int)) (x : Int) (hx : ((p + (batBytes b).length : Nat) : Int) = x) :
    Calls Tryd.prog 9 #[.slice A l.length c, .int .i64 P] w fun e w' => ∃ A' c', e = .returned (.tuple #[BV b A' c', .int .i64 x, .bool true]) ∧ XRecs 3 46 w' (fun g => w.heap.size ≤ g) A' c' b.recs ∧ Below w.heap.size w w' := by
  subst hP hx
  exact BatchFrom_some l A c F p w h hb hn hr
theorem turn_val {ms : List Old'} {pk : Bool} (h : turnOk ms pk = true) : batB (turnR ms pk) = true := by
  rw [turn_yes h]
  unfold turnOk at h
  simp only [Bool.and_eq_true] at h
  exact h.2

set_option maxRecDepth 20000 in
set_option maxHeartbeats 4000000 in
theorem turn_walk (b0 : List Int) (A : Option Addr) (c : Nat) (w : World) (h : Kind.byte.Row w (fun _ => True) A c b0) (hg : LaidC w) :
    Calls Tryd.prog 3 #[.slice A b0.length c] w fun e w' => e = .returned (.bool true) ∧ Below w.heap.size w w' := by
  have hl := h.1
  have hc := h.2.1
  have HG := Lib.hid hg
  clear hg
  by_cases hs : b0.length ≤ 1048576
  · go_enter Tryd.func3, Tryd.ntmps3
    go_wp2_with fail
    refine (DrawOldTurn_any b0 A c _ _ h).mono ?_
    rintro e w0 ⟨ms, A0, c0, pk, rfl, hti, hO, hb0⟩
    have HTI := Lib.hid (show ∀ m ∈ ms, m.key.length ≤ 1048576 ∧ m.val.length ≤ 1048576 from fun m hm => ⟨Nat.le_trans (hti m hm).1 (by decide), Nat.le_trans (hti m hm).2 (by decide)⟩)
    obtain ⟨b, hbv⟩ : ∃ b, b = turnR ms pk := ⟨_, rfl⟩
    obtain ⟨ok, hok⟩ : ∃ o, o = turnOk ms pk := ⟨_, rfl⟩
    have HBV := Lib.hid (show ok = true → batB b = true by rw [hok, hbv]; exact turn_val)
    have HE := Lib.hid (show b = turnR ms pk ∧ ok = turnOk ms pk from ⟨hbv, hok⟩)
    clear hti hbv hok
    go_wp2_with fail
    refine (OldTurn_any ms A0 c0 _ pk w0 hO HTI.out).mono ?_
    intro e w1 h1
    unfold TurnOut at h1
    rw [← HE.out.1, ← HE.out.2] at h1
    obtain ⟨A1, c1, rfl, hR1, hb1⟩ := h1
    have hO1 := hO.below hb1
    have B1 := bthen hb0 hb1
    clear hO hb0 hb1
    go_wp2_with fail
    generalize hW : World.alloc _ _ = W1
    obtain ⟨hA1, bW1, hzW1⟩ := alloc1 hW
    clear hW hzW1
    refine (OldTurnS_any ms A0 c0 _ pk W1 (hO1.below bW1) HTI.out).mono ?_
    intro e w2 h2
    unfold TurnOut at h2
    rw [← HE.out.1, ← HE.out.2] at h2
    obtain ⟨A2, c2, rfl, hR2, hb2⟩ := h2
    have B2 := bthen (bthen B1 bW1) hb2
    have hA2 := blk_below hA1 hb2
    have hR1' := (hR1.below bW1).below hb2
    clear hO1 B1 hA1 hR1 bW1 hb2
    obtain ⟨z0, z1, z2, z3, z4, z5, zf⟩ := six hA2
    have hlt2 := blk_lt2 hA2
    cases ok
    · go_wp2_with fail
      generalize hW : World.alloc _ _ = W2
      obtain ⟨hC2, bW2, hzW2⟩ := alloc1 hW
      clear hW hzW2
      refine (sameBatch_any b b A1 A2 c1 c2 _ _ W2 (hR1'.below bW2) (hR2.below bW2)).mono ?_
      rintro e w3 ⟨rfl, hb3⟩
      rw [decide_eq_true rfl]
      have hA3 := blk_below (blk_below hA2 bW2) hb3
      have hC3 := blk_below hC2 hb3
      have B3 := bthen (bthen B2 bW2) hb3
      have hR3 := (hR1'.below bW2).below hb3
      have hQ3 := (hR2.below bW2).below hb3
      clear z0 z1 z2 z3 z4 z5 zf hA2 hC2 B2 hR1' hR2 hb3 bW2
      obtain ⟨z0, z1, z2, z3, z4, z5, zf⟩ := six hA3
      obtain ⟨y0, y1, y2, y3, y4, y5, yf⟩ := six hC3
      clear hA3 hC3
      go_wp2_with fail
      refine (sameBatch_any b b A1 A2 c1 c2 _ _ w3 hR3 hQ3).mono ?_
      rintro e w4 ⟨rfl, hb4⟩
      rw [decide_eq_true rfl]
      have B4 := Lib.hid (bthen B3 hb4)
      clear hb4 B3
      go_wp2
      go_ret
      exact ⟨rfl, B4.out⟩
    · have HV := Lib.hid (HBV.out rfl)
      go_wp2_with fail
      generalize hW : World.alloc _ _ = W2
      obtain ⟨hC2, bW2, hzW2⟩ := alloc1 hW
      clear hW hzW2
      refine (sameBatch_any b b A1 A2 c1 c2 _ _ W2 (hR1'.below bW2) (hR2.below bW2)).mono ?_
      rintro e w3 ⟨rfl, hb3⟩
      rw [decide_eq_true rfl]
      have hA3 := blk_below (blk_below hA2 bW2) hb3
      have B3 := bthen (bthen B2 bW2) hb3
      have hR3 := (hR1'.below bW2).below hb3
      clear z0 z1 z2 z3 z4 z5 zf hA2 hC2 B2 hR1' hR2 hb3 bW2
      obtain ⟨z0, z1, z2, z3, z4, z5, zf⟩ := six hA3
      go_wp2_with fail
      refine (BatchBytes_any b A1 c1 _ w3 hR3).mono ?_
      rintro e w4 ⟨v4, rfl, HV4, hb4⟩
      rw [HV.out]
      obtain ⟨Ao, co, rfl, ro⟩ := AppP.row HV4
      have hA4 := blk_below hA3 hb4
      have hR4 := hR3.below hb4
      have B4 := bthen B3 hb4
      have hol := batOut_len b
      have hob := batOut_bytes b
      obtain ⟨ob, hob2⟩ : ∃ o, o = batOut b := ⟨_, rfl⟩
      rw [← hob2] at ro hol hob
      rw [← hob2]
      have HOBB := Lib.hid (show ob = batBytes b by rw [hob2, batOut_yes HV.out])
      have hln : 18 ≤ ob.length := by rw [hob2, batOut_yes HV.out, batBytes_len]; omega
      have BB := Lib.hid B4
      clear hob2 HV4 hA3 hR3 B3 B4 hb4 z0 z1 z2 z3 z4 z5 zf
      obtain ⟨z0, z1, z2, z3, z4, z5, zf⟩ := six hA4
      go_wp2_with fail
      refine (BatchFrom_turn ob Ao co _ 0 0 w4 ro hob (by omega) (b := b) (by rw [HOBB.out]; exact rdBat_some (batAt_self HV.out)) rfl (ob.length : Int) (by rw [HOBB.out]; simp)).mono ?_
      rintro e w5 ⟨A5, c5, rfl, HX5, hb5⟩
      have hA5 := blk_below hA4 hb5
      have hR5 := hR4.below hb5
      have hX5 := HX5.toK
      have B5 := Lib.hid (bthen BB.out hb5)
      have hlt5 := blk_lt2 hA5
      clear z0 z1 z2 z3 z4 z5 zf hA4 hR4 HX5 hb5 ro
      obtain ⟨z0, z1, z2, z3, z4, z5, zf⟩ := six hA5
      go_wp2_with fail
      refine (sameBatch_any b b A5 A1 c5 c1 _ _ _ (hX5.below (bal _ _)) (hR5.below (bal _ _))).mono ?_
      rintro e w6 ⟨rfl, hb6⟩
      rw [decide_eq_true rfl]
      have B6 := Lib.hid (bthen (bthen B5.out (bal _ _)) hb6)
      clear hb6
      go_wp2
      go_ret
      exact ⟨by simp, B6.out⟩
  · go_enter Tryd.func3, Tryd.ntmps3
    go_wp2
    go_ret
    exact ⟨rfl, Below.refl _ _⟩
end Go.Proofs.YtgnjnpfeofhniaaDoor
