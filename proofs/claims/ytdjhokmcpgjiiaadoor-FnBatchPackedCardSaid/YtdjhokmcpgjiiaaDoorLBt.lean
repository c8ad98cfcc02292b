/- The laws FnBatch, FnBatchPacked: what was written is read. -/
import Derived.Test.YtdjhokmcpgjiiaaDoorDb
import Derived.Test.YtdjhokmcpgjiiaaDoorBt
import Derived.Test.YtdjhokmcpgjiiaaDoorBv
import Derived.Test.YtdjhokmcpgjiiaaDoorE3
import Derived.Test.YtdjhokmcpgjiiaaDoorBf
namespace Go.Proofs.YtdjhokmcpgjiiaaDoor
set_option linter.unusedVariables false
set_option linter.unusedSimpArgs false
open Go.RowKit

theorem BatchFrom_at (l : List Int) (A : Option Addr) (c : Nat) (F : Nat → Prop) (p : Nat) (P : Int) (w : World) (h : Ints w F A c l) (hb : bytesB l = true) (hn : l.length ≤ 4194304) {b : Bat} (hr : rdBat l p = some b) (hP : P = (p : Int)) (x : Int) (hx : ((p + (batBytes b).length : Nat) : Int) = x) :
    Calls Tryd.prog 11 #[.slice A l.length c, .int .i64 P] w fun e w' => ∃ A' c', e = .returned (.tuple #[BV b A' c', .int .i64 x, .bool true]) ∧ XRecs 3 59 w' (fun g => w.heap.size ≤ g) A' c' b.recs ∧ Below w.heap.size w w' := by
  subst hP hx
  exact BatchFrom_some l A c F p w h hb hn hr

set_option maxRecDepth 20000 in
set_option maxHeartbeats 4000000 in
theorem batch_walk (b0 : List Int) (A : Option Addr) (c : Nat) (w : World) (h : Kind.byte.Row w (fun _ => True) A c b0) (hg : LaidC w) :
    Calls Tryd.prog 3 #[.slice A b0.length c] w fun e w' => e = .returned (.bool true) ∧ Below w.heap.size w w' := by
  have hl := h.1
  have hc := h.2.1
  have HG := Lib.hid hg
  clear hg
  by_cases hs : b0.length ≤ 1048576
  · go_enter Tryd.func3, Tryd.ntmps3
    go_wp2_with fail
    refine (DrawBatchBytes_any b0 A c _ _ h).mono ?_
    rintro e w0 ⟨b, A1, c1, rfl, hR0, hb0⟩
    go_wp2_with fail
    generalize hW : World.alloc _ _ = W
    obtain ⟨hA, b1, hz⟩ := alloc1 hW
    clear hW
    have hR := hR0.below b1
    refine (BatchBytes_any b A1 c1 _ W hR).mono ?_
    rintro e w1 ⟨v1, rfl, HV1, hb1⟩
    obtain ⟨Ao, co, rfl, ro⟩ := AppP.row HV1
    have hA1 := blk_below hA hb1
    have B1 := bthen (bthen hb0 b1) hb1
    have hR1 := hR.below hb1
    obtain ⟨z0, z1, z2, z3, z4, z5, zf⟩ := six hA1
    clear hA hR0 hR HV1 hb1 b1 hb0
    go_wp2_with fail
    refine (BatchBytesS_any b A1 c1 _ w1 hR1).mono ?_
    rintro e w2 ⟨v2, rfl, HV2, hb2⟩
    obtain ⟨Aw, cw, rfl, rw_⟩ := AppP.row HV2
    have hA2 := blk_below hA1 hb2
    have B2 := bthen B1 hb2
    have hR2 := hR1.below hb2
    have ro2 := ro.below hb2
    have hol := batOut_len b
    have hob := batOut_bytes b
    obtain ⟨ob, hob2⟩ : ∃ o, o = batOut b := ⟨_, rfl⟩
    rw [← hob2] at ro2 rw_ hol hob
    rw [← hob2]
    have HOB := Lib.hid hob2
    clear hob2 ro z0 z1 z2 z3 z4 z5 zf hA1 B1 hR1 HV2 hb2
    obtain ⟨z0, z1, z2, z3, z4, z5, zf⟩ := six hA2
    cases hv : batB b
    · go_wp2_with fail
      refine (sameInts_any ob ob Ao Aw co cw _ _ w2 ro2 rw_).mono ?_
      rintro e w3 ⟨rfl, hb3⟩
      rw [decide_eq_true rfl]
      have ro3 := ro2.below hb3
      have rw3 := rw_.below hb3
      have B3 := bthen B2 hb3
      go_wp2_with fail
      refine (sameInts_any ob ob Ao Aw co cw _ _ w3 ro3 rw3).mono ?_
      rintro e w4 ⟨rfl, hb4⟩
      rw [decide_eq_true rfl]
      have B4 := Lib.hid (bthen B3 hb4)
      clear hb4 B3 hb3 B2
      go_wp2
      go_ret
      exact ⟨rfl, B4.out⟩
    · have HV := Lib.hid hv
      clear hv
      go_wp2_with fail
      refine (sameInts_any ob ob Ao Aw co cw _ _ w2 ro2 rw_).mono ?_
      rintro e w3 ⟨rfl, hb3⟩
      rw [decide_eq_true rfl]
      have ro3 := ro2.below hb3
      have B3 := bthen B2 hb3
      have hA3 := blk_below hA2 hb3
      have hR3 := hR2.below hb3
      have HL3 := Lib.hid (HG.out.below B3)
      have hlt3 := blk_lt hA3
      clear ro2 rw_ hA2 hR2 B2 hb3 z0 z1 z2 z3 z4 z5 zf
      obtain ⟨z0, z1, z2, z3, z4, z5, zf⟩ := six hA3
      have BB := Lib.hid B3
      have HOBB := Lib.hid (show ob = batBytes b by rw [HOB.out, batOut_yes HV.out])
      have hln : 18 ≤ ob.length := by rw [HOB.out, batOut_yes HV.out, batBytes_len]; omega
      clear B3
      go_wp2_with fail
      refine (BatchFrom_at ob Ao co _ 0 0 w3 ro3 hob (by omega) (b := b) (by rw [HOBB.out]; exact rdBat_some (batAt_self HV.out)) rfl (ob.length : Int) (by rw [HOBB.out]; simp)).mono ?_
      rintro e w4 ⟨A4, c4, rfl, HX4, hb4⟩
      have hA4 := blk_below hA3 hb4
      have hR4 := hR3.below hb4
      have hX4 := HX4.toK
      have B4 := Lib.hid (bthen BB.out hb4)
      have hlt4 := blk_lt hA4
      clear z0 z1 z2 z3 z4 z5 zf hA3 hR3 HX4 hb4 ro3
      obtain ⟨z0, z1, z2, z3, z4, z5, zf⟩ := six hA4
      go_wp2_with fail
      refine (sameBatch_any b b A4 A1 c4 c1 _ _ _ (hX4.below (bal _ _)) (hR4.below (bal _ _))).mono ?_
      rintro e w5 ⟨rfl, hb5⟩
      rw [decide_eq_true rfl]
      have B5 := Lib.hid (bthen (bthen B4.out (bal _ _)) hb5)
      clear hb5
      go_wp2
      go_ret
      exact ⟨by simp, B5.out⟩
  · go_enter Tryd.func3, Tryd.ntmps3
    go_wp2
    go_ret
    exact ⟨rfl, Below.refl _ _⟩
end Go.Proofs.YtdjhokmcpgjiiaaDoor
