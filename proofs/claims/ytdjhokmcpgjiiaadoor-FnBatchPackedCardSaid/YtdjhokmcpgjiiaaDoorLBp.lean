/- The law FnBatchPacked. -/
import Derived.Test.YtdjhokmcpgjiiaaDoorLBt
namespace Go.Proofs.YtdjhokmcpgjiiaaDoor
set_option linter.unusedVariables false
set_option linter.unusedSimpArgs false
open Go.RowKit

set_option maxRecDepth 20000 in
set_option maxHeartbeats 4000000 in
theorem batchPacked_walk (b0 : List Int) (A : Option Addr) (c : Nat) (w : World) (h : Kind.byte.Row w (fun _ => True) A c b0) (hg : LaidC w) :
    Calls Tryd.prog 5 #[.slice A b0.length c] w fun e w' => e = .returned (.bool true) ∧ Below w.heap.size w w' := by
  have hl := h.1
  have hc := h.2.1
  have HG := Lib.hid hg
  clear hg
  by_cases hs : b0.length ≤ 1048576
  · go_enter Tryd.func5, Tryd.ntmps5
    go_wp2_with fail
    refine (DrawBatchBytes_any b0 A c _ _ h).mono ?_
    rintro e w0 ⟨b, A1, c1, rfl, hR0, hb0⟩
    go_wp2_with fail
    generalize hW : World.alloc _ _ = W
    obtain ⟨hA, b1, hz⟩ := alloc1 hW
    clear hW
    have hR := hR0.below b1
    refine (BatchBytes_any b A1 c1 _ W hR).mono ?_
    rintro e w1 ⟨v1, rfl, HV1, hb1⟩
    obtain ⟨Ao, co, rfl, ro⟩ := AppP.row HV1
    have hA1 := blk_below hA hb1
    have B1 := bthen (bthen hb0 b1) hb1
    have hR1 := hR.below hb1
    obtain ⟨z0, z1, z2, z3, z4, z5, zf⟩ := six hA1
    clear hA hR0 hR HV1 hb1 b1 hb0
    go_wp2_with fail
    refine (BatchBytesS_any b A1 c1 _ w1 hR1).mono ?_
    rintro e w2 ⟨v2, rfl, HV2, hb2⟩
    obtain ⟨Aw, cw, rfl, rw_⟩ := AppP.row HV2
    have hA2 := blk_below hA1 hb2
    have B2 := bthen B1 hb2
    have hR2 := hR1.below hb2
    have ro2 := ro.below hb2
    have hol := batOut_len b
    have hob := batOut_bytes b
    obtain ⟨ob, hob2⟩ : ∃ o, o = batOut b := ⟨_, rfl⟩
    rw [← hob2] at ro2 rw_ hol hob
    rw [← hob2]
    have HOB := Lib.hid hob2
    clear hob2 ro z0 z1 z2 z3 z4 z5 zf hA1 B1 hR1 HV2 hb2
    obtain ⟨z0, z1, z2, z3, z4, z5, zf⟩ := six hA2
    cases hv : batB b
    · go_wp2_with fail
      refine (sameInts_any ob ob Ao Aw co cw _ _ w2 ro2 rw_).mono ?_
      rintro e w3 ⟨rfl, hb3⟩
      rw [decide_eq_true rfl]
      have ro3 := ro2.below hb3
      have rw3 := rw_.below hb3
      have B3 := bthen B2 hb3
      go_wp2_with fail
      refine (sameInts_any ob ob Ao Aw co cw _ _ w3 ro3 rw3).mono ?_
      rintro e w4 ⟨rfl, hb4⟩
      rw [decide_eq_true rfl]
      have B4 := Lib.hid (bthen B3 hb4)
      clear hb4 B3 hb3 B2
      go_wp2
      go_ret
      exact ⟨rfl, B4.out⟩
    · have HV := Lib.hid hv
      clear hv
      go_wp2_with fail
      refine (sameInts_any ob ob Ao Aw co cw _ _ w2 ro2 rw_).mono ?_
      rintro e w3 ⟨rfl, hb3⟩
      rw [decide_eq_true rfl]
      have ro3 := ro2.below hb3
      have B3 := bthen B2 hb3
      have hA3 := blk_below hA2 hb3
      have hR3 := hR2.below hb3
      have HL3 := Lib.hid (HG.out.below B3)
      have hlt3 := blk_lt hA3
      clear ro2 rw_ hA2 hR2 B2 hb3 z0 z1 z2 z3 z4 z5 zf
      obtain ⟨z0, z1, z2, z3, z4, z5, zf⟩ := six hA3
      have BB := Lib.hid B3
      have HOBB := Lib.hid (show ob = batBytes b by rw [HOB.out, batOut_yes HV.out])
      have hln : 18 ≤ ob.length := by rw [HOB.out, batOut_yes HV.out, batBytes_len]; omega
      clear B3
      have HTO := Lib.hid (turn_ok HV.out)
      have zx := below_cell (bal w3 (.cells #[.bool b.packed, .bool b.mark, .int .i64 b.prod, .int .i64 b.epoch, .int .i64 b.seq, .slice A1 b.recs.length c1] 25)) z0
      go_wp2_with fail
      generalize hW4 : World.alloc _ _ = W4
      obtain ⟨hX4, b4, hz4⟩ := alloc1 hW4
      clear hW4
      have hR4 : Recs W4 (fun _ => True) A1 c1 b.turn.recs := hR3.below b4
      refine (BatchBytes_any b.turn A1 c1 _ W4 hR4).mono ?_
      rintro e w5 ⟨v5, rfl, HV5, hb5⟩
      rw [HTO.out]
      rw [batOut_yes HTO.out] at HV5
      obtain ⟨ot, hot⟩ : ∃ o, o = batBytes b.turn := ⟨_, rfl⟩
      rw [← hot] at HV5
      obtain ⟨A5, c5, rfl, ro5⟩ := AppP.row HV5
      have b5 := bthen b4 hb5
      have hA5 := blk_below hA3 b5
      have ro5o := ro3.below b5
      have hR5 := hR3.below b5
      have B5 := Lib.hid (bthen BB.out b5)
      have HL5 := Lib.hid (HL3.out.below b5)
      have HOT := Lib.hid hot
      have hotb : bytesB ot = true := by rw [hot]; exact batBytes_bytes HTO.out
      have hotl : 18 ≤ ot.length ∧ ot.length ≤ 414 := by rw [hot]; exact ⟨by rw [batBytes_len]; omega, batBytes_le HTO.out⟩
      obtain ⟨hot1, hot2⟩ := hotl
      clear hot HV5 hb5 b5 b4 hz4 hX4 hR4 zx z0 z1 z2 z3 z4 z5 zf hA3 ro3 hR3
      go_wp2_with fail
      refine (BatchFrom_at ot A5 c5 _ 0 0 w5 ro5 hotb (by omega) (b := b.turn) (by rw [HOT.out]; exact rdBat_some (batAt_self HTO.out)) rfl (ot.length : Int) (by rw [HOT.out]; simp)).mono ?_
      rintro e w6 ⟨A6, c6, rfl, HX6, hb6⟩
      have hA6 := blk_below hA5 hb6
      have ro6 := ro5.below hb6
      have ro6o := ro5o.below hb6
      have hR6 := hR5.below hb6
      have hX6 : Recs w6 _ A6 c6 b.recs := HX6.toK
      have B6 := Lib.hid (bthen B5.out hb6)
      clear HX6 hb6 hA5 ro5 ro5o hR5
      go_wp2_with fail
      generalize hW7 : World.alloc _ _ = W7
      obtain ⟨hX7, b7, hz7⟩ := alloc1 hW7
      clear hW7
      have hX7 : W7.heap[w6.heap.size]? = some (.cells #[.bool b.turn.packed, .bool b.turn.mark, .int .i64 b.turn.prod, .int .i64 b.turn.epoch, .int .i64 b.turn.seq, .slice A6 b.recs.length c6] 25 (0, 0)) := hX7
      have hA7 := blk_below hA6 b7
      have ro7 := ro6.below b7
      have ro7o := ro6o.below b7
      have hR7 := hR6.below b7
      have hY7 := hX6.below b7
      have B7 := bthen B6.out b7
      obtain ⟨z0, z1, z2, z3, z4, z5, zf⟩ := six hA7
      obtain ⟨y0, y1, y2, y3, y4, y5, yf⟩ := six hX7
      have Z5 := grow_cell z5
      have Y5 := grow_cell y5
      have hcl5 := ro7.2.1
      have hcl5' := ro7.1
      have hclo := ro7o.2.1
      have hclo' := ro7o.1
      obtain ⟨t5, ht5⟩ : ∃ x, x = ot.take 3 := ⟨_, rfl⟩
      obtain ⟨tq, hto⟩ : ∃ x, x = ob.take 3 := ⟨_, rfl⟩
      have rt5 := ro7.take 3
      have rto := ro7o.take 3
      rw [← ht5] at rt5
      rw [← hto] at rto
      have HTT := Lib.hid (show t5 = tq by rw [ht5, hto, HOT.out, HOBB.out]; exact turn_head b)
      have hs1 : ∀ W : World, (Instr.slice 27 (.slice A5 ot.length c5) none (some (.int .i64 3)) none).run Tryd.prog W = .ok (.slice A5 t5.length c5) W := fun W => by
        have := run_cuth Tryd.underlying27 info_intP A5 ot.length c5 3 3 rfl (by omega) W
        rw [show t5.length = 3 by rw [ht5, List.length_take]; omega]; exact this
      have hs2 : ∀ W : World, (Instr.slice 27 (.slice Ao ob.length co) none (some (.int .i64 3)) none).run Tryd.prog W = .ok (.slice Ao tq.length co) W := fun W => by
        have := run_cuth Tryd.underlying27 info_intP Ao ob.length co 3 3 rfl (by omega) W
        rw [show tq.length = 3 by rw [hto, List.length_take]; omega]; exact this
      have hcA : ∀ g, Calls Tryd.prog 13 #[.slice A6 b.recs.length c6, .slice A1 b.recs.length c1] (grow W7 g) fun e w'' => e = .returned (.bool true) ∧ ∃ g', w'' = grow W7 g' := fun g => by
        have := sameRecords_any b.recs b.recs A6 A1 c6 c1 _ _ (grow W7 g) (hY7.below (grow_below _ g)) (hR7.below (grow_below _ g))
        rw [decide_eq_true rfl] at this
        exact Calls.grow_of this
      have hcB : ∀ g, Calls Tryd.prog 10 #[.slice A5 t5.length c5, .slice Ao tq.length co] (grow W7 g) fun e w'' => e = .returned (.bool true) ∧ ∃ g', w'' = grow W7 g' := fun g => by
        have := sameInts_any t5 tq A5 Ao c5 co _ _ (grow W7 g) (rt5.below (grow_below _ g)) (rto.below (grow_below _ g))
        rw [decide_eq_true HTT.out] at this
        exact Calls.grow_of this
      have hbr : ∀ g, Below w.heap.size w (grow W7 g) := fun g => bthen B7 (grow_below _ g)
      clear z0 z1 z2 z3 z4 z5 zf y0 y1 y2 y3 y4 y5 yf hA7 hX7 ro7 ro7o hR7 hY7 B7 b7 hA6 ro6 ro6o hR6 hX6 hz7 ht5 hto rt5 rto
      refine wp_region_grow_lit (by kernel_rfl) (by kernel_rfl) ?_
      repeat (go_big_quiet_step (first | (with_reducible exact hcA _) | (with_reducible exact hcB _)))
      refine wpQuiet_nil ?_
      rintro _ ⟨g, rfl⟩
      have hbg := Lib.hid (hbr g)
      clear hbr hcA hcB Z5 Y5
      go_wp2
      go_ret
      exact ⟨rfl, hbg.out⟩
  · go_enter Tryd.func5, Tryd.ntmps5
    go_wp2
    go_ret
    exact ⟨rfl, Below.refl _ _⟩
end Go.Proofs.YtdjhokmcpgjiiaaDoor
