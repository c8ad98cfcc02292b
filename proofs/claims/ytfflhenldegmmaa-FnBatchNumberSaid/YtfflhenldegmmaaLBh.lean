/- The laws FnBatchHead, FnBatchNumber. -/
import Derived.Test.YtfflhenldegmmaaDb
import Derived.Test.YtfflhenldegmmaaBt
import Derived.Test.YtfflhenldegmmaaBv
import Derived.Test.YtfflhenldegmmaaE0
namespace Go.Proofs.Ytfflhenldegmmaa
set_option linter.unusedVariables false
set_option linter.unusedSimpArgs false
open Go.RowKit

/-- A number more. -/
def Bat.more (b : Bat) : Bat := { b with seq := b.seq + 1 }
theorem more_ok {b : Bat} (h : batB b = true) (hp : b.prod ≠ 255) (hs : b.seq ≠ 9999) : batB b.more = true := by
  obtain ⟨h1, _, _⟩ := batB_parts h
  have h2 := (headB_range h1).2.2
  simp only [batB, Bool.and_eq_true] at h ⊢
  refine ⟨⟨?_, h.1.2⟩, h.2⟩
  unfold headB at h1 ⊢
  have hne : (b.prod == 255) = false := by simpa using hp
  rw [hne] at h1
  have hne2 : (b.more.prod == 255) = false := hne
  rw [hne2]
  simp [inB] at h1
  have g : (0 ≤ b.prod ∧ b.prod ≤ 254) ∧ (0 ≤ b.epoch ∧ b.epoch ≤ 99) ∧ (0 ≤ b.seq + 1 ∧ b.seq + 1 ≤ 9999) := by omega
  simp [inB, Bat.more, g]
theorem more_len (b : Bat) : (batBytes b.more).length = (batBytes b).length := by
  rw [batBytes_len, batBytes_len]
  rfl
theorem intB2_inj {m n : Int} (hm : 0 ≤ m ∧ m ≤ 65535) (hn : 0 ≤ n ∧ n ≤ 65535) (h : intB2 m = intB2 n) : m = n := by
  simp [intB2] at h
  omega
theorem more_ne {b : Bat} (h : batB b = true) (hs : b.seq ≠ 9999) : batBytes b.more ≠ batBytes b := by
  intro e
  obtain ⟨h1, _, _⟩ := batB_parts h
  have h2 := (headB_range h1).2.2
  have e1 : (batBytes b.more).drop 10 = (batBytes b).drop 10 := by rw [e]
  have d : ∀ x : Bat, (batBytes x).drop 10 = intB2 x.seq ++ (intB3 x.base ++ ([(x.recs.length : Int), 0, 0] ++ x.body)) := fun x => by
    unfold batBytes Bat.rest
    simp [intB2, intB3]
  rw [d, d] at e1
  have e2 := List.append_inj_left e1 rfl
  have := intB2_inj (by show 0 ≤ b.seq + 1 ∧ b.seq + 1 ≤ 65535; omega) (by omega) e2
  have : b.seq + 1 = b.seq := this
  omega
theorem head_first {b : Bat} (h : batB b = true) : num3 (batBytes b) 0 = b.first := by
  refine num3_int (s := intB2 b.rest.length ++ intB2 (sumB b.rest) ++ b.rest) ?_ (by have := (batB_base h).1; omega)
  unfold batBytes
  simp
theorem head_many {b : Bat} (h : batB b = true) : num2 (batBytes b) 3 = (b.rest.length : Int) := by
  refine num2_int (s := intB2 (sumB b.rest) ++ b.rest) ?_ (by have := body_len h; have := rest_len b; omega)
  unfold batBytes
  simp [intB3]
set_option maxRecDepth 20000 in
set_option maxHeartbeats 2000000 in
theorem batchHead_walk (b0 : List Int) (A : Option Addr) (c : Nat) (w : World) (h : Kind.byte.Row w (fun _ => True) A c b0) :
    Calls Try.prog 8 #[.slice A b0.length c] w fun e w' => e = .returned (.bool true) ∧ Below w.heap.size w w' := by
  have hl := h.1
  have hc := h.2.1
  by_cases hs : b0.length ≤ 1048576
  · go_enter Try.func8, Try.ntmps8
    go_wp2_with fail
    refine (DrawBatchBytes_any b0 A c _ _ h).mono ?_
    rintro e w0 ⟨b, A1, c1, rfl, hR0, hb0⟩
    go_wp2_with fail
    generalize hW : World.alloc _ _ = W
    obtain ⟨hA, b1, hz⟩ := alloc1 hW
    clear hW
    have hR := hR0.below b1
    refine (BatchBytes_any b A1 c1 _ W hR).mono ?_
    rintro e w1 ⟨v1, rfl, HV1, hb1⟩
    obtain ⟨Ao, co, rfl, ro⟩ := AppP.row HV1
    have hA1 := blk_below hA hb1
    have B1 := bthen (bthen hb0 b1) hb1
    have hR1 := hR.below hb1
    obtain ⟨z0, z1, z2, z3, z4, z5, zf⟩ := six hA1
    clear hA hR0 hR HV1 hb1 b1 hb0
    go_wp2_with fail
    refine (BatchBytesS_any b A1 c1 _ w1 hR1).mono ?_
    rintro e w2 ⟨v2, rfl, HV2, hb2⟩
    obtain ⟨Aw, cw, rfl, rw_⟩ := AppP.row HV2
    have hA2 := blk_below hA1 hb2
    have B2 := bthen B1 hb2
    have hR2 := hR1.below hb2
    have ro2 := ro.below hb2
    have hol := batOut_len b
    have hob := batOut_bytes b
    obtain ⟨ob, hob2⟩ : ∃ o, o = batOut b := ⟨_, rfl⟩
    rw [← hob2] at ro2 rw_ hol hob
    rw [← hob2]
    have HOB := Lib.hid hob2
    clear hob2 ro z0 z1 z2 z3 z4 z5 zf hA1 B1 hR1 HV2 hb2
    obtain ⟨z0, z1, z2, z3, z4, z5, zf⟩ := six hA2
    cases hv : batB b
    · go_wp2_with fail
      refine (sameInts_any ob ob Ao Aw co cw _ _ w2 ro2 rw_).mono ?_
      rintro e w3 ⟨rfl, hb3⟩
      rw [decide_eq_true rfl]
      have ro3 := ro2.below hb3
      have rw3 := rw_.below hb3
      have B3 := bthen B2 hb3
      go_wp2_with fail
      refine (sameInts_any ob ob Ao Aw co cw _ _ w3 ro3 rw3).mono ?_
      rintro e w4 ⟨rfl, hb4⟩
      rw [decide_eq_true rfl]
      have B4 := Lib.hid (bthen B3 hb4)
      clear hb4 B3 hb3 B2
      go_wp2
      go_ret
      exact ⟨rfl, B4.out⟩
    · have HV := Lib.hid hv
      clear hv
      go_wp2_with fail
      refine (sameInts_any ob ob Ao Aw co cw _ _ w2 ro2 rw_).mono ?_
      rintro e w3 ⟨rfl, hb3⟩
      rw [decide_eq_true rfl]
      have ro3 := ro2.below hb3
      have rw3 := rw_.below hb3
      have B3 := bthen B2 hb3
      have hA3 := blk_below hA2 hb3
      have hR3 := hR2.below hb3
      clear ro2 rw_ hA2 hR2 B2 hb3 z0 z1 z2 z3 z4 z5 zf
      obtain ⟨z0, z1, z2, z3, z4, z5, zf⟩ := six hA3
      have HF1 := Lib.hid (head_first HV.out)
      have HF2 := Lib.hid (head_many HV.out)
      have HLN := Lib.hid (show (ob.length : Int) - 7 = (b.rest.length : Int) by rw [HOB.out, batOut_yes HV.out, batBytes_len, rest_len]; omega)
      have hln : 18 ≤ ob.length := by rw [HOB.out, batOut_yes HV.out, batBytes_len]; omega
      rw [← batOut_yes HV.out, ← HOB.out] at HF1 HF2
      obtain ⟨m, hm⟩ : ∃ m : Nat, m = ob.length - 7 := ⟨_, rfl⟩
      have HM2 := Lib.hid (show num2 ob 3 = (m : Int) by rw [HF2.out, ← HLN.out]; omega)
      have hm2 : (ob.length : Int) - 7 = (m : Int) := by omega
      have hm3 : IntKind.i64.wrap ((ob.length : Int) - 7) = (m : Int) := by rw [IntWalk.i64_in _ (by omega)]; omega
      have hn0 := batB_pos HV.out
      obtain ⟨ad, B0, d0, B1, d1, rfl, _, _, _, p0, _⟩ := hR3.rec_at hn0
      rw [show ad.add (0 * 6) = ad from rfl] at p0
      rw [← (first_getElem hn0).1] at p0
      clear hm hR3 HF2 HLN
      go_wp2_with fail
      refine (IntFrom3_any ob Ao co _ 0 w3 ro3 hob (by omega) (by omega)).mono ?_
      rintro e w' ⟨rfl, rfl⟩
      rw [HF1.out]
      go_wp2_with fail
      refine (IntFrom2_any ob Ao co _ 3 _ ro3 hob (by omega) (by omega)).mono ?_
      rintro e w' ⟨rfl, rfl⟩
      rw [HM2.out]
      have BB := Lib.hid B3
      have hge : decide (18 ≤ (ob.length : Int)) = true := by simp; omega
      clear B3
      go_wp2
      go_ret
      exact ⟨rfl, BB.out⟩
  · go_enter Try.func8, Try.ntmps8
    go_wp2
    go_ret
    exact ⟨rfl, Below.refl _ _⟩
set_option maxRecDepth 20000 in
set_option maxHeartbeats 2000000 in
theorem batchNumber_walk (b0 : List Int) (A : Option Addr) (c : Nat) (w : World) (h : Kind.byte.Row w (fun _ => True) A c b0) :
    Calls Try.prog 7 #[.slice A b0.length c] w fun e w' => e = .returned (.bool true) ∧ Below w.heap.size w w' := by
  have hl := h.1
  have hc := h.2.1
  by_cases hs : b0.length ≤ 1048576
  · go_enter Try.func7, Try.ntmps7
    go_wp2_with fail
    refine (DrawBatchBytes_any b0 A c _ _ h).mono ?_
    rintro e w0 ⟨b, A1, c1, rfl, hR0, hb0⟩
    go_wp2_with fail
    generalize hW : World.alloc _ _ = W
    obtain ⟨hA, b1, hz⟩ := alloc1 hW
    clear hW
    have hR := hR0.below b1
    refine (BatchBytes_any b A1 c1 _ W hR).mono ?_
    rintro e w1 ⟨v1, rfl, HV1, hb1⟩
    obtain ⟨Ao, co, rfl, ro⟩ := AppP.row HV1
    have hA1 := blk_below hA hb1
    have B1 := bthen (bthen hb0 b1) hb1
    have hR1 := hR.below hb1
    obtain ⟨z0, z1, z2, z3, z4, z5, zf⟩ := six hA1
    clear hA hR0 hR HV1 hb1 b1 hb0
    go_wp2_with fail
    refine (BatchBytesS_any b A1 c1 _ w1 hR1).mono ?_
    rintro e w2 ⟨v2, rfl, HV2, hb2⟩
    obtain ⟨Aw, cw, rfl, rw_⟩ := AppP.row HV2
    have hA2 := blk_below hA1 hb2
    have B2 := bthen B1 hb2
    have hR2 := hR1.below hb2
    have ro2 := ro.below hb2
    have hol := batOut_len b
    have hob := batOut_bytes b
    obtain ⟨ob, hob2⟩ : ∃ o, o = batOut b := ⟨_, rfl⟩
    rw [← hob2] at ro2 rw_ hol hob
    rw [← hob2]
    have HOB := Lib.hid hob2
    clear hob2 ro z0 z1 z2 z3 z4 z5 zf hA1 B1 hR1 HV2 hb2
    obtain ⟨z0, z1, z2, z3, z4, z5, zf⟩ := six hA2
    cases hv : batB b
    · go_wp2_with fail
      refine (sameInts_any ob ob Ao Aw co cw _ _ w2 ro2 rw_).mono ?_
      rintro e w3 ⟨rfl, hb3⟩
      rw [decide_eq_true rfl]
      have ro3 := ro2.below hb3
      have rw3 := rw_.below hb3
      have B3 := bthen B2 hb3
      go_wp2_with fail
      refine (sameInts_any ob ob Ao Aw co cw _ _ w3 ro3 rw3).mono ?_
      rintro e w4 ⟨rfl, hb4⟩
      rw [decide_eq_true rfl]
      have B4 := Lib.hid (bthen B3 hb4)
      clear hb4 B3 hb3 B2
      go_wp2
      go_ret
      exact ⟨rfl, B4.out⟩
    · have HV := Lib.hid hv
      clear hv
      go_wp2_with fail
      refine (sameInts_any ob ob Ao Aw co cw _ _ w2 ro2 rw_).mono ?_
      rintro e w3 ⟨rfl, hb3⟩
      rw [decide_eq_true rfl]
      have ro3 := ro2.below hb3
      have rw3 := rw_.below hb3
      have B3 := bthen B2 hb3
      have hA3 := blk_below hA2 hb3
      have hR3 := hR2.below hb3
      clear ro2 rw_ hA2 hR2 B2 hb3 z0 z1 z2 z3 z4 z5 zf
      obtain ⟨z0, z1, z2, z3, z4, z5, zf⟩ := six hA3
      have BB := Lib.hid B3
      by_cases hp : b.prod = 255
      · go_wp2_with fail
        refine (sameInts_any ob ob Ao Aw co cw _ _ w3 ro3 rw3).mono ?_
        rintro e w4 ⟨rfl, hb4⟩
        rw [decide_eq_true rfl]
        have B4 := Lib.hid (bthen BB.out hb4)
        clear hb4 B3
        go_wp2
        go_ret
        exact ⟨rfl, B4.out⟩
      · by_cases hsq : b.seq = 9999
        · go_wp2_with fail
          refine (sameInts_any ob ob Ao Aw co cw _ _ w3 ro3 rw3).mono ?_
          rintro e w4 ⟨rfl, hb4⟩
          rw [decide_eq_true rfl]
          have B4 := Lib.hid (bthen BB.out hb4)
          clear hb4 B3
          go_wp2
          go_ret
          exact ⟨rfl, B4.out⟩
        · have hMO := Lib.hid (more_ok HV.out hp hsq)
          have hNE := Lib.hid (more_ne HV.out hsq)
          have hr := (headB_range (batB_parts HV.out).1).2.2
          have hws : IntKind.i64.wrap (b.seq + 1) = b.seq + 1 := by rw [IntWalk.i64_in _ (by omega)]
          have e1 : (b.prod == 255) = false := by simpa using hp
          have e2 : (b.seq == 9999) = false := by simpa using hsq
          have zx := below_cell (bal w3 (.cells #[.bool b.packed, .bool b.mark, .int .i64 b.prod, .int .i64 b.epoch, .int .i64 b.seq, .slice A1 b.recs.length c1] 44)) z4
          clear hp hsq B3 rw3
          go_wp2_with fail
          generalize hW4 : World.alloc _ _ = W4
          obtain ⟨hA4, b4, hz4⟩ := alloc1 hW4
          clear hW4
          have hR4 : Recs W4 (fun _ => True) A1 c1 b.more.recs := hR3.below b4
          have hro4 := ro3.below b4
          refine (BatchBytes_any b.more A1 c1 _ W4 hR4).mono ?_
          rintro e w5 ⟨v5, rfl, HV5, hb5⟩
          rw [hMO.out]
          rw [batOut_yes hMO.out] at HV5
          obtain ⟨A5, c5, rfl, ro5⟩ := AppP.row HV5
          have ho5 := hro4.below hb5
          have B5 := Lib.hid (bthen (bthen BB.out b4) hb5)
          have HLE := Lib.hid (show (batBytes b.more).length = ob.length by rw [more_len, HOB.out, batOut_yes HV.out])
          have HDE := Lib.hid (show decide (batBytes b.more = ob) = false by rw [HOB.out, batOut_yes HV.out]; exact decide_eq_false hNE.out)
          clear hb5 b4 HV5 hR4 hro4 hA4 zx z0 z1 z2 z3 z4 z5 zf
          go_wp2_with fail
          refine (sameInts_any (batBytes b.more) ob A5 Ao c5 co _ _ _ ro5 ho5).mono ?_
          rintro e w6 ⟨rfl, hb6⟩
          rw [HDE.out, HLE.out]
          have B6 := Lib.hid (bthen B5.out hb6)
          clear hb6 ro5 ho5
          go_wp2
          go_ret
          exact ⟨rfl, B6.out⟩
  · go_enter Try.func7, Try.ntmps7
    go_wp2
    go_ret
    exact ⟨rfl, Below.refl _ _⟩
end Go.Proofs.Ytfflhenldegmmaa
