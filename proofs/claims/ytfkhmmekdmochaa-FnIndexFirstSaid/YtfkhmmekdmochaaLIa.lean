/- The laws FnIndexApart, FnIndexFirst. -/
import Derived.Test.YtfkhmmekdmochaaIx
import Derived.Test.YtfkhmmekdmochaaDx
import Derived.Test.YtfkhmmekdmochaaEs
namespace Go.Proofs.Ytfkhmmekdmochaa
set_option linter.unusedVariables false
set_option linter.unusedSimpArgs false
open Go.RowKit

set_option maxRecDepth 20000 in
set_option maxHeartbeats 4000000 in
theorem indexApart_walk (b0 : List Int) (A : Option Addr) (c : Nat) (w : World) (h : Kind.byte.Row w (fun _ => True) A c b0) :
    Calls Try.prog 4 #[.slice A b0.length c] w fun e w' => e = .returned (.bool true) ∧ Below w.heap.size w w' := by
  have hl := h.1
  have hc := h.2.1
  by_cases hs : b0.length ≤ 1048576
  · go_enter Try.func4, Try.ntmps4
    go_wp2_with fail
    refine (DrawIndexOf_any b0 A c _ _ h).mono ?_
    rintro e w1 ⟨bs, B, d, ev, rfl, hD⟩
    have hB := hD.row
    have hb1 := hD.below
    have hlB := hB.1
    have hcB := hB.2.1
    clear hD
    go_wp2_with fail
    refine (IndexOf_any bs B d _ ev w1 hB).mono ?_
    rintro e w2 ⟨v2, rfl, HV2, hb2⟩
    obtain ⟨A2, c2, rfl, k2⟩ := AppP.row HV2
    have hB2 := hB.below hb2
    go_wp2_with fail
    refine (IndexOfS_any bs B d _ ev w2 hB2).mono ?_
    rintro e w3 ⟨v3, rfl, HV3, hb3⟩
    obtain ⟨A3, c3, rfl, k3⟩ := AppP.row HV3
    have k23 := k2.below hb3
    have hB3 := hB2.below hb3
    have b3 := bthen (bthen hb1 hb2) hb3
    clear HV2 HV3 hB hB2 k2 hb1 hb2 hb3
    have hol := idxOut_len (bs := bs) (e := ev)
    cases hv : idxOk bs ev
    · obtain ⟨ob, hob⟩ : ∃ o, o = idxOut bs ev := ⟨_, rfl⟩
      rw [← hob] at k23 k3 hol
      rw [← hob]
      clear hob
      go_wp2_with fail
      refine (sameEntries_any ob ob A2 A3 c2 c3 _ _ w3 k23 k3).mono ?_
      rintro e w4 ⟨rfl, hb4⟩
      rw [decide_eq_true rfl]
      have k24 := k23.below hb4
      have k34 := k3.below hb4
      have b4 := bthen b3 hb4
      go_wp2_with fail
      refine (sameEntries_any ob ob A2 A3 c2 c3 _ _ w4 k24 k34).mono ?_
      rintro e w5 ⟨rfl, hb5⟩
      rw [decide_eq_true rfl]
      have b5 := Lib.hid (bthen b4 hb5)
      clear b4 hb5 hb4 b3 k24 k34
      go_wp2
      go_ret
      exact ⟨rfl, b5.out⟩
    · have HLO := Lib.hid (idxOut_yes hv)
      have HIN := Lib.hid (idxTo_inv bs ev bs.length)
      have hle := idxTo_len bs ev bs.length
      have hlv : logB bs = true := by unfold idxOk at hv; rw [Bool.and_eq_true] at hv; exact hv.1
      have HLV := Lib.hid hlv
      have hev : 1 ≤ ev ∧ ev ≤ 9999 := by unfold idxOk at hv; rw [Bool.and_eq_true] at hv; simpa [inB] using hv.2
      have HRG := Lib.hid (idxTo_range hlv ev bs.length)
      clear hv hlv
      obtain ⟨ob, hob⟩ : ∃ o, o = idxOut bs ev := ⟨_, rfl⟩
      rw [← hob] at k23 k3 hol HLO
      rw [← hob]
      rw [← HLO.out] at HIN hle HRG
      clear hob HLO
      go_wp2_with fail
      refine (sameEntries_any ob ob A2 A3 c2 c3 _ _ w3 k23 k3).mono ?_
      rintro e w4 ⟨rfl, hb4⟩
      rw [decide_eq_true rfl]
      have k24 := k23.below hb4
      have hB4 := hB3.below hb4
      have b4 := bthen b3 hb4
      clear k23 k3 b3 hb4 hB3
      have hlo := k24.1
      have hco := k24.2.1
      have HB4 := Lib.hid b4
      clear b4
      go_wp2_with fail
      go_loopw [9] (fun i wr => ∃ k : Nat, 1 ≤ k ∧ (k ≤ ob.length ∨ k = 1) ∧ i = .int .i64 k ∧ Hid (Below w4.heap.size w4 wr)) (fun i _ => ob.length - (intOf i).toNat)
      case atStart => exact ⟨1, Nat.le_refl _, .inr rfl, rfl, Lib.hid (Below.refl _ _)⟩
      case round =>
        obtain ⟨k, hk1, hk, rfl, HB⟩ := hrel
        by_cases hlt : k < ob.length
        · obtain ⟨ad, rfl, _, e0, e1⟩ := (k24.below HB.out).ent_at hlt
          obtain ⟨ad', ea, _, f0, f1⟩ := (k24.below HB.out).ent_at (j := k - 1) (by omega)
          injection ea with ea
          subst ea
          have hap := HIN.out.1 (k - 1) (by omega)
          rw [show k - 1 + 1 = k by omega, entAt_eq hlt, entAt_eq (show k - 1 < ob.length by omega)] at hap
          have r1 := HRG.out _ (List.getElem_mem hlt)
          have r2 := HRG.out _ (List.getElem_mem (show k - 1 < ob.length by omega))
          obtain ⟨p1, hp1⟩ : ∃ p, p = ob[k].place := ⟨_, rfl⟩
          obtain ⟨p2, hp2⟩ : ∃ p, p = ob[k - 1].place := ⟨_, rfl⟩
          rw [← hp1] at hap r1 e1
          rw [← hp2] at hap r2 f1
          have hnl : ¬ (p1 - p2 < ev) := by omega
          have d1 : decide (p1 - p2 < ev) = false := by simp; omega
          have HBD := fun n => Lib.hid (bthen HB.out (below_drewN wr n))
          have hlc : (k : Int) < 9223372036854775807 := by omega
          clear hp1 hp2 e0 f0
          go_wp2_with fail
          go_quiet (fail)
          go_wp2
          go_roundw
          case rel => exact ⟨k + 1, by omega, .inl (by omega), by go_num, HBD _⟩
          case measure => simp [intOf]; omega
        · have HBB := Lib.hid (bthen HB4.out HB.out)
          have d2 : decide (ob.length ≤ bs.length) = true := by simp; exact hle
          go_wp2
          go_ret
          exact ⟨rfl, HBB.out⟩

  · go_enter Try.func4, Try.ntmps4
    go_wp2
    go_ret
    exact ⟨rfl, Below.refl _ _⟩

set_option maxRecDepth 20000 in
set_option maxHeartbeats 4000000 in
theorem indexFirst_walk (b0 : List Int) (A : Option Addr) (c : Nat) (w : World) (h : Kind.byte.Row w (fun _ => True) A c b0) :
    Calls Try.prog 5 #[.slice A b0.length c] w fun e w' => e = .returned (.bool true) ∧ Below w.heap.size w w' := by
  have hl := h.1
  have hc := h.2.1
  by_cases hs : b0.length ≤ 1048576
  · go_enter Try.func5, Try.ntmps5
    go_wp2_with fail
    refine (DrawIndexOf_any b0 A c _ _ h).mono ?_
    rintro e w1 ⟨bs, B, d, ev, rfl, hD⟩
    have hB := hD.row
    have hb1 := hD.below
    have hlB := hB.1
    have hcB := hB.2.1
    clear hD
    go_wp2_with fail
    refine (IndexOf_any bs B d _ ev w1 hB).mono ?_
    rintro e w2 ⟨v2, rfl, HV2, hb2⟩
    obtain ⟨A2, c2, rfl, k2⟩ := AppP.row HV2
    have hB2 := hB.below hb2
    go_wp2_with fail
    refine (IndexOfS_any bs B d _ ev w2 hB2).mono ?_
    rintro e w3 ⟨v3, rfl, HV3, hb3⟩
    obtain ⟨A3, c3, rfl, k3⟩ := AppP.row HV3
    have k23 := k2.below hb3
    have hB3 := hB2.below hb3
    have b3 := bthen (bthen hb1 hb2) hb3
    clear HV2 HV3 hB hB2 k2 hb1 hb2 hb3
    have hol := idxOut_len (bs := bs) (e := ev)
    cases hv : idxOk bs ev
    · obtain ⟨ob, hob⟩ : ∃ o, o = idxOut bs ev := ⟨_, rfl⟩
      rw [← hob] at k23 k3 hol
      rw [← hob]
      clear hob
      go_wp2_with fail
      refine (sameEntries_any ob ob A2 A3 c2 c3 _ _ w3 k23 k3).mono ?_
      rintro e w4 ⟨rfl, hb4⟩
      rw [decide_eq_true rfl]
      have k24 := k23.below hb4
      have k34 := k3.below hb4
      have b4 := bthen b3 hb4
      go_wp2_with fail
      refine (sameEntries_any ob ob A2 A3 c2 c3 _ _ w4 k24 k34).mono ?_
      rintro e w5 ⟨rfl, hb5⟩
      rw [decide_eq_true rfl]
      have b5 := Lib.hid (bthen b4 hb5)
      clear b4 hb5 hb4 b3 k24 k34
      go_wp2
      go_ret
      exact ⟨rfl, b5.out⟩
    · have HLO := Lib.hid (idxOut_yes hv)
      have HIN := Lib.hid (idxTo_inv bs ev bs.length)
      have hle := idxTo_len bs ev bs.length
      have hlv : logB bs = true := by unfold idxOk at hv; rw [Bool.and_eq_true] at hv; exact hv.1
      have HLV := Lib.hid hlv
      have hev : 1 ≤ ev ∧ ev ≤ 9999 := by unfold idxOk at hv; rw [Bool.and_eq_true] at hv; simpa [inB] using hv.2
      have HRG := Lib.hid (idxTo_range hlv ev bs.length)
      clear hv hlv
      obtain ⟨ob, hob⟩ : ∃ o, o = idxOut bs ev := ⟨_, rfl⟩
      rw [← hob] at k23 k3 hol HLO
      rw [← hob]
      rw [← HLO.out] at HIN hle HRG
      clear hob HLO
      go_wp2_with fail
      refine (sameEntries_any ob ob A2 A3 c2 c3 _ _ w3 k23 k3).mono ?_
      rintro e w4 ⟨rfl, hb4⟩
      rw [decide_eq_true rfl]
      have k24 := k23.below hb4
      have hB4 := hB3.below hb4
      have b4 := bthen b3 hb4
      clear k23 k3 b3 hb4 hB3
      have HONE := Lib.hid (idxTo_one bs bs.length (Nat.le_refl _)).1
      have hok1 : idxOk bs 1 = true := by unfold idxOk; rw [HLV.out]; rfl
      have HO1 := Lib.hid (idxOut_yes hok1)
      have HK1 := Lib.hid hok1
      clear hok1
      go_wp2_with fail
      refine (IndexOf_any bs B d _ 1 w4 hB4).mono ?_
      rintro e w5 ⟨v5, rfl, HV5, hb5⟩
      obtain ⟨A5, c5, rfl, k5⟩ := AppP.row HV5
      have hl5 : (idxOut bs 1).length = bs.length := by rw [HO1.out]; exact HONE.out
      rw [hl5, HK1.out]
      have k25 := k24.below hb5
      have HB5 := Lib.hid (bthen b4 hb5)
      have hlo := k25.1
      have hco := k25.2.1
      clear HV5 hb5 k5 hl5 b4 k24 hB4
      rcases Nat.eq_zero_or_pos bs.length with h0 | h0
      · obtain rfl : bs = [] := List.eq_nil_of_length_eq_zero h0
        obtain rfl : ob = [] := List.eq_nil_of_length_eq_zero (Nat.le_zero.1 hle)
        clear h0
        go_wp2
        go_ret
        exact ⟨rfl, HB5.out⟩
      · obtain ⟨hp, hz⟩ := HIN.out.2 h0
        obtain ⟨ad, rfl, _, e0, e1⟩ := k25.ent_at hp
        rw [entAt_eq hp] at hz
        rw [hz] at e1
        rw [show ad.add (0 * 2) = ad from rfl] at e0 e1
        have hne : bs ≠ [] := List.ne_nil_of_length_pos h0
        have hne2 : ob ≠ [] := List.ne_nil_of_length_pos hp
        clear hz e0
        go_wp2
        go_ret
        exact ⟨rfl, HB5.out⟩

  · go_enter Try.func5, Try.ntmps5
    go_wp2
    go_ret
    exact ⟨rfl, Below.refl _ _⟩
end Go.Proofs.Ytfkhmmekdmochaa
