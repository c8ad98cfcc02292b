/- The laws of reading records: what is drawn, the law FnReadRecords. -/
import Derived.Test.YtneblddbahancaaS6
import Derived.Test.YtneblddbahancaaE3
import Derived.Test.YtneblddbahancaaDw
namespace Go.Proofs.Ytneblddbahancaa
set_option linter.unusedVariables false
set_option linter.unusedSimpArgs false
open Go.RowKit

set_option maxHeartbeats 2000000 in
theorem DrawReadRecords_any (bs0 : List Int) (A : Option Addr) (c : Nat) (F : Nat → Prop) (w : World) (h : Kind.byte.Row w F A c bs0) :
    Calls Try.prog 51 #[.slice A bs0.length c] w fun e w' => ∃ (bs : List Bat) (A' : Option Addr) (c' : Nat) (o m : Int), e = .returned (.tuple #[.slice A' bs.length c', .int .i64 o, .int .i64 m]) ∧ 0 ≤ o ∧ o < 20 ∧ -13 ≤ m ∧ m < 12 ∧ Drawn w w' bs A' c' := by
  go_enter Try.func51, Try.ntmps51
  go_wp2_with fail
  refine (drawLog bs0 A c F _ h).mono ?_
  rintro e w1 ⟨g, rfl, hg, hR, hb1⟩
  go_wp2_with fail
  refine (l92Log_drawn g w w1 hg hR hb1).mono ?_
  rintro e w2 ⟨bs, A', c', rfl, hD, hR2, hE⟩
  clear hR hb1
  go_wp2_with fail
  refine (pickN g _ 20 _ hR2 (by omega) (by omega) (by omega)).mono ?_
  rintro e w3 ⟨v3, rfl, a3, b3, r3, c3⟩
  obtain ⟨D3, E3⟩ := drawn_pick hg hD hE c3
  clear c3
  go_wp2_with fail
  refine (pickN g _ 12 _ r3 (by omega) (by omega) (by omega)).mono ?_
  rintro e w4 ⟨v4, rfl, a4, b4, r4, c4⟩
  obtain ⟨D4, E4⟩ := drawn_pick hg D3 E3 c4
  clear c4
  go_wp2_with fail
  refine (pickN g _ 30 _ r4 (by omega) (by omega) (by omega)).mono ?_
  rintro e w5 ⟨v5, rfl, a5, b5, r5, c5⟩
  obtain ⟨D5, E5⟩ := drawn_pick hg D4 E4 c5
  clear c5
  have HD := Lib.hid D5
  obtain ⟨n, rfl⟩ := Int.eq_ofNat_of_zero_le a5
  clear D3 E3 hD hE D4 E4 D5 E5
  go_wp2

  go_ret3
  exact ⟨bs, A', c', v3, _, rfl, a3, b3, by omega, by omega, HD.out⟩

/-- A row of one's own, read. -/
theorem AppX.recs {w : World} {P : Nat → Prop} {B : Nat} {v : Value} {xs : List Rec} (h : AppX RX 38 w P B v xs) : ∃ A c, v = .slice A xs.length c ∧ Recs w (fun _ => True) A c xs := by
  obtain ⟨A, c, e, hr⟩ := h.toP.row
  exact ⟨A, c, e, hr.mono (fun _ _ => trivial)⟩

set_option maxHeartbeats 4000000 in
theorem readRecordsLaw_walk (b0 : List Int) (A : Option Addr) (c : Nat) (w : World) (h : Kind.byte.Row w (fun _ => True) A c b0) :
    Calls Try.prog 14 #[.slice A b0.length c] w fun e w' => e = .returned (.bool true) ∧ Below w.heap.size w w' := by
  have hl := h.1
  have hc := h.2.1
  by_cases hs : b0.length ≤ 1048576
  · go_enter Try.func14, Try.ntmps14
    go_wp2_with fail
    refine (DrawReadRecords_any b0 A c _ _ h).mono ?_
    rintro e w1 ⟨bs, B, d, o, m, rfl, ho0, ho1, hm0, hm1, hD⟩
    have hB := hD.row
    have hb1 := hD.below
    clear hD
    go_wp2_with fail
    refine (ReadRecords_any bs B d _ o m _ hB).mono ?_
    rintro e w2 ⟨v, B2, rfl, hX2, hb2⟩
    have HUP := Lib.hid (readRecords_up bs o m)
    have HLE := Lib.hid (readRecords_len bs o m)
    have HGE := Lib.hid (fun r (hr : r ∈ readRecords bs o m) => recsOn_ge (readRecords_mem hr).2.2)
    obtain ⟨rs, hrs⟩ : ∃ rs, rs = readRecords bs o m := ⟨_, rfl⟩
    rw [← hrs] at hX2 HUP HLE HGE
    have HRS := Lib.hid hrs
    clear hrs
    obtain ⟨A2, c2, rfl, hR2⟩ := hX2.recs
    have hB2 := hB.below hb2
    have b2 := bthen hb1 hb2
    clear hX2 hb1 hb2 hB
    go_wp2_with fail
    refine (ReadRecordsS_any bs B d _ o m _ hB2).mono ?_
    rintro e w3 ⟨v3, B3, rfl, hX3, hb3⟩
    rw [← HRS.out] at hX3
    obtain ⟨A3, c3, rfl, hR3⟩ := hX3.recs
    have hR23 := hR2.below hb3
    have b3 := bthen b2 hb3
    have hrl := hR23.1
    have hrc := hR23.2.1
    clear hX3 hR2 hb3 hB2 b2
    go_wp2_with fail
    refine (sameRecords_any rs rs A2 A3 c2 c3 _ _ _ hR23 hR3).mono ?_
    rintro e w4 ⟨rfl, hb4⟩
    rw [show decide (rs = rs) = true by simp]
    have hR4 := hR23.below hb4
    have b4 := Lib.hid (bthen b3 hb4)
    clear b3 hb4 hR3 hR23
    go_wp2_with fail
    go_loopw [8] (fun i wr => ∃ k : Nat, k ≤ rs.length ∧ i = .int .i64 k ∧ Hid (Below w4.heap.size w4 wr)) (fun i _ => rs.length - (intOf i).toNat)
    case atStart => exact ⟨0, Nat.zero_le _, rfl, Lib.hid (Below.refl _ _)⟩
    case round =>
      obtain ⟨k, hk, rfl, HB⟩ := hrel
      by_cases hlt : k < rs.length
      · obtain ⟨ad, C1, d1, C2, d2, rfl, _, _, _, q0, q1, q2, q3, q4, q5⟩ := (hR4.below HB.out).rec_at hlt
        have hge := HGE.out _ (List.getElem_mem hlt)
        by_cases h0 : 0 < k
        · obtain ⟨k', rfl⟩ : ∃ k', k = k' + 1 := ⟨k - 1, by omega⟩
          obtain ⟨ad', C1', d1', C2', d2', hA', _, _, _, p0, p1, p2, p3, p4, p5⟩ := (hR4.below HB.out).rec_at (show k' < rs.length by omega)
          injection hA' with hA'
          subst hA'
          have hup := List.pairwise_iff_getElem.1 HUP.out k' (k' + 1) (by omega) hlt (by omega)
          unfold Rec.lt at hup
          have d1 : decide (rs[k' + 1].off < o) = false := by simp; omega
          have d2 : decide (rs[k' + 1].off ≤ rs[k'].off) = false := by simp; omega
          have d3 : decide ((0 : Int) < ((k' + 1 : Nat) : Int)) = true := by rw [decide_eq_true_eq]; omega
          have HBD := fun n => Lib.hid (bthen HB.out (below_drewN wr n))
          go_wp2_with fail
          go_quiet (fail)
          go_wp2
          go_roundw
          case rel => exact ⟨k' + 1 + 1, by omega, by go_num, HBD _⟩
          case measure => simp [intOf]; omega
        · have d1 : decide (rs[k].off < o) = false := by simp; omega
          have d3 : decide ((0 : Int) < (k : Int)) = false := by rw [decide_eq_false_iff_not]; omega
          have HBD := fun n => Lib.hid (bthen HB.out (below_drewN wr n))
          go_wp2_with fail
          go_quiet (fail)
          go_wp2
          go_roundw
          case rel => exact ⟨k + 1, by omega, by go_num, HBD _⟩
          case measure => simp [intOf]; omega
      · have HL := HLE.out
        by_cases hz : rs.length = 0
        · go_wp2
          go_ret
          exact ⟨rfl, bthen b4.out HB.out⟩
        · have hm : (rs.length : Int) ≤ m := by omega
          go_wp2
          go_ret
          exact ⟨ret_bool (by simp [hm]), bthen b4.out HB.out⟩
  · go_enter Try.func14, Try.ntmps14
    go_wp2
    go_ret
    exact ⟨rfl, Below.refl _ _⟩
end Go.Proofs.Ytneblddbahancaa
