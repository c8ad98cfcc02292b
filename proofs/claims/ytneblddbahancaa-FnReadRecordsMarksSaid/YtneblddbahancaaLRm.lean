/- The law FnReadRecordsMarks. -/
import Derived.Test.YtneblddbahancaaLRr
namespace Go.Proofs.Ytneblddbahancaa
set_option linter.unusedVariables false
set_option linter.unusedSimpArgs false
open Go.RowKit

set_option maxHeartbeats 4000000 in
theorem readMarksLaw_walk (b0 : List Int) (A : Option Addr) (c : Nat) (w : World) (h : Kind.byte.Row w (fun _ => True) A c b0) :
    Calls Try.prog 16 #[.slice A b0.length c] w fun e w' => e = .returned (.bool true) ∧ Below w.heap.size w w' := by
  have hl := h.1
  have hc := h.2.1
  by_cases hs : b0.length ≤ 1048576
  · go_enter Try.func16, Try.ntmps16
    go_wp2_with fail
    refine (DrawReadRecords_any b0 A c _ _ h).mono ?_
    rintro e w1 ⟨bs, B, d, o, m, rfl, ho0, ho1, hm0, hm1, hD⟩
    have hB := hD.row
    have hb1 := hD.below
    have hok := recs_ok hD.len hD.ok
    clear hD
    go_wp2_with fail
    refine (ReadRecords_any bs B d _ o m _ hB).mono ?_
    rintro e w2 ⟨v, B2, rfl, hX2, hb2⟩
    have HNE := Lib.hid (fun r (hr : r ∈ readRecords bs o m) b (hb : b ∈ bs) (hm : b.mark = true) => (⟨readRecords_mark hr hb hm, batB_pos (((logB_iff _).1 (readRecords_mem hr).1).2.1 b hb)⟩ : b.first ≠ r.off ∧ 0 < b.recs.length))
    obtain ⟨rs, hrs⟩ : ∃ rs, rs = readRecords bs o m := ⟨_, rfl⟩
    rw [← hrs] at hX2 HNE
    have HRS := Lib.hid hrs
    clear hrs
    obtain ⟨A2, c2, rfl, hR2⟩ := hX2.recs
    have hB2 := hB.below hb2
    have b2 := bthen hb1 hb2
    clear hX2 hb1 hb2 hB
    go_wp2_with fail
    refine (ReadRecordsS_any bs B d _ o m _ hB2).mono ?_
    rintro e w3 ⟨v3, B3, rfl, hX3, hb3⟩
    rw [← HRS.out] at hX3
    obtain ⟨A3, c3, rfl, hR3⟩ := hX3.recs
    have hR23 := hR2.below hb3
    have b3 := bthen b2 hb3
    have hB3 := hB2.below hb3
    have hrl := hR23.1
    have hrc := hR23.2.1
    clear hX3 hR2 hb3 hB2 b2
    go_wp2_with fail
    refine (sameRecords_any rs rs A2 A3 c2 c3 _ _ _ hR23 hR3).mono ?_
    rintro e w4 ⟨rfl, hb4⟩
    rw [show decide (rs = rs) = true by simp]
    have hR4 := hR23.below hb4
    have hR34 := hR3.below hb4
    have b4 := Lib.hid (bthen b3 hb4)
    have hB4 := hB3.below hb4
    clear b3 hb4 hR3 hR23 hB3
    have hbl := hB4.1
    have hbc := hB4.2.1
    go_wp2_with fail
    go_loopw [8] (fun i wr => ∃ k : Nat, k ≤ bs.length ∧ i = .int .i64 k ∧ Hid (Below w4.heap.size w4 wr)) (fun i _ => bs.length - (intOf i).toNat)
    case atStart => exact ⟨0, Nat.zero_le _, rfl, Lib.hid (Below.refl _ _)⟩
    case round =>
      obtain ⟨k, hk, rfl, HB⟩ := hrel
      by_cases hlt : k < bs.length
      · go_wp2_with fail
        go_loopw [9] (fun i wr => ∃ j : Nat, j ≤ rs.length ∧ i = .int .i64 j ∧ Hid (Below w4.heap.size w4 wr)) (fun i _ => rs.length - (intOf i).toNat)
        case atStart => exact ⟨0, Nat.zero_le _, rfl, HB⟩
        case round =>
          obtain ⟨j, hj, rfl, HB⟩ := hrel
          obtain ⟨ad', B1, b1, rfl, _, hr, p0, p1, p2, p3, p4, p5⟩ := (hB4.below HB.out).bat_at hlt
          by_cases hjl : j < rs.length
          · obtain ⟨ad, C1, d1, C2, d2, rfl, _, _, _, q0, q1, q2, q3, q4, q5⟩ := (hR4.below HB.out).rec_at hjl
            cases hmk : bs[k].mark
            · rw [hmk] at p1
              go_wp2
              go_roundw
              case rel => exact ⟨k + 1, by omega, by go_num, HB⟩
              case measure => simp [intOf]; omega
            · have hne := HNE.out _ (List.getElem_mem hjl) _ (List.getElem_mem hlt) hmk
              obtain ⟨hne1, hpos⟩ := hne
              rw [first_eq hpos] at hne1
              obtain ⟨ad2, E1, e1, E2, e2, rfl, _, _, _, r0, r1, r2, r3, r4, r5⟩ := hr.rec_at hpos
              have hrl2 := hr.1
              have hrc2 := hr.2.1
              have d1 : (bs[k].recs[0].off == rs[j].off) = false := by simpa using hne1
              have HBD := fun n => Lib.hid (bthen HB.out (below_drewN wr n))
              rw [hmk] at p1
              have z0 : wr.cell? ad2 = some (.int .i64 bs[k].recs[0].off) := by simpa [Addr.add] using r0
              have z1 : wr.cell? (ad2.add 0) = some (.int .i64 bs[k].recs[0].off) := by simpa using r0
              clear hne1 hr
              go_wp2_with fail
              go_quiet (fail)
              go_wp2
              go_roundw
              case rel => exact ⟨j + 1, by omega, by go_num, HBD _⟩
              case measure => simp [intOf]; omega
          · go_wp2
            go_roundw
            case rel => exact ⟨k + 1, by omega, by go_num, HB⟩
            case measure => simp [intOf]; omega
      · go_wp2
        go_ret
        exact ⟨rfl, bthen b4.out HB.out⟩
  · go_enter Try.func16, Try.ntmps16
    go_wp2
    go_ret
    exact ⟨rfl, Below.refl _ _⟩
end Go.Proofs.Ytneblddbahancaa
