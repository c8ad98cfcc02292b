/- The law FnReadRecordsAll. -/
import Derived.Test.YtneblddbahancaaLRr
namespace Go.Proofs.Ytneblddbahancaa
set_option linter.unusedVariables false
set_option linter.unusedSimpArgs false
open Go.RowKit

theorem un_step {bs : List Bat} {k : Nat} (hk : k < bs.length) : allRecs (unmarked (bs.take (k + 1))) = allRecs (unmarked (bs.take k)) ++ if bs[k].mark then [] else bs[k].recs := by
  rw [List.take_succ_eq_append_getElem hk]
  unfold unmarked allRecs
  rw [List.filter_append, List.flatMap_append]
  cases h : bs[k].mark <;> simp [h]
theorem un_le (bs : List Bat) (k : Nat) : (allRecs (unmarked (bs.take k))).length ≤ (allRecs (unmarked bs)).length := by
  conv => rhs; rw [← List.take_append_drop k bs]
  unfold unmarked allRecs
  rw [List.filter_append, List.flatMap_append, List.length_append]
  omega

set_option maxRecDepth 100000 in
set_option maxHeartbeats 4000000 in
theorem readAllLaw_walk (b0 : List Int) (A : Option Addr) (c : Nat) (w : World) (h : Kind.byte.Row w (fun _ => True) A c b0) :
    Calls Try.prog 15 #[.slice A b0.length c] w fun e w' => e = .returned (.bool true) ∧ Below w.heap.size w w' := by
  have hl := h.1
  have hc := h.2.1
  by_cases hs : b0.length ≤ 1048576
  · go_enter Try.func15, Try.ntmps15
    go_wp2_with fail
    refine (DrawReadRecords_any b0 A c _ _ h).mono ?_
    rintro e w1 ⟨bs, B, d, o, m, rfl, ho0, ho1, hm0, hm1, hD⟩
    have hB := hD.row
    have hb1 := hD.below
    have hok := recs_ok hD.len hD.ok
    clear hD
    go_wp2_with fail
    refine (ReadRecords_any bs B d _ o m _ hB).mono ?_
    rintro e w2 ⟨v, B2, rfl, hX2, hb2⟩
    have HLE := Lib.hid (fun hv => readRecords_le bs hv o m)
    obtain ⟨rs, hrs⟩ : ∃ rs, rs = readRecords bs o m := ⟨_, rfl⟩
    rw [← hrs] at hX2 HLE
    have HRS := Lib.hid hrs
    clear hrs
    obtain ⟨A2, c2, rfl, hR2⟩ := hX2.recs
    have hB2 := hB.below hb2
    have b2 := bthen hb1 hb2
    clear hX2 hb1 hb2 hB
    go_wp2_with fail
    refine (ReadRecordsS_any bs B d _ o m _ hB2).mono ?_
    rintro e w3 ⟨v3, B3, rfl, hX3, hb3⟩
    rw [← HRS.out] at hX3
    obtain ⟨A3, c3, rfl, hR3⟩ := hX3.recs
    have hR23 := hR2.below hb3
    have b3 := bthen b2 hb3
    have hB3 := hB2.below hb3
    have hrl := hR23.1
    have hrc := hR23.2.1
    clear hX3 hR2 hb3 hB2 b2
    go_wp2_with fail
    refine (sameRecords_any rs rs A2 A3 c2 c3 _ _ _ hR23 hR3).mono ?_
    rintro e w4 ⟨rfl, hb4⟩
    rw [show decide (rs = rs) = true by simp]
    have hR4 := hR23.below hb4
    have hR34 := hR3.below hb4
    have b4 := Lib.hid (bthen b3 hb4)
    have hB4 := hB3.below hb4
    clear b3 hb4 hR3 hR23 hB3
    go_wp2_with fail
    refine (LogValidS_any bs B d _ _ hB4).mono ?_
    rintro e w5 ⟨rfl, hb5⟩
    have hR5 := hR4.below hb5
    have hR35 := hR34.below hb5
    have hB5 := hB4.below hb5
    have b5 := Lib.hid (bthen b4.out hb5)
    clear hb5 b4 hR4 hR34 hB4
    cases hv : logB bs
    · clear HLE
      go_wp2_with fail
      refine (sameRecords_any rs rs A2 A3 c2 c3 _ _ _ hR5 hR35).mono ?_
      rintro e w6 ⟨rfl, hb6⟩
      rw [show decide (rs = rs) = true by simp]
      go_wp2
      go_ret
      exact ⟨rfl, bthen b5.out hb6⟩
    · have HLE := Lib.hid (HLE.out hv)
      have HALL := Lib.hid (readRecords_all hv)
      have hlen := Lib.hid (allRecs_len (logB_unmarked hv))
      have hbl := hB5.1
      have hbc := hB5.2.1
      have hA1 := AppP.mono (P' := fun b => b < w5.heap.size ∨ w5.heap.size ≤ b) (App.lit Kind.rec_ 38 w5 w5.heap.size (Nat.le_refl _)) (fun b _ hb => .inr hb)
      have hB1 := Lib.hid (bal w5 (.cells #[] 38))
      go_wp2_with fail
      go_loopw [8, 9] (fun v i wr => ∃ k : Nat, k ≤ bs.length ∧ i = .int .i64 k ∧ AppP Kind.rec_ 38 wr (fun b => b < w5.heap.size ∨ w5.heap.size ≤ b) v (allRecs (unmarked (bs.take k))) ∧
        Hid (∀ g, v.ownBlock = some g → w5.heap.size ≤ g) ∧ Hid (Below w5.heap.size w5 wr)) (fun _ i _ => bs.length - (intOf i).toNat)
      case atStart => exact ⟨0, Nat.zero_le _, rfl, hA1, Lib.hid own_lit, hB1⟩
      case round =>
        obtain ⟨k, hk, rfl, HA, HO, HB⟩ := hrel
        by_cases hlt : k < bs.length
        · obtain ⟨ad, C1, c1, rfl, _, hr, q0, q1, q2, q3, q4, q5⟩ := ((hB5.bound bnd_bat).below HB.out).bat_at hlt
          have E1 := Lib.hid (un_step hlt)
          have hws := HB.out.size
          cases hmk : bs[k].mark
          · have hsz : (allRecs (unmarked (bs.take k))).length + bs[k].recs.length ≤ 48 := by
              have := un_le bs (k + 1)
              rw [E1.out, hmk] at this
              simp at this
              have := hlen.out
              omega
            rw [hmk] at q1
            rw [hmk] at E1
            clear hA1 hB1
            go_wp2_with (at_builtin; go_loud (refine wpList_appN Kind.rec_ HA rfl _ _ 34 (.agg #[.int .i64 0, .int .i64 0, .bool false, .slice none 0 0, .bool false, .slice none 0 0]) 80 rfl Try.underlying34 (by kernel_rfl) rfl bnd_rec onec_rec (A := C1) (c := c1) rfl rfl rfl hr (fun b' _ hb => ⟨.inl hb.2, fun e => by have := HO.out _ e; have := hb.2; omega⟩) (fun b' hb => .inr (by omega)) (by omega) (by omega) ?_))
            intro v1 w1 HA1 hc1 ho1
            have HA1 : AppP Kind.rec_ 38 w1 (fun b => b < w5.heap.size ∨ w5.heap.size ≤ b) v1 (allRecs (unmarked (bs.take (k + 1)))) := by rw [E1.out]; exact HA1
            have HO1 := Lib.hid (own_from ho1 HO.out hws)
            have HB1 := Lib.hid (HB.out.trans (hc1.below hws (fun i hi => HO.out i hi)))
            clear hc1 ho1 HA HO HB q0 q1 q2 q3 q4 q5 hr
            go_wp2
            go_roundw
            case rel => exact ⟨k + 1, by omega, by go_num, HA1, HO1, HB1⟩
            case measure => simp [intOf]; omega
          · rw [hmk] at q1
            rw [hmk] at E1
            have HA1 : AppP Kind.rec_ 38 wr (fun b => b < w5.heap.size ∨ w5.heap.size ≤ b) u8 (allRecs (unmarked (bs.take (k + 1)))) := by rw [E1.out]; simpa using HA
            go_wp2
            go_roundw
            case rel => exact ⟨k + 1, by omega, by go_num, HA1, HO, HB⟩
            case measure => simp [intOf]; omega
        · have hk2 : k = bs.length := by omega
          subst hk2
          rw [List.take_length] at HA
          have hB6 := hB5.below HB.out
          go_wp2_with fail
          refine (ReadRecords_any bs B d _ 0 99 _ hB6).mono ?_
          rintro e w6 ⟨va, Ba, rfl, hXa, hb6⟩
          rw [HALL.out] at hXa
          obtain ⟨us, hus⟩ : ∃ us, us = allRecs (unmarked bs) := ⟨_, rfl⟩
          rw [← hus] at hXa HA HLE hlen
          clear hus HALL
          obtain ⟨A6, c6, rfl, hR6⟩ := hXa.recs
          obtain ⟨A7, c7, rfl, hR7⟩ := AppP.row HA
          have hR7 := (hR7.mono (F' := fun _ => True) (fun _ _ => trivial)).below hb6
          have b6 := Lib.hid (bthen b5.out (bthen HB.out hb6))
          have hle := HLE.out
          have hln := hlen.out
          clear hXa HA hb6 hA1 hB1 HO HB
          go_wp2_with fail
          refine (sameRecords_any us us A6 A7 c6 c7 _ _ _ hR6 hR7).mono ?_
          rintro e w7 ⟨rfl, hb7⟩
          rw [show decide (us = us) = true by simp]
          go_wp2
          go_ret
          exact ⟨ret_bool (by simp), bthen b6.out hb7⟩
  · go_enter Try.func15, Try.ntmps15
    go_wp2
    go_ret
    exact ⟨rfl, Below.refl _ _⟩
end Go.Proofs.Ytneblddbahancaa
