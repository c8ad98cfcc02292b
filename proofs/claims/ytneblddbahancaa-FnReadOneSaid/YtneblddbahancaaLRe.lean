/- Laws of reading: the end, one record. -/
import Derived.Test.YtneblddbahancaaDw
import Derived.Test.YtneblddbahancaaS5
import Derived.Test.YtneblddbahancaaE3
namespace Go.Proofs.Ytneblddbahancaa
set_option linter.unusedVariables false
set_option linter.unusedSimpArgs false
open Go.RowKit

theorem bdrew (w : World) : Below w.heap.size w w.drew := (Below.refl _ _).drew
theorem readEnd_log {bs : List Bat} (h : 1 ≤ readEnd bs) : logB bs = true ∧ 0 < bs.length ∧ readEnd bs = endOf bs := by
  cases hv : logB bs with
  | false => unfold readEnd at h; rw [hv] at h; simp at h
  | true =>
    have e : readEnd bs = endOf bs := by unfold readEnd; rw [hv]; rfl
    refine ⟨rfl, ?_, e⟩
    rcases Nat.eq_zero_or_pos bs.length with h0 | h0
    · rw [e] at h; unfold endOf at h; rw [if_pos h0] at h; omega
    · exact h0
set_option maxHeartbeats 2000000 in
theorem readEndLaw_walk (b0 : List Int) (A : Option Addr) (c : Nat) (w : World) (h : Kind.byte.Row w (fun _ => True) A c b0) :
    Calls Try.prog 8 #[.slice A b0.length c] w fun e w' => e = .returned (.bool true) ∧ Below w.heap.size w w' := by
  have hl := h.1
  have hc := h.2.1
  by_cases hs : b0.length ≤ 1048576
  · go_enter Try.func8, Try.ntmps8
    go_wp2_with fail
    refine (DrawReadEnd_any b0 A c _ _ h).mono ?_
    rintro e w1 ⟨bs, B, d, rfl, hD⟩
    have hB := hD.row
    have hb1 := hD.below
    clear hD
    go_wp2_with fail
    refine (ReadEnd_any bs B d _ _ hB).mono ?_
    rintro e w2 ⟨rfl, hb2⟩
    have hB2 := hB.below hb2
    obtain ⟨n, hn⟩ : ∃ n, n = readEnd bs := ⟨_, rfl⟩
    rw [← hn]
    have HN := Lib.hid hn
    clear hn
    go_wp2_with fail
    refine (ReadEndS_any bs B d _ _ hB2).mono ?_
    rintro e w3 ⟨rfl, hb3⟩
    have hB3 := hB2.below hb3
    rw [← HN.out]
    by_cases h1 : n < 1
    · go_wp2
      go_ret
      exact ⟨rfl, bthen (bthen hb1 hb2) hb3⟩
    · obtain ⟨hlog, hpos, he⟩ := readEnd_log (bs := bs) (by rw [← HN.out]; omega)
      have hen := endOf_nonneg hlog
      have r1 := readOne_last hlog hpos
      have r2 := readOne_end hlog
      rw [← he, ← HN.out] at r1 r2 hen
      have hn1 := hen.2
      have R1 := Lib.hid r1
      have R2 := Lib.hid r2
      clear hlog hpos he hen r1 r2
      go_wp2_with fail
      refine (ReadOne_any bs B d _ _ _ hB3).mono ?_
      rintro e w4 ⟨vk, vv, rfl, hC4⟩
      rw [R1.out]
      have hb4 := hC4.below
      have hB4 := hB3.below hb4
      obtain ⟨r4, hr4⟩ : ∃ r, r = recOr (readOne bs (n - 1)) := ⟨_, rfl⟩
      rw [← hr4] at hC4 ⊢
      obtain ⟨Ak, ck, rfl, _⟩ := AppP.row hC4.key
      obtain ⟨Av, cv, rfl, _⟩ := AppP.row hC4.val
      clear hr4 hC4
      go_wp2_with fail
      generalize hW4 : World.alloc _ _ = W4
      obtain ⟨_, c4, _⟩ := alloc1 hW4
      refine (ReadOne_any bs B d _ _ _ (hB4.below c4)).mono ?_
      rintro e w5 ⟨vk5, vv5, rfl, hC5⟩
      rw [R2.out]
      obtain ⟨r5, hr5⟩ : ∃ r, r = recOr (readOne bs n) := ⟨_, rfl⟩
      have hr5' : recOr none = r5 := by rw [hr5, R2.out]
      rw [R2.out, hr5'] at hC5
      rw [hr5']
      obtain ⟨Ak5, ck5, rfl, _⟩ := AppP.row hC5.key
      obtain ⟨Av5, cv5, rfl, _⟩ := AppP.row hC5.val
      have bb := Lib.hid (bthen (bthen (bthen (bthen (bthen hb1 hb2) hb3) hb4) c4) hC5.below)
      clear hC5 hb1 hb2 hb3 hb4 c4 hB hB2 hB3 hB4 hr5 hr5' hW4
      go_wp2
      go_ret
      exact ⟨rfl, bthen bb.out (bal _ _)⟩
  · go_enter Try.func8, Try.ntmps8
    go_wp2
    go_ret
    exact ⟨rfl, Below.refl _ _⟩

set_option maxHeartbeats 2000000 in
theorem DrawReadOne_any (bs0 : List Int) (A : Option Addr) (c : Nat) (F : Nat → Prop) (w : World) (h : Kind.byte.Row w F A c bs0) :
    Calls Try.prog 55 #[.slice A bs0.length c] w fun e w' => ∃ (bs : List Bat) (A' : Option Addr) (c' : Nat) (o : Int), e = .returned (.tuple #[.slice A' bs.length c', .int .i64 o]) ∧ Drawn w w' bs A' c' := by
  go_enter Try.func55, Try.ntmps55
  go_wp2_with fail
  refine (drawLog bs0 A c F _ h).mono ?_
  rintro e w1 ⟨g, rfl, hg, hR, hb1⟩
  go_wp2_with fail
  refine (l92Log_drawn g w w1 hg hR hb1).mono ?_
  rintro e w2 ⟨bs, A', c', rfl, hD, hR2, hE⟩
  clear hR hb1
  have hsl := recs_ok hD.len hD.ok
  go_wp2_with fail
  refine (l14All_any bs A' c' _ _ hE (by unfold allRecs; omega)).mono ?_
  rintro e w3 ⟨A3, c3, rfl, hrs, hb3⟩
  have hg2 := hR2.lt
  obtain ⟨rs, hr⟩ : ∃ rs, rs = allRecs bs := ⟨_, rfl⟩
  have hrl : rs.length ≤ 45 := by rw [hr]; unfold allRecs; omega
  rw [← hr] at hrs ⊢
  clear hr hsl
  have HD := Lib.hid (hD.after hb3)
  have hE3 := hE.below hb3
  have hR3 := hR2.below hb3
  have hrs3 := hrs.mono (F' := fun b => b ≠ g) (fun b hb => by
    rcases hb with hb | hb
    · exact hb.2
    · omega)
  clear hD hE hR2 hrs
  by_cases h0 : rs.length = 0
  · have d1 : decide (0 < rs.length) = false := by simp [h0]
    have d2 : decide ((0 : Int) < (rs.length : Int)) = false := by simp [h0]
    clear h0
    go_wp2_with fail
    refine (pickN g _ 30 _ hR3 (by omega) (by omega) (by omega)).mono ?_
    rintro e w4 ⟨v4, rfl, a4, b4, r4, c4⟩
    have HD4 := Lib.hid (drawn_pick hg HD.out hE3 c4).1
    clear c4
    go_wp2
    go_ret2
    exact ⟨bs, A', c', v4, rfl, HD4.out⟩
  · have d1 : decide (0 < rs.length) = true := by simp; omega
    have d2 : decide ((0 : Int) < (rs.length : Int)) = true := by simp; omega
    have hpos : 0 < rs.length := by omega
    have hrc := hrs3.2.1
    have hrcl := hrs3.1
    clear h0
    go_wp2_with fail
    refine (pickN g _ 4 _ hR3 (by omega) (by omega) (by omega)).mono ?_
    rintro e w4 ⟨v4, rfl, a4, b4, r4, c4⟩
    obtain ⟨hD4, hE4⟩ := drawn_pick hg HD.out hE3 c4
    have hrs4 := hrs3.keep (c4.same (fun i _ h1 h2 => h1 h2))
    have HD4 := Lib.hid hD4
    clear c4 hD4
    by_cases hv : 0 < v4
    · have d3 : decide ((0 : Int) < v4) = true := by simp [hv]
      have r4d := r4.below (bdrew w4)
      have hD4d := HD4.out.after (bdrew w4)
      have hE4d := hE4.below (bdrew w4)
      have hrs4d := hrs4.below (bdrew w4)
      have HDd := Lib.hid hD4d
      clear hD4d hE4 hrs4 r4
      go_wp2_with fail
      go_region_with (go_at_call 84; go_loud (refine (pickN g _ rs.length _ r4d (by omega) (by omega) (by omega)).mono ?_; rintro e w5 ⟨v5, rfl, a5, b5, r5, c5⟩; obtain ⟨hD5, hE5⟩ := drawn_pick hg HDd.out hE4d c5; have hrs5 := hrs4d.keep (c5.same (fun i _ h1 h2 => h1 h2)); obtain ⟨n5, rfl⟩ := Int.eq_ofNat_of_zero_le a5; have hn5 : n5 < rs.length := (by omega); obtain ⟨ad, B, b, B', b', rfl, _, _, _, q0, _⟩ := hrs5.rec_at hn5; have HD5 := Lib.hid hD5; clear c5 hD5))
      all_goals
        go_wp2
        go_ret2
        exact ⟨bs, A', c', _, rfl, HD5.out⟩
    · have d3 : decide ((0 : Int) < v4) = false := by simp; omega
      go_wp2_with fail
      refine (pickN g _ 30 _ r4 (by omega) (by omega) (by omega)).mono ?_
      rintro e w5 ⟨v5, rfl, a5, b5, r5, c5⟩
      have HD5 := Lib.hid (drawn_pick hg HD4.out hE4 c5).1
      clear c5
      go_wp2
      go_ret2
      exact ⟨bs, A', c', v5, rfl, HD5.out⟩
end Go.Proofs.Ytneblddbahancaa
