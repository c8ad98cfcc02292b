/- TimesFind, TimesCount, ReadEnd of the reference; ReadEnd of the program. -/
import Derived.Test.YtlgcajjoimcdhaaS2
import Derived.Test.YtlgcajjoimcdhaaB3
import Derived.Test.YtlgcajjoimcdhaaS3
namespace Go.Proofs.Ytlgcajjoimcdhaa
set_option linter.unusedVariables false
set_option linter.unusedSimpArgs false
open Go.RowKit

theorem find_step_no {rs : List Rec} {p : Rec → Bool} {k : Nat} (h : (rs.take k).find? p = none) (hk : k < rs.length) (hp : p rs[k] = false) : (rs.take (k + 1)).find? p = none := by
  rw [List.take_succ_eq_append_getElem hk, List.find?_append, h]
  simp [hp]
theorem find_step_yes {rs : List Rec} {p : Rec → Bool} {k : Nat} (h : (rs.take k).find? p = none) (hk : k < rs.length) (hp : p rs[k] = true) : rs.find? p = some rs[k] := by
  conv => lhs; rw [← List.take_append_drop k rs, List.drop_eq_getElem_cons hk]
  rw [List.find?_append, h, Option.none_or, List.find?_cons_of_pos hp]
theorem cnt_step (rs : List Rec) (f t : Int) (k : Nat) (hk : k < rs.length) : cntT (rs.take (k + 1)) f t = cntT (rs.take k) f t + if spanB f t rs[k] then 1 else 0 := by
  unfold cntT
  rw [List.take_succ_eq_append_getElem hk, List.filter_append, List.length_append]
  cases h : spanB f t rs[k] <;> simp [h]

set_option maxHeartbeats 1000000 in
theorem TimesFindS_any (bs : List Bat) (A : Option Addr) (c : Nat) (F : Nat → Prop) (t : Int) (w : World) (h : Bats w F A c bs) :
    Calls Try.prog 49 #[.slice A bs.length c, .int .i64 t] w fun e w' => e = .returned (.int .i64 (timesFind bs t)) ∧ Below w.heap.size w w' := by
  cases hv : logB bs
  · have e1 : timesFind bs t = -1 := by unfold timesFind; rw [hv]; rfl
    have HV := Lib.hid hv
    rw [e1]
    clear hv e1
    go_enter Try.func49, Try.ntmps49
    go_wp2_with (go_at_call 53; refine (LogValidS_any bs A c _ _ h).mono ?_; rintro e w1 ⟨rfl, hb1⟩; rw [HV.out])
    go_ret
    exact ⟨rfl, hb1⟩
  · have e1 : timesFind bs t = findT (allRecs bs) t := by unfold timesFind; rw [hv]; rfl
    have hlen := allRecs_len hv
    have HV := Lib.hid hv
    rw [e1]
    clear hv e1
    go_enter Try.func49, Try.ntmps49
    go_wp2_with fail
    refine (LogValidS_any bs A c _ _ h).mono ?_
    rintro e w1 ⟨rfl, hb1⟩
    rw [HV.out]
    go_wp2_with fail
    refine (l14All_any bs A c _ _ (h.below hb1) (by omega)).mono ?_
    rintro e w2 ⟨A', c', rfl, hR, hb2⟩
    obtain ⟨rs, hrs⟩ : ∃ rs, rs = allRecs bs := ⟨_, rfl⟩
    rw [← hrs] at hR ⊢ hlen
    have HRS := Lib.hid hrs
    have hb := bthen hb1 hb2
    have hrl := hR.1
    have hrc := hR.2.1
    clear hrs hb1 hb2
    go_wp2_with fail
    go_loopw [6] (fun i wr => ∃ k : Nat, k ≤ rs.length ∧ i = .int .i64 k ∧ Hid ((rs.take k).find? (timeB t) = none) ∧ Hid (Below w2.heap.size w2 wr)) (fun i _ => rs.length - (intOf i).toNat)
    case atStart => exact ⟨0, Nat.zero_le _, rfl, Lib.hid rfl, Lib.hid (Below.refl _ _)⟩
    case round =>
      obtain ⟨k, hk, rfl, HN, HB⟩ := hrel
      by_cases hlt : k < rs.length
      · obtain ⟨ad, B, b, B', b', rfl, _, _, _, q0, q1, q2, q3, q4, q5⟩ := (hR.below HB.out).rec_at hlt
        by_cases hx : t ≤ rs[k].time
        · have HF := Lib.hid (find_step_yes HN.out hlt (p := timeB t) (by simp [timeB, hx]))
          go_wp2
          go_ret
          exact ⟨ret_int (by unfold findT; rw [← HRS.out, HF.out]; rfl), bthen hb HB.out⟩
        · have HF := Lib.hid (find_step_no HN.out hlt (p := timeB t) (by simp [timeB]; omega))
          go_wp2
          go_roundw
          case rel => exact ⟨k + 1, by omega, by go_num, HF, HB⟩
          case measure => simp [intOf]; omega
      · have HF := Lib.hid (show rs.find? (timeB t) = none by have := HN.out; rwa [List.take_of_length_le (by omega)] at this)
        go_wp2
        go_ret
        exact ⟨ret_int (by unfold findT; rw [← HRS.out, HF.out]; rfl), bthen hb HB.out⟩

set_option maxHeartbeats 1000000 in
theorem TimesCountS_any (bs : List Bat) (A : Option Addr) (c : Nat) (F : Nat → Prop) (f t : Int) (w : World) (h : Bats w F A c bs) :
    Calls Try.prog 51 #[.slice A bs.length c, .int .i64 f, .int .i64 t] w fun e w' => e = .returned (.int .i64 (timesCount bs f t)) ∧ Below w.heap.size w w' := by
  cases hv : logB bs
  · have e1 : timesCount bs f t = -1 := by unfold timesCount; rw [hv]; rfl
    have HV := Lib.hid hv
    rw [e1]
    clear hv e1
    go_enter Try.func51, Try.ntmps51
    go_wp2_with (go_at_call 53; refine (LogValidS_any bs A c _ _ h).mono ?_; rintro e w1 ⟨rfl, hb1⟩; rw [HV.out])
    go_ret
    exact ⟨rfl, hb1⟩
  · have e1 : timesCount bs f t = cntT (allRecs bs) f t := by unfold timesCount; rw [hv]; rfl
    have hlen := allRecs_len hv
    have HV := Lib.hid hv
    rw [e1]
    clear hv e1
    go_enter Try.func51, Try.ntmps51
    go_wp2_with fail
    refine (LogValidS_any bs A c _ _ h).mono ?_
    rintro e w1 ⟨rfl, hb1⟩
    rw [HV.out]
    go_wp2_with fail
    refine (l14All_any bs A c _ _ (h.below hb1) (by omega)).mono ?_
    rintro e w2 ⟨A', c', rfl, hR, hb2⟩
    obtain ⟨rs, hrs⟩ : ∃ rs, rs = allRecs bs := ⟨_, rfl⟩
    rw [← hrs] at hR ⊢ hlen
    have HRS := Lib.hid hrs
    have hb := bthen hb1 hb2
    have hrl := hR.1
    have hrc := hR.2.1
    clear hrs hb1 hb2
    go_wp2_with fail
    go_loopw [8, 9] (fun m i wr => ∃ k q : Nat, k ≤ rs.length ∧ i = .int .i64 k ∧ m = .int .i64 q ∧ q ≤ k ∧ Hid (q = cntT (rs.take k) f t) ∧ Hid (Below w2.heap.size w2 wr)) (fun _ i _ => rs.length - (intOf i).toNat)
    case atStart => exact ⟨0, 0, Nat.zero_le _, rfl, rfl, Nat.le_refl _, Lib.hid rfl, Lib.hid (Below.refl _ _)⟩
    case round =>
      obtain ⟨k, q, hk, rfl, rfl, hq, HN, HB⟩ := hrel
      by_cases hlt : k < rs.length
      · obtain ⟨ad, B, b, B', b', rfl, _, _, _, q0, q1, q2, q3, q4, q5⟩ := (hR.below HB.out).rec_at hlt
        have k0 : (0 : Int) ≤ (k : Int) := by omega
        have k1 : (k : Int) < (rs.length : Int) := by omega
        have HS := Lib.hid (cnt_step rs f t k hlt)
        by_cases hx : f ≤ rs[k].time
        · have d1 : decide (f ≤ rs[k].time) = true := by simp [hx]
          by_cases hy : rs[k].time < t
          · have d2 : decide (rs[k].time < t) = true := by simp [hy]
            have HE := Lib.hid (show q + 1 = cntT (rs.take (k + 1)) f t by rw [HS.out, ← HN.out]; simp [spanB, hx, hy])
            go_wp2_with fail
            try go_quiet (fail)
            go_wp2
            go_roundw
            case rel => exact ⟨k + 1, q + 1, by omega, by go_num, by go_num, by omega, HE, by first | exact HB | exact Lib.hid (bthen HB.out (below_drewN _ _))⟩
            case measure => simp [intOf]; omega
          · have d2 : decide (rs[k].time < t) = false := by simp; omega
            have HE := Lib.hid (show q = cntT (rs.take (k + 1)) f t by rw [HS.out, ← HN.out]; simp [spanB, hy])
            go_wp2_with fail
            try go_quiet (fail)
            go_wp2
            go_roundw
            case rel => exact ⟨k + 1, q, by omega, by go_num, rfl, by omega, HE, by first | exact HB | exact Lib.hid (bthen HB.out (below_drewN _ _))⟩
            case measure => simp [intOf]; omega
        · have d1 : decide (f ≤ rs[k].time) = false := by simp; omega
          have HE := Lib.hid (show q = cntT (rs.take (k + 1)) f t by rw [HS.out, ← HN.out]; simp [spanB, hx])
          go_wp2_with fail
          try go_quiet (fail)
          go_wp2
          go_roundw
          case rel => exact ⟨k + 1, q, by omega, by go_num, rfl, by omega, HE, by first | exact HB | exact Lib.hid (bthen HB.out (below_drewN _ _))⟩
          case measure => simp [intOf]; omega
      · have HF := Lib.hid (show q = cntT rs f t by have := HN.out; rwa [List.take_of_length_le (by omega)] at this)
        go_wp2
        go_ret
        exact ⟨ret_int (by rw [← HRS.out, ← HF.out]), bthen hb HB.out⟩

theorem ReadEndS_any (bs : List Bat) (A : Option Addr) (c : Nat) (F : Nat → Prop) (w : World) (h : Bats w F A c bs) :
    Calls Try.prog 17 #[.slice A bs.length c] w fun e w' => e = .returned (.int .i64 (readEnd bs)) ∧ Below w.heap.size w w' := by
  have hl := h.1
  have hc := h.2.1
  cases hv : logB bs
  · have e1 : readEnd bs = -1 := by unfold readEnd; rw [hv]; rfl
    have HV := Lib.hid hv
    rw [e1]
    clear hv e1
    go_enter Try.func17, Try.ntmps17
    go_wp2_with (go_at_call 53; refine (LogValidS_any bs A c _ _ h).mono ?_; rintro e w1 ⟨rfl, hb1⟩; rw [HV.out])
    go_ret
    exact ⟨rfl, hb1⟩
  · have e1 : readEnd bs = endOf bs := by unfold readEnd; rw [hv]; rfl
    rw [e1]
    by_cases h0 : bs.length = 0
    · have e2 : endOf bs = 0 := by unfold endOf; rw [if_pos h0]
      rw [e2]
      have hz : ((bs.length : Int) == 0) = true := by simp [h0]
      have HV := Lib.hid hv
      clear hv e1 e2 h0
      go_enter Try.func17, Try.ntmps17
      go_wp2_with (go_at_call 53; refine (LogValidS_any bs A c _ _ h).mono ?_; rintro e w1 ⟨rfl, hb1⟩; rw [HV.out])
      go_ret
      exact ⟨rfl, hb1⟩
    · have hpos : 0 < bs.length := by omega
      have e2 := endOf_last hv hpos
      have hen := endOf_nonneg hv
      have hvb := ((logB_iff _).1 hv).2.1 _ (List.getElem_mem (l := bs) (n := bs.length - 1) (by omega))
      have hbp := Lib.hid (batB_pos hvb)
      have hz : ((bs.length : Int) == 0) = false := by simpa using h0
      rw [e2]
      rw [e2] at hen
      have hl0 := hen.1
      have hl1 := hen.2
      have hk1 : bs.length - 1 < bs.length := by omega
      have HV := Lib.hid hv
      clear hv e1 e2 h0 hvb hen
      go_enter Try.func17, Try.ntmps17
      go_wp2_with fail
      refine (LogValidS_any bs A c _ _ h).mono ?_
      rintro e w1 ⟨rfl, hb1⟩
      rw [HV.out]
      obtain ⟨ad, B, b, rfl, _, hr, q0, q1, q2, q3, q4, q5⟩ := (h.below hb1).bat_at hk1
      go_wp2_with fail
      refine (l12Last_any bs[bs.length - 1] B b _ _ hr hbp.out).mono ?_
      rintro e w2 ⟨rfl, hb2⟩
      go_wp2
      go_ret
      exact ⟨rfl, bthen hb1 hb2⟩
theorem ReadEnd_any (bs : List Bat) (A : Option Addr) (c : Nat) (F : Nat → Prop) (w : World) (h : Bats w F A c bs) :
    Calls Try.prog 16 #[.slice A bs.length c] w fun e w' => e = .returned (.int .i64 (readEnd bs)) ∧ Below w.heap.size w w' := by
  have hl := h.1
  have hc := h.2.1
  cases hv : logB bs
  · have e1 : readEnd bs = -1 := by unfold readEnd; rw [hv]; rfl
    have HV := Lib.hid hv
    rw [e1]
    clear hv e1
    go_enter Try.func16, Try.ntmps16
    go_wp2_with (go_at_call 24; refine (LogValid_any bs A c _ _ h).mono ?_; rintro e w1 ⟨rfl, hb1⟩; rw [HV.out])
    go_ret
    exact ⟨rfl, hb1⟩
  · have e1 : readEnd bs = endOf bs := by unfold readEnd; rw [hv]; rfl
    rw [e1]
    by_cases h0 : bs.length = 0
    · have e2 : endOf bs = 0 := by unfold endOf; rw [if_pos h0]
      rw [e2]
      have hz : ((bs.length : Int) == 0) = true := by simp [h0]
      have HV := Lib.hid hv
      clear hv e1 e2 h0
      go_enter Try.func16, Try.ntmps16
      go_wp2_with (go_at_call 24; refine (LogValid_any bs A c _ _ h).mono ?_; rintro e w1 ⟨rfl, hb1⟩; rw [HV.out])
      go_ret
      exact ⟨rfl, hb1⟩
    · have hpos : 0 < bs.length := by omega
      have e2 := endOf_last hv hpos
      have hen := endOf_nonneg hv
      have hvb := ((logB_iff _).1 hv).2.1 _ (List.getElem_mem (l := bs) (n := bs.length - 1) (by omega))
      have hbp := Lib.hid (batB_pos hvb)
      have hz : ((bs.length : Int) == 0) = false := by simpa using h0
      rw [e2]
      rw [e2] at hen
      have hl0 := hen.1
      have hl1 := hen.2
      have hk1 : bs.length - 1 < bs.length := by omega
      have HV := Lib.hid hv
      clear hv e1 e2 h0 hvb hen
      go_enter Try.func16, Try.ntmps16
      go_wp2_with fail
      refine (LogValid_any bs A c _ _ h).mono ?_
      rintro e w1 ⟨rfl, hb1⟩
      rw [HV.out]
      obtain ⟨ad, B, b, rfl, _, hr, q0, q1, q2, q3, q4, q5⟩ := (h.below hb1).bat_at hk1
      go_wp2_with fail
      refine (last_any bs[bs.length - 1] B b _ _ hr hbp.out).mono ?_
      rintro e w2 ⟨rfl, hb2⟩
      go_wp2
      go_ret
      exact ⟨rfl, bthen hb1 hb2⟩
end Go.Proofs.Ytlgcajjoimcdhaa
