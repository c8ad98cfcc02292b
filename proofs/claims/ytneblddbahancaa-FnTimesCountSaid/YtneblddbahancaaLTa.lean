/- Laws of times over a drawn segment. -/
import Derived.Test.YtneblddbahancaaDw
import Derived.Test.YtneblddbahancaaS4
import Derived.Test.YtneblddbahancaaR2
namespace Go.Proofs.Ytneblddbahancaa
set_option linter.unusedVariables false
set_option linter.unusedSimpArgs false
open Go.RowKit

theorem timesFind_log {bs : List Bat} {t : Int} (h : 0 ≤ timesFind bs t) : logB bs = true := by
  cases hv : logB bs with
  | true => rfl
  | false => unfold timesFind at h; rw [hv] at h; simp at h
theorem timesCount_log {bs : List Bat} {f t : Int} (h : 0 ≤ timesCount bs f t) : logB bs = true := by
  cases hv : logB bs with
  | true => rfl
  | false => unfold timesCount at h; rw [hv] at h; simp at h

set_option maxHeartbeats 2000000 in
theorem timesFindLater_walk (b0 : List Int) (A : Option Addr) (c : Nat) (w : World) (h : Kind.byte.Row w (fun _ => True) A c b0) :
    Calls Try.prog 4 #[.slice A b0.length c] w fun e w' => e = .returned (.bool true) ∧ Below w.heap.size w w' := by
  have hl := h.1
  have hc := h.2.1
  by_cases hs : b0.length ≤ 1048576
  · go_enter Try.func4, Try.ntmps4
    go_wp2_with fail
    refine (DrawTimesFind_any b0 A c _ _ h).mono ?_
    rintro e w1 ⟨bs, B, d, t, rfl, ht0, ht1, hD⟩
    have hB := hD.row
    have hb1 := hD.below
    have hlen := hD.len
    have HD := Lib.hid hD
    clear hD
    go_wp2_with fail
    refine (TimesFind_any bs B d _ t _ hB).mono ?_
    rintro e w2 ⟨rfl, hb2⟩
    have hB2 := hB.below hb2
    obtain ⟨n, hn⟩ : ∃ n, n = timesFind bs t := ⟨_, rfl⟩
    rw [← hn]
    have HN := Lib.hid hn
    clear hn
    go_wp2_with fail
    refine (TimesFindS_any bs B d _ t _ hB2).mono ?_
    rintro e w3 ⟨rfl, hb3⟩
    have hB3 := hB2.below hb3
    rw [← HN.out]
    by_cases h0 : n < 0
    · go_wp2
      go_ret
      exact ⟨rfl, bthen (bthen hb1 hb2) hb3⟩
    · have hlog := timesFind_log (bs := bs) (t := t) (by rw [← HN.out]; omega)
      have hlat := findT_later hlog t
      obtain ⟨m, hm⟩ : ∃ m, m = timesFind bs (t + 1) := ⟨_, rfl⟩
      rw [← hm, ← HN.out] at hlat
      have HM := Lib.hid hm
      have HL := Lib.hid hlat
      clear hm hlat hlog
      go_wp2_with fail
      refine (TimesFind_any bs B d _ _ _ hB3).mono ?_
      rintro e w4 ⟨rfl, hb4⟩
      rw [← HM.out]
      have bb := Lib.hid (bthen (bthen (bthen hb1 hb2) hb3) hb4)
      clear hb1 hb2 hb3 hb4 hB hB2 hB3
      cases hm1 : (m == -1)
      · have hge : n ≤ m := by
          rcases HL.out with h | h
          · rw [h] at hm1; simp at hm1
          · exact h
        have d1 : decide (n ≤ m) = true := by simp [hge]
        go_wp2
        go_ret
        exact ⟨rfl, bb.out⟩
      · go_wp2
        go_ret
        exact ⟨rfl, bb.out⟩
  · go_enter Try.func4, Try.ntmps4
    go_wp2
    go_ret
    exact ⟨rfl, Below.refl _ _⟩

set_option maxHeartbeats 2000000 in
theorem timesFindLaw_walk (b0 : List Int) (A : Option Addr) (c : Nat) (w : World) (h : Kind.byte.Row w (fun _ => True) A c b0) :
    Calls Try.prog 6 #[.slice A b0.length c] w fun e w' => e = .returned (.bool true) ∧ Below w.heap.size w w' := by
  have hl := h.1
  have hc := h.2.1
  by_cases hs : b0.length ≤ 1048576
  · go_enter Try.func6, Try.ntmps6
    go_wp2_with fail
    refine (DrawTimesFind_any b0 A c _ _ h).mono ?_
    rintro e w1 ⟨bs, B, d, t, rfl, ht0, ht1, hD⟩
    have hB := hD.row
    have hb1 := hD.below
    have hlen := hD.len
    have HD := Lib.hid hD
    clear hD
    go_wp2_with fail
    refine (TimesFind_any bs B d _ t _ hB).mono ?_
    rintro e w2 ⟨rfl, hb2⟩
    have hB2 := hB.below hb2
    obtain ⟨n, hn⟩ : ∃ n, n = timesFind bs t := ⟨_, rfl⟩
    rw [← hn]
    have HN := Lib.hid hn
    clear hn
    go_wp2_with fail
    refine (TimesFindS_any bs B d _ t _ hB2).mono ?_
    rintro e w3 ⟨rfl, hb3⟩
    have hB3 := hB2.below hb3
    rw [← HN.out]
    by_cases h0 : n < 0
    · go_wp2
      go_ret
      exact ⟨rfl, bthen (bthen hb1 hb2) hb3⟩
    · have hlog := timesFind_log (bs := bs) (t := t) (by rw [← HN.out]; omega)
      have hfn : ∃ s, (allRecs bs).find? (timeB t) = some s ∧ s.off = n := by
        have e := HN.out
        unfold timesFind findT at e
        rw [hlog, if_pos rfl] at e
        cases hf : (allRecs bs).find? (timeB t) with
        | none => rw [hf] at e; simp [offOr] at e; omega
        | some s => rw [hf] at e; exact ⟨s, rfl, e.symm⟩
      obtain ⟨s, hfs, hsn⟩ := hfn
      obtain ⟨kk, hkk, hks, hps, hah⟩ := find_ahead hfs
      have hup := allRecs_up hlog
      have hsl := recs_ok HD.out.len HD.out.ok
      obtain ⟨rs, hrs⟩ : ∃ rs, rs = allRecs bs := ⟨_, rfl⟩
      have hsl' : (allRecs bs).length ≤ 1000 := by unfold allRecs; omega
      go_wp2_with fail
      refine (allOf_any bs B d _ _ hB3 hsl').mono ?_
      rintro e w4 ⟨B4, d4, rfl, hR, hb4⟩
      have bb := Lib.hid (bthen (bthen (bthen hb1 hb2) hb3) hb4)
      rw [← hrs]
      rw [← hrs] at hR hup
      have hah' : Hid (∀ j (hj : j < kk) (hl : j < rs.length), rs[j].time < t ∧ rs[j].off ≠ n) := Lib.hid (by
        subst hrs
        intro j hj hl
        have h1 := hah j hj
        have h2 := up_ne hup hkk hj
        rw [hks, hsn] at h2
        simp [timeB] at h1
        exact ⟨h1, h2⟩)
      have hkr : kk < rs.length := by rw [hrs]; exact hkk
      have hk1 : Hid (rs[kk].off = n ∧ t ≤ rs[kk].time) := Lib.hid (by
        subst hrs
        rw [hks]
        simp [timeB] at hps
        exact ⟨hsn, hps⟩)
      have hrl := hR.1
      have hrc := hR.2.1
      clear hb1 hb2 hb3 hb4 hB hB2 hB3 hrs hsl hsl' hah hup hks hps hfs hkk hsn hlog
      go_wp2_with fail
      go_loopw [8] (fun i wr => ∃ k : Nat, k ≤ kk ∧ i = .int .i64 k ∧ Hid (Below w4.heap.size w4 wr)) (fun i _ => kk - (intOf i).toNat)
      case atStart => exact ⟨0, Nat.zero_le _, rfl, Lib.hid (Below.refl _ _)⟩
      case round =>
        obtain ⟨k, hk, rfl, HB⟩ := hrel
        have hlt : k < rs.length := by omega
        obtain ⟨ad, X, x, X', x', rfl, _, _, _, q0, q1, q2, q3, q4, q5⟩ := (hR.below HB.out).rec_at hlt
        by_cases hkk2 : k < kk
        · obtain ⟨h1, h2⟩ := hah'.out k hkk2 hlt
          have d1 : (rs[k].off == n) = false := by simpa using h2
          have d2 : decide (t ≤ rs[k].time) = false := by simp; omega
          go_wp2
          go_roundw
          case rel => exact ⟨k + 1, by omega, by go_num, HB⟩
          case measure => simp [intOf]; omega
        · have hke : k = kk := by omega
          subst hke
          obtain ⟨h1, h2⟩ := hk1.out
          have d1 : (rs[k].off == n) = true := by simpa using h1
          have d2 : decide (t ≤ rs[k].time) = true := by simp; omega
          clear h1
          go_wp2
          go_ret
          exact ⟨by simp [h2], bthen bb.out HB.out⟩
  · go_enter Try.func6, Try.ntmps6
    go_wp2
    go_ret
    exact ⟨rfl, Below.refl _ _⟩

set_option maxHeartbeats 2000000 in
theorem timesCountAll_walk (b0 : List Int) (A : Option Addr) (c : Nat) (w : World) (h : Kind.byte.Row w (fun _ => True) A c b0) :
    Calls Try.prog 7 #[.slice A b0.length c] w fun e w' => e = .returned (.bool true) ∧ Below w.heap.size w w' := by
  have hl := h.1
  have hc := h.2.1
  by_cases hs : b0.length ≤ 1048576
  · go_enter Try.func7, Try.ntmps7
    go_wp2_with fail
    refine (DrawTimesCount_any b0 A c _ _ h).mono ?_
    rintro e w1 ⟨bs, B, d, f, t, rfl, hf0, hf1, hft, ht1, hD⟩
    have hB := hD.row
    have hb1 := hD.below
    have hlen := hD.len
    have HD := Lib.hid hD
    clear hD
    go_wp2_with fail
    refine (TimesCount_any bs B d _ f t _ hB).mono ?_
    rintro e w2 ⟨rfl, hb2⟩
    have hB2 := hB.below hb2
    obtain ⟨n, hn⟩ : ∃ n, n = timesCount bs f t := ⟨_, rfl⟩
    rw [← hn]
    have HN := Lib.hid hn
    clear hn
    go_wp2_with fail
    refine (TimesCountS_any bs B d _ f t _ hB2).mono ?_
    rintro e w3 ⟨rfl, hb3⟩
    have hB3 := hB2.below hb3
    rw [← HN.out]
    by_cases h0 : n < 0
    · go_wp2
      go_ret
      exact ⟨rfl, bthen (bthen hb1 hb2) hb3⟩
    · have hlog := timesCount_log (bs := bs) (f := f) (t := t) (by rw [← HN.out]; omega)
      have hsl := recs_ok HD.out.len HD.out.ok
      have hsl' : (allRecs bs).length ≤ 1000 := by unfold allRecs; omega
      have hn2 : n ≤ ((allRecs bs).length : Int) := by
        have e := HN.out
        unfold timesCount at e
        rw [hlog, if_pos rfl] at e
        have := cntT_le (allRecs bs) f t
        omega
      have hall : timesCount bs 0 100000 = ((allRecs bs).length : Int) := by
        unfold timesCount
        rw [hlog, if_pos rfl, cntT_all _ (allRecs_recB hlog)]
      obtain ⟨m, hm⟩ : ∃ m, m = (allRecs bs).length := ⟨_, rfl⟩
      rw [← hm] at hn2 hall
      have HM := Lib.hid hm
      have HA := Lib.hid hall
      clear hm hall hlog hsl
      go_wp2_with fail
      refine (allOf_any bs B d _ _ hB3 hsl').mono ?_
      rintro e w4 ⟨B4, d4, rfl, hR, hb4⟩
      have hB4 := hB3.below hb4
      rw [← HM.out]
      clear hR
      go_wp2_with fail
      refine (TimesCount_any bs B d _ _ _ _ hB4).mono ?_
      rintro e w5 ⟨rfl, hb5⟩
      rw [HA.out]
      have bb := Lib.hid (bthen (bthen (bthen (bthen hb1 hb2) hb3) hb4) hb5)
      have d1 : decide (n ≤ (m : Int)) = true := by simp [hn2]
      clear hb1 hb2 hb3 hb4 hb5 hB hB2 hB3 hB4 hn2
      go_wp2
      go_ret
      exact ⟨rfl, bb.out⟩
  · go_enter Try.func7, Try.ntmps7
    go_wp2
    go_ret
    exact ⟨rfl, Below.refl _ _⟩

set_option maxHeartbeats 2000000 in
theorem timesCountLaw_walk (b0 : List Int) (A : Option Addr) (c : Nat) (m0 : List Int) (A2 : Option Addr) (c2 : Nat) (w : World) (h : Kind.byte.Row w (fun _ => True) A c b0) (h2 : Kind.byte.Row w (fun _ => True) A2 c2 m0) :
    Calls Try.prog 5 #[.slice A b0.length c, .slice A2 m0.length c2] w fun e w' => e = .returned (.bool true) ∧ Below w.heap.size w w' := by
  have hl := h.1
  have hc := h.2.1
  have hl2 := h2.1
  have hc2 := h2.2.1
  by_cases hs : b0.length ≤ 1048576 ∧ m0.length ≤ 1048576
  · obtain ⟨hs1, hs2⟩ := hs
    go_enter Try.func5, Try.ntmps5
    go_wp2_with fail
    refine (DrawTimesCount_any b0 A c _ _ h).mono ?_
    rintro e w1 ⟨bs, B, d, f, t, rfl, hf0, hf1, hft, ht1, hD⟩
    have hB := hD.row
    have hb1 := hD.below
    have hlen := hD.len
    have HD := Lib.hid hD
    clear hD
    go_wp2_with fail
    refine (TimesCount_any bs B d _ f t _ hB).mono ?_
    rintro e w2 ⟨rfl, hb2⟩
    have hB2 := hB.below hb2
    obtain ⟨n, hn⟩ : ∃ n, n = timesCount bs f t := ⟨_, rfl⟩
    rw [← hn]
    have HN := Lib.hid hn
    clear hn
    go_wp2_with fail
    refine (TimesCountS_any bs B d _ f t _ hB2).mono ?_
    rintro e w3 ⟨rfl, hb3⟩
    have hB3 := hB2.below hb3
    rw [← HN.out]
    by_cases h0 : n < 0
    · go_wp2
      go_ret
      exact ⟨rfl, bthen (bthen hb1 hb2) hb3⟩
    · have hlog := timesCount_log (bs := bs) (f := f) (t := t) (by rw [← HN.out]; omega)
      obtain ⟨k, hk⟩ : ∃ k, k = f + (m0.length : Int) % (t - f + 1) := ⟨_, rfl⟩
      have hm0 : 0 ≤ (m0.length : Int) % (t - f + 1) := Int.emod_nonneg _ (by omega)
      have hm1 : (m0.length : Int) % (t - f + 1) < t - f + 1 := Int.emod_lt_of_pos _ (by omega)
      have hk0 : f ≤ k := by omega
      have hk1 : k ≤ t := by omega
      obtain ⟨p, hp⟩ : ∃ p, p = cntT (allRecs bs) f k := ⟨_, rfl⟩
      obtain ⟨q, hq⟩ : ∃ q, q = cntT (allRecs bs) k t := ⟨_, rfl⟩
      have hpq : ((p : Int) + (q : Int)) = n := by
        have e := HN.out
        unfold timesCount at e
        rw [hlog, if_pos rfl] at e
        have := cntT_split (allRecs bs) f k t hk0 hk1
        omega
      have e1 : timesCount bs f k = (p : Int) := by unfold timesCount; rw [hlog, if_pos rfl, hp]
      have e2 : timesCount bs k t = (q : Int) := by unfold timesCount; rw [hlog, if_pos rfl, hq]
      have hsl := allRecs_len hlog
      have hp2 : p ≤ 48 := by have := cntT_le (allRecs bs) f k; omega
      have hq2 : q ≤ 48 := by have := cntT_le (allRecs bs) k t; omega
      have HK := Lib.hid hk
      have HPQ := Lib.hid hpq
      have E1 := Lib.hid e1
      have E2 := Lib.hid e2
      clear hk hp hq hpq e1 e2 hsl hlog
      go_wp2_with fail
      rw [← HK.out]
      refine (TimesCount_any bs B d _ _ _ _ hB3).mono ?_
      rintro e w4 ⟨rfl, hb4⟩
      rw [E1.out]
      have hB4 := hB3.below hb4
      go_wp2_with fail
      refine (TimesCount_any bs B d _ _ _ _ hB4).mono ?_
      rintro e w5 ⟨rfl, hb5⟩
      rw [E2.out]
      have bb := Lib.hid (bthen (bthen (bthen (bthen hb1 hb2) hb3) hb4) hb5)
      clear hb1 hb2 hb3 hb4 hb5 hB hB2 hB3 hB4
      go_wp2
      go_ret
      exact ⟨by rw [HPQ.out]; simp, bb.out⟩
  · by_cases hs1 : b0.length ≤ 1048576
    · have hs2 : ¬ m0.length ≤ 1048576 := fun h => hs ⟨hs1, h⟩
      clear hs
      go_enter Try.func5, Try.ntmps5
      go_wp2
      go_ret
      exact ⟨rfl, Below.refl _ _⟩
    · clear hs
      go_enter Try.func5, Try.ntmps5
      go_wp2
      go_ret
      exact ⟨rfl, Below.refl _ _⟩
end Go.Proofs.Ytneblddbahancaa
