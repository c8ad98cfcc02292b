/- The exact law of scanning a segment. -/
import Derived.Test.YtomcjjehfocbmaaSl
import Derived.Test.YtomcjjehfocbmaaSs
import Derived.Test.YtomcjjehfocbmaaPj
import Derived.Test.YtomcjjehfocbmaaT2
import Derived.Test.YtomcjjehfocbmaaE3
import Derived.Test.YtomcjjehfocbmaaM5
namespace Go.Proofs.Ytomcjjehfocbmaa
set_option linter.unusedVariables false
set_option linter.unusedSimpArgs false
open Go.RowKit

theorem wtRs_few {rs : List Rec} (h : ∀ r ∈ rs, r.key.length ≤ 12 ∧ r.val.length ≤ 12) : wtRs rs ≤ 25 * rs.length := by
  unfold wtRs
  induction rs with
  | nil => simp
  | cons r t ih =>
    have h1 := ih (fun x hx => h x (by simp [hx]))
    have h2 := h r (by simp)
    rw [List.map_cons, List.sum_cons, List.length_cons]
    have h3 : wtR r ≤ 24 := by unfold wtR; omega
    omega
theorem logB_few {xs : List Bat} (h : logB xs = true) : wtBs xs ≤ 2000 := by
  obtain ⟨h8, hb, _⟩ := (logB_iff _).1 h
  have hs : ∀ l : List Bat, (∀ b ∈ l, batB b = true) → (l.map wtB).sum ≤ 175 * l.length := by
    intro l
    induction l with
    | nil => intro _; simp
    | cons a t ih =>
      intro hl
      have h1 := ih (fun b hb => hl b (by simp [hb]))
      have h2 := batB_parts (hl a (by simp))
      have h3 := wtRs_few (rs := a.recs) (fun r hr => recB_small (h2.2.2 r hr))
      have h4 := h2.2.1.2
      rw [List.map_cons, List.sum_cons, List.length_cons]
      show wtRs a.recs + _ ≤ _
      omega
  have := hs xs hb
  unfold wtBs
  omega
set_option maxRecDepth 100000 in
set_option maxHeartbeats 8000000 in
theorem exactLogScan_walk (l : List Int) (A : Option Addr) (c : Nat) (w : World) (h : Ints w (fun _ => True) A c l) :
    Calls Try.prog 10 #[.slice A l.length c] w fun e w' => e = .returned (.bool true) ∧ Below w.heap.size w w' := by
  have hl := h.1
  have hc := h.2.1
  by_cases hs : l.length ≤ 1048576
  · have HN := Lib.hid (show l.length ≤ 4194304 by omega)
    obtain ⟨r, hr⟩ : ∃ r, r = scanOf l := ⟨_, rfl⟩
    have hwt := logB_few (scan_good l).1
    rw [← hr] at hwt
    obtain ⟨ts, nn, wy⟩ := r
    dsimp only at hwt
    have HR := Lib.hid hr.symm
    have hEB2 := endB_le ts 1
    have hEG2 := endB_mono ts 1 (Nat.zero_le ts.length)
    have hE20 : endB ts 1 0 = 1 := rfl
    rw [hE20] at hEG2
    obtain ⟨em, hem⟩ : ∃ em, em = endB ts 1 ts.length := ⟨_, rfl⟩
    rw [← hem] at hEB2 hEG2
    have HEM := Lib.hid hem
    have hem2 : em ≤ 10000000 := by omega
    clear hE20 hem hEB2 hwt hr
    go_enter Try.func10, Try.ntmps10
    go_wp2_with fail
    refine (toIntS_any l A c _ _ h (by omega)).mono ?_
    rintro e w2 ⟨A2, c2, rfl, hX2, b2⟩
    go_wp2_with fail
    have HC := LogScanS_any l A2 c2 _ w2 hX2.toK HN.out
    rw [HR.out] at HC
    refine HC.mono ?_
    rintro e w3 ⟨A3, c3, rfl, hX3, hb3⟩
    have hI3 := hX3.bound.toK
    have b3 := bthen b2 hb3
    clear HC hX2 hX3
    go_wp2_with fail
    refine (toIntS_any l A c _ _ (h.below b3) (by omega)).mono ?_
    rintro e w4 ⟨A4, c4, rfl, hX4, hb4⟩
    have hX4 := hX4.bound
    have b4 := bthen b3 hb4
    go_wp2_with fail
    have HC := LogScan_any l A4 c4 _ w4 hX4.toK HN.out
    rw [HR.out] at HC
    refine HC.mono ?_
    rintro e w5 ⟨A5, c5, rfl, hI5, hb5⟩
    have b5 := bthen b4 hb5
    have hge5 : ∀ i, w4.heap.size ≤ i → w4.heap.size ≤ i := fun _ h => h
    clear HC
    go_wp2_with fail
    refine (eqBatchS_any ts ts A5 A3 c5 c3 _ _ _ hI5.toK (hI3.below (bthen hb4 hb5))).mono ?_
    rintro e w6 ⟨rfl, hb6⟩
    rw [decide_eq_true rfl]
    have b6 := bthen b5 hb6
    go_wp2_with fail
    refine (toIntS_any l A c _ _ (h.below b6) (by omega)).mono ?_
    rintro e w7 ⟨A7, c7, rfl, hX7, hb7⟩
    have b7 := bthen b6 hb7
    have hX47 := hX4.below (bthen (bthen hb5 hb6) hb7)
    go_wp2_with fail
    refine (eqIntS_any l l A4 A7 c4 c7 _ _ _ hX47.toK hX7.toK).mono ?_
    rintro e w8 ⟨rfl, hb8⟩
    rw [decide_eq_true rfl]
    have b8 := bthen b7 hb8
    have hX48 := hX47.below hb8
    go_wp2_with fail
    refine (markIntS_any l A4 c4 _ 1 _ hX48 (by omega) (by omega) (by omega)).mono ?_
    rintro e w9 ⟨rfl, _, C9⟩
    have s3 := b3.size
    have s34 := hb4.size
    have hA8 := (h.bound (bnd_int .i64)).below b8
    have hA9 := hA8.keep (w' := w9) (C9.same (fun i _ h1 h2 => by have := h1.2; have := h2.1; omega))
    have h59 := (hI5.below (bthen (bthen hb6 hb7) hb8)).keep (w' := w9) (C9.same (fun i _ h1 h2 => by have := hge5 i h1; have := h2.2; omega)) C9.size
    have h39 := (hI3.below (bthen (bthen (bthen (bthen hb4 hb5) hb6) hb7) hb8)).keep (w' := w9) (C9.same (fun i _ h1 h2 => by have := h1.2; have := h2.1; omega))
    have b9 := b8.trans (C9.below b8.size (fun i hi => by have := hi.1; omega))
    have dk : decide ((1 : Int) + (l.length : Int) < 0) = false := by simp; omega
    clear hX4 hX7 hX47 hX48 hI5 hI3 hA8 C9 hb3 hb4 hb5 hb6 hb7 hb8 b2 b3 b4 b5 b6 b7 b8
    go_wp2_with fail
    refine (eqBatchS_any ts ts A5 A3 c5 c3 _ _ _ h59.toK h39).mono ?_
    rintro e w10 ⟨rfl, hb10⟩
    rw [decide_eq_true rfl]
    have hA10 := hA9.below hb10
    have h510 := h59.below hb10
    have h310 := h39.below hb10
    have b10 := bthen b9 hb10
    clear hA9 h59 h39 hb10 b9
    go_wp2_with fail
    refine (markBatchS_up ts A5 c5 _ 1 _ h510 (by omega) (by rw [← HEM.out]; omega)).mono ?_
    rintro e w11 ⟨rfl, hM11, C11⟩
    rw [← HEM.out]
    have hA11 := hA10.keep (w' := w11) (C11.same (fun i _ h1 h2 => by have := hge5 i h2; have := h1.2; omega))
    have h311 := h310.keep (w' := w11) (C11.same (fun i _ h1 h2 => by have := hge5 i h2; have := h1.2; omega))
    have b11 := b10.trans (C11.below b10.size (fun i hi => by have := hge5 i hi; omega))
    have hM11 := hM11.toK
    clear hA10 h310 h510 C11 b10
    go_wp2_with fail
    refine (heldBatchS_any ts A5 c5 _ 1 w11 hM11 (by omega) (by rw [← HEM.out]; omega)).mono ?_
    rintro e w12 ⟨rfl, hb12⟩
    rw [← HEM.out]
    have hA12 := hA11.below hb12
    have h312 := h311.below hb12
    have hM12 := hM11.below hb12
    have b12 := bthen b11 hb12
    clear hA11 h311 hM11 hb12 b11
    go_wp2_with fail
    refine (toIntS_any l A c _ _ hA12 (by omega)).mono ?_
    rintro e w13 ⟨A13, c13, rfl, hX13, hb13⟩
    have b13 := bthen b12 hb13
    go_wp2_with fail
    have HC := LogScan_any l A13 c13 _ w13 hX13.toK HN.out
    rw [HR.out] at HC
    refine HC.mono ?_
    rintro e w14 ⟨A14, c14, rfl, hI14, hb14⟩
    have hI14 := hI14.toK
    have b14 := bthen b13 hb14
    have h314 := h312.below (bthen hb13 hb14)
    have hM14 := hM12.below (bthen hb13 hb14)
    clear HC hX13 h312 hM12 hb13 hb14 b12 b13
    go_wp2_with fail
    refine (eqBatchS_any ts ts A14 A3 c14 c3 _ _ _ hI14 h314).mono ?_
    rintro e w15 ⟨rfl, hb15⟩
    rw [decide_eq_true rfl]
    have hM15 := hM14.below hb15
    have b15 := bthen b14 hb15
    clear hI14 h314 hM14 hb15 b14
    go_wp2_with fail
    refine (heldBatchS_any ts A5 c5 _ 1 w15 hM15 (by omega) (by rw [← HEM.out]; omega)).mono ?_
    rintro e w16 ⟨rfl, hb16⟩
    rw [← HEM.out]
    have b16 := Lib.hid (bthen b15 hb16)
    clear hM15 hb16 b15
    go_wp2
    go_ret
    exact ⟨rfl, b16.out⟩
  · go_enter Try.func10, Try.ntmps10
    go_wp2
    go_ret
    exact ⟨rfl, Below.refl _ _⟩
end Go.Proofs.Ytomcjjehfocbmaa
