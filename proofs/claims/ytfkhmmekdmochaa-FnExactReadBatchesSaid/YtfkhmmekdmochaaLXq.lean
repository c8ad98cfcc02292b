/- The exact law of reading batches. -/
import Derived.Test.YtfkhmmekdmochaaRb
import Derived.Test.YtfkhmmekdmochaaM5
import Derived.Test.YtfkhmmekdmochaaE3
namespace Go.Proofs.Ytfkhmmekdmochaa
set_option linter.unusedVariables false
set_option linter.unusedSimpArgs false
open Go.RowKit

theorem sum_sublist {α : Type} (f : α → Nat) {xs ys : List α} (h : xs.Sublist ys) : (xs.map f).sum ≤ (ys.map f).sum := by
  induction h with
  | slnil => simp
  | cons a _ ih => simp; omega
  | cons_cons a _ ih => simp; omega
theorem wtBs_sub {xs ys : List Bat} (h : xs.Sublist ys) : wtBs xs ≤ wtBs ys := by
  have h1 := sum_sublist wtB h
  have h2 := h.length_le
  unfold wtBs
  omega
theorem RBOut.sub {bs xs : List Bat} {o m : Int} (h : RBOut bs o m xs) : xs.Sublist bs := by
  unfold RBOut at h
  split at h
  · obtain ⟨r, e, _⟩ := h
    have h1 : xs.Sublist (rdL bs o) := by rw [e]; exact List.sublist_append_left _ _
    exact h1.trans List.filter_sublist
  · rw [h]; exact List.nil_sublist _

set_option maxHeartbeats 4000000 in
theorem exactReadBatches_walk (bs : List Bat) (A : Option Addr) (c : Nat) (o m : Int) (w : World) (h : Bats w (fun _ => True) A c bs) (_ho : (Lit.int .i64 o).wf = true) (_hm : (Lit.int .i64 m).wf = true) :
    Calls Try.prog 11 #[.slice A bs.length c, .int .i64 o, .int .i64 m] w fun e w' => e = .returned (.bool true) ∧ Below w.heap.size w w' := by
  clear _ho _hm
  by_cases hs : (1048576 : Int) < wtBs bs
  · go_enter Try.func11, Try.ntmps11
    go_wp2_with (go_at_call 26; refine (szBatchS_any bs A c _ _ _ h (by omega) (by omega)).mono ?_; rintro e w1 ⟨rfl, hb1⟩; rw [szOf_neg hs])
    go_ret
    exact ⟨rfl, hb1⟩
  · obtain ⟨hn, hsm⟩ := small_of_wtBs (bs := bs) (by omega)
    have hle : (wtBs bs : Int) ≤ 1048576 := by omega
    have hEB := endB_le bs 1
    have hEG := endB_mono bs 1 (Nat.zero_le bs.length)
    have hE0 : endB bs 1 0 = 1 := rfl
    rw [hE0] at hEG
    obtain ⟨ek, hek⟩ : ∃ ek, ek = endB bs 1 bs.length := ⟨_, rfl⟩
    rw [← hek] at hEB hEG
    have HEK := Lib.hid hek
    clear hs hE0 hek
    have HSM := Lib.hid hsm
    clear hsm
    go_enter Try.func11, Try.ntmps11
    go_wp2_with fail
    refine (szBatchS_any bs A c _ _ _ h (by omega) (by omega)).mono ?_
    rintro e w1 ⟨rfl, hb1⟩
    rw [szOf_pos (by omega)]
    go_wp2_with fail
    refine (toBatchS_any bs A c _ _ (h.below hb1) hn HSM.out).mono ?_
    rintro e w2 ⟨A2, c2, rfl, hX2, hb2⟩
    have b2 := bthen hb1 hb2
    go_wp2_with fail
    refine (ReadBatchesS_any bs A2 c2 _ o m _ hX2.toK).mono ?_
    rintro e w3 ⟨v3, B3, ts, rfl, hRB3, hV3, hb3⟩
    have HRB := Lib.hid hRB3
    have hwt := wtBs_sub (RBOut.sub hRB3)
    have hEB2 := endB_le ts 1
    have hEG2 := endB_mono ts 1 (Nat.zero_le ts.length)
    have hE20 : endB ts 1 0 = 1 := rfl
    rw [hE20] at hEG2
    obtain ⟨em, hem⟩ : ∃ em, em = endB ts 1 ts.length := ⟨_, rfl⟩
    rw [← hem] at hEB2 hEG2
    have HEM := Lib.hid hem
    have hem2 : em ≤ 10000000 := by omega
    obtain ⟨A3, c3, rfl, hI3⟩ := hV3.toP.row
    clear hE20 hem hRB3 hEB2 hwt
    have hI3 := hI3.bound bnd_bat
    have b3 := bthen b2 hb3
    clear hX2 hV3
    go_wp2_with fail
    refine (toBatchS_any bs A c _ _ (h.below b3) hn HSM.out).mono ?_
    rintro e w4 ⟨A4, c4, rfl, hX4, hb4⟩
    have hX4 := hX4.bound
    have b4 := bthen b3 hb4
    go_wp2_with fail
    refine (ReadBatches_any bs A4 c4 _ o m _ hX4.toK).mono ?_
    rintro e w5 ⟨v5, B5, ts5, rfl, hRB5, hV5, hb5⟩
    rw [hRB5.uniq HRB.out] at hV5
    clear hRB5
    have b5 := bthen b4 hb5
    obtain ⟨A5, c5, rfl, hI5⟩ := hV5.row
    have hge5 : ∀ i, w4.heap.size ≤ i → w4.heap.size ≤ i := fun _ h => h
    clear hV5
    go_wp2_with fail
    refine (eqBatchS_any ts ts A5 A3 c5 c3 _ _ _ hI5.toK (hI3.below (bthen hb4 hb5))).mono ?_
    rintro e w6 ⟨rfl, hb6⟩
    rw [decide_eq_true rfl]
    have b6 := bthen b5 hb6
    go_wp2_with fail
    refine (toBatchS_any bs A c _ _ (h.below b6) hn HSM.out).mono ?_
    rintro e w7 ⟨A7, c7, rfl, hX7, hb7⟩
    have b7 := bthen b6 hb7
    have hX47 := hX4.below (bthen (bthen hb5 hb6) hb7)
    go_wp2_with fail
    refine (eqBatchS_any bs bs A4 A7 c4 c7 _ _ _ hX47.toK hX7.toK).mono ?_
    rintro e w8 ⟨rfl, hb8⟩
    rw [decide_eq_true rfl]
    have b8 := bthen b7 hb8
    have hX48 := hX47.below hb8
    go_wp2_with fail
    refine (markBatchS_any bs A4 c4 _ 1 _ hX48 (by omega) (by rw [← HEK.out]; omega)).mono ?_
    rintro e w9 ⟨rfl, C9⟩
    rw [← HEK.out]
    have s3 := b3.size
    have s34 := hb4.size
    have hA8 := (h.bound bnd_bat).below b8
    have hA9 := hA8.keep (w' := w9) (C9.same (fun i _ h1 h2 => by have := h1.2; have := h2.1; omega))
    have h59 := (hI5.below (bthen (bthen hb6 hb7) hb8)).keep (w' := w9) (C9.same (fun i _ h1 h2 => by have := hge5 i h1; have := h2.2; omega)) C9.size
    have h39 := (hI3.below (bthen (bthen (bthen (bthen hb4 hb5) hb6) hb7) hb8)).keep (w' := w9) (C9.same (fun i _ h1 h2 => by have := h1.2; have := h2.1; omega))
    have b9 := b8.trans (C9.below b8.size (fun i hi => by have := hi.1; omega))
    clear hX4 hX7 hX47 hX48 hI5 hI3 hA8 C9 hb1 hb2 hb3 hb4 hb5 hb6 hb7 hb8 b2 b3 b4 b5 b6 b7 b8
    go_wp2_with fail
    refine (eqBatchS_any ts ts A5 A3 c5 c3 _ _ _ h59.toK h39).mono ?_
    rintro e w10 ⟨rfl, hb10⟩
    rw [decide_eq_true rfl]
    have hA10 := hA9.below hb10
    have h510 := h59.below hb10
    have h310 := h39.below hb10
    have b10 := bthen b9 hb10
    clear hA9 h59 h39 hb10 b9
    go_wp2_with fail
    refine (markBatchS_up ts A5 c5 _ 1 _ h510 (by omega) (by rw [← HEM.out]; omega)).mono ?_
    rintro e w11 ⟨rfl, hM11, C11⟩
    rw [← HEM.out]
    have hA11 := hA10.keep (w' := w11) (C11.same (fun i _ h1 h2 => by have := hge5 i h2; have := h1.2; omega))
    have h311 := h310.keep (w' := w11) (C11.same (fun i _ h1 h2 => by have := hge5 i h2; have := h1.2; omega))
    have b11 := b10.trans (C11.below b10.size (fun i hi => by have := hge5 i hi; omega))
    have hM11 := hM11.toK
    clear hA10 h310 h510 C11 b10
    go_wp2_with fail
    refine (heldBatchS_any ts A5 c5 _ 1 w11 hM11 (by omega) (by rw [← HEM.out]; omega)).mono ?_
    rintro e w12 ⟨rfl, hb12⟩
    rw [← HEM.out]
    have hA12 := hA11.below hb12
    have h312 := h311.below hb12
    have hM12 := hM11.below hb12
    have b12 := bthen b11 hb12
    clear hA11 h311 hM11 hb12 b11
    go_wp2_with fail
    refine (toBatchS_any bs A c _ _ hA12 hn HSM.out).mono ?_
    rintro e w13 ⟨A13, c13, rfl, hX13, hb13⟩
    have b13 := bthen b12 hb13
    go_wp2_with fail
    refine (ReadBatches_any bs A13 c13 _ o m _ hX13.toK).mono ?_
    rintro e w14 ⟨v14, B14, ts14, rfl, hRB14, hV14, hb14⟩
    rw [hRB14.uniq HRB.out] at hV14
    clear hRB14
    obtain ⟨A14, c14, rfl, hI14⟩ := hV14.toP.row
    have b14 := bthen b13 hb14
    have h314 := h312.below (bthen hb13 hb14)
    have hM14 := hM12.below (bthen hb13 hb14)
    clear hV14 hX13 h312 hM12 hb13 hb14 b12 b13
    go_wp2_with fail
    refine (eqBatchS_any ts ts A14 A3 c14 c3 _ _ _ hI14 h314).mono ?_
    rintro e w15 ⟨rfl, hb15⟩
    rw [decide_eq_true rfl]
    have hM15 := hM14.below hb15
    have b15 := bthen b14 hb15
    clear hI14 h314 hM14 hb15 b14
    go_wp2_with fail
    refine (heldBatchS_any ts A5 c5 _ 1 w15 hM15 (by omega) (by rw [← HEM.out]; omega)).mono ?_
    rintro e w16 ⟨rfl, hb16⟩
    rw [← HEM.out]
    have b16 := Lib.hid (bthen b15 hb16)
    clear hM15 hb16 b15
    go_wp2
    go_ret
    exact ⟨rfl, b16.out⟩
end Go.Proofs.Ytfkhmmekdmochaa
