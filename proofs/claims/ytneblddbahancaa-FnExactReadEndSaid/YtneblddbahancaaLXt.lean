/- Exact laws whose functions only read and hand back a number. -/
import Derived.Test.YtneblddbahancaaS4
import Derived.Test.YtneblddbahancaaR2
import Derived.Test.YtneblddbahancaaT2
import Derived.Test.YtneblddbahancaaT3
import Derived.Test.YtneblddbahancaaE2
namespace Go.Proofs.Ytneblddbahancaa
set_option linter.unusedVariables false
set_option linter.unusedSimpArgs false
open Go.RowKit

theorem exactReadEnd_walk (bs : List Bat) (A : Option Addr) (c : Nat) (w : World) (h : Bats w (fun _ => True) A c bs) :
    Calls Try.prog 18 #[.slice A bs.length c] w fun e w' => e = .returned (.bool true) ∧ Below w.heap.size w w' := by
  try clear _ht
  try clear _hf
  by_cases hs : (1048576 : Int) < wtBs bs
  · go_enter Try.func18, Try.ntmps18
    go_wp2_with (go_at_call 48; refine (szBatchS_any bs A c _ _ _ h (by omega) (by omega)).mono ?_; rintro e w1 ⟨rfl, hb1⟩; rw [szOf_neg hs])
    go_ret
    exact ⟨rfl, hb1⟩
  · obtain ⟨hn, hsm⟩ := small_of_wtBs (bs := bs) (by omega)
    have hle : (wtBs bs : Int) ≤ 1048576 := by omega
    clear hs
    have HSM := Lib.hid hsm
    clear hsm
    go_enter Try.func18, Try.ntmps18
    go_wp2_with fail
    refine (szBatchS_any bs A c _ _ _ h (by omega) (by omega)).mono ?_
    rintro e w1 ⟨rfl, hb1⟩
    rw [szOf_pos (by omega)]
    go_wp2_with fail
    refine (toBatchS_any bs A c _ _ (h.below hb1) hn HSM.out).mono ?_
    rintro e w2 ⟨A2, c2, rfl, hX2, hb2⟩
    have b2 := bthen hb1 hb2
    go_wp2_with fail
    refine (ReadEndS_any bs A2 c2 _  _ hX2.toK).mono ?_
    rintro e w3 ⟨rfl, hb3⟩
    have b3 := bthen b2 hb3
    go_wp2_with fail
    refine (toBatchS_any bs A c _ _ (h.below b3) hn HSM.out).mono ?_
    rintro e w4 ⟨A4, c4, rfl, hX4, hb4⟩
    have b4 := bthen b3 hb4
    go_wp2_with fail
    refine (ReadEnd_any bs A4 c4 _  _ hX4.toK).mono ?_
    rintro e w5 ⟨rfl, hb5⟩
    have b5 := bthen b4 hb5
    go_wp2_with fail
    refine (toBatchS_any bs A c _ _ (h.below b5) hn HSM.out).mono ?_
    rintro e w6 ⟨A6, c6, rfl, hX6, hb6⟩
    have b6 := bthen b5 hb6
    go_wp2_with fail
    refine (eqBatchS_any bs bs A4 A6 c4 c6 _ _ _ (hX4.toK.below (bthen hb5 hb6)) hX6.toK).mono ?_
    rintro e w7 ⟨rfl, hb7⟩
    have b7 := bthen b6 hb7
    rw [decide_eq_true rfl]
    go_wp2
    all_goals
      go_ret
      exact ⟨rfl, b7⟩

theorem exactTimesFind_walk (bs : List Bat) (A : Option Addr) (c : Nat) (t : Int) (w : World) (h : Bats w (fun _ => True) A c bs) (_ht : (Lit.int .i64 t).wf = true) :
    Calls Try.prog 20 #[.slice A bs.length c, .int .i64 t] w fun e w' => e = .returned (.bool true) ∧ Below w.heap.size w w' := by
  try clear _ht
  try clear _hf
  by_cases hs : (1048576 : Int) < wtBs bs
  · go_enter Try.func20, Try.ntmps20
    go_wp2_with (go_at_call 48; refine (szBatchS_any bs A c _ _ _ h (by omega) (by omega)).mono ?_; rintro e w1 ⟨rfl, hb1⟩; rw [szOf_neg hs])
    go_ret
    exact ⟨rfl, hb1⟩
  · obtain ⟨hn, hsm⟩ := small_of_wtBs (bs := bs) (by omega)
    have hle : (wtBs bs : Int) ≤ 1048576 := by omega
    clear hs
    have HSM := Lib.hid hsm
    clear hsm
    go_enter Try.func20, Try.ntmps20
    go_wp2_with fail
    refine (szBatchS_any bs A c _ _ _ h (by omega) (by omega)).mono ?_
    rintro e w1 ⟨rfl, hb1⟩
    rw [szOf_pos (by omega)]
    go_wp2_with fail
    refine (toBatchS_any bs A c _ _ (h.below hb1) hn HSM.out).mono ?_
    rintro e w2 ⟨A2, c2, rfl, hX2, hb2⟩
    have b2 := bthen hb1 hb2
    go_wp2_with fail
    refine (TimesFindS_any bs A2 c2 _ t _ hX2.toK).mono ?_
    rintro e w3 ⟨rfl, hb3⟩
    have b3 := bthen b2 hb3
    go_wp2_with fail
    refine (toBatchS_any bs A c _ _ (h.below b3) hn HSM.out).mono ?_
    rintro e w4 ⟨A4, c4, rfl, hX4, hb4⟩
    have b4 := bthen b3 hb4
    go_wp2_with fail
    refine (TimesFind_any bs A4 c4 _ t _ hX4.toK).mono ?_
    rintro e w5 ⟨rfl, hb5⟩
    have b5 := bthen b4 hb5
    go_wp2_with fail
    refine (toBatchS_any bs A c _ _ (h.below b5) hn HSM.out).mono ?_
    rintro e w6 ⟨A6, c6, rfl, hX6, hb6⟩
    have b6 := bthen b5 hb6
    go_wp2_with fail
    refine (eqBatchS_any bs bs A4 A6 c4 c6 _ _ _ (hX4.toK.below (bthen hb5 hb6)) hX6.toK).mono ?_
    rintro e w7 ⟨rfl, hb7⟩
    have b7 := bthen b6 hb7
    rw [decide_eq_true rfl]
    go_wp2
    all_goals
      go_ret
      exact ⟨rfl, b7⟩

theorem exactTimesCount_walk (bs : List Bat) (A : Option Addr) (c : Nat) (f t : Int) (w : World) (h : Bats w (fun _ => True) A c bs) (_hf : (Lit.int .i64 f).wf = true) (_ht : (Lit.int .i64 t).wf = true) :
    Calls Try.prog 21 #[.slice A bs.length c, .int .i64 f, .int .i64 t] w fun e w' => e = .returned (.bool true) ∧ Below w.heap.size w w' := by
  try clear _ht
  try clear _hf
  by_cases hs : (1048576 : Int) < wtBs bs
  · go_enter Try.func21, Try.ntmps21
    go_wp2_with (go_at_call 48; refine (szBatchS_any bs A c _ _ _ h (by omega) (by omega)).mono ?_; rintro e w1 ⟨rfl, hb1⟩; rw [szOf_neg hs])
    go_ret
    exact ⟨rfl, hb1⟩
  · obtain ⟨hn, hsm⟩ := small_of_wtBs (bs := bs) (by omega)
    have hle : (wtBs bs : Int) ≤ 1048576 := by omega
    clear hs
    have HSM := Lib.hid hsm
    clear hsm
    go_enter Try.func21, Try.ntmps21
    go_wp2_with fail
    refine (szBatchS_any bs A c _ _ _ h (by omega) (by omega)).mono ?_
    rintro e w1 ⟨rfl, hb1⟩
    rw [szOf_pos (by omega)]
    go_wp2_with fail
    refine (toBatchS_any bs A c _ _ (h.below hb1) hn HSM.out).mono ?_
    rintro e w2 ⟨A2, c2, rfl, hX2, hb2⟩
    have b2 := bthen hb1 hb2
    go_wp2_with fail
    refine (TimesCountS_any bs A2 c2 _ f t _ hX2.toK).mono ?_
    rintro e w3 ⟨rfl, hb3⟩
    have b3 := bthen b2 hb3
    go_wp2_with fail
    refine (toBatchS_any bs A c _ _ (h.below b3) hn HSM.out).mono ?_
    rintro e w4 ⟨A4, c4, rfl, hX4, hb4⟩
    have b4 := bthen b3 hb4
    go_wp2_with fail
    refine (TimesCount_any bs A4 c4 _ f t _ hX4.toK).mono ?_
    rintro e w5 ⟨rfl, hb5⟩
    have b5 := bthen b4 hb5
    go_wp2_with fail
    refine (toBatchS_any bs A c _ _ (h.below b5) hn HSM.out).mono ?_
    rintro e w6 ⟨A6, c6, rfl, hX6, hb6⟩
    have b6 := bthen b5 hb6
    go_wp2_with fail
    refine (eqBatchS_any bs bs A4 A6 c4 c6 _ _ _ (hX4.toK.below (bthen hb5 hb6)) hX6.toK).mono ?_
    rintro e w7 ⟨rfl, hb7⟩
    have b7 := bthen b6 hb7
    rw [decide_eq_true rfl]
    go_wp2
    all_goals
      go_ret
      exact ⟨rfl, b7⟩
end Go.Proofs.Ytneblddbahancaa
