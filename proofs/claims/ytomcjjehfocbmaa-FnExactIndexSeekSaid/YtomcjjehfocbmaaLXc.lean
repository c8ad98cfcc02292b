/- The exact law of reading a batch. -/
import Derived.Test.YtomcjjehfocbmaaBg
import Derived.Test.YtomcjjehfocbmaaT2
import Derived.Test.YtomcjjehfocbmaaE3
import Derived.Test.YtomcjjehfocbmaaM5
namespace Go.Proofs.Ytomcjjehfocbmaa
set_option linter.unusedVariables false
set_option linter.unusedSimpArgs false
open Go.RowKit

theorem markBatch_st (b : Bat) (A : Option Addr) (c : Nat) (F : Nat → Prop) (k : Int) (w : World) (h : XRecs 3 85 w F A c b.recs) (hk : 0 ≤ k) (hk1 : endR b.recs k b.recs.length ≤ 1152921504606846976) :
    Calls Try.prog 21 #[.agg #[.bool b.packed, .bool b.mark, .int .i64 b.prod, .int .i64 b.epoch, .int .i64 b.seq, .slice A b.recs.length c], .int .i64 k] w fun e w' =>
      e = .returned (.int .i64 (endR b.recs k b.recs.length)) ∧ XRecs 3 85 w' F A c (upR b.recs k b.recs.length) ∧ Chg F w w' := by
  go_enter Try.func21, Try.ntmps21
  go_wp2_with fail
  generalize hW : World.alloc _ _ = W
  obtain ⟨hA, b1, hz⟩ := alloc1 hW
  clear hW
  refine (markRecordS_any b.recs A c F k W (h.below b1) hk hk1).mono ?_
  rintro e W2 ⟨rfl, hX, C2⟩
  have HC := Lib.hid ((Chg.of_below (F := F) b1).trans C2)
  have HX := Lib.hid hX
  clear C2 b1 hA hX
  go_wp2
  go_ret
  exact ⟨rfl, HX.out, HC.out⟩
theorem heldBatch_st (b : Bat) (A : Option Addr) (c : Nat) (F : Nat → Prop) (k : Int) (w : World) (h : Recs w F A c (upR b.recs k b.recs.length)) (hk : 0 ≤ k) (hk1 : endR b.recs k b.recs.length ≤ 1152921504606846976) :
    Calls Try.prog 22 #[.agg #[.bool b.packed, .bool b.mark, .int .i64 b.prod, .int .i64 b.epoch, .int .i64 b.seq, .slice A b.recs.length c], .int .i64 k] w fun e w' =>
      e = .returned (.int .i64 (endR b.recs k b.recs.length)) ∧ Below w.heap.size w w' := by
  have hge := endR_ge b.recs k b.recs.length
  go_enter Try.func22, Try.ntmps22
  go_wp2_with fail
  generalize hW : World.alloc _ _ = W
  obtain ⟨hA, b1, hz⟩ := alloc1 hW
  clear hW
  refine (heldRecordS_any b.recs A c F k W (h.below b1) hk hk1).mono ?_
  rintro e W2 ⟨rfl, hb2⟩
  obtain ⟨en, hen⟩ : ∃ x, x = endR b.recs k b.recs.length := ⟨_, rfl⟩
  rw [← hen] at hge ⊢
  have HB := Lib.hid (bthen b1 hb2)
  have hen0 : 0 ≤ en := by omega
  have d1 : decide (en < 0) = false := by simp; omega
  have HEN := Lib.hid hen
  clear b1 hA hb2 hen
  go_wp2
  go_ret
  exact ⟨by rw [← HEN.out]; rfl, HB.out⟩
theorem bfWt {rs : List Rec} (h : ∀ r ∈ rs, r.key.length ≤ 12 ∧ r.val.length ≤ 12) : wtRs rs ≤ 25 * rs.length := by
  unfold wtRs
  induction rs with
  | nil => simp
  | cons r t ih =>
    have h1 := ih (fun x hx => h x (by simp [hx]))
    have h2 := h r (by simp)
    rw [List.map_cons, List.sum_cons, List.length_cons]
    have h3 : wtR r ≤ 24 := by unfold wtR; omega
    omega
theorem bfB_end (l : List Int) (i : Int) : endR (bfB (bfQ l i)).recs 1 (bfB (bfQ l i)).recs.length ≤ 1000 := by
  have h1 := endR_le (bfB (bfQ l i)).recs 1
  have h2 : (∀ r ∈ (bfB (bfQ l i)).recs, r.key.length ≤ 12 ∧ r.val.length ≤ 12) ∧ (bfB (bfQ l i)).recs.length ≤ 6 := by
    cases hq : bfQ l i with
    | none => exact ⟨fun r hr => by simp [bfB, Bat.zero] at hr, by simp [bfB, Bat.zero]⟩
    | some b =>
      have hv : batB b = true := by
        unfold bfQ at hq
        split at hq
        · unfold rdAtI at hq
          split at hq
          · cases hq
          · exact (rdBat_at hq).1
        · cases hq
      have hp := batB_parts hv
      exact ⟨fun r hr => recB_small (hp.2.2 r hr), hp.2.1.2⟩
  have h3 := bfWt h2.1
  omega
end Go.Proofs.Ytomcjjehfocbmaa
