/- Marks: held by batches; one batch. -/
import Derived.Test.YtlgcajjoimcdhaaM4
import Derived.Test.YtlgcajjoimcdhaaGr
namespace Go.Proofs.Ytlgcajjoimcdhaa
set_option linter.unusedVariables false
set_option linter.unusedSimpArgs false
open Go.RowKit

set_option maxHeartbeats 2000000 in
theorem heldBatchS_any (bs : List Bat) (A : Option Addr) (c : Nat) (F : Nat → Prop) (k : Int) (w : World) (h : Bats w F A c (upBat bs k bs.length)) (hk : 0 ≤ k) (hk1 : endB bs k bs.length ≤ 1152921504606846976) :
    Calls Try.prog 38 #[.slice A bs.length c, .int .i64 k] w fun e w' => e = .returned (.int .i64 (endB bs k bs.length)) ∧ Below w.heap.size w w' := by
  have hl := h.1
  have hc := h.2.1
  rw [upBat_len] at hl
  go_enter Try.func38, Try.ntmps38
  go_wp2_with fail
  go_loopw [1, 5] (fun q i wr => ∃ j : Nat, j ≤ bs.length ∧ i = .int .i64 j ∧ q = .int .i64 (endB bs k j) ∧ Hid (Below w.heap.size w wr)) (fun _ i _ => bs.length - (intOf i).toNat)
  case atStart => exact ⟨0, Nat.zero_le _, rfl, rfl, Lib.hid (Below.refl _ _)⟩
  case round =>
    obtain ⟨j, hj, rfl, rfl, HB⟩ := hrel
    by_cases hlt : j < bs.length
    · have hju : j < (upBat bs k bs.length).length := by rw [upBat_len]; exact hlt
      have hel : (upBat bs k bs.length)[j] = markB bs[j] (endB bs k j) := by
        have := upBat_done bs k bs.length j hlt hlt
        rw [List.getElem?_eq_getElem hju] at this
        injection this
      obtain ⟨ad, B1, b1, rfl, _, hr, q0, q1, q2, q3, q4, q5⟩ := (h.below HB.out).bat_at hju
      rw [hel] at hr q0 q1 q2 q3 q4 q5
      have hE := endB_succ bs k j hlt
      have hm1 := endB_mono bs k (show j + 1 ≤ bs.length by omega)
      have hm0 := endB_mono bs k (Nat.zero_le j)
      have e0 : endB bs k 0 = k := rfl
      rw [e0] at hm0
      obtain ⟨a, ha⟩ : ∃ a, a = endB bs k j := ⟨_, rfl⟩
      rw [← ha] at hm0 hE hr q0 q1 q2 q3 q4 q5 ⊢
      have HE := Lib.hid hE
      have hge := endR_ge bs[j].recs (a + 5) bs[j].recs.length
      have hle : endR bs[j].recs (a + 5) bs[j].recs.length ≤ 1152921504606846976 := by omega
      simp only [markB, upR_len] at hr q0 q1 q2 q3 q4 q5
      clear hel hE hm1 e0 ha
      go_wp2_with fail
      rw [show a + 1 + 1 + 1 + 1 + 1 = a + 5 by omega]
      refine (heldRecordS_any bs[j].recs B1 b1 _ (a + 5) wr hr (by omega) hle).mono ?_
      rintro e w1 ⟨rfl, hb1⟩
      have HB1 := Lib.hid (bthen HB.out hb1)
      clear q0 q1 q2 q3 q4 q5 hb1 hr
      go_wp2
      go_roundw
      case rel => exact ⟨j + 1, by omega, by go_num, by rw [HE.out], HB1⟩
      case measure => simp [intOf]; omega
    · have hj2 : j = bs.length := by omega
      subst hj2
      go_wp2
      go_ret
      exact ⟨rfl, HB.out⟩
theorem markBatch_any (b : Bat) (A : Option Addr) (c : Nat) (F : Nat → Prop) (k : Int) (w : World) (h : XRecs 3 33 w F A c b.recs) (hk : 0 ≤ k) (hk1 : endR b.recs k b.recs.length ≤ 1152921504606846976) :
    Calls Try.prog 37 #[.agg #[.bool b.packed, .bool b.mark, .int .i64 b.prod, .int .i64 b.epoch, .int .i64 b.seq, .slice A b.recs.length c], .int .i64 k] w fun e w' =>
      e = .returned (.int .i64 (endR b.recs k b.recs.length)) ∧ Chg F w w' := by
  go_enter Try.func37, Try.ntmps37
  go_wp2_with fail
  generalize hW : World.alloc _ _ = W
  obtain ⟨hA, b1, hz⟩ := alloc1 hW
  clear hW
  refine (markRecordS_any b.recs A c F k W (h.below b1) hk hk1).mono ?_
  rintro e W2 ⟨rfl, _, C2⟩
  have HC := Lib.hid ((Chg.of_below (F := F) b1).trans C2)
  clear C2 b1 hA
  go_wp2
  go_ret
  exact ⟨rfl, HC.out⟩
end Go.Proofs.Ytlgcajjoimcdhaa
