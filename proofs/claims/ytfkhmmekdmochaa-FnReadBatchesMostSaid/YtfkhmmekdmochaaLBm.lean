/- The law FnReadBatchesMost. -/
import Derived.Test.YtfkhmmekdmochaaRb
import Derived.Test.YtfkhmmekdmochaaDx
import Derived.Test.YtfkhmmekdmochaaE3
import Derived.Test.YtfkhmmekdmochaaSp
import Derived.Test.YtfkhmmekdmochaaBt
namespace Go.Proofs.Ytfkhmmekdmochaa
set_option linter.unusedVariables false
set_option linter.unusedSimpArgs false
open Go.RowKit

set_option maxRecDepth 20000 in
set_option maxHeartbeats 4000000 in
theorem readBatchesMost_walk (b0 : List Int) (A : Option Addr) (c : Nat) (w : World) (h : Kind.byte.Row w (fun _ => True) A c b0) :
    Calls Try.prog 9 #[.slice A b0.length c] w fun e w' => e = .returned (.bool true) ∧ Below w.heap.size w w' := by
  have hl := h.1
  have hc := h.2.1
  by_cases hs : b0.length ≤ 1048576
  · go_enter Try.func9, Try.ntmps9
    go_wp2_with fail
    refine (DrawReadBatches_any b0 A c _ _ h).mono ?_
    rintro e w1 ⟨bs, B, d, o, m, rfl, ho0, ho1, hm0, hm1, hD⟩
    have hB := hD.row
    have hb1 := hD.below
    have hlen9 := hD.len
    have hlB := hB.1
    have hcB := hB.2.1
    clear hD
    go_wp2_with fail
    refine (ReadBatches_any bs B d _ o m w1 hB).mono ?_
    rintro e w2 ⟨v2, B2, xs, rfl, hRB, HV2, hb2⟩
    obtain ⟨A2, c2, rfl, k2⟩ := HV2.toP.row
    have hB2 := hB.below hb2
    go_wp2_with fail
    refine (ReadBatchesS_any bs B d _ o m w2 hB2).mono ?_
    rintro e w3 ⟨v3, B3, xs3, rfl, hRB3, HV3, hb3⟩
    obtain rfl := hRB3.uniq hRB
    obtain ⟨A3, c3, rfl, k3⟩ := HV3.toP.row
    have k23 := k2.below hb3
    have hB3 := hB2.below hb3
    have b3 := bthen (bthen hb1 hb2) hb3
    have hxl := hRB.le
    have hxc := k3.1
    have hxc2 := k23.1
    have HRB := Lib.hid hRB
    clear HV2 HV3 hB hB2 k2 hb1 hb2 hb3 hRB hRB3
    go_wp2_with fail
    refine (sameLog_any xs3 xs3 A2 A3 c2 c3 _ _ w3 k23 k3).mono ?_
    rintro e w4 ⟨rfl, hb4⟩
    rw [decide_eq_true rfl]
    have k24 := k23.below hb4
    have k34 := k3.below hb4
    have hB4 := hB3.below hb4
    have b4 := bthen b3 hb4
    clear k23 k3 hB3 hb4 b3
    by_cases h2 : xs3.length < 2
    · go_wp2_with fail
      refine (sameLog_any xs3 xs3 A2 A3 c2 c3 _ _ w4 k24 k34).mono ?_
      rintro e w5 ⟨rfl, hb5⟩
      rw [decide_eq_true rfl]
      have b5 := Lib.hid (bthen b4 hb5)
      clear b4 hb5 k24 k34 hB4
      go_wp2
      go_ret
      exact ⟨rfl, b5.out⟩
    · have hne : xs3 ≠ [] := fun e => h2 (by rw [e]; simp)
      have hlv := HRB.out.ok hne
      have HALL := Lib.hid (fun b hb => (logB_all hlv).2 b (HRB.out.mem b hb))
      have hokm : ((logCat xs3).length : Int) ≤ m := by
        have := HRB.out
        unfold RBOut at this
        split at this
        · obtain ⟨_, _, hk, _⟩ := this
          exact hk (by omega)
        · exact absurd this hne
      have HOK := Lib.hid hokm
      have hn8 : xs3.length ≤ 8 := by have := (logB_all hlv).1; omega
      have hsm : (logCat xs3).length ≤ 3312 := by have := logCat_len (bs := xs3) HALL.out; omega
      have HSM := Lib.hid (fun k => show (logCat (xs3.take k)).length ≤ (logCat xs3).length by
        have := logCat_pre (xs3.take k) (xs3.drop k); rwa [List.take_append_drop] at this)
      have HB4 := Lib.hid b4
      have h2' : 2 ≤ xs3.length := by omega
      clear hlv hokm k34 hB4 b4 h2
      obtain ⟨tot, htot⟩ : ∃ t, t = (logCat xs3).length := ⟨_, rfl⟩
      rw [← htot] at hsm HOK HSM
      have HT := Lib.hid htot
      clear htot
      go_wp2_with fail
      go_loopw [8, 9] (fun s i wr => ∃ k : Nat, k ≤ xs3.length ∧ i = .int .i64 k ∧ s = .int .i64 ((logCat (xs3.take k)).length : Int) ∧ Hid (Below w4.heap.size w4 wr)) (fun _ i _ => xs3.length - (intOf i).toNat)
      case atStart => exact ⟨0, Nat.zero_le _, rfl, by simp [logCat], Lib.hid (Below.refl _ _)⟩
      case round =>
        obtain ⟨k, hk, rfl, rfl, HB⟩ := hrel
        by_cases hlt : k < xs3.length
        · obtain ⟨ad2, C1, d1, rfl, _, hi1, q0, q1, q2, q3, q4, q5⟩ := (k24.below HB.out).bat_at hlt
          have hbk := HALL.out _ (List.getElem_mem hlt)
          have hyl := batBytes_le hbk
          have hsz := HSM.out k
          have HTK := Lib.hid (logCat_take hlt)
          obtain ⟨sz, hszz⟩ : ∃ sz, sz = (logCat (xs3.take k)).length := ⟨_, rfl⟩
          obtain ⟨yl, hyll⟩ : ∃ yl, yl = (batBytes xs3[k]).length := ⟨_, rfl⟩
          have HSZ := Lib.hid (show ((logCat (xs3.take (k + 1))).length) = sz + yl by rw [HTK.out, List.length_append, hszz, hyll])
          rw [← hszz] at hsz
          rw [← hszz]
          rw [← hyll] at hyl
          have HYB := Lib.hid (show (batOut xs3[k]).length = yl by rw [batOut_yes hbk]; exact hyll.symm)
          have HBK := Lib.hid hbk
          clear hszz hyll hbk HTK
          go_wp2_with fail
          refine (BatchBytes_any xs3[k] C1 d1 _ _ hi1).mono ?_
          rintro e w6 ⟨v6, rfl, HV6, hb6⟩
          obtain ⟨A6, c6, rfl, hl6, hc6⟩ := HV6.slice_
          rw [HYB.out] at hl6
          rw [HYB.out, HBK.out]
          have HB6 := Lib.hid (bthen HB.out hb6)
          clear HV6 hb6 hi1 q0 q1 q2 q3 q4 q5
          go_wp2
          go_roundw
          case rel => exact ⟨k + 1, by omega, by go_num, by rw [HSZ.out]; simp, HB6⟩
          case measure => simp [intOf]; omega
        · have hk2 : k = xs3.length := by omega
          subst hk2
          rw [List.take_length, ← HT.out]
          have HBB := Lib.hid (bthen HB4.out HB.out)
          have hle := HOK.out
          have d2 : decide ((tot : Int) ≤ m) = true := by simp; omega
          go_wp2
          go_ret
          exact ⟨rfl, HBB.out⟩

  · go_enter Try.func9, Try.ntmps9
    go_wp2
    go_ret
    exact ⟨rfl, Below.refl _ _⟩
end Go.Proofs.Ytfkhmmekdmochaa
