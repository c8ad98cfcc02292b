/- TimesOf of the reference. -/
import Derived.Test.YtlgcajjoimcdhaaS3
import Derived.Test.YtlgcajjoimcdhaaPh
import Derived.Test.YtlgcajjoimcdhaaS2
namespace Go.Proofs.Ytlgcajjoimcdhaa
set_option linter.unusedVariables false
set_option linter.unusedSimpArgs false
open Go.RowKit

set_option maxHeartbeats 1000000 in
theorem l14Most_any (x : Bat) (B : Option Addr) (b : Nat) (F : Nat → Prop) (w : World) (h : Recs w F B b x.recs) :
    Calls Try.prog 75 #[.agg #[.bool x.packed, .bool x.mark, .int .i64 x.prod, .int .i64 x.epoch, .int .i64 x.seq, .slice B x.recs.length b]] w fun e w' => e = .returned (.int .i64 (mostT x.recs)) ∧ Below w.heap.size w w' := by
  have hl := h.1
  have hc := h.2.1
  go_enter Try.func75, Try.ntmps75
  go_wp2_with fail
  generalize hW : World.alloc _ _ = W
  obtain ⟨hb, b1, hz⟩ := alloc1 hW
  obtain ⟨z0, z1, z2, z3, z4, z5, zf⟩ := six hb
  clear hW hz
  go_loopw [3, 4] (fun m i wr => ∃ k : Nat, k ≤ x.recs.length ∧ i = .int .i64 k ∧ m = .int .i64 (mostT (x.recs.take k)) ∧ wr = W) (fun _ i _ => x.recs.length - (intOf i).toNat)
  case atStart => exact ⟨0, Nat.zero_le _, rfl, rfl, rfl⟩
  case round =>
    obtain ⟨k, hk, rfl, rfl, rfl⟩ := hrel
    by_cases hlt : k < x.recs.length
    · obtain ⟨ad, C1, d1, C2, d2, rfl, _, _, _, q0, q1, q2, q3, q4, q5⟩ := (h.below b1).rec_at hlt
      have hm : Hid (mostT (x.recs.take (k + 1)) = max (mostT (x.recs.take k)) x.recs[k].time) := Lib.hid (by rw [List.take_succ_eq_append_getElem hlt, mostT_snoc])
      go_wp2
      go_roundw
      case rel => exact ⟨k + 1, by omega, by go_num, by rw [hm.out]; congr 1; split <;> omega, trivial⟩
      case measure => simp [intOf]; omega
    · have hk2 : k = x.recs.length := by omega
      subst hk2
      go_wp2
      go_ret
      exact ⟨ret_int (by rw [List.take_length]), b1⟩

theorem timeAt_max (bs : List Bat) (k : Nat) (h : k < bs.length) : timeAt bs k = max (mostT (allRecs (bs.take k))) (mostT bs[k].recs) := timeAt_succ bs k h
set_option maxHeartbeats 2000000 in
theorem TimesOfS_any (bs : List Bat) (A : Option Addr) (c : Nat) (F : Nat → Prop) (w : World) (h : Bats w F A c bs) :
    Calls Try.prog 44 #[.slice A bs.length c] w fun e w' => ∃ v, e = .returned v ∧ App (Kind.int .i64) 3 w' w.heap.size v (timesOf bs) ∧ Below w.heap.size w w' := by
  have hl := h.1
  have hc := h.2.1
  have hbd := h.bound bnd_bat
  have hX := App.lit (Kind.int .i64) 3 w w.heap.size (Nat.le_refl _)
  have HB1 := Lib.hid (bal w (.cells #[] 3))
  cases hv : logB bs
  · have e1 : timesOf bs = [] := by unfold timesOf; rw [hv]; rfl
    have HV := Lib.hid hv
    rw [e1]
    clear e1 hv
    go_enter Try.func44, Try.ntmps44
    go_wp2_with fail
    go_loopw [3, 5] (fun v i wr => v = .slice (some ⟨w.heap.size, 0, none⟩) 0 0 ∧ i = .int .i64 0 ∧ App (Kind.int .i64) 3 wr w.heap.size v [] ∧ Hid (Below w.heap.size w wr)) (fun _ _ _ => 0)
    case atStart => exact ⟨rfl, rfl, hX, HB1⟩
    case round =>
      obtain ⟨rfl, rfl, HA, HB⟩ := hrel
      clear hX HB1
      by_cases hlt : 0 < bs.length
      · go_wp2_with fail
        refine (LogValidS_any bs A c _ _ (hbd.below HB.out)).mono ?_
        rintro e w1 ⟨rfl, hb1⟩
        rw [HV.out]
        have HB1 := Lib.hid (bthen HB.out hb1)
        have HA1 := Lib.hid (AppP.below HA hb1)
        clear hb1 HA HB
        go_wp2
        go_ret
        exact ⟨_, rfl, HA1.out, HB1.out⟩
      · go_wp2
        go_ret
        exact ⟨_, rfl, HA, HB.out⟩
  · have e1 : timesOf bs = timesUp bs bs.length := by unfold timesOf; rw [hv]; rfl
    have HV := Lib.hid hv
    have hnb : bs.length ≤ 1000 := by have := ((logB_iff _).1 hv).1; omega
    rw [e1]
    clear e1 hv
    go_enter Try.func44, Try.ntmps44
    go_wp2_with fail
    go_loopw [3, 4, 5] (fun v m i wr => ∃ k : Nat, k ≤ bs.length ∧ i = .int .i64 k ∧ m = .int .i64 (mostT (allRecs (bs.take k))) ∧ App (Kind.int .i64) 3 wr w.heap.size v (timesUp bs k) ∧ Hid (Below w.heap.size w wr)) (fun _ _ i _ => bs.length - (intOf i).toNat)
    case atStart => exact ⟨0, Nat.zero_le _, rfl, rfl, hX, HB1⟩
    case round =>
      obtain ⟨k, hk, rfl, rfl, HA, HB⟩ := hrel
      clear hX HB1
      by_cases hlt : k < bs.length
      · go_wp2_with fail
        refine (LogValidS_any bs A c _ _ (hbd.below HB.out)).mono ?_
        rintro e w1 ⟨rfl, hb1⟩
        rw [HV.out]
        have HB1 := Lib.hid (bthen HB.out hb1)
        have HA1 := Lib.hid (AppP.below HA hb1)
        clear hb1 HA HB
        obtain ⟨ad, B, b, rfl, _, hr, q0, q1, q2, q3, q4, q5⟩ := (hbd.below HB1.out).bat_at hlt
        go_wp2_with fail
        refine (l14Most_any bs[k] B b _ _ hr).mono ?_
        rintro e w2 ⟨rfl, hb2⟩
        have HA2 := AppP.below HA1.out hb2
        have HB2 := Lib.hid (bthen HB1.out hb2)
        have HM := Lib.hid (timeAt_succ bs k hlt)
        have HMM : Hid (mostT (allRecs (bs.take (k + 1))) = timeAt bs k) := Lib.hid rfl
        have HT2 := Lib.hid (timesUp_succ bs k)
        have hlu := timesUp_len bs k
        have hws := HB2.out.size
        clear HA1 hb2 q0 q1 q2 q3 q4 q5 hr
        have hmax : (if mostT (allRecs (bs.take k)) < mostT bs[k].recs then mostT bs[k].recs else mostT (allRecs (bs.take k))) = timeAt bs k := by rw [HM.out]; split <;> omega
        go_wp2_with (at_builtin; go_loud (refine wpList_appP (Kind.int .i64) HA2 rfl _ _ 31 (.int .i64 0) 8 rfl Try.underlying31 (by kernel_rfl) rfl (by decide) (timeAt bs k) [.int .i64 (timeAt bs k)] (fun _ => False) rfl rfl rfl (fun _ h => h.elim) (by simp [Value.oneCell']) (fun b hb => Nat.le_trans hws hb) (by rw [hlu]; omega) (by rw [hlu]; omega) ?_))
        intro v1 w3 HA3 hc3
        rw [← HT2.out] at HA3
        have HB3 := Lib.hid (HB2.out.trans (hc3.below hws (fun i hi => AppP.ne HA2 hi)))
        clear hc3 HA2 HB2 hmax hlu
        go_wp2
        go_roundw
        case rel => exact ⟨k + 1, by omega, by go_num, by rw [HMM.out], HA3, HB3⟩
        case measure => simp [intOf]; omega
      · have hk2 : k = bs.length := by omega
        subst hk2
        go_wp2
        go_ret
        exact ⟨_, rfl, HA, HB.out⟩
end Go.Proofs.Ytlgcajjoimcdhaa
