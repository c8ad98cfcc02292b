/- How much the arguments hold. -/
import Derived.Test.YtlgcajjoimcdhaaGr
namespace Go.Proofs.Ytlgcajjoimcdhaa
set_option linter.unusedVariables false
set_option linter.unusedSimpArgs false
open Go.RowKit

theorem szIntS_any (n c : Nat) (A : Option Addr) (left : Int) (w : World) (h0 : 0 ≤ left) (h1 : left ≤ 1048576) (hn : n ≤ 9223372036854775807) :
    Calls Try.prog 93 #[.slice A n c, .int .i64 left] w fun e w' => e = .returned (.int .i64 (szOf n left)) ∧ w = w' := by
  by_cases h : left < n
  · rw [szOf_neg h]
    go_enter Try.func93, Try.ntmps93
    go_wp2
    go_ret
    exact ⟨rfl, rfl⟩
  · rw [szOf_pos (by omega)]
    go_enter Try.func93, Try.ntmps93
    go_wp2
    go_ret
    exact ⟨rfl, rfl⟩

theorem szRecord_any (r : Rec) (A A' : Option Addr) (c c' : Nat) (left : Int) (w : World) (h0 : 0 ≤ left) (h1 : left ≤ 1048576) (hk : r.key.length ≤ 9223372036854775807) (hv : r.val.length ≤ 9223372036854775807) :
    Calls Try.prog 85 #[.agg #[.int .i64 r.off, .int .i64 r.time, .bool r.hk, .slice A r.key.length c, .bool r.hv, .slice A' r.val.length c'], .int .i64 left] w fun e w' =>
      e = .returned (.int .i64 (szOf (wtR r) left)) ∧ Below w.heap.size w w' := by
  by_cases h : left < r.key.length
  · rw [szOf_neg (by unfold wtR; omega)]
    go_enter Try.func85, Try.ntmps85
    go_wp2_with (go_at_call 93; refine (szIntS_any _ _ _ _ _ h0 h1 hk).mono ?_; rintro e w' ⟨rfl, rfl⟩; rw [szOf_neg h])
    go_ret
    exact ⟨rfl, bal _ _⟩
  · by_cases h' : left - r.key.length < r.val.length
    · rw [szOf_neg (by unfold wtR; omega)]
      go_enter Try.func85, Try.ntmps85
      go_wp2_with fail
      refine (szIntS_any _ _ _ _ _ h0 h1 hk).mono ?_
      rintro e w' ⟨rfl, rfl⟩
      rw [szOf_pos (by omega)]
      go_wp2_with fail
      refine (szIntS_any _ _ _ _ _ (by omega) (by omega) hv).mono ?_
      rintro e w' ⟨rfl, rfl⟩
      rw [szOf_neg h']
      go_wp2
      go_ret
      exact ⟨rfl, bal _ _⟩
    · rw [szOf_pos (by unfold wtR; omega)]
      go_enter Try.func85, Try.ntmps85
      go_wp2_with fail
      refine (szIntS_any _ _ _ _ _ h0 h1 hk).mono ?_
      rintro e w' ⟨rfl, rfl⟩
      rw [szOf_pos (by omega)]
      go_wp2_with fail
      refine (szIntS_any _ _ _ _ _ (by omega) (by omega) hv).mono ?_
      rintro e w' ⟨rfl, rfl⟩
      rw [szOf_pos (by omega)]
      go_wp2
      go_ret
      exact ⟨ret_int (by unfold wtR; omega), bal _ _⟩

theorem szRecordS_any (rs : List Rec) (A : Option Addr) (c : Nat) (F : Nat → Prop) (left : Int) (w : World) (h : Recs w F A c rs) (h0 : 0 ≤ left) (h1 : left ≤ 1048576) :
    Calls Try.prog 71 #[.slice A rs.length c, .int .i64 left] w fun e w' => e = .returned (.int .i64 (szOf (wtRs rs) left)) ∧ Below w.heap.size w w' := by
  have hl := h.1
  have hc := h.2.1
  by_cases hs : left < rs.length
  · rw [szOf_neg (by unfold wtRs; omega)]
    go_enter Try.func71, Try.ntmps71
    go_wp2
    go_ret
    exact ⟨rfl, Below.refl _ _⟩
  · go_enter Try.func71, Try.ntmps71
    go_wp2
    go_loopw [1, 5] (fun v i wr => ∃ k : Nat, k ≤ rs.length ∧ i = .int .i64 k ∧ (∃ n : Int, v = .int .i64 n ∧ 0 ≤ n ∧ n ≤ 1048576 ∧ Hid (n = left - rs.length - ((rs.take k).map wtR).sum)) ∧ Hid (Below w.heap.size w wr)) (fun _ i _ => rs.length - (intOf i).toNat)
    case atStart => exact ⟨0, Nat.zero_le _, rfl, ⟨_, rfl, by omega, by omega, Lib.hid (by simp)⟩, Lib.hid (Below.refl _ _)⟩
    case round =>
      obtain ⟨k, hk, rfl, ⟨n, rfl, hn0, hn1, hn⟩, hb⟩ := hrel
      by_cases hlt : k < rs.length
      · obtain ⟨ad, B, b, B', b', rfl, _, hi1, hi2, q0, q1, q2, q3, q4, q5⟩ := (h.below hb.out).rec_at hlt
        have hle1 := hi1.1
        have hle2 := hi1.2.1
        have hle3 := hi2.1
        have hle4 := hi2.2.1
        by_cases hw : n < wtR rs[k]
        · go_wp2_with (go_at_call 85; refine (szRecord_any rs[k] B B' b b' n wr hn0 hn1 (by omega) (by omega)).mono ?_; rintro e w1 ⟨rfl, hb1⟩; rw [szOf_neg hw])
          go_ret
          refine ⟨ret_int ?_, bthen hb.out hb1⟩
          have h3 := hn.out
          have h4 := sum_take_le wtR rs (k + 1)
          rw [sum_take_succ wtR rs k hlt] at h4
          rw [szOf_neg]
          unfold wtRs
          omega
        · go_wp2_with (go_at_call 85; refine (szRecord_any rs[k] B B' b b' n wr hn0 hn1 (by omega) (by omega)).mono ?_; rintro e w1 ⟨rfl, hb1⟩; rw [szOf_pos (by omega)])
          go_roundw
          case rel => exact ⟨k + 1, by omega, by go_num, ⟨_, rfl, by omega, by omega, Lib.hid (by rw [sum_take_succ wtR rs k hlt, hn.out]; omega)⟩, Lib.hid (bthen hb.out hb1)⟩
          case measure => simp [intOf]; omega
      · go_wp2
        go_ret
        refine ⟨ret_int ?_, hb.out⟩
        have h3 := hn.out
        have hk2 : k = rs.length := by omega
        subst hk2
        rw [List.take_length] at h3
        rw [szOf_pos] <;> unfold wtRs <;> omega

theorem szBatch_any (b : Bat) (A : Option Addr) (c : Nat) (F : Nat → Prop) (left : Int) (w : World) (h : Recs w F A c b.recs) (h0 : 0 ≤ left) (h1 : left ≤ 1048576) :
    Calls Try.prog 34 #[.agg #[.bool b.packed, .bool b.mark, .int .i64 b.prod, .int .i64 b.epoch, .int .i64 b.seq, .slice A b.recs.length c], .int .i64 left] w fun e w' =>
      e = .returned (.int .i64 (szOf (wtB b) left)) ∧ Below w.heap.size w w' := by
  have hu : wtB b = wtRs b.recs := rfl
  rw [hu]
  clear hu
  by_cases hs : left < wtRs b.recs
  · rw [szOf_neg hs]
    go_enter Try.func34, Try.ntmps34
    go_wp2_with (go_at_call 71; refine (szRecordS_any b.recs A c F left _ (h.below (bal _ _)) h0 h1).mono ?_; rintro e w1 ⟨rfl, hb1⟩; rw [szOf_neg hs])
    go_ret
    exact ⟨rfl, bthen (bal _ _) hb1⟩
  · rw [szOf_pos (by omega)]
    go_enter Try.func34, Try.ntmps34
    go_wp2_with (go_at_call 71; refine (szRecordS_any b.recs A c F left _ (h.below (bal _ _)) h0 h1).mono ?_; rintro e w1 ⟨rfl, hb1⟩; rw [szOf_pos (by omega)])
    go_ret
    exact ⟨rfl, bthen (bal _ _) hb1⟩

theorem szBatchS_any (bs : List Bat) (A : Option Addr) (c : Nat) (F : Nat → Prop) (left : Int) (w : World) (h : Bats w F A c bs) (h0 : 0 ≤ left) (h1 : left ≤ 1048576) :
    Calls Try.prog 25 #[.slice A bs.length c, .int .i64 left] w fun e w' => e = .returned (.int .i64 (szOf (wtBs bs) left)) ∧ Below w.heap.size w w' := by
  have hl := h.1
  have hc := h.2.1
  by_cases hs : left < bs.length
  · rw [szOf_neg (by unfold wtBs; omega)]
    go_enter Try.func25, Try.ntmps25
    go_wp2
    go_ret
    exact ⟨rfl, Below.refl _ _⟩
  · go_enter Try.func25, Try.ntmps25
    go_wp2
    go_loopw [1, 5] (fun v i wr => ∃ k : Nat, k ≤ bs.length ∧ i = .int .i64 k ∧ (∃ n : Int, v = .int .i64 n ∧ 0 ≤ n ∧ n ≤ 1048576 ∧ Hid (n = left - bs.length - ((bs.take k).map wtB).sum)) ∧ Hid (Below w.heap.size w wr)) (fun _ i _ => bs.length - (intOf i).toNat)
    case atStart => exact ⟨0, Nat.zero_le _, rfl, ⟨_, rfl, by omega, by omega, Lib.hid (by simp)⟩, Lib.hid (Below.refl _ _)⟩
    case round =>
      obtain ⟨k, hk, rfl, ⟨n, rfl, hn0, hn1, hn⟩, hb⟩ := hrel
      by_cases hlt : k < bs.length
      · obtain ⟨ad, B, b, rfl, _, hi1, q0, q1, q2, q3, q4, q5⟩ := (h.below hb.out).bat_at hlt
        have hle1 := hi1.1
        have hle2 := hi1.2.1
        by_cases hw : n < wtB bs[k]
        · go_wp2_with (go_at_call 34; refine (szBatch_any bs[k] B b F n wr hi1 hn0 hn1).mono ?_; rintro e w1 ⟨rfl, hb1⟩; rw [szOf_neg hw])
          go_ret
          refine ⟨ret_int ?_, bthen hb.out hb1⟩
          have h3 := hn.out
          have h4 := sum_take_le wtB bs (k + 1)
          rw [sum_take_succ wtB bs k hlt] at h4
          rw [szOf_neg]
          unfold wtBs
          omega
        · go_wp2_with (go_at_call 34; refine (szBatch_any bs[k] B b F n wr hi1 hn0 hn1).mono ?_; rintro e w1 ⟨rfl, hb1⟩; rw [szOf_pos (by omega)])
          go_roundw
          case rel => exact ⟨k + 1, by omega, by go_num, ⟨_, rfl, by omega, by omega, Lib.hid (by rw [sum_take_succ wtB bs k hlt, hn.out]; omega)⟩, Lib.hid (bthen hb.out hb1)⟩
          case measure => simp [intOf]; omega
      · go_wp2
        go_ret
        refine ⟨ret_int ?_, hb.out⟩
        have h3 := hn.out
        have hk2 : k = bs.length := by omega
        subst hk2
        rw [List.take_length] at h3
        rw [szOf_pos] <;> unfold wtBs <;> omega

end Go.Proofs.Ytlgcajjoimcdhaa
