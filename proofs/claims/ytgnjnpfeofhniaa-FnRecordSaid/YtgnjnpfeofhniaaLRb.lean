/- The law FnRecord: a record is read. -/
import Derived.Test.YtgnjnpfeofhniaaDq
import Derived.Test.YtgnjnpfeofhniaaW12
import Derived.Test.YtgnjnpfeofhniaaV10
import Derived.Test.YtgnjnpfeofhniaaE1
import Derived.Test.YtgnjnpfeofhniaaPb
namespace Go.Proofs.Ytgnjnpfeofhniaa
set_option linter.unusedVariables false
set_option linter.unusedSimpArgs false
open Go.RowKit

theorem recBytesOf_len2 (r : Rec) (o t : Int) : (recBytesOf r o t).length ≤ 39 := by
  unfold recBytesOf
  split
  · rename_i h
    simp at h
    have := recBytes_len33 (o := o) (t := t) h.1
    omega
  · simp
theorem rec_read {r : Rec} {o t : Int} (hr : recB r = true) (hb : baseB o t = true) : recFromOf (recBytes r o t) 0 o t = some (r, (recBytes r o t).length) := by
  have h1 := rdRec_rt (l := recBytes r o t) (s := []) (i := 0) hr hb (by simp)
  have hb' : (0 ≤ o ∧ o ≤ 99999) ∧ (0 ≤ t ∧ t ≤ 99999) := by simpa [baseB, inB] using hb
  unfold recFromOf
  rw [recBytes_bytes hr hb'.1 hb'.2, hb]
  rw [show (true && true) = true from rfl, if_pos rfl]
  unfold rdAt
  rw [if_neg (by omega), show (0 : Int).toNat = 0 from rfl, h1]
  simp
set_option maxRecDepth 20000 in
set_option maxHeartbeats 1000000 in
theorem record_walk (b0 : List Int) (A : Option Addr) (c : Nat) (w : World) (h : Kind.byte.Row w (fun _ => True) A c b0) :
    Calls Try.prog 3 #[.slice A b0.length c] w fun e w' => e = .returned (.bool true) ∧ Below w.heap.size w w' := by
  have hl := h.1
  have hc := h.2.1
  by_cases hs : b0.length ≤ 1048576
  · go_enter Try.func3, Try.ntmps3
    go_wp2_with fail
    refine (DrawRecordBytes_any b0 A c _ _ h).mono ?_
    rintro e w1 ⟨r, Ak, Av, ck, cv, o, t, rfl, hK, hV, hb1⟩
    go_wp2_with fail
    generalize hW1 : World.alloc _ _ = W1
    obtain ⟨hA1, bw1, hz1⟩ := alloc1 hW1
    clear hW1
    have hK1 := hK.below bw1
    have hV1 := hV.below bw1
    have b1 := bthen hb1 bw1
    obtain ⟨x0, x1, x2, x3, x4, x5, xf⟩ := six hA1
    refine (RecordBytes_any r Ak Av ck cv _ o t _ hK1 hV1).mono ?_
    rintro e w2 ⟨v2, rfl, HV2, hb2⟩
    obtain ⟨A2, c2, rfl, k2⟩ := AppP.row HV2
    have hA2 := blk_below hA1 hb2
    have hK2 := hK1.below hb2
    have hV2 := hV1.below hb2
    have b2 := bthen b1 hb2
    clear HV2 hb2 b1 hK1 hV1 hA1 x0 x1 x2 x3 x4 x5 xf
    obtain ⟨x0, x1, x2, x3, x4, x5, xf⟩ := six hA2
    go_wp2_with fail
    refine (RecordBytesS_any r Ak Av ck cv _ o t _ hK2 hV2).mono ?_
    rintro e w3 ⟨v3, rfl, HV3, hb3⟩
    obtain ⟨A3, c3, rfl, k3⟩ := AppP.row HV3
    have hA3 := blk_below hA2 hb3
    have hK3 := hK2.below hb3
    have hV3 := hV2.below hb3
    have k23 := k2.below hb3
    have b3 := bthen b2 hb3
    clear HV3 hb3 b2 hK2 hV2 hA2 k2 x0 x1 x2 x3 x4 x5 xf
    cases hok : (recB r && baseB o t)
    · have hol : (recBytesOf r o t) = [] := by unfold recBytesOf; rw [hok]; rfl
      obtain ⟨ob, hob⟩ : ∃ o', o' = recBytesOf r o t := ⟨_, rfl⟩
      rw [← hob] at k23 k3
      rw [← hob]
      clear hob hol
      go_wp2_with fail
      refine (sameInts_any ob ob A2 A3 c2 c3 _ _ w3 k23 k3).mono ?_
      rintro e w4 ⟨rfl, hb4⟩
      rw [decide_eq_true rfl]
      have k24 := k23.below hb4
      have k34 := k3.below hb4
      have b4 := bthen b3 hb4
      go_wp2_with fail
      refine (sameInts_any ob ob A2 A3 c2 c3 _ _ w4 k24 k34).mono ?_
      rintro e w5 ⟨rfl, hb5⟩
      rw [decide_eq_true rfl]
      have b5 := Lib.hid (bthen b4 hb5)
      clear b4 hb5 hb4 b3 k24 k34
      go_wp2
      go_ret
      exact ⟨rfl, b5.out⟩
    · have hrb : recB r = true ∧ baseB o t = true := by simpa using hok
      have hrd := rec_read hrb.1 hrb.2
      have hln := recBytesOf_len2 r o t
      have hol : recBytesOf r o t = recBytes r o t := by unfold recBytesOf; rw [hok]; rfl
      rw [← hol] at hrd
      obtain ⟨ob, hob⟩ : ∃ o', o' = recBytesOf r o t := ⟨_, rfl⟩
      rw [← hob] at k23 k3 hrd hln
      rw [← hob]
      have HRD := Lib.hid hrd
      clear hob hol hrd hrb hok
      go_wp2_with fail
      refine (sameInts_any ob ob A2 A3 c2 c3 _ _ w3 k23 k3).mono ?_
      rintro e w4 ⟨rfl, hb4⟩
      rw [decide_eq_true rfl]
      have k24 := k23.below hb4
      have hA4 := blk_below hA3 hb4
      have hK4 := hK3.below hb4
      have hV4 := hV3.below hb4
      have b4 := bthen b3 hb4
      clear k23 k3 hA3 hK3 hV3 b3 hb4
      go_wp2_with fail
      have HC : Calls Try.prog 8 #[.slice A2 ob.length c2, .int .i64 0, .int .i64 o, .int .i64 t] w4 fun e w' => ∃ vk vv, e = .returned (.tuple #[.agg #[.int .i64 r.off, .int .i64 r.time, .bool r.hk, vk, .bool r.hv, vv], .int .i64 (ob.length : Int), .bool true]) ∧ Copied w4 w' r vk vv := by
        have := RecordFrom_any ob A2 c2 _ 0 o t w4 k24 (by omega)
        rw [HRD.out] at this
        exact this
      refine HC.mono ?_
      rintro e w5 ⟨vk, vv, rfl, hC5⟩
      have hb5 := hC5.below
      obtain ⟨Ak5, ck5, rfl, hk5⟩ := AppP.row hC5.key
      obtain ⟨Av5, cv5, rfl, hv5⟩ := AppP.row hC5.val
      have hA5 := blk_below hA4 hb5
      have hK5 := hK4.below hb5
      have hV5 := hV4.below hb5
      have b5 := bthen b4 hb5
      clear HC hC5 hA4 hK4 hV4 b4 k24
      have hlt5 := blk_lt2 hA5
      have hne5 : w1.heap.size ≠ w5.heap.size := by omega
      obtain ⟨x0, x1, x2, x3, x4, x5, xf⟩ := six hA5
      go_wp2_with fail
      generalize hW6 : World.alloc _ _ = W6
      obtain ⟨hA6, bw6, hz6⟩ := alloc1 hW6
      clear hW6
      refine (sameRecord_any r r Ak5 Av5 Ak Av ck5 cv5 ck cv (fun _ => True) (fun _ => True) W6 ((hk5.mono (fun _ _ => trivial)).below bw6) ((hv5.mono (fun _ _ => trivial)).below bw6) ((hK5.mono (fun _ _ => trivial)).below bw6) ((hV5.mono (fun _ _ => trivial)).below bw6)).mono ?_
      rintro e w7 ⟨rfl, hb7⟩
      rw [decide_eq_true rfl]
      have b7 := Lib.hid (bthen (bthen b5 bw6) hb7)
      clear hb7 b5 bw6 hk5 hv5 hK5 hV5 hA5
      go_wp2
      go_ret
      exact ⟨by simp, b7.out⟩
  · go_enter Try.func3, Try.ntmps3
    go_wp2
    go_ret
    exact ⟨rfl, Below.refl _ _⟩
end Go.Proofs.Ytgnjnpfeofhniaa
