/- ReadOne of the reference. -/
import Derived.Test.YtlgcajjoimcdhaaS4
import Derived.Test.YtlgcajjoimcdhaaC2
import Derived.Test.YtlgcajjoimcdhaaR3
namespace Go.Proofs.Ytlgcajjoimcdhaa
set_option linter.unusedVariables false
set_option linter.unusedSimpArgs false
open Go.RowKit

set_option maxHeartbeats 2000000 in
theorem ReadOneS_any (bs : List Bat) (A : Option Addr) (c : Nat) (F : Nat → Prop) (o : Int) (w : World) (h : Bats w F A c bs) :
    Calls Try.prog 26 #[.slice A bs.length c, .int .i64 o] w fun e w' => ∃ vk vv, e = .returned (.tuple #[.agg ((recOr (readOne bs o)).vals vk vv), .bool (readOne bs o).isSome]) ∧ Copied w w' (recOr (readOne bs o)) vk vv := by
  cases hv : logB bs
  · have e1 : readOne bs o = none := by unfold readOne; rw [hv]; rfl
    have HV := Lib.hid hv
    rw [e1]
    clear hv e1
    go_enter Try.func26, Try.ntmps26
    go_wp2_with fail
    generalize hW : World.alloc _ _ = W
    obtain ⟨hA, b1, hsW⟩ := alloc1 hW
    clear hW
    refine (LogValidS_any bs A c _ _ (h.below b1)).mono ?_
    rintro e w2 ⟨rfl, hb2⟩
    rw [HV.out]
    obtain ⟨z0, z1, z2, z3, z4, z5, zf⟩ := six (blk_below hA hb2)
    have HB := Lib.hid (bthen b1 hb2)
    clear hb2 b1 hA
    go_wp2
    refine bodyPost_ret (v := .tuple #[.agg #[.int .i64 0, .int .i64 0, .bool false, .slice none 0 0, .bool false, .slice none 0 0], .bool false]) (by simp [results, Try.results26, go_sem, z0, z1, z2, z3, z4, z5]) rfl ⟨_, _, rfl, Copied.zero ?_⟩
    have cZ := Chg.setCells (fun b => b = w.heap.size) (g := w.heap.size) rfl [.int .i64 0, .int .i64 0, .bool false, .slice none 0 0, .bool false, .slice none 0 0] 0 w2
    exact HB.out.trans (cZ.below HB.out.size (fun i (hi : i = _) => by omega))
  · have e1 : readOne bs o = (allRecs bs).find? (offB o) := by unfold readOne; rw [hv]; rfl
    have hlen := allRecs_len hv
    have HSM := Lib.hid (fun r (hr : r ∈ allRecs bs) => recB_small (allRecs_recB hv r hr))
    have HV := Lib.hid hv
    rw [e1]
    clear hv e1
    go_enter Try.func26, Try.ntmps26
    go_wp2_with fail
    generalize hW : World.alloc _ _ = W
    obtain ⟨hA, b1, hsW⟩ := alloc1 hW
    clear hW
    refine (LogValidS_any bs A c _ _ (h.below b1)).mono ?_
    rintro e w1 ⟨rfl, hb1⟩
    rw [HV.out]
    have hA1 := blk_below hA hb1
    have b2 := bthen b1 hb1
    go_wp2_with fail
    refine (l14All_any bs A c _ _ (h.below b2) (by omega)).mono ?_
    rintro e w2 ⟨A', c', rfl, hR, hb2⟩
    have hA2 := blk_below hA1 hb2
    obtain ⟨rs, hrs⟩ : ∃ rs, rs = allRecs bs := ⟨_, rfl⟩
    rw [← hrs] at hR ⊢ hlen
    have HSM2 : Hid (∀ r ∈ rs, r.key.length ≤ 12 ∧ r.val.length ≤ 12) := Lib.hid (by rw [hrs]; exact HSM.out)
    have HRS := Lib.hid hrs
    have hb := bthen b2 hb2
    have hrl := hR.1
    have hrc := hR.2.1
    clear hrs hb1 hb2 hA hA1
    go_wp2_with fail
    go_loopw [7] (fun i wr => ∃ k : Nat, k ≤ rs.length ∧ i = .int .i64 k ∧ Hid ((rs.take k).find? (offB o) = none) ∧ Hid (Below w2.heap.size w2 wr)) (fun i _ => rs.length - (intOf i).toNat)
    case atStart => exact ⟨0, Nat.zero_le _, rfl, Lib.hid rfl, Lib.hid (Below.refl _ _)⟩
    case round =>
      obtain ⟨k, hk, rfl, HN, HB⟩ := hrel
      have hAr := blk_below hA2 HB.out
      by_cases hlt : k < rs.length
      · obtain ⟨ad, B, b, B', b', rfl, _, hi1, hi2, q0, q1, q2, q3, q4, q5⟩ := (hR.below HB.out).rec_at hlt
        by_cases hx : rs[k].off = o
        · have hx' : (rs[k].off == o) = true := by simpa using hx
          have HF := Lib.hid (find_step_yes HN.out hlt (p := offB o) (by unfold offB; exact hx'))
          have hsm := HSM2.out _ (List.getElem_mem hlt)
          clear hx
          go_wp2_with fail
          refine (l12Copy_any rs[k] B B' b b' _ _ hi1 hi2 (by omega) (by omega)).mono ?_
          rintro e w4 ⟨vk, vv, rfl, hCp⟩
          obtain ⟨Ak, ck, rfl, _⟩ := AppP.row hCp.key
          obtain ⟨Av, cv, rfl, _⟩ := AppP.row hCp.val
          obtain ⟨z0, z1, z2, z3, z4, z5, zf⟩ := six (blk_below hAr hCp.below)
          have hgk := own_ge hCp.key
          have hgv := own_ge hCp.val
          have hwr : w.heap.size < wr.heap.size := (Array.getElem?_eq_some_iff.1 hAr).1
          have CP := Lib.hid ((hCp.from (bthen hb HB.out)).chg (Chg.setCells (fun i => i = w.heap.size) (g := w.heap.size) rfl [.int .i64 rs[k].off, .int .i64 rs[k].time, .bool rs[k].hk, .slice Ak rs[k].key.length ck, .bool rs[k].hv, .slice Av rs[k].val.length cv] 0 w4) (Nat.le_refl _) (fun e => by have := hgk _ e; omega) (fun e => by have := hgv _ e; omega))
          clear hCp hgk hgv q0 q1 q2 q3 q4 q5 hi1 hi2
          go_wp2
          refine bodyPost_ret (v := .tuple #[.agg #[.int .i64 rs[k].off, .int .i64 rs[k].time, .bool rs[k].hk, .slice Ak rs[k].key.length ck, .bool rs[k].hv, .slice Av rs[k].val.length cv], .bool true]) (by simp [results, Try.results26, go_sem, z0, z1, z2, z3, z4, z5]) rfl ⟨.slice Ak rs[k].key.length ck, .slice Av rs[k].val.length cv, ?_, ?_⟩
          · rw [← HRS.out, HF.out]; rfl
          · rw [← HRS.out, HF.out]; exact CP.out
        · have hx' : (rs[k].off == o) = false := by simpa using hx
          have HF := Lib.hid (find_step_no HN.out hlt (p := offB o) (by unfold offB; exact hx'))
          go_wp2
          go_roundw
          case rel => exact ⟨k + 1, by omega, by go_num, HF, HB⟩
          case measure => simp [intOf]; omega
      · have HF := Lib.hid (show rs.find? (offB o) = none by have := HN.out; rwa [List.take_of_length_le (by omega)] at this)
        obtain ⟨z0, z1, z2, z3, z4, z5, zf⟩ := six hAr
        go_wp2
        refine bodyPost_ret (v := .tuple #[.agg #[.int .i64 0, .int .i64 0, .bool false, .slice none 0 0, .bool false, .slice none 0 0], .bool false]) (by simp [results, Try.results26, go_sem, z0, z1, z2, z3, z4, z5]) rfl ⟨.slice none 0 0, .slice none 0 0, ?_, ?_⟩
        · rw [← HRS.out, HF.out]; rfl
        · rw [← HRS.out, HF.out]
          refine Copied.zero ?_
          have cZ := Chg.setCells (fun b => b = w.heap.size) (g := w.heap.size) rfl [.int .i64 0, .int .i64 0, .bool false, .slice none 0 0, .bool false, .slice none 0 0] 0 wr
          exact (bthen hb HB.out).trans (cZ.below (bthen hb HB.out).size (fun i (hi : i = _) => by omega))
end Go.Proofs.Ytlgcajjoimcdhaa
