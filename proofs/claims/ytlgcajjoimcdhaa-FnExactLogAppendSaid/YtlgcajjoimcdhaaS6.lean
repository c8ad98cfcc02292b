/- ReadRecords of the reference. -/
import Derived.Test.YtlgcajjoimcdhaaS5
import Derived.Test.YtlgcajjoimcdhaaR4
namespace Go.Proofs.Ytlgcajjoimcdhaa
set_option linter.unusedVariables false
set_option linter.unusedSimpArgs false
open Go.RowKit

/-- What is read of the batches ahead of k and of j records of that one. -/
def readTo (bs : List Bat) (o : Int) (n k j : Nat) : List Rec := (pickOn o (pairsOf (bs.take k) ++ ((batAt bs k).recs.take j).map (fun r => (batAt bs k, r)))).take n
theorem readTo_zero (bs : List Bat) (o : Int) (n k : Nat) : readTo bs o n k 0 = (pickOn o (pairsOf (bs.take k))).take n := by simp [readTo]
theorem readTo_end (bs : List Bat) (o : Int) (n k : Nat) (hk : k < bs.length) : readTo bs o n k (batAt bs k).recs.length = readTo bs o n (k + 1) 0 := by
  have e : pairsOf (bs.take k ++ [bs[k]]) = pairsOf (bs.take k) ++ bs[k].recs.map (fun r => (bs[k], r)) := by unfold pairsOf; rw [List.flatMap_append]; simp
  rw [readTo_zero, readTo, List.take_succ_eq_append_getElem hk, batAt_eq hk, e, List.take_length]
theorem readTo_all (bs : List Bat) (o : Int) (n : Nat) : readTo bs o n bs.length 0 = (recsOn bs o).take n := by rw [readTo_zero, List.take_length, pickOn_all]
theorem take_snoc {α : Type} (l : List α) (a : α) (n : Nat) : (l ++ [a]).take n = if (l.take n).length < n then l.take n ++ [a] else l.take n := by
  by_cases h : l.length < n
  · rw [List.take_of_length_le (by simp; omega), List.take_of_length_le (l := l) (by omega), if_pos h]
  · rw [List.take_append_of_le_length (by omega), if_neg (by simp; omega)]
theorem readTo_step (bs : List Bat) (o : Int) (n k j : Nat) (hk : k < bs.length) (hj : j < bs[k].recs.length) :
    readTo bs o n k (j + 1) = if selB o (bs[k], bs[k].recs[j]) = true ∧ (readTo bs o n k j).length < n then readTo bs o n k j ++ [bs[k].recs[j]] else readTo bs o n k j := by
  unfold readTo
  rw [batAt_eq hk, List.take_succ_eq_append_getElem hj, List.map_append, ← List.append_assoc]
  rw [show List.map (fun r => (bs[k], r)) [bs[k].recs[j]] = [(bs[k], bs[k].recs[j])] from rfl, pickOn_snoc]
  cases hs : selB o (bs[k], bs[k].recs[j])
  · simp
  · rw [if_pos rfl, take_snoc]
    by_cases hl : ((pickOn o (pairsOf (bs.take k) ++ (bs[k].recs.take j).map (fun r => (bs[k], r)))).take n).length < n
    · rw [if_pos hl, if_pos ⟨rfl, hl⟩]
    · rw [if_neg hl, if_neg (fun h => hl h.2)]

set_option maxHeartbeats 4000000 in
theorem ReadRecordsS_any (bs : List Bat) (A : Option Addr) (c : Nat) (F : Nat → Prop) (o m : Int) (w : World) (h : Bats w F A c bs) :
    Calls Try.prog 39 #[.slice A bs.length c, .int .i64 o, .int .i64 m] w fun e w' => ∃ v B, e = .returned v ∧ AppX RX 33 w' (fun b => w.heap.size ≤ b) B v (readRecords bs o m) ∧ Below w.heap.size w w' := by
  have hl := h.1
  have hc := h.2.1
  have hbd := h.bound bnd_bat
  have hX := AppX.lit RX 33 w (fun b => w.heap.size ≤ b) (Nat.le_refl _)
  have HB1 := Lib.hid (bal w (.cells #[] 33))
  by_cases hg : (logB bs && inB m 0 99) = true
  · rw [Bool.and_eq_true] at hg
    obtain ⟨hv, hm⟩ := hg
    have hm99 : 0 ≤ m ∧ m ≤ 99 := by simpa [inB] using hm
    have e1 : readRecords bs o m = readTo bs o m.toNat bs.length 0 := by rw [readTo_all, readRecords_yes hv hm]
    have HSM := Lib.hid (fun r (hr : r ∈ allRecs bs) => recB_small (allRecs_recB hv r hr))
    have HV := Lib.hid hv
    have HM := Lib.hid hm
    rw [e1]
    obtain ⟨n, rfl⟩ := Int.eq_ofNat_of_zero_le hm99.1
    have hn99 : n ≤ 99 := by omega
    rw [show ((n : Int)).toNat = n from rfl]
    clear e1 hv hm hm99
    go_enter Try.func39, Try.ntmps39
    go_wp2_with fail
    go_loopw [7, 8] (fun v i wr => ∃ k : Nat, k ≤ bs.length ∧ i = .int .i64 k ∧ (∃ B, AppX RX 33 wr (fun b => w.heap.size ≤ b) B v (readTo bs o n k 0)) ∧ Hid (Below w.heap.size w wr)) (fun _ i _ => bs.length - (intOf i).toNat)
    case atStart => exact ⟨0, Nat.zero_le _, rfl, ⟨_, by rw [readTo_zero]; simpa [pairsOf, pickOn] using hX⟩, HB1⟩
    case round =>
      obtain ⟨k, hk, rfl, ⟨B, HA⟩, HB⟩ := hrel
      obtain ⟨wo, rfl⟩ : ∃ wo : World, wo = wr := ⟨_, rfl⟩
      clear hX HB1
      by_cases hlt : k < bs.length
      · go_wp2_with fail
        refine (LogValidS_any bs A c _ _ (hbd.below HB.out)).mono ?_
        rintro e w1 ⟨rfl, hb1⟩
        rw [HV.out]
        have HB1 := Lib.hid (bthen HB.out hb1)
        have HA1 := HA.below hb1
        clear hb1 HA HB
        go_wp2_with fail
        refine (l6In_any _ _ _ _).mono ?_
        rintro e w' ⟨rfl, rfl⟩
        rw [HM.out]
        obtain ⟨ad, B0, b0, rfl, _, hr, _⟩ := (hbd.below HB1.out).bat_at hlt
        have HE := Lib.hid (readTo_end bs o n k hlt)
        rw [batAt_eq hlt] at HE
        go_wp2_with fail
        go_loopw [7, 9] (fun v i wr => ∃ j : Nat, j ≤ bs[k].recs.length ∧ i = .int .i64 j ∧ (∃ B, AppX RX 33 wr (fun b => w.heap.size ≤ b) B v (readTo bs o n k j)) ∧ Hid (Below w.heap.size w wr)) (fun _ i _ => bs[k].recs.length - (intOf i).toNat)
        case atStart => exact ⟨0, Nat.zero_le _, rfl, ⟨_, HA1⟩, HB1⟩
        case round =>
          obtain ⟨j, hj, rfl, ⟨B, HA⟩, HB⟩ := hrel
          obtain ⟨ad', B1, b1, hA, _, hr, p0, p1, p2, p3, p4, p5⟩ := (hbd.below HB.out).bat_at hlt
          injection hA with hA
          subst hA
          have hrl := hr.1
          have hrc := hr.2.1
          by_cases hjl : j < bs[k].recs.length
          · obtain ⟨ad2, C1, d1, C2, d2, rfl, _, hi1, hi2, q0, q1, q2, q3, q4, q5⟩ := hr.rec_at hjl
            obtain ⟨A1, c1, rfl, hl1, hc1⟩ := HA.toP.slice_
            have HS := Lib.hid (readTo_step bs o n k j hlt hjl)
            obtain ⟨xs, hxs⟩ : ∃ xs, xs = readTo bs o n k j := ⟨_, rfl⟩
            rw [← hxs] at HA HS hl1
            rw [← hxs]
            clear hxs
            have HX := Lib.hid HA
            clear HA hr
            have hmem : bs[k].recs[j] ∈ allRecs bs := List.mem_flatMap.2 ⟨_, List.getElem_mem hlt, List.getElem_mem hjl⟩
            have hsm := HSM.out _ hmem
            have hge := HX.out.ge
            cases hmk : bs[k].mark
            · by_cases ho : o ≤ bs[k].recs[j].off
              · by_cases hx : xs.length < n
                · have HYES := Lib.hid (show readTo bs o n k (j + 1) = xs ++ [bs[k].recs[j]] by rw [HS.out, if_pos ⟨by simp [selB, hmk, onB, ho], hx⟩])
                  have HWS := Lib.hid HB.out.size
                  clear hmem
                  rw [hmk] at p1
                  go_wp2_with fail
                  refine (l12Copy_any bs[k].recs[j] C1 C2 d1 d2 _ _ hi1 hi2 (by omega) (by omega)).mono ?_
                  rintro e w4 ⟨vk, vv, rfl, hCp⟩
                  obtain ⟨Ak, ck, rfl, _⟩ := AppP.row hCp.key
                  obtain ⟨Av, cv, rfl, _⟩ := AppP.row hCp.val
                  have X4 := Lib.hid (HX.out.below hCp.below)
                  have XK := Lib.hid hCp.x
                  have B4 := Lib.hid (bthen HB.out hCp.below)
                  clear q0 q1 q2 q3 q4 q5 p0 p1 p2 p3 p4 p5 hi1 hi2
                  go_wp2_with (at_builtin; go_loud (refine wpList_appX RX X4.out rfl _ _ 28 (.agg #[.int .i64 0, .int .i64 0, .bool false, .slice none 0 0, .bool false, .slice none 0 0]) 80 rfl Try.underlying28 (by kernel_rfl) rfl (by decide) bs[k].recs[j] _ _ rfl rfl XK.out (fun b hb => ⟨by have := HWS.out; omega, by have := HX.out.1; omega⟩) (by simp [Value.oneCell']) (fun b hb => by have := B4.out.size; omega) (by omega) (by omega) ?_))
                  intro v1 w5 HA5 hc5 ho5
                  have B5 := Lib.hid (B4.out.trans (hc5.below B4.out.size (fun i hi => (hge i hi).1)))
                  rw [← HYES.out] at HA5
                  clear hc5 ho5 hge X4 XK hCp
                  go_wp2
                  go_roundw
                  case rel => exact ⟨j + 1, by omega, by go_num, ⟨_, HA5⟩, B5⟩
                  case measure => simp [intOf]; omega
                · have HNO := Lib.hid (show readTo bs o n k (j + 1) = xs by rw [HS.out, if_neg (fun h => hx h.2)])
                  rw [hmk] at p1
                  go_wp2
                  go_roundw
                  case rel => exact ⟨j + 1, by omega, by go_num, ⟨_, by rw [HNO.out]; exact HX.out⟩, HB⟩
                  case measure => simp [intOf]; omega
              · have HNO := Lib.hid (show readTo bs o n k (j + 1) = xs by rw [HS.out, if_neg (fun h => by have := h.1; simp [selB, onB] at this; omega)])
                rw [hmk] at p1
                go_wp2
                go_roundw
                case rel => exact ⟨j + 1, by omega, by go_num, ⟨_, by rw [HNO.out]; exact HX.out⟩, HB⟩
                case measure => simp [intOf]; omega
            · have HNO := Lib.hid (show readTo bs o n k (j + 1) = xs by rw [HS.out, if_neg (fun h => by have := h.1; simp [selB, hmk] at this)])
              rw [hmk] at p1
              go_wp2
              go_roundw
              case rel => exact ⟨j + 1, by omega, by go_num, ⟨_, by rw [HNO.out]; exact HX.out⟩, HB⟩
              case measure => simp [intOf]; omega
          · have hj2 : j = bs[k].recs.length := by omega
            subst hj2
            go_wp2
            go_roundw
            case rel => exact ⟨k + 1, by omega, by go_num, ⟨_, by rw [← HE.out]; exact HA⟩, HB⟩
            case measure => simp [intOf]; omega
      · have hk2 : k = bs.length := by omega
        subst hk2
        go_wp2
        go_ret
        exact ⟨_, _, rfl, HA, HB.out⟩
  · have e1 : readRecords bs o m = [] := by unfold readRecords; rw [if_neg hg]
    rw [e1]
    clear e1
    go_enter Try.func39, Try.ntmps39
    go_wp2_with fail
    go_loopw [7, 8] (fun v i wr => v = .slice (some ⟨w.heap.size, 0, none⟩) 0 0 ∧ i = .int .i64 0 ∧ (∃ B, AppX RX 33 wr (fun b => w.heap.size ≤ b) B v []) ∧ Hid (Below w.heap.size w wr)) (fun _ _ _ => 0)
    case atStart => exact ⟨rfl, rfl, ⟨_, hX⟩, HB1⟩
    case round =>
      obtain ⟨rfl, rfl, ⟨B, HA⟩, HB⟩ := hrel
      clear hX HB1
      by_cases hlt : 0 < bs.length
      · go_wp2_with fail
        refine (LogValidS_any bs A c _ _ (hbd.below HB.out)).mono ?_
        rintro e w1 ⟨rfl, hb1⟩
        have HB1 := Lib.hid (bthen HB.out hb1)
        have HA1 := Lib.hid (HA.below hb1)
        clear hb1 HA HB
        cases hv : logB bs
        · clear hg
          go_wp2
          go_ret
          exact ⟨_, _, rfl, HA1.out, HB1.out⟩
        · rw [hv] at hg
          go_wp2_with fail
          refine (l6In_any _ _ _ _).mono ?_
          rintro e w' ⟨rfl, rfl⟩
          cases hm : inB m 0 99
          · clear hg
            go_wp2
            go_ret
            exact ⟨_, _, rfl, HA1.out, HB1.out⟩
          · rw [hm] at hg
            exact absurd rfl hg
      · go_wp2
        go_ret
        exact ⟨_, _, rfl, HA, HB.out⟩
end Go.Proofs.Ytlgcajjoimcdhaa
