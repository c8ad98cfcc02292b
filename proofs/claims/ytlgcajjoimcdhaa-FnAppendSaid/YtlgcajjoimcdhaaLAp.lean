/- Laws of appending: what is appended gets the next offsets. -/
import Derived.Test.YtlgcajjoimcdhaaLAe
namespace Go.Proofs.Ytlgcajjoimcdhaa
set_option linter.unusedVariables false
set_option linter.unusedSimpArgs false
open Go.RowKit

theorem BatchSpan_any (b : Bat) (A : Option Addr) (c : Nat) (F : Nat → Prop) (w : World) (h : Recs w F A c b.recs) (hv : batB b = true) :
    Calls Try.prog 22 #[.agg #[.bool b.packed, .bool b.mark, .int .i64 b.prod, .int .i64 b.epoch, .int .i64 b.seq, .slice A b.recs.length c]] w fun e w' =>
      e = .returned (.tuple #[.int .i64 b.first, .int .i64 b.last, .bool true]) ∧ Below w.heap.size w w' := by
  have h0 := batB_pos hv
  have HV := Lib.hid hv
  clear hv
  go_enter Try.func22, Try.ntmps22
  go_wp2_with fail
  generalize hW : World.alloc _ _ = W
  obtain ⟨hA, b1, hsW⟩ := alloc1 hW
  clear hW
  refine (BatchValid_any b A c _ _ (h.below b1)).mono ?_
  rintro e w2 ⟨rfl, hb2⟩
  rw [HV.out]
  have b2 := bthen b1 hb2
  have hA2 := blk_below hA hb2
  have bD : Below w2.heap.size w2 w2.drew := ⟨rfl, rfl, rfl, Nat.le_refl _, fun _ _ => rfl⟩
  have HAD := Lib.hid (blk_below hA2 bD)
  have hF : ∀ W, Below w2.heap.size w2 W → Calls Try.prog 67 #[.agg #[.bool b.packed, .bool b.mark, .int .i64 b.prod, .int .i64 b.epoch, .int .i64 b.seq, .slice A b.recs.length c]] W fun e w' => e = .returned (.int .i64 b.first) ∧ Below W.heap.size W w' :=
    fun W hW => first_any b A c _ W ((h.below b2).below hW) h0
  have hL : ∀ W, Below w2.heap.size w2 W → Calls Try.prog 56 #[.agg #[.bool b.packed, .bool b.mark, .int .i64 b.prod, .int .i64 b.epoch, .int .i64 b.seq, .slice A b.recs.length c]] W fun e w' => e = .returned (.int .i64 b.last) ∧ Below W.heap.size W w' :=
    fun W hW => last_any b A c _ W ((h.below b2).below hW) h0
  obtain ⟨p0, p1, p2, p3, p4, p5, pf⟩ := six hA2
  clear hA hb2
  go_wp2_with fail
  go_region_with (first
    | (go_at_call 67; go_loud (first | (refine (hF _ (bthen bD hbL)).mono ?_; rintro e w6 ⟨rfl, hbF⟩) | (refine (hF _ bD).mono ?_; rintro e w5 ⟨rfl, hbF⟩; obtain ⟨r0, r1, r2, r3, r4, r5, rf⟩ := six (blk_below HAD.out hbF)) | fail))
    | (go_at_call 56; go_loud (first | (refine (hL _ (bthen bD hbF)).mono ?_; rintro e w6 ⟨rfl, hbL⟩) | (refine (hL _ bD).mono ?_; rintro e w5 ⟨rfl, hbL⟩; obtain ⟨r0, r1, r2, r3, r4, r5, rf⟩ := six (blk_below HAD.out hbL)) | fail)))
  all_goals
    have HB := Lib.hid (show Below w.heap.size w _ by first | exact bthen b2 (bthen (bthen bD hbF) hbL) | exact bthen b2 (bthen (bthen bD hbL) hbF))
    clear hF hL hbF hbL bD
    go_wp2
    exact bodyPost_ret (v := .tuple #[.int .i64 b.first, .int .i64 b.last, .bool true]) (by simp [results, Try.results22, go_sem]) rfl ⟨rfl, HB.out⟩

set_option maxRecDepth 100000 in
set_option maxHeartbeats 4000000 in
theorem append_walk (b0 : List Int) (A : Option Addr) (c : Nat) (w : World) (h : Kind.byte.Row w (fun _ => True) A c b0) :
    Calls Try.prog 6 #[.slice A b0.length c] w fun e w' => e = .returned (.bool true) ∧ Below w.heap.size w w' := by
  have hl := h.1
  have hc := h.2.1
  by_cases hs : b0.length ≤ 1048576
  · go_enter Try.func6, Try.ntmps6
    go_wp2_with fail
    refine (DrawLogAppend_any b0 A c _ _ h).mono ?_
    rintro e w1 ⟨bs, B, d, b, B1, d1, rfl, hD, hok, hR⟩
    have hB := hD.row
    have hb1 := hD.below
    clear hD hok
    go_wp2_with fail
    generalize hW : World.alloc _ _ = W
    obtain ⟨hA, c1, hsW⟩ := alloc1 hW
    clear hW
    refine (LogAppend_any bs b B B1 d d1 _ _ W (hB.below c1) (hR.below c1)).mono ?_
    rintro e w2 ⟨v2, D2, rfl, hX2, hb2⟩
    obtain ⟨xs, hxs⟩ : ∃ xs, xs = logAppend bs b := ⟨_, rfl⟩
    rw [← hxs] at hX2
    obtain ⟨A2, c2, rfl, hJ2⟩ := hX2.row
    have b2 := bthen c1 hb2
    have hA2 := blk_below hA hb2
    obtain ⟨p0, p1, p2, p3, p4, p5, pf⟩ := six hA2
    have HXS := Lib.hid hxs
    obtain ⟨q, hq⟩ : ∃ q, q = appB bs b := ⟨_, rfl⟩
    rw [← hq]
    have HQ := Lib.hid hq
    clear hxs hX2 hq hA hsW
    go_wp2_with fail
    refine (LogAppendS_any bs b B B1 d d1 _ _ w2 (hB.below b2) (hR.below b2)).mono ?_
    rintro e w3 ⟨v3, D3, rfl, hX3, hb3⟩
    rw [← HXS.out] at hX3
    obtain ⟨A3, c3, rfl, hJ3⟩ := hX3.row
    rw [← HQ.out]
    have b3 := bthen b2 hb3
    have hJ2 := hJ2.toK.below hb3
    have hJ3 := hJ3.toK
    have hA3 := blk_below hA2 hb3
    clear hA2 hX3 p0 p1 p2 p3 p4 p5 pf
    go_wp2_with fail
    refine (sameLog_any xs xs A2 A3 c2 c3 _ _ w3 hJ2 hJ3).mono ?_
    rintro e w4 ⟨rfl, hb4⟩
    rw [decide_eq_true rfl]
    have b4 := bthen b3 hb4
    have hA4 := blk_below hA3 hb4
    clear hA3
    have hJ2 := hJ2.below hb4
    have hJ3 := hJ3.below hb4
    cases hqq : q
    · go_wp2_with fail
      refine (sameLog_any xs xs A2 A3 c2 c3 _ _ w4 hJ2 hJ3).mono ?_
      rintro e w5 ⟨rfl, hb5⟩
      rw [decide_eq_true rfl]
      have HB := Lib.hid (bthen hb1 (bthen b4 hb5))
      clear hb5 b4 hb4 b3 hb3 b2 hb2 hJ2 hJ3
      go_wp2
      go_ret
      exact ⟨rfl, HB.out⟩
    · have hap : appB bs b = true := by rw [← HQ.out, hqq]
      have hxe := HXS.out
      rw [logAppend_yes hap] at hxe
      obtain ⟨hxl, hx2⟩ := appd_at hxe
      obtain ⟨hlo, hbo, hlx⟩ := appB_log hap
      have hlog := ((logB_iff _).1 hlo).1
      have HLX := Lib.hid (show logB xs = true by rw [hxe]; exact hlx)
      have hxk : xs.length - 1 < xs.length := by omega
      have hx1 : 1 ≤ xs.length := by omega
      have hx9 : xs.length ≤ 9 := by omega
      have hel := Lib.hid (hx2 hxk)
      have hjl := hJ2.1
      have hjc := hJ2.2.1
      have hn6 := (batB_len hbo).2
      have hen := endOf_nonneg hlo
      have hre : readEnd bs = endOf bs := by unfold readEnd; rw [hlo]; rfl
      obtain ⟨ad, C, k, rfl, _, hr, q0, q1, q2, q3, q4, q5⟩ := hJ2.bat_at hxk
      rw [hel.out] at hr q0 q1 q2 q3 q4 q5
      simp only [Bat.holding] at hr q0 q1 q2 q3 q4 q5
      obtain ⟨rs, hrs⟩ : ∃ rs, rs = renum b.recs (readEnd bs) := ⟨_, rfl⟩
      rw [← hrs] at hr q5
      have HLN := Lib.hid (show rs.length = b.recs.length by rw [hrs, renum_len])
      have hrs6 : rs.length ≤ 6 := by rw [HLN.out]; exact hn6
      have HRJ := Lib.hid (show ∀ j (h1 : j < rs.length) (h2 : j < b.recs.length), rs[j] = b.recs[j].onto (readEnd bs + (j : Int)) from fun j h1 h2 => by subst hrs; exact renum_at _ _ _ _)
      obtain ⟨p0, p1, p2, p3, p4, p5, pf⟩ := six hA4
      have hbl := hB.1
      have hbc := hB.2.1
      clear hxe hx2 hxl hlx hrs hap hqq hbo
      by_cases h0 : 0 < bs.length
      · have e2 := endOf_last hlo h0
        have hvl := ((logB_iff _).1 hlo).2.1 _ (List.getElem_mem (l := bs) (n := bs.length - 1) (by omega))
        have hk1 : bs.length - 1 < bs.length := by omega
        have HN := Lib.hid (show bs[bs.length - 1].last + 1 = readEnd bs by rw [hre, e2])
        rw [e2] at hen
        have hl0 := hen.1
        have hl1 := hen.2
        have HVL := Lib.hid hvl
        clear e2 hvl hre hen hlo
        obtain ⟨ad0, C0, k0, hAe, _, hrl, u0, u1, u2, u3, u4, u5⟩ := (hB.below b4).bat_at hk1
        subst hAe
        go_wp2_with fail
        refine (BatchSpan_any bs[bs.length - 1] C0 k0 _ _ hrl HVL.out).mono ?_
        rintro e w5 ⟨rfl, hb5⟩
        obtain ⟨m, hm⟩ : ∃ m, m = bs[bs.length - 1].last := ⟨_, rfl⟩
        obtain ⟨m0, hm0⟩ : ∃ m, m = bs[bs.length - 1].first := ⟨_, rfl⟩
        rw [← hm] at HN hl0 hl1 ⊢
        rw [← hm0]
        clear hm hm0 u0 u1 u2 u3 u4 u5 hrl
        have hAq := blk_below hA4 hb5
        have q0 := below_cell hb5 q0
        have q1 := below_cell hb5 q1
        have q2 := below_cell hb5 q2
        have q3 := below_cell hb5 q3
        have q4 := below_cell hb5 q4
        have q5 := below_cell hb5 q5
        go_wp2_with fail
        generalize hW5 : World.alloc _ _ = W5
        obtain ⟨hA5, c5, hz5⟩ := alloc1 hW5
        clear hW5
        have hAb := blk_below (hAq) c5
        have hr5 := hr.below (bthen hb5 c5)
        have hRb := hR.below (bthen b4 (bthen hb5 c5))
        have hJ5 := hJ2.below (bthen hb5 c5)
        have HBW := Lib.hid (bthen hb1 (bthen b4 (bthen hb5 c5)))
        have hrl1 := hr5.1
        have hrl2 := hr5.2.1
        clear p0 p1 p2 p3 p4 p5 pf q0 q1 q2 q3 q4 q5 hr hJ2 hJ3 c5
        go_loopw [14] (fun i wr => ∃ j : Nat, j ≤ rs.length ∧ i = .int .i64 j ∧ Hid (Below W5.heap.size W5 wr)) (fun i _ => rs.length - (intOf i).toNat)
        case atStart => exact ⟨0, Nat.zero_le _, rfl, Lib.hid (Below.refl _ _)⟩
        case round =>
          obtain ⟨j, hj, rfl, HB⟩ := hrel
          obtain ⟨p0, p1, p2, p3, p4, p5, pf⟩ := six (blk_below hAb HB.out)
          obtain ⟨q0, q1, q2, q3, q4, q5, qf⟩ := six (blk_below hA5 HB.out)
          by_cases hlt : j < rs.length
          · have hltb : j < b.recs.length := by rw [← HLN.out]; exact hlt
            have hrj := HRJ.out j hlt hltb
            obtain ⟨ad1, C1, d1', C2, d2, rfl, _, _, hv1, r0, r1, r2, r3, r4, r5⟩ := (hr5.below HB.out).rec_at hlt
            obtain ⟨ad2, C3, d3, C4, d4, rfl, _, _, hv2, s0, s1, s2, s3, s4, s5⟩ := (hRb.below HB.out).rec_at hltb
            rw [hrj] at hv1 r0 r1 r2 r3 r4 r5
            simp only [Rec.onto] at hv1 r0 r1 r2 r3 r4 r5
            rw [show readEnd bs + (j : Int) = m + 1 + (j : Int) by have := HN.out; omega] at r0
            have hlb := hRb.1
            have hlc := hRb.2.1
            have hex : (m + 1 + (j : Int) != m + 1 + (j : Int)) = false := by simp
            have het : (b.recs[j].time != b.recs[j].time) = false := by simp
            have Q5 := grow_cell q5
            have P5 := grow_cell p5
            have R0 := grow_cell r0
            have R1 := grow_cell r1
            have R5 := grow_cell r5
            have S1 := grow_cell s1
            have S5 := grow_cell s5
            have hcall : ∀ g, Calls Try.prog 23 #[.slice C2 b.recs[j].val.length d2, .slice C4 b.recs[j].val.length d4] (grow wr g) fun e w'' => e = .returned (.bool true) ∧ ∃ g', w'' = grow wr g' := fun g => by
              have := Calls.grow_of (sameInts_any b.recs[j].val b.recs[j].val C2 C4 d2 d4 _ _ (grow wr g) (hv1.below (grow_below _ _)) (hv2.below (grow_below _ _)))
              simpa using this
            have hbr : ∀ g, Below W5.heap.size W5 (grow wr g) := fun g => bthen HB.out (grow_below _ g)
            clear hrj hv1 hv2 r0 r1 r2 r3 r4 r5 s0 s1 s2 s3 s4 s5
            go_wp2_with fail
            refine wp_region_grow_lit (by kernel_rfl) (by kernel_rfl) ?_
            repeat (go_big_quiet_step (exact hcall _))
            refine wpQuiet_nil ?_
            rintro _ ⟨g, rfl⟩
            have HB7 := Lib.hid (hbr g)
            clear hbr hcall p0 p1 p2 p3 p4 p5 pf q0 q1 q2 q3 q4 q5 qf Q5 P5 R0 R1 R5 S1 S5
            go_wp2
            go_roundw
            case rel => exact ⟨j + 1, by omega, by go_num, HB7⟩
            case measure => simp [intOf]; omega
          · have hj2 : j = rs.length := by omega
            subst hj2
            go_wp2_with fail
            refine (LogValid_any xs (some ad) c2 _ _ (hJ5.below HB.out)).mono ?_
            rintro e w8 ⟨rfl, hb8⟩
            rw [HLX.out]
            have b58 := bthen HB.out hb8
            clear p0 p1 p2 p3 p4 p5 pf q0 q1 q2 q3 q4 q5 qf
            obtain ⟨p0, p1, p2, p3, p4, p5, pf⟩ := six (blk_below hAb b58)
            obtain ⟨q0, q1, q2, q3, q4, q5, qf⟩ := six (blk_below hA5 b58)
            have hen : ((rs.length : Int) == (b.recs.length : Int)) = true := by rw [HLN.out]; simp
            have HBB := Lib.hid (bthen HBW.out b58)
            clear b58 hb8 hJ5 hr5 hRb
            go_wp2
            go_ret
            exact ⟨rfl, HBB.out⟩
      · have e2 : endOf bs = 0 := by unfold endOf; rw [if_pos (by omega)]
        have HN := Lib.hid (show (0 : Int) = readEnd bs by rw [hre, e2])
        clear e2 hre hen hlo
        go_wp2_with fail
        generalize hW5 : World.alloc _ _ = W5
        obtain ⟨hA5, c5, hz5⟩ := alloc1 hW5
        clear hW5
        have hAb := blk_below (hA4) c5
        have hr5 := hr.below ( c5)
        have hRb := hR.below (bthen b4 ( c5))
        have hJ5 := hJ2.below ( c5)
        have HBW := Lib.hid (bthen hb1 (bthen b4 ( c5)))
        have hrl1 := hr5.1
        have hrl2 := hr5.2.1
        clear p0 p1 p2 p3 p4 p5 pf q0 q1 q2 q3 q4 q5 hr hJ2 hJ3 c5
        go_loopw [14] (fun i wr => ∃ j : Nat, j ≤ rs.length ∧ i = .int .i64 j ∧ Hid (Below W5.heap.size W5 wr)) (fun i _ => rs.length - (intOf i).toNat)
        case atStart => exact ⟨0, Nat.zero_le _, rfl, Lib.hid (Below.refl _ _)⟩
        case round =>
          obtain ⟨j, hj, rfl, HB⟩ := hrel
          obtain ⟨p0, p1, p2, p3, p4, p5, pf⟩ := six (blk_below hAb HB.out)
          obtain ⟨q0, q1, q2, q3, q4, q5, qf⟩ := six (blk_below hA5 HB.out)
          by_cases hlt : j < rs.length
          · have hltb : j < b.recs.length := by rw [← HLN.out]; exact hlt
            have hrj := HRJ.out j hlt hltb
            obtain ⟨ad1, C1, d1', C2, d2, rfl, _, _, hv1, r0, r1, r2, r3, r4, r5⟩ := (hr5.below HB.out).rec_at hlt
            obtain ⟨ad2, C3, d3, C4, d4, rfl, _, _, hv2, s0, s1, s2, s3, s4, s5⟩ := (hRb.below HB.out).rec_at hltb
            rw [hrj] at hv1 r0 r1 r2 r3 r4 r5
            simp only [Rec.onto] at hv1 r0 r1 r2 r3 r4 r5
            rw [show readEnd bs + (j : Int) = (j : Int) by have := HN.out; omega] at r0
            have hlb := hRb.1
            have hlc := hRb.2.1
            have hex : ((j : Int) != (j : Int)) = false := by simp
            have het : (b.recs[j].time != b.recs[j].time) = false := by simp
            have Q5 := grow_cell q5
            have P5 := grow_cell p5
            have R0 := grow_cell r0
            have R1 := grow_cell r1
            have R5 := grow_cell r5
            have S1 := grow_cell s1
            have S5 := grow_cell s5
            have hcall : ∀ g, Calls Try.prog 23 #[.slice C2 b.recs[j].val.length d2, .slice C4 b.recs[j].val.length d4] (grow wr g) fun e w'' => e = .returned (.bool true) ∧ ∃ g', w'' = grow wr g' := fun g => by
              have := Calls.grow_of (sameInts_any b.recs[j].val b.recs[j].val C2 C4 d2 d4 _ _ (grow wr g) (hv1.below (grow_below _ _)) (hv2.below (grow_below _ _)))
              simpa using this
            have hbr : ∀ g, Below W5.heap.size W5 (grow wr g) := fun g => bthen HB.out (grow_below _ g)
            clear hrj hv1 hv2 r0 r1 r2 r3 r4 r5 s0 s1 s2 s3 s4 s5
            go_wp2_with fail
            refine wp_region_grow_lit (by kernel_rfl) (by kernel_rfl) ?_
            repeat (go_big_quiet_step (exact hcall _))
            refine wpQuiet_nil ?_
            rintro _ ⟨g, rfl⟩
            have HB7 := Lib.hid (hbr g)
            clear hbr hcall p0 p1 p2 p3 p4 p5 pf q0 q1 q2 q3 q4 q5 qf Q5 P5 R0 R1 R5 S1 S5
            go_wp2
            go_roundw
            case rel => exact ⟨j + 1, by omega, by go_num, HB7⟩
            case measure => simp [intOf]; omega
          · have hj2 : j = rs.length := by omega
            subst hj2
            go_wp2_with fail
            refine (LogValid_any xs (some ad) c2 _ _ (hJ5.below HB.out)).mono ?_
            rintro e w8 ⟨rfl, hb8⟩
            rw [HLX.out]
            have b58 := bthen HB.out hb8
            clear p0 p1 p2 p3 p4 p5 pf q0 q1 q2 q3 q4 q5 qf
            obtain ⟨p0, p1, p2, p3, p4, p5, pf⟩ := six (blk_below hAb b58)
            obtain ⟨q0, q1, q2, q3, q4, q5, qf⟩ := six (blk_below hA5 b58)
            have hen : ((rs.length : Int) == (b.recs.length : Int)) = true := by rw [HLN.out]; simp
            have HBB := Lib.hid (bthen HBW.out b58)
            clear b58 hb8 hJ5 hr5 hRb
            go_wp2
            go_ret
            exact ⟨rfl, HBB.out⟩
  · go_enter Try.func6, Try.ntmps6
    go_wp2
    go_ret
    exact ⟨rfl, Below.refl _ _⟩
end Go.Proofs.Ytlgcajjoimcdhaa
