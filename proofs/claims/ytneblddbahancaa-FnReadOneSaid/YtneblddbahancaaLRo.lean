/- The law FnReadOne. -/
import Derived.Test.YtneblddbahancaaLRe
namespace Go.Proofs.Ytneblddbahancaa
set_option linter.unusedVariables false
set_option linter.unusedSimpArgs false
open Go.RowKit

set_option maxHeartbeats 4000000 in
theorem readOneLaw_walk (b0 : List Int) (A : Option Addr) (c : Nat) (w : World) (h : Kind.byte.Row w (fun _ => True) A c b0) :
    Calls Try.prog 19 #[.slice A b0.length c] w fun e w' => e = .returned (.bool true) ∧ Below w.heap.size w w' := by
  have hl := h.1
  have hc := h.2.1
  by_cases hs : b0.length ≤ 1048576
  · go_enter Try.func19, Try.ntmps19
    go_wp2_with fail
    refine (DrawReadOne_any b0 A c _ _ h).mono ?_
    rintro e w1 ⟨bs, B, d, o, rfl, hD⟩
    have hB := hD.row
    have hb1 := hD.below
    have hsl := recs_ok hD.len hD.ok
    have hsl' : Hid ((allRecs bs).length ≤ 1000) := Lib.hid (by unfold allRecs; omega)
    clear hD hsl
    go_wp2_with fail
    refine (ReadOne_any bs B d _ _ _ hB).mono ?_
    rintro e w2 ⟨vk, vv, rfl, hC2⟩
    obtain ⟨q, hq⟩ : ∃ q, q = readOne bs o := ⟨_, rfl⟩
    have HQ := Lib.hid hq
    rw [← hq] at hC2 ⊢
    clear hq
    obtain ⟨r, hr⟩ : ∃ r, r = recOr q := ⟨_, rfl⟩
    rw [← hr] at hC2 ⊢
    have HR := Lib.hid hr
    clear hr
    have hb2 := hC2.below
    have hB2 := hB.below hb2
    obtain ⟨Ak, ck, rfl, hk2⟩ := AppP.row hC2.key
    obtain ⟨Av, cv, rfl, hv2⟩ := AppP.row hC2.val
    have hk2 := hk2.mono (F' := fun _ => True) (fun _ _ => trivial)
    have hv2 := hv2.mono (F' := fun _ => True) (fun _ _ => trivial)
    clear hC2
    go_wp2_with fail
    generalize hW2 : World.alloc _ _ = W2
    obtain ⟨hO, c2, hz2⟩ := alloc1 hW2
    clear hW2
    refine (ReadOneS_any bs B d _ _ _ (hB2.below c2)).mono ?_
    rintro e w3 ⟨vk3, vv3, rfl, hC3⟩
    rw [← HQ.out] at hC3 ⊢
    rw [← HR.out] at hC3 ⊢
    have hb3 := hC3.below
    have hB3 := (hB2.below c2).below hb3
    obtain ⟨Ak3, ck3, rfl, hk3⟩ := AppP.row hC3.key
    obtain ⟨Av3, cv3, rfl, hv3⟩ := AppP.row hC3.val
    have hk3 := hk3.mono (F' := fun _ => True) (fun _ _ => trivial)
    have hv3 := hv3.mono (F' := fun _ => True) (fun _ _ => trivial)
    have hO3 := blk_below hO hb3
    have hk23 := (hk2.below c2).below hb3
    have hv23 := (hv2.below c2).below hb3
    have b3 := bthen (bthen (bthen hb1 hb2) c2) hb3
    have hlt3 : w2.heap.size < w3.heap.size := (Array.getElem?_eq_some_iff.1 hO3).1
    have hne3 : w2.heap.size ≠ w3.heap.size := by omega
    obtain ⟨x0, x1, x2, x3, x4, x5, xf⟩ := six hO3
    clear hC3 hb1 hb2 c2 hb3 hO hB hB2 hk2 hv2 hz2
    go_wp2_with fail
    generalize hW3 : World.alloc _ _ = W3
    obtain ⟨hP, c3, hz3⟩ := alloc1 hW3
    clear hW3
    refine (sameRecord_any r r Ak Av Ak3 Av3 ck cv ck3 cv3 _ _ _ (hk23.below c3) (hv23.below c3) (hk3.below c3) (hv3.below c3)).mono ?_
    rintro e w4 ⟨rfl, hb4⟩
    rw [decide_eq_true rfl]
    have hO4 := blk_below (blk_below hO3 c3) hb4
    have hP4 := blk_below hP hb4
    have hk4 := (hk23.below c3).below hb4
    have hv4 := (hv23.below c3).below hb4
    have hk5 := (hk3.below c3).below hb4
    have hv5 := (hv3.below c3).below hb4
    have hB4 := (hB3.below c3).below hb4
    have b4 := bthen (bthen b3 c3) hb4
    obtain ⟨y0, y1, y2, y3, y4, y5, yf⟩ := six hO4
    obtain ⟨z0, z1, z2, z3, z4, z5, zf⟩ := six hP4
    have HO4 := Lib.hid hO4
    clear x0 x1 x2 x3 x4 x5 xf hO3 hP hO4 hP4 hk23 hv23 hk3 hv3 c3 hb4 hz3 hB3 b3
    cases q with
    | none =>
      go_wp2_with fail
      refine (sameRecord_any r r Ak Av Ak3 Av3 ck cv ck3 cv3 _ _ _ hk4 hv4 hk5 hv5).mono ?_
      rintro e w5 ⟨rfl, hb5⟩
      rw [decide_eq_true rfl]
      go_wp2
      go_ret
      exact ⟨rfl, bthen b4 hb5⟩
    | some s =>
      have hrs : r = s := HR.out
      have hfin : logB bs = true ∧ (allRecs bs).find? (offB o) = some s := by
        have e := HQ.out
        unfold readOne at e
        split at e
        · rename_i hl; exact ⟨hl, e.symm⟩
        · cases e
      obtain ⟨kk, hkk, hks, hps, hah⟩ := find_ahead hfin.2
      have hup := allRecs_up hfin.1
      obtain ⟨rs, hrr⟩ : ∃ rs, rs = allRecs bs := ⟨_, rfl⟩
      go_wp2_with fail
      refine (allOf_any bs B d _ _ hB4 hsl'.out).mono ?_
      rintro e w5 ⟨B5, d5, rfl, hRR, hb5⟩
      rw [← hrr] at hRR hup ⊢
      have hne : Hid (∀ j (hj : j < kk) (hl : j < rs.length), rs[j] ≠ r) := Lib.hid (by
        subst hrr
        intro j hj hl e
        have h2 := up_ne hup hkk hj
        rw [hks, ← hrs, ← e] at h2
        exact h2 rfl)
      have hkr : kk < rs.length := by rw [hrr]; exact hkk
      have hk1 : Hid (rs[kk] = r) := Lib.hid (by subst hrr; rw [hks, hrs])
      have hoff : r.off = o := by rw [hrs]; simpa [offB] using hps
      have hoff' : (r.off == o) = true := by simpa using hoff
      have hrl := hRR.1
      have hrc := hRR.2.1
      have b5 := bthen b4 hb5
      have hO5 := blk_below HO4.out hb5
      have hk6 := hk4.below hb5
      have hv6 := hv4.below hb5
      have HO5 := Lib.hid hO5
      clear hrr hrs hfin hks hps hah hup hkk hk4 hv4 hk5 hv5 hB4 hb5 b4 y0 y1 y2 y3 y4 y5 yf z0 z1 z2 z3 z4 z5 zf hO5 hoff
      go_wp2_with fail
      go_loopw [10] (fun i wr => ∃ k : Nat, k ≤ kk ∧ i = .int .i64 k ∧ Hid (Below w5.heap.size w5 wr)) (fun i _ => kk - (intOf i).toNat)
      case atStart => exact ⟨0, Nat.zero_le _, rfl, Lib.hid (Below.refl _ _)⟩
      case round =>
        obtain ⟨k, hk, rfl, HB⟩ := hrel
        have hlt : k < rs.length := by omega
        obtain ⟨ad, X, x, X', x', rfl, _, hi1, hi2, q0, q1, q2, q3, q4, q5⟩ := (hRR.below HB.out).rec_at hlt
        obtain ⟨y0, y1, y2, y3, y4, y5, yf⟩ := six (blk_below HO5.out HB.out)
        have Q0 := grow_cell q0
        have Q1 := grow_cell q1
        have Q2 := grow_cell q2
        have Q3 := grow_cell q3
        have Q4 := grow_cell q4
        have Q5 := grow_cell q5
        have Y0 := grow_cell y0
        have Y1 := grow_cell y1
        have Y2 := grow_cell y2
        have Y3 := grow_cell y3
        have Y4 := grow_cell y4
        have Y5 := grow_cell y5
        have hcall : ∀ g, Calls Try.prog 57 #[.agg #[.int .i64 rs[k].off, .int .i64 rs[k].time, .bool rs[k].hk, .slice X rs[k].key.length x, .bool rs[k].hv, .slice X' rs[k].val.length x'],
            .agg #[.int .i64 r.off, .int .i64 r.time, .bool r.hk, .slice Ak r.key.length ck, .bool r.hv, .slice Av r.val.length cv]] (grow wr g) fun e w'' => e = .returned (.bool (decide (rs[k] = r))) ∧ ∃ g', w'' = grow wr g' := fun g =>
          Calls.grow_of (sameRecord_any rs[k] r X X' Ak Av x x' ck cv _ _ _ (hi1.below (grow_below _ _)) (hi2.below (grow_below _ _)) ((hk6.below HB.out).below (grow_below _ _)) ((hv6.below HB.out).below (grow_below _ _)))
        have hbr : ∀ g, Below w5.heap.size w5 (grow wr g) := fun g => bthen HB.out (grow_below _ g)
        have k0 : (0 : Int) ≤ (k : Int) := by omega
        have k1 : (k : Int) < (rs.length : Int) := by omega
        clear q0 q1 q2 q3 q4 q5 y0 y1 y2 y3 y4 y5 yf hi1 hi2
        by_cases hkk2 : k < kk
        · rw [decide_eq_false (hne.out k hkk2 hlt)] at hcall
          go_wp2_with fail
          refine wp_region_grow_lit (by kernel_rfl) (by kernel_rfl) ?_
          repeat (go_big_quiet_step (exact hcall _))
          refine wpQuiet_nil ?_
          rintro _ ⟨g, rfl⟩
          have hbg := Lib.hid (hbr g)
          clear hbr hcall
          go_wp2
          go_roundw
          case rel => exact ⟨k + 1, by omega, by go_num, hbg⟩
          case measure => simp [intOf]; omega
        · have hke : k = kk := by omega
          subst hke
          rw [decide_eq_true hk1.out] at hcall
          go_wp2_with fail
          refine wp_region_grow_lit (by kernel_rfl) (by kernel_rfl) ?_
          repeat (go_big_quiet_step (exact hcall _))
          refine wpQuiet_nil ?_
          rintro _ ⟨g, rfl⟩
          have hbg := Lib.hid (hbr g)
          clear hbr hcall
          go_wp2
          go_ret
          exact ⟨by simp [hoff'], bthen b5 hbg.out⟩
  · go_enter Try.func19, Try.ntmps19
    go_wp2
    go_ret
    exact ⟨rfl, Below.refl _ _⟩
end Go.Proofs.Ytneblddbahancaa
