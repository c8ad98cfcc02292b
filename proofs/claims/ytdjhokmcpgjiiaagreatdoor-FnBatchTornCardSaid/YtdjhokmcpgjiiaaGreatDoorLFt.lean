/- The law FnBatchTorn. -/
import Derived.Test.YtdjhokmcpgjiiaaGreatDoorLFb
namespace Go.Proofs.YtdjhokmcpgjiiaaGreatDoor
set_option linter.unusedVariables false
set_option linter.unusedSimpArgs false
open Go.RowKit

theorem bfQ_cut {l : List Int} {i k : Nat} {b : Bat} (h : BatAt l i b) (hk : k < i + (batBytes b).length) : bfQ (l.take k) (i : Int) = none := by
  unfold bfQ
  split
  · rw [rdAtI_nat]; exact rdBat_none (h.cut hk)
  · rfl
theorem bfQ_end {l : List Int} {i : Nat} (h : l.length = i) : bfQ l (i : Int) = none := by
  unfold bfQ
  split
  · rw [rdAtI_nat]; exact none_short (by omega)
  · rfl
set_option maxRecDepth 20000 in
set_option maxHeartbeats 4000000 in
theorem batchTornLaw_walk (b0 : List Int) (A : Option Addr) (c : Nat) (w : World) (h : Kind.byte.Row w (fun _ => True) A c b0) (hg : LaidC w) :
    Calls Tryz.prog 5 #[.slice A b0.length c] w fun e w' => e = .returned (.bool true) ∧ Below w.heap.size w w' := by
  have hl := h.1
  have hc := h.2.1
  have HG := Lib.hid hg
  clear hg
  by_cases hs : b0.length ≤ 1048576
  · go_enter Tryz.func5, Tryz.ntmps5
    go_wp2_with fail
    refine (DrawBatchFrom_any b0 A c _ _ h).mono ?_
    rintro e w0 ⟨l, A1, c1, i, rfl, hll, r0, hb0⟩
    have HG0 := Lib.hid (HG.out.below hb0)
    obtain ⟨q, hq⟩ : ∃ q, q = bfQ l (i : Int) := ⟨_, rfl⟩
    have HQ := Lib.hid hq
    go_wp2_with fail
    have HC := BatchFrom_all l A1 c1 _ (i : Int) w0 HG0.out r0 (by omega)
    rw [← hq] at HC
    refine HC.mono ?_
    rintro e w1 ⟨A2, c2, rfl, hX1, hb1⟩
    obtain ⟨b, hbb⟩ : ∃ b, b = bfB q := ⟨_, rfl⟩
    obtain ⟨nq, hnq⟩ : ∃ n, n = bfN q (i : Int) := ⟨_, rfl⟩
    obtain ⟨sq, hsq⟩ : ∃ s, s = q.isSome := ⟨_, rfl⟩
    rw [← hbb] at hX1 ⊢
    rw [← hnq, ← hsq]
    have HBB := Lib.hid hbb
    have HNQ := Lib.hid hnq
    have HSQ := Lib.hid hsq
    have hR1 := hX1.toK
    have r1 := r0.below hb1
    have b1 := bthen hb0 hb1
    clear HC hX1 hq hbb hnq hsq
    go_wp2_with fail
    generalize hW1 : World.alloc _ _ = W1
    obtain ⟨hA1, bw1, hz1⟩ := alloc1 hW1
    clear hW1
    have b1 := bthen b1 bw1
    have HC := BatchFromS_all l A1 c1 _ (i : Int) W1 (r1.below bw1) (by omega)
    rw [← HQ.out] at HC
    refine HC.mono ?_
    rintro e w2 ⟨A3, c3, rfl, hX2, hb2⟩
    rw [← HBB.out] at hX2 ⊢
    rw [← HNQ.out, ← HSQ.out]
    have hR2 := hX2.toK
    have r2 := (r1.below bw1).below hb2
    have hR12 := (hR1.below bw1).below hb2
    have hA2 := blk_below hA1 hb2
    have b2 := bthen b1 hb2
    have hlt := blk_lt hA2
    have hne : w1.heap.size ≠ w2.heap.size := by omega
    clear HC hX2 hR1 r1 r0 hA1 hb2 b1 bw1 hb1 hb0 hz1
    obtain ⟨x0, x1, x2, x3, x4, x5, xf⟩ := six hA2
    go_wp2_with fail
    generalize hW2 : World.alloc _ _ = W2
    obtain ⟨hB2, bw2, hz2⟩ := alloc1 hW2
    clear hW2
    have R1 := hR12.below bw2
    have R2 := hR2.below bw2
    have r3 := r2.below bw2
    have b3 := bthen b2 bw2
    refine (sameBatch_any b b A2 A3 c2 c3 _ _ W2 R1 R2).mono ?_
    rintro e w3 ⟨rfl, hb3⟩
    rw [decide_eq_true rfl]
    have R13 := R1.below hb3
    have R23 := R2.below hb3
    have r33 := r3.below hb3
    have b33 := bthen b3 hb3
    have hA3 := blk_below (blk_below hA2 bw2) hb3
    have hB3 := blk_below hB2 hb3
    clear R1 R2 r3 b3 hb3 hA2 hB2 bw2 hz2 hR12 hR2 r2 b2 x0 x1 x2 x3 x4 x5 xf
    obtain ⟨x0, x1, x2, x3, x4, x5, xf⟩ := six hA3
    obtain ⟨y0, y1, y2, y3, y4, y5, yf⟩ := six hB3
    cases sq
    · go_wp2_with fail
      refine (sameBatch_any b b A2 A3 c2 c3 _ _ w3 R13 R23).mono ?_
      rintro e w4 ⟨rfl, hb4⟩
      rw [decide_eq_true rfl]
      have B4 := Lib.hid (bthen b33 hb4)
      clear hb4 b33
      go_wp2
      go_ret
      exact ⟨rfl, B4.out⟩
    · obtain ⟨hby, hat, hnn⟩ := bfQ_some HQ.out HBB.out HNQ.out HSQ.out
      have hln := hat.len
      have h18 : 18 ≤ (batBytes b).length := by rw [batBytes_len]; omega
      obtain ⟨k, hk⟩ : ∃ k, k + 1 = i + (batBytes b).length := ⟨i + (batBytes b).length - 1, by omega⟩
      rw [← hk] at hnn
      obtain ⟨n2, hn2⟩ : ∃ n2 : Nat, n2 = k + 1 := ⟨_, rfl⟩
      rw [← hn2] at hnn hk
      subst hnn
      have hk1 : n2 ≤ l.length := by omega
      have hq1 := Lib.hid (bfQ_cut hat (k := k) (by omega))
      have hq2 := Lib.hid (show bfQ (l.take n2) (n2 : Int) = none from bfQ_end (by rw [List.length_take]; omega))
      have hBl := r33.1
      have hBc := r33.2.1
      have s1 : ∀ W : World, (Instr.slice 23 (.slice A1 l.length c1) none (some (.int .i64 (k : Int))) none).run Tryz.prog W = .ok (.slice A1 k c1) W := run_cuth Tryz.underlying23 info_intF _ _ _ k _ rfl (by omega)
      have s2 : ∀ W : World, (Instr.slice 23 (.slice A1 l.length c1) none (some (.int .i64 (n2 : Int))) none).run Tryz.prog W = .ok (.slice A1 n2 c1) W := run_cuth Tryz.underlying23 info_intF _ _ _ n2 _ rfl (by omega)
      have hT1 := r33.take k
      have hT2 := r33.take n2
      have hTl1 : (l.take k).length = k := by rw [List.length_take]; omega
      have hTl2 : (l.take n2).length = n2 := by rw [List.length_take]; omega
      obtain ⟨xs, hxs⟩ : ∃ xs, xs = l.take k := ⟨_, rfl⟩
      obtain ⟨ys, hys⟩ : ∃ ys, ys = l.take n2 := ⟨_, rfl⟩
      rw [← hxs] at hT1 hTl1 hq1
      rw [← hys] at hT2 hTl2 hq2
      have HG3 := Lib.hid (HG.out.below b33)
      have HC1 := Lib.hid (fun W (hW : Below w3.heap.size w3 W) => BatchFrom_all xs A1 c1 _ (i : Int) W (HG3.out.below hW) (hT1.below hW) (by omega))
      rw [hTl1, hq1.out] at HC1
      have HC2 := Lib.hid (fun W (hW : Below w3.heap.size w3 W) => BatchFrom_all ys A1 c1 _ (n2 : Int) W (HG3.out.below hW) (hT2.below hW) (by omega))
      rw [hTl2, hq2.out] at HC2
      have hw : IntKind.i64.wrap ((n2 : Int) - 1) = (k : Int) := by rw [IntWalk.i64_in _ (by omega)]; omega
      have hw' : wrap64 ((n2 : Int) - 1) = (k : Int) := by rw [IntWalk.wrap64_in _ (by omega)]; omega
      have hwk : IntKind.i64.wrap (k : Int) = (k : Int) := by rw [IntWalk.i64_in _ (by omega)]
      have hwk' : wrap64 (k : Int) = (k : Int) := by rw [IntWalk.wrap64_in _ (by omega)]
      clear hxs hys hT1 hT2 hTl1 hTl2 hq1 hq2 r33 R13 R23 hBl hBc hk hk1 hat hby hln hll h18 x0 x1 x2 x3 x4 x5 xf y0 y1 y2 y3 y4 y5 yf hA3 hB3 hne hlt hn2
      go_wp2_with fail
      refine (HC1.out _ (Below.refl _ _)).mono ?_
      rintro e w4 ⟨A4, c4, rfl, _, hb4⟩
      have b4 := bthen b33 hb4
      go_wp2_with fail
      generalize hW4 : World.alloc _ _ = W4
      obtain ⟨hA4, bw4, hz4⟩ := alloc1 hW4
      clear hW4 hA4 hz4
      refine (HC2.out _ (bthen hb4 bw4)).mono ?_
      rintro e w5 ⟨A5, c5, rfl, _, hb5⟩
      have b5 := Lib.hid (bthen (bthen b4 bw4) hb5)
      clear hb5 bw4 b4 hb4 b33
      go_wp2
      go_ret
      exact ⟨rfl, bthen b5.out (bal _ _)⟩
  · go_enter Tryz.func5, Tryz.ntmps5
    go_wp2
    go_ret
    exact ⟨rfl, Below.refl _ _⟩
end Go.Proofs.YtdjhokmcpgjiiaaGreatDoor
