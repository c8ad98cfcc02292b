/- The exact law of writing a batch. -/
import Derived.Test.YtfflhenldegmmaaBt
import Derived.Test.YtfflhenldegmmaaBv
import Derived.Test.YtfflhenldegmmaaT2a
import Derived.Test.YtfflhenldegmmaaE2a
import Derived.Test.YtfflhenldegmmaaM5a
namespace Go.Proofs.Ytfflhenldegmmaa
set_option linter.unusedVariables false
set_option linter.unusedSimpArgs false
open Go.RowKit

theorem endR_wt (rs : List Rec) (k : Int) : endR rs k rs.length ≤ k + 4 * (wtRs rs : Int) := by
  have h : ∀ j, j ≤ rs.length → endR rs k j ≤ k + 4 * ((j : Int) + ((rs.take j).map wtR).sum) := by
    intro j
    induction j with
    | zero => intro _; simp [endR]
    | succ j ih =>
      intro hj
      have h1 := ih (by omega)
      rw [endR_succ rs k j (by omega), sum_take_succ wtR rs j (by omega)]
      have hw : (wtR rs[j] : Int) = (rs[j].key.length : Int) + rs[j].val.length := by unfold wtR; omega
      unfold markEnd
      omega
  have h2 := h rs.length (Nat.le_refl _)
  rw [List.take_length] at h2
  unfold wtRs
  omega
set_option maxRecDepth 100000 in
set_option maxHeartbeats 8000000 in
theorem exactBatchBytes_walk (b : Bat) {cs : Array Value} (w : World) (hb : Kind.bat.K w (fun _ => True) b cs.toList) :
    Calls Try.prog 9 #[.agg cs] w fun e w' => e = .returned (.bool true) ∧ Below w.heap.size w w' := by
  obtain ⟨A, c, ecs, hr⟩ := hb
  obtain rfl : cs = #[.bool b.packed, .bool b.mark, .int .i64 b.prod, .int .i64 b.epoch, .int .i64 b.seq, .slice A b.recs.length c] := by
    cases cs; simpa using ecs
  clear ecs
  by_cases hs : (1048576 : Int) < wtB b
  · go_enter Try.func9, Try.ntmps9
    go_wp2_with fail
    generalize hW : World.alloc _ _ = W
    obtain ⟨hA, b1, hsW⟩ := alloc1 hW
    clear hW
    refine (szBatch_any b A c _ _ W (hr.below b1) (by omega) (by omega)).mono ?_
    rintro e w1 ⟨rfl, hb1⟩
    rw [szOf_neg hs]
    go_wp2
    go_ret
    exact ⟨rfl, bthen b1 hb1⟩
  · have hbsm : b.small := Bat.small_of (by omega)
    have HBS := Lib.hid hbsm
    have hle : (wtB b : Int) ≤ 1048576 := by omega
    have hRB := endR_wt b.recs 1
    have hRW : (wtB b : Int) = (wtRs b.recs : Int) := rfl
    have hRG := endR_ge b.recs 1 b.recs.length
    obtain ⟨er, her⟩ : ∃ er, er = endR b.recs 1 b.recs.length := ⟨_, rfl⟩
    rw [← her] at hRB hRG
    have HER := Lib.hid her
    have her2 : er ≤ 10000000 := by omega
    have hol := batOut_len b
    obtain ⟨ob, hob⟩ : ∃ o, o = batOut b := ⟨_, rfl⟩
    rw [← hob] at hol
    have HOB := Lib.hid hob
    obtain ⟨q, hq⟩ : ∃ q, q = batB b := ⟨_, rfl⟩
    have HQ := Lib.hid hq
    clear hbsm her hRW hRB hob hq
    go_enter Try.func9, Try.ntmps9
    go_wp2_with fail
    generalize hW : World.alloc _ _ = W
    obtain ⟨hA, b1, hsW⟩ := alloc1 hW
    clear hW
    refine (szBatch_any b A c _ _ W (hr.below b1) (by omega) (by omega)).mono ?_
    rintro e w1 ⟨rfl, hb1⟩
    rw [szOf_pos (by omega)]
    have hA1 := blk_below hA hb1
    have b11 := bthen b1 hb1
    obtain ⟨z0, z1, z2, z3, z4, z5, zf⟩ := six hA1
    clear hs
    go_wp2_with fail
    refine (toBatch_any b A c _ w1 (hr.below b11) HBS.out).mono ?_
    rintro e w2 ⟨A2, c2, rfl, ⟨B2, d2, e2, hX2⟩, hb2⟩
    simp at e2
    obtain ⟨rfl, rfl⟩ := e2
    have b2 := bthen b11 hb2
    have hA2 := blk_below hA1 hb2
    clear z0 z1 z2 z3 z4 z5 zf
    go_wp2_with fail
    refine (BatchBytesS_any b A2 c2 _ w2 hX2.toK).mono ?_
    rintro e w3 ⟨v3, rfl, HV3, hb3⟩
    rw [← HOB.out] at HV3
    rw [← HQ.out]
    obtain ⟨A3, c3, rfl, k3⟩ := AppP.row HV3
    have k3 := k3.bound (bnd_int .i64)
    have b3 := bthen b2 hb3
    have hA3 := blk_below hA2 hb3
    have HG3 := Lib.hid (show w.heap.size < w3.heap.size from (Array.getElem?_eq_some_iff.1 hA3).1)
    clear hX2 HV3
    obtain ⟨z0, z1, z2, z3, z4, z5, zf⟩ := six hA3
    go_wp2_with fail
    refine (toBatch_any b A c _ w3 (hr.below b3) HBS.out).mono ?_
    rintro e w4 ⟨A4, c4, rfl, ⟨B4, d4, e4, hX4⟩, hb4⟩
    simp at e4
    obtain ⟨rfl, rfl⟩ := e4
    have hX4 := hX4.bound
    have b4 := bthen b3 hb4
    have hA4 := blk_below hA3 hb4
    clear z0 z1 z2 z3 z4 z5 zf
    go_wp2_with fail
    generalize hW4 : World.alloc _ _ = W4
    obtain ⟨hG4, c4w, hz4⟩ := alloc1 hW4
    clear hW4
    refine (BatchBytes_any b A4 c4 _ W4 (hX4.below c4w).toK).mono ?_
    rintro e w5 ⟨v5, rfl, HV5, hb5⟩
    rw [← HOB.out] at HV5
    rw [← HQ.out]
    obtain ⟨A5, c5, rfl, k5⟩ := AppP.xints HV5
    have hl5 := fun g hg => AppP.own_lt HV5 (k := g) hg
    have hg5 := fun g hg => AppP.ne HV5 (k := g) hg
    have b5 := bthen b4 (bthen c4w hb5)
    have k35 := k3.below (bthen hb4 (bthen c4w hb5))
    have hA5 := blk_below hA4 (bthen c4w hb5)
    have hG5 := blk_below hG4 hb5
    have hX5 := hX4.below (bthen c4w hb5)
    have s3 := hb4.size
    have s4 := c4w.size
    have s5 := hb5.size
    have s53 := b3.size
    clear HV5
    go_wp2_with fail
    refine (eqIntS_any ob ob A5 A3 c5 c3 _ _ w5 k5.toK k35).mono ?_
    rintro e w6 ⟨rfl, hb6⟩
    rw [decide_eq_true rfl]
    have b6 := bthen b5 hb6
    have hA6 := blk_below hA5 hb6
    have hG6 := blk_below hG5 hb6
    have bD : Below w6.heap.size w6 w6.drew := ⟨rfl, rfl, rfl, Nat.le_refl _, fun _ _ => rfl⟩
    obtain ⟨z0, z1, z2, z3, z4, z5, zf⟩ := six hA6
    obtain ⟨y0, y1, y2, y3, y4, y5, yf⟩ := six hG6
    have HAD := Lib.hid (blk_below hA6 bD)
    have HGD := Lib.hid (blk_below hG6 bD)
    have HGW := Lib.hid (show w.heap.size < w6.heap.size from (Array.getElem?_eq_some_iff.1 hA6).1)
    clear hA5 hG5 hA4 hG4 hA3 hA2 hA1 hA
    go_wp2_with fail
    go_region_with (first
      | (go_at_call 30; go_loud (refine (toBatch_any b A c _ w6.drew (hr.below (bthen b6 bD)) HBS.out).mono ?_; rintro e wT ⟨AT, cT, rfl, ⟨BT, dT, eT, hXT⟩, hbT⟩; simp at eT; obtain ⟨rfl, rfl⟩ := eT; obtain ⟨r0, r1, r2, r3, r4, r5, rf⟩ := six (blk_below HGD.out hbT)))
      | (go_at_call 31; go_loud (refine (eqBatch_any b b A4 AT c4 cT _ _ wT (hX5.below (bthen hb6 (bthen bD hbT))).toK hXT.toK).mono ?_; rintro e w7 ⟨rfl, hb7⟩; rw [decide_eq_true rfl])))
    all_goals
      have hT7 := bthen (bthen bD hbT) hb7
      have b7 := bthen b6 hT7
      have hX7 := hX5.below (bthen hb6 hT7)
      have k57 := k5.below (bthen hb6 hT7)
      have k37 := k35.below (bthen hb6 hT7)
      have hA7 := blk_below HAD.out (bthen hbT hb7)
      have hG7 := blk_below HGD.out (bthen hbT hb7)
      have s7 := (bthen hb6 hT7).size
      clear hXT hbT hb7 hT7 bD z0 z1 z2 z3 z4 z5 zf y0 y1 y2 y3 y4 y5 yf HAD HGD hG6 hA6
      try clear r0 r1 r2 r3 r4 r5 rf
      obtain ⟨y0, y1, y2, y3, y4, y5, yf⟩ := six hG7
      go_wp2_with fail
      refine (markBatch_any b A4 c4 _ 1 w7 hX7 (by omega) (by rw [← HER.out]; omega)).mono ?_
      rintro e w8 ⟨rfl, C8⟩
      rw [← HER.out]
      have k58 := k57.keep (w' := w8) (C8.same (fun i _ h1 h2 => by have := hg5 i h1; have := h2.2; omega)) C8.size
      have k38 := k37.keep (w' := w8) (C8.same (fun i _ h1 h2 => by have := h1.2; have := h2.1; omega))
      have hA8 := C8.blk hA7 (fun e => by have := e.1; have := HG3.out; omega)
      have b8 := b7.trans (C8.below b7.size (fun i hi => by have := hi.1; omega))
      have hRr8 := ((hr.bound bnd_rec).below b7).keep (w' := w8) (C8.same (fun i _ h1 h2 => by have := h1.2; have := h2.1; omega))
      clear hX7 k57 k37 hA7 hG7 C8 y0 y1 y2 y3 y4 y5 yf
      go_wp2_with fail
      refine (eqIntS_any ob ob A5 A3 c5 c3 _ _ w8 k58.toK k38).mono ?_
      rintro e w9 ⟨rfl, hb9⟩
      rw [decide_eq_true rfl]
      have k59 := k58.below hb9
      have k39 := k38.below hb9
      have hA9 := blk_below hA8 hb9
      have b9 := bthen b8 hb9
      have hRr9 := hRr8.below hb9
      clear k58 k38 hA8 b8 hb9 hRr8
      go_wp2_with fail
      refine (markIntS_any ob A5 c5 _ 1 w9 k59 (by omega) (by omega) (by omega)).mono ?_
      rintro e w10 ⟨rfl, m10, C10⟩
      have k310 := k39.keep (w' := w10) (C10.same (fun i _ h1 h2 => by have := hg5 i h2; have := h1.2; omega))
      have hA10 := C10.blk hA9 (fun e => by have := hg5 _ e; have := HG3.out; omega)
      have b10 := b9.trans (C10.below b9.size (fun i hi => by have := hg5 i hi; have := b4.size; omega))
      have hRr10 := hRr9.keep (w' := w10) (C10.same (fun i _ h1 h2 => by have := hg5 i h2; have := h1.2; have := b4.size; omega))
      have m10 := m10.toK
      clear k59 k39 hA9 b9 hRr9 C10
      go_wp2_with fail
      refine (heldIntS_any ob.length A5 c5 _ 1 w10 m10 (by omega) (by omega) (by omega)).mono ?_
      rintro e w11 ⟨rfl, hb11⟩
      have k311 := k310.below hb11
      have hA11 := blk_below hA10 hb11
      have b11' := bthen b10 hb11
      have hRr11 := hRr10.below hb11
      have m11 := m10.below hb11
      clear k310 hA10 b10 hRr10 m10 hb11
      obtain ⟨z0, z1, z2, z3, z4, z5, zf⟩ := six hA11
      go_wp2_with fail
      refine (toBatch_any b A c _ w11 hRr11 HBS.out).mono ?_
      rintro e w12 ⟨A12, c12, rfl, ⟨B12, d12, e12, hX12⟩, hb12⟩
      simp at e12
      obtain ⟨rfl, rfl⟩ := e12
      clear z0 z1 z2 z3 z4 z5 zf
      go_wp2_with fail
      refine (BatchBytes_any b A12 c12 _ w12 hX12.toK).mono ?_
      rintro e w13 ⟨v13, rfl, HV13, hb13⟩
      rw [← HOB.out] at HV13
      rw [← HQ.out]
      obtain ⟨A13, c13, rfl, k13⟩ := AppP.row HV13
      have k313 := k311.below (bthen hb12 hb13)
      have m13 := m11.below (bthen hb12 hb13)
      have b13 := bthen b11' (bthen hb12 hb13)
      clear k311 hA11 b11' hRr11 m11 hb12 hb13 HV13 hX12
      go_wp2_with fail
      refine (eqIntS_any ob ob A13 A3 c13 c3 _ _ w13 k13 k313).mono ?_
      rintro e w14 ⟨rfl, hb14⟩
      rw [decide_eq_true rfl]
      have m14 := m13.below hb14
      have b14 := bthen b13 hb14
      clear k13 k313 m13 b13 hb14
      go_wp2_with fail
      refine (heldIntS_any ob.length A5 c5 _ 1 w14 m14 (by omega) (by omega) (by omega)).mono ?_
      rintro e w15 ⟨rfl, hb15⟩
      have b15 := Lib.hid (bthen b14 hb15)
      clear m14 b14 hb15
      go_wp2
      go_ret
      exact ⟨rfl, b15.out⟩
end Go.Proofs.Ytfflhenldegmmaa
