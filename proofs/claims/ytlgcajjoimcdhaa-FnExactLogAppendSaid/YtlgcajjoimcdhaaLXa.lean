/- The exact law of LogAppend. -/
import Derived.Test.YtlgcajjoimcdhaaLXr
import Derived.Test.YtlgcajjoimcdhaaM5
import Derived.Test.YtlgcajjoimcdhaaR6
namespace Go.Proofs.Ytlgcajjoimcdhaa
set_option linter.unusedVariables false
set_option linter.unusedSimpArgs false
open Go.RowKit

theorem logB_wt {xs : List Bat} (h : logB xs = true) : wtBs xs ≤ 2000 := by
  obtain ⟨h8, hb, _⟩ := (logB_iff _).1 h
  have hs : ∀ l : List Bat, (∀ b ∈ l, batB b = true) → (l.map wtB).sum ≤ 150 * l.length := by
    intro l
    induction l with
    | nil => intro _; simp
    | cons a t ih =>
      intro hl
      have h1 := ih (fun b hb => hl b (by simp [hb]))
      have h2 := hl a (by simp)
      have h3 := wtRs_small (rs := a.recs) (fun r hr => recB_small (((recsB_iff _).1 (batB_recs h2)).1 r hr))
      have h4 := (batB_len h2).2
      rw [List.map_cons, List.sum_cons, List.length_cons]
      show wtRs a.recs + _ ≤ _
      omega
  have := hs xs hb
  unfold wtBs
  omega
theorem logAppend_wt (bs : List Bat) (b : Bat) : wtBs (logAppend bs b) ≤ 2000 := by
  cases h : appB bs b with
  | false => rw [logAppend_no h]; simp [wtBs]
  | true => rw [logAppend_yes h]; exact logB_wt (appB_log h).2.2

set_option maxRecDepth 100000 in
set_option maxHeartbeats 40000000 in
theorem exactLogAppend_walk (bs : List Bat) (A : Option Addr) (c : Nat) (b : Bat) {cs : Array Value} (w : World) (h : Bats w (fun _ => True) A c bs) (hb : Kind.bat.K w (fun _ => True) b cs.toList) :
    Calls Try.prog 8 #[.slice A bs.length c, .agg cs] w fun e w' => e = .returned (.bool true) ∧ Below w.heap.size w w' := by
  obtain ⟨A', c', ecs, hr⟩ := hb
  obtain rfl : cs = #[.bool b.packed, .bool b.mark, .int .i64 b.prod, .int .i64 b.epoch, .int .i64 b.seq, .slice A' b.recs.length c'] := by
    cases cs; simpa using ecs
  clear ecs
  by_cases hs : (1048576 : Int) < wtBs bs
  · go_enter Try.func8, Try.ntmps8
    go_wp2_with fail
    generalize hW : World.alloc _ _ = W
    obtain ⟨hA, b1, hsW⟩ := alloc1 hW
    clear hW
    refine (szBatchS_any bs A c _ _ W (h.below b1) (by omega) (by omega)).mono ?_
    rintro e w1 ⟨rfl, hb1⟩
    rw [szOf_neg hs]
    go_wp2
    go_ret
    exact ⟨rfl, bthen b1 hb1⟩
  · by_cases hs2 : (1048576 : Int) - wtBs bs < wtB b
    · go_enter Try.func8, Try.ntmps8
      go_wp2_with fail
      generalize hW : World.alloc _ _ = W
      obtain ⟨hA, b1, hsW⟩ := alloc1 hW
      clear hW
      refine (szBatchS_any bs A c _ _ W (h.below b1) (by omega) (by omega)).mono ?_
      rintro e w1 ⟨rfl, hb1⟩
      rw [szOf_pos (by omega)]
      obtain ⟨z0, z1, z2, z3, z4, z5, zf⟩ := six (blk_below hA hb1)
      have hr1 := hr.below (bthen b1 hb1)
      go_wp2_with fail
      refine (szBatch_any b A' c' _ _ w1 hr1 (by omega) (by omega)).mono ?_
      rintro e w2 ⟨rfl, hb2⟩
      rw [szOf_neg hs2]
      go_wp2
      go_ret
      exact ⟨rfl, bthen b1 (bthen hb1 hb2)⟩
    · obtain ⟨hn, hsm⟩ := small_of_wtBs (bs := bs) (by omega)
      have hbsm : b.small := Bat.small_of (by omega)
      have hle : (wtBs bs : Int) ≤ 1048576 := by omega
      have hle2 : (wtBs bs : Int) + wtB b ≤ 1048576 := by omega
      have hleb : (wtB b : Int) ≤ 1048576 := by omega
      have HSM := Lib.hid hsm
      have HBS := Lib.hid hbsm
      have hEB := endB_le bs 1
      have hEG := endB_mono bs 1 (Nat.zero_le bs.length)
      have hE0 : endB bs 1 0 = 1 := rfl
      rw [hE0] at hEG
      obtain ⟨ek, hek⟩ : ∃ ek, ek = endB bs 1 bs.length := ⟨_, rfl⟩
      rw [← hek] at hEB hEG
      have HEK := Lib.hid hek
      have hRB := endR_le b.recs ek
      have hRG := endR_ge b.recs ek b.recs.length
      have hRW : (wtB b : Int) = (wtRs b.recs : Int) := rfl
      obtain ⟨er, her⟩ : ∃ er, er = endR b.recs ek b.recs.length := ⟨_, rfl⟩
      rw [← her] at hRB hRG
      have HER := Lib.hid her
      have hwt := logAppend_wt bs b
      obtain ⟨ts, hts⟩ : ∃ ts, ts = logAppend bs b := ⟨_, rfl⟩
      rw [← hts] at hwt
      have HTS := Lib.hid hts
      obtain ⟨q, hq⟩ : ∃ q, q = appB bs b := ⟨_, rfl⟩
      have HQ := Lib.hid hq
      have hXB := endB_le ts 1
      have hXG := endB_mono ts 1 (Nat.zero_le ts.length)
      rw [show endB ts 1 0 = 1 from rfl] at hXG
      obtain ⟨ex, hex⟩ : ∃ ex, ex = endB ts 1 ts.length := ⟨_, rfl⟩
      rw [← hex] at hXB hXG
      have HEX := Lib.hid hex
      have hek2 : ek ≤ 10000000 := by omega
      have her2 : er ≤ 20000000 := by omega
      have hex2 : ex ≤ 20000 := by omega
      clear hsm hbsm hE0 hek her hts hq hex hRW hwt hEB hRB hXB
      go_enter Try.func8, Try.ntmps8
      go_wp2_with fail
      generalize hW : World.alloc _ _ = W
      obtain ⟨hA, b1, hsW⟩ := alloc1 hW
      clear hW
      refine (szBatchS_any bs A c _ _ W (h.below b1) (by omega) (by omega)).mono ?_
      rintro e w1 ⟨rfl, hb1⟩
      rw [szOf_pos (by omega)]
      have hA1 := blk_below hA hb1
      have b11 := bthen b1 hb1
      obtain ⟨z0, z1, z2, z3, z4, z5, zf⟩ := six hA1
      go_wp2_with fail
      refine (szBatch_any b A' c' _ _ w1 (hr.below b11) (by omega) (by omega)).mono ?_
      rintro e w2 ⟨rfl, hb2⟩
      rw [szOf_pos (by omega)]
      have hA2 := blk_below hA1 hb2
      have b2 := bthen b11 hb2
      clear z0 z1 z2 z3 z4 z5 zf hs hs2
      obtain ⟨z0, z1, z2, z3, z4, z5, zf⟩ := six hA2
      have bD : Below w2.heap.size w2 w2.drew := ⟨rfl, rfl, rfl, Nat.le_refl _, fun _ _ => rfl⟩
      have HAD := Lib.hid (blk_below hA2 bD)
      have hTS : ∀ U, Below w2.heap.size w2 U → Calls Try.prog 27 #[.slice A bs.length c] U fun e w' => ∃ A' c', e = .returned (.slice A' bs.length c') ∧ Bats w' (fun _ => True) A' c' bs ∧ Below U.heap.size U w' :=
        fun U hU => (toBatchS_any bs A c _ U (h.below (bthen b2 hU)) hn HSM.out).mono (fun e w' ⟨A', c', h1, h2, h3⟩ => ⟨A', c', h1, h2.toK.mono (fun _ _ => trivial), h3⟩)
      have hTB : ∀ U, Below w2.heap.size w2 U → Calls Try.prog 35 #[.agg #[.bool b.packed, .bool b.mark, .int .i64 b.prod, .int .i64 b.epoch, .int .i64 b.seq, .slice A' b.recs.length c']] U fun e w' => ∃ B d, e = .returned (.agg #[.bool b.packed, .bool b.mark, .int .i64 b.prod, .int .i64 b.epoch, .int .i64 b.seq, .slice B b.recs.length d]) ∧ Recs w' (fun _ => True) B d b.recs ∧ Below U.heap.size U w' :=
        fun U hU => (toBatch_any b A' c' _ U (hr.below (bthen b2 hU)) HBS.out).mono (fun e w' ⟨B, d, h1, ⟨B', d', h4, h2⟩, h3⟩ => by
          simp at h4
          obtain ⟨rfl, rfl⟩ := h4
          exact ⟨_, _, h1, h2.toK.mono (fun _ _ => trivial), h3⟩)
      go_wp2_with fail
      go_region_with (first
        | (go_at_call 27; go_loud (first | (refine (hTS _ (bthen bD hbT)).mono ?_; rintro e wS ⟨AS, cS, rfl, hXS, hbS⟩; have hXT2 := hXT.below hbS; have hXS2 := hXS; have hbb := bthen (bthen bD hbT) hbS) | (refine (hTS _ bD).mono ?_; rintro e wS ⟨AS, cS, rfl, hXS, hbS⟩; obtain ⟨r0, r1, r2, r3, r4, r5, rf⟩ := six (blk_below HAD.out hbS)) | fail))
        | (go_at_call 35; go_loud (first | (refine (hTB _ (bthen bD hbS)).mono ?_; rintro e wT ⟨AT, cT, rfl, hXT, hbT⟩; have hXS2 := hXS.below hbT; have hXT2 := hXT; have hbb := bthen (bthen bD hbS) hbT) | (refine (hTB _ bD).mono ?_; rintro e wT ⟨AT, cT, rfl, hXT, hbT⟩) | fail))
        | (go_at_call 20; go_loud (refine (LogAppendS_any bs b AS AT cS cT _ _ _ hXS2 hXT2).mono ?_; rintro e w7 ⟨v7, D7, rfl, hX7, hb7⟩; obtain ⟨A7, c7, rfl, hJ7⟩ := hX7.row)))
      all_goals
        rw [← HTS.out] at hJ7 ⊢
        rw [← HQ.out]
        have b7 := bthen b2 (bthen hbb hb7)
        have hA7 := (bthen hbb hb7).block w.heap.size (by have := hb2.size; have := hb1.size; omega) |>.trans hA2
        have k7 := hJ7.toK.bound bnd_bat
        have hz7 : w.heap.size < w7.heap.size := (Array.getElem?_eq_some_iff.1 hA7).1
        clear hX7 hJ7 hXS hXT hXS2 hXT2 hbS hbT hbb hb7 hTS hTB bD z0 z1 z2 z3 z4 z5 zf
        try clear r0 r1 r2 r3 r4 r5 rf
        go_wp2_with fail
        refine (toBatchS_any bs A c _ w7 (h.below b7) hn HSM.out).mono ?_
        rintro e w8 ⟨A8, c8, rfl, hX8, hb8⟩
        have hX8 := hX8.bound
        have b8 := bthen b7 hb8
        have hA8 := blk_below hA7 hb8
        obtain ⟨z0, z1, z2, z3, z4, z5, zf⟩ := six hA8
        go_wp2_with fail
        refine (toBatch_any b A' c' _ w8 (hr.below b8) HBS.out).mono ?_
        rintro e w9 ⟨A9, c9, rfl, ⟨B9, d9, e9, hX9⟩, hb9⟩
        simp at e9
        obtain ⟨rfl, rfl⟩ := e9
        have hX9 := hX9.bound
        have b9 := bthen b8 hb9
        have hA9 := blk_below hA8 hb9
        have hX89 := hX8.below hb9
        clear z0 z1 z2 z3 z4 z5 zf
        go_wp2_with fail
        generalize hW9 : World.alloc _ _ = W9
        obtain ⟨hG9, c9w, hz9⟩ := alloc1 hW9
        clear hW9
        refine (LogAppend_any bs b A8 A9 c8 c9 _ _ W9 (hX89.below c9w).toK (hX9.below c9w).toK).mono ?_
        rintro e w10 ⟨v10, D10, rfl, hX10, hb10⟩
        rw [← HTS.out] at hX10
        rw [← HQ.out]
        obtain ⟨A10, c10, rfl, hJ10⟩ := hX10.row
        have b10 := bthen b9 (bthen c9w hb10)
        have k710 := k7.below (bthen hb8 (bthen hb9 (bthen c9w hb10)))
        clear hX10
        go_wp2_with fail
        refine (eqBatchS_any ts ts A10 A7 c10 c7 _ _ w10 hJ10.toK k710).mono ?_
        rintro e w11 ⟨rfl, hb11⟩
        rw [decide_eq_true rfl]
        have b11' := bthen b10 hb11
        have hT11 := bthen (bthen c9w hb10) hb11
        go_wp2_with fail
        refine (toBatchS_any bs A c _ w11 (h.below b11') hn HSM.out).mono ?_
        rintro e w12 ⟨A12, c12, rfl, hX12, hb12⟩
        have hT12 := bthen hT11 hb12
        have b12 := bthen b11' hb12
        have hX812 := hX89.below hT12
        go_wp2_with fail
        refine (eqBatchS_any bs bs A8 A12 c8 c12 _ _ w12 hX812.toK hX12.toK).mono ?_
        rintro e w13 ⟨rfl, hb13⟩
        rw [decide_eq_true rfl]
        have b13 := bthen b12 hb13
        have hT13 := bthen hT12 hb13
        have hA13 := blk_below hA9 hT13
        have hG13 := blk_below (blk_below hG9 hb10) (bthen (bthen hb11 hb12) hb13)
        have hX813 := hX812.below hb13
        have hX913 := hX9.below hT13
        have hJ13 := hJ10.below (bthen (bthen hb11 hb12) hb13)
        have k13 := k710.below (bthen (bthen hb11 hb12) hb13)
        have hs8 := hb8.size
        have hs9 := hb9.size
        have hs13 := hT13.size
        obtain ⟨z0, z1, z2, z3, z4, z5, zf⟩ := six hA13
        obtain ⟨y0, y1, y2, y3, y4, y5, yf⟩ := six hG13
        have bD : Below w13.heap.size w13 w13.drew := ⟨rfl, rfl, rfl, Nat.le_refl _, fun _ _ => rfl⟩
        have HAD := Lib.hid (blk_below hA13 bD)
        have HGD := Lib.hid (blk_below hG13 bD)
        have HGW := Lib.hid (show w.heap.size < w13.heap.size from (Array.getElem?_eq_some_iff.1 hA13).1)
        clear k710 k7 hX8 hX89 hX9 hX812 hX12 hJ10 hb8 hb9 hb10 hb11 hb12 hb13 b10 b11' b12 b8 b9 hT11 hT12 hA7 hA8 hA9 hA13 hG9 b7
        go_wp2_with fail
        go_region_with (first
          | (go_at_call 35; go_loud (refine (toBatch_any b A' c' _ w13.drew (hr.below (bthen b13 bD)) HBS.out).mono ?_; rintro e wT ⟨AT, cT, rfl, ⟨BT, dT, eT, hXT⟩, hbT⟩; simp at eT; obtain ⟨rfl, rfl⟩ := eT; obtain ⟨r0, r1, r2, r3, r4, r5, rf⟩ := six (blk_below HGD.out hbT)))
          | (go_at_call 36; go_loud (refine (eqBatch_any b b A9 AT c9 cT _ _ wT (hX913.below (bthen bD hbT)).toK hXT.toK).mono ?_; rintro e w14 ⟨rfl, hb14⟩; rw [decide_eq_true rfl])))
        all_goals
          have hT14 := bthen (bthen bD hbT) hb14
          have b14 := bthen b13 hT14
          have hX814 := hX813.below hT14
          have hX914 := hX913.below hT14
          have hJ14 := hJ13.below hT14
          have k14 := k13.below hT14
          have hA14 := blk_below HAD.out (bthen hbT hb14)
          have hG14 := blk_below HGD.out (bthen hbT hb14)
          have hs14 := hT14.size
          clear hXT hbT hb14 hT14 bD hX813 hX913 hJ13 k13 b13 z0 z1 z2 z3 z4 z5 zf y0 y1 y2 y3 y4 y5 yf HAD HGD hG13
          try clear r0 r1 r2 r3 r4 r5 rf
          go_wp2_with fail
          refine (markBatchS_any bs A8 c8 _ 1 w14 hX814 (by omega) (by rw [← HEK.out]; omega)).mono ?_
          rintro e w15 ⟨rfl, C15⟩
          rw [← HEK.out]
          have hX915 := hX914.keep (w' := w15) (C15.same (fun i _ h1 h2 => by have := h1.1; have := h2.2; omega)) C15.size
          have hJ15 := hJ14.keep (w' := w15) (C15.same (fun i _ h1 h2 => by have := h2.2; omega)) C15.size
          have k15 := k14.keep (w' := w15) (C15.same (fun i _ h1 h2 => by have := h1.2; have := h2.1; omega))
          have hA15 := C15.blk hA14 (fun e => by have := e.1; omega)
          have hG15 := C15.blk hG14 (fun e => by have := e.2; omega)
          have b15 := b14.trans (C15.below b14.size (fun i hi => by have := hi.1; omega))
          have hArg15 := (h.bound bnd_bat).below b14 |>.keep (w' := w15) (C15.same (fun i _ h1 h2 => by have := h1.2; have := h2.1; omega))
          have hRrg15 := (hr.bound bnd_rec).below b14 |>.keep (w' := w15) (C15.same (fun i _ h1 h2 => by have := h1.2; have := h2.1; omega))
          have hs15 := C15.size
          obtain ⟨y0, y1, y2, y3, y4, y5, yf⟩ := six hG15
          clear hX814 hX914 hJ14 k14 hA14 hG14 C15
          go_wp2_with fail
          refine (markBatch_any b A9 c9 _ ek w15 hX915 (by omega) (by rw [← HER.out]; omega)).mono ?_
          rintro e w16 ⟨rfl, C16⟩
          rw [← HER.out]
          have hJ16 := hJ15.keep (w' := w16) (C16.same (fun i _ h1 h2 => by have := h2.2; omega)) C16.size
          have k16 := k15.keep (w' := w16) (C16.same (fun i _ h1 h2 => by have := h1.2; have := h2.1; omega))
          have hA16 := C16.blk hA15 (fun e => by have := e.1; omega)
          have b16 := b15.trans (C16.below b15.size (fun i hi => by have := hi.1; omega))
          have hArg16 := hArg15.keep (w' := w16) (C16.same (fun i _ h1 h2 => by have := h1.2; have := h2.1; omega))
          have hRrg16 := hRrg15.keep (w' := w16) (C16.same (fun i _ h1 h2 => by have := h1.2; have := h2.1; omega))
          have hs16 := C16.size
          clear hX915 hJ15 k15 hA15 hG15 C16 hArg15 hRrg15 y0 y1 y2 y3 y4 y5 yf
          go_wp2_with fail
          refine (eqBatchS_any ts ts A10 A7 c10 c7 _ _ w16 hJ16.toK k16).mono ?_
          rintro e w17 ⟨rfl, hb17⟩
          rw [decide_eq_true rfl]
          have hJ17 := hJ16.below hb17
          go_wp2_with fail
          refine (markBatchS_up ts A10 c10 _ 1 w17 hJ17 (by omega) (by rw [← HEX.out]; omega)).mono ?_
          rintro e w18 ⟨rfl, hM18, C18⟩
          rw [← HEX.out]
          have b17 := bthen b16 hb17
          have b18 := b17.trans (C18.below b17.size (fun i hi => by omega))
          have hs17 := hb17.size
          have k18 := (k16.below hb17).keep (w' := w18) (C18.same (fun i _ h1 h2 => by have := h1.2; omega))
          have hA18 := C18.blk (blk_below hA16 hb17) (fun e => by omega)
          have hArg18 := (hArg16.below hb17).keep (w' := w18) (C18.same (fun i _ h1 h2 => by have := h1.2; omega))
          have hRrg18 := (hRrg16.below hb17).keep (w' := w18) (C18.same (fun i _ h1 h2 => by have := h1.2; omega))
          have hM18 := hM18.toK
          clear hJ16 hJ17 k16 hA16 hArg16 hRrg16 C18 hb17 b17 b16 b15 b14
          go_wp2_with fail
          refine (heldBatchS_any ts A10 c10 _ 1 w18 hM18 (by omega) (by rw [← HEX.out]; omega)).mono ?_
          rintro e w19 ⟨rfl, hb19⟩
          rw [← HEX.out]
          have hM19 := hM18.below hb19
          have k19 := k18.below hb19
          have hA19 := blk_below hA18 hb19
          have hArg19 := hArg18.below hb19
          have hRrg19 := hRrg18.below hb19
          have b19 := bthen b18 hb19
          clear hM18 k18 hA18 hArg18 hRrg18 hb19 b18
          obtain ⟨z0, z1, z2, z3, z4, z5, zf⟩ := six hA19
          have bD : Below w19.heap.size w19 w19.drew := ⟨rfl, rfl, rfl, Nat.le_refl _, fun _ _ => rfl⟩
          have HAD := Lib.hid (blk_below hA19 bD)
          have hTS : ∀ U, Below w19.heap.size w19 U → Calls Try.prog 27 #[.slice A bs.length c] U fun e w' => ∃ A' c', e = .returned (.slice A' bs.length c') ∧ Bats w' (fun _ => True) A' c' bs ∧ Below U.heap.size U w' :=
            fun U hU => (toBatchS_any bs A c _ U (hArg19.below hU) hn HSM.out).mono (fun e w' ⟨A', c', h1, h2, h3⟩ => ⟨A', c', h1, h2.toK.mono (fun _ _ => trivial), h3⟩)
          have hTB : ∀ U, Below w19.heap.size w19 U → Calls Try.prog 35 #[.agg #[.bool b.packed, .bool b.mark, .int .i64 b.prod, .int .i64 b.epoch, .int .i64 b.seq, .slice A' b.recs.length c']] U fun e w' => ∃ B d, e = .returned (.agg #[.bool b.packed, .bool b.mark, .int .i64 b.prod, .int .i64 b.epoch, .int .i64 b.seq, .slice B b.recs.length d]) ∧ Recs w' (fun _ => True) B d b.recs ∧ Below U.heap.size U w' :=
            fun U hU => (toBatch_any b A' c' _ U (hRrg19.below hU) HBS.out).mono (fun e w' ⟨B, d, h1, ⟨B', d', h4, h2⟩, h3⟩ => by
              simp at h4
              obtain ⟨rfl, rfl⟩ := h4
              exact ⟨_, _, h1, h2.toK.mono (fun _ _ => trivial), h3⟩)
          go_wp2_with fail
          go_region_with (first
            | (go_at_call 27; go_loud (first | (refine (hTS _ (bthen bD hbT)).mono ?_; rintro e wS ⟨AS, cS, rfl, hXS, hbS⟩; have hXT2 := hXT.below hbS; have hXS2 := hXS; have hbb := bthen (bthen bD hbT) hbS) | (refine (hTS _ bD).mono ?_; rintro e wS ⟨AS, cS, rfl, hXS, hbS⟩; obtain ⟨r0, r1, r2, r3, r4, r5, rf⟩ := six (blk_below HAD.out hbS)) | fail))
            | (go_at_call 35; go_loud (first | (refine (hTB _ (bthen bD hbS)).mono ?_; rintro e wT ⟨AT, cT, rfl, hXT, hbT⟩; have hXS2 := hXS.below hbT; have hXT2 := hXT; have hbb := bthen (bthen bD hbS) hbT) | (refine (hTB _ bD).mono ?_; rintro e wT ⟨AT, cT, rfl, hXT, hbT⟩) | fail))
            | (go_at_call 18; go_loud (refine (LogAppend_any bs b AS AT cS cT _ _ _ hXS2 hXT2).mono ?_; rintro e w20 ⟨v20, D20, rfl, hX20, hb20⟩; obtain ⟨A20, c20, rfl, hJ20⟩ := hX20.row)))
          all_goals
            rw [← HTS.out] at hJ20 ⊢
            rw [← HQ.out]
            have hT20 := bthen hbb hb20
            have k20 := k19.below hT20
            have hM20 := hM19.below hT20
            have b20 := bthen b19 hT20
            clear hX20 hXS hXT hXS2 hXT2 hbS hbT hbb hb20 hTS hTB bD z0 z1 z2 z3 z4 z5 zf k19 hM19 hT20 b19 hArg19 hRrg19
            try clear r0 r1 r2 r3 r4 r5 rf
            go_wp2_with fail
            refine (eqBatchS_any ts ts A20 A7 c20 c7 _ _ w20 hJ20.toK k20).mono ?_
            rintro e w21 ⟨rfl, hb21⟩
            rw [decide_eq_true rfl]
            have hM21 := hM20.below hb21
            have b21 := bthen b20 hb21
            clear hJ20 k20 hM20 hb21 b20
            go_wp2_with fail
            refine (heldBatchS_any ts A10 c10 _ 1 w21 hM21 (by omega) (by rw [← HEX.out]; omega)).mono ?_
            rintro e w22 ⟨rfl, hb22⟩
            rw [← HEX.out]
            have b22 := Lib.hid (bthen b21 hb22)
            clear hM21 hb22 b21
            go_wp2
            go_ret
            exact ⟨rfl, b22.out⟩
end Go.Proofs.Ytlgcajjoimcdhaa
