/- The exact law of seeking by an index. -/
import Derived.Test.YtomcjjehfocbmaaIs
import Derived.Test.YtomcjjehfocbmaaLXc
import Derived.Test.YtomcjjehfocbmaaEe
import Derived.Test.YtomcjjehfocbmaaMe
import Derived.Test.YtomcjjehfocbmaaI2
namespace Go.Proofs.Ytomcjjehfocbmaa
set_option linter.unusedVariables false
set_option linter.unusedSimpArgs false
open Go.RowKit

theorem bfWt2 {rs : List Rec} (h : ∀ r ∈ rs, r.key.length ≤ 12 ∧ r.val.length ≤ 12) : wtRs rs ≤ 25 * rs.length := by
  unfold wtRs
  induction rs with
  | nil => simp
  | cons r t ih =>
    have h1 := ih (fun x hx => h x (by simp [hx]))
    have h2 := h r (by simp)
    rw [List.map_cons, List.sum_cons, List.length_cons]
    have h3 : wtR r ≤ 24 := by unfold wtR; omega
    omega
theorem seekGo_at {l : List Int} {o : Int} {f p n : Nat} {x : Bat × Nat} (h : seekGo l o f p n = some x) : batB x.1 = true := by
  induction f generalizing p n with
  | zero => cases h
  | succ f ih =>
    cases hr : rdBat l p with
    | none => rw [seekGo_none hr] at h; cases h
    | some b =>
      by_cases ho : o ≤ b.last
      · rw [seekGo_here hr ho] at h
        injection h with h
        subst h
        exact (rdBat_at hr).1
      · rw [seekGo_on hr ho] at h
        exact ih h
theorem skB_end (l : List Int) (es : List Ent) (o : Int) : endR (skB (seekQ l es o)).recs 1 (skB (seekQ l es o)).recs.length ≤ 1000 := by
  have h1 := endR_le (skB (seekQ l es o)).recs 1
  have h2 : (∀ r ∈ (skB (seekQ l es o)).recs, r.key.length ≤ 12 ∧ r.val.length ≤ 12) ∧ (skB (seekQ l es o)).recs.length ≤ 6 := by
    cases hq : seekQ l es o with
    | none => exact ⟨fun r hr => by simp [skB, Bat.zero] at hr, by simp [skB, Bat.zero]⟩
    | some x =>
      have hv : batB x.1 = true := by
        unfold seekQ at hq
        split at hq
        · exact seekGo_at hq
        · cases hq
      have hp := batB_parts hv
      exact ⟨fun r hr => recB_small (hp.2.2 r hr), hp.2.1.2⟩
  have h3 := bfWt2 h2.1
  omega
set_option maxRecDepth 100000 in
set_option maxHeartbeats 8000000 in
theorem exactIndexSeek_walk (l : List Int) (A : Option Addr) (c : Nat) (es : List Ent) (Z : Option Addr) (z : Nat) (o : Int) (w : World) (h : Ints w (fun _ => True) A c l) (h' : Ents w (fun _ => True) Z z es) (_ho : (Lit.int .i64 o).wf = true) :
    Calls Try.prog 3 #[.slice A l.length c, .slice Z es.length z, .int .i64 o] w fun e w' => e = .returned (.bool true) ∧ Below w.heap.size w w' := by
  clear _ho
  have hl := h.1
  have hc := h.2.1
  have hle := h'.1
  have hce := h'.2.1
  by_cases hs : l.length ≤ 1048576
  · by_cases hs2 : (1048576 : Int) < es.length
    · go_enter Try.func3, Try.ntmps3
      go_wp2_with (go_at_call 11; refine (szEntryS_any es.length z Z _ _ (by omega) (by omega) (by omega)).mono ?_; rintro e w1 ⟨rfl, rfl⟩; rw [szOf_neg hs2])
      go_ret
      exact ⟨rfl, Below.refl _ _⟩
    · have hn : es.length ≤ 1048576 := by omega
      have HN := Lib.hid (show l.length ≤ 4194304 by omega)
      have hen0 := skB_end l es o
      obtain ⟨q, hq⟩ : ∃ q, q = seekQ l es o := ⟨_, rfl⟩
      have HQ := Lib.hid hq
      rw [← hq] at hen0
      obtain ⟨b, hb⟩ : ∃ b, b = skB q := ⟨_, rfl⟩
      have HB := Lib.hid hb
      rw [← hb] at hen0
      obtain ⟨nq, hnq⟩ : ∃ n, n = skN q := ⟨_, rfl⟩
      have HNQ := Lib.hid hnq
      obtain ⟨sq, hsq⟩ : ∃ s, s = q.isSome := ⟨_, rfl⟩
      have HSQ := Lib.hid hsq
      have heg := endR_ge b.recs 1 b.recs.length
      obtain ⟨er, her⟩ : ∃ er, er = endR b.recs 1 b.recs.length := ⟨_, rfl⟩
      rw [← her] at hen0 heg
      have HER := Lib.hid her
      have d0 : decide (er < 0) = false := by simp; omega
      clear hq hb hnq hsq her hs2
      go_enter Try.func3, Try.ntmps3
      go_wp2_with fail
      refine (szEntryS_any es.length z Z _ _ (by omega) (by omega) (by omega)).mono ?_
      rintro e w' ⟨rfl, rfl⟩
      rw [szOf_pos (by omega)]
      go_wp2_with fail
      refine (toIntS_any l A c _ _ h (by omega)).mono ?_
      rintro e w1 ⟨A1, c1, rfl, hX1, b1⟩
      go_wp2_with fail
      refine (toEntryS_any es Z z _ _ (h'.below b1) hn).mono ?_
      rintro e w1' ⟨Z1, z1, rfl, hY1, hb1'⟩
      have hX1 := hX1.below hb1'
      have b1 := bthen b1 hb1'
      clear hb1'
      go_wp2_with fail
      have HC := IndexSeekS_any l A1 c1 _ es Z1 z1 _ o w1' hX1.toK hY1.toK HN.out
      rw [← HQ.out] at HC
      refine HC.mono ?_
      rintro e w2 ⟨A2, c2, rfl, hX2, hb2⟩
      rw [← HB.out] at hX2 ⊢
      rw [← HNQ.out, ← HSQ.out]
      have hR2 := hX2.bound.toK
      have b2 := bthen b1 hb2
      clear HC hX2 hX1 hY1
      go_wp2_with fail
      generalize hW2 : World.alloc _ _ = W2
      obtain ⟨hw2, bw2, hz2⟩ := alloc1 hW2
      clear hW2
      have hlt2 : w2.heap.size < W2.heap.size := by omega
      have b2 := bthen b2 bw2
      have hR2 := hR2.below bw2
      refine (toIntS_any l A c _ _ (h.below b2) (by omega)).mono ?_
      rintro e w3 ⟨A3, c3, rfl, hX3, hb3⟩
      have hX3 := hX3.bound
      have b3 := bthen b2 hb3
      go_wp2_with fail
      refine (toEntryS_any es Z z _ _ (h'.below b3) hn).mono ?_
      rintro e w3' ⟨Z3, z3, rfl, hY3, hb3'⟩
      have hY3 := hY3.bound
      have hX3 := hX3.below hb3'
      have s3a := hb3.size
      have hb3 := bthen hb3 hb3'
      have b3 := bthen b3 hb3'
      have hs33 := hb3'.size
      clear hb3'
      go_wp2_with fail
      have HC := IndexSeek_any l A3 c3 _ es Z3 z3 _ o w3' hX3.toK hY3.toK HN.out
      rw [← HQ.out] at HC
      refine HC.mono ?_
      rintro e w4 ⟨A4, c4, rfl, hX4, hb4⟩
      rw [← HB.out] at hX4 ⊢
      rw [← HNQ.out, ← HSQ.out]
      have hX4 := hX4.bound
      have hw4 := blk_below hw2 (bthen hb3 hb4)
      have hlt4 : w2.heap.size < w4.heap.size := (Array.getElem?_eq_some_iff.1 hw4).1
      have hne4 : w2.heap.size ≠ w4.heap.size := by omega
      have b4 := bthen b3 hb4
      have s2 := b2.size
      have s3 := hb3.size
      have s4 := hb4.size
      clear HC
      obtain ⟨y0, y1, y2, y3, y4, y5, yf⟩ := six hw4
      go_wp2_with fail
      generalize hW4 : World.alloc _ _ = W4
      obtain ⟨hg4, bw4, hz4⟩ := alloc1 hW4
      clear hW4
      have X5 := hX4.below bw4
      have R5 := hR2.below (bthen (bthen hb3 hb4) bw4)
      refine (eqBatch_any b b A4 A2 c4 c2 _ _ W4 X5.toK R5).mono ?_
      rintro e w5 ⟨rfl, hb5⟩
      rw [decide_eq_true rfl]
      have b5 := bthen (bthen b4 bw4) hb5
      clear y0 y1 y2 y3 y4 y5 yf
      go_wp2_with fail
      refine (toIntS_any l A c _ _ (h.below b5) (by omega)).mono ?_
      rintro e w6 ⟨A6, c6, rfl, hX6, hb6⟩
      have b6 := bthen b5 hb6
      have hX36 := hX3.below (bthen (bthen (bthen hb4 bw4) hb5) hb6)
      go_wp2_with fail
      refine (eqIntS_any l l A3 A6 c3 c6 _ _ _ hX36.toK hX6.toK).mono ?_
      rintro e w7 ⟨rfl, hb7⟩
      rw [decide_eq_true rfl]
      have b7 := bthen b6 hb7
      have hX37 := hX36.below hb7
      have bY7 := bthen (bthen (bthen (bthen hb4 bw4) hb5) hb6) hb7
      have hY37 := hY3.below bY7
      go_wp2_with fail
      refine (toEntryS_any es Z z _ _ (h'.below b7) hn).mono ?_
      rintro e w7a ⟨Z7, z7, rfl, hY7, hb7a⟩
      have b7a := bthen b7 hb7a
      have hY37 := hY37.below hb7a
      have hX37 := hX37.below hb7a
      go_wp2_with fail
      refine (eqEntryS_any es es Z3 Z7 z3 z7 _ _ _ hY37.toK hY7.toK).mono ?_
      rintro e w7b ⟨rfl, hb7b⟩
      rw [decide_eq_true rfl]
      have b7b := bthen b7a hb7b
      have hY37 := hY37.below hb7b
      have hX37 := hX37.below hb7b
      go_wp2_with fail
      refine (markIntS_any l A3 c3 _ 1 _ hX37 (by omega) (by omega) (by omega)).mono ?_
      rintro e w8 ⟨rfl, _, C8⟩
      have b57 := bthen (bthen (bthen (bthen hb5 hb6) hb7) hb7a) hb7b
      have s5b := b57.size
      have hg8 := C8.blk (blk_below hg4 b57) (fun e => by have := e.2; omega)
      have hw8 := C8.blk (blk_below (blk_below hw4 bw4) b57) (fun e => by have := e.1; omega)
      have X8 := (X5.below b57).keep (w' := w8) (C8.same (fun i _ h1 h2 => by have := h1.1; have := h2.2; omega)) C8.size
      have R8 := (R5.below b57).keep (w' := w8) (C8.same (fun i _ h1 h2 => by have := h1.2; have := h2.1; omega))
      have Y8 := hY37.keep (w' := w8) (C8.same (fun i _ h1 h2 => by have := h1.1; have := h2.2; omega)) C8.size
      have b8 := b7b.trans (C8.below b7b.size (fun i hi => by have := hi.1; omega))
      have hA8 := ((h.bound (bnd_int .i64)).below b7b).keep (w' := w8) (C8.same (fun i _ h1 h2 => by have := h1.2; have := h2.1; omega))
      have hZ8 := ((h'.bound bnd_ent).below b7b).keep (w' := w8) (C8.same (fun i _ h1 h2 => by have := h1.2; have := h2.1; omega))
      have s8 := (bthen bw4 b57).size
      have s8' := C8.size
      clear hX36 hX37 hX6 hX3 C8 X5 R5 hX4 hR2 hY37 hY7 hY3
      go_wp2_with fail
      refine (markEntryS_any es Z3 z3 _ _ _ Y8 (by omega) (by omega) hn).mono ?_
      rintro e w8' ⟨rfl, _, C8⟩
      have hg8 := C8.blk hg8 (fun e => by have := e.2; omega)
      have hw8 := C8.blk hw8 (fun e => by have := e.1; omega)
      have X8 := X8.keep (w' := w8') (C8.same (fun i _ h1 h2 => by have := h1.1; have := h2.2; omega)) C8.size
      have R8 := R8.keep (w' := w8') (C8.same (fun i _ h1 h2 => by have := h1.2; have := h2.1; omega))
      have b8 := b8.trans (C8.below b8.size (fun i hi => by have := hi.1; omega))
      have hA8 := hA8.keep (w' := w8') (C8.same (fun i _ h1 h2 => by have := h1.2; have := h2.1; omega))
      have hZ8 := hZ8.keep (w' := w8') (C8.same (fun i _ h1 h2 => by have := h1.2; have := h2.1; omega))
      have s8'' := C8.size
      clear C8 Y8
      obtain ⟨x0, x1, x2, x3, x4, x5, xf⟩ := six hg8
      obtain ⟨u0, u1, u2, u3, u4, u5, uf⟩ := six hw8
      go_wp2_with fail
      refine (eqBatch_any b b A4 A2 c4 c2 _ _ w8' X8.toK R8).mono ?_
      rintro e w9 ⟨rfl, hb9⟩
      rw [decide_eq_true rfl]
      have b9 := bthen b8 hb9
      have X9 := X8.below hb9
      have R9 := R8.below hb9
      have hA9 := hA8.below hb9
      have hZ9 := hZ8.below hb9
      have hg9 := blk_below hg8 hb9
      have hw9 := blk_below hw8 hb9
      clear x0 x1 x2 x3 x4 x5 xf u0 u1 u2 u3 u4 u5 uf X8 R8 hA8 hZ8 hg8 hw8
      obtain ⟨x0, x1, x2, x3, x4, x5, xf⟩ := six hg9
      go_wp2_with fail
      refine (markBatch_st b A4 c4 _ 1 w9 X9 (by omega) (by rw [← HER.out]; omega)).mono ?_
      rintro e w10 ⟨rfl, m10, C10⟩
      rw [← HER.out]
      have hg10 := C10.blk hg9 (fun e => by have := e.2; omega)
      have hw10 := C10.blk hw9 (fun e => by have := e.1; omega)
      have R10 := R9.keep (w' := w10) (C10.same (fun i _ h1 h2 => by have := h1.2; have := h2.1; omega))
      have hA10 := hA9.keep (w' := w10) (C10.same (fun i _ h1 h2 => by have := h1.2; have := h2.1; omega))
      have hZ10 := hZ9.keep (w' := w10) (C10.same (fun i _ h1 h2 => by have := h1.2; have := h2.1; omega))
      have b10 := b9.trans (C10.below b9.size (fun i hi => by have := hi.1; omega))
      have m10 := m10.toK
      clear x0 x1 x2 x3 x4 x5 xf C10 X9 R9 hA9 hZ9 hg9 hw9
      obtain ⟨x0, x1, x2, x3, x4, x5, xf⟩ := six hg10
      go_wp2_with fail
      refine (heldBatch_st b A4 c4 _ 1 w10 m10 (by omega) (by rw [← HER.out]; omega)).mono ?_
      rintro e w11 ⟨rfl, hb11⟩
      rw [← HER.out]
      have b11 := bthen b10 hb11
      go_wp2_with fail
      refine (toIntS_any l A c _ _ (hA10.below hb11) (by omega)).mono ?_
      rintro e w12 ⟨A12, c12, rfl, hX12, hb12⟩
      have b12 := bthen b11 hb12
      go_wp2_with fail
      refine (toEntryS_any es Z z _ _ (hZ10.below (bthen hb11 hb12)) hn).mono ?_
      rintro e w12' ⟨Z12, z12, rfl, hY12, hb12'⟩
      have hX12 := hX12.below hb12'
      have b12 := bthen b12 hb12'
      have hb12 := bthen hb12 hb12'
      clear hb12'
      go_wp2_with fail
      have HC := IndexSeek_any l A12 c12 _ es Z12 z12 _ o w12' hX12.toK hY12.toK HN.out
      rw [← HQ.out] at HC
      refine HC.mono ?_
      rintro e w13 ⟨A13, c13, rfl, hX13, hb13⟩
      rw [← HB.out] at hX13 ⊢
      rw [← HNQ.out, ← HSQ.out]
      have bt := bthen (bthen hb11 hb12) hb13
      have b13 := bthen b12 hb13
      have R13 := R10.below bt
      have m13 := m10.below bt
      have hw13 := blk_below hw10 bt
      have hg13 := blk_below hg10 bt
      have hlt13 : w2.heap.size < w13.heap.size := (Array.getElem?_eq_some_iff.1 hw13).1
      have hlt13' : w4.heap.size < w13.heap.size := (Array.getElem?_eq_some_iff.1 hg13).1
      have hne13 : w2.heap.size ≠ w13.heap.size := by omega
      have hne13' : w4.heap.size ≠ w13.heap.size := by omega
      have RX13 := hX13.toK
      clear HC hX13 hX12 hY12 hA10 hZ10 R10 m10 hg10 hw10 x0 x1 x2 x3 x4 x5 xf b12 b11 b10 b9 b8 bt hb11 hb12 hb13 hb9 hw4 hw2 hg4 bw2 bw4 b57
      obtain ⟨p0, p1, p2, p3, p4, p5, pf⟩ := six hw13
      go_wp2_with fail
      generalize hW13 : World.alloc _ _ = W13
      obtain ⟨hh13, bw13, hz13⟩ := alloc1 hW13
      clear hW13
      have b13 := bthen b13 bw13
      refine (eqBatch_any b b A13 A2 c13 c2 _ _ W13 (RX13.below bw13) (R13.below bw13)).mono ?_
      rintro e w14 ⟨rfl, hb14⟩
      rw [decide_eq_true rfl]
      have bu := bthen bw13 hb14
      have hg14 := blk_below hg13 bu
      have m14 := m13.below bu
      have b14 := bthen b13 hb14
      clear p0 p1 p2 p3 p4 p5 pf RX13 R13 hg13 hw13 m13 hh13
      obtain ⟨P0, P1, P2, P3, P4, P5, Pf⟩ := six hg14
      go_wp2_with fail
      refine (heldBatch_st b A4 c4 _ 1 w14 m14 (by omega) (by rw [← HER.out]; omega)).mono ?_
      rintro e w15 ⟨rfl, hb15⟩
      rw [← HER.out]
      have b15 := Lib.hid (bthen b14 hb15)
      clear hb15 b14 bu bw13 hb14 b13 m14 hg14
      go_wp2
      go_ret
      exact ⟨rfl, b15.out⟩
  · go_enter Try.func3, Try.ntmps3
    go_wp2
    go_ret
    exact ⟨rfl, Below.refl _ _⟩
end Go.Proofs.Ytomcjjehfocbmaa
