/- The exact law of reading a record. -/
import Derived.Test.YtfflhenldegmmaaW12
import Derived.Test.YtfflhenldegmmaaMr
import Derived.Test.YtfflhenldegmmaaT1
import Derived.Test.YtfflhenldegmmaaE1
namespace Go.Proofs.Ytfflhenldegmmaa
set_option linter.unusedVariables false
set_option linter.unusedSimpArgs false
open Go.RowKit

theorem recFrom_small {l : List Int} {i o t : Int} : (recQ (recFromOf l i o t)).key.length ≤ 12 ∧ (recQ (recFromOf l i o t)).val.length ≤ 12 := by
  cases hq : recFromOf l i o t with
  | none => exact ⟨by simp [recQ, recOr, Rec.zero], by simp [recQ, recOr, Rec.zero]⟩
  | some x =>
    obtain ⟨r, e⟩ := x
    unfold recFromOf rdAt at hq
    split at hq
    · split at hq
      · cases hq
      · obtain ⟨m, a, _, _, hr⟩ := rdRec_read5 hq
        exact recB_small hr
    · cases hq

set_option maxRecDepth 100000 in
set_option maxHeartbeats 8000000 in
theorem exactRecordFrom_walk (l : List Int) (A : Option Addr) (c : Nat) (i o t : Int) (w : World) (h : Ints w (fun _ => True) A c l) (_hi : (Lit.int .i64 i).wf = true) (_ho : (Lit.int .i64 o).wf = true) (_ht : (Lit.int .i64 t).wf = true) :
    Calls Try.prog 4 #[.slice A l.length c, .int .i64 i, .int .i64 o, .int .i64 t] w fun e w' => e = .returned (.bool true) ∧ Below w.heap.size w w' := by
  have hl := h.1
  have hc := h.2.1
  by_cases hs : l.length ≤ 1048576
  · have HN := Lib.hid (show l.length ≤ 4194304 by omega)
    go_enter Try.func4, Try.ntmps4
    go_wp2_with fail
    refine (toIntS_any l A c _ _ h (by omega)).mono ?_
    rintro e w2 ⟨A2, c2, rfl, hX2, b2⟩
    go_wp2_with fail
    refine (RecordFromS_any l A2 c2 _ i o t _ hX2.toK HN.out).mono ?_
    rintro e w3 ⟨vk3, vv3, rfl, hC3⟩
    obtain ⟨q, hq⟩ : ∃ q, q = recFromOf l i o t := ⟨_, rfl⟩
    have HQ := Lib.hid hq
    have hsm0 := recFrom_small (l := l) (i := i) (o := o) (t := t)
    rw [← hq] at hC3 hsm0 ⊢
    clear hq
    obtain ⟨r, hr⟩ : ∃ r, r = recQ q := ⟨_, rfl⟩
    rw [← hr] at hC3 hsm0 ⊢
    have HR := Lib.hid hr
    clear hr
    obtain ⟨nq, hnq⟩ : ∃ n, n = nextOf q := ⟨_, rfl⟩
    rw [← hnq]
    have HNQ := Lib.hid hnq
    obtain ⟨sq, hsq⟩ : ∃ s, s = q.isSome := ⟨_, rfl⟩
    rw [← hsq]
    have HSQ := Lib.hid hsq
    clear hnq hsq
    obtain ⟨Ak3, ck3, rfl, hk3⟩ := AppP.row hC3.key
    obtain ⟨Av3, cv3, rfl, hv3⟩ := AppP.row hC3.val
    have hk3 := hk3.bound (bnd_int .i64)
    have hv3 := hv3.bound (bnd_int .i64)
    have hb3 := hC3.below
    have b3 := bthen b2 hb3
    clear hX2 hC3
    go_wp2_with fail
    generalize hW3 : World.alloc _ _ = W3
    obtain ⟨hw0, bw3, hz3⟩ := alloc1 hW3
    clear hW3
    have hlt3 : w3.heap.size < W3.heap.size := by omega
    have b3 := bthen b3 bw3
    have hk3 := hk3.below bw3
    have hv3 := hv3.below bw3
    refine (toIntS_any l A c _ _ (h.below b3) (by omega)).mono ?_
    rintro e w4 ⟨A4, c4, rfl, hX4, hb4⟩
    have hX4 := hX4.bound
    have b4 := bthen b3 hb4
    go_wp2_with fail
    refine (RecordFrom_any l A4 c4 _ i o t _ hX4.toK HN.out).mono ?_
    rintro e w5 ⟨vk5, vv5, rfl, hC5⟩
    rw [← HQ.out] at hC5 ⊢
    rw [← HR.out] at hC5 ⊢
    rw [← HNQ.out, ← HSQ.out]
    obtain ⟨Ak5, ck5, e5, hk5⟩ := AppP.xints hC5.key
    obtain ⟨Av5, cv5, e5', hv5⟩ := AppP.xints hC5.val
    have hg1 := own_ge hC5.key
    have hg2 := own_ge hC5.val
    have hap := hC5.apart
    have hb5 := hC5.below
    have hl1 := fun g hg => AppP.own_lt hC5.key (k := g) hg
    have hl2 := fun g hg => AppP.own_lt hC5.val (k := g) hg
    subst e5 e5'
    have hw05 := blk_below hw0 (bthen hb4 hb5)
    have hlt5 : w3.heap.size < w5.heap.size := (Array.getElem?_eq_some_iff.1 hw05).1
    have hne5 : w3.heap.size ≠ w5.heap.size := by omega
    obtain ⟨y0, y1, y2, y3, y4, y5, yf⟩ := six hw05
    go_wp2_with fail
    generalize hW5 : World.alloc _ _ = W5
    obtain ⟨hg0, bw5, hz5⟩ := alloc1 hW5
    clear hW5
    have hT : ∀ {W : World} {F : Nat → Prop} {B : Option Addr} {d : Nat} {xs : List Int}, Ints W F B d xs → Ints W (fun _ => True) B d xs := fun h => h.mono (fun _ _ => trivial)
    have k5 := hk5.below bw5
    have v5 := hv5.below bw5
    have k3 := hk3.below (bthen (bthen hb4 hb5) bw5)
    have v3 := hv3.below (bthen (bthen hb4 hb5) bw5)
    refine (eqRecord_any r r Ak5 Av5 Ak3 Av3 ck5 cv5 ck3 cv3 _ _ W5 (hT k5.toK) (hT v5.toK) (hT k3) (hT v3)).mono ?_
    rintro e w6 ⟨rfl, hb6⟩
    rw [decide_eq_true rfl]
    have b6 := bthen (bthen (bthen b4 hb5) bw5) hb6
    go_wp2_with fail
    refine (toIntS_any l A c _ _ (h.below b6) (by omega)).mono ?_
    rintro e w7 ⟨A7, c7, rfl, hX7, hb7⟩
    have b7 := bthen b6 hb7
    have hX47 := hX4.below (bthen (bthen (bthen hb5 bw5) hb6) hb7)
    go_wp2_with fail
    refine (eqIntS_any l l A4 A7 c4 c7 _ _ _ hX47.toK hX7.toK).mono ?_
    rintro e w8 ⟨rfl, hb8⟩
    rw [decide_eq_true rfl]
    have b8 := bthen b7 hb8
    have hX48 := hX47.below hb8
    go_wp2_with fail
    refine (markIntS_any l A4 c4 _ 1 _ hX48 (by omega) (by omega) (by omega)).mono ?_
    rintro e w9 ⟨rfl, _, C9⟩
    have s5 := hb5.size
    have b58 := bthen (bthen hb6 hb7) hb8
    have hg9 := C9.blk (blk_below hg0 b58) (fun e => by have := e.2; omega)
    have hw9 := C9.blk (blk_below (blk_below hw05 bw5) b58) (fun e => by have := e.1; omega)
    have k59 := (k5.below b58).keep (w' := w9) (C9.same (fun i _ h1 h2 => by have := hg1 i h1; have := h2.2; omega)) C9.size
    have v59 := (v5.below b58).keep (w' := w9) (C9.same (fun i _ h1 h2 => by have := hg2 i h1; have := h2.2; omega)) C9.size
    have k39 := (k3.below b58).keep (w' := w9) (C9.same (fun i _ h1 h2 => by have := h1.2; have := h2.1; omega))
    have v39 := (v3.below b58).keep (w' := w9) (C9.same (fun i _ h1 h2 => by have := h1.2; have := h2.1; omega))
    obtain ⟨x0, x1, x2, x3, x4, x5, xf⟩ := six hg9
    obtain ⟨u0, u1, u2, u3, u4, u5, uf⟩ := six hw9
    go_wp2_with fail
    refine (eqRecord_any r r Ak5 Av5 Ak3 Av3 ck5 cv5 ck3 cv3 _ _ w9 (hT k59.toK) (hT v59.toK) (hT k39) (hT v39)).mono ?_
    rintro e w10 ⟨rfl, hb10⟩
    rw [decide_eq_true rfl]
    have hsm2 : r.key.length ≤ 1048576 ∧ r.val.length ≤ 1048576 := by
      omega
    obtain ⟨hsk, hsv⟩ := hsm2
    have b9 := b8.trans (C9.below b8.size (fun i hi => by have := hi.1; have := b3.size; omega))
    have hA8 := (h.bound (bnd_int .i64)).below b8
    have s3 := b3.size
    have hA9 := hA8.keep (w' := w9) (C9.same (fun i _ h1 h2 => by have := h1.2; have := h2.1; omega))
    have hg10 := blk_below hg9 hb10
    have hw10 := blk_below hw9 hb10
    obtain ⟨X0, X1, X2, X3, X4, X5, Xf⟩ := six hg10
    go_wp2_with fail
    refine (markRecord_any r Ak5 Av5 ck5 cv5 _ _ 1 w10 (k59.below hb10) (v59.below hb10) (fun b h1 h2 => hap b h1 h2) (fun b h => h.elim (fun e => by have := hl1 b e; have := bw5.size; have := b58.size; have := C9.size; have := hb10.size; omega) (fun e => by have := hl2 b e; have := bw5.size; have := b58.size; have := C9.size; have := hb10.size; omega)) (by omega) (by omega) hsk hsv).mono ?_
    rintro e w11 ⟨rfl, m1, m2, C11⟩
    have b10 := bthen b9 hb10
    have hA11 := (hA9.below hb10).keep (w' := w11) (C11.same (fun i _ h1 h2 => h2.elim (fun e => by have := hg1 i e; have := h1.2; have := b4.size; omega) (fun e => by have := hg2 i e; have := h1.2; have := b4.size; omega)))
    have hnn : ∀ i, (i = w5.heap.size ∨ i = w3.heap.size) → ¬ ((Value.slice Ak5 r.key.length ck5).ownBlock = some i ∨ (Value.slice Av5 r.val.length cv5).ownBlock = some i) := by
      have := b4.size
      have := hb4.size
      rintro i (e | e) (h' | h')
      · have := hl1 i h'; omega
      · have := hl2 i h'; omega
      · have := hg1 i h'; omega
      · have := hg2 i h'; omega
    have hg11 := C11.blk hg10 (hnn _ (.inl rfl))
    have hw11 := C11.blk hw10 (hnn _ (.inr rfl))
    obtain ⟨Y0, Y1, Y2, Y3, Y4, Y5, Yf⟩ := six hg11
    go_wp2_with fail
    refine (heldRecord_any r.key.length r.val.length r.off r.time r.hk r.hv Ak5 Av5 ck5 cv5 _ _ 1 w11 m1.toK m2.toK (by omega) (by omega) hsk hsv).mono ?_
    rintro e w12 ⟨rfl, hb12⟩
    have b12 := bthen (b10.trans (C11.below b10.size (fun i hi => hi.elim (fun e => by have := hg1 i e; have := b4.size; omega) (fun e => by have := hg2 i e; have := b4.size; omega)))) hb12
    go_wp2_with fail
    refine (toIntS_any l A c _ _ (hA11.below hb12) (by omega)).mono ?_
    rintro e w13 ⟨A13, c13, rfl, hX13, hb13⟩
    have b13 := bthen b12 hb13
    go_wp2_with fail
    refine (RecordFrom_any l A13 c13 _ i o t _ hX13.toK HN.out).mono ?_
    rintro e w14 ⟨vk14, vv14, rfl, hC14⟩
    rw [← HQ.out] at hC14 ⊢
    rw [← HR.out] at hC14 ⊢
    rw [← HNQ.out, ← HSQ.out]
    obtain ⟨Ak14, ck14, rfl, hk14⟩ := AppP.row hC14.key
    obtain ⟨Av14, cv14, rfl, hv14⟩ := AppP.row hC14.val
    have hb14 := hC14.below
    have bt := bthen (bthen hb12 hb13) hb14
    have b14 := bthen b13 hb14
    have hkv : ∀ i, i < w3.heap.size → ¬ ((Value.slice Ak5 r.key.length ck5).ownBlock = some i ∨ (Value.slice Av5 r.val.length cv5).ownBlock = some i) := by
      have := hb4.size
      rintro i hi (h' | h')
      · have := hg1 i h'; omega
      · have := hg2 i h'; omega
    have k311 := (k39.below hb10).keep (w' := w11) (C11.same (fun i _ h1 h2 => hkv i h1.2 h2))
    have v311 := (v39.below hb10).keep (w' := w11) (C11.same (fun i _ h1 h2 => hkv i h1.2 h2))
    have k314 := k311.below bt
    have v314 := v311.below bt
    have m114 := m1.toK.below bt
    have m214 := m2.toK.below bt
    have hw14 := blk_below hw11 bt
    have hg14 := blk_below hg11 bt
    have hlt14 : w3.heap.size < w14.heap.size := (Array.getElem?_eq_some_iff.1 hw14).1
    have hlt14' : w5.heap.size < w14.heap.size := (Array.getElem?_eq_some_iff.1 hg14).1
    have hne14 : w3.heap.size ≠ w14.heap.size := by omega
    have hne14' : w5.heap.size ≠ w14.heap.size := by omega
    clear hC14 hX13 hA11 hkv k311 v311 m1 m2 C11 C9 hA8 hA9 hX4 hX47 hX48 hX7 hk3 hv3 k3 v3 k5 v5 hk5 hv5 k39 v39 hw11 hg11 b12 b13 b10 b9 b8 hg9 hw9 hg10 hw10 hw0 hg0 hw05
    clear y0 y1 y2 y3 y4 y5 yf x0 x1 x2 x3 x4 x5 xf u0 u1 u2 u3 u4 u5 uf X0 X1 X2 X3 X4 X5 Xf Y0 Y1 Y2 Y3 Y4 Y5 Yf
    obtain ⟨p0, p1, p2, p3, p4, p5, pf⟩ := six hw14
    go_wp2_with fail
    generalize hW14 : World.alloc _ _ = W14
    obtain ⟨hh0, bw14, hz14⟩ := alloc1 hW14
    clear hW14
    have b14 := bthen b14 bw14
    refine (eqRecord_any r r Ak14 Av14 Ak3 Av3 ck14 cv14 ck3 cv3 _ _ W14 (hT (hk14.below bw14)) (hT (hv14.below bw14)) (hT (k314.below bw14)) (hT (v314.below bw14))).mono ?_
    rintro e w15 ⟨rfl, hb15⟩
    rw [decide_eq_true rfl]
    have bu := bthen bw14 hb15
    have hg15 := blk_below hg14 bu
    have b15 := bthen b14 hb15
    obtain ⟨P0, P1, P2, P3, P4, P5, Pf⟩ := six hg15
    go_wp2_with fail
    refine (heldRecord_any r.key.length r.val.length r.off r.time r.hk r.hv Ak5 Av5 ck5 cv5 _ _ 1 w15 (m114.below bu) (m214.below bu) (by omega) (by omega) hsk hsv).mono ?_
    rintro e w16 ⟨rfl, hb16⟩
    have b16 := Lib.hid (bthen b15 hb16)
    clear hb16 b15 bu b14 bt hb15 bw14
    go_wp2
    go_ret
    exact ⟨rfl, b16.out⟩
  · go_enter Try.func4, Try.ntmps4
    go_wp2
    go_ret
    exact ⟨rfl, Below.refl _ _⟩
end Go.Proofs.Ytfflhenldegmmaa
