/- Scanning a segment: the iterator of the program. -/
import Derived.Test.YtomcjjehfocbmaaRg
import Derived.Test.YtomcjjehfocbmaaIt
import Derived.Test.YtomcjjehfocbmaaBi
import Derived.Test.YtomcjjehfocbmaaPw
namespace Go.Proofs.Ytomcjjehfocbmaa
set_option linter.unusedVariables false
set_option linter.unusedSimpArgs false
open Go.RowKit Go.Shelf
attribute [local go_sem] Oper.semAt_some

/-- What the iterator yields: a batch, where its records lie, the place behind it. -/
structure SB where
  b : Bat
  A : Option Addr
  c : Nat
  nx : Nat
def SB.encs (x : SB) : Array Value := #[.agg #[.bool x.b.packed, .bool x.b.mark, .int .i64 x.b.prod, .int .i64 x.b.epoch, .int .i64 x.b.seq, .slice x.A x.b.recs.length x.c], .int .i64 (x.nx : Int)]
def sbats (xs : List SB) : List Bat := xs.map (·.b)
def splace (xs : List SB) : Nat := match xs.getLast? with | none => 0 | some x => x.nx
theorem sbats_snoc (xs : List SB) (x : SB) : sbats (xs ++ [x]) = sbats xs ++ [x.b] := by simp [sbats]
theorem sbats_len (xs : List SB) : (sbats xs).length = xs.length := by simp [sbats]
theorem splace_snoc (xs : List SB) (x : SB) : splace (xs ++ [x]) = x.nx := by simp [splace]
/-- What the body keeps. -/
def Kps (n₀ bx px wy : Nat) (W W' : World) : Prop := Below n₀ W W' ∧ W'.heap[bx]? = W.heap[bx]? ∧ W'.heap[px]? = W.heap[px]? ∧ W'.heap[wy]? = W.heap[wy]?
theorem Kps.refl (n₀ bx px wy : Nat) (W : World) : Kps n₀ bx px wy W W := ⟨Below.refl _ _, rfl, rfl, rfl⟩
theorem Kps.trans {n₀ bx px wy : Nat} {A B C : World} (h : Kps n₀ bx px wy A B) (k : Kps n₀ bx px wy B C) : Kps n₀ bx px wy A C := ⟨h.1.trans k.1, k.2.1.trans h.2.1, k.2.2.1.trans h.2.2.1, k.2.2.2.trans h.2.2.2⟩
theorem Kps.below {n₀ bx px wy : Nat} {W W' : World} (h : Below W.heap.size W W') (h0 : n₀ ≤ W.heap.size) (h1 : bx < W.heap.size) (h2 : px < W.heap.size) (h3 : wy < W.heap.size) : Kps n₀ bx px wy W W' :=
  ⟨h.mono h0, h.block _ h1, h.block _ h2, h.block _ h3⟩
theorem Kps.book {n₀ bx px wy : Nat} {w : World} (h0 : n₀ ≤ w.heap.size) (h1 : bx < w.heap.size) (h2 : px < w.heap.size) (h3 : wy < w.heap.size) (W : World) (l : Nat) (o o' : Obj) (hl : w.heap.size ≤ l) (h : W.heap[l]? = some o) (hc : o.isCells = false) (hw : o.isWalk = false) : Kps n₀ bx px wy W (W.putObj l o') :=
  ⟨belowK_b h0 W l o o' hl h hc hw, World.putObj_heap_other (by omega), World.putObj_heap_other (by omega), World.putObj_heap_other (by omega)⟩
/-- What is told of an element, and behind the last one. -/
def ScFr (l : List Int) (pre : List SB) (x : SB) (W0 W1 : World) : Prop :=
  rdBat l (splace pre) = some x.b ∧ x.nx = splace pre + (batBytes x.b).length ∧ pre.length < 8 ∧ XRecs 3 85 W1 (fun g => W0.heap.size ≤ g) x.A x.c x.b.recs
def ScS (l : List Int) (wy : Nat) (xs : List SB) (W0 W' : World) : Prop :=
  ∃ (W1 W2 : World) (code : Int), Below W0.heap.size W0 W1 ∧ W2 = W1.setCell ⟨wy, 0, none⟩ (.int .i64 code) ∧ Below W2.heap.size W2 W' ∧ scanGo l 8 0 [] = (sbats xs, splace xs, code)

set_option maxRecDepth 100000 in
set_option maxHeartbeats 4000000 in
theorem scan1_new (l : List Int) (A : Option Addr) (c : Nat) (hb : bytesB l = true) (hn : l.length ≤ 4194304) (n : Nat) (hn1 : 1 ≤ n) (bx px wy n₀ : Nat) (w : World)
    (hbx : w.heap[bx]? = some (.cells #[.slice A l.length c] 22 (0, 0))) (hpx : w.heap[px]? = some (.cells #[.pointer (some ⟨wy, 0, none⟩)] 80 (0, 0))) (hwy : w.heap[wy]? = some (.cells #[.int .i64 0] 3 (0, 0)))
    (hL : Ints w (fun b => b < n₀) A c l) (hn0 : n₀ ≤ w.heap.size) :
    SeqNew Fence.wide n Try.prog 89 #[.pointer (some ⟨bx, 0, none⟩), .pointer (some ⟨px, 0, none⟩)] SB.encs (ScFr l) (Kps n₀ bx px wy) (ScS l wy) w := by
  intro lp J W hW hY h0
  have HB := Lib.hid hb
  have hlc := hL.1
  have hcc := hL.2.1
  have hbxW := blk_below hbx hW
  have hpxW := blk_below hpx hW
  have hwyW := blk_below hwy hW
  have hLW : Ints W (fun b => b < n₀) A c l := hL.below hW
  have hnW : n₀ ≤ W.heap.size := Nat.le_trans hn0 hW.size
  have hbl := (Array.getElem?_eq_some_iff.1 hbxW).1
  have hpl := (Array.getElem?_eq_some_iff.1 hpxW).1
  have hwl := (Array.getElem?_eq_some_iff.1 hwyW).1
  clear hbx hpx hwy hL hn0 hW hb
  have HY := Lib.hid hY
  clear hY
  refine callsIn_of_wp Try.func89 rfl trivial ?_ rfl
  simp only [Try.ntmps89, List.size_toArray, List.length_cons, List.length_nil, Nat.reduceAdd, Nat.reduceSub, Array.replicate_succ, Array.replicate_zero, List.push_toArray, List.append_toArray, List.nil_append, List.cons_append]
  gi_wp2
  gi_loopw [4, 5, 10] (fun a b i wr => ∃ (pre : List SB) (W0 : World) (p k : Nat) (la : Int), a = .int .i64 (p : Int) ∧ b = .int .i64 la ∧ i = .int .i64 (k : Int) ∧ k ≤ 8 ∧ p ≤ l.length ∧ Hid (splace pre = p ∧ lastOf (sbats pre) = la ∧ pre.length = k ∧ scanGo l 8 0 [] = scanGo l (8 - k) p (sbats pre)) ∧
    Hid (J pre W0 ∧ Below W0.heap.size W0 wr ∧ Kps n₀ bx px wy W wr ∧ W.heap.size ≤ wr.heap.size)) (fun _ _ i _ => 8 - (intOf i).toNat)
  case atStart => exact ⟨[], W, 0, 0, -1, rfl, rfl, rfl, by omega, by omega, Lib.hid ⟨rfl, rfl, rfl, rfl⟩, Lib.hid ⟨h0, Below.refl _ _, Kps.refl _ _ _ _ _, Nat.le_refl _⟩⟩
  case round =>
    obtain ⟨pre, W0, p, k, la, rfl, rfl, rfl, hk8, hple, HE, HJ⟩ := hrel
    have hK := HJ.out.2.2.1
    have hsz := HJ.out.2.2.2
    obtain ⟨x0, xf⟩ := one (hK.2.1.trans hbxW)
    obtain ⟨y0, yf⟩ := one (hK.2.2.1.trans hpxW)
    obtain ⟨z0, zf⟩ := one (hK.2.2.2.trans hwyW)
    have hLr : Ints wr (fun b => b < n₀) A c l := hLW.keep (fun b hb _ => hK.1.block b hb)
    have hbr : bx < wr.heap.size := by omega
    have hpr : px < wr.heap.size := by omega
    have hwr : wy < wr.heap.size := by omega
    have hnr : n₀ ≤ wr.heap.size := by omega
    clear hK h0
    by_cases hlt : k < 8
    · by_cases hp : p = l.length
      · have hz : ((p : Int) == (l.length : Int)) = true := by simp [hp]
        have HP := Lib.hid hp
        clear hp
        gi_wp2
        go_end0
        exact ⟨⟨_, rfl⟩, pre, W0, HJ.out.1, _, _, 0, HJ.out.2.1, rfl, Below.refl _ _, by rw [HE.out.2.2.2, scanGo_end HP.out, HE.out.1]⟩
      · have hz : ((p : Int) == (l.length : Int)) = false := by simp; omega
        have HP := Lib.hid hp
        clear hp
        have HK8 := Lib.hid (show 8 - k = (8 - k - 1) + 1 by omega)
        by_cases h18 : p + 18 ≤ l.length
        · gi_wp2_with fail
          refine ⟨trivial, (callsIn_wide.2 (headAt_yes l A c _ p wr hLr HB.out hn h18)).mono ?_⟩
          rintro e w1 ⟨rfl, hb1⟩
          obtain ⟨m2, hm2⟩ : ∃ m, m = num2 l (p + 3) := ⟨_, rfl⟩
          obtain ⟨m3, hm3⟩ : ∃ m, m = num3 l p := ⟨_, rfl⟩
          obtain ⟨m5, hm5⟩ : ∃ m, m = num2 l (p + 5) := ⟨_, rfl⟩
          rw [← hm2, ← hm3, ← hm5]
          have HM2 := Lib.hid hm2
          clear hm2 hm3 hm5
          have X0 := below_cell hb1 x0
          have Y0 := below_cell hb1 y0
          have hz1 := blk_below (HJ.out.2.2.1.2.2.2.trans hwyW) hb1
          have hb1s := hb1.size
          have hbw1 : bx < w1.heap.size := by omega
          have hbnw1 : bx ≠ w1.heap.size := by omega
          have hpw1 : px < w1.heap.size := by omega
          have hpnw1 : px ≠ w1.heap.size := by omega
          have hww1 : wy < w1.heap.size := by omega
          have hwnw1 : wy ≠ w1.heap.size := by omega
          have hJ1 := Lib.hid (bthen HJ.out.2.1 hb1)
          have HB1 := Lib.hid hb1
          by_cases ht : (l.length : Int) - (p : Int) - 7 < m2
          · have dt : decide ((l.length : Int) - (p : Int) - 7 < m2) = true := by simp [ht]
            have HT : Hid (tornB l p = true) := Lib.hid (by unfold tornB; rw [← HM2.out]; simp only [Bool.or_eq_true, decide_eq_true_eq]; right; omega)
            obtain ⟨Z0, Zf⟩ := one hz1
            clear ht
            gi_wp2
            refine bodyPost_ret (results_none rfl _ _ _) rfl ?_
            exact ⟨⟨_, rfl⟩, pre, W0, HJ.out.1, _, _, 1, hJ1.out, rfl, bal _ _, by rw [HE.out.2.2.2, HK8.out, scanGo_torn HP.out HT.out, HE.out.1]⟩
          · have dt : decide ((l.length : Int) - (p : Int) - 7 < m2) = false := by simp; omega
            have HT : Hid (tornB l p = false) := Lib.hid (by unfold tornB; rw [← HM2.out]; simp only [Bool.or_eq_false_iff, decide_eq_false_iff_not]; omega)
            clear ht
            gi_wp2_with fail
            generalize hW2 : World.alloc _ _ = W2
            obtain ⟨hA2, b2, hz2⟩ := alloc1 hW2
            clear hW2
            have hb12 := bthen hb1 b2
            have HB2 := Lib.hid hb12
            have hJ2 := Lib.hid (bthen hJ1.out b2)
            have hs2 := hb12.size
            have X2 := below_cell b2 X0
            have Y2 := below_cell b2 Y0
            have hz2' := blk_below hz1 b2
            clear X0 Y0 hz1
            cases hr : rdBat l p with
            | none =>
              refine ⟨trivial, (callsIn_wide.2 (batchAt_none l A c _ (p : Int) W2 (hLr.below hb12) HB.out hn (by rw [rdAtI_nat]; exact hr))).mono ?_⟩
              rintro e w3 ⟨⟨v, rfl, g, rfl⟩, hb3⟩
              have HR := Lib.hid hr
              obtain ⟨Z0, Zf⟩ := one (blk_below hz2' hb3)
              have X3 := below_cell hb3 X2
              have Y3 := below_cell hb3 Y2
              have hJ3 := Lib.hid (bthen hJ2.out hb3)
              have hs3 := hb3.size
              have hbw3 : bx < w3.heap.size := by omega
              have hbnw3 : bx ≠ w3.heap.size := by omega
              have hpw3 : px < w3.heap.size := by omega
              have hpnw3 : px ≠ w3.heap.size := by omega
              have hww3 : wy < w3.heap.size := by omega
              have hwnw3 : wy ≠ w3.heap.size := by omega
              clear hr X2 Y2
              gi_wp2
              refine bodyPost_ret (results_none rfl _ _ _) rfl ?_
              exact ⟨⟨_, rfl⟩, pre, W0, HJ.out.1, _, _, 2, hJ3.out, rfl, bal _ _, by rw [HE.out.2.2.2, HK8.out, scanGo_bad HP.out HT.out HR.out, HE.out.1]⟩
            | some b =>
              have hv := (rdBat_at hr).1
              have hrl := (batB_parts hv).2.1
              have hnx : p + (batBytes b).length ≤ l.length := (rdBat_at hr).len
              refine ⟨trivial, (callsIn_wide.2 (batchAt_some l A c _ p W2 (hLr.below hb12) HB.out hn hr)).mono ?_⟩
              rintro e w3 ⟨A3, c3, rfl, hX3, hb3⟩
              have HR := Lib.hid hr
              have X3 := below_cell hb3 X2
              have Y3 := below_cell hb3 Y2
              have hz3 := blk_below hz2' hb3
              have hJ3 := Lib.hid (bthen hJ2.out hb3)
              have hs3 := hb3.size
              obtain ⟨q, hq⟩ : ∃ q, q = p + (batBytes b).length := ⟨_, rfl⟩
              rw [← hq] at hnx ⊢
              have HQ := Lib.hid hq
              clear hr X2 Y2 hv hq hb12 hz2'
              gi_wp2_with fail
              generalize hW4 : World.alloc _ _ = W4
              obtain ⟨hA4, b4, hz4⟩ := alloc1 hW4
              clear hW4
              have X4 := below_cell b4 X3
              have Y4 := below_cell b4 Y3
              have hzz4 := blk_below hz3 b4
              have hX4 := hX3.below b4
              have hJ4 := Lib.hid (bthen hJ3.out b4)
              clear X3 Y3 hz3 hX3
              refine ⟨trivial, (callsIn_wide.2 (first_any b A3 c3 _ W4 hX4.toK (by omega))).mono ?_⟩
              rintro e w5 ⟨rfl, hb5⟩
              have X5 := below_cell hb5 X4
              have Y5 := below_cell hb5 Y4
              have hz5 := blk_below hzz4 hb5
              have hA5 := blk_below hA4 hb5
              have hX5 := hX4.below hb5
              have hJ5 := Lib.hid (bthen hJ4.out hb5)
              have hs5 := hb5.size
              clear X4 Y4 hzz4 hX4 hA4
              obtain ⟨u0, u1, u2, u3, u4, u5, uf⟩ := six hA5
              by_cases ho : b.first ≤ la
              · have d1 : decide (b.first ≤ la) = true := by simp [ho]
                have HO : Hid (b.first ≤ lastOf (sbats pre)) := Lib.hid (by rw [HE.out.2.1]; exact ho)
                obtain ⟨Z0, Zf⟩ := one hz5
                clear ho
                gi_wp2
                refine bodyPost_ret (results_none rfl _ _ _) rfl ?_
                exact ⟨⟨_, rfl⟩, pre, W0, HJ.out.1, _, _, 3, hJ5.out, rfl, Below.refl _ _, by rw [HE.out.2.2.2, HK8.out, scanGo_order HP.out HT.out HR.out HO.out, HE.out.1]⟩
              · have d1 : decide (b.first ≤ la) = false := by simp; omega
                have HO : Hid (¬ b.first ≤ lastOf (sbats pre)) := Lib.hid (by rw [HE.out.2.1]; exact ho)
                clear ho
                gi_wp2_with fail
                refine ⟨trivial, (callsIn_wide.2 (last_any b A3 c3 _ _ hX5.toK (by omega))).mono ?_⟩
                rintro e w6 ⟨rfl, hb6⟩
                have X6 := below_cell hb6 X5
                have Y6 := below_cell hb6 Y5
                have hz6 := blk_below hz5 hb6
                have hA6 := blk_below hA5 hb6
                have hX6 := hX5.below hb6
                have hJ6 := Lib.hid (bthen hJ5.out hb6)
                have hs6 := hb6.size
                clear X5 Y5 hz5 hX5 hA5 u0 u1 u2 u3 u4 u5 uf
                obtain ⟨u0, u1, u2, u3, u4, u5, uf⟩ := six hA6
                obtain ⟨fn, tmps, assign, body, hy, hR⟩ := HY.out pre ⟨b, A3, c3, q⟩ W0 w6 HJ.out.1 hJ6.out ⟨by rw [HE.out.1]; exact HR.out, by rw [HE.out.1]; exact HQ.out, by rw [HE.out.2.2.1]; omega, hX6.mono (fun g hg => by have := hJ2.out.size; omega)⟩
                dsimp only [SB.encs] at hy
                gi_wp2
                refine hR.mono ?_
                rintro e w7 ⟨rfl, hJ7, hK7⟩
                have HK7 := Lib.hid hK7
                have HJ7 := Lib.hid hJ7
                have hs7 := hK7.1.size
                have hlast : Hid (lastOf (sbats (pre ++ [⟨b, A3, c3, q⟩])) = b.last) := Lib.hid (by rw [sbats_snoc, lastOf_snoc])
                have hcont : Hid (scanGo l 8 0 [] = scanGo l (8 - (k + 1)) q (sbats (pre ++ [⟨b, A3, c3, q⟩]))) := Lib.hid (by
                  rw [HE.out.2.2.2, HK8.out, scanGo_more (bs := sbats pre) HP.out HT.out HR.out (by have := HO.out; omega), sbats_snoc, HQ.out, show 8 - k - 1 = 8 - (k + 1) by omega])
                have hwr6 : Hid (Below wr.heap.size wr w6) := Lib.hid (bthen (bthen (bthen (bthen HB2.out hb3) b4) hb5) hb6)
                have hKw : Hid (Kps n₀ bx px wy W w7) := Lib.hid ((HJ.out.2.2.1.trans (Kps.below hwr6.out hnr hbr hpr hwr)).trans HK7.out)
                clear hy hR hJ7 hK7 hX6 hb3 b4 hb5 hb6
                gi_wp2
                go_roundw
                case rel => exact ⟨pre ++ [⟨b, A3, c3, q⟩], w7, q, k + 1, b.last, rfl, rfl, by go_num, by omega, hnx, Lib.hid ⟨splace_snoc _ _, hlast.out, by rw [List.length_append, HE.out.2.2.1]; rfl, hcont.out⟩, Lib.hid ⟨HJ7.out, Below.refl _ _, hKw.out, by omega⟩⟩
                case measure => simp [intOf]; omega
        · gi_wp2_with fail
          refine ⟨trivial, (callsIn_wide.2 (headAt_no l A c _ (p : Int) wr hLr hn (by omega))).mono ?_⟩
          rintro e w1 ⟨⟨v, rfl, g, rfl⟩, hb1⟩
          have X0 := below_cell hb1 x0
          have Y0 := below_cell hb1 y0
          have hb1s := hb1.size
          have hbw1 : bx < w1.heap.size := by omega
          have hbnw1 : bx ≠ w1.heap.size := by omega
          have hpw1 : px < w1.heap.size := by omega
          have hpnw1 : px ≠ w1.heap.size := by omega
          have hww1 : wy < w1.heap.size := by omega
          have hwnw1 : wy ≠ w1.heap.size := by omega
          obtain ⟨Z0, Zf⟩ := one (blk_below (HJ.out.2.2.1.2.2.2.trans hwyW) hb1)
          have hJ1 := Lib.hid (bthen HJ.out.2.1 hb1)
          have HT : Hid (tornB l p = true) := Lib.hid (by unfold tornB; simp only [Bool.or_eq_true, decide_eq_true_eq]; left; omega)
          gi_wp2
          refine bodyPost_ret (results_none rfl _ _ _) rfl ?_
          exact ⟨⟨_, rfl⟩, pre, W0, HJ.out.1, _, _, 1, hJ1.out, rfl, bal _ _, by rw [HE.out.2.2.2, HK8.out, scanGo_torn HP.out HT.out, HE.out.1]⟩
    · have hk2 : k = 8 := by omega
      gi_wp2
      go_end0
      exact ⟨⟨_, rfl⟩, pre, W0, HJ.out.1, _, _, 0, HJ.out.2.1, rfl, Below.refl _ _, by rw [HE.out.2.2.2, hk2, HE.out.1]; rfl⟩
end Go.Proofs.Ytomcjjehfocbmaa
