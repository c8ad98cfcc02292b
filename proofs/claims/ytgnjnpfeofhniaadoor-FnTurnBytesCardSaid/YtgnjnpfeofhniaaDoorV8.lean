/- A record at a place of bytes: the program. -/
import Derived.Test.YtgnjnpfeofhniaaDoorV7
namespace Go.Proofs.YtgnjnpfeofhniaaDoor
set_option linter.unusedVariables false
set_option linter.unusedSimpArgs false
open Go.RowKit

def nextOf (q : Option (Rec × Nat)) : Nat := match q with | none => 0 | some x => x.2
def recQ (q : Option (Rec × Nat)) : Rec := recOr (q.map (·.1))
def rdAt (l : List Int) (i o t : Int) : Option (Rec × Nat) := if i < 0 then none else rdRec l i.toNat o t
theorem rdRec_far {l : List Int} {i : Nat} {o t : Int} (h : l.length < i) : rdRec l i o t = none := by
  unfold rdRec rdV
  rw [rdGo_end _ _ _ _ _ (by omega)]
abbrev ZREC : Array Value := #[.int .i64 0, .int .i64 0, .bool false, .slice none 0 0, .bool false, .slice none 0 0]
theorem zero6 {w : World} {g : Nat} : Chg (fun b => b = g) w ((((((w.setCell ⟨g, 0, none⟩ (.int .i64 0)).setCell ⟨g, 1, none⟩ (.int .i64 0)).setCell ⟨g, 2, none⟩ (.bool false)).setCell ⟨g, 3, none⟩ (.slice none 0 0)).setCell ⟨g, 4, none⟩ (.bool false)).setCell ⟨g, 5, none⟩ (.slice none 0 0)) :=
  Chg.setCells (fun b => b = g) (g := g) rfl [.int .i64 0, .int .i64 0, .bool false, .slice none 0 0, .bool false, .slice none 0 0] 0 w

set_option maxRecDepth 100000 in
set_option maxHeartbeats 4000000 in
theorem recordAt_any (l : List Int) (A : Option Addr) (c : Nat) (F : Nat → Prop) (i o t : Int) (w : World) (h : Ints w F A c l) (hb : bytesB l = true) (hn : l.length ≤ 4194304) (ho : 0 ≤ o ∧ o ≤ 99999) (ht : 0 ≤ t ∧ t ≤ 99999) :
    Calls Tryd.prog 44 #[.slice A l.length c, .int .i64 i, .int .i64 o, .int .i64 t] w fun e w' =>
      ∃ vk vv, e = .returned (.tuple #[.agg ((recQ (rdAt l i o t)).vals vk vv), .int .i64 (nextOf (rdAt l i o t) : Nat), .bool (rdAt l i o t).isSome]) ∧ Copied w w' (recQ (rdAt l i o t)) vk vv := by
  have hl := h.1
  have hc := h.2.1
  by_cases hi : i < 0 ∨ (l.length : Int) < i
  · have HQ := Lib.hid (show rdAt l i o t = none by
      unfold rdAt
      by_cases h0 : i < 0
      · rw [if_pos h0]
      · rw [if_neg h0, rdRec_far (by omega)])
    rw [HQ.out]
    by_cases h0 : i < 0
    · clear hi
      go_enter Tryd.func44, Tryd.ntmps44
      go_wp2
      refine bodyPost_ret (v := .tuple #[.agg ZREC, .int .i64 0, .bool false]) (by simp [results, Tryd.results44, go_sem]) rfl ⟨.slice none 0 0, .slice none 0 0, rfl, Copied.zero ?_⟩
      exact (bal _ _)
    · have h1 : (l.length : Int) < i := by omega
      clear hi
      go_enter Tryd.func44, Tryd.ntmps44
      go_wp2
      refine bodyPost_ret (v := .tuple #[.agg ZREC, .int .i64 0, .bool false]) (by simp [results, Tryd.results44, go_sem]) rfl ⟨.slice none 0 0, .slice none 0 0, rfl, Copied.zero ?_⟩
      exact (bal _ _)
  · obtain ⟨p, rfl⟩ := Int.eq_ofNat_of_zero_le (show 0 ≤ i by omega)
    have hp : p ≤ l.length := by omega
    have hra : rdAt l (p : Int) o t = rdRec l p o t := by unfold rdAt; rw [if_neg (by omega)]; rfl
    rw [hra]
    clear hra hi
    have hbd := h.bound (bnd_int .i64)
    have hok1 := numStep_ok hb hp false
    obtain ⟨s1, hs1⟩ : ∃ s, s = numStep l p false := ⟨_, rfl⟩
    rw [← hs1] at hok1
    obtain ⟨m, a, f1⟩ := s1
    have S1 := Lib.hid hs1
    have hok2 := numStep_ok hb hok1.1 f1
    obtain ⟨s2, hs2⟩ : ∃ s, s = numStep l a f1 := ⟨_, rfl⟩
    dsimp only at hok1 hok2
    rw [← hs2] at hok2
    obtain ⟨dt, a2, f2⟩ := s2
    have S2 := Lib.hid hs2
    have hok3 := numStep_ok hb hok2.1 f2
    obtain ⟨s3, hs3⟩ : ∃ s, s = numStep l a2 f2 := ⟨_, rfl⟩
    dsimp only at hok2 hok3
    rw [← hs3] at hok3
    obtain ⟨dk, a3, f3⟩ := s3
    have S3 := Lib.hid hs3
    have hok4 := partStep_ok hb hok3.1 f3
    obtain ⟨s4, hs4⟩ : ∃ s, s = partStep l a3 f3 := ⟨_, rfl⟩
    dsimp only at hok3 hok4
    rw [← hs4] at hok4
    obtain ⟨hk, key, a4, f4⟩ := s4
    have S4 := Lib.hid hs4
    have hok5 := partStep_ok hb hok4 f4
    obtain ⟨s5, hs5⟩ : ∃ s, s = partStep l a4 f4 := ⟨_, rfl⟩
    dsimp only at hok4 hok5
    rw [← hs5] at hok5
    obtain ⟨hv, val, a5, f5⟩ := s5
    have S5 := Lib.hid hs5
    dsimp only at hok5
    have FIVE := Lib.hid (five_rd (o := o) (t := t) hs1 hs2 hs3 hs4 hs5)
    obtain ⟨hm0, hm1⟩ := hok1.2
    obtain ⟨hd0, hd1⟩ := hok2.2
    obtain ⟨he0, he1⟩ := hok3.2
    obtain ⟨ho0, ho1⟩ := ho
    obtain ⟨ht0, ht1⟩ := ht
    have hb1l := hok1.1
    have hb2l := hok2.1
    have hb3l := hok3.1
    clear hs1 hs2 hs3 hs4 hs5
    go_enter Tryd.func44, Tryd.ntmps44
    go_wp2_with fail
    generalize hW : World.alloc _ _ = W
    obtain ⟨hA, hG, b1, hsW⟩ := alloc2 hW
    clear hW
    refine (number_any l A c _ p false (w.heap.size + 1) W hG (hbd.below b1) hb hn hp).mono ?_
    rintro e w2 ⟨rfl, hR2, c2⟩
    rw [← S1.out] at hR2 ⊢
    dsimp only at hR2 ⊢
    have hA2 := c2.blk hA (by omega)
    have b2 := b1.trans (c2.below b1.size (fun i hi => by omega))
    have hlt2 := hR2.lt
    obtain ⟨q0, q1, q2, qf⟩ := thr hR2
    clear hA hG c2 b1
    go_wp2_with fail
    generalize hW3 : World.alloc _ _ = W3
    obtain ⟨hC3, c3, hz3⟩ := alloc1 hW3
    clear hW3 q0 q1 q2 qf
    have b3 := bthen b2 c3
    refine (number_any l A c _ a f1 (w.heap.size + 1) W3 (hR2.below c3) (hbd.below b3) hb hn hb1l).mono ?_
    rintro e w4 ⟨rfl, hR4, c4⟩
    rw [← S2.out] at hR4 ⊢
    dsimp only at hR4 ⊢
    have hC4 := c4.blk hC3 (by omega)
    have hA4 := c4.blk (blk_below hA2 c3) (by omega)
    have b4 := b3.trans (c4.below b3.size (fun i hi => by omega))
    have hz4 := c4.size
    obtain ⟨z0, z1, z2, z3, z4, z5, zf⟩ := six hC4
    clear hC3 c3 c4 hA2 hR2 b3 b2
    go_wp2_with fail
    generalize hX5 : World.setCell _ _ _ = X5
    have hC5 := blk_put hC4 1 (.int .i64 (t + dt))
    have c5 := Chg.set (fun b => b = w2.heap.size) w4 (p := ⟨w2.heap.size, 1, none⟩) rfl (.int .i64 (t + dt))
    rw [hX5] at hC5 c5
    have hC5 : X5.heap[w2.heap.size]? = some (.cells #[.int .i64 0, .int .i64 (t + dt), .bool false, .slice none 0 0, .bool false, .slice none 0 0] 46 (0, 0)) := by simpa using hC5
    have hA5 := c5.blk hA4 (by omega)
    have hR5 : RdB X5 (w.heap.size + 1) A l.length c a2 f2 := c5.blk hR4 (by omega)
    have b5 := b4.trans (c5.below b4.size (fun i hi => by omega))
    have hz5 := c5.size
    clear hX5 c5 hC4 hA4 hR4 b4 z0 z1 z2 z3 z4 z5 zf
    refine (number_any l A c _ a2 f2 (w.heap.size + 1) X5 hR5 (hbd.below b5) hb hn hb2l).mono ?_
    rintro e w6 ⟨rfl, hR6, c6⟩
    rw [← S3.out] at hR6 ⊢
    dsimp only at hR6 ⊢
    have hC6 := c6.blk hC5 (by omega)
    have hA6 := c6.blk hA5 (by omega)
    have b6 := b5.trans (c6.below b5.size (fun i hi => by omega))
    have hz6 := c6.size
    obtain ⟨z0, z1, z2, z3, z4, z5, zf⟩ := six hC6
    clear hC5 c6 hA5 hR5 b5
    go_wp2_with fail
    generalize hX7 : World.setCell _ _ _ = X7
    have hC7 := blk_put hC6 0 (.int .i64 (o + dk))
    have c7 := Chg.set (fun b => b = w2.heap.size) w6 (p := ⟨w2.heap.size, 0, none⟩) rfl (.int .i64 (o + dk))
    rw [hX7] at hC7 c7
    have hC7 : X7.heap[w2.heap.size]? = some (.cells #[.int .i64 (o + dk), .int .i64 (t + dt), .bool false, .slice none 0 0, .bool false, .slice none 0 0] 46 (0, 0)) := by simpa using hC7
    have hA7 := c7.blk hA6 (by omega)
    have hR7 : RdB X7 (w.heap.size + 1) A l.length c a3 f3 := c7.blk hR6 (by omega)
    have b7 := b6.trans (c7.below b6.size (fun i hi => by omega))
    have hz7 := c7.size
    clear hX7 c7 hC6 hA6 hR6 b6 z0 z1 z2 z3 z4 z5 zf
    refine (part_any l A c _ a3 f3 (w.heap.size + 1) X7 hR7 (hbd.below b7) (fun b hb => by have := hb.2; omega) hb hn hb3l).mono ?_
    rintro e w8 ⟨vk, rfl, HK, hR8, c8⟩
    rw [← S4.out] at HK hR8 ⊢
    dsimp only at HK hR8 ⊢
    obtain ⟨Ak, ck, rfl, hkr⟩ := AppP.row HK
    have hC8 := c8.blk hC7 (by omega)
    have hA8 := c8.blk hA7 (by omega)
    have b8 := b7.trans (c8.below b7.size (fun i hi => by omega))
    have hz8 := c8.size
    obtain ⟨z0, z1, z2, z3, z4, z5, zf⟩ := six hC8
    clear hC7 c8 hA7 hR7 b7 hkr
    go_wp2_with fail
    generalize hX9 : World.setCell _ _ _ = X9
    have hC9 := blk_put (blk_put hC8 2 (.bool hk)) 3 (.slice Ak key.length ck)
    have c9 := (Chg.set (fun b => b = w2.heap.size) w8 (p := ⟨w2.heap.size, 2, none⟩) rfl (.bool hk)).trans (Chg.set (fun b => b = w2.heap.size) _ (p := ⟨w2.heap.size, 3, none⟩) rfl (.slice Ak key.length ck))
    rw [hX9] at hC9 c9
    have hC9 : X9.heap[w2.heap.size]? = some (.cells #[.int .i64 (o + dk), .int .i64 (t + dt), .bool hk, .slice Ak key.length ck, .bool false, .slice none 0 0] 46 (0, 0)) := by simpa using hC9
    have hA9 := c9.blk hA8 (by omega)
    have hR9 : RdB X9 (w.heap.size + 1) A l.length c a4 f4 := c9.blk hR8 (by omega)
    have b9 := b8.trans (c9.below b8.size (fun i hi => by omega))
    have hz9 := c9.size
    have HK9 := AppP.chg HK c9 (fun b _ h1 h2 => by omega)
    clear hX9 c9 hC8 hA8 hR8 b8 HK z0 z1 z2 z3 z4 z5 zf
    refine (part_any l A c _ a4 f4 (w.heap.size + 1) X9 hR9 (hbd.below b9) (fun b hb => by have := hb.2; omega) hb hn hok4).mono ?_
    rintro e w10 ⟨vv, rfl, HV, hR10, c10⟩
    rw [← S5.out] at HV hR10 ⊢
    dsimp only at HV hR10 ⊢
    obtain ⟨Av, cv, rfl, hvr⟩ := AppP.row HV
    have hC10 := c10.blk hC9 (by omega)
    have hA10 := c10.blk hA9 (by omega)
    have b10 := b9.trans (c10.below b9.size (fun i hi => by omega))
    have hz10 := c10.size
    have HK10 := AppP.chg HK9 c10 (fun b _ h1 h2 => by omega)
    have hkl : ∀ g, (Value.slice Ak key.length ck).ownBlock = some g → g < X9.heap.size := fun g hg => AppP.own_lt HK9 hg
    have hvg : ∀ g, (Value.slice Av val.length cv).ownBlock = some g → X9.heap.size ≤ g := fun g hg => AppP.ne HV hg
    obtain ⟨z0, z1, z2, z3, z4, z5, zf⟩ := six hC10
    have hC11 := blk_put (blk_put hC10 4 (.bool hv)) 5 (.slice Av val.length cv)
    have c11 := (Chg.set (fun b => b = w2.heap.size) w10 (p := ⟨w2.heap.size, 4, none⟩) rfl (.bool hv)).trans (Chg.set (fun b => b = w2.heap.size) _ (p := ⟨w2.heap.size, 5, none⟩) rfl (.slice Av val.length cv))
    obtain ⟨X, hX⟩ : ∃ X, X = (w10.setCell ⟨w2.heap.size, 4, none⟩ (.bool hv)).setCell ⟨w2.heap.size, 5, none⟩ (.slice Av val.length cv) := ⟨_, rfl⟩
    rw [← hX] at hC11 c11
    have hC11 : X.heap[w2.heap.size]? = some (.cells #[.int .i64 (o + dk), .int .i64 (t + dt), .bool hk, .slice Ak key.length ck, .bool hv, .slice Av val.length cv] 46 (0, 0)) := by simpa using hC11
    have hA11 := c11.blk hA10 (by omega)
    have hR11 : RdB X (w.heap.size + 1) A l.length c a5 f5 := c11.blk hR10 (by omega)
    have b11 := b10.trans (c11.below b10.size (fun i hi => by omega))
    have hz11 := c11.size
    have HK11 := AppP.chg HK10 c11 (fun b _ h1 h2 => by omega)
    have HV11 := AppP.chg HV c11 (fun b _ h1 h2 => by omega)
    have HX := Lib.hid hX
    obtain ⟨r0, r1, r2, rf⟩ := thr hR10
    obtain ⟨y0, y1, y2, y3, y4, y5, yf⟩ := six hA10
    obtain ⟨x0, x1, x2, x3, x4, x5, xf⟩ := six hA11
    clear hX c11 hC10 hA10 b10 HK10 HV HK9 hC9 hA9 hR9 b9 c10 hvr
    cases hf5 : f5
    case true =>
      have HQ := Lib.hid (show rdRec l p o t = none by rw [FIVE.out, if_pos (.inl hf5)])
      rw [hf5] at r2
      clear hf5
      go_wp2
      rw [← HX.out]
      refine bodyPost_ret (v := .tuple #[.agg ZREC, .int .i64 0, .bool false]) (by simp [results, Tryd.results44, go_sem, x0, x1, x2, x3, x4, x5]) rfl ⟨.slice none 0 0, .slice none 0 0, by rw [HQ.out]; rfl, by rw [HQ.out]; exact Copied.zero (b11.trans (zero6.below b11.size (fun i hi => by omega)))⟩
    case false =>
      rw [hf5] at r2
      by_cases hme : (a5 : Int) - a = m
      · have hmn : ((a5 : Int) - (a : Int) != m) = false := by simpa using hme
        have HME := Lib.hid hme
        have HF5 := Lib.hid hf5
        obtain ⟨_, _, ek, hkI⟩ := AppP.row HK11
        obtain ⟨_, _, ev, hvI⟩ := AppP.row HV11
        injection ek with ek1 ek2 ek3
        injection ev with ev1 ev2 ev3
        subst ek1 ek3 ev1 ev3
        clear hme hf5 ek2 ev2
        go_wp2_with fail
        rw [← HX.out]
        refine (RecordValid_any ⟨o + dk, t + dt, hk, key, hv, val⟩ Ak Av ck cv (fun _ => True) X (hkI.mono (fun _ _ => trivial)) (hvI.mono (fun _ _ => trivial))).mono ?_
        rintro e w12 ⟨rfl, hb12⟩
        have hA12 := blk_below hA11 hb12
        have hC12 := blk_below hC11 hb12
        have hR12 := hR11.below hb12
        have b12 := bthen b11 hb12
        have HK12 := AppP.below HK11 hb12
        have HV12 := AppP.below HV11 hb12
        clear x0 x1 x2 x3 x4 x5 xf y0 y1 y2 y3 y4 y5 yf z0 z1 z2 z3 z4 z5 zf r0 r1 r2 rf hkI hvI HX hA11 hC11 hR11 HK11 HV11 b11
        obtain ⟨x0, x1, x2, x3, x4, x5, xf⟩ := six hA12
        obtain ⟨z0, z1, z2, z3, z4, z5, zf⟩ := six hC12
        obtain ⟨r0, r1, r2, rf⟩ := thr hR12
        cases hrb : recB ⟨o + dk, t + dt, hk, key, hv, val⟩
        · have HQ := Lib.hid (show rdRec l p o t = none by rw [FIVE.out, if_pos (.inr (.inr hrb))])
          clear hrb
          go_wp2
          refine bodyPost_ret (v := .tuple #[.agg ZREC, .int .i64 0, .bool false]) (by simp [results, Tryd.results44, go_sem, x0, x1, x2, x3, x4, x5]) rfl ⟨.slice none 0 0, .slice none 0 0, by rw [HQ.out]; rfl, by rw [HQ.out]; exact Copied.zero (b12.trans (zero6.below b12.size (fun i hi => by omega)))⟩
        · have HQ := Lib.hid (show rdRec l p o t = some (⟨o + dk, t + dt, hk, key, hv, val⟩, a5) by
            rw [FIVE.out, if_neg]
            rintro (h | h | h)
            · rw [HF5.out] at h; cases h
            · exact h HME.out
            · rw [hrb] at h; cases h)
          clear hrb
          have cZ := (Chg.setCells (fun b => b = w.heap.size) (g := w.heap.size) rfl [.int .i64 (o + dk), .int .i64 (t + dt), .bool hk, .slice Ak key.length ck, .bool hv, .slice Av val.length cv] 0 w12).drew
          have HCOP := Lib.hid (show Copied w _ ⟨o + dk, t + dt, hk, key, hv, val⟩ (.slice Ak key.length ck) (.slice Av val.length cv) from
            ⟨App.from (AppP.chg HK12 cZ (fun b _ h1 h2 => by omega)) (by omega), App.from (AppP.chg HV12 cZ (fun b _ h1 h2 => by omega)) (by omega), fun g h1 h2 => by have := hkl g h1; have := hvg g h2; omega, b12.trans (cZ.below b12.size (fun i hi => by omega))⟩)
          clear cZ HK12 HV12 hkl hvg hA12 hC12 hR12
          go_wp2_with fail
          go_region
          all_goals
            go_wp2
            exact bodyPost_ret (v := .tuple #[.agg #[.int .i64 (o + dk), .int .i64 (t + dt), .bool hk, .slice Ak key.length ck, .bool hv, .slice Av val.length cv], .int .i64 (a5 : Int), .bool true]) (by simp [results, Tryd.results44, go_sem, x0, x1, x2, x3, x4, x5]) rfl ⟨.slice Ak key.length ck, .slice Av val.length cv, by rw [HQ.out]; rfl, by rw [HQ.out]; exact HCOP.out⟩
      · have hmn : ((a5 : Int) - (a : Int) != m) = true := by simpa using hme
        have HQ := Lib.hid (show rdRec l p o t = none by rw [FIVE.out, if_pos (.inr (.inl hme))])
        clear hf5 hme
        go_wp2
        rw [← HX.out]
        refine bodyPost_ret (v := .tuple #[.agg ZREC, .int .i64 0, .bool false]) (by simp [results, Tryd.results44, go_sem, x0, x1, x2, x3, x4, x5]) rfl ⟨.slice none 0 0, .slice none 0 0, by rw [HQ.out]; rfl, by rw [HQ.out]; exact Copied.zero (b11.trans (zero6.below b11.size (fun i hi => by omega)))⟩
end Go.Proofs.YtgnjnpfeofhniaaDoor
