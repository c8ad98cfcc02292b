/- Reading variable numbers: the program. -/
import Derived.Test.YtgnjnpfeofhniaaDoorV2
namespace Go.Proofs.YtgnjnpfeofhniaaDoor
set_option linter.unusedVariables false
set_option linter.unusedSimpArgs false
open Go.RowKit

set_option maxRecDepth 10000 in
set_option maxHeartbeats 1000000 in
theorem varAt_any (l : List Int) (A : Option Addr) (c : Nat) (F : Nat → Prop) (i : Nat) (w : World) (h : Ints w F A c l) (hb : bytesB l = true) (hi : i ≤ 9000000000000000000) :
    Calls Tryd.prog 70 #[.slice A l.length c, .int .i64 (i : Int)] w fun e w' => e = .returned (rdVal (rdV l i)) ∧ w = w' := by
  have hl := h.1
  have hc := h.2.1
  have HBY := Lib.hid hb
  clear hb
  go_enter Tryd.func70, Tryd.ntmps70
  go_wp2_with fail
  go_loopw [1, 7, 8] (fun a f k wr => ∃ (kk : Int) (n p : Nat) (g u : Int), k = .int .i64 kk ∧ Hid ((kk = 0 ∧ n = 3 ∧ u = 1) ∨ (kk = 1 ∧ n = 2 ∧ u = 128) ∨ (kk = 2 ∧ n = 1 ∧ u = 16384) ∨ (kk = 3 ∧ n = 0 ∧ u = 2097152)) ∧ a = .int .i64 (p : Int) ∧ p ≤ 9000000000000000000 + 3 - n ∧ f = .int .i64 g ∧ Hid (rdV l i = rdGo l n p g u) ∧ 0 ≤ g ∧ Hid (g < u) ∧ wr = w) (fun _ _ k _ => 3 - (intOf k).toNat)
  case atStart => exact ⟨0, 3, i, 0, 1, rfl, Lib.hid (.inl ⟨rfl, rfl, rfl⟩), rfl, by omega, rfl, Lib.hid rfl, by omega, Lib.hid (by omega), rfl⟩
  case round =>
    obtain ⟨kk, n, p, g, u, rfl, HK, rfl, hp, rfl, HE, h0, HG, rfl⟩ := hrel
    have HGG := HG.out
    rcases HK.out with ⟨rfl, rfl, rfl⟩ | ⟨rfl, rfl, rfl⟩ | ⟨rfl, rfl, rfl⟩ | ⟨rfl, rfl, rfl⟩
    · skip
      by_cases hlt : p < l.length
      · obtain ⟨ad, rfl, _, q0⟩ := h.int_at hlt
        obtain ⟨hb0, hb1⟩ := byte_at HBY.out hlt
        obtain ⟨b, hbe⟩ : ∃ b, b = l[p] := ⟨_, rfl⟩
        rw [← hbe] at q0 hb0 hb1
        have hand0 : bits .and .i64 b 127 = b % 128 := and_mask 7 (by decide) hb0 (by omega)
        obtain ⟨m, hm⟩ : ∃ m, m = b % 128 := ⟨_, rfl⟩
        have hand : bits .and .i64 b 127 = m := by rw [hand0, hm]
        have hm0 : 0 ≤ m := by omega
        have hm1 : m ≤ 127 := by omega
        have hor0 : bits .or .i64 g (m) = g + m := or_low 0 h0 (by omega) (by omega) (by omega) (by omega) (by omega)
        obtain ⟨g2, hg2⟩ : ∃ g2, g2 = g + m := ⟨_, rfl⟩
        have hor : bits .or .i64 g (m) = g2 := by rw [hor0, hg2]
        have hg0 : 0 ≤ g2 := by omega
        have HG2 := Lib.hid (show g2 < 128 by omega)
        by_cases h7 : b < 128
        · have HR := Lib.hid (show rdV l i = if ((1 : Int) ≠ 1 ∧ b = 0) ∨ 2000000 < g2 then none else some (unfoldV g2, p + 1) by
            rw [HE.out, rdGo_last l 2 p g 1 hlt (by rw [← hbe]; exact h7), ← hbe, show g + 1 * b = g2 by omega])
          have HR2 := Lib.hid (show rdV l i = some (unfoldV g2, p + 1) by rw [HR.out, if_neg (by omega)])
          have hg3 : g2 ≤ 2000000 := by omega
          clear hand0 hor0 hg2 hm hbe HGG
          go_wp2_with fail
          refine (UnfoldNumber_any g2 _ hg0 hg3).mono ?_
          rintro e w' ⟨rfl, rfl⟩
          obtain ⟨x, hx⟩ : ∃ x, x = unfoldV g2 := ⟨_, rfl⟩
          rw [← hx]
          have HE2 := Lib.hid (show rdV l i = some (x, p + 1) by rw [HR2.out, hx])
          clear hx
          go_wp2
          exact bodyPost_ret (v := rdVal (some (x, p + 1))) (by simp [results, Tryd.results70, go_sem, rdVal]) rfl ⟨by rw [HE2.out], rfl⟩
        · have HE2 := Lib.hid (show rdV l i = rdGo l 2 (p + 1) g2 128 by rw [HE.out, rdGo_more l 2 p g 1 hlt (by rw [← hbe]; exact h7), ← hbe, show g + 1 * (b - 128) = g2 by omega]; rfl)
          clear hand0 hor0 hg2 hm hbe HGG
          go_wp2
          go_roundw
          case rel => exact ⟨1, 2, p + 1, g2, 128, by simp, Lib.hid (by decide), by simp, by omega, rfl, HE2, hg0, HG2, trivial⟩
          case measure => simp [intOf]
      · have HE2 := Lib.hid (show rdV l i = none by rw [HE.out, rdGo_end _ _ _ _ _ (by omega)])
        go_wp2
        exact bodyPost_ret (v := rdVal none) (by simp [results, Tryd.results70, go_sem, rdVal]) rfl ⟨by rw [HE2.out], rfl⟩
    · skip
      by_cases hlt : p < l.length
      · obtain ⟨ad, rfl, _, q0⟩ := h.int_at hlt
        obtain ⟨hb0, hb1⟩ := byte_at HBY.out hlt
        obtain ⟨b, hbe⟩ : ∃ b, b = l[p] := ⟨_, rfl⟩
        rw [← hbe] at q0 hb0 hb1
        have hand0 : bits .and .i64 b 127 = b % 128 := and_mask 7 (by decide) hb0 (by omega)
        obtain ⟨m, hm⟩ : ∃ m, m = b % 128 := ⟨_, rfl⟩
        have hand : bits .and .i64 b 127 = m := by rw [hand0, hm]
        have hm0 : 0 ≤ m := by omega
        have hm1 : m ≤ 127 := by omega
        have hor0 : bits .or .i64 g (m * 128) = g + m * 128 := or_low 7 h0 (by omega) (by omega) (by omega) (by omega) (by omega)
        obtain ⟨g2, hg2⟩ : ∃ g2, g2 = g + m * 128 := ⟨_, rfl⟩
        have hor : bits .or .i64 g (m * 128) = g2 := by rw [hor0, hg2]
        have hg0 : 0 ≤ g2 := by omega
        have HG2 := Lib.hid (show g2 < 16384 by omega)
        by_cases h7 : b < 128
        · have HR := Lib.hid (show rdV l i = if ((128 : Int) ≠ 1 ∧ b = 0) ∨ 2000000 < g2 then none else some (unfoldV g2, p + 1) by
            rw [HE.out, rdGo_last l 1 p g 128 hlt (by rw [← hbe]; exact h7), ← hbe, show g + 128 * b = g2 by omega])
          by_cases hz : b = 0
          · have HE2 := Lib.hid (show rdV l i = none by rw [HR.out, if_pos (.inl ⟨by decide, hz⟩)])
            clear hand0 hor0 hg2 hm hbe HGG
            subst hz
            go_wp2
            exact bodyPost_ret (v := rdVal none) (by simp [results, Tryd.results70, go_sem, rdVal]) rfl ⟨by rw [HE2.out], rfl⟩
          · have hzz : (b == 0) = false := by simpa using hz
            by_cases hbig : 2000000 < g2
            · have HE2 := Lib.hid (show rdV l i = none by rw [HR.out, if_pos (.inr hbig)])
              clear hand0 hor0 hg2 hm hbe HGG hz
              go_wp2
              exact bodyPost_ret (v := rdVal none) (by simp [results, Tryd.results70, go_sem, rdVal]) rfl ⟨by rw [HE2.out], rfl⟩
            · have HR2 := Lib.hid (show rdV l i = some (unfoldV g2, p + 1) by rw [HR.out, if_neg (by rintro (⟨_, h⟩ | h); exact hz h; exact hbig h)])
              have hg3 : g2 ≤ 2000000 := by omega
              clear hand0 hor0 hg2 hm hbe HGG hz hbig
              go_wp2_with fail
              refine (UnfoldNumber_any g2 _ hg0 hg3).mono ?_
              rintro e w' ⟨rfl, rfl⟩
              obtain ⟨x, hx⟩ : ∃ x, x = unfoldV g2 := ⟨_, rfl⟩
              rw [← hx]
              have HE2 := Lib.hid (show rdV l i = some (x, p + 1) by rw [HR2.out, hx])
              clear hx
              go_wp2
              exact bodyPost_ret (v := rdVal (some (x, p + 1))) (by simp [results, Tryd.results70, go_sem, rdVal]) rfl ⟨by rw [HE2.out], rfl⟩
        · have HE2 := Lib.hid (show rdV l i = rdGo l 1 (p + 1) g2 16384 by rw [HE.out, rdGo_more l 1 p g 128 hlt (by rw [← hbe]; exact h7), ← hbe, show g + 128 * (b - 128) = g2 by omega]; rfl)
          clear hand0 hor0 hg2 hm hbe HGG
          go_wp2
          go_roundw
          case rel => exact ⟨2, 1, p + 1, g2, 16384, by simp, Lib.hid (by decide), by simp, by omega, rfl, HE2, hg0, HG2, trivial⟩
          case measure => simp [intOf]
      · have HE2 := Lib.hid (show rdV l i = none by rw [HE.out, rdGo_end _ _ _ _ _ (by omega)])
        go_wp2
        exact bodyPost_ret (v := rdVal none) (by simp [results, Tryd.results70, go_sem, rdVal]) rfl ⟨by rw [HE2.out], rfl⟩
    · skip
      by_cases hlt : p < l.length
      · obtain ⟨ad, rfl, _, q0⟩ := h.int_at hlt
        obtain ⟨hb0, hb1⟩ := byte_at HBY.out hlt
        obtain ⟨b, hbe⟩ : ∃ b, b = l[p] := ⟨_, rfl⟩
        rw [← hbe] at q0 hb0 hb1
        have hand0 : bits .and .i64 b 127 = b % 128 := and_mask 7 (by decide) hb0 (by omega)
        obtain ⟨m, hm⟩ : ∃ m, m = b % 128 := ⟨_, rfl⟩
        have hand : bits .and .i64 b 127 = m := by rw [hand0, hm]
        have hm0 : 0 ≤ m := by omega
        have hm1 : m ≤ 127 := by omega
        have hor0 : bits .or .i64 g (m * 16384) = g + m * 16384 := or_low 14 h0 (by omega) (by omega) (by omega) (by omega) (by omega)
        obtain ⟨g2, hg2⟩ : ∃ g2, g2 = g + m * 16384 := ⟨_, rfl⟩
        have hor : bits .or .i64 g (m * 16384) = g2 := by rw [hor0, hg2]
        have hg0 : 0 ≤ g2 := by omega
        have HG2 := Lib.hid (show g2 < 2097152 by omega)
        by_cases h7 : b < 128
        · have HR := Lib.hid (show rdV l i = if ((16384 : Int) ≠ 1 ∧ b = 0) ∨ 2000000 < g2 then none else some (unfoldV g2, p + 1) by
            rw [HE.out, rdGo_last l 0 p g 16384 hlt (by rw [← hbe]; exact h7), ← hbe, show g + 16384 * b = g2 by omega])
          by_cases hz : b = 0
          · have HE2 := Lib.hid (show rdV l i = none by rw [HR.out, if_pos (.inl ⟨by decide, hz⟩)])
            clear hand0 hor0 hg2 hm hbe HGG
            subst hz
            go_wp2
            exact bodyPost_ret (v := rdVal none) (by simp [results, Tryd.results70, go_sem, rdVal]) rfl ⟨by rw [HE2.out], rfl⟩
          · have hzz : (b == 0) = false := by simpa using hz
            by_cases hbig : 2000000 < g2
            · have HE2 := Lib.hid (show rdV l i = none by rw [HR.out, if_pos (.inr hbig)])
              clear hand0 hor0 hg2 hm hbe HGG hz
              go_wp2
              exact bodyPost_ret (v := rdVal none) (by simp [results, Tryd.results70, go_sem, rdVal]) rfl ⟨by rw [HE2.out], rfl⟩
            · have HR2 := Lib.hid (show rdV l i = some (unfoldV g2, p + 1) by rw [HR.out, if_neg (by rintro (⟨_, h⟩ | h); exact hz h; exact hbig h)])
              have hg3 : g2 ≤ 2000000 := by omega
              clear hand0 hor0 hg2 hm hbe HGG hz hbig
              go_wp2_with fail
              refine (UnfoldNumber_any g2 _ hg0 hg3).mono ?_
              rintro e w' ⟨rfl, rfl⟩
              obtain ⟨x, hx⟩ : ∃ x, x = unfoldV g2 := ⟨_, rfl⟩
              rw [← hx]
              have HE2 := Lib.hid (show rdV l i = some (x, p + 1) by rw [HR2.out, hx])
              clear hx
              go_wp2
              exact bodyPost_ret (v := rdVal (some (x, p + 1))) (by simp [results, Tryd.results70, go_sem, rdVal]) rfl ⟨by rw [HE2.out], rfl⟩
        · have HE2 := Lib.hid (show rdV l i = rdGo l 0 (p + 1) g2 2097152 by rw [HE.out, rdGo_more l 0 p g 16384 hlt (by rw [← hbe]; exact h7), ← hbe, show g + 16384 * (b - 128) = g2 by omega]; rfl)
          clear hand0 hor0 hg2 hm hbe HGG
          go_wp2
          go_roundw
          case rel => exact ⟨3, 0, p + 1, g2, 2097152, by simp, Lib.hid (by decide), by simp, by omega, rfl, HE2, hg0, HG2, trivial⟩
          case measure => simp [intOf]
      · have HE2 := Lib.hid (show rdV l i = none by rw [HE.out, rdGo_end _ _ _ _ _ (by omega)])
        go_wp2
        exact bodyPost_ret (v := rdVal none) (by simp [results, Tryd.results70, go_sem, rdVal]) rfl ⟨by rw [HE2.out], rfl⟩
    · have HE2 := Lib.hid (show rdV l i = none from HE.out)
      go_wp2
      exact bodyPost_ret (v := rdVal none) (by simp [results, Tryd.results70, go_sem, rdVal]) rfl ⟨by rw [HE2.out], rfl⟩
end Go.Proofs.YtgnjnpfeofhniaaDoor
