/- Draws: parts. -/
import Derived.Test.YtfflhenldegmmaaDn
namespace Go.Proofs.Ytfflhenldegmmaa
set_option linter.unusedVariables false
set_option linter.unusedSimpArgs false
open Go.RowKit

theorem l91Part_any (g N : Nat) (w : World) (h : RdN w g N) (hN : N ≤ 900000) :
    Calls Try.prog 57 #[.pointer (some ⟨g, 0, none⟩)] w fun e w' => ∃ (has : Bool) (xs : List Int) (v : Value), e = .returned (.tuple #[.bool has, v]) ∧ xs.length ≤ 12 ∧ App (Kind.int .i64) 3 w' w.heap.size v xs ∧ RdN w' g (N + 27) ∧ Chg (fun b => b = g) w w' := by
  go_enter Try.func57, Try.ntmps57
  go_wp2_with fail
  refine (pickN g N 4 w h (by omega) (by omega) (by omega)).mono ?_
  rintro e w1 ⟨v1, rfl, a1, b1, r1, c1⟩
  cases ht1 : (v1 == 0)
  · go_wp2_with fail
    refine (pickN g (N + 1) 5 _ (r1.below (bal _ _)) (by omega) (by omega) (by omega)).mono ?_
    rintro e w2 ⟨v2, rfl, a2, b2, r2, c2⟩
    go_wp2_with fail
    refine (pickN g (N + 1 + 1) 12 _ r2 (by omega) (by omega) (by omega)).mono ?_
    rintro e w3 ⟨v3, rfl, a3, b3, r3, c3⟩
    have hg1 := r1.lt
    have hg0 := h.lt
    have hs1 := c1.size
    have A1 := App.lit (Kind.int .i64) 3 w1 w.heap.size hs1
    have A2 := (A1.chg c2 (fun b _ h1 h2 => by omega)).chg c3 (fun b _ h1 h2 => by omega)
    have C3 : Chg (fun b => b = g) w w3 := ((c1.alloc _).same_g c2).same_g c3
    clear A1 c1 c2 c3 r1 r2
    generalize hv : Value.slice (some ⟨w1.heap.size, 0, none⟩) 0 0 = v0 at A2 ⊢
    clear hv
    have key : ∃ n : Nat, n ≤ 12 ∧ (v3 = 0 → n = 12) ∧ (v3 ≠ 0 → (n : Int) = v2) := by
      by_cases h : v3 = 0
      · exact ⟨12, by omega, fun _ => rfl, fun h' => absurd h h'⟩
      · exact ⟨v2.toNat, by omega, fun h' => absurd h' h, fun _ => by omega⟩
    obtain ⟨n, hn, k0, k1⟩ := key
    cases ht3 : (v3 == 0)
    · have hv2 := k1 (by simpa using ht3)
      subst hv2
      go_wp2_with fail
      go_loopw [4, 6] (fun v i wr => ∃ (k : Nat) (xs : List Int), k ≤ n ∧ i = .int .i64 k ∧ xs.length = k ∧ App (Kind.int .i64) 3 wr w.heap.size v xs ∧ RdN wr g (N + 3 + 2 * k) ∧ Hid (Chg (fun b => b = g) w wr)) (fun _ i _ => n - (intOf i).toNat)
      case atStart => exact ⟨0, [], by omega, rfl, rfl, A2, r3, Lib.hid C3⟩
      case round =>
        obtain ⟨k, xs, hk, rfl, hxl, HA, HR, HC⟩ := hrel
        have hsz := HC.out.size
        have hgr := HR.lt
        by_cases hlt : k < n
        · go_wp2_with fail
          refine (pickN g _ 256 _ HR (by omega) (by omega) (by omega)).mono ?_
          rintro e w4 ⟨v4, rfl, a4, b4, r4, c4⟩
          go_wp2_with fail
          refine (pickN g _ 4 _ (r4.below (bal _ _)) (by omega) (by omega) (by omega)).mono ?_
          rintro e w5 ⟨v5, rfl, a5, b5, r5, c5⟩
          have hnb : ¬ (w4.heap.size = g) := by have := r4.lt; omega
          have hblk := c5.blk (heap_alloc_new w4 (.cells #[.int .i64 1, .int .i64 2, .int .i64 3, .int .i64 v4] 3 (0, 0))) hnb
          obtain ⟨x, hx⟩ := lit_at [1, 2, 3, v4] hblk a5 b5
          clear hblk
          have HA2 := (((HA.chg c4 (fun b _ h1 h2 => by omega)).below (bal _ _)).chg c5 (fun b _ h1 h2 => by omega))
          have c6 := ((HC.out.same_g c4).alloc _).same_g c5
          have HC6 := Lib.hid c6
          clear c4 c5 c6 HA
          have hr5 := r5.lt
          go_wp2_with (at_builtin; go_loud (refine wpList_app (Kind.int .i64) HA2 rfl _ _ 23 (.int .i64 0) 8 rfl Try.underlying23 (by kernel_rfl) rfl (by decide) x [.int .i64 x] (fun _ => False) rfl rfl rfl ?_ ?_ ?_ ?_ ?_ ?_))
          · exact fun _ h => h.elim
          · simp [Value.oneCell']
          · have := HC6.out.size; exact this
          · omega
          · omega
          intro u1 W1 HA3 hc7
          have hc8 := HC6.out.then hc7 (fun i hi hb => absurd (HA2.ne hb) (by omega))
          have hr7 := (r5.chg hc7 (fun b hb => Nat.lt_of_lt_of_le hg0 (HA2.ne hb)))
          clear hc7 HC6
          go_wp2
          go_roundw
          case rel => exact ⟨k + 1, _, by omega, by go_num, by simp [hxl], HA3, hr7.le (by omega), Lib.hid hc8⟩
          case measure => simp [intOf]; omega
        · go_wp2
          go_ret2
          exact ⟨true, xs, _, rfl, by omega, HA, HR.le (by omega), HC.out⟩
    · have hn12 := k0 (by simpa using ht3)
      subst hn12
      go_wp2_with fail
      go_loopw [4, 6] (fun v i wr => ∃ (k : Nat) (xs : List Int), k ≤ 12 ∧ i = .int .i64 k ∧ xs.length = k ∧ App (Kind.int .i64) 3 wr w.heap.size v xs ∧ RdN wr g (N + 3 + 2 * k) ∧ Hid (Chg (fun b => b = g) w wr)) (fun _ i _ => 12 - (intOf i).toNat)
      case atStart => exact ⟨0, [], by omega, rfl, rfl, A2, r3, Lib.hid C3⟩
      case round =>
        obtain ⟨k, xs, hk, rfl, hxl, HA, HR, HC⟩ := hrel
        have hsz := HC.out.size
        have hgr := HR.lt
        by_cases hlt : k < 12
        · go_wp2_with fail
          refine (pickN g _ 256 _ HR (by omega) (by omega) (by omega)).mono ?_
          rintro e w4 ⟨v4, rfl, a4, b4, r4, c4⟩
          go_wp2_with fail
          refine (pickN g _ 4 _ (r4.below (bal _ _)) (by omega) (by omega) (by omega)).mono ?_
          rintro e w5 ⟨v5, rfl, a5, b5, r5, c5⟩
          have hnb : ¬ (w4.heap.size = g) := by have := r4.lt; omega
          have hblk := c5.blk (heap_alloc_new w4 (.cells #[.int .i64 1, .int .i64 2, .int .i64 3, .int .i64 v4] 3 (0, 0))) hnb
          obtain ⟨x, hx⟩ := lit_at [1, 2, 3, v4] hblk a5 b5
          clear hblk
          have HA2 := (((HA.chg c4 (fun b _ h1 h2 => by omega)).below (bal _ _)).chg c5 (fun b _ h1 h2 => by omega))
          have c6 := ((HC.out.same_g c4).alloc _).same_g c5
          have HC6 := Lib.hid c6
          clear c4 c5 c6 HA
          have hr5 := r5.lt
          go_wp2_with (at_builtin; go_loud (refine wpList_app (Kind.int .i64) HA2 rfl _ _ 23 (.int .i64 0) 8 rfl Try.underlying23 (by kernel_rfl) rfl (by decide) x [.int .i64 x] (fun _ => False) rfl rfl rfl ?_ ?_ ?_ ?_ ?_ ?_))
          · exact fun _ h => h.elim
          · simp [Value.oneCell']
          · have := HC6.out.size; exact this
          · omega
          · omega
          intro u1 W1 HA3 hc7
          have hc8 := HC6.out.then hc7 (fun i hi hb => absurd (HA2.ne hb) (by omega))
          have hr7 := (r5.chg hc7 (fun b hb => Nat.lt_of_lt_of_le hg0 (HA2.ne hb)))
          clear hc7 HC6
          go_wp2
          go_roundw
          case rel => exact ⟨k + 1, _, by omega, by go_num, by simp [hxl], HA3, hr7.le (by omega), Lib.hid hc8⟩
          case measure => simp [intOf]; omega
        · go_wp2
          go_ret2
          exact ⟨true, xs, _, rfl, by omega, HA, HR.le (by omega), HC.out⟩
  · go_wp2
    go_ret2
    exact ⟨false, [], _, rfl, by simp, App.lit _ _ _ _ c1.size, (r1.below (bal _ _)).le (by omega), c1.alloc _⟩
end Go.Proofs.Ytfflhenldegmmaa
