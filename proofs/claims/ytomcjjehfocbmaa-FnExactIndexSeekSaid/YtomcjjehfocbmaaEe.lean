/- Equality of lists of entries. -/
import Derived.Test.YtomcjjehfocbmaaE1
namespace Go.Proofs.Ytomcjjehfocbmaa
set_option linter.unusedVariables false
set_option linter.unusedSimpArgs false
open Go.RowKit

theorem eqEntry_any (a b : Ent) (w : World) :
    Calls Try.prog 48 #[.agg #[.int .i64 a.off, .int .i64 a.place], .agg #[.int .i64 b.off, .int .i64 b.place]] w fun e w' => e = .returned (.bool (decide (a = b))) ∧ Below w.heap.size w w' := by
  obtain ⟨a0, a1⟩ := a
  obtain ⟨b0, b1⟩ := b
  by_cases h0 : a0 = b0 <;> by_cases h1 : a1 = b1
  · subst h0 h1
    go_enter Try.func48, Try.ntmps48
    go_wp2
    go_ret
    exact ⟨by simp, bthen (bal _ _) (bal _ _)⟩
  · subst h0
    have n1 : (a1 != b1) = true := by simp [h1]
    go_enter Try.func48, Try.ntmps48
    go_wp2
    go_ret
    exact ⟨by simp [h1], bthen (bal _ _) (bal _ _)⟩
  all_goals
    have n1 : (a0 != b0) = true := by simp [h0]
    go_enter Try.func48, Try.ntmps48
    go_wp2
    go_ret
    exact ⟨by simp [h0], bthen (bal _ _) (bal _ _)⟩

set_option maxHeartbeats 1000000 in
theorem eqEntryS_any (xs ys : List Ent) (A A' : Option Addr) (c c' : Nat) (F F' : Nat → Prop) (w : World) (h : Ents w F A c xs) (h' : Ents w F' A' c' ys) :
    Calls Try.prog 18 #[.slice A xs.length c, .slice A' ys.length c'] w fun e w' => e = .returned (.bool (decide (xs = ys))) ∧ Below w.heap.size w w' := by
  have hl := h.1
  have hc := h.2.1
  have hl' := h'.1
  have hc' := h'.2.1
  by_cases hlen : xs.length = ys.length
  · have n1 : ((xs.length : Int) != (ys.length : Int)) = false := by simp [hlen]
    have HL := Lib.hid hlen
    have hy1 : xs.length ≤ ys.length := by omega
    clear hlen
    go_enter Try.func18, Try.ntmps18
    go_wp2
    go_loopw [5] (fun i wr => ∃ k : Nat, k ≤ xs.length ∧ i = .int .i64 k ∧ Hid (xs.take k = ys.take k) ∧ Hid (Below w.heap.size w wr)) (fun i _ => xs.length - (intOf i).toNat)
    case atStart => exact ⟨0, Nat.zero_le _, rfl, Lib.hid (by simp), Lib.hid (Below.refl _ _)⟩
    case round =>
      obtain ⟨k, hk, rfl, ht, hb⟩ := hrel
      by_cases hlt : k < xs.length
      · have hlt' : k < ys.length := by omega
        obtain ⟨ad, rfl, _, q0, q1⟩ := (h.below hb.out).ent_at hlt
        obtain ⟨ad2, rfl, _, p0, p1⟩ := (h'.below hb.out).ent_at hlt'
        have Q0 := grow_cell q0
        have Q1 := grow_cell q1
        have P0 := grow_cell p0
        have P1 := grow_cell p1
        have hcall : ∀ g, Calls Try.prog 48 #[.agg #[.int .i64 xs[k].off, .int .i64 xs[k].place], .agg #[.int .i64 ys[k].off, .int .i64 ys[k].place]] (grow wr g) fun e w'' => e = .returned (.bool (decide (xs[k] = ys[k]))) ∧ ∃ g', w'' = grow wr g' := fun g =>
          Calls.grow_of (eqEntry_any xs[k] ys[k] _)
        clear q0 q1 p0 p1
        have hbr : ∀ g, Below w.heap.size w (grow wr g) := fun g => bthen hb.out (grow_below _ g)
        by_cases he : xs[k] = ys[k]
        · rw [decide_eq_true he] at hcall
          have HE := Lib.hid he
          clear he
          go_wp2_with fail
          refine wp_region_grow_lit (by kernel_rfl) (by kernel_rfl) ?_
          repeat (go_big_quiet_step (exact hcall _))
          refine wpQuiet_nil ?_
          rintro _ ⟨g, rfl⟩
          have hbg := Lib.hid (hbr g)
          clear hbr hcall
          go_wp2
          go_roundw
          case rel => exact ⟨k + 1, by omega, by go_num, Lib.hid (take_eq_succ ht.out hlt hlt' HE.out), hbg⟩
          case measure => simp [intOf]; omega
        · rw [decide_eq_false he] at hcall
          have HE := Lib.hid (ne_of_get hlt hlt' he)
          clear he
          go_wp2_with fail
          refine wp_region_grow_lit (by kernel_rfl) (by kernel_rfl) ?_
          repeat (go_big_quiet_step (exact hcall _))
          refine wpQuiet_nil ?_
          rintro _ ⟨g, rfl⟩
          have hbg := Lib.hid (hbr g)
          clear hbr hcall
          go_wp2
          go_ret
          exact ⟨ret_bool (decide_eq_false HE.out).symm, hbg.out⟩
      · go_wp2
        go_ret
        exact ⟨ret_bool (decide_eq_true (take_eq_end ht.out (by omega) HL.out)).symm, hb.out⟩
  · have n1 : ((xs.length : Int) != (ys.length : Int)) = true := by simp; omega
    have hne : xs ≠ ys := fun e => hlen (by rw [e])
    clear hlen
    go_enter Try.func18, Try.ntmps18
    go_wp2
    go_ret
    exact ⟨ret_bool (decide_eq_false hne).symm, Below.refl _ _⟩
end Go.Proofs.Ytomcjjehfocbmaa
