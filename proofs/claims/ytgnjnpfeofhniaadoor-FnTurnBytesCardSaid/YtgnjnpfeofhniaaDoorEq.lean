/- slices.Equal of numbers. -/
import Derived.Test.YtgnjnpfeofhniaaDoorE1
namespace Go.Proofs.YtgnjnpfeofhniaaDoor
set_option linter.unusedVariables false
set_option linter.unusedSimpArgs false
open Go.RowKit

theorem Equal_any (xs ys : List Int) (A A' : Option Addr) (c c' : Nat) (F F' : Nat → Prop) (w : World) (h : Ints w F A c xs) (h' : Ints w F' A' c' ys) :
    Calls Tryd.prog 45 #[.slice A xs.length c, .slice A' ys.length c'] w fun e w' => e = .returned (.bool (decide (xs = ys))) ∧ Below w.heap.size w w' := by
  have hl := h.1
  have hc := h.2.1
  have hl' := h'.1
  have hc' := h'.2.1
  by_cases hlen : xs.length = ys.length
  · have n1 : ((xs.length : Int) != (ys.length : Int)) = false := by simp [hlen]
    have HL := Lib.hid hlen
    have hy1 : xs.length ≤ ys.length := by omega
    clear hlen
    go_enter Tryd.func45, Tryd.ntmps45
    go_wp2
    go_loopw [13] (fun i wr => ∃ k : Nat, k ≤ xs.length ∧ i = .int .i64 k ∧ Hid (xs.take k = ys.take k) ∧ Hid (Below w.heap.size w wr)) (fun i _ => xs.length - (intOf i).toNat)
    case atStart => exact ⟨0, Nat.zero_le _, rfl, Lib.hid (by simp), Lib.hid (Below.refl _ _)⟩
    case round =>
      obtain ⟨k, hk, rfl, ht, hb⟩ := hrel
      by_cases hlt : k < xs.length
      · have hlt' : k < ys.length := by omega
        obtain ⟨ad, rfl, _, q⟩ := (h.below hb.out).int_at hlt
        obtain ⟨ad', rfl, _, q'⟩ := (h'.below hb.out).int_at hlt'
        have Q := grow_cell q
        have Q' := grow_cell q'
        clear q q'
        have hbr : ∀ g, Below w.heap.size w (grow wr g) := fun g => bthen hb.out (grow_below _ g)
        by_cases he : xs[k] = ys[k]
        · have n2 : (xs[k] != ys[k]) = false := by simp [he]
          have HE := Lib.hid he
          clear he
          go_wp2_with fail
          refine wp_region_grow_lit (by kernel_rfl) (by kernel_rfl) ?_
          repeat (go_big_quiet_step (fail))
          refine wpQuiet_nil ?_
          rintro _ ⟨g, rfl⟩
          have hbg := Lib.hid (hbr g)
          clear hbr
          go_wp2
          go_roundw
          case rel => exact ⟨k + 1, by omega, by go_num, Lib.hid (take_eq_succ ht.out hlt hlt' HE.out), hbg⟩
          case measure => simp [intOf]; omega
        · have n2 : (xs[k] != ys[k]) = true := by simp [he]
          go_wp2_with fail
          refine wp_region_grow_lit (by kernel_rfl) (by kernel_rfl) ?_
          repeat (go_big_quiet_step (fail))
          refine wpQuiet_nil ?_
          rintro _ ⟨g, rfl⟩
          have hbg := Lib.hid (hbr g)
          clear hbr
          go_wp2
          go_ret
          exact ⟨ret_bool (decide_eq_false (ne_of_get hlt hlt' he)).symm, hbg.out⟩
      · have hk2 : k = xs.length := by omega
        have HQ := Lib.hid (show xs = ys by
          have := ht.out
          rw [hk2, List.take_length, HL.out, List.take_length] at this
          exact this)
        go_wp2
        go_ret
        exact ⟨ret_bool (decide_eq_true HQ.out).symm, hb.out⟩
  · have n1 : ((xs.length : Int) != (ys.length : Int)) = true := by simp; omega
    have HQ := Lib.hid (show ¬ xs = ys from fun e => hlen (by rw [e]))
    clear hlen
    go_enter Tryd.func45, Tryd.ntmps45
    go_wp2
    go_ret
    exact ⟨ret_bool (decide_eq_false HQ.out).symm, Below.refl _ _⟩
end Go.Proofs.YtgnjnpfeofhniaaDoor
