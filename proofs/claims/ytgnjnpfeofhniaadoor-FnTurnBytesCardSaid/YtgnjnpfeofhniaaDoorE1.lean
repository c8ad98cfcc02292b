/- Equality of numbers, records, batches. Equality in the laws: rows of numbers, records. -/
import Derived.Test.YtgnjnpfeofhniaaDoorGa
namespace Go.Proofs.YtgnjnpfeofhniaaDoor
set_option linter.unusedVariables false
set_option linter.unusedSimpArgs false
section
open Go.RowKit

theorem take_eq_succ {α : Type} {xs ys : List α} {k : Nat} (h : xs.take k = ys.take k) (hx : k < xs.length) (hy : k < ys.length) (he : xs[k] = ys[k]) : xs.take (k + 1) = ys.take (k + 1) := by
  rw [List.take_succ_eq_append_getElem hx, List.take_succ_eq_append_getElem hy, h, he]
theorem take_eq_end {α : Type} {xs ys : List α} {k : Nat} (h : xs.take k = ys.take k) (hx : xs.length ≤ k) (hl : xs.length = ys.length) : xs = ys := by
  rwa [List.take_of_length_le hx, List.take_of_length_le (by omega)] at h
theorem ne_of_get {α : Type} {xs ys : List α} {k : Nat} (hx : k < xs.length) (hy : k < ys.length) (he : xs[k] ≠ ys[k]) : xs ≠ ys := by
  rintro rfl; exact he rfl

end

section
open Go.RowKit

theorem sameInts_any (xs ys : List Int) (A A' : Option Addr) (c c' : Nat) (F F' : Nat → Prop) (w : World) (h : Ints w F A c xs) (h' : Ints w F' A' c' ys) :
    Calls Tryd.prog 52 #[.slice A xs.length c, .slice A' ys.length c'] w fun e w' => e = .returned (.bool (decide (xs = ys))) ∧ Below w.heap.size w w' := by
  have hl := h.1
  have hc := h.2.1
  have hl' := h'.1
  have hc' := h'.2.1
  by_cases hlen : xs.length = ys.length
  · have n1 : ((xs.length : Int) != (ys.length : Int)) = false := by simp [hlen]
    have HL := Lib.hid hlen
    have hy1 : xs.length ≤ ys.length := by omega
    clear hlen
    go_enter Tryd.func52, Tryd.ntmps52
    go_wp2
    go_loopw [5] (fun i wr => ∃ k : Nat, k ≤ xs.length ∧ i = .int .i64 k ∧ Hid (xs.take k = ys.take k) ∧ Hid (Below w.heap.size w wr)) (fun i _ => xs.length - (intOf i).toNat)
    case atStart => exact ⟨0, Nat.zero_le _, rfl, Lib.hid (by simp), Lib.hid (Below.refl _ _)⟩
    case round =>
      obtain ⟨k, hk, rfl, ht, hb⟩ := hrel
      by_cases hlt : k < xs.length
      · have hlt' : k < ys.length := by omega
        obtain ⟨ad, rfl, _, q⟩ := (h.below hb.out).int_at hlt
        obtain ⟨ad', rfl, _, q'⟩ := (h'.below hb.out).int_at hlt'
        have Q := grow_cell q
        have Q' := grow_cell q'
        clear q q'
        have hbr : ∀ g, Below w.heap.size w (grow wr g) := fun g => bthen hb.out (grow_below _ g)
        by_cases he : xs[k] = ys[k]
        · have n2 : (xs[k] != ys[k]) = false := by simp [he]
          have HE := Lib.hid he
          clear he
          go_wp2_with fail
          refine wp_region_grow_lit (by kernel_rfl) (by kernel_rfl) ?_
          repeat (go_big_quiet_step (fail))
          refine wpQuiet_nil ?_
          rintro _ ⟨g, rfl⟩
          have hbg := Lib.hid (hbr g)
          clear hbr
          go_wp2
          go_roundw
          case rel => exact ⟨k + 1, by omega, by go_num, Lib.hid (take_eq_succ ht.out hlt hlt' HE.out), hbg⟩
          case measure => simp [intOf]; omega
        · have n2 : (xs[k] != ys[k]) = true := by simp [he]
          go_wp2_with fail
          refine wp_region_grow_lit (by kernel_rfl) (by kernel_rfl) ?_
          repeat (go_big_quiet_step (fail))
          refine wpQuiet_nil ?_
          rintro _ ⟨g, rfl⟩
          have hbg := Lib.hid (hbr g)
          clear hbr
          go_wp2
          go_ret
          exact ⟨ret_bool (decide_eq_false (ne_of_get hlt hlt' he)).symm, hbg.out⟩
      · go_wp2
        go_ret
        exact ⟨ret_bool (decide_eq_true (take_eq_end ht.out (by omega) HL.out)).symm, hb.out⟩
  · have n1 : ((xs.length : Int) != (ys.length : Int)) = true := by simp; omega
    have hne : xs ≠ ys := fun e => hlen (by rw [e])
    clear hlen
    go_enter Tryd.func52, Tryd.ntmps52
    go_wp2
    go_ret
    exact ⟨ret_bool (decide_eq_false hne).symm, Below.refl _ _⟩


set_option maxHeartbeats 1000000 in
theorem sameRecord_any (r s : Rec) (A A' B B' : Option Addr) (c c' b b' : Nat) (F G : Nat → Prop) (w : World) (h1 : Ints w F A c r.key) (h2 : Ints w F A' c' r.val) (h3 : Ints w G B b s.key) (h4 : Ints w G B' b' s.val) :
    Calls Tryd.prog 33 #[.agg #[.int .i64 r.off, .int .i64 r.time, .bool r.hk, .slice A r.key.length c, .bool r.hv, .slice A' r.val.length c'], .agg #[.int .i64 s.off, .int .i64 s.time, .bool s.hk, .slice B s.key.length b, .bool s.hv, .slice B' s.val.length b']] w fun e w' => e = .returned (.bool (decide (r = s))) ∧ Below w.heap.size w w' := by
  have hd : decide (r = s) = ((r.off == s.off) && (r.time == s.time) && (r.hk == s.hk) && (r.hv == s.hv) && decide (r.key = s.key) && decide (r.val = s.val)) := by
    obtain ⟨a1, a2, a3, a4, a5, a6⟩ := r
    obtain ⟨b1, b2, b3, b4, b5, b6⟩ := s
    rw [Bool.eq_iff_iff]
    simp
    constructor
    · rintro ⟨h1, h2, h3, h4, h5, h6⟩; exact ⟨⟨⟨⟨⟨h1, h2⟩, h3⟩, h5⟩, h4⟩, h6⟩
    · rintro ⟨⟨⟨⟨⟨h1, h2⟩, h3⟩, h5⟩, h4⟩, h6⟩; exact ⟨h1, h2, h3, h4, h5, h6⟩
  rw [hd]
  clear hd
  cases n1 : (r.off == s.off)
  case' true => cases n2 : (r.time == s.time)
  case' true.true => cases n3 : (r.hk == s.hk)
  case' true.true.true => cases n4 : (r.hv == s.hv)
  case' true.true.true.true => cases n5 : decide (r.key = s.key)
  all_goals
    (try have HN5 := Lib.hid n5)
    (try clear n5)
    go_enter Tryd.func33, Tryd.ntmps33
    go_wp2_with fail
  all_goals first
    | (go_ret; exact ⟨ret_bool (by first | rfl | (cases r.hk <;> cases s.hk <;> simp_all)), bthen (bal _ _) (bal _ _)⟩)
    | (generalize hW : World.alloc _ _ = W
       obtain ⟨p1, p2, hbW, _⟩ := alloc2 hW
       clear hW
       refine (sameInts_any r.key s.key A B c b F G W (h1.below hbW) (h3.below hbW)).mono ?_
       rintro e w1 ⟨rfl, hb1⟩
       rw [HN5.out]
       replace p1 := blk_below p1 hb1
       replace p2 := blk_below p2 hb1
       obtain ⟨_, _, _, a3, a4, a5, _⟩ := six p1
       obtain ⟨_, _, _, b3, b4, b5, _⟩ := six p2
       have hb := Lib.hid (bthen hbW hb1)
       clear p1 p2 hb1 hbW
       go_wp2_with (go_at_call 52; refine (sameInts_any r.val s.val A' B' c' b' F G _ (h2.below hb.out) (h4.below hb.out)).mono ?_; rintro e w2 ⟨rfl, hb2⟩)
       all_goals
         go_ret
         refine ⟨ret_bool ?_, ?_⟩
         · first | rfl | (simp [*]; done) | (simp_all; done)
         · first | exact bthen hb.out hb2 | exact hb.out)
end
end Go.Proofs.YtgnjnpfeofhniaaDoor
