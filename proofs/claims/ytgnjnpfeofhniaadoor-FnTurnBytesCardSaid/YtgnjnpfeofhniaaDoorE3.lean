/- Equality of lists of records, of batches. Equality of segments. Equality in the laws. -/
import Derived.Test.YtgnjnpfeofhniaaDoorE1
namespace Go.Proofs.YtgnjnpfeofhniaaDoor
set_option linter.unusedVariables false
set_option linter.unusedSimpArgs false
section
open Go.RowKit

end

section
open Go.RowKit

end

section
open Go.RowKit

set_option maxHeartbeats 2000000 in
theorem sameRecords_any (xs ys : List Rec) (A A' : Option Addr) (c c' : Nat) (F F' : Nat → Prop) (w : World) (h : Recs w F A c xs) (h' : Recs w F' A' c' ys) :
    Calls Tryd.prog 19 #[.slice A xs.length c, .slice A' ys.length c'] w fun e w' => e = .returned (.bool (decide (xs = ys))) ∧ Below w.heap.size w w' := by
  have hl := h.1
  have hc := h.2.1
  have hl' := h'.1
  have hc' := h'.2.1
  by_cases hlen : xs.length = ys.length
  · have n1 : ((xs.length : Int) != (ys.length : Int)) = false := by simp [hlen]
    have HL := Lib.hid hlen
    have hy1 : xs.length ≤ ys.length := by omega
    clear hlen
    go_enter Tryd.func19, Tryd.ntmps19
    go_wp2
    go_loopw [5] (fun i wr => ∃ k : Nat, k ≤ xs.length ∧ i = .int .i64 k ∧ Hid (xs.take k = ys.take k) ∧ Hid (Below w.heap.size w wr)) (fun i _ => xs.length - (intOf i).toNat)
    case atStart => exact ⟨0, Nat.zero_le _, rfl, Lib.hid (by simp), Lib.hid (Below.refl _ _)⟩
    case round =>
      obtain ⟨k, hk, rfl, ht, hb⟩ := hrel
      by_cases hlt : k < xs.length
      · have hlt' : k < ys.length := by omega
        obtain ⟨ad, B1, b1, B2, b2, rfl, _, i1, i2, q0, q1, q2, q3, q4, q5⟩ := (h.below hb.out).rec_at hlt
        obtain ⟨ad2, C1, c1, C2, c2, rfl, _, j1, j2, p0, p1, p2, p3, p4, p5⟩ := (h'.below hb.out).rec_at hlt'
        have Q0 := grow_cell q0
        have Q1 := grow_cell q1
        have Q2 := grow_cell q2
        have Q3 := grow_cell q3
        have Q4 := grow_cell q4
        have Q5 := grow_cell q5
        have P0 := grow_cell p0
        have P1 := grow_cell p1
        have P2 := grow_cell p2
        have P3 := grow_cell p3
        have P4 := grow_cell p4
        have P5 := grow_cell p5
        have hcall : ∀ g, Calls Tryd.prog 33 #[.agg #[.int .i64 xs[k].off, .int .i64 xs[k].time, .bool xs[k].hk, .slice B1 xs[k].key.length b1, .bool xs[k].hv, .slice B2 xs[k].val.length b2], .agg #[.int .i64 ys[k].off, .int .i64 ys[k].time, .bool ys[k].hk, .slice C1 ys[k].key.length c1, .bool ys[k].hv, .slice C2 ys[k].val.length c2]] (grow wr g) fun e w'' => e = .returned (.bool (decide (xs[k] = ys[k]))) ∧ ∃ g', w'' = grow wr g' := fun g =>
          Calls.grow_of (sameRecord_any xs[k] ys[k] B1 B2 C1 C2 b1 b2 c1 c2 F F' _ (i1.below (grow_below _ _)) (i2.below (grow_below _ _)) (j1.below (grow_below _ _)) (j2.below (grow_below _ _)))
        clear q0 q1 q2 q3 q4 q5 p0 p1 p2 p3 p4 p5
        have hbr : ∀ g, Below w.heap.size w (grow wr g) := fun g => bthen hb.out (grow_below _ g)
        by_cases he : xs[k] = ys[k]
        · rw [decide_eq_true he] at hcall
          have HE := Lib.hid he
          clear he
          go_wp2_with fail
          refine wp_region_grow_lit (by kernel_rfl) (by kernel_rfl) ?_
          repeat (go_big_quiet_step (exact hcall _))
          refine wpQuiet_nil ?_
          rintro _ ⟨g, rfl⟩
          have hbg := Lib.hid (hbr g)
          clear hbr hcall
          go_wp2
          go_roundw
          case rel => exact ⟨k + 1, by omega, by go_num, Lib.hid (take_eq_succ ht.out hlt hlt' HE.out), hbg⟩
          case measure => simp [intOf]; omega
        · rw [decide_eq_false he] at hcall
          have HE := Lib.hid (ne_of_get hlt hlt' he)
          clear he
          go_wp2_with fail
          refine wp_region_grow_lit (by kernel_rfl) (by kernel_rfl) ?_
          repeat (go_big_quiet_step (exact hcall _))
          refine wpQuiet_nil ?_
          rintro _ ⟨g, rfl⟩
          have hbg := Lib.hid (hbr g)
          clear hbr hcall
          go_wp2
          go_ret
          exact ⟨ret_bool (decide_eq_false HE.out).symm, hbg.out⟩
      · go_wp2
        go_ret
        exact ⟨ret_bool (decide_eq_true (take_eq_end ht.out (by omega) HL.out)).symm, hb.out⟩
  · have n1 : ((xs.length : Int) != (ys.length : Int)) = true := by simp; omega
    have hne : xs ≠ ys := fun e => hlen (by rw [e])
    clear hlen
    go_enter Tryd.func19, Tryd.ntmps19
    go_wp2
    go_ret
    exact ⟨ret_bool (decide_eq_false hne).symm, Below.refl _ _⟩



set_option maxHeartbeats 1000000 in
theorem sameBatch_any (x y : Bat) (A B : Option Addr) (c b : Nat) (F G : Nat → Prop) (w : World) (h1 : Recs w F A c x.recs) (h2 : Recs w G B b y.recs) :
    Calls Tryd.prog 7 #[.agg #[.bool x.packed, .bool x.mark, .int .i64 x.prod, .int .i64 x.epoch, .int .i64 x.seq, .slice A x.recs.length c], .agg #[.bool y.packed, .bool y.mark, .int .i64 y.prod, .int .i64 y.epoch, .int .i64 y.seq, .slice B y.recs.length b]] w fun e w' => e = .returned (.bool (decide (x = y))) ∧ Below w.heap.size w w' := by
  have hd : decide (x = y) = ((x.packed == y.packed) && (x.mark == y.mark) && (x.prod == y.prod) && (x.epoch == y.epoch) && (x.seq == y.seq) && decide (x.recs = y.recs)) := by
    obtain ⟨a1, a2, a3, a4, a5, a6⟩ := x
    obtain ⟨b1, b2, b3, b4, b5, b6⟩ := y
    rw [Bool.eq_iff_iff]
    simp [and_assoc]
  rw [hd]
  clear hd
  cases n1 : (x.packed == y.packed)
  case' true => cases n2 : (x.mark == y.mark)
  case' true.true => cases n3 : (x.prod == y.prod)
  case' true.true.true => cases n4 : (x.epoch == y.epoch)
  case' true.true.true.true => cases n5 : (x.seq == y.seq)
  all_goals
    go_enter Tryd.func7, Tryd.ntmps7
    go_wp2_with fail
  all_goals first
    | (go_ret; exact ⟨ret_bool (by first | rfl | (cases x.packed <;> cases y.packed <;> cases x.mark <;> cases y.mark <;> simp_all)), bthen (bal _ _) (bal _ _)⟩)
    | (generalize hW : World.alloc _ _ = W
       obtain ⟨p1, p2, hbW, _⟩ := alloc2 hW
       clear hW
       refine (sameRecords_any x.recs y.recs A B c b F G W (h1.below hbW) (h2.below hbW)).mono ?_
       rintro e w1 ⟨rfl, hb1⟩
       go_wp2
       go_ret
       refine ⟨ret_bool ?_, bthen hbW hb1⟩
       first | rfl | (simp [*]; done) | (simp_all; done))

end
end Go.Proofs.YtgnjnpfeofhniaaDoor
