/- Equality of entries. -/
import Derived.Test.YtomcjjehfocbmaaGreatDoorE1
import Derived.Laws.StructEq
namespace Go.Proofs.YtomcjjehfocbmaaGreatDoor
set_option linter.unusedVariables false
set_option linter.unusedSimpArgs false
open Go.RowKit

theorem entFields : Tryz.prog.underlying 39 = some (.struct (Tryz.prog.fieldsOf 39)) := by kernel_rfl
theorem entHeld : Tryz.prog.stoodInHeld 39 = false := by kernel_rfl
theorem entGuard : Tryz.prog.eqGuardType Tryz.prog.depth 39 = false := by kernel_rfl
theorem part0 (x y : Int) (W : World) : (part 3 #[.int .i64 x, .int .i64 y] 0).run Tryz.prog W = .ok (.int .i64 x) W := by kernel_rfl
theorem part1 (x y : Int) (W : World) : (part 3 #[.int .i64 x, .int .i64 y] 1).run Tryz.prog W = .ok (.int .i64 y) W := by kernel_rfl
theorem equalEnt (a b : Ent) (W : World) : (Op.equalIn 10000 39 (.agg #[.int .i64 a.off, .int .i64 a.place]) (.agg #[.int .i64 b.off, .int .i64 b.place])).run Tryz.prog W = .ok (decide (a = b)) W := by
  obtain ⟨a0, a1⟩ := a
  obtain ⟨b0, b1⟩ := b
  rw [show (10000 : Nat) = 9998 + 1 + 1 from rfl, run_equalIn_struct W 9999 39 _ _ entFields entHeld]
  rw [show Tryz.prog.fieldsOf 39 = _ from by unfold Program.fieldsOf; rw [Tryz.underlying39]]
  have hi : ∀ (a b : Int) (W : World), (Op.equalIn 9999 3 (.int .i64 a) (.int .i64 b)).run Tryz.prog W = .ok (a == b) W := fun a b W => run_equalIn_int W 9998 3 .i64 .i64 a b Tryz.underlying3
  simp [Op.eqFields, part0, part1, hi, Result.andThen]
  by_cases h0 : a0 = b0 <;> by_cases h1 : a1 = b1 <;> simp [h0, h1, part0, part1, hi, Result.andThen]

theorem sameEntries_any (xs ys : List Ent) (A A' : Option Addr) (c c' : Nat) (F F' : Nat → Prop) (w : World) (h : Ents w F A c xs) (h' : Ents w F' A' c' ys) :
    Calls Tryz.prog 7 #[.slice A xs.length c, .slice A' ys.length c'] w fun e w' => e = .returned (.bool (decide (xs = ys))) ∧ Below w.heap.size w w' := by
  have hl := h.1
  have hc := h.2.1
  have hl' := h'.1
  have hc' := h'.2.1
  by_cases hlen : xs.length = ys.length
  · have n1 : ((xs.length : Int) != (ys.length : Int)) = false := by simp [hlen]
    have HL := Lib.hid hlen
    have hy1 : xs.length ≤ ys.length := by omega
    clear hlen
    go_enter Tryz.func7, Tryz.ntmps7
    go_wp2
    go_loopw [5] (fun i wr => ∃ k : Nat, k ≤ xs.length ∧ i = .int .i64 k ∧ Hid (xs.take k = ys.take k) ∧ Hid (Below w.heap.size w wr)) (fun i _ => xs.length - (intOf i).toNat)
    case atStart => exact ⟨0, Nat.zero_le _, rfl, Lib.hid (by simp), Lib.hid (Below.refl _ _)⟩
    case round =>
      obtain ⟨k, hk, rfl, ht, hb⟩ := hrel
      by_cases hlt : k < xs.length
      · have hlt' : k < ys.length := by omega
        obtain ⟨ad, rfl, _, q0, q1⟩ := (h.below hb.out).ent_at hlt
        obtain ⟨ad2, rfl, _, p0, p1⟩ := (h'.below hb.out).ent_at hlt'
        have Q0 := grow_cell q0
        have Q1 := grow_cell q1
        have P0 := grow_cell p0
        have P1 := grow_cell p1
        clear q0 q1 p0 p1
        have hbr : ∀ g, Below w.heap.size w (grow wr g) := fun g => bthen hb.out (grow_below _ g)
        by_cases he : xs[k] = ys[k]
        · have hq : ∀ W, (Op.equalIn 10000 39 (.agg #[.int .i64 xs[k].off, .int .i64 xs[k].place]) (.agg #[.int .i64 ys[k].off, .int .i64 ys[k].place])).run Tryz.prog W = .ok true W := fun W => by rw [equalEnt, decide_eq_true he]
          have hgd := entGuard
          have HE := Lib.hid he
          clear he
          go_wp2_with fail
          refine wp_region_grow_lit (by kernel_rfl) (by kernel_rfl) ?_
          repeat (go_big_quiet_step (fail))
          refine wpQuiet_nil ?_
          rintro _ ⟨g, rfl⟩
          have hbg := Lib.hid (hbr g)
          clear hbr
          go_wp2
          go_roundw
          case rel => exact ⟨k + 1, by omega, by go_num, Lib.hid (take_eq_succ ht.out hlt hlt' HE.out), hbg⟩
          case measure => simp [intOf]; omega
        · have hq : ∀ W, (Op.equalIn 10000 39 (.agg #[.int .i64 xs[k].off, .int .i64 xs[k].place]) (.agg #[.int .i64 ys[k].off, .int .i64 ys[k].place])).run Tryz.prog W = .ok false W := fun W => by rw [equalEnt, decide_eq_false he]
          have hgd := entGuard
          have HE := Lib.hid (ne_of_get hlt hlt' he)
          clear he
          go_wp2_with fail
          refine wp_region_grow_lit (by kernel_rfl) (by kernel_rfl) ?_
          repeat (go_big_quiet_step (fail))
          refine wpQuiet_nil ?_
          rintro _ ⟨g, rfl⟩
          have hbg := Lib.hid (hbr g)
          clear hbr
          go_wp2
          go_ret
          exact ⟨ret_bool (decide_eq_false HE.out).symm, hbg.out⟩
      · go_wp2
        go_ret
        exact ⟨ret_bool (decide_eq_true (take_eq_end ht.out (by omega) HL.out)).symm, hb.out⟩
  · have n1 : ((xs.length : Int) != (ys.length : Int)) = true := by simp; omega
    have hne : xs ≠ ys := fun e => hlen (by rw [e])
    clear hlen
    go_enter Tryz.func7, Tryz.ntmps7
    go_wp2
    go_ret
    exact ⟨ret_bool (decide_eq_false hne).symm, Below.refl _ _⟩
end Go.Proofs.YtomcjjehfocbmaaGreatDoor
