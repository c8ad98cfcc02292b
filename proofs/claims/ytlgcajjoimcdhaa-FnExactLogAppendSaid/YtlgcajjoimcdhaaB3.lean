/- first, last, LogValid of the program. -/
import Derived.Test.YtlgcajjoimcdhaaB2
namespace Go.Proofs.Ytlgcajjoimcdhaa
set_option linter.unusedVariables false
set_option linter.unusedSimpArgs false
open Go.RowKit

theorem first_any (b : Bat) (A : Option Addr) (c : Nat) (F : Nat → Prop) (w : World) (hr : Recs w F A c b.recs) (h0 : 0 < b.recs.length) :
    Calls Try.prog 67 #[.agg #[.bool b.packed, .bool b.mark, .int .i64 b.prod, .int .i64 b.epoch, .int .i64 b.seq, .slice A b.recs.length c]] w fun e w' => e = .returned (.int .i64 b.first) ∧ Below w.heap.size w w' := by
  have hl := hr.1
  have hc := hr.2.1
  have hr1 := hr.below (bal w (.cells #[.bool b.packed, .bool b.mark, .int .i64 b.prod, .int .i64 b.epoch, .int .i64 b.seq, .slice A b.recs.length c] 30))
  obtain ⟨ad, B, d, B', d', rfl, _, _, _, q0, _⟩ := hr1.rec_at h0
  rw [show ad.add (0 * 6) = ad from rfl] at q0
  have hf : b.first = (b.recs[0]).off := by unfold Bat.first; rw [recAt_eq h0]
  rw [hf]
  go_enter Try.func67, Try.ntmps67
  go_wp2
  go_ret
  exact ⟨rfl, bal _ _⟩

theorem last_any (b : Bat) (A : Option Addr) (c : Nat) (F : Nat → Prop) (w : World) (hr : Recs w F A c b.recs) (h0 : 0 < b.recs.length) :
    Calls Try.prog 56 #[.agg #[.bool b.packed, .bool b.mark, .int .i64 b.prod, .int .i64 b.epoch, .int .i64 b.seq, .slice A b.recs.length c]] w fun e w' => e = .returned (.int .i64 b.last) ∧ Below w.heap.size w w' := by
  have hl := hr.1
  have hc := hr.2.1
  have hr1 := hr.below (bal w (.cells #[.bool b.packed, .bool b.mark, .int .i64 b.prod, .int .i64 b.epoch, .int .i64 b.seq, .slice A b.recs.length c] 30))
  obtain ⟨ad, B, d, B', d', rfl, _, _, _, q0, _⟩ := hr1.rec_at (j := b.recs.length - 1) (by omega)
  have hf : b.last = (b.recs[b.recs.length - 1]).off := by unfold Bat.last; rw [recAt_eq (by omega)]
  rw [hf]
  go_enter Try.func56, Try.ntmps56
  go_wp2
  go_ret
  exact ⟨rfl, bal _ _⟩

set_option maxHeartbeats 1000000 in
theorem LogValid_any (bs : List Bat) (A : Option Addr) (c : Nat) (F : Nat → Prop) (w : World) (hr : Bats w F A c bs) :
    Calls Try.prog 24 #[.slice A bs.length c] w fun e w' => e = .returned (.bool (logB bs)) ∧ Below w.heap.size w w' := by
  have hl := hr.1
  have hc := hr.2.1
  by_cases h8 : bs.length ≤ 8
  · go_enter Try.func24, Try.ntmps24
    go_wp2
    have h8' := Lib.hid h8
    go_loopw [10] (fun i wr => ∃ k : Nat, k ≤ bs.length ∧ i = .int .i64 k ∧ Hid (allUpto (batStep bs) k = true) ∧ Hid (Below w.heap.size w wr)) (fun i _ => bs.length - (intOf i).toNat)
    case atStart => exact ⟨0, Nat.zero_le _, rfl, Lib.hid rfl, Lib.hid (Below.refl _ _)⟩
    case round =>
      obtain ⟨k, hk, rfl, ha, hb⟩ := hrel
      by_cases hlt : k < bs.length
      · have hrw := hr.below hb.out
        obtain ⟨ad, B, b, rfl, _, hi1, q0, q1, q2, q3, q4, q5⟩ := hrw.bat_at hlt
        go_wp2_with fail
        generalize hw2 : World.alloc _ _ = w2
        obtain ⟨hb2, _, e0, e1, e2, e3, e4, e5⟩ := box6 hw2
        clear hw2
        have E0 := grow_cell e0
        have E1 := grow_cell e1
        have E2 := grow_cell e2
        have E3 := grow_cell e3
        have E4 := grow_cell e4
        have E5 := grow_cell e5
        have hcall : ∀ g, Calls Try.prog 58 #[.agg #[.bool bs[k].packed, .bool bs[k].mark, .int .i64 bs[k].prod, .int .i64 bs[k].epoch, .int .i64 bs[k].seq, .slice B bs[k].recs.length b]] (grow w2 g) fun e w'' => e = .returned (.bool (batB bs[k])) ∧ ∃ g', w'' = grow w2 g' := fun g =>
          Calls.grow_of (BatchValid_any bs[k] B b F _ ((hi1.below hb2).below (grow_below _ _)))
        clear e0 e1 e2 e3 e4 e5 q0 q1 q2 q3 q4 q5
        have hbr : ∀ g, Below w.heap.size w (grow w2 g) := fun g => bthen (bthen hb.out hb2) (grow_below _ g)
        cases hR : batB bs[k]
        · rw [hR] at hcall
          refine wp_region_grow_lit (by kernel_rfl) (by kernel_rfl) ?_
          repeat (go_big_quiet_step (exact hcall _))
          refine wpQuiet_nil ?_
          rintro _ ⟨g, rfl⟩
          go_wp2
          go_ret
          exact ⟨ret_bool (by unfold logB; rw [allUpto_false hlt (batStep_bad hlt hR)]; simp), hbr g⟩
        · rw [hR] at hcall
          have HR := Lib.hid hR
          by_cases h0 : k = 0
          · have H0 := Lib.hid h0
            have d0 : decide (0 < k) = false := by simp [h0]
            have d1 : decide ((0 : Int) < (k : Int)) = false := by simp [h0]
            clear hR h0
            refine wp_region_grow_lit (by kernel_rfl) (by kernel_rfl) ?_
            repeat (go_big_quiet_step (exact hcall _))
            refine wpQuiet_nil ?_
            rintro _ ⟨g, rfl⟩
            have hbg := Lib.hid (hbr g)
            clear hbr hcall
            go_wp2
            go_roundw
            case rel => exact ⟨k + 1, by omega, by go_num, Lib.hid (by rw [allUpto_succ, ha.out, batStep_first hlt HR.out H0.out]; rfl), hbg⟩
            case measure => simp [intOf]; omega
          · have hk1 : k - 1 < bs.length := by omega
            obtain ⟨ad', B2, b2, ha2, _, hi2, q0, q1, q2, q3, q4, q5⟩ := hrw.bat_at hk1
            obtain rfl : ad = ad' := by injection ha2
            have G0 := grow_cell (below_cell hb2 q0)
            have G1 := grow_cell (below_cell hb2 q1)
            have G2 := grow_cell (below_cell hb2 q2)
            have G3 := grow_cell (below_cell hb2 q3)
            have G4 := grow_cell (below_cell hb2 q4)
            have G5 := grow_cell (below_cell hb2 q5)
            clear q0 q1 q2 q3 q4 q5
            have hpos : 0 < bs[k].recs.length := batB_pos hR
            have hpos1 : 0 < bs[k - 1].recs.length := batB_pos (batStep_batB hk1 (allUpto_iff.1 ha.out (k - 1) (by omega)))
            have hfirst : ∀ g, Calls Try.prog 67 #[.agg #[.bool bs[k].packed, .bool bs[k].mark, .int .i64 bs[k].prod, .int .i64 bs[k].epoch, .int .i64 bs[k].seq, .slice B bs[k].recs.length b]] (grow w2 g) fun e w'' => e = .returned (.int .i64 bs[k].first) ∧ ∃ g', w'' = grow w2 g' := fun g =>
              Calls.grow_of (first_any bs[k] B b F _ ((hi1.below hb2).below (grow_below _ _)) hpos)
            have hlast : ∀ g, Calls Try.prog 56 #[.agg #[.bool bs[k - 1].packed, .bool bs[k - 1].mark, .int .i64 bs[k - 1].prod, .int .i64 bs[k - 1].epoch, .int .i64 bs[k - 1].seq, .slice B2 bs[k - 1].recs.length b2]] (grow w2 g) fun e w'' => e = .returned (.int .i64 bs[k - 1].last) ∧ ∃ g', w'' = grow w2 g' := fun g =>
              Calls.grow_of (last_any bs[k - 1] B2 b2 F _ ((hi2.below hb2).below (grow_below _ _)) hpos1)
            have d0 : decide (0 < k) = true := by simp; omega
            have d1 : decide ((0 : Int) < (k : Int)) = true := by simp; omega
            clear hR
            by_cases hcmp : bs[k - 1].last < bs[k].first
            · have d2 : decide (bs[k].first ≤ bs[k - 1].last) = false := by simp; omega
              refine wp_region_grow_lit (by kernel_rfl) (by kernel_rfl) ?_
              repeat (go_big_quiet_step (first | exact hcall _ | exact hfirst _ | exact hlast _))
              refine wpQuiet_nil ?_
              rintro _ ⟨g, rfl⟩
              have hbg := Lib.hid (hbr g)
              clear hbr hcall hfirst hlast
              go_wp2
              go_roundw
              case rel => exact ⟨k + 1, by omega, by go_num, Lib.hid (by rw [allUpto_succ, ha.out, batStep_next hlt hk1 HR.out hcmp]; rfl), hbg⟩
              case measure => simp [intOf]; omega
            · have d2 : decide (bs[k].first ≤ bs[k - 1].last) = true := by simp; omega
              refine wp_region_grow_lit (by kernel_rfl) (by kernel_rfl) ?_
              repeat (go_big_quiet_step (first | exact hcall _ | exact hfirst _ | exact hlast _))
              refine wpQuiet_nil ?_
              rintro _ ⟨g, rfl⟩
              have hbg := Lib.hid (hbr g)
              clear hbr hcall hfirst hlast
              go_wp2
              go_ret
              exact ⟨ret_bool (by unfold logB; rw [allUpto_false hlt (batStep_fall hlt hk1 h0 (by omega))]; simp), hbg.out⟩
      · go_wp2
        go_ret
        exact ⟨ret_bool (by unfold logB; rw [← show k = bs.length by omega, ha.out]; simp; have := h8'.out; omega), hb.out⟩
  · go_enter Try.func24, Try.ntmps24
    go_wp2
    go_ret
    exact ⟨ret_bool (by unfold logB; simp [h8]), Below.refl _ _⟩
end Go.Proofs.Ytlgcajjoimcdhaa
