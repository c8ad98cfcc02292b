/- Validity of entries. -/
import Derived.Test.YtomcjjehfocbmaaGreatDoorGa
namespace Go.Proofs.YtomcjjehfocbmaaGreatDoor
set_option linter.unusedVariables false
set_option linter.unusedSimpArgs false
open Go.RowKit

theorem within_any (n l h : Int) (w : World) :
    Calls Tryz.prog 15 #[.int .i64 n, .int .i64 l, .int .i64 h] w fun e w' => e = .returned (.bool (inB n l h)) ∧ w = w' := by
  go_enter Tryz.func15, Tryz.ntmps15
  go_wp2
  all_goals (go_ret; refine ⟨ret_bool ?_, rfl⟩; unfold inB; first | (simp [*]; done) | (simp [*]; omega))
theorem l6In_any (n l h : Int) (w : World) :
    Calls Tryz.prog 19 #[.int .i64 n, .int .i64 l, .int .i64 h] w fun e w' => e = .returned (.bool (inB n l h)) ∧ w = w' := by
  go_enter Tryz.func19, Tryz.ntmps19
  go_wp2
  all_goals (go_ret; refine ⟨ret_bool ?_, rfl⟩; unfold inB; first | (simp [*]; done) | (simp [*]; omega))

set_option maxHeartbeats 8000000 in
theorem IndexValid_any (es : List Ent) (A : Option Addr) (c : Nat) (F : Nat → Prop) (w : World) (hr : Ents w F A c es) :
    Calls Tryz.prog 10 #[.slice A es.length c] w fun e w' => e = .returned (.bool (entsB es)) ∧ Below w.heap.size w w' := by
  have hl := hr.1
  have hc := hr.2.1
  by_cases h8 : es.length ≤ 8
  · go_enter Tryz.func10, Tryz.ntmps10
    go_wp2
    have h8' := Lib.hid h8
    go_loopw [10] (fun i wr => ∃ k : Nat, k ≤ es.length ∧ i = .int .i64 k ∧ Hid (allUpto (entStep es) k = true) ∧ Hid (Below w.heap.size w wr)) (fun i _ => es.length - (intOf i).toNat)
    case atStart => exact ⟨0, Nat.zero_le _, rfl, Lib.hid rfl, Lib.hid (Below.refl _ _)⟩
    case round =>
      obtain ⟨k, hk, rfl, ha, hb⟩ := hrel
      by_cases hlt : k < es.length
      · have hrw := hr.below hb.out
        obtain ⟨ad, rfl, _, q0, q1⟩ := hrw.ent_at hlt
        cases hR : inB es[k].off 0 99999 <;> cases hP : inB es[k].place 0 99999 <;> have HR := Lib.hid hR <;> have HP := Lib.hid hP <;> clear hR hP
        · go_wp2_with (go_at_call 15; refine (within_any _ _ _ _).mono ?_; rintro e w' ⟨rfl, rfl⟩; first | rw [HR.out] | rw [HP.out])
          go_ret
          exact ⟨ret_bool (by unfold entsB; rw [allUpto_false hlt (entStep_bad hlt (by simp [entB, HR.out]))]; simp), by first | exact hb.out | exact bthen hb.out (bal _ _)⟩
        · go_wp2_with (go_at_call 15; refine (within_any _ _ _ _).mono ?_; rintro e w' ⟨rfl, rfl⟩; first | rw [HR.out] | rw [HP.out])
          go_ret
          exact ⟨ret_bool (by unfold entsB; rw [allUpto_false hlt (entStep_bad hlt (by simp [entB, HR.out]))]; simp), by first | exact hb.out | exact bthen hb.out (bal _ _)⟩
        · go_wp2_with (go_at_call 15; refine (within_any _ _ _ _).mono ?_; rintro e w' ⟨rfl, rfl⟩; first | rw [HR.out] | rw [HP.out])
          go_ret
          exact ⟨ret_bool (by unfold entsB; rw [allUpto_false hlt (entStep_bad hlt (by simp [entB, HP.out]))]; simp), by first | exact hb.out | exact bthen hb.out (bal _ _)⟩
        · have hE : entB es[k] = true := by simp [entB, HR.out, HP.out]
          have HE := Lib.hid hE
          clear hE
          go_wp2_with (go_at_call 15; refine (within_any _ _ _ _).mono ?_; rintro e w' ⟨rfl, rfl⟩; first | rw [HR.out] | rw [HP.out])
          generalize hw2 : World.alloc _ _ = w2
          obtain ⟨hb2, _, e0, e1⟩ := box2 hw2
          clear hw2
          have E0 := grow_cell e0
          have E1 := grow_cell e1
          have hbr : ∀ g, Below w.heap.size w (grow w2 g) := fun g => bthen (bthen hb.out hb2) (grow_below _ g)
          clear e0 e1 q0 q1
          by_cases h0 : k = 0
          · have H0 := Lib.hid h0
            have d0 : decide (0 < k) = false := by simp [h0]
            have d1 : decide ((0 : Int) < (k : Int)) = false := by simp [h0]
            clear h0
            refine wp_region_grow_lit (by kernel_rfl) (by kernel_rfl) ?_
            repeat (go_big_quiet_step (fail))
            refine wpQuiet_nil ?_
            rintro _ ⟨g, rfl⟩
            have hbg := Lib.hid (hbr g)
            clear hbr
            go_wp2
            go_roundw
            case rel => exact ⟨k + 1, by omega, by go_num, Lib.hid (by rw [allUpto_succ, ha.out, entStep_first hlt HE.out H0.out]; rfl), hbg⟩
            case measure => simp [intOf]; omega
          · have hk1 : k - 1 < es.length := by omega
            obtain ⟨ad', ha2, _, q0, q1⟩ := hrw.ent_at hk1
            obtain rfl : ad = ad' := by injection ha2
            have G0 := grow_cell (below_cell hb2 q0)
            have G1 := grow_cell (below_cell hb2 q1)
            clear q0 q1
            have H0 := Lib.hid h0
            have d0 : decide (0 < k) = true := by simp; omega
            have d1 : decide ((0 : Int) < (k : Int)) = true := by simp; omega
            by_cases hcmp : es[k - 1].off < es[k].off
            · have d2 : decide (es[k].off ≤ es[k - 1].off) = false := by simp; omega
              by_cases hcmq : es[k - 1].place < es[k].place
              · have d3 : decide (es[k].place ≤ es[k - 1].place) = false := by simp; omega
                refine wp_region_grow_lit (by kernel_rfl) (by kernel_rfl) ?_
                repeat (go_big_quiet_step (fail))
                refine wpQuiet_nil ?_
                rintro _ ⟨g, rfl⟩
                have hbg := Lib.hid (hbr g)
                clear hbr
                go_wp2
                go_roundw
                case rel => exact ⟨k + 1, by omega, by go_num, Lib.hid (by rw [allUpto_succ, ha.out, entStep_next hlt hk1 HE.out hcmp hcmq]; rfl), hbg⟩
                case measure => simp [intOf]; omega
              · have d3 : decide (es[k].place ≤ es[k - 1].place) = true := by simp; omega
                refine wp_region_grow_lit (by kernel_rfl) (by kernel_rfl) ?_
                repeat (go_big_quiet_step (fail))
                refine wpQuiet_nil ?_
                rintro _ ⟨g, rfl⟩
                have hbg := Lib.hid (hbr g)
                clear hbr
                go_wp2
                go_ret
                exact ⟨ret_bool (by unfold entsB; rw [allUpto_false hlt (entStep_fall hlt hk1 H0.out (.inr (by omega)))]; simp), hbg.out⟩
            · have d2 : decide (es[k].off ≤ es[k - 1].off) = true := by simp; omega
              refine wp_region_grow_lit (by kernel_rfl) (by kernel_rfl) ?_
              repeat (go_big_quiet_step (fail))
              refine wpQuiet_nil ?_
              rintro _ ⟨g, rfl⟩
              have hbg := Lib.hid (hbr g)
              clear hbr
              go_wp2
              go_ret
              exact ⟨ret_bool (by unfold entsB; rw [allUpto_false hlt (entStep_fall hlt hk1 H0.out (.inl (by omega)))]; simp), hbg.out⟩
      · go_wp2
        go_ret
        have hk2 : k = es.length := by omega
        subst hk2
        exact ⟨ret_bool (by unfold entsB; rw [ha.out]; simp [h8'.out]), hb.out⟩
  · go_enter Tryz.func10, Tryz.ntmps10
    go_wp2
    go_ret
    exact ⟨ret_bool (by unfold entsB; simp [h8]), Below.refl _ _⟩
end Go.Proofs.YtomcjjehfocbmaaGreatDoor
