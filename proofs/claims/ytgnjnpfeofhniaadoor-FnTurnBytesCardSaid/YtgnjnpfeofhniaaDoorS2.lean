/- Validity in the reference: records. The reference: valid batches. The reference: valid segments. -/
import Derived.Test.YtgnjnpfeofhniaaDoorGa
namespace Go.Proofs.YtgnjnpfeofhniaaDoor
set_option linter.unusedVariables false
set_option linter.unusedSimpArgs false
section
open Go.RowKit

theorem l6In_any (n l h : Int) (w : World) :
    Calls Tryd.prog 32 #[.int .i64 n, .int .i64 l, .int .i64 h] w fun e w' => e = .returned (.bool (inB n l h)) ∧ w = w' := by
  go_enter Tryd.func32, Tryd.ntmps32
  go_wp2
  all_goals (go_ret; refine ⟨ret_bool ?_, rfl⟩; unfold inB; first | (simp [*]; done) | (simp [*]; omega))

theorem l1Ok_any (l : List Int) (A : Option Addr) (c : Nat) (F : Nat → Prop) (w : World) (h : Ints w F A c l) :
    Calls Tryd.prog 66 #[.slice A l.length c] w fun e w' => e = .returned (.bool (bytesB l)) ∧ w = w' := by
  have hl := h.1
  have hc := h.2.1
  go_enter Tryd.func66, Tryd.ntmps66
  go_wp2
  go_loop [3] (fun i => ∃ k : Nat, k ≤ l.length ∧ i = .int .i64 k ∧ Hid (bytesB (l.take k) = true)) (fun i => l.length - (intOf i).toNat)
  case atStart => exact ⟨0, Nat.zero_le _, rfl, Lib.hid (by simp [bytesB])⟩
  case round =>
    obtain ⟨k, hk, rfl, hb⟩ := hrel
    by_cases hlt : k < l.length
    · obtain ⟨ad, rfl, _, hcell⟩ := h.int_at hlt
      go_wp2_with (go_at_call 32; refine (l6In_any _ _ _ _).mono ?_; rintro e w' ⟨rfl, rfl⟩)
      case roundEnd =>
        go_round
        case rel => exact ⟨k + 1, by omega, by go_num, Lib.hid (by rw [bytesB_take_succ _ _ hlt, hb.out]; have h1 : (!byteB l[k]) = false := ‹(!inB l[k] 0 255) = false›; simpa using h1)⟩
        case measure => simp [intOf]; omega
      go_ret
      exact ⟨ret_bool (bytesB_false_of l k hlt (by have h1 : (!byteB l[k]) = true := ‹(!inB l[k] 0 255) = true›; simpa using h1)).symm, rfl⟩
    · go_wp2
      go_ret
      exact ⟨ret_bool (by rw [← hb.out, List.take_of_length_le (by omega)]), rfl⟩

theorem l3Part_any (has : Bool) (l : List Int) (A : Option Addr) (c : Nat) (F : Nat → Prop) (w : World) (h : Ints w F A c l) :
    Calls Tryd.prog 51 #[.bool has, .slice A l.length c] w fun e w' => e = .returned (.bool (partB has l)) ∧ w = w' := by
  have hl := h.1
  have hc := h.2.1
  have hp : partB has l = ((has || l.length == 0) && bytesB l && decide (l.length ≤ 12)) := by
    cases has
    · cases l with
      | nil => rfl
      | cons a t => simp [partB]
    · simp [partB, Bool.and_comm]
  rw [hp]
  clear hp
  cases hok : bytesB l <;> cases has <;> cases hn : ((l.length : Int) == 0)
  all_goals
    have HK := Lib.hid hok
    have HN := Lib.hid (show (l.length == 0) = ((l.length : Int) == 0) by rw [Bool.eq_iff_iff]; simp)
    clear hok
    go_enter Tryd.func51, Tryd.ntmps51
    go_wp2_with (go_at_call 66; refine (l1Ok_any l A c F _ h).mono ?_; rintro e w' ⟨rfl, rfl⟩; rw [HK.out])
    go_ret
    refine ⟨ret_bool ?_, rfl⟩
    have h1 := HN.out
    clear HN
    rw [h1]
    first | (simp [hn]; done) | (simp [hn]; omega)

theorem RecordValidS_any (r : Rec) (A A' : Option Addr) (c c' : Nat) (F : Nat → Prop) (w : World) (h : Ints w F A c r.key) (h' : Ints w F A' c' r.val) :
    Calls Tryd.prog 30 #[.agg #[.int .i64 r.off, .int .i64 r.time, .bool r.hk, .slice A r.key.length c, .bool r.hv, .slice A' r.val.length c']] w fun e w' => e = .returned (.bool (recB r)) ∧ Below w.heap.size w w' := by
  cases h1 : inB r.off 0 99999 <;> cases h2 : inB r.time 0 99999 <;> cases h3 : partB r.hk r.key <;> have H1 := Lib.hid h1 <;> have H2 := Lib.hid h2 <;> have H3 := Lib.hid h3 <;> clear h1 h2 h3
  all_goals
    go_enter Tryd.func30, Tryd.ntmps30
    go_wp2_with (first
      | (go_at_call 32; refine (l6In_any _ _ _ _).mono ?_; rintro e w' ⟨rfl, rfl⟩; first | rw [H1.out] | rw [H2.out])
      | (go_at_call 51; ((with_reducible refine (l3Part_any r.hk r.key A c F _ (h.below (bal _ _))).mono ?_); rintro e w' ⟨rfl, rfl⟩; rw [H3.out]))
      | (go_at_call 51; ((with_reducible refine (l3Part_any r.hv r.val A' c' F _ (h'.below (bal _ _))).mono ?_); rintro e w' ⟨rfl, rfl⟩)))
    go_ret
    exact ⟨ret_bool (by simp [recB, baseB, H1.out, H2.out, H3.out]), bal _ _⟩

set_option maxHeartbeats 1000000 in
theorem l5Records_any (rs : List Rec) (A : Option Addr) (c : Nat) (F : Nat → Prop) (w : World) (hr : Recs w F A c rs) :
    Calls Tryd.prog 31 #[.slice A rs.length c] w fun e w' => e = .returned (.bool (recsB rs && inB rs.length 1 6)) ∧ Below w.heap.size w w' := by
  have hl := hr.1
  have hc := hr.2.1
  go_enter Tryd.func31, Tryd.ntmps31
  go_wp2
  go_loopw [3] (fun i wr => ∃ k : Nat, k ≤ rs.length ∧ i = .int .i64 k ∧ Hid (allUpto (recStep rs) k = true) ∧ Hid (Below w.heap.size w wr)) (fun i _ => rs.length - (intOf i).toNat)
  case atStart => exact ⟨0, Nat.zero_le _, rfl, Lib.hid rfl, Lib.hid (Below.refl _ _)⟩
  case round =>
    obtain ⟨k, hk, rfl, ha, hb⟩ := hrel
    by_cases hlt : k < rs.length
    · have hrw := hr.below hb.out
      obtain ⟨ad, B, b, B', b', rfl, _, hi1, hi2, q0, q1, q2, q3, q4, q5⟩ := hrw.rec_at hlt
      go_wp2_with fail
      have E0 := grow_cell q0
      have E1 := grow_cell q1
      have E2 := grow_cell q2
      have E3 := grow_cell q3
      have E4 := grow_cell q4
      have E5 := grow_cell q5
      have hcall : ∀ g, Calls Tryd.prog 30 #[.agg #[.int .i64 rs[k].off, .int .i64 rs[k].time, .bool rs[k].hk, .slice B rs[k].key.length b, .bool rs[k].hv, .slice B' rs[k].val.length b']] (grow wr g) fun e w'' => e = .returned (.bool (recB rs[k])) ∧ ∃ g', w'' = grow wr g' := fun g =>
        Calls.grow_of (RecordValidS_any rs[k] B B' b b' F _ (hi1.below (grow_below _ _)) (hi2.below (grow_below _ _)))
      clear q0 q1 q2 q3 q4 q5
      have hbr : ∀ g, Below w.heap.size w (grow wr g) := fun g => bthen hb.out (grow_below _ g)
      cases hR : recB rs[k]
      · rw [hR] at hcall
        refine wp_region_grow_lit (by kernel_rfl) (by kernel_rfl) ?_
        repeat (go_big_quiet_step (exact hcall _))
        refine wpQuiet_nil ?_
        rintro _ ⟨g, rfl⟩
        go_wp2
        go_ret
        exact ⟨ret_bool (by unfold recsB; rw [allUpto_false hlt (recStep_bad hlt hR)]; rfl), hbr g⟩
      · rw [hR] at hcall
        have HR := Lib.hid hR
        by_cases h0 : k = 0
        · have H0 := Lib.hid h0
          have d0 : decide (0 < k) = false := by simp [h0]
          have d1 : decide ((0 : Int) < (k : Int)) = false := by simp [h0]
          clear hR h0
          refine wp_region_grow_lit (by kernel_rfl) (by kernel_rfl) ?_
          repeat (go_big_quiet_step (exact hcall _))
          refine wpQuiet_nil ?_
          rintro _ ⟨g, rfl⟩
          have hbg := Lib.hid (hbr g)
          clear hbr hcall
          go_wp2
          go_roundw
          case rel => exact ⟨k + 1, by omega, by go_num, Lib.hid (by rw [allUpto_succ, ha.out, recStep_first hlt HR.out H0.out]; rfl), hbg⟩
          case measure => simp [intOf]; omega
        · have hk1 : k - 1 < rs.length := by omega
          obtain ⟨ad', B2, b2, B2', b2', ha2, _, _, _, q0, _⟩ := hrw.rec_at hk1
          obtain rfl : ad = ad' := by injection ha2
          have G0 := grow_cell q0
          clear q0
          have d0 : decide (0 < k) = true := by simp; omega
          have d1 : decide ((0 : Int) < (k : Int)) = true := by simp; omega
          clear hR
          by_cases hcmp : rs[k - 1].off < rs[k].off
          · have d2 : decide (rs[k].off ≤ rs[k - 1].off) = false := by simp; omega
            refine wp_region_grow_lit (by kernel_rfl) (by kernel_rfl) ?_
            repeat (go_big_quiet_step (exact hcall _))
            refine wpQuiet_nil ?_
            rintro _ ⟨g, rfl⟩
            have hbg := Lib.hid (hbr g)
            clear hbr hcall
            go_wp2
            go_roundw
            case rel => exact ⟨k + 1, by omega, by go_num, Lib.hid (by rw [allUpto_succ, ha.out, recStep_next hlt hk1 HR.out hcmp]; rfl), hbg⟩
            case measure => simp [intOf]; omega
          · have d2 : decide (rs[k].off ≤ rs[k - 1].off) = true := by simp; omega
            refine wp_region_grow_lit (by kernel_rfl) (by kernel_rfl) ?_
            repeat (go_big_quiet_step (exact hcall _))
            refine wpQuiet_nil ?_
            rintro _ ⟨g, rfl⟩
            have hbg := Lib.hid (hbr g)
            clear hbr hcall
            go_wp2
            go_ret
            exact ⟨ret_bool (by unfold recsB; rw [allUpto_false hlt (recStep_fall hlt hk1 h0 (by omega))]; rfl), hbg.out⟩
    · have hk2 := Lib.hid (show k = rs.length by omega)
      go_wp2_with (go_at_call 32; refine (l6In_any _ _ _ _).mono ?_; rintro e w' ⟨rfl, rfl⟩)
      go_ret
      exact ⟨ret_bool (by unfold recsB; rw [← hk2.out, ha.out]; rfl), hb.out⟩
end

section
open Go.RowKit

theorem batB_spec (b : Bat) : batB b = (recsB b.recs && inB b.recs.length 1 6 && inB b.prod 0 255 && inB b.epoch 0 99 && inB b.seq 0 9999 && (if b.prod == 255 then b.epoch == 0 && b.seq == 0 && !b.mark else !b.mark || (b.recs.length : Int) == 1)) := by
  obtain ⟨pk, mk, pr, ep, sq, rs⟩ := b
  rw [Bool.eq_iff_iff]
  simp only [batB, headB, manyB, inB]
  by_cases hp : pr = 255
  · subst hp
    cases mk
    · simp
      constructor
      · rintro ⟨⟨⟨h1, h2⟩, h3, h4⟩, h5⟩
        simp [*]
      · intro h; simp_all
    · simp
  · have hp' : (pr == 255) = false := by simp [hp]
    simp [hp]
    constructor
    · rintro ⟨⟨⟨⟨⟨h1, h2⟩, h3⟩, h4⟩, ⟨h5, h6⟩, h7⟩, h8⟩
      refine ⟨⟨⟨⟨⟨h8, h5, h6⟩, h1, by omega⟩, h3⟩, h4⟩, ?_⟩
      rcases h7 with h7 | h7
      · exact .inl h7
      · exact .inr (by omega)
    · rintro ⟨⟨⟨⟨⟨h8, h5, h6⟩, h1, h2⟩, h3⟩, h4⟩, h7⟩
      refine ⟨⟨⟨⟨⟨h1, by omega⟩, h3⟩, h4⟩, ⟨h5, h6⟩, ?_⟩, h8⟩
      rcases h7 with h7 | h7
      · exact .inl h7
      · exact .inr (by omega)

set_option maxHeartbeats 1000000 in
theorem BatchValidS_any (b : Bat) (A : Option Addr) (c : Nat) (F : Nat → Prop) (w : World) (hr : Recs w F A c b.recs) :
    Calls Tryd.prog 18 #[.agg #[.bool b.packed, .bool b.mark, .int .i64 b.prod, .int .i64 b.epoch, .int .i64 b.seq, .slice A b.recs.length c]] w fun e w' => e = .returned (.bool (batB b)) ∧ Below w.heap.size w w' := by
  rw [batB_spec]
  obtain ⟨pk, mk, pr, ep, sq, rs⟩ := b
  simp only at hr ⊢
  have hl := hr.1
  have hc := hr.2.1
  cases h1 : (recsB rs && inB rs.length 1 6)
  · have H1 := Lib.hid h1
    clear h1
    go_enter Tryd.func18, Tryd.ntmps18
    go_wp2_with (go_at_call 31; refine (l5Records_any rs A c F _ (hr.below (bal _ _))).mono ?_; rintro e w1 ⟨rfl, hb1⟩; rw [H1.out])
    all_goals
      go_ret
      exact ⟨ret_bool (by first | rfl | simp), bthen (bal _ _) hb1⟩
  · have H1 := Lib.hid h1
    clear h1
    cases h2 : inB pr 0 255 <;> cases h3 : inB ep 0 99 <;> cases h4 : inB sq 0 9999
    case' true.true.true => cases hp : (pr == 255)
    case' true.true.true.true => cases he : (ep == 0) <;> cases hs : (sq == 0)
    all_goals
      have H2 := Lib.hid h2
      have H3 := Lib.hid h3
      have H4 := Lib.hid h4
      clear h2 h3 h4
      go_enter Tryd.func18, Tryd.ntmps18
      go_wp2_with fail
      refine (l5Records_any rs A c F _ (hr.below (bal _ _))).mono ?_
      rintro e w1 ⟨rfl, hb1⟩
      rw [H1.out]
      obtain ⟨_, hs1, e0, e1, e2, e3, e4, e5⟩ := box6 (t := 28) (v0 := .bool pk) (v1 := .bool mk) (v2 := .int .i64 pr) (v3 := .int .i64 ep) (v4 := .int .i64 sq) (v5 := .slice A rs.length c) (w := w) rfl
      have f1 := below_cell hb1 e1
      have f2 := below_cell hb1 e2
      have f3 := below_cell hb1 e3
      have f4 := below_cell hb1 e4
      have f5 := below_cell hb1 e5
      have hbb := Lib.hid (bthen (bal _ _) hb1)
      clear hb1 e0 e1 e2 e3 e4 e5 hs1
      go_wp2_with (go_at_call 32; refine (l6In_any _ _ _ _).mono ?_; rintro e w' ⟨rfl, rfl⟩; first | rw [H2.out] | rw [H3.out] | rw [H4.out])
      all_goals
        go_ret
        exact ⟨ret_bool (by first | (simp; done) | (simp [*]; done) | (cases mk <;> simp_all)), hbb.out⟩
end

section
open Go.RowKit

end
end Go.Proofs.YtgnjnpfeofhniaaDoor
