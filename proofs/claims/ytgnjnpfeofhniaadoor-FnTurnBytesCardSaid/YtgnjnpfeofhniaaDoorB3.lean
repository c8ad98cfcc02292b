/- BatchValid, LogValid of the program. first, last, LogValid of the program. -/
import Derived.Test.YtgnjnpfeofhniaaDoorGa
import Derived.Test.YtgnjnpfeofhniaaDoorB1
namespace Go.Proofs.YtgnjnpfeofhniaaDoor
set_option linter.unusedVariables false
set_option linter.unusedSimpArgs false
section
open Go.RowKit

theorem BatchValid_head (pk mk : Bool) (pr ep sq : Int) (rs : List Rec) (A : Option Addr) (c : Nat) (w : World) (h : headB ⟨pk, mk, pr, ep, sq, rs⟩ = false) :
    Calls Tryd.prog 15 #[.agg #[.bool pk, .bool mk, .int .i64 pr, .int .i64 ep, .int .i64 sq, .slice A rs.length c]] w fun e w' => e = .returned (.bool false) ∧ Below w.heap.size w w' := by
  cases hp : (pr == 255)
  · cases h1 : inB pr 0 254 <;> cases h2 : inB ep 0 99 <;> cases h3 : inB sq 0 9999 <;> simp [headB, hp, h1, h2, h3] at h
    all_goals
      have H1 := Lib.hid h1
      have H2 := Lib.hid h2
      have H3 := Lib.hid h3
      clear h1 h2 h3
      go_enter Tryd.func15, Tryd.ntmps15
      go_wp2_with (first
        | (go_at_call 27; refine (idValid_any _ _).mono ?_; rintro e w' ⟨rfl, rfl⟩; rw [H1.out])
        | (go_at_call 28; refine (within_any _ _ _ _).mono ?_; rintro e w' ⟨rfl, rfl⟩; first | rw [H2.out] | rw [H3.out]))
      go_ret
      exact ⟨rfl, Below.alloc (Below.refl _ _) (Nat.le_refl _) _⟩
  · cases h1 : (ep == 0) <;> cases h2 : (sq == 0) <;> cases mk <;> simp [headB, hp, h1, h2] at h
    all_goals
      have n1 : (ep != 0) = !(ep == 0) := rfl
      have n2 : (sq != 0) = !(sq == 0) := rfl
      rw [h1] at n1
      rw [h2] at n2
      simp only [Bool.not_true, Bool.not_false] at n1 n2
      clear h1 h2
      go_enter Tryd.func15, Tryd.ntmps15
      go_wp2
      go_ret
      exact ⟨rfl, Below.alloc (Below.refl _ _) (Nat.le_refl _) _⟩

set_option maxHeartbeats 2000000 in
theorem BatchValid_loop (pk mk : Bool) (pr ep sq : Int) (rs : List Rec) (A : Option Addr) (c : Nat) (F : Nat → Prop) (w : World) (hr : Recs w F A c rs) (h : headB ⟨pk, mk, pr, ep, sq, rs⟩ = true) (hm : manyB ⟨pk, mk, pr, ep, sq, rs⟩ = true) :
    Calls Tryd.prog 15 #[.agg #[.bool pk, .bool mk, .int .i64 pr, .int .i64 ep, .int .i64 sq, .slice A rs.length c]] w fun e w' => e = .returned (.bool (recsB rs)) ∧ Below w.heap.size w w' := by
  have hl := hr.1
  have hc := hr.2.1
  obtain ⟨hm1, n3⟩ := manyB_mark hm
  simp only at hm1 n3
  have HM := Lib.hid hm1
  clear hm1 hm
  cases hp : (pr == 255)
  · simp [headB, hp] at h
    obtain ⟨⟨h1, h2⟩, h3⟩ := h
    have H1 := Lib.hid h1
    have H2 := Lib.hid h2
    have H3 := Lib.hid h3
    clear h1 h2 h3
    cases mk
    all_goals
      (try have n4 := n3 rfl)
      clear n3
      go_enter Tryd.func15, Tryd.ntmps15
      go_wp2_with (first
        | (go_at_call 27; refine (idValid_any _ _).mono ?_; rintro e w' ⟨rfl, rfl⟩; rw [H1.out])
        | (go_at_call 28; refine (within_any _ _ _ _).mono ?_; rintro e w' ⟨rfl, rfl⟩; first | rw [H2.out] | rw [H3.out] | rw [HM.out]))
      generalize hW : World.alloc _ _ = W
      have hbW : Below w.heap.size w W := by rw [← hW]; exact Below.alloc (Below.refl _ _) (Nat.le_refl _) _
      have hs : w.heap.size < W.heap.size := by rw [← hW]; simp
      have hc5 : W.cell? ⟨w.heap.size, 5, none⟩ = some (.slice A rs.length c) := by rw [← hW]; simp
      clear hW
      have hrW := hr.below hbW
      go_loopw [54] (fun i wr => ∃ k : Nat, k ≤ rs.length ∧ i = .int .i64 k ∧ Hid (allUpto (recStep rs) k = true) ∧ Hid (Below W.heap.size W wr)) (fun i _ => rs.length - (intOf i).toNat)
      case atStart => exact ⟨0, Nat.zero_le _, rfl, Lib.hid rfl, Lib.hid (Below.refl _ _)⟩
      case round =>
        obtain ⟨k, hk, rfl, ha, hb⟩ := hrel
        by_cases hlt : k < rs.length
        · have hrw := hrW.below hb.out
          obtain ⟨ad, B, b, B', b', rfl, _, hi1, hi2, q0, q1, q2, q3, q4, q5⟩ := hrw.rec_at hlt
          have hc5w := (hb.out.cell (p := ⟨w.heap.size, 5, none⟩) hs).trans hc5
          go_wp2_with fail
          obtain ⟨w2, hw2⟩ : ∃ w2, w2 = wr.alloc (.cells #[.int .i64 rs[k].off, .int .i64 rs[k].time, .bool rs[k].hk, .slice B rs[k].key.length b, .bool rs[k].hv, .slice B' rs[k].val.length b'] 46) := ⟨_, rfl⟩
          have hb2 : Below wr.heap.size wr w2 := by rw [hw2]; exact Below.alloc (Below.refl _ _) (Nat.le_refl _) _
          have e0 : w2.cell? ⟨wr.heap.size, 0, none⟩ = some (.int .i64 rs[k].off) := by rw [hw2]; simp
          have e1 : w2.cell? ⟨wr.heap.size, 1, none⟩ = some (.int .i64 rs[k].time) := by rw [hw2]; simp
          have e2 : w2.cell? ⟨wr.heap.size, 2, none⟩ = some (.bool rs[k].hk) := by rw [hw2]; simp
          have e3 : w2.cell? ⟨wr.heap.size, 3, none⟩ = some (.slice B rs[k].key.length b) := by rw [hw2]; simp
          have e4 : w2.cell? ⟨wr.heap.size, 4, none⟩ = some (.bool rs[k].hv) := by rw [hw2]; simp
          have e5 : w2.cell? ⟨wr.heap.size, 5, none⟩ = some (.slice B' rs[k].val.length b') := by rw [hw2]; simp
          have e6 := (hb2.cell (cell_lt hc5w)).trans hc5w
          rw [← hw2]
          clear hw2
          have E0 := grow_cell e0
          have E1 := grow_cell e1
          have E2 := grow_cell e2
          have E3 := grow_cell e3
          have E4 := grow_cell e4
          have E5 := grow_cell e5
          have E6 := grow_cell e6
          have hcall : ∀ g, Calls Tryd.prog 29 #[.agg #[.int .i64 rs[k].off, .int .i64 rs[k].time, .bool rs[k].hk, .slice B rs[k].key.length b, .bool rs[k].hv, .slice B' rs[k].val.length b']] (grow w2 g) fun e w'' => e = .returned (.bool (recB rs[k])) ∧ ∃ g', w'' = grow w2 g' := fun g =>
            Calls.grow_of (RecordValid_any rs[k] B B' b b' F _ ((hi1.below hb2).below (grow_below _ _)) ((hi2.below hb2).below (grow_below _ _)))
          clear e0 e1 e2 e3 e4 e5 e6 q0 q1 q2 q3 q4 q5 hc5w
          cases hR : recB rs[k]
          · rw [hR] at hcall
            refine wp_region_grow_lit (by kernel_rfl) (by kernel_rfl) ?_
            repeat (go_big_quiet_step (exact hcall _))
            refine wpQuiet_nil ?_
            rintro _ ⟨g, rfl⟩
            go_wp2
            go_ret
            exact ⟨ret_bool (by unfold recsB; exact (allUpto_false hlt (recStep_bad hlt hR)).symm), hbW.trans ((hb.out.trans (((hb2.trans ((grow_below _ _).mono hb2.size)).mono hb.out.size))).mono hbW.size)⟩
          · rw [hR] at hcall
            have hbr : ∀ g, Below W.heap.size W (grow w2 g) := fun g => hb.out.trans (((hb2.trans ((grow_below _ g).mono hb2.size)).mono hb.out.size))
            by_cases h0 : k = 0
            · have HR := Lib.hid hR
              have H0 := Lib.hid h0
              have d0 : decide (0 < k) = false := by simp [h0]
              have d1 : decide ((0 : Int) < (k : Int)) = false := by simp [h0]
              clear hR h0
              refine wp_region_grow_lit (by kernel_rfl) (by kernel_rfl) ?_
              repeat (go_big_quiet_step (exact hcall _))
              refine wpQuiet_nil ?_
              rintro _ ⟨g, rfl⟩
              have hbg := Lib.hid (hbr g)
              clear hbr hcall
              go_wp2
              go_roundw
              case rel => exact ⟨k + 1, by omega, by go_num, Lib.hid (by rw [allUpto_succ, ha.out, recStep_first hlt HR.out H0.out]; rfl), hbg⟩
              case measure => simp [intOf]; omega
            · obtain ⟨ad', B2, b2, B2', b2', ha2, _, _, _, q0, _⟩ := hrw.rec_at (j := k - 1) (by omega)
              obtain rfl : ad = ad' := by injection ha2
              have E7 := grow_cell ((hb2.cell (cell_lt q0)).trans q0)
              clear q0
              have HR := Lib.hid hR
              have d0 : decide (0 < k) = true := by simp; omega
              have d1 : decide ((0 : Int) < (k : Int)) = true := by simp; omega
              have hk1 : k - 1 < rs.length := by omega
              clear hR
              by_cases hcmp : rs[k - 1].off < rs[k].off
              · have d2 : decide (rs[k].off ≤ rs[k - 1].off) = false := by simp; omega
                refine wp_region_grow_lit (by kernel_rfl) (by kernel_rfl) ?_
                repeat (go_big_quiet_step (exact hcall _))
                refine wpQuiet_nil ?_
                rintro _ ⟨g, rfl⟩
                have hbg := Lib.hid (hbr g)
                clear hbr hcall
                go_wp2
                go_roundw
                case rel => exact ⟨k + 1, by omega, by go_num, Lib.hid (by rw [allUpto_succ, ha.out, recStep_next hlt hk1 HR.out hcmp]; rfl), hbg⟩
                case measure => simp [intOf]; omega
              · have d2 : decide (rs[k].off ≤ rs[k - 1].off) = true := by simp; omega
                refine wp_region_grow_lit (by kernel_rfl) (by kernel_rfl) ?_
                repeat (go_big_quiet_step (exact hcall _))
                refine wpQuiet_nil ?_
                rintro _ ⟨g, rfl⟩
                have hbg := Lib.hid (hbr g)
                clear hbr hcall
                go_wp2
                go_ret
                exact ⟨ret_bool (by unfold recsB; exact (allUpto_false hlt (recStep_fall hlt hk1 h0 (by omega))).symm), hbW.trans (hbg.out.mono hbW.size)⟩
        · go_wp2
          go_ret
          exact ⟨ret_bool (by rw [← ha.out]; unfold recsB; rw [show k = rs.length by omega]), hbW.trans (hb.out.mono hbW.size)⟩
  · simp [headB, hp] at h
    obtain ⟨⟨h1, h2⟩, h3⟩ := h
    subst h3
    have n1 : (ep != 0) = false := by simp [h1]
    have n2 : (sq != 0) = false := by simp [h2]
    clear h1 h2 n3
    go_enter Tryd.func15, Tryd.ntmps15
    go_wp2_with (go_at_call 28; refine (within_any _ _ _ _).mono ?_; rintro e w' ⟨rfl, rfl⟩; rw [HM.out])
    generalize hW : World.alloc _ _ = W
    have hbW : Below w.heap.size w W := by rw [← hW]; exact Below.alloc (Below.refl _ _) (Nat.le_refl _) _
    have hs : w.heap.size < W.heap.size := by rw [← hW]; simp
    have hc5 : W.cell? ⟨w.heap.size, 5, none⟩ = some (.slice A rs.length c) := by rw [← hW]; simp
    clear hW
    have hrW := hr.below hbW
    go_loopw [54] (fun i wr => ∃ k : Nat, k ≤ rs.length ∧ i = .int .i64 k ∧ Hid (allUpto (recStep rs) k = true) ∧ Hid (Below W.heap.size W wr)) (fun i _ => rs.length - (intOf i).toNat)
    case atStart => exact ⟨0, Nat.zero_le _, rfl, Lib.hid rfl, Lib.hid (Below.refl _ _)⟩
    case round =>
      obtain ⟨k, hk, rfl, ha, hb⟩ := hrel
      by_cases hlt : k < rs.length
      · have hrw := hrW.below hb.out
        obtain ⟨ad, B, b, B', b', rfl, _, hi1, hi2, q0, q1, q2, q3, q4, q5⟩ := hrw.rec_at hlt
        have hc5w := (hb.out.cell (p := ⟨w.heap.size, 5, none⟩) hs).trans hc5
        go_wp2_with fail
        obtain ⟨w2, hw2⟩ : ∃ w2, w2 = wr.alloc (.cells #[.int .i64 rs[k].off, .int .i64 rs[k].time, .bool rs[k].hk, .slice B rs[k].key.length b, .bool rs[k].hv, .slice B' rs[k].val.length b'] 46) := ⟨_, rfl⟩
        have hb2 : Below wr.heap.size wr w2 := by rw [hw2]; exact Below.alloc (Below.refl _ _) (Nat.le_refl _) _
        have e0 : w2.cell? ⟨wr.heap.size, 0, none⟩ = some (.int .i64 rs[k].off) := by rw [hw2]; simp
        have e1 : w2.cell? ⟨wr.heap.size, 1, none⟩ = some (.int .i64 rs[k].time) := by rw [hw2]; simp
        have e2 : w2.cell? ⟨wr.heap.size, 2, none⟩ = some (.bool rs[k].hk) := by rw [hw2]; simp
        have e3 : w2.cell? ⟨wr.heap.size, 3, none⟩ = some (.slice B rs[k].key.length b) := by rw [hw2]; simp
        have e4 : w2.cell? ⟨wr.heap.size, 4, none⟩ = some (.bool rs[k].hv) := by rw [hw2]; simp
        have e5 : w2.cell? ⟨wr.heap.size, 5, none⟩ = some (.slice B' rs[k].val.length b') := by rw [hw2]; simp
        have e6 := (hb2.cell (cell_lt hc5w)).trans hc5w
        rw [← hw2]
        clear hw2
        have E0 := grow_cell e0
        have E1 := grow_cell e1
        have E2 := grow_cell e2
        have E3 := grow_cell e3
        have E4 := grow_cell e4
        have E5 := grow_cell e5
        have E6 := grow_cell e6
        have hcall : ∀ g, Calls Tryd.prog 29 #[.agg #[.int .i64 rs[k].off, .int .i64 rs[k].time, .bool rs[k].hk, .slice B rs[k].key.length b, .bool rs[k].hv, .slice B' rs[k].val.length b']] (grow w2 g) fun e w'' => e = .returned (.bool (recB rs[k])) ∧ ∃ g', w'' = grow w2 g' := fun g =>
          Calls.grow_of (RecordValid_any rs[k] B B' b b' F _ ((hi1.below hb2).below (grow_below _ _)) ((hi2.below hb2).below (grow_below _ _)))
        clear e0 e1 e2 e3 e4 e5 e6 q0 q1 q2 q3 q4 q5 hc5w
        cases hR : recB rs[k]
        · rw [hR] at hcall
          refine wp_region_grow_lit (by kernel_rfl) (by kernel_rfl) ?_
          repeat (go_big_quiet_step (exact hcall _))
          refine wpQuiet_nil ?_
          rintro _ ⟨g, rfl⟩
          go_wp2
          go_ret
          exact ⟨ret_bool (by unfold recsB; exact (allUpto_false hlt (recStep_bad hlt hR)).symm), hbW.trans ((hb.out.trans (((hb2.trans ((grow_below _ _).mono hb2.size)).mono hb.out.size))).mono hbW.size)⟩
        · rw [hR] at hcall
          have hbr : ∀ g, Below W.heap.size W (grow w2 g) := fun g => hb.out.trans (((hb2.trans ((grow_below _ g).mono hb2.size)).mono hb.out.size))
          by_cases h0 : k = 0
          · have HR := Lib.hid hR
            have H0 := Lib.hid h0
            have d0 : decide (0 < k) = false := by simp [h0]
            have d1 : decide ((0 : Int) < (k : Int)) = false := by simp [h0]
            clear hR h0
            refine wp_region_grow_lit (by kernel_rfl) (by kernel_rfl) ?_
            repeat (go_big_quiet_step (exact hcall _))
            refine wpQuiet_nil ?_
            rintro _ ⟨g, rfl⟩
            have hbg := Lib.hid (hbr g)
            clear hbr hcall
            go_wp2
            go_roundw
            case rel => exact ⟨k + 1, by omega, by go_num, Lib.hid (by rw [allUpto_succ, ha.out, recStep_first hlt HR.out H0.out]; rfl), hbg⟩
            case measure => simp [intOf]; omega
          · obtain ⟨ad', B2, b2, B2', b2', ha2, _, _, _, q0, _⟩ := hrw.rec_at (j := k - 1) (by omega)
            obtain rfl : ad = ad' := by injection ha2
            have E7 := grow_cell ((hb2.cell (cell_lt q0)).trans q0)
            clear q0
            have HR := Lib.hid hR
            have d0 : decide (0 < k) = true := by simp; omega
            have d1 : decide ((0 : Int) < (k : Int)) = true := by simp; omega
            have hk1 : k - 1 < rs.length := by omega
            clear hR
            by_cases hcmp : rs[k - 1].off < rs[k].off
            · have d2 : decide (rs[k].off ≤ rs[k - 1].off) = false := by simp; omega
              refine wp_region_grow_lit (by kernel_rfl) (by kernel_rfl) ?_
              repeat (go_big_quiet_step (exact hcall _))
              refine wpQuiet_nil ?_
              rintro _ ⟨g, rfl⟩
              have hbg := Lib.hid (hbr g)
              clear hbr hcall
              go_wp2
              go_roundw
              case rel => exact ⟨k + 1, by omega, by go_num, Lib.hid (by rw [allUpto_succ, ha.out, recStep_next hlt hk1 HR.out hcmp]; rfl), hbg⟩
              case measure => simp [intOf]; omega
            · have d2 : decide (rs[k].off ≤ rs[k - 1].off) = true := by simp; omega
              refine wp_region_grow_lit (by kernel_rfl) (by kernel_rfl) ?_
              repeat (go_big_quiet_step (exact hcall _))
              refine wpQuiet_nil ?_
              rintro _ ⟨g, rfl⟩
              have hbg := Lib.hid (hbr g)
              clear hbr hcall
              go_wp2
              go_ret
              exact ⟨ret_bool (by unfold recsB; exact (allUpto_false hlt (recStep_fall hlt hk1 h0 (by omega))).symm), hbW.trans (hbg.out.mono hbW.size)⟩
      · go_wp2
        go_ret
        exact ⟨ret_bool (by rw [← ha.out]; unfold recsB; rw [show k = rs.length by omega]), hbW.trans (hb.out.mono hbW.size)⟩

set_option maxHeartbeats 400000 in
theorem BatchValid_many (pk mk : Bool) (pr ep sq : Int) (rs : List Rec) (A : Option Addr) (c : Nat) (w : World) (h : headB ⟨pk, mk, pr, ep, sq, rs⟩ = true) (hm : manyB ⟨pk, mk, pr, ep, sq, rs⟩ = false) :
    Calls Tryd.prog 15 #[.agg #[.bool pk, .bool mk, .int .i64 pr, .int .i64 ep, .int .i64 sq, .slice A rs.length c]] w fun e w' => e = .returned (.bool false) ∧ Below w.heap.size w w' := by
  cases hp : (pr == 255)
  · simp [headB, hp] at h
    obtain ⟨⟨h1, h2⟩, h3⟩ := h
    have H1 := Lib.hid h1
    have H2 := Lib.hid h2
    have H3 := Lib.hid h3
    clear h1 h2 h3
    cases hM : inB rs.length 1 6 <;> cases hn : ((rs.length : Int) != 1) <;> cases mk
    all_goals
      have HM := Lib.hid hM
      have HH := Lib.hid hm
      clear hM hm
      go_enter Tryd.func15, Tryd.ntmps15
      go_wp2_with (first
        | (go_at_call 27; refine (idValid_any _ _).mono ?_; rintro e w' ⟨rfl, rfl⟩; rw [H1.out])
        | (go_at_call 28; refine (within_any _ _ _ _).mono ?_; rintro e w' ⟨rfl, rfl⟩; first | rw [H2.out] | rw [H3.out] | rw [HM.out]))
      first
        | (go_ret; exact ⟨rfl, Below.alloc (Below.refl _ _) (Nat.le_refl _) _⟩)
        | (exfalso; have h4 := HH.out; have h5 := HM.out; clear HH HM; simp [manyB, h5] at h4; simp at hn; omega)
        | (exfalso; have h4 := HH.out; have h5 := HM.out; clear HH HM; simp [manyB, h5] at h4)
  · simp [headB, hp] at h
    obtain ⟨⟨h1, h2⟩, h3⟩ := h
    subst h3
    have n1 : (ep != 0) = false := by simp [h1]
    have n2 : (sq != 0) = false := by simp [h2]
    clear h1 h2
    have hM : inB rs.length 1 6 = false := by simpa [manyB] using hm
    have HM := Lib.hid hM
    clear hM hm
    go_enter Tryd.func15, Tryd.ntmps15
    go_wp2_with (go_at_call 28; refine (within_any _ _ _ _).mono ?_; rintro e w' ⟨rfl, rfl⟩; rw [HM.out])
    go_ret
    exact ⟨rfl, Below.alloc (Below.refl _ _) (Nat.le_refl _) _⟩

theorem BatchValid_any (b : Bat) (A : Option Addr) (c : Nat) (F : Nat → Prop) (w : World) (hr : Recs w F A c b.recs) :
    Calls Tryd.prog 15 #[.agg #[.bool b.packed, .bool b.mark, .int .i64 b.prod, .int .i64 b.epoch, .int .i64 b.seq, .slice A b.recs.length c]] w fun e w' => e = .returned (.bool (batB b)) ∧ Below w.heap.size w w' := by
  obtain ⟨pk, mk, pr, ep, sq, rs⟩ := b
  cases h : headB ⟨pk, mk, pr, ep, sq, rs⟩
  · exact (BatchValid_head pk mk pr ep sq rs A c w h).mono fun e w' ⟨he, hb⟩ => ⟨by rw [he]; unfold batB; rw [h]; rfl, hb⟩
  · cases hm : manyB ⟨pk, mk, pr, ep, sq, rs⟩
    · exact (BatchValid_many pk mk pr ep sq rs A c w h hm).mono fun e w' ⟨he, hb⟩ => ⟨by rw [he]; unfold batB; rw [h, hm]; rfl, hb⟩
    · exact (BatchValid_loop pk mk pr ep sq rs A c F w hr h hm).mono fun e w' ⟨he, hb⟩ => ⟨by rw [he]; unfold batB; rw [h, hm]; rfl, hb⟩
end

section
open Go.RowKit

end
end Go.Proofs.YtgnjnpfeofhniaaDoor
