/- The reference: valid batches. -/
import Derived.Test.YtfflhenldegmmaaS1
namespace Go.Proofs.Ytfflhenldegmmaa
set_option linter.unusedVariables false
set_option linter.unusedSimpArgs false
open Go.RowKit

theorem batB_spec (b : Bat) : batB b = (recsB b.recs && inB b.recs.length 1 6 && inB b.prod 0 255 && inB b.epoch 0 99 && inB b.seq 0 9999 && (if b.prod == 255 then b.epoch == 0 && b.seq == 0 && !b.mark else !b.mark || (b.recs.length : Int) == 1)) := by
  obtain ⟨pk, mk, pr, ep, sq, rs⟩ := b
  rw [Bool.eq_iff_iff]
  simp only [batB, headB, manyB, inB]
  by_cases hp : pr = 255
  · subst hp
    cases mk
    · simp
      constructor
      · rintro ⟨⟨⟨h1, h2⟩, h3, h4⟩, h5⟩
        simp [*]
      · intro h; simp_all
    · simp
  · have hp' : (pr == 255) = false := by simp [hp]
    simp [hp]
    constructor
    · rintro ⟨⟨⟨⟨⟨h1, h2⟩, h3⟩, h4⟩, ⟨h5, h6⟩, h7⟩, h8⟩
      refine ⟨⟨⟨⟨⟨h8, h5, h6⟩, h1, by omega⟩, h3⟩, h4⟩, ?_⟩
      rcases h7 with h7 | h7
      · exact .inl h7
      · exact .inr (by omega)
    · rintro ⟨⟨⟨⟨⟨h8, h5, h6⟩, h1, h2⟩, h3⟩, h4⟩, h7⟩
      refine ⟨⟨⟨⟨⟨h1, by omega⟩, h3⟩, h4⟩, ⟨h5, h6⟩, ?_⟩, h8⟩
      rcases h7 with h7 | h7
      · exact .inl h7
      · exact .inr (by omega)

set_option maxHeartbeats 1000000 in
theorem BatchValidS_any (b : Bat) (A : Option Addr) (c : Nat) (F : Nat → Prop) (w : World) (hr : Recs w F A c b.recs) :
    Calls Try.prog 50 #[.agg #[.bool b.packed, .bool b.mark, .int .i64 b.prod, .int .i64 b.epoch, .int .i64 b.seq, .slice A b.recs.length c]] w fun e w' => e = .returned (.bool (batB b)) ∧ Below w.heap.size w w' := by
  rw [batB_spec]
  obtain ⟨pk, mk, pr, ep, sq, rs⟩ := b
  simp only at hr ⊢
  have hl := hr.1
  have hc := hr.2.1
  cases h1 : (recsB rs && inB rs.length 1 6)
  · have H1 := Lib.hid h1
    clear h1
    go_enter Try.func50, Try.ntmps50
    go_wp2_with (go_at_call 77; refine (l5Records_any rs A c F _ (hr.below (bal _ _))).mono ?_; rintro e w1 ⟨rfl, hb1⟩; rw [H1.out])
    all_goals
      go_ret
      exact ⟨ret_bool (by first | rfl | simp), bthen (bal _ _) hb1⟩
  · have H1 := Lib.hid h1
    clear h1
    cases h2 : inB pr 0 255 <;> cases h3 : inB ep 0 99 <;> cases h4 : inB sq 0 9999
    case' true.true.true => cases hp : (pr == 255)
    case' true.true.true.true => cases he : (ep == 0) <;> cases hs : (sq == 0)
    all_goals
      have H2 := Lib.hid h2
      have H3 := Lib.hid h3
      have H4 := Lib.hid h4
      clear h2 h3 h4
      go_enter Try.func50, Try.ntmps50
      go_wp2_with fail
      refine (l5Records_any rs A c F _ (hr.below (bal _ _))).mono ?_
      rintro e w1 ⟨rfl, hb1⟩
      rw [H1.out]
      obtain ⟨_, hs1, e0, e1, e2, e3, e4, e5⟩ := box6 (t := 44) (v0 := .bool pk) (v1 := .bool mk) (v2 := .int .i64 pr) (v3 := .int .i64 ep) (v4 := .int .i64 sq) (v5 := .slice A rs.length c) (w := w) rfl
      have f1 := below_cell hb1 e1
      have f2 := below_cell hb1 e2
      have f3 := below_cell hb1 e3
      have f4 := below_cell hb1 e4
      have f5 := below_cell hb1 e5
      have hbb := Lib.hid (bthen (bal _ _) hb1)
      clear hb1 e0 e1 e2 e3 e4 e5 hs1
      go_wp2_with (go_at_call 61; refine (l6In_any _ _ _ _).mono ?_; rintro e w' ⟨rfl, rfl⟩; first | rw [H2.out] | rw [H3.out] | rw [H4.out])
      all_goals
        go_ret
        exact ⟨ret_bool (by first | (simp; done) | (simp [*]; done) | (cases mk <;> simp_all)), hbb.out⟩

end Go.Proofs.Ytfflhenldegmmaa
