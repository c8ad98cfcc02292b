/- Validity in the reference: records. The reference: valid batches. The reference: valid segments. -/
import Derived.Test.YtgnjnpfeofhniaaGa
namespace Go.Proofs.Ytgnjnpfeofhniaa
set_option linter.unusedVariables false
set_option linter.unusedSimpArgs false
section
open Go.RowKit

theorem l6In_any (n l h : Int) (w : World) :
    Calls Try.prog 26 #[.int .i64 n, .int .i64 l, .int .i64 h] w fun e w' => e = .returned (.bool (inB n l h)) ∧ w = w' := by
  go_enter Try.func26, Try.ntmps26
  go_wp2
  all_goals (go_ret; refine ⟨ret_bool ?_, rfl⟩; unfold inB; first | (simp [*]; done) | (simp [*]; omega))

theorem l1Ok_any (l : List Int) (A : Option Addr) (c : Nat) (F : Nat → Prop) (w : World) (h : Ints w F A c l) :
    Calls Try.prog 34 #[.slice A l.length c] w fun e w' => e = .returned (.bool (bytesB l)) ∧ w = w' := by
  have hl := h.1
  have hc := h.2.1
  go_enter Try.func34, Try.ntmps34
  go_wp2
  go_loop [3] (fun i => ∃ k : Nat, k ≤ l.length ∧ i = .int .i64 k ∧ Hid (bytesB (l.take k) = true)) (fun i => l.length - (intOf i).toNat)
  case atStart => exact ⟨0, Nat.zero_le _, rfl, Lib.hid (by simp [bytesB])⟩
  case round =>
    obtain ⟨k, hk, rfl, hb⟩ := hrel
    by_cases hlt : k < l.length
    · obtain ⟨ad, rfl, _, hcell⟩ := h.int_at hlt
      go_wp2_with (go_at_call 26; refine (l6In_any _ _ _ _).mono ?_; rintro e w' ⟨rfl, rfl⟩)
      case roundEnd =>
        go_round
        case rel => exact ⟨k + 1, by omega, by go_num, Lib.hid (by rw [bytesB_take_succ _ _ hlt, hb.out]; have h1 : (!byteB l[k]) = false := ‹(!inB l[k] 0 255) = false›; simpa using h1)⟩
        case measure => simp [intOf]; omega
      go_ret
      exact ⟨ret_bool (bytesB_false_of l k hlt (by have h1 : (!byteB l[k]) = true := ‹(!inB l[k] 0 255) = true›; simpa using h1)).symm, rfl⟩
    · go_wp2
      go_ret
      exact ⟨ret_bool (by rw [← hb.out, List.take_of_length_le (by omega)]), rfl⟩

theorem l3Part_any (has : Bool) (l : List Int) (A : Option Addr) (c : Nat) (F : Nat → Prop) (w : World) (h : Ints w F A c l) :
    Calls Try.prog 27 #[.bool has, .slice A l.length c] w fun e w' => e = .returned (.bool (partB has l)) ∧ w = w' := by
  have hl := h.1
  have hc := h.2.1
  have hp : partB has l = ((has || l.length == 0) && bytesB l && decide (l.length ≤ 12)) := by
    cases has
    · cases l with
      | nil => rfl
      | cons a t => simp [partB]
    · simp [partB, Bool.and_comm]
  rw [hp]
  clear hp
  cases hok : bytesB l <;> cases has <;> cases hn : ((l.length : Int) == 0)
  all_goals
    have HK := Lib.hid hok
    have HN := Lib.hid (show (l.length == 0) = ((l.length : Int) == 0) by rw [Bool.eq_iff_iff]; simp)
    clear hok
    go_enter Try.func27, Try.ntmps27
    go_wp2_with (go_at_call 34; refine (l1Ok_any l A c F _ h).mono ?_; rintro e w' ⟨rfl, rfl⟩; rw [HK.out])
    go_ret
    refine ⟨ret_bool ?_, rfl⟩
    have h1 := HN.out
    clear HN
    rw [h1]
    first | (simp [hn]; done) | (simp [hn]; omega)

theorem RecordValidS_any (r : Rec) (A A' : Option Addr) (c c' : Nat) (F : Nat → Prop) (w : World) (h : Ints w F A c r.key) (h' : Ints w F A' c' r.val) :
    Calls Try.prog 16 #[.agg #[.int .i64 r.off, .int .i64 r.time, .bool r.hk, .slice A r.key.length c, .bool r.hv, .slice A' r.val.length c']] w fun e w' => e = .returned (.bool (recB r)) ∧ Below w.heap.size w w' := by
  cases h1 : inB r.off 0 99999 <;> cases h2 : inB r.time 0 99999 <;> cases h3 : partB r.hk r.key <;> have H1 := Lib.hid h1 <;> have H2 := Lib.hid h2 <;> have H3 := Lib.hid h3 <;> clear h1 h2 h3
  all_goals
    go_enter Try.func16, Try.ntmps16
    go_wp2_with (first
      | (go_at_call 26; refine (l6In_any _ _ _ _).mono ?_; rintro e w' ⟨rfl, rfl⟩; first | rw [H1.out] | rw [H2.out])
      | (go_at_call 27; ((with_reducible refine (l3Part_any r.hk r.key A c F _ (h.below (bal _ _))).mono ?_); rintro e w' ⟨rfl, rfl⟩; rw [H3.out]))
      | (go_at_call 27; ((with_reducible refine (l3Part_any r.hv r.val A' c' F _ (h'.below (bal _ _))).mono ?_); rintro e w' ⟨rfl, rfl⟩)))
    go_ret
    exact ⟨ret_bool (by simp [recB, baseB, H1.out, H2.out, H3.out]), bal _ _⟩

end

section
open Go.RowKit

theorem batB_spec (b : Bat) : batB b = (recsB b.recs && inB b.recs.length 1 6 && inB b.prod 0 255 && inB b.epoch 0 99 && inB b.seq 0 9999 && (if b.prod == 255 then b.epoch == 0 && b.seq == 0 && !b.mark else !b.mark || (b.recs.length : Int) == 1)) := by
  obtain ⟨pk, mk, pr, ep, sq, rs⟩ := b
  rw [Bool.eq_iff_iff]
  simp only [batB, headB, manyB, inB]
  by_cases hp : pr = 255
  · subst hp
    cases mk
    · simp
      constructor
      · rintro ⟨⟨⟨h1, h2⟩, h3, h4⟩, h5⟩
        simp [*]
      · intro h; simp_all
    · simp
  · have hp' : (pr == 255) = false := by simp [hp]
    simp [hp]
    constructor
    · rintro ⟨⟨⟨⟨⟨h1, h2⟩, h3⟩, h4⟩, ⟨h5, h6⟩, h7⟩, h8⟩
      refine ⟨⟨⟨⟨⟨h8, h5, h6⟩, h1, by omega⟩, h3⟩, h4⟩, ?_⟩
      rcases h7 with h7 | h7
      · exact .inl h7
      · exact .inr (by omega)
    · rintro ⟨⟨⟨⟨⟨h8, h5, h6⟩, h1, h2⟩, h3⟩, h4⟩, h7⟩
      refine ⟨⟨⟨⟨⟨h1, by omega⟩, h3⟩, h4⟩, ⟨h5, h6⟩, ?_⟩, h8⟩
      rcases h7 with h7 | h7
      · exact .inl h7
      · exact .inr (by omega)

end

section
open Go.RowKit

end
end Go.Proofs.Ytgnjnpfeofhniaa
