/- Validity: the small functions. -/
import Derived.Test.YtgnjnpfeofhniaaDoorGa
namespace Go.Proofs.YtgnjnpfeofhniaaDoor
set_option linter.unusedVariables false
set_option linter.unusedSimpArgs false
open Go.RowKit

theorem within_any (n l h : Int) (w : World) :
    Calls Tryd.prog 28 #[.int .i64 n, .int .i64 l, .int .i64 h] w fun e w' => e = .returned (.bool (inB n l h)) ∧ w = w' := by
  go_enter Tryd.func28, Tryd.ntmps28
  go_wp2
  all_goals (go_ret; refine ⟨ret_bool ?_, rfl⟩; unfold inB; first | (simp [*]; done) | (simp [*]; omega))

theorem isByte_any (n : Int) (w : World) :
    Calls Tryd.prog 39 #[.int .i64 n] w fun e w' => e = .returned (.bool (byteB n)) ∧ w = w' := by
  go_enter Tryd.func39, Tryd.ntmps39
  go_wp2
  all_goals (go_ret; refine ⟨ret_bool ?_, rfl⟩; unfold byteB; first | (simp [*]; done) | (simp [*]; omega))

theorem idValid_any (n : Int) (w : World) :
    Calls Tryd.prog 27 #[.int .i64 n] w fun e w' => e = .returned (.bool (inB n 0 254)) ∧ w = w' := by
  go_enter Tryd.func27, Tryd.ntmps27
  go_wp2_with (go_at_call 28; refine (within_any _ _ _ _).mono ?_; rintro e w' ⟨rfl, rfl⟩)
  go_ret
  exact ⟨rfl, rfl⟩

theorem baseValid_any (o t : Int) (w : World) :
    Calls Tryd.prog 42 #[.int .i64 o, .int .i64 t] w fun e w' => e = .returned (.bool (baseB o t)) ∧ w = w' := by
  cases h1 : inB o 0 99999 <;> have H1 := Lib.hid h1 <;> clear h1
  all_goals
    go_enter Tryd.func42, Tryd.ntmps42
    go_wp2_with fail
    refine (within_any _ _ _ _).mono ?_
    rintro e w' ⟨rfl, rfl⟩
    rw [H1.out]
    go_wp2_with (go_at_call 28; refine (within_any _ _ _ _).mono ?_; rintro e w' ⟨rfl, rfl⟩)
    go_ret
    exact ⟨ret_bool (by unfold baseB; rw [H1.out]; simp), rfl⟩

theorem allBytes_any (l : List Int) (A : Option Addr) (c : Nat) (F : Nat → Prop) (w : World) (h : Ints w F A c l) :
    Calls Tryd.prog 21 #[.slice A l.length c] w fun e w' => e = .returned (.bool (bytesB l)) ∧ w = w' := by
  have hl := h.1
  have hc := h.2.1
  go_enter Tryd.func21, Tryd.ntmps21
  go_wp2
  go_loop [4, 7] (fun _ i => ∃ k : Nat, k ≤ l.length ∧ i = .int .i64 k ∧ Hid (bytesB (l.take k) = true)) (fun _ i => l.length - (intOf i).toNat)
  case atStart => exact ⟨0, Nat.zero_le _, rfl, Lib.hid (by simp [bytesB])⟩
  case round =>
    obtain ⟨k, hk, rfl, hb⟩ := hrel
    by_cases hlt : k < l.length
    · obtain ⟨ad, rfl, _, hcell⟩ := h.int_at hlt
      go_wp2_with (go_at_call 39; refine (isByte_any _ _).mono ?_; rintro e w' ⟨rfl, rfl⟩)
      case roundEnd =>
        go_round
        case rel => exact ⟨k + 1, by omega, by go_num, Lib.hid (by rw [bytesB_take_succ _ _ hlt, hb.out]; simpa using ‹(!byteB l[k]) = false›)⟩
        case measure => simp [intOf]; omega
      go_ret
      exact ⟨ret_bool (bytesB_false_of l k hlt (by simpa using ‹(!byteB l[k]) = true›)).symm, rfl⟩
    · go_wp2
      go_ret
      exact ⟨ret_bool (by rw [← hb.out, List.take_of_length_le (by omega)]), rfl⟩

theorem partValid_any (has : Bool) (l : List Int) (A : Option Addr) (c : Nat) (F : Nat → Prop) (w : World) (h : Ints w F A c l) :
    Calls Tryd.prog 50 #[.bool has, .slice A l.length c] w fun e w' => e = .returned (.bool (partB has l)) ∧ w = w' := by
  have hl := h.1
  have hc := h.2.1
  cases has
  · go_enter Tryd.func50, Tryd.ntmps50
    go_wp2
    go_ret
    exact ⟨ret_bool (by simp [partB]; rw [Bool.eq_iff_iff]; simp), rfl⟩
  · by_cases h12 : l.length ≤ 12
    · go_enter Tryd.func50, Tryd.ntmps50
      go_wp2_with (go_at_call 21; refine (allBytes_any l A c F _ h).mono ?_; rintro e w' ⟨rfl, rfl⟩)
      go_ret
      exact ⟨ret_bool (by simp [partB, h12]), rfl⟩
    · go_enter Tryd.func50, Tryd.ntmps50
      go_wp2
      go_ret
      exact ⟨ret_bool (by simp [partB, h12]), rfl⟩
theorem RecordValid_any (r : Rec) (A A' : Option Addr) (c c' : Nat) (F : Nat → Prop) (w : World) (h : Ints w F A c r.key) (h' : Ints w F A' c' r.val) :
    Calls Tryd.prog 29 #[.agg #[.int .i64 r.off, .int .i64 r.time, .bool r.hk, .slice A r.key.length c, .bool r.hv, .slice A' r.val.length c']] w fun e w' => e = .returned (.bool (recB r)) ∧ Below w.heap.size w w' := by
  cases h1 : baseB r.off r.time <;> cases h2 : partB r.hk r.key <;> have H1 := Lib.hid h1 <;> have H2 := Lib.hid h2 <;> clear h1 h2
  all_goals
    go_enter Tryd.func29, Tryd.ntmps29
    go_wp2_with fail
    refine (baseValid_any _ _ _).mono ?_
    rintro e w' ⟨rfl, rfl⟩
    rw [H1.out]
    go_wp2_with fail
    try (refine (partValid_any r.hk r.key A c F _ ?_).mono ?_; exact h.below (Below.alloc (Below.refl _ _) (Nat.le_refl _) _); rintro e w' ⟨rfl, rfl⟩; rw [H2.out]; go_wp2_with fail)
    try (refine (partValid_any r.hv r.val A' c' F _ ?_).mono ?_; exact h'.below (Below.alloc (Below.refl _ _) (Nat.le_refl _) _); rintro e w' ⟨rfl, rfl⟩; go_wp2_with fail)
    go_ret
    exact ⟨ret_bool (by simp [recB, H1.out, H2.out]), Below.alloc (Below.refl _ _) (Nat.le_refl _) _⟩
end Go.Proofs.YtgnjnpfeofhniaaDoor
