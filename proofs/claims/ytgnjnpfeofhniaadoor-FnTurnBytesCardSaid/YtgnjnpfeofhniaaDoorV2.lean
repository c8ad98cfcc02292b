/- Variable numbers of the program. Variable numbers: reading them; the reference's. -/
import Derived.Test.YtgnjnpfeofhniaaDoorPn
import Derived.Test.YtgnjnpfeofhniaaDoorGa
import Derived.Test.YtgnjnpfeofhniaaDoorB1
import Derived.Laws.BitsLemmas
namespace Go.Proofs.YtgnjnpfeofhniaaDoor
set_option linter.unusedVariables false
set_option linter.unusedSimpArgs false
section
open Go.RowKit

theorem wraps_i64 (n : Int) (h₀ : 0 ≤ n) (h₁ : n < 2 ^ 63) : IntKind.i64.wrap n = n := by
  rw [IntKind.wrap_i64]
  omega
theorem and_mask (i : Nat) (hi : i ≤ 62) {x : Int} (h0 : 0 ≤ x) (h1 : x < 4611686018427387904) : bits .and .i64 x (2 ^ i - 1) = x % 2 ^ i :=
  bits_mask .i64 62 (by decide) (fun n a b => wraps_i64 n a (by omega)) i hi x h0 (by omega)
theorem or_comm_i64 {x y : Int} (hx : 0 ≤ x) (hy : 0 ≤ y) (hx1 : x < 4611686018427387904) (hy1 : y < 4611686018427387904) : bits .or .i64 x y = bits .or .i64 y x := by
  obtain ⟨a, rfl⟩ := Int.eq_ofNat_of_zero_le hx
  obtain ⟨b, rfl⟩ := Int.eq_ofNat_of_zero_le hy
  have e1 := (bits_nat .i64 62 (by decide) (fun n a b => wraps_i64 n a (by omega)) a b (by omega) (by omega)).2
  have e2 := (bits_nat .i64 62 (by decide) (fun n a b => wraps_i64 n a (by omega)) b a (by omega) (by omega)).2
  rw [e1, e2, Nat.or_comm]
theorem or_low (i : Nat) {x y : Int} (hx : 0 ≤ x) (hx1 : x < 2 ^ i) (hy : 0 ≤ y) (hy0 : y % 2 ^ i = 0) (hx2 : x < 4611686018427387904) (hy1 : y < 4611686018427387904) : bits .or .i64 x y = x + y := by
  rw [or_comm_i64 hx hy hx2 hy1, bits_join .i64 62 (by decide) (fun n a b => wraps_i64 n a (by omega)) i y x hy hy0 (by omega) hx hx1 (by omega)]
  omega

theorem FoldNumber_any (n : Int) (w : World) (hn : -1000000 ≤ n ∧ n ≤ 1000000) :
    Calls Tryd.prog 67 #[.int .i64 n] w fun e w' => e = .returned (.int .i64 (foldV n)) ∧ w = w' := by
  obtain ⟨h1, h2⟩ := hn
  by_cases h : n < 0
  · have e : foldV n = -2 * n - 1 := if_pos h
    rw [e]
    clear e
    go_enter Tryd.func67, Tryd.ntmps67
    go_wp2
    go_ret
    exact ⟨rfl, rfl⟩
  · have e : foldV n = 2 * n := if_neg h
    rw [e]
    clear e
    go_enter Tryd.func67, Tryd.ntmps67
    go_wp2
    go_ret
    exact ⟨rfl, rfl⟩
theorem UnfoldNumber_any (f : Int) (w : World) (h1 : 0 ≤ f) (h2 : f ≤ 2000000) :
    Calls Tryd.prog 73 #[.int .i64 f] w fun e w' => e = .returned (.int .i64 (unfoldV f)) ∧ w = w' := by
  have hand : bits .and .i64 f 1 = f % 2 := and_mask 1 (by decide) h1 (by omega)
  by_cases h : f % 2 = 1
  · have e : unfoldV f = -(f / 2) - 1 := by unfold unfoldV; rw [if_pos h]; omega
    rw [e]
    have hq : (f % 2 == 1) = true := by simpa using h
    clear e h
    go_enter Tryd.func73, Tryd.ntmps73
    go_wp2
    go_ret
    exact ⟨rfl, rfl⟩
  · have e : unfoldV f = f / 2 := by unfold unfoldV; rw [if_neg h]
    rw [e]
    have hq : (f % 2 == 1) = false := by simpa using h
    clear e h
    go_enter Tryd.func73, Tryd.ntmps73
    go_wp2
    go_ret
    exact ⟨rfl, rfl⟩
theorem vb_step {f : Int} (h0 : 128 ≤ f) (h1 : f ≤ 2000000) : vb f = (f % 128 + 128) :: vb (f / 128) := by
  have e : f / 128 / 128 = f / 16384 := by omega
  unfold vb
  rw [if_neg (by omega), e]
  by_cases h : f < 16384
  · rw [if_pos h, if_pos (by omega)]
  · rw [if_neg h, if_neg (by omega), if_pos (by omega)]
theorem varOf_any (n : Int) (w : World) (hn : -1000000 ≤ n ∧ n ≤ 1000000) :
    Calls Tryd.prog 53 #[.int .i64 n] w fun e w' => ∃ v, e = .returned v ∧ App (Kind.int .i64) 3 w' w.heap.size v (varB n) ∧ Below w.heap.size w w' := by
  have hL := App.lit (Kind.int .i64) 3 w w.heap.size (Nat.le_refl _)
  have HB1 := Lib.hid (bal w (.cells #[] 3))
  have hf := fold_range hn
  go_enter Tryd.func53, Tryd.ntmps53
  go_wp2_with fail
  refine (FoldNumber_any n _ hn).mono ?_
  rintro e w1 ⟨rfl, rfl⟩
  obtain ⟨f0, hf0⟩ : ∃ f, f = foldV n := ⟨_, rfl⟩
  rw [← hf0] at hf ⊢
  have HF0 := Lib.hid (show varB n = vb f0 by rw [hf0]; rfl)
  clear hf0
  go_wp2_with fail
  go_loopw [3, 4] (fun v q wr => ∃ (f : Int) (xs : List Int), q = .int .i64 f ∧ App (Kind.int .i64) 3 wr w.heap.size v xs ∧ Hid (xs ++ vb f = varB n) ∧ 0 ≤ f ∧ f ≤ 2000000 ∧ Hid (Below w.heap.size w wr)) (fun _ q _ => (intOf q).toNat)
  case atStart => exact ⟨f0, [], rfl, hL, Lib.hid (by rw [HF0.out]; rfl), hf.1, hf.2, HB1⟩
  case round =>
    obtain ⟨f, xs, rfl, HA, HE, h0, h1, HB⟩ := hrel
    obtain ⟨A1, c1, rfl, hl1, hc1⟩ := HA.slice_
    have hlen : xs.length ≤ 3 := by
      have h3 := congrArg List.length HE.out
      have := (varB_len n).2
      rw [List.length_append] at h3
      omega
    have hP : ∀ b, wr.heap.size ≤ b → w.heap.size ≤ b := fun b h => Nat.le_trans HB.out.size h
    have HX := Lib.hid HA
    have HO := Lib.hid (fun g hg => AppP.ne HA (k := g) hg)
    have HW := Lib.hid HB.out.size
    clear HA hL HB1
    by_cases hlt : f < 128
    · have HE2 := Lib.hid (show xs ++ [f] = varB n by rw [← HE.out, vb_small hlt])
      go_wp2_with (at_builtin; go_loud (refine wpList_appP (Kind.int .i64) HX.out rfl _ _ 32 (.int .i64 0) 8 rfl Tryd.underlying32 (by kernel_rfl) rfl (by decide) f [.int .i64 f] (fun _ => False) rfl rfl rfl (fun _ h => h.elim) (by simp [Value.oneCell']) hP (by omega) (by omega) ?_))
      intro v1 w2 HA2 hc2
      rw [HE2.out] at HA2
      have HB2 := Lib.hid (HB.out.trans (hc2.below HW.out (fun i hi => HO.out i hi)))
      clear hc2
      go_wp2
      go_ret
      exact ⟨_, rfl, HA2, HB2.out⟩
    · have hand : bits .and .i64 f 127 = f % 128 := and_mask 7 (by decide) h0 (by omega)
      have hor : bits .or .i64 (f % 128) 128 = f % 128 + 128 := or_low 7 (by omega) (by omega) (by omega) (by decide) (by omega) (by omega)
      have HE2 := Lib.hid (show (xs ++ [f % 128 + 128]) ++ vb (f / 128) = varB n by rw [← HE.out, vb_step (by omega) h1, List.append_assoc]; rfl)
      go_wp2_with (at_builtin; go_loud (refine wpList_appP (Kind.int .i64) HX.out rfl _ _ 32 (.int .i64 0) 8 rfl Tryd.underlying32 (by kernel_rfl) rfl (by decide) (f % 128 + 128) [.int .i64 (f % 128 + 128)] (fun _ => False) rfl rfl rfl (fun _ h => h.elim) (by simp [Value.oneCell']) hP (by omega) (by omega) ?_))
      intro v1 w2 HA2 hc2
      obtain ⟨ys, hys⟩ : ∃ ys, ys = xs ++ [f % 128 + 128] := ⟨_, rfl⟩
      rw [← hys] at HA2 HE2
      have HB2 := Lib.hid (HB.out.trans (hc2.below HW.out (fun i hi => HO.out i hi)))
      clear hc2 hys
      go_wp2
      go_roundw
      case rel => exact ⟨f / 128, ys, by simp, HA2, HE2, by omega, by omega, HB2⟩
      case measure => simp [intOf]; omega
end

section
open Go.RowKit

/-- What the readers of numbers return. -/
def rdVal : Option (Int × Nat) → Value
  | none => .tuple #[.int .i64 0, .int .i64 0, .bool false]
  | some (n, j) => .tuple #[.int .i64 n, .int .i64 (j : Int), .bool true]
theorem byte_at {l : List Int} (h : bytesB l = true) {k : Nat} (hk : k < l.length) : 0 ≤ l[k] ∧ l[k] ≤ 255 := by
  unfold bytesB at h
  have := List.all_eq_true.1 h l[k] (List.getElem_mem hk)
  simpa [byteB] using this
end
end Go.Proofs.YtgnjnpfeofhniaaDoor
