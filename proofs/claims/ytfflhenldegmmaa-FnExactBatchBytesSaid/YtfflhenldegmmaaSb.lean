/- Numbers as bytes, sums. -/
import Derived.Test.YtfflhenldegmmaaPq
import Derived.Test.YtfflhenldegmmaaAp
import Derived.Test.YtfflhenldegmmaaA2
import Derived.Test.YtfflhenldegmmaaP1
import Derived.Test.YtfflhenldegmmaaMi
import Derived.Test.YtfflhenldegmmaaV1
namespace Go.Proofs.Ytfflhenldegmmaa
set_option linter.unusedVariables false
set_option linter.unusedSimpArgs false
open Go.RowKit

def intB2 (n : Int) : List Int := [n / 256 % 256, n % 256]
def intB3 (n : Int) : List Int := [n / 65536 % 256, n / 256 % 256, n % 256]
def sumStep (s b : Int) : Int := (257 * s + b) % 65521
def sumGo (s : Int) (l : List Int) : Int := l.foldl sumStep s
def sumB (l : List Int) : Int := sumGo 1 l
theorem sumStep_range (s b : Int) : 0 ≤ sumStep s b ∧ sumStep s b ≤ 65520 := by unfold sumStep; omega
theorem sumGo_append (s : Int) (l m : List Int) : sumGo s (l ++ m) = sumGo (sumGo s l) m := by simp [sumGo]
theorem sumGo_range (s : Int) (l : List Int) (h : 0 ≤ s ∧ s ≤ 65520) : 0 ≤ sumGo s l ∧ sumGo s l ≤ 65520 := by
  induction l generalizing s with
  | nil => exact h
  | cons b t ih => exact ih (sumStep s b) (sumStep_range s b)
theorem sumGo_take {s : Int} {l : List Int} {k : Nat} (h : k < l.length) : sumGo s (l.take (k + 1)) = sumStep (sumGo s (l.take k)) l[k] := by
  rw [List.take_succ_eq_append_getElem h, sumGo_append]
  rfl

set_option maxRecDepth 20000 in
set_option maxHeartbeats 1000000 in
theorem intOf2_any (n : Int) (w : World) (hn : 0 ≤ n ∧ n ≤ 16777215) :
    Calls Try.prog 74 #[.int .i64 n, .int .i64 2] w fun e w' => ∃ v, e = .returned v ∧ App (Kind.int .i64) 3 w' w.heap.size v (intB2 n) ∧ Below w.heap.size w w' := by
  have hmk : ∀ w : World, (Instr.makeSlice 23 (.int .i64 2) (.int .i64 2)).run Try.prog w = .ok (.slice (some ⟨w.heap.size, 0, none⟩) 2 2) (w.alloc (.cells #[.int .i64 0, .int .i64 0] 3)) :=
    make_ints 23 3 Try.underlying23 info_intP 2 (by omega) 2 rfl
  have HR := Lib.hid (App.ints 3 w w.heap.size (Nat.le_refl _) (intB2 n) (by simp [intB2]))
  have HB := Lib.hid (bal w (.cells ((intB2 n).map (Value.int .i64)).toArray 3))
  have h1 : bits .and .i64 n 255 = n % 256 := and_mask 8 (by decide) hn.1 (by omega)
  have h2 : bits .and .i64 (n / 256) 255 = n / 256 % 256 := and_mask 8 (by decide) (by omega) (by omega)
  go_enter Try.func74, Try.ntmps74
  go_wp2_with fail
  refine wp_loop_rounds 3 ?_
  rw [rounds_succ]
  go_wp2
  rw [rounds_succ]
  go_wp2
  rw [rounds_succ]
  go_wp2
  go_ret
  have HR' := HR.out
  have HB' := HB.out
  simp only [intB2, List.map_cons, List.map_nil, List.length_cons, List.length_nil] at HR' HB'
  exact ⟨_, rfl, HR', HB'⟩
set_option maxRecDepth 20000 in
set_option maxHeartbeats 1000000 in
theorem intOf3_any (n : Int) (w : World) (hn : 0 ≤ n ∧ n ≤ 16777215) :
    Calls Try.prog 74 #[.int .i64 n, .int .i64 3] w fun e w' => ∃ v, e = .returned v ∧ App (Kind.int .i64) 3 w' w.heap.size v (intB3 n) ∧ Below w.heap.size w w' := by
  have hmk : ∀ w : World, (Instr.makeSlice 23 (.int .i64 3) (.int .i64 3)).run Try.prog w = .ok (.slice (some ⟨w.heap.size, 0, none⟩) 3 3) (w.alloc (.cells #[.int .i64 0, .int .i64 0, .int .i64 0] 3)) :=
    make_ints 23 3 Try.underlying23 info_intP 3 (by omega) 3 rfl
  have HR := Lib.hid (App.ints 3 w w.heap.size (Nat.le_refl _) (intB3 n) (by simp [intB3]))
  have HB := Lib.hid (bal w (.cells ((intB3 n).map (Value.int .i64)).toArray 3))
  have h1 : bits .and .i64 n 255 = n % 256 := and_mask 8 (by decide) hn.1 (by omega)
  have h2 : bits .and .i64 (n / 256) 255 = n / 256 % 256 := and_mask 8 (by decide) (by omega) (by omega)
  have h3 : bits .and .i64 (n / 65536) 255 = n / 65536 % 256 := and_mask 8 (by decide) (by omega) (by omega)
  go_enter Try.func74, Try.ntmps74
  go_wp2_with fail
  refine wp_loop_rounds 4 ?_
  rw [rounds_succ]
  go_wp2
  rw [rounds_succ]
  go_wp2
  rw [rounds_succ]
  go_wp2
  rw [rounds_succ]
  go_wp2
  go_ret
  have HR' := HR.out
  have HB' := HB.out
  simp only [intB3, List.map_cons, List.map_nil, List.length_cons, List.length_nil] at HR' HB'
  exact ⟨_, rfl, HR', HB'⟩
set_option maxRecDepth 20000 in
set_option maxHeartbeats 1000000 in
theorem l2Int2_any (n : Int) (w : World) (hn : 0 ≤ n ∧ n ≤ 16777215) :
    Calls Try.prog 80 #[.int .i64 n, .int .i64 2] w fun e w' => ∃ v, e = .returned v ∧ App (Kind.int .i64) 3 w' w.heap.size v (intB2 n) ∧ Below w.heap.size w w' := by
  have hmk : ∀ w : World, (Instr.makeSlice 23 (.int .i64 2) (.int .i64 2)).run Try.prog w = .ok (.slice (some ⟨w.heap.size, 0, none⟩) 2 2) (w.alloc (.cells #[.int .i64 0, .int .i64 0] 3)) :=
    make_ints 23 3 Try.underlying23 info_intP 2 (by omega) 2 rfl
  have HR := Lib.hid (App.ints 3 w w.heap.size (Nat.le_refl _) (intB2 n) (by simp [intB2]))
  have HB := Lib.hid (bal w (.cells ((intB2 n).map (Value.int .i64)).toArray 3))
  have q1 : n.tmod 256 = n % 256 := Int.tmod_eq_emod_of_nonneg hn.1
  have q2 : n.tdiv 256 = n / 256 := Int.tdiv_eq_ediv_of_nonneg hn.1
  have q3 : (n / 256).tmod 256 = n / 256 % 256 := Int.tmod_eq_emod_of_nonneg (by omega)
  go_enter Try.func80, Try.ntmps80
  go_wp2_with fail
  refine wp_loop_rounds 3 ?_
  rw [rounds_succ]
  go_wp2
  rw [rounds_succ]
  go_wp2
  rw [rounds_succ]
  go_wp2
  go_ret
  have HR' := HR.out
  have HB' := HB.out
  simp only [intB2, List.map_cons, List.map_nil, List.length_cons, List.length_nil] at HR' HB'
  exact ⟨_, rfl, HR', HB'⟩
set_option maxRecDepth 20000 in
set_option maxHeartbeats 1000000 in
theorem l2Int3_any (n : Int) (w : World) (hn : 0 ≤ n ∧ n ≤ 16777215) :
    Calls Try.prog 80 #[.int .i64 n, .int .i64 3] w fun e w' => ∃ v, e = .returned v ∧ App (Kind.int .i64) 3 w' w.heap.size v (intB3 n) ∧ Below w.heap.size w w' := by
  have hmk : ∀ w : World, (Instr.makeSlice 23 (.int .i64 3) (.int .i64 3)).run Try.prog w = .ok (.slice (some ⟨w.heap.size, 0, none⟩) 3 3) (w.alloc (.cells #[.int .i64 0, .int .i64 0, .int .i64 0] 3)) :=
    make_ints 23 3 Try.underlying23 info_intP 3 (by omega) 3 rfl
  have HR := Lib.hid (App.ints 3 w w.heap.size (Nat.le_refl _) (intB3 n) (by simp [intB3]))
  have HB := Lib.hid (bal w (.cells ((intB3 n).map (Value.int .i64)).toArray 3))
  have q1 : n.tmod 256 = n % 256 := Int.tmod_eq_emod_of_nonneg hn.1
  have q2 : n.tdiv 256 = n / 256 := Int.tdiv_eq_ediv_of_nonneg hn.1
  have q3 : (n / 256).tmod 256 = n / 256 % 256 := Int.tmod_eq_emod_of_nonneg (by omega)
  have q4 : (n / 256).tdiv 256 = n / 65536 := by rw [Int.tdiv_eq_ediv_of_nonneg (by omega)]; omega
  have q5 : (n / 65536).tmod 256 = n / 65536 % 256 := Int.tmod_eq_emod_of_nonneg (by omega)
  go_enter Try.func80, Try.ntmps80
  go_wp2_with fail
  refine wp_loop_rounds 4 ?_
  rw [rounds_succ]
  go_wp2
  rw [rounds_succ]
  go_wp2
  rw [rounds_succ]
  go_wp2
  rw [rounds_succ]
  go_wp2
  go_ret
  have HR' := HR.out
  have HB' := HB.out
  simp only [intB3, List.map_cons, List.map_nil, List.length_cons, List.length_nil] at HR' HB'
  exact ⟨_, rfl, HR', HB'⟩
theorem with_any (s b : Int) (w : World) (hs : 0 ≤ s ∧ s ≤ 65520) (hb : 0 ≤ b ∧ b ≤ 255) :
    Calls Try.prog 94 #[.int .i64 s, .int .i64 b] w fun e w' => e = .returned (.int .i64 (sumStep s b)) ∧ w = w' := by
  have h1 : (257 * s + b).tmod 65521 = sumStep s b := Int.tmod_eq_emod_of_nonneg (by omega)
  have h2 : IntKind.i64.wrap (257 * s) = 257 * s := by rw [IntWalk.i64_in _ (by omega)]
  have h3 : IntKind.i64.wrap (257 * s + b) = 257 * s + b := by rw [IntWalk.i64_in _ (by omega)]
  go_enter Try.func94, Try.ntmps94
  go_wp2
  go_ret
  exact ⟨rfl, rfl⟩
theorem byte_at {l : List Int} (hb : bytesB l = true) {k : Nat} (hk : k < l.length) : 0 ≤ l[k] ∧ l[k] ≤ 255 := by
  have := List.all_eq_true.1 (show l.all byteB = true from hb) l[k] (List.getElem_mem hk)
  simpa [byteB] using this
theorem over_any (s : Int) (l : List Int) (A : Option Addr) (c : Nat) (F : Nat → Prop) (w : World) (h : Ints w F A c l) (hn : l.length ≤ 4194304) (hby : bytesB l = true) (hs : 0 ≤ s ∧ s ≤ 65520) :
    Calls Try.prog 76 #[.int .i64 s, .slice A l.length c] w fun e w' => e = .returned (.int .i64 (sumGo s l)) ∧ w = w' := by
  have hl := h.1
  have hc := h.2.1
  go_enter Try.func76, Try.ntmps76
  go_wp2_with fail
  go_loop [0, 9] (fun q i => ∃ k : Nat, k ≤ l.length ∧ i = .int .i64 k ∧ q = .int .i64 (sumGo s (l.take k))) (fun _ i => l.length - (intOf i).toNat)
  case atStart => exact ⟨0, Nat.zero_le _, rfl, rfl⟩
  case round =>
    obtain ⟨k, hk, rfl, rfl⟩ := hrel
    by_cases hlt : k < l.length
    · obtain ⟨ad, rfl, _, q⟩ := h.int_at hlt
      have HS := Lib.hid (sumGo_take (s := s) hlt)
      have hr := sumGo_range s (l.take k) hs
      obtain ⟨u, hu⟩ : ∃ u, u = sumGo s (l.take k) := ⟨_, rfl⟩
      rw [← hu] at HS hr
      rw [← hu]
      clear hu
      go_wp2_with fail
      refine (with_any u l[k] w hr (byte_at hby hlt)).mono ?_
      rintro e w' ⟨rfl, rfl⟩
      rw [← HS.out]
      go_wp2
      go_round
      case rel => exact ⟨k + 1, by omega, by go_num, rfl⟩
      case measure => simp [intOf]; omega
    · have : k = l.length := by omega
      subst this
      rw [List.take_length]
      go_wp2
      go_ret
      exact ⟨rfl, rfl⟩
theorem l2Sum_any (l : List Int) (A : Option Addr) (c : Nat) (F : Nat → Prop) (w : World) (h : Ints w F A c l) (hn : l.length ≤ 4194304) (hby : bytesB l = true) :
    Calls Try.prog 81 #[.slice A l.length c] w fun e w' => e = .returned (.int .i64 (sumB l)) ∧ w = w' := by
  have hl := h.1
  have hc := h.2.1
  go_enter Try.func81, Try.ntmps81
  go_wp2_with fail
  go_loop [3, 4] (fun q i => ∃ k : Nat, k ≤ l.length ∧ i = .int .i64 k ∧ q = .int .i64 (sumGo 1 (l.take k))) (fun _ i => l.length - (intOf i).toNat)
  case atStart => exact ⟨0, Nat.zero_le _, rfl, rfl⟩
  case round =>
    obtain ⟨k, hk, rfl, rfl⟩ := hrel
    by_cases hlt : k < l.length
    · obtain ⟨ad, rfl, _, q⟩ := h.int_at hlt
      have HS := Lib.hid (sumGo_take (s := 1) hlt)
      have hr := sumGo_range 1 (l.take k) (by omega)
      have hb := byte_at hby hlt
      obtain ⟨u, hu⟩ : ∃ u, u = sumGo 1 (l.take k) := ⟨_, rfl⟩
      rw [← hu] at HS hr
      rw [← hu]
      have h1 : (257 * u + l[k]).tmod 65521 = sumStep u l[k] := Int.tmod_eq_emod_of_nonneg (by omega)
      have h2 : IntKind.i64.wrap (257 * u) = 257 * u := by rw [IntWalk.i64_in _ (by omega)]
      have h3 : IntKind.i64.wrap (257 * u + l[k]) = 257 * u + l[k] := by rw [IntWalk.i64_in _ (by omega)]
      clear hu
      go_wp2
      rw [← HS.out]
      go_round
      case rel => exact ⟨k + 1, by omega, by go_num, rfl⟩
      case measure => simp [intOf]; omega
    · have : k = l.length := by omega
      subst this
      rw [List.take_length]
      go_wp2
      go_ret
      exact ⟨rfl, rfl⟩
end Go.Proofs.Ytfflhenldegmmaa
