/- Numbers as bytes, sums. Numbers out of bytes; slices.Grow, slices.Concat. -/
import Derived.Test.YtgnjnpfeofhniaaDoorPn
import Derived.Test.YtgnjnpfeofhniaaDoorGa
import Derived.Test.YtgnjnpfeofhniaaDoorRq
import Derived.Test.YtgnjnpfeofhniaaDoorV2
import Derived.Test.YtgnjnpfeofhniaaDoorP8
namespace Go.Proofs.YtgnjnpfeofhniaaDoor
set_option linter.unusedVariables false
set_option linter.unusedSimpArgs false
section
open Go.RowKit

def intB2 (n : Int) : List Int := [n / 256 % 256, n % 256]
def intB3 (n : Int) : List Int := [n / 65536 % 256, n / 256 % 256, n % 256]
def sumStep (s b : Int) : Int := (257 * s + b) % 65521
def sumGo (s : Int) (l : List Int) : Int := l.foldl sumStep s
def sumB (l : List Int) : Int := sumGo 1 l
theorem sumStep_range (s b : Int) : 0 ≤ sumStep s b ∧ sumStep s b ≤ 65520 := by unfold sumStep; omega
theorem sumGo_append (s : Int) (l m : List Int) : sumGo s (l ++ m) = sumGo (sumGo s l) m := by simp [sumGo]
theorem sumGo_range (s : Int) (l : List Int) (h : 0 ≤ s ∧ s ≤ 65520) : 0 ≤ sumGo s l ∧ sumGo s l ≤ 65520 := by
  induction l generalizing s with
  | nil => exact h
  | cons b t ih => exact ih (sumStep s b) (sumStep_range s b)
theorem sumGo_take {s : Int} {l : List Int} {k : Nat} (h : k < l.length) : sumGo s (l.take (k + 1)) = sumStep (sumGo s (l.take k)) l[k] := by
  rw [List.take_succ_eq_append_getElem h, sumGo_append]
  rfl

set_option maxRecDepth 20000 in
set_option maxHeartbeats 1000000 in
theorem intOf2_any (n : Int) (w : World) (hn : 0 ≤ n ∧ n ≤ 16777215) :
    Calls Tryd.prog 36 #[.int .i64 n, .int .i64 2] w fun e w' => ∃ v, e = .returned v ∧ App (Kind.int .i64) 3 w' w.heap.size v (intB2 n) ∧ Below w.heap.size w w' := by
  have hmk : ∀ w : World, (Instr.makeSlice 32 (.int .i64 2) (.int .i64 2)).run Tryd.prog w = .ok (.slice (some ⟨w.heap.size, 0, none⟩) 2 2) (w.alloc (.cells #[.int .i64 0, .int .i64 0] 3)) :=
    make_ints 32 3 Tryd.underlying32 info_intP 2 (by omega) 2 rfl
  have HR := Lib.hid (App.ints 3 w w.heap.size (Nat.le_refl _) (intB2 n) (by simp [intB2]))
  have HB := Lib.hid (bal w (.cells ((intB2 n).map (Value.int .i64)).toArray 3))
  have h1 : bits .and .i64 n 255 = n % 256 := and_mask 8 (by decide) hn.1 (by omega)
  have h2 : bits .and .i64 (n / 256) 255 = n / 256 % 256 := and_mask 8 (by decide) (by omega) (by omega)
  go_enter Tryd.func36, Tryd.ntmps36
  go_wp2_with fail
  refine wp_loop_rounds 3 ?_
  rw [rounds_succ]
  go_wp2
  rw [rounds_succ]
  go_wp2
  rw [rounds_succ]
  go_wp2
  go_ret
  have HR' := HR.out
  have HB' := HB.out
  simp only [intB2, List.map_cons, List.map_nil, List.length_cons, List.length_nil] at HR' HB'
  exact ⟨_, rfl, HR', HB'⟩
set_option maxRecDepth 20000 in
set_option maxHeartbeats 1000000 in
theorem intOf3_any (n : Int) (w : World) (hn : 0 ≤ n ∧ n ≤ 16777215) :
    Calls Tryd.prog 36 #[.int .i64 n, .int .i64 3] w fun e w' => ∃ v, e = .returned v ∧ App (Kind.int .i64) 3 w' w.heap.size v (intB3 n) ∧ Below w.heap.size w w' := by
  have hmk : ∀ w : World, (Instr.makeSlice 32 (.int .i64 3) (.int .i64 3)).run Tryd.prog w = .ok (.slice (some ⟨w.heap.size, 0, none⟩) 3 3) (w.alloc (.cells #[.int .i64 0, .int .i64 0, .int .i64 0] 3)) :=
    make_ints 32 3 Tryd.underlying32 info_intP 3 (by omega) 3 rfl
  have HR := Lib.hid (App.ints 3 w w.heap.size (Nat.le_refl _) (intB3 n) (by simp [intB3]))
  have HB := Lib.hid (bal w (.cells ((intB3 n).map (Value.int .i64)).toArray 3))
  have h1 : bits .and .i64 n 255 = n % 256 := and_mask 8 (by decide) hn.1 (by omega)
  have h2 : bits .and .i64 (n / 256) 255 = n / 256 % 256 := and_mask 8 (by decide) (by omega) (by omega)
  have h3 : bits .and .i64 (n / 65536) 255 = n / 65536 % 256 := and_mask 8 (by decide) (by omega) (by omega)
  go_enter Tryd.func36, Tryd.ntmps36
  go_wp2_with fail
  refine wp_loop_rounds 4 ?_
  rw [rounds_succ]
  go_wp2
  rw [rounds_succ]
  go_wp2
  rw [rounds_succ]
  go_wp2
  rw [rounds_succ]
  go_wp2
  go_ret
  have HR' := HR.out
  have HB' := HB.out
  simp only [intB3, List.map_cons, List.map_nil, List.length_cons, List.length_nil] at HR' HB'
  exact ⟨_, rfl, HR', HB'⟩
theorem with_any (s b : Int) (w : World) (hs : 0 ≤ s ∧ s ≤ 65520) (hb : 0 ≤ b ∧ b ≤ 255) :
    Calls Tryd.prog 60 #[.int .i64 s, .int .i64 b] w fun e w' => e = .returned (.int .i64 (sumStep s b)) ∧ w = w' := by
  have h1 : (257 * s + b).tmod 65521 = sumStep s b := Int.tmod_eq_emod_of_nonneg (by omega)
  have h2 : IntKind.i64.wrap (257 * s) = 257 * s := by rw [IntWalk.i64_in _ (by omega)]
  have h3 : IntKind.i64.wrap (257 * s + b) = 257 * s + b := by rw [IntWalk.i64_in _ (by omega)]
  go_enter Tryd.func60, Tryd.ntmps60
  go_wp2
  go_ret
  exact ⟨rfl, rfl⟩
theorem over_any (s : Int) (l : List Int) (A : Option Addr) (c : Nat) (F : Nat → Prop) (w : World) (h : Ints w F A c l) (hn : l.length ≤ 4194304) (hby : bytesB l = true) (hs : 0 ≤ s ∧ s ≤ 65520) :
    Calls Tryd.prog 38 #[.int .i64 s, .slice A l.length c] w fun e w' => e = .returned (.int .i64 (sumGo s l)) ∧ w = w' := by
  have hl := h.1
  have hc := h.2.1
  go_enter Tryd.func38, Tryd.ntmps38
  go_wp2_with fail
  go_loop [0, 9] (fun q i => ∃ k : Nat, k ≤ l.length ∧ i = .int .i64 k ∧ q = .int .i64 (sumGo s (l.take k))) (fun _ i => l.length - (intOf i).toNat)
  case atStart => exact ⟨0, Nat.zero_le _, rfl, rfl⟩
  case round =>
    obtain ⟨k, hk, rfl, rfl⟩ := hrel
    by_cases hlt : k < l.length
    · obtain ⟨ad, rfl, _, q⟩ := h.int_at hlt
      have HS := Lib.hid (sumGo_take (s := s) hlt)
      have hr := sumGo_range s (l.take k) hs
      obtain ⟨u, hu⟩ : ∃ u, u = sumGo s (l.take k) := ⟨_, rfl⟩
      rw [← hu] at HS hr
      rw [← hu]
      clear hu
      go_wp2_with fail
      refine (with_any u l[k] w hr (byte_at hby hlt)).mono ?_
      rintro e w' ⟨rfl, rfl⟩
      rw [← HS.out]
      go_wp2
      go_round
      case rel => exact ⟨k + 1, by omega, by go_num, rfl⟩
      case measure => simp [intOf]; omega
    · have : k = l.length := by omega
      subst this
      rw [List.take_length]
      go_wp2
      go_ret
      exact ⟨rfl, rfl⟩
end

section
open Go.RowKit

def num2 (l : List Int) (i : Nat) : Int := 256 * l.getD i 0 + l.getD (i + 1) 0
def num3 (l : List Int) (i : Nat) : Int := 65536 * l.getD i 0 + 256 * l.getD (i + 1) 0 + l.getD (i + 2) 0
theorem getD_byte {l : List Int} (hb : bytesB l = true) (k : Nat) : 0 ≤ l.getD k 0 ∧ l.getD k 0 ≤ 255 := by
  by_cases hk : k < l.length
  · rw [getD_at hk]; exact byte_at hb hk
  · rw [List.getD_eq_getElem?_getD, List.getElem?_eq_none (by omega)]
    exact ⟨Int.le_refl _, by decide⟩
theorem num2_range {l : List Int} (hb : bytesB l = true) (i : Nat) : 0 ≤ num2 l i ∧ num2 l i ≤ 65535 := by
  have h1 := getD_byte hb i
  have h2 := getD_byte hb (i + 1)
  unfold num2; omega
theorem num3_range {l : List Int} (hb : bytesB l = true) (i : Nat) : 0 ≤ num3 l i ∧ num3 l i ≤ 16777215 := by
  have h1 := getD_byte hb i
  have h2 := getD_byte hb (i + 1)
  have h3 := getD_byte hb (i + 2)
  unfold num3; omega
theorem num2_int {l : List Int} {i : Nat} {n : Int} {s : List Int} (h : l.drop i = intB2 n ++ s) (hn : 0 ≤ n ∧ n ≤ 65535) : num2 l i = n := by
  have e : ∀ k, l.getD (i + k) 0 = (l.drop i).getD k 0 := fun k => by rw [List.getD_eq_getElem?_getD, List.getD_eq_getElem?_getD, List.getElem?_drop]
  unfold num2
  rw [show l.getD i 0 = (l.drop i).getD 0 0 from e 0, e 1, h]
  simp [intB2]
  omega
theorem num3_int {l : List Int} {i : Nat} {n : Int} {s : List Int} (h : l.drop i = intB3 n ++ s) (hn : 0 ≤ n ∧ n ≤ 16777215) : num3 l i = n := by
  have e : ∀ k, l.getD (i + k) 0 = (l.drop i).getD k 0 := fun k => by rw [List.getD_eq_getElem?_getD, List.getD_eq_getElem?_getD, List.getElem?_drop]
  unfold num3
  rw [show l.getD i 0 = (l.drop i).getD 0 0 from e 0, e 1, e 2, h]
  simp [intB3]
  omega
theorem intB2_bytes (n : Int) : bytesB (intB2 n) = true := by simp [intB2, bytesB, byteB]; omega
theorem intB3_bytes (n : Int) : bytesB (intB3 n) = true := by simp [intB3, bytesB, byteB]; omega

set_option maxRecDepth 20000 in
set_option maxHeartbeats 1000000 in
theorem intAt2_any (l : List Int) (A : Option Addr) (c : Nat) (F : Nat → Prop) (i : Nat) (w : World) (h : Ints w F A c l) (hb : bytesB l = true) (hn : l.length ≤ 4194304) (hi : i + 2 ≤ l.length) :
    Calls Tryd.prog 41 #[.slice A l.length c, .int .i64 (i : Int), .int .i64 2] w fun e w' => e = .returned (.tuple #[.int .i64 (num2 l i), .bool true]) ∧ w = w' := by
  have hl := h.1
  have hc := h.2.1
  obtain ⟨ad, rfl, _, q0⟩ := h.int_at (show i < l.length by omega)
  obtain ⟨_, ea, _, q1⟩ := h.int_at (show i + 1 < l.length by omega)
  injection ea with ea
  subst ea
  rw [add_succ ad i 0] at q1
  have b0 := byte_at hb (show i < l.length by omega)
  obtain ⟨x0, hx0⟩ : ∃ x, x = l[i] := ⟨_, rfl⟩
  rw [← hx0] at q0 b0
  have b1 := byte_at hb (show i + 1 < l.length by omega)
  obtain ⟨x1, hx1⟩ : ∃ x, x = l[i + 1] := ⟨_, rfl⟩
  rw [← hx1] at q1 b1
  have HN := Lib.hid (show num2 l i = x0 * 256 + x1 by unfold num2; rw [getD_at (show i < l.length by omega), getD_at (show i + 1 < l.length by omega), ← hx0, ← hx1]; omega)
  have hw1 : IntKind.i64.wrap ((i : Int) + 2) = (i : Int) + 2 := by rw [IntWalk.i64_in _ (by omega)]
  have hw2 : IntKind.i64.wrap ((l.length : Int) - 2) = (l.length : Int) - 2 := by rw [IntWalk.i64_in _ (by omega)]
  have s1 : ∀ W : World, (Instr.slice 32 (.slice (some ad) l.length c) (some (.int .i64 (i : Int))) (some (.int .i64 ((i : Int) + 2))) none).run Tryd.prog W = .ok (.slice (some (ad.add i)) 2 (c - i)) W := fun W => by
    have := run_between Tryd.underlying32 info_intP (some ad) l.length c i (i + 2) _ _ rfl (show (((i : Int) + 2) : Int) = ((i + 2 : Nat) : Int) by omega) (by omega) (by omega) W
    rw [show i + 2 - i = 2 by omega, show cutAddr (some ad) i c 1 = some (ad.add i) by unfold cutAddr; rw [if_neg (by omega)]; simp] at this
    exact this
  have d1 : decide ((i : Int) < 0) = false := by simp
  have d2 : decide ((l.length : Int) - 2 < (i : Int)) = false := by simp; omega
  have r0 : bits .or .i64 0 x0 = x0 := by
    have := or_low 8 (x := x0) (y := 0) (by omega) (by omega) (by omega) (by omega) (by omega) (by omega)
    rw [or_comm_i64 (by omega) (by omega) (by omega) (by omega), this]; omega
  have r1 : bits .or .i64 (x0 * 256) x1 = x0 * 256 + x1 := by
    have := or_low 8 (x := x1) (y := x0 * 256) (by omega) (by omega) (by omega) (by omega) (by omega) (by omega)
    rw [or_comm_i64 (by omega) (by omega) (by omega) (by omega), this]; omega
  have v1 : IntKind.i64.wrap (x0 * 256) = x0 * 256 := by rw [IntWalk.i64_in _ (by omega)]
  clear hx0 hx1
  go_enter Tryd.func41, Tryd.ntmps41
  go_wp2_with fail
  refine wp_loop_rounds 3 ?_
  rw [rounds_succ]
  go_wp2
  rw [rounds_succ]
  go_wp2
  rw [rounds_succ]
  go_wp2
  go_ret2
  exact ⟨by rw [HN.out]; rfl, rfl⟩
set_option maxRecDepth 20000 in
set_option maxHeartbeats 1000000 in
theorem intAt3_any (l : List Int) (A : Option Addr) (c : Nat) (F : Nat → Prop) (i : Nat) (w : World) (h : Ints w F A c l) (hb : bytesB l = true) (hn : l.length ≤ 4194304) (hi : i + 3 ≤ l.length) :
    Calls Tryd.prog 41 #[.slice A l.length c, .int .i64 (i : Int), .int .i64 3] w fun e w' => e = .returned (.tuple #[.int .i64 (num3 l i), .bool true]) ∧ w = w' := by
  have hl := h.1
  have hc := h.2.1
  obtain ⟨ad, rfl, _, q0⟩ := h.int_at (show i < l.length by omega)
  obtain ⟨_, ea, _, q1⟩ := h.int_at (show i + 1 < l.length by omega)
  injection ea with ea
  subst ea
  rw [add_succ ad i 0] at q1
  obtain ⟨_, ea, _, q2⟩ := h.int_at (show i + 2 < l.length by omega)
  injection ea with ea
  subst ea
  rw [add_succ ad i 1] at q2
  have b0 := byte_at hb (show i < l.length by omega)
  obtain ⟨x0, hx0⟩ : ∃ x, x = l[i] := ⟨_, rfl⟩
  rw [← hx0] at q0 b0
  have b1 := byte_at hb (show i + 1 < l.length by omega)
  obtain ⟨x1, hx1⟩ : ∃ x, x = l[i + 1] := ⟨_, rfl⟩
  rw [← hx1] at q1 b1
  have b2 := byte_at hb (show i + 2 < l.length by omega)
  obtain ⟨x2, hx2⟩ : ∃ x, x = l[i + 2] := ⟨_, rfl⟩
  rw [← hx2] at q2 b2
  have HN := Lib.hid (show num3 l i = (x0 * 256 + x1) * 256 + x2 by unfold num3; rw [getD_at (show i < l.length by omega), getD_at (show i + 1 < l.length by omega), getD_at (show i + 2 < l.length by omega), ← hx0, ← hx1, ← hx2]; omega)
  have hw1 : IntKind.i64.wrap ((i : Int) + 3) = (i : Int) + 3 := by rw [IntWalk.i64_in _ (by omega)]
  have hw2 : IntKind.i64.wrap ((l.length : Int) - 3) = (l.length : Int) - 3 := by rw [IntWalk.i64_in _ (by omega)]
  have s1 : ∀ W : World, (Instr.slice 32 (.slice (some ad) l.length c) (some (.int .i64 (i : Int))) (some (.int .i64 ((i : Int) + 3))) none).run Tryd.prog W = .ok (.slice (some (ad.add i)) 3 (c - i)) W := fun W => by
    have := run_between Tryd.underlying32 info_intP (some ad) l.length c i (i + 3) _ _ rfl (show (((i : Int) + 3) : Int) = ((i + 3 : Nat) : Int) by omega) (by omega) (by omega) W
    rw [show i + 3 - i = 3 by omega, show cutAddr (some ad) i c 1 = some (ad.add i) by unfold cutAddr; rw [if_neg (by omega)]; simp] at this
    exact this
  have d1 : decide ((i : Int) < 0) = false := by simp
  have d2 : decide ((l.length : Int) - 3 < (i : Int)) = false := by simp; omega
  have r0 : bits .or .i64 0 x0 = x0 := by
    have := or_low 8 (x := x0) (y := 0) (by omega) (by omega) (by omega) (by omega) (by omega) (by omega)
    rw [or_comm_i64 (by omega) (by omega) (by omega) (by omega), this]; omega
  have r1 : bits .or .i64 (x0 * 256) x1 = x0 * 256 + x1 := by
    have := or_low 8 (x := x1) (y := x0 * 256) (by omega) (by omega) (by omega) (by omega) (by omega) (by omega)
    rw [or_comm_i64 (by omega) (by omega) (by omega) (by omega), this]; omega
  have v1 : IntKind.i64.wrap (x0 * 256) = x0 * 256 := by rw [IntWalk.i64_in _ (by omega)]
  have r2 : bits .or .i64 ((x0 * 256 + x1) * 256) x2 = (x0 * 256 + x1) * 256 + x2 := by
    have := or_low 8 (x := x2) (y := (x0 * 256 + x1) * 256) (by omega) (by omega) (by omega) (by omega) (by omega) (by omega)
    rw [or_comm_i64 (by omega) (by omega) (by omega) (by omega), this]; omega
  have v2 : IntKind.i64.wrap ((x0 * 256 + x1) * 256) = (x0 * 256 + x1) * 256 := by rw [IntWalk.i64_in _ (by omega)]
  clear hx0 hx1 hx2
  go_enter Tryd.func41, Tryd.ntmps41
  go_wp2_with fail
  refine wp_loop_rounds 4 ?_
  rw [rounds_succ]
  go_wp2
  rw [rounds_succ]
  go_wp2
  rw [rounds_succ]
  go_wp2
  rw [rounds_succ]
  go_wp2
  go_ret2
  exact ⟨by rw [HN.out]; rfl, rfl⟩
/-- append(nil, make([]int, n)...). -/
theorem run_append_zeros {P : Program} (w : World) (t ti ty e : TypeId) (i : TypeInfo) (z : Value) (q : IntKind) (ht : P.underlying t = some (.slice e)) (hti : P.underlying ti = some (.int q)) (hi : P.info? e = some i) (hz : i.zero = some z) (hzs : z.cells.size = 1) (hs : i.size = 1) (hby : i.bytes = 8)
    (n : Nat) (h0 : 0 < n) (hn : n ≤ 4194304) :
    ∃ cur : Array Value, (Builtin.append_ #[t, ti] ty #[.slice none 0 0, .int .i64 (n : Int)]).run P w = .ok (.slice (some ⟨w.heap.size, 0, none⟩) n (grownCap w n 0 e)) (w.drew.alloc (.cells cur e)) ∧ cur.size = grownCap w n 0 e := by
  have hne : n ≠ 0 := by omega
  have h63' : ¬ (9223372036854775807 < (n : Int)) := by omega
  have h48' : ¬ (281474976710656 < Builtin.nextslicecap n 0 * i.bytes) := by rw [nextslicecap_zero h0, hby]; omega
  have h48'' : ¬ (281474976710656 < Builtin.nextslicecap n 0 * 8) := by rw [← hby]; exact h48'
  have hw : IntKind.i64.wrap (n : Int) = (n : Int) := by rw [IntWalk.i64_in _ (by omega)]
  have h4 : ¬ ((n : Int) < 0) := by omega
  have h5 : ¬ (281474976710656 < (n : Int) * 8) := by omega
  refine ⟨Builtin.zeroCells z.cells n ++ Builtin.zeroCells z.cells (grownCap w n 0 e - n), ?_, ?_⟩
  · simp [Builtin.append_, run_underlying ht, run_underlying hti, sizeOf, typeInfo, zeroValue, hi, hz, hne, h63', h48'', Question.forced, run_firstCells_none, newRow, grownCap, hs, hby, asInt, asIntOf, hw, h4, h5]
  · have := grownCap_ge w n 0 e
    simp [size_zeroCells, hzs]
    omega

theorem wpList_appRun {P : Program} {ops : Array Oper} {rest : List Oper} {o : Oper} {a : Act} {Q : Exit → Act → World → Prop} {W W' : World} (hgd : o.guard = none) (s x : Operand) (ts : Array TypeId) (ho : o.op = .call { callee := .builtin .append, args := #[s, x], argTypes := ts })
    (v u r : Value) (hs : a.eval s = v) (hx : a.eval x = u) (hrun : (Builtin.append_ ts o.type #[v, u]).run P W = .ok r W') (h : wpList P ops Q rest (a.put o.dst r) W') : wpList P ops Q (o :: rest) a W := by
  refine wpList_plain hgd fun K hK => ?_
  unfold Oper.wp execOp
  simp only [ho, resolve, invoke, builtin, Sem.run_bind, Sem.run_pure, Result.andThen_ok, List.map_toArray, List.map_cons, List.map_nil, hs, hx, hrun]
  exact hK _ _ h
set_option maxRecDepth 20000 in
theorem Grow0_any (n : Nat) (w : World) (h0 : 0 < n) (hn : n ≤ 4194304) :
    Calls Tryd.prog 59 #[.slice none 0 0, .int .i64 (n : Int)] w fun e w' => ∃ v, e = .returned v ∧ App (Kind.int .i64) 3 w' w.heap.size v [] ∧ Below w.heap.size w w' := by
  obtain ⟨i0, hi, hz0, hz1, hz2⟩ := info_of info_intP
  have happ := fun (W : World) (ty : TypeId) => run_append_zeros (P := Tryd.prog) W 32 3 ty 3 i0 (.int .i64 0) .i64 Tryd.underlying32 Tryd.underlying3 hi hz0 rfl hz1 hz2 n h0 hn
  obtain ⟨cur, hrun, hsz⟩ := happ w 32
  obtain ⟨cap, hcap⟩ : ∃ cap, cap = grownCap w n 0 3 := ⟨_, rfl⟩
  have hge := grownCap_ge w n 0 3
  have hle := grownCap_le_maxLen w n 0 3 (by simp only [maxLen]; omega)
  rw [← hcap] at hrun hsz hge hle
  obtain ⟨W, hW⟩ : ∃ W, W = w.drew.alloc (.cells cur 3) := ⟨_, rfl⟩
  have hbW : Below w.heap.size w W := by rw [hW]; exact bthen (show Below w.heap.size w w.drew from ⟨rfl, rfl, rfl, Nat.le_refl _, fun _ _ => rfl⟩) (bal w.drew _)
  have hcell : W.heap[w.heap.size]? = some (.cells cur 3 (0, 0)) := by rw [hW]; exact heap_alloc_new w.drew _
  rw [← hW] at hrun
  have HR : Hid (App (Kind.int .i64) 3 W w.heap.size (.slice (some ⟨w.heap.size, 0, none⟩) 0 cap) []) := Lib.hid
    ⟨fun _ => False, [], ⟨by simp, .inr ⟨w.heap.size, cap, cur, rfl, Nat.zero_le _, hcell, Nat.zero_le _, hle, by simp [hsz, Kind.int], by simp⟩⟩, fun k hk => by simp [Value.ownBlock] at hk; omega, fun b hb => hb.elim, fun j x hj => by simp at hj⟩
  have HB := Lib.hid hbW
  have hwn : IntKind.i64.wrap ((n : Int) - 0) = (n : Int) := by rw [IntWalk.i64_in _ (by omega)]; omega
  have hcm : cap ≤ 9223372036854775807 := by simpa [maxLen] using hle
  clear happ hcap hbW hcell hW hsz
  go_enter Tryd.func59, Tryd.ntmps59
  go_wp2_with (at_builtin; go_loud (refine wpList_appRun rfl _ _ _ rfl _ _ _ rfl rfl hrun ?_))
  clear hrun
  go_wp2
  go_ret
  exact ⟨_, rfl, HR.out, HB.out⟩
/-- Rows in a row: all of them, one behind the other. -/
def catTo (xss : List (List Int)) (k : Nat) : List Int := (xss.take k).flatten
theorem catTo_succ {xss : List (List Int)} {k : Nat} (h : k < xss.length) : catTo xss (k + 1) = catTo xss k ++ xss[k] := by
  unfold catTo
  rw [List.take_succ_eq_append_getElem h, List.flatten_append]
  simp
theorem catTo_le {xss : List (List Int)} (k : Nat) : (catTo xss k).length ≤ xss.flatten.length := by
  unfold catTo
  conv => rhs; rw [← List.take_append_drop k xss, List.flatten_append, List.length_append]
  omega
theorem Kind.Row.slice_at {w : World} {F : Nat → Prop} {A : Option Addr} {c : Nat} {xss : List (List Int)} (h : (Kind.slice (Kind.int .i64)).Row w F A c xss) {j : Nat} (hj : j < xss.length) :
    ∃ ad B b, A = some ad ∧ w.cell? (ad.add j) = some (.slice B xss[j].length b) ∧ Ints w F B b xss[j] := by
  obtain ⟨ad, cs, rfl, _, ⟨B, b, rfl, hr⟩, hc⟩ := h.get hj
  refine ⟨ad, B, b, rfl, ?_, hr⟩
  have := hc 0 (.slice B xss[j].length b) rfl
  simpa [Kind.slice] using this
set_option maxRecDepth 20000 in
set_option maxHeartbeats 1000000 in
theorem Concat_any (xss : List (List Int)) (A : Option Addr) (c : Nat) (F : Nat → Prop) (w : World) (h : (Kind.slice (Kind.int .i64)).Row w F A c xss) (hk : xss.length ≤ 1000) (h0 : 0 < xss.flatten.length) (hn : xss.flatten.length ≤ 4194304) :
    Calls Tryd.prog 37 #[.slice A xss.length c] w fun e w' => ∃ v, e = .returned v ∧ App (Kind.int .i64) 3 w' w.heap.size v xss.flatten ∧ Below w.heap.size w w' := by
  have hl := h.1
  have hc := h.2.1
  have hbd := h.bound (d := Kind.slice (Kind.int .i64)) ⟨Nat.one_pos, by
    rintro w F x cs ⟨A, c, rfl, hr⟩
    exact ⟨A, c, rfl, hr.bound (bnd_int _)⟩⟩
  go_enter Tryd.func37, Tryd.ntmps37
  go_wp2_with fail
  go_loop [3, 11] (fun q i => ∃ k : Nat, k ≤ xss.length ∧ i = .int .i64 k ∧ q = .int .i64 ((catTo xss k).length : Nat)) (fun _ i => xss.length - (intOf i).toNat)
  case atStart => exact ⟨0, Nat.zero_le _, rfl, rfl⟩
  case round =>
    obtain ⟨k, hk2, rfl, rfl⟩ := hrel
    by_cases hlt : k < xss.length
    · obtain ⟨ad, B, b, rfl, q0, hr⟩ := h.slice_at hlt
      have hs := congrArg List.length (catTo_succ hlt)
      rw [List.length_append] at hs
      have hle := catTo_le (xss := xss) (k + 1)
      have hrl := hr.1
      have hrc := hr.2.1
      obtain ⟨m, hm⟩ : ∃ m, m = (catTo xss k).length := ⟨_, rfl⟩
      obtain ⟨d, hd⟩ : ∃ d, d = xss[k].length := ⟨_, rfl⟩
      rw [← hm, ← hd] at hs
      rw [← hd] at q0
      rw [← hm]
      have HS := Lib.hid hs
      have hmd : m + d ≤ 4194304 := by omega
      have hw : IntKind.i64.wrap ((m : Int) + (d : Int)) = (m : Int) + (d : Int) := by rw [IntWalk.i64_in _ (by omega)]
      clear hm hd hs hle hr hrl hrc
      go_wp2
      go_round
      case rel => exact ⟨k + 1, by omega, by go_num, by rw [HS.out]; go_num⟩
      case measure => simp [intOf]; omega
    · have : k = xss.length := by omega
      subst this
      have hcat : catTo xss xss.length = xss.flatten := by unfold catTo; rw [List.take_length]
      rw [hcat]
      obtain ⟨t, ht⟩ : ∃ t, t = xss.flatten.length := ⟨_, rfl⟩
      rw [← ht] at h0 hn ⊢
      have HT := Lib.hid ht
      clear ht hcat
      go_wp2_with fail
      refine (Grow0_any t w h0 hn).mono ?_
      rintro e w1 ⟨v, rfl, HA, hb1⟩
      obtain ⟨A1, c1, rfl, _, _⟩ := HA.slice_
      have HB1 := Lib.hid hb1
      have HA1 : App (Kind.int .i64) 3 w1 w.heap.size (.slice A1 0 c1) (catTo xss 0) := HA
      have HA1' := Lib.hid HA1
      clear hb1 HA HA1
      go_wp2_with fail
      go_loopw [6, 27] (fun v i wr => ∃ k : Nat, k ≤ xss.length ∧ i = .int .i64 k ∧ App (Kind.int .i64) 3 wr w.heap.size v (catTo xss k) ∧ Hid (Below w.heap.size w wr)) (fun _ i _ => xss.length - (intOf i).toNat)
      case atStart => exact ⟨0, Nat.zero_le _, rfl, HA1'.out, HB1⟩
      case round =>
        obtain ⟨k, hk3, rfl, HX, HB⟩ := hrel
        clear HA1' HB1
        by_cases hlt : k < xss.length
        · obtain ⟨ad, B, b, rfl, q0, hr⟩ := (hbd.below HB.out).slice_at hlt
          have hcs := Lib.hid (catTo_succ hlt)
          have hle : (catTo xss (k + 1)).length ≤ 4194304 := by have := catTo_le (xss := xss) (k + 1); have := HT.out; omega
          have hs := congrArg List.length hcs.out
          rw [List.length_append] at hs
          obtain ⟨ys, hys⟩ : ∃ ys, ys = catTo xss k := ⟨_, rfl⟩
          obtain ⟨zs, hzs⟩ : ∃ zs, zs = xss[k] := ⟨_, rfl⟩
          rw [← hys] at HX hs hcs
          rw [← hzs] at q0 hr hs hcs
          have hyz : ys.length + zs.length ≤ 4194304 := by omega
          clear hys hzs hs hle
          obtain ⟨A2, c2, rfl, _, _⟩ := HX.slice_
          have hsz := HB.out.size
          go_wp2_with (at_builtin; go_loud (refine wpList_appF (Kind.int .i64) HX rfl _ _ 32 (.int .i64 0) 8 rfl Tryd.underlying32 (by kernel_rfl) rfl (bnd_int .i64) (onec_int .i64) (flat_int .i64) rfl rfl rfl hr (fun x hx => by omega) (by omega) (by omega) ?_))
          intro v3 w3 HX3 hc3 _
          rw [← hcs.out] at HX3
          have HB3 := Lib.hid (HB.out.trans (hc3.below hsz (fun x hx => AppP.ne HX hx)))
          clear hc3 HX hr
          go_wp2
          go_roundw
          case rel => exact ⟨k + 1, by omega, by go_num, HX3, HB3⟩
          case measure => simp [intOf]; omega
        · have : k = xss.length := by omega
          subst this
          have hcat : catTo xss xss.length = xss.flatten := by unfold catTo; rw [List.take_length]
          rw [hcat] at HX
          have HXh := Lib.hid HX
          clear HX
          go_wp2
          go_ret
          exact ⟨_, rfl, HXh.out, HB.out⟩
end
end Go.Proofs.YtgnjnpfeofhniaaDoor
