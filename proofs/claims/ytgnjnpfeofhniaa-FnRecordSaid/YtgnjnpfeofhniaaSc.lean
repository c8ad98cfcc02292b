/- Numbers as bytes, sums. Numbers out of bytes; slices.Grow, slices.Concat. -/
import Derived.Test.YtgnjnpfeofhniaaPn
import Derived.Test.YtgnjnpfeofhniaaGa
import Derived.Test.YtgnjnpfeofhniaaRq
import Derived.Test.YtgnjnpfeofhniaaV2
import Derived.Test.YtgnjnpfeofhniaaP8
namespace Go.Proofs.Ytgnjnpfeofhniaa
set_option linter.unusedVariables false
set_option linter.unusedSimpArgs false
section
open Go.RowKit

def intB2 (n : Int) : List Int := [n / 256 % 256, n % 256]
def intB3 (n : Int) : List Int := [n / 65536 % 256, n / 256 % 256, n % 256]
def sumStep (s b : Int) : Int := (257 * s + b) % 65521
def sumGo (s : Int) (l : List Int) : Int := l.foldl sumStep s
def sumB (l : List Int) : Int := sumGo 1 l
theorem sumStep_range (s b : Int) : 0 ≤ sumStep s b ∧ sumStep s b ≤ 65520 := by unfold sumStep; omega
theorem sumGo_append (s : Int) (l m : List Int) : sumGo s (l ++ m) = sumGo (sumGo s l) m := by simp [sumGo]
theorem sumGo_range (s : Int) (l : List Int) (h : 0 ≤ s ∧ s ≤ 65520) : 0 ≤ sumGo s l ∧ sumGo s l ≤ 65520 := by
  induction l generalizing s with
  | nil => exact h
  | cons b t ih => exact ih (sumStep s b) (sumStep_range s b)
theorem sumGo_take {s : Int} {l : List Int} {k : Nat} (h : k < l.length) : sumGo s (l.take (k + 1)) = sumStep (sumGo s (l.take k)) l[k] := by
  rw [List.take_succ_eq_append_getElem h, sumGo_append]
  rfl

end

section
open Go.RowKit

def num2 (l : List Int) (i : Nat) : Int := 256 * l.getD i 0 + l.getD (i + 1) 0
def num3 (l : List Int) (i : Nat) : Int := 65536 * l.getD i 0 + 256 * l.getD (i + 1) 0 + l.getD (i + 2) 0
theorem getD_byte {l : List Int} (hb : bytesB l = true) (k : Nat) : 0 ≤ l.getD k 0 ∧ l.getD k 0 ≤ 255 := by
  by_cases hk : k < l.length
  · rw [getD_at hk]; exact byte_at hb hk
  · rw [List.getD_eq_getElem?_getD, List.getElem?_eq_none (by omega)]
    exact ⟨Int.le_refl _, by decide⟩
theorem num2_range {l : List Int} (hb : bytesB l = true) (i : Nat) : 0 ≤ num2 l i ∧ num2 l i ≤ 65535 := by
  have h1 := getD_byte hb i
  have h2 := getD_byte hb (i + 1)
  unfold num2; omega
theorem num3_range {l : List Int} (hb : bytesB l = true) (i : Nat) : 0 ≤ num3 l i ∧ num3 l i ≤ 16777215 := by
  have h1 := getD_byte hb i
  have h2 := getD_byte hb (i + 1)
  have h3 := getD_byte hb (i + 2)
  unfold num3; omega
theorem num2_int {l : List Int} {i : Nat} {n : Int} {s : List Int} (h : l.drop i = intB2 n ++ s) (hn : 0 ≤ n ∧ n ≤ 65535) : num2 l i = n := by
  have e : ∀ k, l.getD (i + k) 0 = (l.drop i).getD k 0 := fun k => by rw [List.getD_eq_getElem?_getD, List.getD_eq_getElem?_getD, List.getElem?_drop]
  unfold num2
  rw [show l.getD i 0 = (l.drop i).getD 0 0 from e 0, e 1, h]
  simp [intB2]
  omega
theorem num3_int {l : List Int} {i : Nat} {n : Int} {s : List Int} (h : l.drop i = intB3 n ++ s) (hn : 0 ≤ n ∧ n ≤ 16777215) : num3 l i = n := by
  have e : ∀ k, l.getD (i + k) 0 = (l.drop i).getD k 0 := fun k => by rw [List.getD_eq_getElem?_getD, List.getD_eq_getElem?_getD, List.getElem?_drop]
  unfold num3
  rw [show l.getD i 0 = (l.drop i).getD 0 0 from e 0, e 1, e 2, h]
  simp [intB3]
  omega
theorem intB2_bytes (n : Int) : bytesB (intB2 n) = true := by simp [intB2, bytesB, byteB]; omega
theorem intB3_bytes (n : Int) : bytesB (intB3 n) = true := by simp [intB3, bytesB, byteB]; omega

/-- append(nil, make([]int, n)...). -/
theorem run_append_zeros {P : Program} (w : World) (t ti ty e : TypeId) (i : TypeInfo) (z : Value) (q : IntKind) (ht : P.underlying t = some (.slice e)) (hti : P.underlying ti = some (.int q)) (hi : P.info? e = some i) (hz : i.zero = some z) (hzs : z.cells.size = 1) (hs : i.size = 1) (hby : i.bytes = 8)
    (n : Nat) (h0 : 0 < n) (hn : n ≤ 4194304) :
    ∃ cur : Array Value, (Builtin.append_ #[t, ti] ty #[.slice none 0 0, .int .i64 (n : Int)]).run P w = .ok (.slice (some ⟨w.heap.size, 0, none⟩) n (grownCap w n 0 e)) (w.drew.alloc (.cells cur e)) ∧ cur.size = grownCap w n 0 e := by
  have hne : n ≠ 0 := by omega
  have h63' : ¬ (9223372036854775807 < (n : Int)) := by omega
  have h48' : ¬ (281474976710656 < Builtin.nextslicecap n 0 * i.bytes) := by rw [nextslicecap_zero h0, hby]; omega
  have h48'' : ¬ (281474976710656 < Builtin.nextslicecap n 0 * 8) := by rw [← hby]; exact h48'
  have hw : IntKind.i64.wrap (n : Int) = (n : Int) := by rw [IntWalk.i64_in _ (by omega)]
  have h4 : ¬ ((n : Int) < 0) := by omega
  have h5 : ¬ (281474976710656 < (n : Int) * 8) := by omega
  refine ⟨Builtin.zeroCells z.cells n ++ Builtin.zeroCells z.cells (grownCap w n 0 e - n), ?_, ?_⟩
  · simp [Builtin.append_, run_underlying ht, run_underlying hti, sizeOf, typeInfo, zeroValue, hi, hz, hne, h63', h48'', Question.forced, run_firstCells_none, newRow, grownCap, hs, hby, asInt, asIntOf, hw, h4, h5]
  · have := grownCap_ge w n 0 e
    simp [size_zeroCells, hzs]
    omega

theorem wpList_appRun {P : Program} {ops : Array Oper} {rest : List Oper} {o : Oper} {a : Act} {Q : Exit → Act → World → Prop} {W W' : World} (hgd : o.guard = none) (s x : Operand) (ts : Array TypeId) (ho : o.op = .call { callee := .builtin .append, args := #[s, x], argTypes := ts })
    (v u r : Value) (hs : a.eval s = v) (hx : a.eval x = u) (hrun : (Builtin.append_ ts o.type #[v, u]).run P W = .ok r W') (h : wpList P ops Q rest (a.put o.dst r) W') : wpList P ops Q (o :: rest) a W := by
  refine wpList_plain hgd fun K hK => ?_
  unfold Oper.wp execOp
  simp only [ho, resolve, invoke, builtin, Sem.run_bind, Sem.run_pure, Result.andThen_ok, List.map_toArray, List.map_cons, List.map_nil, hs, hx, hrun]
  exact hK _ _ h
/-- Rows in a row: all of them, one behind the other. -/
def catTo (xss : List (List Int)) (k : Nat) : List Int := (xss.take k).flatten
theorem catTo_succ {xss : List (List Int)} {k : Nat} (h : k < xss.length) : catTo xss (k + 1) = catTo xss k ++ xss[k] := by
  unfold catTo
  rw [List.take_succ_eq_append_getElem h, List.flatten_append]
  simp
theorem catTo_le {xss : List (List Int)} (k : Nat) : (catTo xss k).length ≤ xss.flatten.length := by
  unfold catTo
  conv => rhs; rw [← List.take_append_drop k xss, List.flatten_append, List.length_append]
  omega
theorem Kind.Row.slice_at {w : World} {F : Nat → Prop} {A : Option Addr} {c : Nat} {xss : List (List Int)} (h : (Kind.slice (Kind.int .i64)).Row w F A c xss) {j : Nat} (hj : j < xss.length) :
    ∃ ad B b, A = some ad ∧ w.cell? (ad.add j) = some (.slice B xss[j].length b) ∧ Ints w F B b xss[j] := by
  obtain ⟨ad, cs, rfl, _, ⟨B, b, rfl, hr⟩, hc⟩ := h.get hj
  refine ⟨ad, B, b, rfl, ?_, hr⟩
  have := hc 0 (.slice B xss[j].length b) rfl
  simpa [Kind.slice] using this
end
end Go.Proofs.Ytgnjnpfeofhniaa
