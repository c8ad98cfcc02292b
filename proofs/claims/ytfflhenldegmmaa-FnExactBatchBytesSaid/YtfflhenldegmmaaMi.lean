/- Rows of numbers that are made, or stand in a literal; a store into an own row of numbers. -/
import Derived.Test.YtfflhenldegmmaaOw
import Derived.Test.YtfflhenldegmmaaHd
namespace Go.Proofs.Ytfflhenldegmmaa
set_option linter.unusedVariables false
set_option linter.unusedSimpArgs false
open Go.RowKit

theorem madeCells_int (n : Nat) : madeCells (Value.int .i64 0).cells (n * 1) = ((List.replicate n (0 : Int)).map (Value.int .i64)).toArray := by
  apply Array.ext
  · simp [madeCells]
  · intro i h1 h2
    simp [madeCells, Value.cells, Nat.mod_one]
/-- make([]int, n). -/
theorem make_ints {P : Program} (t e : TypeId) (ht : P.underlying t = some (.slice e)) (hinfo : (P.info? e).map (fun i => (i.zero, i.size, i.bytes)) = some (some (.int .i64 0), 1, 8))
    (n : Nat) (hn : n ≤ 1048576) (N : Int) (hN : N = n) :
    ∀ w : World, (Instr.makeSlice t (.int .i64 N) (.int .i64 N)).run P w = .ok (.slice (some ⟨w.heap.size, 0, none⟩) n n) (w.alloc (.cells ((List.replicate n (0 : Int)).map (Value.int .i64)).toArray e)) := by
  subst hN
  obtain ⟨i, hi, hz0, hs, hb⟩ := info_of hinfo
  intro w
  have h : (i.bytes : Int) * (n : Int) ≤ 281474976710656 := by rw [hb]; omega
  have hr := run_make (P := P) w t e i _ ht hi hz0 .i64 .i64 n n (by omega) (by omega) h (by omega)
  simp only [Int.toNat_natCast] at hr
  rw [hr, hs, madeCells_int]
/-- The row of a new block of numbers. -/
theorem App.ints (e : TypeId) (w : World) (base : Nat) (hb : base ≤ w.heap.size) (xs : List Int) (hn : xs.length ≤ 1099511627776) :
    App (Kind.int .i64) e (w.alloc (.cells (xs.map (Value.int .i64)).toArray e)) base (.slice (some ⟨w.heap.size, 0, none⟩) xs.length xs.length) xs := by
  have ho : (w.alloc (.cells (xs.map (Value.int .i64)).toArray e)).ownsRow 0 e 1 (.slice (some ⟨w.heap.size, 0, none⟩) xs.length xs.length) xs.length (xs.map (Value.int .i64)) :=
    ⟨by simp, .inr ⟨w.heap.size, xs.length, _, rfl, Nat.zero_le _, heap_alloc_new w _, Nat.le_refl _, by simp only [maxLen]; omega, by simp, by rw [show (List.map (Value.int .i64) xs).toArray.toList = List.map (Value.int .i64) xs from rfl, List.take_of_length_le (by simp)]⟩⟩
  refine ⟨fun _ => False, xs.map (Value.int .i64), ho, fun k hk => by simp [Value.ownBlock] at hk; omega, fun b h => h.elim, fun j x hj => ?_⟩
  refine ⟨[.int .i64 x], rfl, fun i u hu => ?_⟩
  cases i with
  | zero =>
    simp at hu
    subst hu
    show (List.map (Value.int .i64) xs)[j * 1 + 0]? = _
    simp [hj]
  | succ i => simp at hu
/-- A store into an own row of numbers. -/
theorem App.put {e : TypeId} {w : World} {P : Nat → Prop} {v : Value} {xs : List Int} (h : AppP (Kind.int .i64) e w P v xs) {q : Nat} (hq : q < xs.length) :
    ∃ gq cap old, v = .slice (some ⟨gq, 0, none⟩) xs.length cap ∧ P gq ∧ gq < w.heap.size ∧ w.cell? ⟨gq, q, none⟩ = some (.int .i64 old) ∧ (∀ i, w.frozen? ⟨gq, i, none⟩ = false) ∧
      ∀ y : Int, Ints (w.setCell ⟨gq, q, none⟩ (.int .i64 y)) P (some ⟨gq, 0, none⟩) cap (xs.set q y) ∧ Chg (fun b => b = gq) w (w.setCell ⟨gq, q, none⟩ (.int .i64 y)) := by
  obtain ⟨gq, cap, cur, rfl, hP, hh, hcs, hlc, hc, hE⟩ := h.own (by omega)
  have hlt := (Array.getElem?_eq_some_iff.1 hh).1
  obtain ⟨cs, hK, hcell⟩ := hE q _ (List.getElem?_eq_getElem hq)
  have hK' : cs = [.int .i64 xs[q]] := hK
  subst hK'
  refine ⟨gq, cap, xs[q], rfl, hP, hlt, ?_, fun i => by simp [World.frozen?, hh], fun y => ⟨?_, Chg.set (fun b => b = gq) w (p := ⟨gq, q, none⟩) rfl _⟩⟩
  · have := hcell 0 _ rfl
    simpa [Kind.int] using this
  · have h0 := own_set (d := Kind.int .i64) (x := y) (cs := [.int .i64 y]) hP hlc hc hE hq rfl
    have e1 : w.setCells gq (q * (Kind.int .i64).sz) [.int .i64 y] = w.setCell ⟨gq, q, none⟩ (.int .i64 y) := by
      show w.setCells gq (q * 1) [.int .i64 y] = _
      rw [Nat.mul_one]
      rfl
    rw [e1] at h0
    exact h0
end Go.Proofs.Ytfflhenldegmmaa
