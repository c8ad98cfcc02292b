/- What every walk of this seat imports. -/
import Derived.Test.YtfflhenldegmmaaProg
import Derived.Test.YtfflhenldegmmaaPl
import Derived.Deep.QuietTactic
import Derived.BigQuiet
import Derived.Deep.LoopGhost
import Derived.OwnWalk
import Derived.WideLaws
import Derived.Deep.RegionHeld3
import Derived.Deep.DeepCutAuto
import Derived.WalkSpells
import Derived.Outline
import Derived.Laws.MakeOwn
import Derived.Test.YtfflhenldegmmaaXl
import Derived.Lib.Hide
namespace Go.Proofs.Ytfflhenldegmmaa
set_option linter.unusedVariables false
set_option linter.unusedSimpArgs false
open Go.RowKit
theorem ret_bool {a b : Bool} (h : a = b) : Ending.returned (.bool a) = .returned (.bool b) := by rw [h]
theorem ret_int {k : IntKind} {a b : Int} (h : a = b) : Ending.returned (.int k a) = .returned (.int k b) := by rw [h]
theorem info_of {P : Program} {e : TypeId} {z : Value} {s b : Nat} (h : (P.info? e).map (fun i => (i.zero, i.size, i.bytes)) = some (some z, s, b)) :
    ∃ i, P.info? e = some i ∧ i.zero = some z ∧ i.size = s ∧ i.bytes = b := by
  obtain ⟨i, hi, hz⟩ := Option.map_eq_some_iff.1 h
  simp only [Prod.mk.injEq] at hz
  exact ⟨i, hi, hz.1, hz.2.1, hz.2.2⟩
/-- make([]T, n): a new block, whatever its cells are. -/
theorem make_any {P : Program} (t e : TypeId) (z : Value) (s b : Nat) (ht : P.underlying t = some (.slice e)) (hinfo : (P.info? e).map (fun i => (i.zero, i.size, i.bytes)) = some (some z, s, b))
    (n : Nat) (hn : b * n ≤ 281474976710656) (h63 : n ≤ 9223372036854775807) :
    ∃ cs : Array Value, cs.size = n * s ∧ ∀ w : World, (Instr.makeSlice t (.int .i64 (n : Int)) (.int .i64 (n : Int))).run P w = .ok (.slice (some ⟨w.heap.size, 0, none⟩) n n) (w.alloc (.cells cs e)) := by
  obtain ⟨i, hi, hz0, hs, hb⟩ := info_of hinfo
  refine ⟨madeCells z.cells (n * i.size), ?_, fun w => ?_⟩
  · simp [madeCells, hs]
  · have h : (i.bytes : Int) * (n : Int) ≤ 281474976710656 := by
      rw [hb, ← Int.natCast_mul]; omega
    have hr := run_make (P := P) w t e i z ht hi hz0 .i64 .i64 n n (by omega) (by omega) h (by omega)
    simp only [Int.toNat_natCast] at hr
    exact hr
/-- make([]T, 0, n). -/
theorem make_room {P : Program} (t e : TypeId) (z : Value) (s b : Nat) (ht : P.underlying t = some (.slice e)) (hinfo : (P.info? e).map (fun i => (i.zero, i.size, i.bytes)) = some (some z, s, b))
    (n : Nat) (hn : b * n ≤ 281474976710656) (h63 : n ≤ 9223372036854775807) :
    ∃ cs : Array Value, cs.size = n * s ∧ ∀ w : World, (Instr.makeSlice t (.int .i64 0) (.int .i64 (n : Int))).run P w = .ok (.slice (some ⟨w.heap.size, 0, none⟩) 0 n) (w.alloc (.cells cs e)) := by
  obtain ⟨i, hi, hz0, hs, hb⟩ := info_of hinfo
  refine ⟨madeCells z.cells (n * i.size), ?_, fun w => ?_⟩
  · simp [madeCells, hs]
  · have h : (i.bytes : Int) * (n : Int) ≤ 281474976710656 := by
      rw [hb, ← Int.natCast_mul]; omega
    have hr := run_make (P := P) w t e i z ht hi hz0 .i64 .i64 0 n (by omega) (by omega) h (by omega)
    simp only [Int.toNat_natCast] at hr
    exact hr
end Go.Proofs.Ytfflhenldegmmaa
