/- The iterator over all records. -/
import Derived.RangeFuncNested
import Derived.RangeFuncBound
import Derived.RangeFuncCalls
import Derived.RangeFuncLeaves
import Derived.Shelf.Abstract
import Derived.Shelf.RegionOpen
import Derived.WalkKit
import Derived.OwnWalkIn
import Derived.TacticsInMore
import Derived.LoopNIn
import Derived.LoopIn
import Derived.Test.YtomcjjehfocbmaaIp
import Derived.Test.YtomcjjehfocbmaaGa
namespace Go.Proofs.Ytomcjjehfocbmaa
set_option linter.unusedVariables false
set_option linter.unusedSimpArgs false
open Go.RowKit Go.Shelf
attribute [local go_sem] Oper.semAt_some

/-- What the body of a loop over records keeps: what lay below n₀, and the boxes of batches. -/
def Kpr (n₀ : Nat) (W W' : World) : Prop := Below n₀ W W' ∧ ∀ (b : Nat) (cs : Array Value), W.heap[b]? = some (.cells cs 27 (0, 0)) → W'.heap[b]? = some (.cells cs 27 (0, 0))
theorem Kpr.trans {n₀ : Nat} {A B C : World} (h : Kpr n₀ A B) (k : Kpr n₀ B C) : Kpr n₀ A C := ⟨h.1.trans k.1, fun b cs hb => k.2 b cs (h.2 b cs hb)⟩
theorem Kpr.book {n₀ : Nat} {w : World} (hn : n₀ ≤ w.heap.size) (W : World) (l : Nat) (o o' : Obj) (hl : w.heap.size ≤ l) (h : W.heap[l]? = some o) (hc : o.isCells = false) (hw : o.isWalk = false) : Kpr n₀ W (W.putObj l o') := by
  refine ⟨belowK_b hn W l o o' hl h hc hw, fun b cs hb => ?_⟩
  refine ((grownBy_putObj' W l o').block b (Array.getElem?_eq_some_iff.1 hb).1 (fun e => ?_)).trans hb
  injection e with e
  subst e
  rw [h] at hb
  injection hb with hb
  rw [hb] at hc
  simp [Obj.isCells] at hc
theorem Kpr.below {n₀ : Nat} {W W' : World} (hn : n₀ ≤ W.heap.size) (h : Below W.heap.size W W') : Kpr n₀ W W' := ⟨h.mono hn, fun b cs hb => blk_below hb h⟩

theorem grownBy_new (w : World) (o : Obj) : w.grownBy (w.alloc o) none := ⟨rfl, rfl, rfl, by simp, fun k hk _ => Below.heap_alloc w o k hk⟩
theorem own_blk {β : Type} (B g : Nat) (T : TypeId) (f : β → Array Value) : OwnFrom B (fun s W => W.heap[g]? = some (.cells (f s) T (0, 0))) :=
  fun _ _ _ _ hs hg hr => (grownBy_keeps_cells hg (fun r e => (hr r e).2) hs rfl).trans hs
theorem keeps_below {B : Nat} {W W' : World} (h : Below W.heap.size W W') : KeepsFrom B W W' := ⟨h.size, fun _ _ _ ho _ => blk_below ho h⟩
theorem keeps_set {B : Nat} (W : World) (a : Addr) (v : Value) : KeepsFrom B W (W.setCell a v) := (KeepsOthers.setCell W a v).from B
theorem one {w : World} {g : Nat} {t : TypeId} {v : Value} (h : w.heap[g]? = some (.cells #[v] t (0, 0))) : w.cell? ⟨g, 0, none⟩ = some v ∧ ∀ i, w.frozen? ⟨g, i, none⟩ = false := by
  refine ⟨?_, fun i => ?_⟩ <;> simp [World.cell?, World.frozen?, h]
theorem Kpr.set {n₀ g i : Nat} {W : World} {v : Value} {T : TypeId} {cs : Array Value} (hg : n₀ ≤ g) (h : W.heap[g]? = some (.cells cs T (0, 0))) (hT : T ≠ 27) : Kpr n₀ W (W.setCell ⟨g, i, none⟩ v) := by
  refine ⟨(Below.refl _ _).setCell (p := ⟨g, i, none⟩) hg _, fun b ds hb => ?_⟩
  refine (Below.heap_setCell W ⟨g, i, none⟩ v b (fun e => ?_)).trans hb
  have e' : b = g := e
  subst e'
  rw [h] at hb
  simp at hb
  exact hT hb.2
abbrev PrIn (L : List Pr) := { x : Pr // x ∈ L }
theorem map_snoc {L : List Pr} {pre : List (PrIn L)} {x : PrIn L} : (pre ++ [x]).map (·.1) = pre.map (·.1) ++ [x.1] := by simp

end Go.Proofs.Ytomcjjehfocbmaa
