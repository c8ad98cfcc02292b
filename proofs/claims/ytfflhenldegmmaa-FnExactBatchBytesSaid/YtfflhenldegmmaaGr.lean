/- Worlds that have grown; regions that draw their order, read, and call what makes memory alone. -/
import Derived.Test.YtfflhenldegmmaaHd
namespace Go.Proofs.Ytfflhenldegmmaa
set_option linter.unusedVariables false
set_option linter.unusedSimpArgs false
open Go.RowKit

structure Ext (w : World) where
  w' : World
  below : Below w.heap.size w w'
instance instExtNonempty (w : World) : Nonempty (Ext w) := ⟨⟨w, Below.refl _ _⟩⟩
/-- A world that has w's blocks. -/
def grow (w : World) (g : Ext w) : World := g.w'
theorem grow_below (w : World) (g : Ext w) : Below w.heap.size w (grow w g) := g.below
theorem grow_cell {w : World} {a : Addr} {v : Value} (h : w.cell? a = some v) (g : Ext w) : (grow w g).cell? a = some v :=
  ((grow_below w g).cell (cell_lt h)).trans h
theorem grow_frozen {w : World} {a : Addr} {v : Value} (h : w.cell? a = some v) {b : Bool} (hf : w.frozen? a = b) (g : Ext w) : (grow w g).frozen? a = b :=
  ((grow_below w g).frozen (cell_lt h)).trans hf
theorem grow_of {w w' : World} (h : Below w.heap.size w w') : ∃ g, w' = grow w g := ⟨⟨w', h⟩, rfl⟩
theorem below_of_grow {w : World} {g : Ext w} {w' : World} (h : Below (grow w g).heap.size (grow w g) w') : Below w.heap.size w w' :=
  (grow_below w g).trans (h.mono (grow_below w g).size)
theorem grow_size (w : World) (g : Ext w) : w.heap.size ≤ (grow w g).heap.size := (grow_below w g).size

/-- A callee that makes memory alone, met in a grown world. -/
theorem Calls.grow_of {P : Program} {f : FuncId} {args : Array Value} {w : World} {g : Ext w} {v : Value}
    (h : Calls P f args (grow w g) fun e w' => e = .returned v ∧ Below (grow w g).heap.size (grow w g) w') : Calls P f args (grow w g) fun e w'' => e = .returned v ∧ ∃ g', w'' = grow w g' :=
  h.mono fun _ _ ⟨he, hm⟩ => ⟨he, Go.Proofs.Ytfflhenldegmmaa.grow_of (below_of_grow hm)⟩
theorem Calls.grow_same {P : Program} {f : FuncId} {args : Array Value} {w : World} {g : Ext w} {v : Value}
    (h : Calls P f args (grow w g) fun e w' => e = .returned v ∧ grow w g = w') : Calls P f args (grow w g) fun e w'' => e = .returned v ∧ ∃ g', w'' = grow w g' :=
  h.mono fun _ _ ⟨he, hm⟩ => ⟨he, g, hm.symm⟩

theorem wp_region_grow_lit {P : Program} {id : Nat} {Q : Exit → Act → World → Prop} {a : Act} {w : World} {l : List Oper} (hm : P.follows .mixedOrders = true) (hB : Region.lexB .any l.toArray = true)
    (h : wpQuiet P l.toArray (fun w' => ∃ g, w' = grow w g) (fun a' => ∀ w', (∃ g, w' = grow w g) → Q .normal a' w') l a) : (Code.region id l.toArray true).wp P Q a w :=
  wp_region_quiet (C := fun w' => ∃ g, w' = grow w g) hm hB ⟨⟨w.drew, (Below.refl _ _).drew⟩, rfl⟩ (by simpa using h)

theorem bal (w : World) (o : Obj) : Below w.heap.size w (w.alloc o) := Below.alloc (Below.refl _ _) (Nat.le_refl _) _
/-- A box of six cells. -/
theorem box6 {w W : World} {t : TypeId} {v0 v1 v2 v3 v4 v5 : Value} (h : w.alloc (.cells #[v0, v1, v2, v3, v4, v5] t) = W) :
    Below w.heap.size w W ∧ w.heap.size < W.heap.size ∧ W.cell? ⟨w.heap.size, 0, none⟩ = some v0 ∧ W.cell? ⟨w.heap.size, 1, none⟩ = some v1 ∧ W.cell? ⟨w.heap.size, 2, none⟩ = some v2 ∧
      W.cell? ⟨w.heap.size, 3, none⟩ = some v3 ∧ W.cell? ⟨w.heap.size, 4, none⟩ = some v4 ∧ W.cell? ⟨w.heap.size, 5, none⟩ = some v5 := by
  subst h
  exact ⟨bal _ _, by simp, by simp, by simp, by simp, by simp, by simp, by simp⟩
theorem box2 {w W : World} {t : TypeId} {v0 v1 : Value} (h : w.alloc (.cells #[v0, v1] t) = W) :
    Below w.heap.size w W ∧ w.heap.size < W.heap.size ∧ W.cell? ⟨w.heap.size, 0, none⟩ = some v0 ∧ W.cell? ⟨w.heap.size, 1, none⟩ = some v1 := by
  subst h
  exact ⟨bal _ _, by simp, by simp, by simp⟩
/-- A chain: w -> w1 -> w2. -/
theorem bthen {a b c : World} (h : Below a.heap.size a b) (k : Below b.heap.size b c) : Below a.heap.size a c := h.trans (k.mono h.size)
theorem below_cell {w w' : World} {a : Addr} {v : Value} (h : Below w.heap.size w w') (hc : w.cell? a = some v) : w'.cell? a = some v := (h.cell (cell_lt hc)).trans hc
/-- A block of six cells that is known whole. -/
theorem six {w : World} {g : Nat} {t : TypeId} {v0 v1 v2 v3 v4 v5 : Value} (h : w.heap[g]? = some (.cells #[v0, v1, v2, v3, v4, v5] t (0, 0))) :
    w.cell? ⟨g, 0, none⟩ = some v0 ∧ w.cell? ⟨g, 1, none⟩ = some v1 ∧ w.cell? ⟨g, 2, none⟩ = some v2 ∧ w.cell? ⟨g, 3, none⟩ = some v3 ∧ w.cell? ⟨g, 4, none⟩ = some v4 ∧ w.cell? ⟨g, 5, none⟩ = some v5 ∧
      ∀ i, w.frozen? ⟨g, i, none⟩ = false := by
  refine ⟨?_, ?_, ?_, ?_, ?_, ?_, fun i => ?_⟩ <;> simp [World.cell?, World.frozen?, h]
theorem blk_below {w w' : World} {g : Nat} {o : Obj} (h : w.heap[g]? = some o) (hb : Below w.heap.size w w') : w'.heap[g]? = some o :=
  (hb.block g (Array.getElem?_eq_some_iff.1 h).1).trans h
theorem blk_put {w : World} {g : Nat} {t : TypeId} {cs : Array Value} (h : w.heap[g]? = some (.cells cs t (0, 0))) (i : Nat) (u : Value) :
    (w.setCell ⟨g, i, none⟩ u).heap[g]? = some (.cells (cs.setIfInBounds i u) t (0, 0)) := by simp [World.setCell, Array.getElem?_modify, h]
theorem blk_far {w : World} {g : Nat} {o : Obj} (h : w.heap[g]? = some o) {p : Addr} (hp : g ≠ p.block) (u : Value) : (w.setCell p u).heap[g]? = some o := (Below.heap_setCell w p u g hp).trans h
theorem alloc1 {w W : World} {a : Obj} (h : w.alloc a = W) : W.heap[w.heap.size]? = some a ∧ Below w.heap.size w W ∧ W.heap.size = w.heap.size + 1 := by
  subst h
  exact ⟨heap_alloc_new w a, bal _ _, by simp⟩
theorem alloc2 {w W : World} {a b : Obj} (h : (w.alloc a).alloc b = W) : W.heap[w.heap.size]? = some a ∧ W.heap[w.heap.size + 1]? = some b ∧ Below w.heap.size w W ∧ W.heap.size = w.heap.size + 1 + 1 := by
  obtain ⟨p, q, r⟩ := alloc1 (w := w) (a := a) rfl
  obtain ⟨p', q', r'⟩ := alloc1 h
  rw [r] at p' r'
  exact ⟨blk_below p q', p', bthen q q', r'⟩
theorem alloc3 {w W : World} {a b c : Obj} (h : ((w.alloc a).alloc b).alloc c = W) :
    W.heap[w.heap.size]? = some a ∧ W.heap[w.heap.size + 1]? = some b ∧ W.heap[w.heap.size + 1 + 1]? = some c ∧ Below w.heap.size w W ∧ W.heap.size = w.heap.size + 1 + 1 + 1 := by
  obtain ⟨p, p2, q, r⟩ := alloc2 (w := w) (a := a) (b := b) rfl
  obtain ⟨p', q', r'⟩ := alloc1 h
  rw [r] at p' r'
  exact ⟨blk_below p q', blk_below p2 q', p', bthen q q', r'⟩
end Go.Proofs.Ytfflhenldegmmaa
