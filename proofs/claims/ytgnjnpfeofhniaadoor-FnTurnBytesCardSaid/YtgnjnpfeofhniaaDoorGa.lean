/- What every walk of this seat imports. Worlds that have grown; regions that draw their order, read, and call what makes memory alone. Rows that a call makes and appends to. append(v, ys...): many at once; parts of rows. append(v, ys...) where the elements lead to nothing; copies of ints. Stores into a row that a call appends to. Rows of numbers that are made, or stand in a literal; a store into an own row of numbers. Copies of numbers; what a copied record is. -/
import Derived.Test.YtgnjnpfeofhniaaDoorProg
import Derived.Test.YtgnjnpfeofhniaaDoorKb
import Derived.Deep.QuietTactic
import Derived.BigQuiet
import Derived.Deep.LoopGhost
import Derived.OwnWalk
import Derived.WideLaws
import Derived.Deep.RegionHeld3
import Derived.Deep.DeepCutAuto
import Derived.WalkSpells
import Derived.Outline
import Derived.Laws.MakeOwn
import Derived.Lib.Hide
import Derived.Maps.AppendAt
import Derived.Laws.Rows
import Derived.Deep.RegionLaw
import Derived.BigRegion
import Derived.Lib.SliceRun
namespace Go.Proofs.YtgnjnpfeofhniaaDoor
set_option linter.unusedVariables false
set_option linter.unusedSimpArgs false
section
open Go.RowKit
theorem ret_bool {a b : Bool} (h : a = b) : Ending.returned (.bool a) = .returned (.bool b) := by rw [h]
theorem ret_int {k : IntKind} {a b : Int} (h : a = b) : Ending.returned (.int k a) = .returned (.int k b) := by rw [h]
theorem info_of {P : Program} {e : TypeId} {z : Value} {s b : Nat} (h : (P.info? e).map (fun i => (i.zero, i.size, i.bytes)) = some (some z, s, b)) :
    ∃ i, P.info? e = some i ∧ i.zero = some z ∧ i.size = s ∧ i.bytes = b := by
  obtain ⟨i, hi, hz⟩ := Option.map_eq_some_iff.1 h
  simp only [Prod.mk.injEq] at hz
  exact ⟨i, hi, hz.1, hz.2.1, hz.2.2⟩
/-- make([]T, n): a new block, whatever its cells are. -/
theorem make_any {P : Program} (t e : TypeId) (z : Value) (s b : Nat) (ht : P.underlying t = some (.slice e)) (hinfo : (P.info? e).map (fun i => (i.zero, i.size, i.bytes)) = some (some z, s, b))
    (n : Nat) (hn : b * n ≤ 281474976710656) (h63 : n ≤ 9223372036854775807) :
    ∃ cs : Array Value, cs.size = n * s ∧ ∀ w : World, (Instr.makeSlice t (.int .i64 (n : Int)) (.int .i64 (n : Int))).run P w = .ok (.slice (some ⟨w.heap.size, 0, none⟩) n n) (w.alloc (.cells cs e)) := by
  obtain ⟨i, hi, hz0, hs, hb⟩ := info_of hinfo
  refine ⟨madeCells z.cells (n * i.size), ?_, fun w => ?_⟩
  · simp [madeCells, hs]
  · have h : (i.bytes : Int) * (n : Int) ≤ 281474976710656 := by
      rw [hb, ← Int.natCast_mul]; omega
    have hr := run_make (P := P) w t e i z ht hi hz0 .i64 .i64 n n (by omega) (by omega) h (by omega)
    simp only [Int.toNat_natCast] at hr
    exact hr
/-- make([]T, 0, n). -/
theorem make_room {P : Program} (t e : TypeId) (z : Value) (s b : Nat) (ht : P.underlying t = some (.slice e)) (hinfo : (P.info? e).map (fun i => (i.zero, i.size, i.bytes)) = some (some z, s, b))
    (n : Nat) (hn : b * n ≤ 281474976710656) (h63 : n ≤ 9223372036854775807) :
    ∃ cs : Array Value, cs.size = n * s ∧ ∀ w : World, (Instr.makeSlice t (.int .i64 0) (.int .i64 (n : Int))).run P w = .ok (.slice (some ⟨w.heap.size, 0, none⟩) 0 n) (w.alloc (.cells cs e)) := by
  obtain ⟨i, hi, hz0, hs, hb⟩ := info_of hinfo
  refine ⟨madeCells z.cells (n * i.size), ?_, fun w => ?_⟩
  · simp [madeCells, hs]
  · have h : (i.bytes : Int) * (n : Int) ≤ 281474976710656 := by
      rw [hb, ← Int.natCast_mul]; omega
    have hr := run_make (P := P) w t e i z ht hi hz0 .i64 .i64 0 n (by omega) (by omega) h (by omega)
    simp only [Int.toNat_natCast] at hr
    exact hr
end

section
open Go.RowKit

structure Ext (w : World) where
  w' : World
  below : Below w.heap.size w w'
instance instExtNonempty (w : World) : Nonempty (Ext w) := ⟨⟨w, Below.refl _ _⟩⟩
/-- A world that has w's blocks. -/
def grow (w : World) (g : Ext w) : World := g.w'
theorem grow_below (w : World) (g : Ext w) : Below w.heap.size w (grow w g) := g.below
theorem grow_cell {w : World} {a : Addr} {v : Value} (h : w.cell? a = some v) (g : Ext w) : (grow w g).cell? a = some v :=
  ((grow_below w g).cell (cell_lt h)).trans h
theorem grow_frozen {w : World} {a : Addr} {v : Value} (h : w.cell? a = some v) {b : Bool} (hf : w.frozen? a = b) (g : Ext w) : (grow w g).frozen? a = b :=
  ((grow_below w g).frozen (cell_lt h)).trans hf
theorem grow_of {w w' : World} (h : Below w.heap.size w w') : ∃ g, w' = grow w g := ⟨⟨w', h⟩, rfl⟩
theorem below_of_grow {w : World} {g : Ext w} {w' : World} (h : Below (grow w g).heap.size (grow w g) w') : Below w.heap.size w w' :=
  (grow_below w g).trans (h.mono (grow_below w g).size)
theorem grow_size (w : World) (g : Ext w) : w.heap.size ≤ (grow w g).heap.size := (grow_below w g).size

/-- A callee that makes memory alone, met in a grown world. -/
theorem Calls.grow_of {P : Program} {f : FuncId} {args : Array Value} {w : World} {g : Ext w} {v : Value}
    (h : Calls P f args (grow w g) fun e w' => e = .returned v ∧ Below (grow w g).heap.size (grow w g) w') : Calls P f args (grow w g) fun e w'' => e = .returned v ∧ ∃ g', w'' = grow w g' :=
  h.mono fun _ _ ⟨he, hm⟩ => ⟨he, Go.Proofs.YtgnjnpfeofhniaaDoor.grow_of (below_of_grow hm)⟩
theorem Calls.grow_same {P : Program} {f : FuncId} {args : Array Value} {w : World} {g : Ext w} {v : Value}
    (h : Calls P f args (grow w g) fun e w' => e = .returned v ∧ grow w g = w') : Calls P f args (grow w g) fun e w'' => e = .returned v ∧ ∃ g', w'' = grow w g' :=
  h.mono fun _ _ ⟨he, hm⟩ => ⟨he, g, hm.symm⟩

theorem wp_region_grow_lit {P : Program} {id : Nat} {Q : Exit → Act → World → Prop} {a : Act} {w : World} {l : List Oper} (hm : P.follows .mixedOrders = true) (hB : Region.lexB .any l.toArray = true)
    (h : wpQuiet P l.toArray (fun w' => ∃ g, w' = grow w g) (fun a' => ∀ w', (∃ g, w' = grow w g) → Q .normal a' w') l a) : (Code.region id l.toArray true).wp P Q a w :=
  wp_region_quiet (C := fun w' => ∃ g, w' = grow w g) hm hB ⟨⟨w.drew, (Below.refl _ _).drew⟩, rfl⟩ (by simpa using h)

theorem bal (w : World) (o : Obj) : Below w.heap.size w (w.alloc o) := Below.alloc (Below.refl _ _) (Nat.le_refl _) _
/-- A box of six cells. -/
theorem box6 {w W : World} {t : TypeId} {v0 v1 v2 v3 v4 v5 : Value} (h : w.alloc (.cells #[v0, v1, v2, v3, v4, v5] t) = W) :
    Below w.heap.size w W ∧ w.heap.size < W.heap.size ∧ W.cell? ⟨w.heap.size, 0, none⟩ = some v0 ∧ W.cell? ⟨w.heap.size, 1, none⟩ = some v1 ∧ W.cell? ⟨w.heap.size, 2, none⟩ = some v2 ∧
      W.cell? ⟨w.heap.size, 3, none⟩ = some v3 ∧ W.cell? ⟨w.heap.size, 4, none⟩ = some v4 ∧ W.cell? ⟨w.heap.size, 5, none⟩ = some v5 := by
  subst h
  exact ⟨bal _ _, by simp, by simp, by simp, by simp, by simp, by simp, by simp⟩
theorem box2 {w W : World} {t : TypeId} {v0 v1 : Value} (h : w.alloc (.cells #[v0, v1] t) = W) :
    Below w.heap.size w W ∧ w.heap.size < W.heap.size ∧ W.cell? ⟨w.heap.size, 0, none⟩ = some v0 ∧ W.cell? ⟨w.heap.size, 1, none⟩ = some v1 := by
  subst h
  exact ⟨bal _ _, by simp, by simp, by simp⟩
/-- A chain: w -> w1 -> w2. -/
theorem bthen {a b c : World} (h : Below a.heap.size a b) (k : Below b.heap.size b c) : Below a.heap.size a c := h.trans (k.mono h.size)
theorem below_cell {w w' : World} {a : Addr} {v : Value} (h : Below w.heap.size w w') (hc : w.cell? a = some v) : w'.cell? a = some v := (h.cell (cell_lt hc)).trans hc
/-- A block of six cells that is known whole. -/
theorem six {w : World} {g : Nat} {t : TypeId} {v0 v1 v2 v3 v4 v5 : Value} (h : w.heap[g]? = some (.cells #[v0, v1, v2, v3, v4, v5] t (0, 0))) :
    w.cell? ⟨g, 0, none⟩ = some v0 ∧ w.cell? ⟨g, 1, none⟩ = some v1 ∧ w.cell? ⟨g, 2, none⟩ = some v2 ∧ w.cell? ⟨g, 3, none⟩ = some v3 ∧ w.cell? ⟨g, 4, none⟩ = some v4 ∧ w.cell? ⟨g, 5, none⟩ = some v5 ∧
      ∀ i, w.frozen? ⟨g, i, none⟩ = false := by
  refine ⟨?_, ?_, ?_, ?_, ?_, ?_, fun i => ?_⟩ <;> simp [World.cell?, World.frozen?, h]
theorem blk_below {w w' : World} {g : Nat} {o : Obj} (h : w.heap[g]? = some o) (hb : Below w.heap.size w w') : w'.heap[g]? = some o :=
  (hb.block g (Array.getElem?_eq_some_iff.1 h).1).trans h
theorem blk_put {w : World} {g : Nat} {t : TypeId} {cs : Array Value} (h : w.heap[g]? = some (.cells cs t (0, 0))) (i : Nat) (u : Value) :
    (w.setCell ⟨g, i, none⟩ u).heap[g]? = some (.cells (cs.setIfInBounds i u) t (0, 0)) := by simp [World.setCell, Array.getElem?_modify, h]
theorem blk_far {w : World} {g : Nat} {o : Obj} (h : w.heap[g]? = some o) {p : Addr} (hp : g ≠ p.block) (u : Value) : (w.setCell p u).heap[g]? = some o := (Below.heap_setCell w p u g hp).trans h
theorem alloc1 {w W : World} {a : Obj} (h : w.alloc a = W) : W.heap[w.heap.size]? = some a ∧ Below w.heap.size w W ∧ W.heap.size = w.heap.size + 1 := by
  subst h
  exact ⟨heap_alloc_new w a, bal _ _, by simp⟩
theorem alloc2 {w W : World} {a b : Obj} (h : (w.alloc a).alloc b = W) : W.heap[w.heap.size]? = some a ∧ W.heap[w.heap.size + 1]? = some b ∧ Below w.heap.size w W ∧ W.heap.size = w.heap.size + 1 + 1 := by
  obtain ⟨p, q, r⟩ := alloc1 (w := w) (a := a) rfl
  obtain ⟨p', q', r'⟩ := alloc1 h
  rw [r] at p' r'
  exact ⟨blk_below p q', p', bthen q q', r'⟩
theorem alloc3 {w W : World} {a b c : Obj} (h : ((w.alloc a).alloc b).alloc c = W) :
    W.heap[w.heap.size]? = some a ∧ W.heap[w.heap.size + 1]? = some b ∧ W.heap[w.heap.size + 1 + 1]? = some c ∧ Below w.heap.size w W ∧ W.heap.size = w.heap.size + 1 + 1 + 1 := by
  obtain ⟨p, p2, q, r⟩ := alloc2 (w := w) (a := a) (b := b) rfl
  obtain ⟨p', q', r'⟩ := alloc1 h
  rw [r] at p' r'
  exact ⟨blk_below p q', blk_below p2 q', p', bthen q q', r'⟩
end

section
open Go.RowKit

theorem Chg.setNew {F : Nat → Prop} {a b : World} (h : Chg F a b) {p : Addr} (hp : a.heap.size ≤ p.block) (u : Value) : Chg F a (b.setCell p u) :=
  ⟨h.os, h.tape, h.output, by simpa using h.size, fun i hi hn => (Below.heap_setCell b p u i (by omega)).trans (h.block i hi hn)⟩
theorem Chg.alloc {F : Nat → Prop} {a b : World} (h : Chg F a b) (o : Obj) : Chg F a (b.alloc o) :=
  ⟨h.os, h.tape, h.output, Nat.le_trans h.size (by simp), fun i hi hn => (Below.heap_alloc b o i (Nat.lt_of_lt_of_le hi h.size)).trans (h.block i hi hn)⟩
theorem Chg.drew {F : Nat → Prop} {a b : World} (h : Chg F a b) : Chg F a b.drew := ⟨h.os, h.tape, h.output, h.size, h.block⟩
theorem Chg.drewN {F : Nat → Prop} {a b : World} (h : Chg F a b) (n : Nat) : Chg F a (b.drewN n) := ⟨h.os, h.tape, h.output, h.size, h.block⟩
/-- .. and then a change of blocks that were not there. -/
theorem Chg.then {F G : Nat → Prop} {a b c : World} (h : Chg F a b) (k : Chg G b c) (hG : ∀ i, i < a.heap.size → G i → F i) : Chg F a c :=
  ⟨k.os.trans h.os, k.tape.trans h.tape, k.output.trans h.output, Nat.le_trans h.size k.size, fun i hi hn => (k.block i (Nat.lt_of_lt_of_le hi h.size) (fun hg => hn (hG i hi hg))).trans (h.block i hi hn)⟩
theorem Chg.blk {F : Nat → Prop} {a b : World} (h : Chg F a b) {g : Nat} {o : Obj} (hb : a.heap[g]? = some o) (hn : ¬ F g) : b.heap[g]? = some o :=
  (h.block g (Array.getElem?_eq_some_iff.1 hb).1 hn).trans hb

/-- A row of one's own that can be appended to; it and what the elements lead to lie in blocks of P. -/
def AppP {α : Type} (d : Kind α) (e : TypeId) (w : World) (P : Nat → Prop) (v : Value) (xs : List α) : Prop :=
  ∃ (F : Nat → Prop) (inner : List Value), w.ownsRow 0 e d.sz v xs.length inner ∧ (∀ k, v.ownBlock = some k → P k) ∧ (∀ b, F b → P b ∧ b < w.heap.size ∧ v.ownBlock ≠ some b) ∧
    ∀ j x, xs[j]? = some x → ∃ cs, d.K w F x cs ∧ ∀ i u, cs[i]? = some u → inner[j * d.sz + i]? = some u
abbrev App {α : Type} (d : Kind α) (e : TypeId) (w : World) (base : Nat) (v : Value) (xs : List α) : Prop := AppP d e w (fun b => base ≤ b) v xs

section
variable {α : Type} {d : Kind α} {e : TypeId} {w w' : World} {P : Nat → Prop} {v : Value} {xs : List α}
theorem own_moved {base size n : Nat} {inner : List Value} (h : w.ownsRow base e size v n inner) (hm : ∀ k, v.ownBlock = some k → w'.heap[k]? = w.heap[k]?) : w'.ownsRow base e size v n inner := by
  obtain ⟨h1, h2⟩ := h
  refine ⟨h1, ?_⟩
  rcases h2 with h2 | ⟨g, cap, cur, rfl, hg, hh, r⟩
  · exact .inl h2
  · exact .inr ⟨g, cap, cur, rfl, hg, (hm g (by simp [Value.ownBlock])).trans hh, r⟩
theorem AppP.keep (h : AppP d e w P v xs) (hs : Same P w w') (hsz : w.heap.size ≤ w'.heap.size) : AppP d e w' P v xs := by
  obtain ⟨F, inner, ho, hP, hF, hE⟩ := h
  refine ⟨F, inner, own_moved ho (fun k hk => hs k (hP k hk) (ho.lt k hk).2), hP, fun b hb => ⟨(hF b hb).1, Nat.lt_of_lt_of_le (hF b hb).2.1 hsz, (hF b hb).2.2⟩, fun j x hj => ?_⟩
  obtain ⟨cs, hK, hc⟩ := hE j x hj
  exact ⟨cs, d.keep (fun b hb hlt => hs b (hF b hb).1 hlt) hK, hc⟩
theorem AppP.chg {G : Nat → Prop} (h : AppP d e w P v xs) (hc : Chg G w w') (hG : ∀ b, b < w.heap.size → P b → ¬ G b) : AppP d e w' P v xs := h.keep (hc.same hG) hc.size
theorem AppP.below (h : AppP d e w P v xs) (hb : Below w.heap.size w w') : AppP d e w' P v xs := h.keep (Same.of_below hb) hb.size
theorem AppP.mono {P' : Nat → Prop} (h : AppP d e w P v xs) (hp : ∀ b, b < w.heap.size → P b → P' b) : AppP d e w P' v xs := by
  obtain ⟨F, inner, ho, hP, hF, hE⟩ := h
  exact ⟨F, inner, ho, fun k hk => hp k (ho.lt k hk).2 (hP k hk), fun b hb => ⟨hp b (hF b hb).2.1 (hF b hb).1, (hF b hb).2⟩, hE⟩
theorem AppP.nil (d : Kind α) (e : TypeId) (w : World) (P : Nat → Prop) : AppP d e w P (.slice none 0 0) [] :=
  ⟨fun _ => False, [], World.ownsRow_nil _ _ _ _, fun _ h => by simp [Value.ownBlock] at h, fun _ h => h.elim, fun j x hj => by simp at hj⟩
/-- A literal without elements. -/
theorem App.lit (d : Kind α) (e : TypeId) (w : World) (base : Nat) (hb : base ≤ w.heap.size) : App d e (w.alloc (.cells #[] e)) base (.slice (some ⟨w.heap.size, 0, none⟩) 0 0) [] :=
  ⟨fun _ => False, [], World.ownsRow_made w #[] 0 (Nat.zero_le _) (by simp [maxLen]) (by simp), fun k h => by simp [Value.ownBlock] at h; omega, fun _ h => h.elim, fun j x hj => by simp at hj⟩
theorem AppP.slice_ (h : AppP d e w P v xs) : ∃ A c, v = .slice A xs.length c ∧ xs.length ≤ c ∧ c ≤ 9223372036854775807 := by
  obtain ⟨F, inner, ho, _, _, _⟩ := h
  rcases ho.2 with ⟨rfl, hn⟩ | ⟨g, cap, cur, rfl, _, _, h1, h2, _⟩
  · exact ⟨none, 0, by rw [hn], by omega, by omega⟩
  · unfold maxLen at h2
    exact ⟨_, cap, rfl, h1, by omega⟩
theorem AppP.row (h : AppP d e w P v xs) : ∃ A c, v = .slice A xs.length c ∧ d.Row w P A c xs := by
  obtain ⟨A, c, rfl, h1, h2⟩ := h.slice_
  refine ⟨A, c, rfl, h1, h2, fun hx => ?_⟩
  obtain ⟨F, inner, ho, hP, hF, hE⟩ := h
  rcases ho.2 with ⟨_, hn⟩ | ⟨g, cap, cur, hv, hg, hh, _⟩
  · exact absurd (List.eq_nil_of_length_eq_zero hn) hx
  · have hA : A = some ⟨g, 0, none⟩ := by injection hv
    subst hA
    refine ⟨_, rfl, hP g (by simp [Value.ownBlock]), fun j x hj => ?_⟩
    obtain ⟨cs, hK, hc⟩ := hE j x hj
    exact ⟨cs, d.mono (fun b hb => (hF b hb).1) hK, fun i u hu => ho.cells (g := g) rfl _ _ (hc i u hu)⟩
theorem App.from {base base' : Nat} (h : App d e w base v xs) (hb : base' ≤ base) : App d e w base' v xs := AppP.mono h (fun _ _ h => Nat.le_trans hb h)
theorem AppP.ne (h : AppP d e w P v xs) {k : Nat} (hk : v.ownBlock = some k) : P k := by
  obtain ⟨F, inner, _, hP, _⟩ := h
  exact hP k hk
theorem AppP.own_lt (h : AppP d e w P v xs) {k : Nat} (hk : v.ownBlock = some k) : k < w.heap.size := by
  obtain ⟨F, inner, ho, _, _⟩ := h
  exact (ho.lt k hk).2
theorem AppP.get (h : AppP d e w P v xs) {j : Nat} (hj : j < xs.length) : ∃ ad c cs, v = .slice (some ad) xs.length c ∧ d.K w (fun b => P b ∧ b < w.heap.size ∧ v.ownBlock ≠ some b) xs[j] cs ∧ ∀ i u, cs[i]? = some u → w.cell? (ad.add (j * d.sz + i)) = some u := by
  obtain ⟨F, inner, ho, hP, hF, hE⟩ := h
  obtain ⟨cs, hK, hc⟩ := hE j _ (List.getElem?_eq_getElem hj)
  rcases ho.2 with ⟨_, hn⟩ | ⟨g, cap, cur, hv, hg, hh, _⟩
  · omega
  · exact ⟨_, cap, cs, hv, d.mono hF hK, fun i u hu => by subst hv; exact ho.cells (g := g) rfl _ _ (hc i u hu)⟩

/-- One more. W: the world ahead of the literal that holds the new element's cells. -/
theorem AppP.add {W w1 : World} {v1 : Value} {p : α} {cs inner : List Value} {F G : Nat → Prop} (ho : W.ownsRow 0 e d.sz v xs.length inner)
    (hF : ∀ b, F b → P b ∧ b < W.heap.size ∧ v.ownBlock ≠ some b) (hE : ∀ j x, xs[j]? = some x → ∃ cs, d.K W F x cs ∧ ∀ i u, cs[i]? = some u → inner[j * d.sz + i]? = some u)
    (hp : d.K W G p cs) (hG : ∀ b, G b → P b ∧ b < W.heap.size ∧ v.ownBlock ≠ some b) (hown : w1.ownsRow 0 e d.sz v1 (xs.length + 1) (inner ++ cs)) (hg : Chg (fun b => v.ownBlock = some b) W w1)
    (hP : ∀ k, v.ownBlock = some k → P k) (hnew : ∀ b, W.heap.size ≤ b → P b)
    (hat : v1.ownBlock = v.ownBlock ∨ ∃ b, v1.ownBlock = some b ∧ W.heap.size ≤ b) : AppP d e w1 P v1 (xs ++ [p]) := by
  have hlen := d.len hp
  have hin : inner.length = xs.length * d.sz := ho.1
  have hne : ∀ b, b < W.heap.size → v.ownBlock ≠ some b → v1.ownBlock ≠ some b := by
    intro b hb hn
    rcases hat with h | ⟨k, hk, hle⟩
    · rw [h]; exact hn
    · rw [hk]; intro h; injection h with h; omega
  refine ⟨fun b => F b ∨ G b, inner ++ cs, by simpa using hown, ?_, ?_, ?_⟩
  · intro k hk
    rcases hat with h | ⟨k', hk', hle⟩
    · exact hP k (by rw [← h]; exact hk)
    · rw [hk'] at hk
      injection hk with hk
      exact hnew k (by omega)
  · rintro b (hb | hb)
    · obtain ⟨h1, h2, h3⟩ := hF b hb
      exact ⟨h1, Nat.lt_of_lt_of_le h2 hg.size, hne b h2 h3⟩
    · obtain ⟨h1, h2, h3⟩ := hG b hb
      exact ⟨h1, Nat.lt_of_lt_of_le h2 hg.size, hne b h2 h3⟩
  · intro j x hj
    by_cases hjl : j < xs.length
    · rw [List.getElem?_append_left hjl] at hj
      obtain ⟨ds, hK, hc⟩ := hE j x hj
      refine ⟨ds, d.mono (fun b hb => .inl hb) (d.keep (hg.same (fun b hlt hb => (hF b hb).2.2)) hK), fun i u hu => ?_⟩
      have hil : i < d.sz := by rw [← d.len hK]; exact (List.getElem?_eq_some_iff.1 hu).1
      have : j * d.sz + d.sz ≤ xs.length * d.sz := by rw [← Nat.succ_mul]; exact Nat.mul_le_mul_right _ hjl
      rw [List.getElem?_append_left (by omega)]
      exact hc i u hu
    · have hjeq : j = xs.length := by
        have := (List.getElem?_eq_some_iff.1 hj).1
        simp at this
        omega
      subst hjeq
      rw [List.getElem?_append_right (Nat.le_refl _)] at hj
      simp at hj
      subst hj
      refine ⟨cs, d.mono (fun b hb => .inr hb) (d.keep (hg.same (fun b hlt hb => (hG b hb).2.2)) hp), fun i u hu => ?_⟩
      rw [List.getElem?_append_right (by omega), hin]
      simpa using hu
/-- A literal of one element. -/
theorem AppP.one {p : α} {cs : List Value} {G : Nat → Prop} (hp : d.K w G p cs) (hG : ∀ b, G b → P b ∧ b < w.heap.size) (hnew : P w.heap.size) :
    AppP d e (w.alloc (.cells cs.toArray e)) P (.slice (some ⟨w.heap.size, 0, none⟩) 1 1) [p] := by
  have hl := d.len hp
  have ho : (w.alloc (.cells cs.toArray e)).ownsRow 0 e d.sz (.slice (some ⟨w.heap.size, 0, none⟩) 1 1) 1 cs :=
    ⟨by simp [hl], .inr ⟨w.heap.size, 1, cs.toArray, rfl, Nat.zero_le _, heap_alloc_new w _, Nat.le_refl _, by simp [maxLen], by simp [hl], by simp [← hl]⟩⟩
  refine ⟨G, cs, ho, fun k hk => by simp [Value.ownBlock] at hk; subst hk; exact hnew, fun b h => ⟨(hG b h).1, by simp; have := (hG b h).2; omega, fun h' => by simp [Value.ownBlock] at h'; have := (hG b h).2; omega⟩, fun j x hj => ?_⟩
  cases j with
  | zero =>
    simp at hj
    subst hj
    exact ⟨cs, d.keep (Same.of_below (Below.alloc (Below.refl _ _) (Nat.le_refl _) _)) hp, fun i u hu => by simpa using hu⟩
  | succ j => simp at hj
end

section
variable {P : Program} {ops : Array Oper} {rest : List Oper} {o : Oper} {a : Act} {Q : Exit → Act → World → Prop} {α : Type}
/-- append(v, p), behind 'at_builtin'. -/
theorem wpList_appP (d : Kind α) {e : TypeId} {W : World} {R : Nat → Prop} {v : Value} {xs : List α} (HO : AppP d e W R v xs) (hgd : o.guard = none) (s x : Operand) (t : TypeId) (z : Value) (bytes : Nat)
    (ho : o.op = .call { callee := .builtin .append, args := #[s, x], argTypes := #[t, t] })
    (ht : P.underlying t = some (.slice e)) (hinfo : (P.info? e).map (fun i => (i.zero, i.size, i.bytes)) = some (some z, d.sz, bytes)) (hz : z.cells.size = d.sz) (hs0 : 0 < d.sz)
    (p : α) (cs : List Value) (G : Nat → Prop) (hs : a.eval s = v) (hx : a.eval x = .slice (some ⟨W.heap.size, 0, none⟩) 1 1)
    (hp : d.K W G p cs) (hG : ∀ b, G b → R b ∧ b < W.heap.size ∧ v.ownBlock ≠ some b) (h1 : ∀ u ∈ cs, u.oneCell' = true)
    (hnew : ∀ b, W.heap.size ≤ b → R b) (h63 : xs.length + 1 ≤ 1099511627776) (hl : (xs.length + 1) * bytes ≤ 140737488355328)
    (h : ∀ v1 w1, AppP d e w1 R v1 (xs ++ [p]) → Chg (fun b => v.ownBlock = some b) W w1 → wpList P ops Q rest (a.put o.dst v1) w1) :
    wpList P ops Q (o :: rest) a (W.alloc (.cells cs.toArray e)) := by
  obtain ⟨F, inner, hown, hP, hF, hE⟩ := HO
  obtain ⟨i0, hi, hz0, hz1, hz2⟩ := info_of hinfo
  have hlen := d.len hp
  refine wpList_plain hgd fun K hK => ?_
  obtain ⟨v', w', hrun, h2, h3, _, h5⟩ := run_append_own_at (P := P) (W.alloc (.cells cs.toArray e)) 0 t o.type e i0 z d.sz bytes ht hi hz0 hz1 hz2 hz hs0 v xs.length inner (hown.alloc _)
    ⟨W.heap.size, 0, none⟩ 1 1 cs (by rw [hlen]; omega) (fun j u hu => by
      have hadd : (⟨W.heap.size, 0, none⟩ : Addr).add j = ⟨W.heap.size, j, none⟩ := by unfold Addr.add; split <;> simp_all
      rw [hadd, cell_of_row _ _ _ _ _ _ (heap_alloc_new W (.cells cs.toArray e))]
      simpa using hu) h1 (by simp only [maxLen]; omega) (by exact hl) (by simp)
  unfold Oper.wp execOp
  simp only [ho, resolve, invoke, builtin, Sem.run_bind, Sem.run_pure, Result.andThen_ok, List.map_toArray, List.map_cons, List.map_nil, hs, hx, hrun]
  have hsz : (W.alloc (.cells cs.toArray e)).heap.size = W.heap.size + 1 := by simp
  have hg : Chg (fun b => v.ownBlock = some b) W w' := ⟨h3.os, h3.tape, h3.output, by have := h3.size; rw [hsz] at this; omega, fun b hb hn => (h3.block b (by rw [hsz]; omega) (fun e => hn e.symm)).trans (Below.heap_alloc W _ b hb)⟩
  refine hK _ _ (h v' w' (AppP.add hown hF hE hp hG (by simpa using h2) hg hP hnew ?_) hg)
  rcases h5 with h5 | h5
  · exact .inl h5
  · exact .inr ⟨_, h5, by rw [hsz]; omega⟩
/-- .. at a step of a region that draws. -/
theorem step_appP (d : Kind α) {e : TypeId} {W : World} {R : Nat → Prop} {v : Value} {xs : List α} {K : Act → World → Prop} {E : Prop} (HO : AppP d e W R v xs) (hgd : o.guard = none) (s x : Operand) (t : TypeId) (z : Value) (bytes : Nat)
    (ho : o.op = .call { callee := .builtin .append, args := #[s, x], argTypes := #[t, t] })
    (ht : P.underlying t = some (.slice e)) (hinfo : (P.info? e).map (fun i => (i.zero, i.size, i.bytes)) = some (some z, d.sz, bytes)) (hz : z.cells.size = d.sz) (hs0 : 0 < d.sz)
    (p : α) (cs : List Value) (G : Nat → Prop) (hs : a.eval s = v) (hx : a.eval x = .slice (some ⟨W.heap.size, 0, none⟩) 1 1)
    (hp : d.K W G p cs) (hG : ∀ b, G b → R b ∧ b < W.heap.size ∧ v.ownBlock ≠ some b) (h1 : ∀ u ∈ cs, u.oneCell' = true)
    (hnew : ∀ b, W.heap.size ≤ b → R b) (h63 : xs.length + 1 ≤ 1099511627776) (hl : (xs.length + 1) * bytes ≤ 140737488355328)
    (h : ∀ v1 w1, AppP d e w1 R v1 (xs ++ [p]) → Chg (fun b => v.ownBlock = some b) W w1 → K (a.put o.dst v1) w1) :
    if Region.wanted o (yielded ops a.tmps) = true then Oper.wp P o a (W.alloc (.cells cs.toArray e)) K Q else E := by
  have hw : Region.wanted o (yielded ops a.tmps) = true := by simp [Region.wanted, hgd]
  rw [if_pos hw]
  obtain ⟨F, inner, hown, hP, hF, hE⟩ := HO
  obtain ⟨i0, hi, hz0, hz1, hz2⟩ := info_of hinfo
  have hlen := d.len hp
  obtain ⟨v', w', hrun, h2, h3, _, h5⟩ := run_append_own_at (P := P) (W.alloc (.cells cs.toArray e)) 0 t o.type e i0 z d.sz bytes ht hi hz0 hz1 hz2 hz hs0 v xs.length inner (hown.alloc _)
    ⟨W.heap.size, 0, none⟩ 1 1 cs (by rw [hlen]; omega) (fun j u hu => by
      have hadd : (⟨W.heap.size, 0, none⟩ : Addr).add j = ⟨W.heap.size, j, none⟩ := by unfold Addr.add; split <;> simp_all
      rw [hadd, cell_of_row _ _ _ _ _ _ (heap_alloc_new W (.cells cs.toArray e))]
      simpa using hu) h1 (by simp only [maxLen]; omega) (by exact hl) (by simp)
  unfold Oper.wp execOp
  simp only [ho, resolve, invoke, builtin, Sem.run_bind, Sem.run_pure, Result.andThen_ok, List.map_toArray, List.map_cons, List.map_nil, hs, hx, hrun]
  have hsz : (W.alloc (.cells cs.toArray e)).heap.size = W.heap.size + 1 := by simp
  have hg : Chg (fun b => v.ownBlock = some b) W w' := ⟨h3.os, h3.tape, h3.output, by have := h3.size; rw [hsz] at this; omega, fun b hb hn => (h3.block b (by rw [hsz]; omega) (fun e => hn e.symm)).trans (Below.heap_alloc W _ b hb)⟩
  refine h v' w' (AppP.add hown hF hE hp hG (by simpa using h2) hg hP hnew ?_) hg
  rcases h5 with h5 | h5
  · exact .inl h5
  · exact .inr ⟨_, h5, by rw [hsz]; omega⟩
theorem wpList_app (d : Kind α) {e : TypeId} {W : World} {base : Nat} {v : Value} {xs : List α} (HO : App d e W base v xs) (hgd : o.guard = none) (s x : Operand) (t : TypeId) (z : Value) (bytes : Nat)
    (ho : o.op = .call { callee := .builtin .append, args := #[s, x], argTypes := #[t, t] })
    (ht : P.underlying t = some (.slice e)) (hinfo : (P.info? e).map (fun i => (i.zero, i.size, i.bytes)) = some (some z, d.sz, bytes)) (hz : z.cells.size = d.sz) (hs0 : 0 < d.sz)
    (p : α) (cs : List Value) (G : Nat → Prop) (hs : a.eval s = v) (hx : a.eval x = .slice (some ⟨W.heap.size, 0, none⟩) 1 1)
    (hp : d.K W G p cs) (hG : ∀ b, G b → base ≤ b ∧ b < W.heap.size ∧ v.ownBlock ≠ some b) (h1 : ∀ u ∈ cs, u.oneCell' = true)
    (hbase : base ≤ W.heap.size) (h63 : xs.length + 1 ≤ 1099511627776) (hl : (xs.length + 1) * bytes ≤ 140737488355328)
    (h : ∀ v1 w1, App d e w1 base v1 (xs ++ [p]) → Chg (fun b => v.ownBlock = some b) W w1 → wpList P ops Q rest (a.put o.dst v1) w1) :
    wpList P ops Q (o :: rest) a (W.alloc (.cells cs.toArray e)) :=
  wpList_appP d HO hgd s x t z bytes ho ht hinfo hz hs0 p cs G hs hx hp hG h1 (fun _ h => Nat.le_trans hbase h) h63 hl h
end
end

section
open Go.RowKit

def Kind.One {α : Type} (d : Kind α) : Prop := ∀ (w : World) (F : Nat → Prop) (x : α) (cs : List Value), d.K w F x cs → ∀ u ∈ cs, u.oneCell' = true
theorem onec_int (k : IntKind) : (Kind.int k).One := by
  intro w F x cs h u hu
  have h' : cs = [.int k x] := h
  subst h'; simp at hu; subst hu; rfl
theorem onec_ent : Kind.ent.One := by
  intro w F x cs h u hu
  have h' : cs = [.int .i64 x.off, .int .i64 x.place] := h
  subst h'; simp at hu; rcases hu with rfl | rfl <;> rfl
theorem onec_rec : Kind.rec_.One := by
  rintro w F x cs ⟨A, c, A', c', rfl, _, _⟩ u hu
  simp at hu; rcases hu with rfl | rfl | rfl | rfl | rfl | rfl <;> rfl
theorem onec_bat : Kind.bat.One := by
  rintro w F x cs ⟨A, c, rfl, _⟩ u hu
  simp at hu; rcases hu with rfl | rfl | rfl | rfl | rfl | rfl <;> rfl

/-- What a value leads to lies in blocks that are there. -/
def Kind.Bnd {α : Type} (d : Kind α) : Prop := 0 < d.sz ∧ ∀ (w : World) (F : Nat → Prop) (x : α) (cs : List Value), d.K w F x cs → d.K w (fun b => F b ∧ b < w.heap.size) x cs
theorem Kind.Row.bound {α : Type} {d : Kind α} (hd : d.Bnd) {w : World} {F : Nat → Prop} {A : Option Addr} {c : Nat} {xs : List α} (h : d.Row w F A c xs) : d.Row w (fun b => F b ∧ b < w.heap.size) A c xs := by
  refine ⟨h.1, h.2.1, fun hx => ?_⟩
  obtain ⟨ad, e, hF, hc⟩ := h.2.2 hx
  refine ⟨ad, e, ⟨hF, ?_⟩, fun j x hj => ?_⟩
  · obtain ⟨x, r, rfl⟩ := List.exists_cons_of_ne_nil hx
    obtain ⟨cs, hK, hcell⟩ := hc 0 x rfl
    have hl := d.len hK
    have h0 : 0 < cs.length := by rw [hl]; exact hd.1
    have := cell_lt (hcell 0 _ (List.getElem?_eq_getElem h0))
    rwa [add_block] at this
  · obtain ⟨cs, hK, hcell⟩ := hc j x hj
    exact ⟨cs, hd.2 _ _ _ _ hK, hcell⟩
theorem bnd_int (k : IntKind) : (Kind.int k).Bnd := ⟨Nat.one_pos, fun _ _ _ _ h => h⟩
theorem bnd_ent : Kind.ent.Bnd := ⟨by decide, fun _ _ _ _ h => h⟩
theorem bnd_rec : Kind.rec_.Bnd := by
  refine ⟨by decide, ?_⟩
  rintro w F x cs ⟨A, c, A', c', rfl, h, h'⟩
  exact ⟨A, c, A', c', rfl, h.bound (bnd_int _), h'.bound (bnd_int _)⟩
theorem bnd_bat : Kind.bat.Bnd := by
  refine ⟨by decide, ?_⟩
  rintro w F x cs ⟨A, c, rfl, h⟩
  exact ⟨A, c, rfl, h.bound bnd_rec⟩

section
variable {α : Type} {d : Kind α} {w : World} {F : Nat → Prop} {c : Nat} {ys : List α}
theorem Kind.Row.flat {ad : Addr} (h : d.Row w F (some ad) c ys) (n : Nat) (hn : n ≤ ys.length) :
    ∃ news : List Value, news.length = n * d.sz ∧ (∀ j u, news[j]? = some u → w.cell? (ad.add j) = some u) ∧
      (∀ j x, j < n → ys[j]? = some x → ∃ cs, d.K w F x cs ∧ ∀ i u, cs[i]? = some u → news[j * d.sz + i]? = some u) ∧ ∀ u ∈ news, ∃ x cs, d.K w F x cs ∧ u ∈ cs := by
  induction n with
  | zero => exact ⟨[], by simp, by simp, fun j _ hj => by omega, by simp⟩
  | succ n ih =>
    obtain ⟨news, h1, h2, h3, h4⟩ := ih (by omega)
    obtain ⟨ad', cs, e, hF, hK, hc⟩ := h.get (j := n) hn
    obtain rfl : ad = ad' := by injection e
    have hl := d.len hK
    refine ⟨news ++ cs, by rw [List.length_append, h1, hl, Nat.succ_mul], ?_, ?_, ?_⟩
    · intro j u hu
      by_cases hj : j < news.length
      · rw [List.getElem?_append_left hj] at hu
        exact h2 j u hu
      · rw [List.getElem?_append_right (by omega)] at hu
        have := hc _ _ hu
        rwa [← h1, show news.length + (j - news.length) = j by omega] at this
    · intro j x hj hx
      by_cases hjn : j < n
      · obtain ⟨ds, hD, hd⟩ := h3 j x hjn hx
        refine ⟨ds, hD, fun i u hu => ?_⟩
        have hil : i < d.sz := by rw [← d.len hD]; exact (List.getElem?_eq_some_iff.1 hu).1
        have : j * d.sz + d.sz ≤ n * d.sz := by rw [← Nat.succ_mul]; exact Nat.mul_le_mul_right _ hjn
        rw [List.getElem?_append_left (by omega)]
        exact hd i u hu
      · have hjn' : j = n := by omega
        subst hjn'
        rw [List.getElem?_eq_getElem hn] at hx
        injection hx with hx
        subst hx
        refine ⟨cs, hK, fun i u hu => ?_⟩
        rw [List.getElem?_append_right (by omega), h1]
        simpa using hu
    · intro u hu
      rcases List.mem_append.1 hu with hu | hu
      · exact h4 u hu
      · exact ⟨_, cs, hK, hu⟩
/-- The first k of a row. -/
theorem Kind.Row.take {A : Option Addr} (h : d.Row w F A c ys) (k : Nat) : d.Row w F A c (ys.take k) := by
  refine ⟨Nat.le_trans (by simp; omega) h.1, h.2.1, fun hx => ?_⟩
  obtain ⟨ad, e, hF, hc⟩ := h.2.2 (fun e => hx (by rw [e]; simp))
  refine ⟨ad, e, hF, fun j x hj => hc j x ?_⟩
  rw [List.getElem?_take] at hj
  split at hj
  · exact hj
  · cases hj
/-- .. without the first k. -/
theorem Kind.Row.drop {ad : Addr} (h : d.Row w F (some ad) c ys) (k : Nat) (hk : k ≤ ys.length) : d.Row w F (some (ad.add (k * d.sz))) (c - k) (ys.drop k) := by
  have h1 := h.1
  have h2 := h.2.1
  refine ⟨by simp; omega, by omega, fun hx => ?_⟩
  obtain ⟨ad', e, hF, hc⟩ := h.2.2 (fun e => hx (by rw [e]; simp))
  obtain rfl : ad = ad' := by injection e
  refine ⟨_, rfl, by rw [add_block]; exact hF, fun j x hj => ?_⟩
  rw [List.getElem?_drop] at hj
  obtain ⟨cs, hK, hcell⟩ := hc _ _ hj
  refine ⟨cs, hK, fun i v hv => ?_⟩
  rw [add_add, ← Nat.add_assoc, ← Nat.add_mul]
  exact hcell i v hv
/-- A row without elements may lie anywhere. -/
theorem Kind.Row.drop_end {ad ad' : Addr} {c' : Nat} (hc : c' ≤ 9223372036854775807) (k : Nat) (hk : ys.length ≤ k) : d.Row w F (some ad') c' (ys.drop k) := by
  rw [List.drop_of_length_le hk]
  exact Kind.Row.nil _ _ hc
end

theorem own_from {v v1 : Value} {n m : Nat} (ho : v1.ownBlock = v.ownBlock ∨ ∃ b, v1.ownBlock = some b ∧ n ≤ b) (hv : ∀ k, v.ownBlock = some k → m ≤ k) (hmn : m ≤ n) : ∀ k, v1.ownBlock = some k → m ≤ k := by
  intro k hk
  rcases ho with h | ⟨b, h, hb⟩
  · exact hv k (by rw [← h]; exact hk)
  · rw [h] at hk; injection hk with hk; omega
theorem own_lit {g n c : Nat} : ∀ k, (Value.slice (some ⟨g, 0, none⟩) n c).ownBlock = some k → g ≤ k := by
  intro k h; simp [Value.ownBlock] at h; omega
/-- Where xs[l:] lies. -/
def cutAddr (A : Option Addr) (l m s : Nat) : Option Addr := if m = l then A else A.map (·.add (l * s))
theorem Kind.Row.cut {α : Type} {d : Kind α} {w : World} {F : Nat → Prop} {A : Option Addr} {c : Nat} {ys : List α} (h : d.Row w F A c ys) (k : Nat) (hk : k ≤ ys.length) : d.Row w F (cutAddr A k c d.sz) (c - k) (ys.drop k) := by
  have h1 := h.1
  have h2 := h.2.1
  by_cases he : k = ys.length
  · rw [List.drop_of_length_le (by omega)]
    exact Kind.Row.nil _ _ (by omega)
  · have hne : ys ≠ [] := by rintro rfl; simp at hk; simp at he; omega
    obtain ⟨ad, rfl, _⟩ := h.2.2 hne
    have : cutAddr (some ad) k c d.sz = some (ad.add (k * d.sz)) := by
      unfold cutAddr
      rw [if_neg (by omega)]
      rfl
    rw [this]
    exact h.drop k hk
theorem run_cut {P : Program} {t e : TypeId} {z : Value} {s b : Nat} (ht : P.underlying t = some (.slice e)) (hinfo : (P.info? e).map (fun i => (i.zero, i.size, i.bytes)) = some (some z, s, b)) (A : Option Addr) (n cap l : Nat) (L : Int) (hL : L = (l : Int)) (hl : l ≤ n) (w : World) :
    (Instr.slice t (.slice A n cap) (some (.int .i64 L)) none none).run P w = .ok (.slice (cutAddr A l cap s) (n - l) (cap - l)) w := by
  subst hL
  obtain ⟨i, hi, _, hs, _⟩ := info_of hinfo
  have he : P.elem t = e := by simp [Program.elem, ht]
  rw [run_slice_l (P := P) (w := w) t A n cap (by rw [he]; exact ht) .i64 (l : Int) (by omega) (by omega)]
  rw [he]
  simp [sizeOf, typeInfo, hi, hs, sliced, cutAddr, Result.andThen]

theorem run_cuth {P : Program} {t e : TypeId} {z : Value} {s b : Nat} (ht : P.underlying t = some (.slice e)) (hinfo : (P.info? e).map (fun i => (i.zero, i.size, i.bytes)) = some (some z, s, b)) (A : Option Addr) (n cap l : Nat) (L : Int) (hL : L = (l : Int)) (hl : l ≤ cap) (w : World) :
    (Instr.slice t (.slice A n cap) none (some (.int .i64 L)) none).run P w = .ok (.slice A l cap) w := by
  subst hL
  obtain ⟨i, hi, _, hs, _⟩ := info_of hinfo
  have he : P.elem t = e := by simp [Program.elem, ht]
  rw [run_slice_h (P := P) (w := w) t A n cap (by rw [he]; exact ht) .i64 (l : Int) (by omega) (by omega)]
  rw [he]
  by_cases hc : cap = 0
  · subst hc; simp [sizeOf, typeInfo, hi, hs, sliced, Result.andThen]
  · simp [sizeOf, typeInfo, hi, hs, sliced, Result.andThen, hc]
    cases A with
    | none => rfl
    | some ad => simp [Addr.add]

section
variable {α : Type} {d : Kind α} {e : TypeId} {w : World} {P : Nat → Prop} {v : Value} {xs : List α}
theorem AppP.addAll {W w1 : World} {v1 : Value} {ys : List α} {news inner : List Value} {F G : Nat → Prop} (ho : W.ownsRow 0 e d.sz v xs.length inner)
    (hF : ∀ b, F b → P b ∧ b < W.heap.size ∧ v.ownBlock ≠ some b) (hE : ∀ j x, xs[j]? = some x → ∃ cs, d.K W F x cs ∧ ∀ i u, cs[i]? = some u → inner[j * d.sz + i]? = some u)
    (hN : ∀ j x, ys[j]? = some x → ∃ cs, d.K W G x cs ∧ ∀ i u, cs[i]? = some u → news[j * d.sz + i]? = some u) (hG : ∀ b, G b → P b ∧ b < W.heap.size ∧ v.ownBlock ≠ some b)
    (hown : w1.ownsRow 0 e d.sz v1 (xs.length + ys.length) (inner ++ news)) (hg : Chg (fun b => v.ownBlock = some b) W w1)
    (hP : ∀ k, v.ownBlock = some k → P k) (hnew : ∀ b, W.heap.size ≤ b → P b)
    (hat : v1.ownBlock = v.ownBlock ∨ ∃ b, v1.ownBlock = some b ∧ W.heap.size ≤ b) : AppP d e w1 P v1 (xs ++ ys) := by
  have hin : inner.length = xs.length * d.sz := ho.1
  have hne : ∀ b, b < W.heap.size → v.ownBlock ≠ some b → v1.ownBlock ≠ some b := by
    intro b hb hn
    rcases hat with h | ⟨k, hk, hle⟩
    · rw [h]; exact hn
    · rw [hk]; intro h; injection h with h; omega
  refine ⟨fun b => F b ∨ G b, inner ++ news, by simpa using hown, ?_, ?_, ?_⟩
  · intro k hk
    rcases hat with h | ⟨k', hk', hle⟩
    · exact hP k (by rw [← h]; exact hk)
    · rw [hk'] at hk
      injection hk with hk
      exact hnew k (by omega)
  · rintro b (hb | hb)
    · obtain ⟨h1, h2, h3⟩ := hF b hb
      exact ⟨h1, Nat.lt_of_lt_of_le h2 hg.size, hne b h2 h3⟩
    · obtain ⟨h1, h2, h3⟩ := hG b hb
      exact ⟨h1, Nat.lt_of_lt_of_le h2 hg.size, hne b h2 h3⟩
  · intro j x hj
    by_cases hjl : j < xs.length
    · rw [List.getElem?_append_left hjl] at hj
      obtain ⟨ds, hK, hc⟩ := hE j x hj
      refine ⟨ds, d.mono (fun b hb => .inl hb) (d.keep (hg.same (fun b hlt hb => (hF b hb).2.2)) hK), fun i u hu => ?_⟩
      have hil : i < d.sz := by rw [← d.len hK]; exact (List.getElem?_eq_some_iff.1 hu).1
      have : j * d.sz + d.sz ≤ xs.length * d.sz := by rw [← Nat.succ_mul]; exact Nat.mul_le_mul_right _ hjl
      rw [List.getElem?_append_left (by omega)]
      exact hc i u hu
    · rw [List.getElem?_append_right (by omega)] at hj
      obtain ⟨ds, hK, hc⟩ := hN _ x hj
      refine ⟨ds, d.mono (fun b hb => .inr hb) (d.keep (hg.same (fun b hlt hb => (hG b hb).2.2)) hK), fun i u hu => ?_⟩
      have hsub : (j - xs.length) * d.sz = j * d.sz - xs.length * d.sz := Nat.sub_mul _ _ _
      have hle : xs.length * d.sz ≤ j * d.sz := Nat.mul_le_mul_right _ (by omega)
      have := hc i u hu
      rw [List.getElem?_append_right (by omega), hin]
      rw [hsub] at this
      rw [show j * d.sz + i - xs.length * d.sz = j * d.sz - xs.length * d.sz + i by omega]
      exact this
end

theorem App.litD {α : Type} (d : Kind α) (e : TypeId) (w : World) (base : Nat) (hb : base ≤ w.heap.size) : App d e (w.alloc (.cells #[] e)).drew base (.slice (some ⟨w.heap.size, 0, none⟩) 0 0) [] :=
  AppP.chg (App.lit d e w base hb) (G := fun _ => False) (Chg.refl _ _).drew (fun _ _ _ h => h)
section
variable {P : Program} {ops : Array Oper} {rest : List Oper} {o : Oper} {a : Act} {Q : Exit → Act → World → Prop} {α : Type}
theorem run_append_own_nil {w : World} (base : Nat) (t ty e : TypeId) (i : TypeInfo) (size c : Nat) (ht : P.underlying t = some (.slice e)) (hi : P.info? e = some i)
    (v : Value) (n : Nat) (xs : List Value) (hown : w.ownsRow base e size v n xs) :
    (Builtin.append_ #[t, t] ty #[v, .slice none 0 c]).run P w = .ok v w := by
  rcases hown.2 with ⟨rfl, rfl⟩ | ⟨g, cap, cur, rfl, _, _, hnc, _⟩
  · simp [Builtin.append_, run_underlying ht, sizeOf, typeInfo, hi, Builtin.lenOf, Builtin.firstCells]
  · simp [Builtin.append_, run_underlying ht, sizeOf, typeInfo, hi, Builtin.lenOf, Builtin.firstCells, hnc, storeCells]
/-- The run of append(v, ys...). -/
theorem run_appN (d : Kind α) {e : TypeId} {W : World} {R : Nat → Prop} {v : Value} {xs ys : List α} (HO : AppP d e W R v xs) (t ty : TypeId) (z : Value) (bytes : Nat)
    (ht : P.underlying t = some (.slice e)) (hinfo : (P.info? e).map (fun i => (i.zero, i.size, i.bytes)) = some (some z, d.sz, bytes)) (hz : z.cells.size = d.sz)
    (hb : d.Bnd) (h1 : d.One) {A : Option Addr} {c : Nat} {G : Nat → Prop} (hy : d.Row W G A c ys) (hG : ∀ b, b < W.heap.size → G b → R b ∧ v.ownBlock ≠ some b)
    (hnew : ∀ b, W.heap.size ≤ b → R b) (h63 : xs.length + ys.length ≤ 1099511627776) (hl : (xs.length + ys.length) * bytes ≤ 140737488355328) :
    ∃ v1 w1, (Builtin.append_ #[t, t] ty #[v, .slice A ys.length c]).run P W = .ok v1 w1 ∧ AppP d e w1 R v1 (xs ++ ys) ∧ Chg (fun b => v.ownBlock = some b) W w1 ∧ (v1.ownBlock = v.ownBlock ∨ ∃ b, v1.ownBlock = some b ∧ W.heap.size ≤ b) := by
  have HO' := HO
  obtain ⟨F, inner, hown, hP, hF, hE⟩ := HO
  obtain ⟨i0, hi, hz0, hz1, hz2⟩ := info_of hinfo
  cases A with
  | none =>
    have hnil : ys = [] := Classical.byContradiction fun hx => by
      obtain ⟨ad, e, _⟩ := hy.2.2 hx
      cases e
    subst hnil
    exact ⟨v, W, run_append_own_nil (P := P) 0 t ty e i0 d.sz c ht hi v _ inner hown, by simpa using HO', Chg.refl _ _, .inl rfl⟩
  | some ad =>
    have hyb := hy.bound hb
    obtain ⟨news, hn1, hn2, hn3, hn4⟩ := hyb.flat ys.length (Nat.le_refl _)
    obtain ⟨v', w', hrun, h2, h3, _, h5⟩ := run_append_own_at (P := P) W 0 t ty e i0 z d.sz bytes ht hi hz0 hz1 hz2 hz hb.1 v xs.length inner hown ad ys.length c news hn1 hn2
      (fun u hu => by obtain ⟨x, cs, hK, hm⟩ := hn4 u hu; exact h1 _ _ _ _ hK u hm) (by simp only [maxLen]; omega) hl (by simp)
    have hg : Chg (fun b => v.ownBlock = some b) W w' := ⟨h3.os, h3.tape, h3.output, h3.size, fun b hb hn => h3.block b hb (fun e => hn e.symm)⟩
    refine ⟨v', w', hrun, AppP.addAll (G := fun b => G b ∧ b < W.heap.size) hown hF hE (fun j x hj => hn3 j x (List.getElem?_eq_some_iff.1 hj).1 hj) (fun b hb => ⟨(hG b hb.2 hb.1).1, hb.2, (hG b hb.2 hb.1).2⟩) h2 hg hP hnew ?_, hg, ?_⟩
    all_goals
      rcases h5 with h5 | h5
      · exact .inl h5
      · exact .inr ⟨_, h5, Nat.le_refl _⟩
/-- append(v, ys...), behind 'at_builtin'. -/
theorem below_drewN (w : World) (n : Nat) : Below w.heap.size w (w.drewN n) := ⟨rfl, rfl, rfl, Nat.le_refl _, fun _ _ => rfl⟩
theorem wpList_appN (d : Kind α) {e : TypeId} {W : World} {R : Nat → Prop} {v : Value} {xs ys : List α} (HO : AppP d e W R v xs) (hgd : o.guard = none) (s x : Operand) (t : TypeId) (z : Value) (bytes : Nat)
    (ho : o.op = .call { callee := .builtin .append, args := #[s, x], argTypes := #[t, t] })
    (ht : P.underlying t = some (.slice e)) (hinfo : (P.info? e).map (fun i => (i.zero, i.size, i.bytes)) = some (some z, d.sz, bytes)) (hz : z.cells.size = d.sz)
    (hb : d.Bnd) (h1 : d.One) {A : Option Addr} {c n : Nat} {G : Nat → Prop} (hs : a.eval s = v) (hx : a.eval x = .slice A n c) (hn : ys.length = n) (hy : d.Row W G A c ys) (hG : ∀ b, b < W.heap.size → G b → R b ∧ v.ownBlock ≠ some b)
    (hnew : ∀ b, W.heap.size ≤ b → R b) (h63 : xs.length + ys.length ≤ 1099511627776) (hl : (xs.length + ys.length) * bytes ≤ 140737488355328)
    (h : ∀ v1 w1, AppP d e w1 R v1 (xs ++ ys) → Chg (fun b => v.ownBlock = some b) W w1 → (v1.ownBlock = v.ownBlock ∨ ∃ b, v1.ownBlock = some b ∧ W.heap.size ≤ b) → wpList P ops Q rest (a.put o.dst v1) w1) :
    wpList P ops Q (o :: rest) a W := by
  subst hn
  obtain ⟨v1, w1, hrun, h2, h3, h4⟩ := run_appN (P := P) d HO t o.type z bytes ht hinfo hz hb h1 hy hG hnew h63 hl
  refine wpList_plain hgd fun K hK => ?_
  unfold Oper.wp execOp
  simp only [ho, resolve, invoke, builtin, Sem.run_bind, Sem.run_pure, Result.andThen_ok, List.map_toArray, List.map_cons, List.map_nil, hs, hx, hrun]
  exact hK _ _ (h v1 w1 h2 h3 h4)
/-- .. at a step of a region that draws. -/
theorem step_appN (d : Kind α) {e : TypeId} {W : World} {R : Nat → Prop} {v : Value} {xs ys : List α} {K : Act → World → Prop} {E : Prop} (HO : AppP d e W R v xs) (hgd : o.guard = none) (s x : Operand) (t : TypeId) (z : Value) (bytes : Nat)
    (ho : o.op = .call { callee := .builtin .append, args := #[s, x], argTypes := #[t, t] })
    (ht : P.underlying t = some (.slice e)) (hinfo : (P.info? e).map (fun i => (i.zero, i.size, i.bytes)) = some (some z, d.sz, bytes)) (hz : z.cells.size = d.sz)
    (hb : d.Bnd) (h1 : d.One) {A : Option Addr} {c n : Nat} {G : Nat → Prop} (hs : a.eval s = v) (hx : a.eval x = .slice A n c) (hn : ys.length = n) (hy : d.Row W G A c ys) (hG : ∀ b, b < W.heap.size → G b → R b ∧ v.ownBlock ≠ some b)
    (hnew : ∀ b, W.heap.size ≤ b → R b) (h63 : xs.length + ys.length ≤ 1099511627776) (hl : (xs.length + ys.length) * bytes ≤ 140737488355328)
    (h : ∀ v1 w1, AppP d e w1 R v1 (xs ++ ys) → Chg (fun b => v.ownBlock = some b) W w1 → (v1.ownBlock = v.ownBlock ∨ ∃ b, v1.ownBlock = some b ∧ W.heap.size ≤ b) → K (a.put o.dst v1) w1) :
    if Region.wanted o (yielded ops a.tmps) = true then Oper.wp P o a W K Q else E := by
  subst hn
  have hw : Region.wanted o (yielded ops a.tmps) = true := by simp [Region.wanted, hgd]
  rw [if_pos hw]
  obtain ⟨v1, w1, hrun, h2, h3, h4⟩ := run_appN (P := P) d HO t o.type z bytes ht hinfo hz hb h1 hy hG hnew h63 hl
  unfold Oper.wp execOp
  simp only [ho, resolve, invoke, builtin, Sem.run_bind, Sem.run_pure, Result.andThen_ok, List.map_toArray, List.map_cons, List.map_nil, hs, hx, hrun]
  exact h v1 w1 h2 h3 h4
end
end

section
open Go.RowKit

def Kind.Flat {α : Type} (d : Kind α) : Prop := ∀ (w : World) (F F' : Nat → Prop) (x : α) (cs : List Value), d.K w F x cs → d.K w F' x cs
theorem flat_int (k : IntKind) : (Kind.int k).Flat := fun _ _ _ _ _ h => h
theorem flat_ent : Kind.ent.Flat := fun _ _ _ _ _ h => h
section
variable {P : Program} {ops : Array Oper} {rest : List Oper} {o : Oper} {a : Act} {Q : Exit → Act → World → Prop} {α : Type}
theorem run_appF (d : Kind α) {e : TypeId} {W : World} {R : Nat → Prop} {v : Value} {xs ys : List α} (HO : AppP d e W R v xs) (t ty : TypeId) (z : Value) (bytes : Nat)
    (ht : P.underlying t = some (.slice e)) (hinfo : (P.info? e).map (fun i => (i.zero, i.size, i.bytes)) = some (some z, d.sz, bytes)) (hz : z.cells.size = d.sz)
    (hb : d.Bnd) (h1 : d.One) (hfl : d.Flat) {A : Option Addr} {c : Nat} {G : Nat → Prop} (hy : d.Row W G A c ys)
    (hnew : ∀ b, W.heap.size ≤ b → R b) (h63 : xs.length + ys.length ≤ 1099511627776) (hl : (xs.length + ys.length) * bytes ≤ 140737488355328) :
    ∃ v1 w1, (Builtin.append_ #[t, t] ty #[v, .slice A ys.length c]).run P W = .ok v1 w1 ∧ AppP d e w1 R v1 (xs ++ ys) ∧ Chg (fun b => v.ownBlock = some b) W w1 ∧ (v1.ownBlock = v.ownBlock ∨ ∃ b, v1.ownBlock = some b ∧ W.heap.size ≤ b) := by
  have HO' := HO
  obtain ⟨F, inner, hown, hP, hF, hE⟩ := HO
  obtain ⟨i0, hi, hz0, hz1, hz2⟩ := info_of hinfo
  cases A with
  | none =>
    have hnil : ys = [] := Classical.byContradiction fun hx => by
      obtain ⟨ad, e, _⟩ := hy.2.2 hx
      cases e
    subst hnil
    exact ⟨v, W, run_append_own_nil (P := P) 0 t ty e i0 d.sz c ht hi v _ inner hown, by simpa using HO', Chg.refl _ _, .inl rfl⟩
  | some ad =>
    obtain ⟨news, hn1, hn2, hn3, hn4⟩ := hy.flat ys.length (Nat.le_refl _)
    obtain ⟨v', w', hrun, h2, h3, _, h5⟩ := run_append_own_at (P := P) W 0 t ty e i0 z d.sz bytes ht hi hz0 hz1 hz2 hz hb.1 v xs.length inner hown ad ys.length c news hn1 hn2
      (fun u hu => by obtain ⟨x, cs, hK, hm⟩ := hn4 u hu; exact h1 _ _ _ _ hK u hm) (by simp only [maxLen]; omega) hl (by simp)
    have hg : Chg (fun b => v.ownBlock = some b) W w' := ⟨h3.os, h3.tape, h3.output, h3.size, fun b hb hn => h3.block b hb (fun e => hn e.symm)⟩
    refine ⟨v', w', hrun, AppP.addAll (G := fun _ => False) hown hF hE (fun j x hj => by
      obtain ⟨cs, hK, hc⟩ := hn3 j x (List.getElem?_eq_some_iff.1 hj).1 hj
      exact ⟨cs, hfl _ _ _ _ _ hK, hc⟩) (fun b hb => hb.elim) h2 hg hP hnew ?_, hg, ?_⟩
    all_goals
      rcases h5 with h5 | h5
      · exact .inl h5
      · exact .inr ⟨_, h5, Nat.le_refl _⟩
theorem wpList_appF (d : Kind α) {e : TypeId} {W : World} {R : Nat → Prop} {v : Value} {xs ys : List α} (HO : AppP d e W R v xs) (hgd : o.guard = none) (s x : Operand) (t : TypeId) (z : Value) (bytes : Nat)
    (ho : o.op = .call { callee := .builtin .append, args := #[s, x], argTypes := #[t, t] })
    (ht : P.underlying t = some (.slice e)) (hinfo : (P.info? e).map (fun i => (i.zero, i.size, i.bytes)) = some (some z, d.sz, bytes)) (hz : z.cells.size = d.sz)
    (hb : d.Bnd) (h1 : d.One) (hfl : d.Flat) {A : Option Addr} {c n : Nat} {G : Nat → Prop} (hs : a.eval s = v) (hx : a.eval x = .slice A n c) (hn : ys.length = n) (hy : d.Row W G A c ys)
    (hnew : ∀ b, W.heap.size ≤ b → R b) (h63 : xs.length + ys.length ≤ 1099511627776) (hl : (xs.length + ys.length) * bytes ≤ 140737488355328)
    (h : ∀ v1 w1, AppP d e w1 R v1 (xs ++ ys) → Chg (fun b => v.ownBlock = some b) W w1 → (v1.ownBlock = v.ownBlock ∨ ∃ b, v1.ownBlock = some b ∧ W.heap.size ≤ b) → wpList P ops Q rest (a.put o.dst v1) w1) :
    wpList P ops Q (o :: rest) a W := by
  subst hn
  obtain ⟨v1, w1, hrun, h2, h3, h4⟩ := run_appF (P := P) d HO t o.type z bytes ht hinfo hz hb h1 hfl hy hnew h63 hl
  refine wpList_plain hgd fun K hK => ?_
  unfold Oper.wp execOp
  simp only [ho, resolve, invoke, builtin, Sem.run_bind, Sem.run_pure, Result.andThen_ok, List.map_toArray, List.map_cons, List.map_nil, hs, hx, hrun]
  exact hK _ _ (h v1 w1 h2 h3 h4)
theorem step_appF (d : Kind α) {e : TypeId} {W : World} {R : Nat → Prop} {v : Value} {xs ys : List α} {K : Act → World → Prop} {E : Prop} (HO : AppP d e W R v xs) (hgd : o.guard = none) (s x : Operand) (t : TypeId) (z : Value) (bytes : Nat)
    (ho : o.op = .call { callee := .builtin .append, args := #[s, x], argTypes := #[t, t] })
    (ht : P.underlying t = some (.slice e)) (hinfo : (P.info? e).map (fun i => (i.zero, i.size, i.bytes)) = some (some z, d.sz, bytes)) (hz : z.cells.size = d.sz)
    (hb : d.Bnd) (h1 : d.One) (hfl : d.Flat) {A : Option Addr} {c n : Nat} {G : Nat → Prop} (hs : a.eval s = v) (hx : a.eval x = .slice A n c) (hn : ys.length = n) (hy : d.Row W G A c ys)
    (hnew : ∀ b, W.heap.size ≤ b → R b) (h63 : xs.length + ys.length ≤ 1099511627776) (hl : (xs.length + ys.length) * bytes ≤ 140737488355328)
    (h : ∀ v1 w1, AppP d e w1 R v1 (xs ++ ys) → Chg (fun b => v.ownBlock = some b) W w1 → (v1.ownBlock = v.ownBlock ∨ ∃ b, v1.ownBlock = some b ∧ W.heap.size ≤ b) → K (a.put o.dst v1) w1) :
    if Region.wanted o (yielded ops a.tmps) = true then Oper.wp P o a W K Q else E := by
  subst hn
  have hw : Region.wanted o (yielded ops a.tmps) = true := by simp [Region.wanted, hgd]
  rw [if_pos hw]
  obtain ⟨v1, w1, hrun, h2, h3, h4⟩ := run_appF (P := P) d HO t o.type z bytes ht hinfo hz hb h1 hfl hy hnew h63 hl
  unfold Oper.wp execOp
  simp only [ho, resolve, invoke, builtin, Sem.run_bind, Sem.run_pure, Result.andThen_ok, List.map_toArray, List.map_cons, List.map_nil, hs, hx, hrun]
  exact h v1 w1 h2 h3 h4
end
end

section
open Go.RowKit

/-- The own row's block, and its elements. -/
theorem AppP.own {α : Type} {d : Kind α} {e : TypeId} {w : World} {P : Nat → Prop} {v : Value} {xs : List α} (h : AppP d e w P v xs) (hn : 0 < xs.length) :
    ∃ gq cap cur, v = .slice (some ⟨gq, 0, none⟩) xs.length cap ∧ P gq ∧ w.heap[gq]? = some (.cells cur e (0, 0)) ∧ cur.size = cap * d.sz ∧ xs.length ≤ cap ∧ cap ≤ 9223372036854775807 ∧
      ∀ j x, xs[j]? = some x → ∃ cs, d.K w (fun b => P b ∧ b ≠ gq) x cs ∧ ∀ i u, cs[i]? = some u → w.cell? ⟨gq, j * d.sz + i, none⟩ = some u := by
  obtain ⟨F, inner, ho, hP, hF, hE⟩ := h
  rcases id ho.2 with ⟨_, h0⟩ | ⟨gq, cap, cur, rfl, hg, hh, h1, h2, h3, h4⟩
  · omega
  · refine ⟨gq, cap, cur, rfl, hP gq rfl, hh, h3, h1, by unfold maxLen at h2; omega, fun j x hj => ?_⟩
    obtain ⟨cs, hK, hc⟩ := hE j x hj
    refine ⟨cs, d.mono (fun b hb => ⟨(hF b hb).1, fun h => (hF b hb).2.2 (by subst h; rfl)⟩) hK, fun i u hu => ?_⟩
    have := ho.cells (g := gq) rfl _ _ (hc i u hu)
    have hadd : (⟨gq, 0, none⟩ : Addr).add (j * d.sz + i) = ⟨gq, j * d.sz + i, none⟩ := by unfold Addr.add; split <;> simp_all
    rw [hadd] at this
    exact this
/-- .. with another element at place q. -/
theorem own_set {α : Type} {d : Kind α} {w : World} {P : Nat → Prop} {xs : List α} {gq cap q : Nat} {x : α} {cs : List Value} (hg : P gq) (hl : xs.length ≤ cap) (hc : cap ≤ 9223372036854775807)
    (hE : ∀ j x, xs[j]? = some x → ∃ cs, d.K w (fun b => P b ∧ b ≠ gq) x cs ∧ ∀ i u, cs[i]? = some u → w.cell? ⟨gq, j * d.sz + i, none⟩ = some u) (hq : q < xs.length) (hK : d.K w (fun b => P b ∧ b ≠ gq) x cs) :
    d.Row (w.setCells gq (q * d.sz) cs) P (some ⟨gq, 0, none⟩) cap (xs.set q x) := by
  have hcl := d.len hK
  have cF : Chg (fun b => b = gq) w (w.setCells gq (q * d.sz) cs) := Chg.setCells (fun b => b = gq) rfl cs _ w
  have hin : ∀ j, j < cs.length → (w.cell? ⟨gq, q * d.sz + j, none⟩).isSome = true := by
    intro j hj
    obtain ⟨ds, hK', h'⟩ := hE q _ (List.getElem?_eq_getElem hq)
    have hj' : j < ds.length := by rw [d.len hK', ← hcl]; exact hj
    rw [h' j _ (List.getElem?_eq_getElem hj')]
    rfl
  refine ⟨by simpa using hl, hc, fun _ => ⟨_, rfl, hg, fun j y hj => ?_⟩⟩
  have hadd : ∀ m, (⟨gq, 0, none⟩ : Addr).add m = ⟨gq, m, none⟩ := by intro m; unfold Addr.add; split <;> simp_all
  by_cases hjq : j = q
  · subst hjq
    have : y = x := by simpa [hq] using hj.symm
    subst this
    refine ⟨cs, d.mono (fun b h => h.1) (d.keep (cF.same (fun i _ h1 h2 => h1.2 h2)) hK), fun i u hu => ?_⟩
    rw [hadd]
    have hi := (List.getElem?_eq_some_iff.1 hu).1
    have := World.cell?_setCells_in gq cs (j * d.sz) w hin i hi
    rw [this]
    exact hu ▸ (List.getElem?_eq_getElem hi).symm
  · rw [List.getElem?_set_ne (fun h => hjq h.symm)] at hj
    obtain ⟨ds, hK', h'⟩ := hE j y hj
    refine ⟨ds, d.mono (fun b h => h.1) (d.keep (cF.same (fun i _ h1 h2 => h1.2 h2)) hK'), fun i u hu => ?_⟩
    rw [hadd, World.cell?_setCells_out gq cs _ w _ (fun _ _ => ?_)]
    · exact h' i u hu
    · have hi : i < d.sz := by rw [← d.len hK']; exact (List.getElem?_eq_some_iff.1 hu).1
      rcases Nat.lt_or_gt_of_ne hjq with h | h
      · left
        have : j * d.sz + d.sz ≤ q * d.sz := by rw [← Nat.succ_mul]; exact Nat.mul_le_mul_right _ h
        show j * d.sz + i < q * d.sz
        omega
      · right
        have : q * d.sz + d.sz ≤ j * d.sz := by rw [← Nat.succ_mul]; exact Nat.mul_le_mul_right _ h
        show q * d.sz + cs.length ≤ j * d.sz + i
        omega
/-- A store of what is there. -/
theorem setCell_self {w : World} {g i : Nat} {t : TypeId} {cs : Array Value} {u : Value} (h : w.heap[g]? = some (.cells cs t (0, 0))) (hu : cs[i]? = some u) : w.setCell ⟨g, i, none⟩ u = w := by
  have hc : cs.setIfInBounds i u = cs := by
    apply Array.ext
    · simp
    · intro j h1 h2
      rw [Array.getElem_setIfInBounds]
      split
      · rename_i e
        subst e
        exact (Array.getElem?_eq_some_iff.1 hu).2.symm
      · rfl
  have hm : (w.setCell ⟨g, i, none⟩ u).heap = w.heap := by
    apply Array.ext_getElem?
    intro j
    by_cases hj : j = g
    · subst hj
      rw [blk_put h, hc, h]
    · exact Below.heap_setCell w ⟨g, i, none⟩ u j hj
  have hd : w.setCell ⟨g, i, none⟩ u = { w with heap := (w.setCell ⟨g, i, none⟩ u).heap } := rfl
  rw [hd, hm]
theorem cell_arr {w : World} {g i : Nat} {t : TypeId} {cs : Array Value} {u : Value} (h : w.heap[g]? = some (.cells cs t (0, 0))) (hu : w.cell? ⟨g, i, none⟩ = some u) : cs[i]? = some u := by
  simpa [World.cell?, h] using hu
end

section
open Go.RowKit

theorem madeCells_int (n : Nat) : madeCells (Value.int .i64 0).cells (n * 1) = ((List.replicate n (0 : Int)).map (Value.int .i64)).toArray := by
  apply Array.ext
  · simp [madeCells]
  · intro i h1 h2
    simp [madeCells, Value.cells, Nat.mod_one]
/-- make([]int, n). -/
theorem make_ints {P : Program} (t e : TypeId) (ht : P.underlying t = some (.slice e)) (hinfo : (P.info? e).map (fun i => (i.zero, i.size, i.bytes)) = some (some (.int .i64 0), 1, 8))
    (n : Nat) (hn : n ≤ 1048576) (N : Int) (hN : N = n) :
    ∀ w : World, (Instr.makeSlice t (.int .i64 N) (.int .i64 N)).run P w = .ok (.slice (some ⟨w.heap.size, 0, none⟩) n n) (w.alloc (.cells ((List.replicate n (0 : Int)).map (Value.int .i64)).toArray e)) := by
  subst hN
  obtain ⟨i, hi, hz0, hs, hb⟩ := info_of hinfo
  intro w
  have h : (i.bytes : Int) * (n : Int) ≤ 281474976710656 := by rw [hb]; omega
  have hr := run_make (P := P) w t e i _ ht hi hz0 .i64 .i64 n n (by omega) (by omega) h (by omega)
  simp only [Int.toNat_natCast] at hr
  rw [hr, hs, madeCells_int]
/-- The row of a new block of numbers. -/
theorem App.ints (e : TypeId) (w : World) (base : Nat) (hb : base ≤ w.heap.size) (xs : List Int) (hn : xs.length ≤ 1099511627776) :
    App (Kind.int .i64) e (w.alloc (.cells (xs.map (Value.int .i64)).toArray e)) base (.slice (some ⟨w.heap.size, 0, none⟩) xs.length xs.length) xs := by
  have ho : (w.alloc (.cells (xs.map (Value.int .i64)).toArray e)).ownsRow 0 e 1 (.slice (some ⟨w.heap.size, 0, none⟩) xs.length xs.length) xs.length (xs.map (Value.int .i64)) :=
    ⟨by simp, .inr ⟨w.heap.size, xs.length, _, rfl, Nat.zero_le _, heap_alloc_new w _, Nat.le_refl _, by simp only [maxLen]; omega, by simp, by rw [show (List.map (Value.int .i64) xs).toArray.toList = List.map (Value.int .i64) xs from rfl, List.take_of_length_le (by simp)]⟩⟩
  refine ⟨fun _ => False, xs.map (Value.int .i64), ho, fun k hk => by simp [Value.ownBlock] at hk; omega, fun b h => h.elim, fun j x hj => ?_⟩
  refine ⟨[.int .i64 x], rfl, fun i u hu => ?_⟩
  cases i with
  | zero =>
    simp at hu
    subst hu
    show (List.map (Value.int .i64) xs)[j * 1 + 0]? = _
    simp [hj]
  | succ i => simp at hu
/-- A store into an own row of numbers. -/
theorem App.put {e : TypeId} {w : World} {P : Nat → Prop} {v : Value} {xs : List Int} (h : AppP (Kind.int .i64) e w P v xs) {q : Nat} (hq : q < xs.length) :
    ∃ gq cap old, v = .slice (some ⟨gq, 0, none⟩) xs.length cap ∧ P gq ∧ gq < w.heap.size ∧ w.cell? ⟨gq, q, none⟩ = some (.int .i64 old) ∧ (∀ i, w.frozen? ⟨gq, i, none⟩ = false) ∧
      ∀ y : Int, Ints (w.setCell ⟨gq, q, none⟩ (.int .i64 y)) P (some ⟨gq, 0, none⟩) cap (xs.set q y) ∧ Chg (fun b => b = gq) w (w.setCell ⟨gq, q, none⟩ (.int .i64 y)) := by
  obtain ⟨gq, cap, cur, rfl, hP, hh, hcs, hlc, hc, hE⟩ := h.own (by omega)
  have hlt := (Array.getElem?_eq_some_iff.1 hh).1
  obtain ⟨cs, hK, hcell⟩ := hE q _ (List.getElem?_eq_getElem hq)
  have hK' : cs = [.int .i64 xs[q]] := hK
  subst hK'
  refine ⟨gq, cap, xs[q], rfl, hP, hlt, ?_, fun i => by simp [World.frozen?, hh], fun y => ⟨?_, Chg.set (fun b => b = gq) w (p := ⟨gq, q, none⟩) rfl _⟩⟩
  · have := hcell 0 _ rfl
    simpa [Kind.int] using this
  · have h0 := own_set (d := Kind.int .i64) (x := y) (cs := [.int .i64 y]) hP hlc hc hE hq rfl
    have e1 : w.setCells gq (q * (Kind.int .i64).sz) [.int .i64 y] = w.setCell ⟨gq, q, none⟩ (.int .i64 y) := by
      show w.setCells gq (q * 1) [.int .i64 y] = _
      rw [Nat.mul_one]
      rfl
    rw [e1] at h0
    exact h0
end

section
open Go.RowKit

theorem eqNilInts (W : World) (a : Option Addr) (n c n' c' : Nat) : (binOp .eql 32 (.slice a n c) (.slice none n' c')).run Tryd.prog W = .ok (.bool a.isNone) W := Lib.run_eql_slice_nil W _ _ a n c n' c' Tryd.underlying32
theorem Clone_any (xs : List Int) (A : Option Addr) (c : Nat) (F : Nat → Prop) (w : World) (h : Ints w F A c xs) (hsm : xs.length ≤ 1048576) :
    Calls Tryd.prog 26 #[.slice A xs.length c] w fun e w' => ∃ v, e = .returned v ∧ App (Kind.int .i64) 3 w' w.heap.size v xs ∧ Below w.heap.size w w' := by
  have hq := eqNilInts
  cases A with
  | none =>
    have hnil : xs = [] := Classical.byContradiction fun hx => by
      obtain ⟨ad, e, _⟩ := h.2.2 hx
      cases e
    subst hnil
    go_enter Tryd.func26, Tryd.ntmps26
    go_wp2
    go_ret
    exact ⟨_, rfl, AppP.nil _ _ _ _, Below.refl _ _⟩
  | some ad =>
    go_enter Tryd.func26, Tryd.ntmps26
    have hL := App.lit (Kind.int .i64) 3 w w.heap.size (Nat.le_refl _)
    have hh := h.below (bal w (.cells #[] 3))
    go_wp2_with (at_builtin; go_loud (refine wpList_appF (Kind.int .i64) (xs := []) (ys := xs) hL rfl _ _ 32 (.int .i64 0) 8 rfl Tryd.underlying32 (by kernel_rfl) rfl (bnd_int _) (onec_int _) (flat_int _) rfl rfl rfl hh (fun b hb => by simp at hb; omega) (by simp; omega) (by simp; omega) ?_))
    intro v1 w1 HA hc1 ho1
    have HA1 := Lib.hid HA
    have HB := Lib.hid ((bal w (.cells #[] 3)).trans (hc1.below (by simp) (fun i hi => own_lit _ hi)))
    clear HA hc1 ho1 hL hh
    go_wp2
    go_ret
    exact ⟨v1, rfl, by have := HA1.out; simpa using this, HB.out⟩

/-- A record's copy: its parts are its own, and apart. -/
structure Copied (w w' : World) (r : Rec) (vk vv : Value) : Prop where
  key : App (Kind.int .i64) 3 w' w.heap.size vk r.key
  val : App (Kind.int .i64) 3 w' w.heap.size vv r.val
  apart : ∀ g, vk.ownBlock = some g → vv.ownBlock ≠ some g
  below : Below w.heap.size w w'
theorem own_ge {α : Type} {d : Kind α} {e : TypeId} {w : World} {base : Nat} {v : Value} {xs : List α} (h : App d e w base v xs) : ∀ g, v.ownBlock = some g → base ≤ g := fun _ hg => AppP.ne h hg
theorem recB_small {r : Rec} (h : recB r = true) : r.key.length ≤ 12 ∧ r.val.length ≤ 12 := by
  simp only [recB, Bool.and_eq_true] at h
  have hp : ∀ (has : Bool) (l : List Int), partB has l = true → l.length ≤ 12 := by
    intro has l hl
    unfold partB at hl
    cases has
    · simp at hl; simp [hl]
    · simp at hl; exact hl.1
  exact ⟨hp _ _ h.1.2, hp _ _ h.2⟩
theorem AppP.keepOwn {α : Type} {d : Kind α} {e : TypeId} {w w' : World} {P : Nat → Prop} {v : Value} {xs : List α} (hfl : d.Flat) (h : AppP d e w P v xs) (hm : ∀ k, v.ownBlock = some k → w'.heap[k]? = w.heap[k]?) : AppP d e w' P v xs := by
  obtain ⟨F, inner, ho, hP, hF, hE⟩ := h
  refine ⟨fun _ => False, inner, own_moved ho hm, hP, fun b hb => hb.elim, fun j x hj => ?_⟩
  obtain ⟨cs, hK, hc⟩ := hE j x hj
  exact ⟨cs, d.keep (w := w) (w' := w') (F := fun _ => False) (fun b hb _ => hb.elim) (hfl _ _ _ _ _ hK), hc⟩
/-- The block of an own row holds cells. -/
theorem AppP.cells {α : Type} {d : Kind α} {e : TypeId} {w : World} {P : Nat → Prop} {v : Value} {xs : List α} (h : AppP d e w P v xs) {k : Nat} (hk : v.ownBlock = some k) : ∃ cs, w.heap[k]? = some (.cells cs e (0, 0)) := by
  obtain ⟨F, inner, ho, _, _, _⟩ := h
  rcases ho.2 with ⟨rfl, _⟩ | ⟨g, cap, cur, rfl, _, hh, _⟩
  · simp [Value.ownBlock] at hk
  · simp [Value.ownBlock] at hk
    subst hk
    exact ⟨cur, hh⟩
theorem Copied.from {w w1 w' : World} {r : Rec} {vk vv : Value} (h : Copied w1 w' r vk vv) (hb : Below w.heap.size w w1) : Copied w w' r vk vv :=
  ⟨App.from h.key hb.size, App.from h.val hb.size, h.apart, bthen hb h.below⟩
theorem Copied.chg {w a b : World} {r : Rec} {vk vv : Value} {g : Nat} (h : Copied w a r vk vv) (hc : Chg (fun i => i = g) a b) (hg : w.heap.size ≤ g) (hk : vk.ownBlock ≠ some g) (hv : vv.ownBlock ≠ some g) : Copied w b r vk vv :=
  ⟨AppP.keepOwn (flat_int _) h.key (fun k hk' => hc.block k (AppP.own_lt h.key hk') (fun (e : k = g) => hk (e ▸ hk'))), AppP.keepOwn (flat_int _) h.val (fun k hk' => hc.block k (AppP.own_lt h.val hk') (fun (e : k = g) => hv (e ▸ hk'))), h.apart, h.below.trans (hc.below h.below.size (fun i (hi : i = g) => by omega))⟩
def recOr (o : Option Rec) : Rec := o.getD Rec.zero
abbrev Rec.vals (r : Rec) (vk vv : Value) : Array Value := #[.int .i64 r.off, .int .i64 r.time, .bool r.hk, vk, .bool r.hv, vv]
theorem Copied.zero {w w' : World} (h : Below w.heap.size w w') : Copied w w' Rec.zero (.slice none 0 0) (.slice none 0 0) :=
  ⟨AppP.nil _ _ _ _, AppP.nil _ _ _ _, fun _ h => by simp [Value.ownBlock] at h, h⟩
end
end Go.Proofs.YtgnjnpfeofhniaaDoor
