/- Rows of a call's own memory: no two parts share a block. No program in sight. -/
import Derived.Test.YtfflhenldegmmaaKb
import Derived.Laws.IdiomCopy
namespace Go.Proofs.Ytfflhenldegmmaa
set_option linter.unusedVariables false
set_option linter.unusedSimpArgs false
open Go.RowKit

/-- w' is w but for the blocks of F and new ones. -/
structure Chg (F : Nat → Prop) (w w' : World) : Prop where
  os : w'.os = w.os
  tape : w'.tape = w.tape
  output : w'.output = w.output
  size : w.heap.size ≤ w'.heap.size
  block : ∀ b, b < w.heap.size → ¬ F b → w'.heap[b]? = w.heap[b]?
theorem Chg.refl (F : Nat → Prop) (w : World) : Chg F w w := ⟨rfl, rfl, rfl, Nat.le_refl _, fun _ _ _ => rfl⟩
theorem Chg.trans {F : Nat → Prop} {a b c : World} (h : Chg F a b) (k : Chg F b c) : Chg F a c :=
  ⟨k.os.trans h.os, k.tape.trans h.tape, k.output.trans h.output, Nat.le_trans h.size k.size, fun i hi hn => (k.block i (Nat.lt_of_lt_of_le hi h.size) hn).trans (h.block i hi hn)⟩
theorem Chg.mono {F F' : Nat → Prop} {a b : World} (h : Chg F a b) (hF : ∀ i, i < a.heap.size → F i → F' i) : Chg F' a b :=
  ⟨h.os, h.tape, h.output, h.size, fun i hi hn => h.block i hi (fun hf => hn (hF i hi hf))⟩
theorem Chg.of_below {F : Nat → Prop} {a b : World} (h : Below a.heap.size a b) : Chg F a b := ⟨h.os, h.tape, h.output, h.size, fun i hi _ => h.block i hi⟩
theorem Chg.below {F : Nat → Prop} {a b : World} {B : Nat} (h : Chg F a b) (hB : B ≤ a.heap.size) (hF : ∀ i, F i → B ≤ i) : Below B a b :=
  ⟨h.os, h.tape, h.output, h.size, fun i hi => h.block i (Nat.lt_of_lt_of_le hi hB) (fun hf => Nat.not_lt.2 (hF i hf) hi)⟩
theorem Chg.set (F : Nat → Prop) (w : World) {p : Addr} (hp : F p.block) (u : Value) : Chg F w (w.setCell p u) :=
  ⟨rfl, rfl, rfl, by simp, fun i _ hn => Below.heap_setCell w p u i (fun e => hn (e ▸ hp))⟩
theorem Chg.same {F G : Nat → Prop} {a b : World} (h : Chg F a b) (hd : ∀ i, i < a.heap.size → G i → ¬ F i) : Same G a b := fun i hi hlt => h.block i hlt (hd i hlt hi)
theorem Chg.cell {F : Nat → Prop} {a b : World} (h : Chg F a b) {p : Addr} {v : Value} (hc : a.cell? p = some v) (hn : ¬ F p.block) : b.cell? p = some v :=
  (World.cell?_of_block (h.block _ (cell_lt hc) hn)).trans hc
theorem Chg.setCells (F : Nat → Prop) {g : Nat} (hg : F g) : ∀ (vs : List Value) (o : Nat) (w : World), Chg F w (w.setCells g o vs)
  | [], _, w => Chg.refl F w
  | v :: r, o, w => (Chg.set F w (p := ⟨g, o, none⟩) hg v).trans (Chg.setCells F hg r (o + 1) _)

/-- A block of m cells, none frozen. -/
def Blk (w : World) (g : Nat) (e : TypeId) (m : Nat) : Prop := ∃ cs : Array Value, w.heap[g]? = some (.cells cs e (0, 0)) ∧ cs.size = m
theorem Blk.lt {w : World} {g : Nat} {e : TypeId} {m : Nat} (h : Blk w g e m) : g < w.heap.size := by
  obtain ⟨cs, hb, _⟩ := h
  exact (Array.getElem?_eq_some_iff.1 hb).1
theorem Blk.keep {w w' : World} {g : Nat} {e : TypeId} {m : Nat} (h : Blk w g e m) (hg : w'.heap[g]? = w.heap[g]?) : Blk w' g e m := by
  obtain ⟨cs, hb, hm⟩ := h
  exact ⟨cs, hg.trans hb, hm⟩
theorem Blk.frozen {w : World} {g : Nat} {e : TypeId} {m : Nat} (h : Blk w g e m) (i : Nat) : w.frozen? ⟨g, i, none⟩ = false := by
  obtain ⟨cs, hb, _⟩ := h
  simp [World.frozen?, hb]
theorem Blk.some {w : World} {g : Nat} {e : TypeId} {m i : Nat} (h : Blk w g e m) (hi : i < m) : ∃ v, w.cell? ⟨g, i, none⟩ = some v := by
  obtain ⟨cs, hb, rfl⟩ := h
  exact ⟨cs[i], by simp [World.cell?, hb, hi]⟩
theorem Blk.set {w : World} {g : Nat} {e : TypeId} {m : Nat} (h : Blk w g e m) (p : Addr) (u : Value) : Blk (w.setCell p u) g e m := by
  obtain ⟨cs, hb, hm⟩ := h
  by_cases hp : g = p.block
  · subst hp
    refine ⟨if p.spot.isSome then cs else cs.setIfInBounds p.off u, ?_, ?_⟩
    · simp [World.setCell, Array.getElem?_modify, hb]
    · split <;> simp [hm]
  · exact ⟨cs, (Below.heap_setCell w p u g hp).trans hb, hm⟩
theorem Blk.setCells {g : Nat} {e : TypeId} {m : Nat} (b : Nat) : ∀ (vs : List Value) (o : Nat) (w : World), Blk w g e m → Blk (w.setCells b o vs) g e m
  | [], _, _, h => h
  | _ :: r, o, _, h => Blk.setCells b r (o + 1) _ (h.set _ _)
theorem Blk.new (w : World) (cs : Array Value) (e : TypeId) : Blk (w.alloc (.cells cs e)) w.heap.size e cs.size := ⟨cs, heap_alloc_new w _, rfl⟩

structure XKind (α : Type) where
  d : Kind α
  X : World → (Nat → Prop) → α → List Value → Prop
  toK : ∀ {w F x cs}, X w F x cs → d.K w F x cs
  keep : ∀ {w w' F x cs}, Same F w w' → w.heap.size ≤ w'.heap.size → X w F x cs → X w' F x cs
  mono : ∀ {w F F' x cs}, (∀ b, F b → F' b) → X w F x cs → X w F' x cs
  bound : ∀ {w F x cs}, X w F x cs → X w (fun b => F b ∧ b < w.heap.size) x cs

namespace XKind
variable {α : Type}
/-- The elements of a row of one's own: block g, the elements' parts in blocks apart. -/
def Els (k : XKind α) (w : World) (F : Nat → Prop) (g : Nat) (xs : List α) : Prop :=
  ∃ Fs : Nat → Nat → Prop, (∀ i j b, Fs i b → Fs j b → i = j) ∧ (∀ i b, Fs i b → F b ∧ b ≠ g ∧ b < w.heap.size) ∧
    ∀ j x, xs[j]? = some x → ∃ cs, k.X w (Fs j) x cs ∧ ∀ i v, cs[i]? = some v → w.cell? ⟨g, j * k.d.sz + i, none⟩ = some v
def Row (k : XKind α) (e : TypeId) (w : World) (F : Nat → Prop) (A : Option Addr) (c : Nat) (xs : List α) : Prop :=
  xs.length ≤ c ∧ c ≤ 9223372036854775807 ∧ (xs ≠ [] → ∃ g m, A = some ⟨g, 0, none⟩ ∧ F g ∧ Blk w g e m ∧ xs.length * k.d.sz ≤ m ∧ k.Els w F g xs)
variable {k : XKind α} {e : TypeId} {w w' : World} {F F' : Nat → Prop} {A : Option Addr} {c g : Nat} {xs : List α}

theorem Els.keep (h : k.Els w F g xs) (hs : Same F w w') (hsz : w.heap.size ≤ w'.heap.size) (hg : w'.heap[g]? = w.heap[g]?) : k.Els w' F g xs := by
  obtain ⟨Fs, h1, h2, h3⟩ := h
  refine ⟨Fs, h1, fun i b hb => ?_, fun j x hx => ?_⟩
  · obtain ⟨p, q, r⟩ := h2 i b hb
    exact ⟨p, q, Nat.lt_of_lt_of_le r hsz⟩
  · obtain ⟨cs, hX, hc⟩ := h3 j x hx
    exact ⟨cs, k.keep (fun b hb hlt => hs b (h2 j b hb).1 hlt) hsz hX, fun i v hv => (World.cell?_of_block (a := ⟨g, _, none⟩) hg).trans (hc i v hv)⟩
theorem Row.keep (h : k.Row e w F A c xs) (hs : Same F w w') (hsz : w.heap.size ≤ w'.heap.size) : k.Row e w' F A c xs := by
  refine ⟨h.1, h.2.1, fun hx => ?_⟩
  obtain ⟨g, m, rfl, hF, hB, hm, hE⟩ := h.2.2 hx
  exact ⟨g, m, rfl, hF, hB.keep (hs g hF hB.lt), hm, hE.keep hs hsz (hs g hF hB.lt)⟩
theorem Row.mono (h : k.Row e w F A c xs) (hF : ∀ b, F b → F' b) : k.Row e w F' A c xs := by
  refine ⟨h.1, h.2.1, fun hx => ?_⟩
  obtain ⟨g, m, rfl, h1, hB, hm, Fs, h2, h3, h4⟩ := h.2.2 hx
  exact ⟨g, m, rfl, hF _ h1, hB, hm, Fs, h2, fun i b hb => ⟨hF _ (h3 i b hb).1, (h3 i b hb).2⟩, h4⟩
theorem Row.bound (h : k.Row e w F A c xs) : k.Row e w (fun b => F b ∧ b < w.heap.size) A c xs := by
  refine ⟨h.1, h.2.1, fun hx => ?_⟩
  obtain ⟨g, m, rfl, h1, hB, hm, Fs, h2, h3, h4⟩ := h.2.2 hx
  exact ⟨g, m, rfl, ⟨h1, hB.lt⟩, hB, hm, Fs, h2, fun i b hb => ⟨⟨(h3 i b hb).1, (h3 i b hb).2.2⟩, (h3 i b hb).2⟩, h4⟩
theorem Row.toK (h : k.Row e w F A c xs) : k.d.Row w F A c xs := by
  refine ⟨h.1, h.2.1, fun hx => ?_⟩
  obtain ⟨g, m, rfl, hF, hB, hm, Fs, h1, h2, h3⟩ := h.2.2 hx
  refine ⟨_, rfl, hF, fun j x hj => ?_⟩
  obtain ⟨cs, hX, hc⟩ := h3 j x hj
  exact ⟨cs, k.d.mono (fun b hb => (h2 j b hb).1) (k.toK hX), fun i v hv => by
    have hadd : (⟨g, 0, none⟩ : Addr).add (j * k.d.sz + i) = ⟨g, j * k.d.sz + i, none⟩ := by unfold Addr.add; split <;> simp_all
    rw [hadd]; exact hc i v hv⟩
theorem Row.below (h : k.Row e w F A c xs) (hb : Below w.heap.size w w') : k.Row e w' F A c xs := h.keep (Same.of_below hb) hb.size
theorem Row.nil (A : Option Addr) (c : Nat) (hc : c ≤ 9223372036854775807) : k.Row e w F A c [] := ⟨Nat.zero_le _, hc, fun h => absurd rfl h⟩

def int (kd : IntKind) : XKind Int where
  d := Kind.int kd
  X := fun _ _ x cs => cs = [.int kd x]
  toK := fun h => h
  keep := fun _ _ h => h
  mono := fun _ h => h
  bound := fun h => h
end XKind

abbrev XInts (e : TypeId) (w : World) (F : Nat → Prop) (A : Option Addr) (c : Nat) (xs : List Int) : Prop := (XKind.int .i64).Row e w F A c xs

/-- ei: the number of the type 'int'. -/
def XKind.rec_ (ei : TypeId) : XKind Rec where
  d := Kind.rec_
  X := fun w F r cs => ∃ A c A' c', cs = [.int .i64 r.off, .int .i64 r.time, .bool r.hk, .slice A r.key.length c, .bool r.hv, .slice A' r.val.length c'] ∧
    ∃ F1 F2 : Nat → Prop, (∀ b, F1 b → ¬ F2 b) ∧ (∀ b, F1 b → F b) ∧ (∀ b, F2 b → F b) ∧ (∀ b, F1 b ∨ F2 b → b < w.heap.size) ∧ XInts ei w F1 A c r.key ∧ XInts ei w F2 A' c' r.val
  toK := by
    rintro w F r cs ⟨A, c, A', c', rfl, F1, F2, _, h1, h2, _, ha, hb⟩
    exact ⟨A, c, A', c', rfl, ha.toK.mono h1, hb.toK.mono h2⟩
  keep := by
    rintro w w' F r cs hs hsz ⟨A, c, A', c', rfl, F1, F2, hd, h1, h2, h3, ha, hb⟩
    exact ⟨A, c, A', c', rfl, F1, F2, hd, h1, h2, fun b hb => Nat.lt_of_lt_of_le (h3 b hb) hsz, ha.keep (fun b hb => hs b (h1 b hb)) hsz, hb.keep (fun b hb => hs b (h2 b hb)) hsz⟩
  mono := by
    rintro w F F' r cs hF ⟨A, c, A', c', rfl, F1, F2, hd, h1, h2, h3, ha, hb⟩
    exact ⟨A, c, A', c', rfl, F1, F2, hd, fun b hb => hF b (h1 b hb), fun b hb => hF b (h2 b hb), h3, ha, hb⟩
  bound := by
    rintro w F r cs ⟨A, c, A', c', rfl, F1, F2, hd, h1, h2, h3, ha, hb⟩
    exact ⟨A, c, A', c', rfl, F1, F2, hd, fun b hb => ⟨h1 b hb, h3 b (.inl hb)⟩, fun b hb => ⟨h2 b hb, h3 b (.inr hb)⟩, h3, ha, hb⟩
abbrev XRecs (ei er : TypeId) (w : World) (F : Nat → Prop) (A : Option Addr) (c : Nat) (xs : List Rec) : Prop := (XKind.rec_ ei).Row er w F A c xs
def XKind.bat (ei er : TypeId) : XKind Bat where
  d := Kind.bat
  X := fun w F b cs => ∃ A c, cs = [.bool b.packed, .bool b.mark, .int .i64 b.prod, .int .i64 b.epoch, .int .i64 b.seq, .slice A b.recs.length c] ∧ XRecs ei er w F A c b.recs
  toK := by
    rintro w F b cs ⟨A, c, rfl, h⟩
    exact ⟨A, c, rfl, h.toK⟩
  keep := by
    rintro w w' F b cs hs hsz ⟨A, c, rfl, h⟩
    exact ⟨A, c, rfl, h.keep hs hsz⟩
  mono := by
    rintro w F F' b cs hF ⟨A, c, rfl, h⟩
    exact ⟨A, c, rfl, h.mono hF⟩
  bound := by
    rintro w F b cs ⟨A, c, rfl, h⟩
    exact ⟨A, c, rfl, h.bound⟩
abbrev XBats (ei er eb : TypeId) (w : World) (F : Nat → Prop) (A : Option Addr) (c : Nat) (xs : List Bat) : Prop := (XKind.bat ei er).Row eb w F A c xs
def XKind.ent : XKind Ent where
  d := Kind.ent
  X := fun _ _ e cs => cs = [.int .i64 e.off, .int .i64 e.place]
  toK := fun h => h
  keep := fun _ _ h => h
  mono := fun _ h => h
  bound := fun h => h

/-! A row that is being filled: block g of n elements, the first ones there. -/
namespace XKind
variable {α : Type} {k : XKind α} {e : TypeId} {w w' : World} {F : Nat → Prop} {g n B : Nat} {xs : List α}
def Fill (k : XKind α) (e : TypeId) (w : World) (F : Nat → Prop) (g n B : Nat) (xs : List α) : Prop :=
  B ≤ w.heap.size ∧ Blk w g e (n * k.d.sz) ∧ ∃ Fs : Nat → Nat → Prop, (∀ i j b, Fs i b → Fs j b → i = j) ∧ (∀ i b, Fs i b → F b ∧ b ≠ g ∧ b < B) ∧
    ∀ j x, xs[j]? = some x → ∃ cs, k.X w (Fs j) x cs ∧ ∀ i v, cs[i]? = some v → w.cell? ⟨g, j * k.d.sz + i, none⟩ = some v
theorem Fill.start (h : Blk w g e (n * k.d.sz)) : k.Fill e w F g n w.heap.size [] :=
  ⟨Nat.le_refl _, h, fun _ _ => False, fun _ _ _ h _ => h.elim, fun _ _ h => h.elim, fun j x hj => by simp at hj⟩
theorem Fill.keep (h : k.Fill e w F g n B xs) (hs : Same (fun b => b = g ∨ F b) w w') (hsz : w.heap.size ≤ w'.heap.size) : k.Fill e w' F g n B xs := by
  obtain ⟨h0, hB, Fs, h1, h2, h3⟩ := h
  have hg := hs g (.inl rfl) hB.lt
  refine ⟨Nat.le_trans h0 hsz, hB.keep hg, Fs, h1, h2, fun j x hj => ?_⟩
  obtain ⟨cs, hX, hc⟩ := h3 j x hj
  exact ⟨cs, k.keep (fun b hb hlt => hs b (.inr (h2 j b hb).1) hlt) hsz hX, fun i v hv => (World.cell?_of_block (a := ⟨g, _, none⟩) hg).trans (hc i v hv)⟩
theorem Fill.below (h : k.Fill e w F g n B xs) (hb : Below w.heap.size w w') : k.Fill e w' F g n B xs := h.keep (Same.of_below hb) hb.size
/-- One element more: its cells are stored, its parts are younger than all there. -/
theorem Fill.step (h : k.Fill e w F g n B xs) (hlt : xs.length < n) {G : Nat → Prop} {x : α} {cs : List Value} (hX : k.X w G x cs) (hG : ∀ b, G b → F b ∧ b ≠ g ∧ B ≤ b) :
    k.Fill e (w.setCells g (xs.length * k.d.sz) cs) F g n w.heap.size (xs ++ [x]) := by
  obtain ⟨h0, hB, Fs, h1, h2, h3⟩ := h
  have hlen : cs.length = k.d.sz := k.d.len (k.toK hX)
  have hroom : xs.length * k.d.sz + k.d.sz ≤ n * k.d.sz := by rw [← Nat.succ_mul]; exact Nat.mul_le_mul_right _ hlt
  have hsz : (w.setCells g (xs.length * k.d.sz) cs).heap.size = w.heap.size := by
    have : ∀ (vs : List Value) (o : Nat) (w : World), (w.setCells g o vs).heap.size = w.heap.size := by
      intro vs
      induction vs with
      | nil => intro o w; rfl
      | cons v r ih => intro o w; rw [World.setCells, ih]; simp
    exact this _ _ _
  have hkeep : ∀ b, b ≠ g → (w.setCells g (xs.length * k.d.sz) cs).heap[b]? = w.heap[b]? := by
    intro b hb
    have : ∀ (vs : List Value) (o : Nat) (w : World), (w.setCells g o vs).heap[b]? = w.heap[b]? := by
      intro vs
      induction vs with
      | nil => intro o w; rfl
      | cons v r ih => intro o w; rw [World.setCells, ih]; exact Below.heap_setCell w _ v b hb
    exact this _ _ _
  have hXb := k.bound hX
  refine ⟨by rw [hsz]; exact Nat.le_refl _, Blk.setCells _ _ _ _ hB, fun i b => (i < xs.length ∧ Fs i b) ∨ (i = xs.length ∧ G b ∧ b < w.heap.size), ?_, ?_, ?_⟩
  · rintro i j b (⟨p, q⟩ | ⟨p, q, r⟩) (⟨p', q'⟩ | ⟨p', q', r'⟩)
    · exact h1 i j b q q'
    · have := (h2 i b q).2.2; have := (hG b q').2.2; omega
    · have := (h2 j b q').2.2; have := (hG b q).2.2; omega
    · omega
  · rintro i b (⟨p, q⟩ | ⟨p, q, r⟩)
    · obtain ⟨a1, a2, a3⟩ := h2 i b q
      exact ⟨a1, a2, by omega⟩
    · exact ⟨(hG b q).1, (hG b q).2.1, r⟩
  · intro j y hj
    by_cases hjl : j < xs.length
    · rw [List.getElem?_append_left hjl] at hj
      obtain ⟨ds, hY, hc⟩ := h3 j y hj
      refine ⟨ds, k.mono (fun b hb => .inl ⟨hjl, hb⟩) (k.keep (fun b hb _ => hkeep b (h2 j b hb).2.1) (by rw [hsz]; exact Nat.le_refl _) hY), fun i v hv => ?_⟩
      have hdl : ds.length = k.d.sz := k.d.len (k.toK hY)
      have hi : i < k.d.sz := by rw [← hdl]; exact (List.getElem?_eq_some_iff.1 hv).1
      rw [World.cell?_setCells_out g cs _ w _ (fun _ _ => Or.inl ?_)]
      · exact hc i v hv
      · have : j * k.d.sz + k.d.sz ≤ xs.length * k.d.sz := by rw [← Nat.succ_mul]; exact Nat.mul_le_mul_right _ hjl
        show j * k.d.sz + i < _
        omega
    · have hjeq : j = xs.length := by
        have := (List.getElem?_eq_some_iff.1 hj).1
        simp at this
        omega
      subst hjeq
      rw [List.getElem?_append_right (Nat.le_refl _)] at hj
      simp at hj
      subst hj
      refine ⟨cs, k.mono (fun b hb => .inr ⟨rfl, hb⟩) (k.keep (fun b hb _ => hkeep b (hG b hb.1).2.1) (by rw [hsz]; exact Nat.le_refl _) hXb), fun i v hv => ?_⟩
      obtain ⟨hil, hv'⟩ := List.getElem?_eq_some_iff.1 hv
      subst hv'
      exact World.cell?_setCells_in g cs _ w (fun i hi => by
        obtain ⟨v, hv⟩ := hB.some (i := xs.length * k.d.sz + i) (by omega)
        rw [hv]; rfl) i hil
theorem Fill.next (h : k.Fill e w F g n B xs) {o : Nat} (ho : o = xs.length * k.d.sz) (hlt : xs.length < n) {G : Nat → Prop} {x : α} {cs : List Value} (hX : k.X w G x cs) (hG : ∀ b, G b → F b ∧ b ≠ g ∧ B ≤ b) {ys : List α} (hy : ys = xs ++ [x]) :
    ∃ B', k.Fill e (w.setCells g o cs) F g n B' ys := by
  subst ho hy
  exact ⟨_, h.step hlt hX hG⟩
theorem Fill.done (h : k.Fill e w F g n B xs) (hn : xs.length = n) (hc : n ≤ 140737488355328) : k.Row e w (fun b => b = g ∨ F b) (some ⟨g, 0, none⟩) n xs := by
  obtain ⟨h0, hB, Fs, h1, h2, h3⟩ := h
  subst hn
  exact ⟨Nat.le_refl _, Nat.le_trans hc (by omega), fun _ => ⟨g, _, rfl, .inl rfl, hB, Nat.le_refl _, Fs, h1, fun i b hb => ⟨.inr (h2 i b hb).1, (h2 i b hb).2.1, Nat.lt_of_lt_of_le (h2 i b hb).2.2 h0⟩, h3⟩⟩
end XKind
end Go.Proofs.Ytfflhenldegmmaa
