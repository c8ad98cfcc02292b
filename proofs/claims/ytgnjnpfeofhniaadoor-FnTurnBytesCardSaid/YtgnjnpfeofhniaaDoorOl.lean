/- Messages of the old form: as records, in the program and in the reference. -/
import Derived.Test.YtgnjnpfeofhniaaDoorRi
import Derived.Test.YtgnjnpfeofhniaaDoorAx
namespace Go.Proofs.YtgnjnpfeofhniaaDoor
set_option linter.unusedVariables false
set_option linter.unusedSimpArgs false
open Go.RowKit

structure Old' where
  off : Int
  timed : Bool
  time : Int
  key : List Int
  val : List Int
  hk : Bool
  miss : Bool
  deriving DecidableEq
def Old'.rec_ (m : Old') : Rec := ⟨m.off, m.time, m.hk, m.key, !m.miss, m.val⟩
abbrev OC (m : Old') (A : Option Addr) (c : Nat) (A' : Option Addr) (c' : Nat) : Array Value := #[.int .i64 m.off, .bool m.timed, .int .i64 m.time, .slice A m.key.length c, .slice A' m.val.length c', .bool m.hk, .bool m.miss]
abbrev OV (m : Old') (A : Option Addr) (c : Nat) (A' : Option Addr) (c' : Nat) : Value := .agg (OC m A c A' c')
def Kind.old : Kind Old' where
  sz := 7
  K := fun w F m cs => ∃ A c A' c', cs = [.int .i64 m.off, .bool m.timed, .int .i64 m.time, .slice A m.key.length c, .slice A' m.val.length c', .bool m.hk, .bool m.miss] ∧ Ints w F A c m.key ∧ Ints w F A' c' m.val
  len := by rintro _ _ _ _ ⟨A, c, A', c', rfl, _⟩; rfl
  keep := by rintro _ _ _ _ _ hs ⟨A, c, A', c', rfl, h, h'⟩; exact ⟨A, c, A', c', rfl, h.keep hs, h'.keep hs⟩
  mono := by rintro _ _ _ _ _ hF ⟨A, c, A', c', rfl, h, h'⟩; exact ⟨A, c, A', c', rfl, h.mono hF, h'.mono hF⟩
abbrev Olds (w : World) (F : Nat → Prop) (A : Option Addr) (c : Nat) (xs : List Old') : Prop := Kind.old.Row w F A c xs
theorem lit_row {W : World} {g : Nat} {P : Nat → Prop} (h : W.heap[g]? = some (.cells #[] 3 (0, 0))) (hP : P g) : AppP (Kind.int .i64) 3 W P (.slice (some ⟨g, 0, none⟩) 0 0) [] :=
  ⟨fun _ => False, [], ⟨by simp, .inr ⟨g, 0, #[], rfl, Nat.zero_le _, h, Nat.le_refl _, by simp [maxLen], by simp, by simp⟩⟩, fun k hk => by simp [Value.ownBlock] at hk; rw [← hk]; exact hP, fun b hb => hb.elim, fun j x hj => by simp at hj⟩
theorem sev {w : World} {g : Nat} {t : TypeId} {v0 v1 v2 v3 v4 v5 v6 : Value} (h : w.heap[g]? = some (.cells #[v0, v1, v2, v3, v4, v5, v6] t (0, 0))) :
    w.cell? ⟨g, 0, none⟩ = some v0 ∧ w.cell? ⟨g, 1, none⟩ = some v1 ∧ w.cell? ⟨g, 2, none⟩ = some v2 ∧ w.cell? ⟨g, 3, none⟩ = some v3 ∧ w.cell? ⟨g, 4, none⟩ = some v4 ∧ w.cell? ⟨g, 5, none⟩ = some v5 ∧ w.cell? ⟨g, 6, none⟩ = some v6 ∧ ∀ i, w.frozen? ⟨g, i, none⟩ = false := by
  refine ⟨?_, ?_, ?_, ?_, ?_, ?_, ?_, fun i => ?_⟩ <;> simp [World.cell?, World.frozen?, h]

/-- The numbers of a region: how many operations and slots; the operation that makes the first row, the one that fills it, their slots; the second row's; the building and its slot; the store. -/
structure KN where
  n : Nat
  N : Nat
  i1 : Nat
  k1 : Nat
  y1 : Nat
  z1 : Nat
  i2 : Nat
  k2 : Nat
  y2 : Nat
  z2 : Nat
  ib : Nat
  db : Nat
  is : Nat
def row1 (p : KN) (L : Array Bool) (T : Array Value) : Value := if L.getD p.k1 false = true then T.getD p.y1 undef else T.getD p.z1 undef
def row2 (p : KN) (L : Array Bool) (T : Array Value) : Value := if L.getD p.k2 false = true then T.getD p.y2 undef else T.getD p.z2 undef
def full (k : Nat) (L : Array Bool) (xs : List Int) : List Int := if L.getD k false = true then xs else []
abbrev RV (m : Old') (v u : Value) : Array Value := #[.int .i64 m.off, .int .i64 m.time, .bool m.hk, v, .bool (!m.miss), u]
structure KI (p : KN) (dst : Nat → Nat) (cst : Nat → Option Value) (m : Old') (A A' : Option Addr) (c c' : Nat) (F : Nat → Prop) (mb b2 B0 : Nat) (w0 : World) (L : Array Bool) (a : Act) (w : World) : Prop where
  dfr : a.defers = []
  size : a.tmps.size = p.N
  t1 : a.tmps.getD 1 undef = .pointer (some ⟨mb, 0, none⟩)
  t2 : a.tmps.getD 2 undef = .pointer (some ⟨b2, 0, none⟩)
  bel : Below w0.heap.size w0 w
  hB : B0 ≤ w.heap.size
  mc : w.heap[mb]? = some (.cells (OC m A c A' c') 42 (0, 0))
  res : ∃ v0 v1 v2 v3 v4 v5, w.heap[b2]? = some (.cells #[v0, v1, v2, v3, v4, v5] 46 (0, 0))
  key : Ints w F A c m.key
  val : Ints w F A' c' m.val
  smp : ∀ j, j < p.n → L.getD j false = true → ∀ v, cst j = some v → a.tmps.getD (dst j) undef = v
  o1 : L.getD p.k1 false = true → L.getD p.i1 false = true
  o2 : L.getD p.k2 false = true → L.getD p.i2 false = true
  o3 : L.getD p.ib false = true → L.getD p.k1 false = true ∧ L.getD p.k2 false = true
  o4 : L.getD p.is false = true → L.getD p.ib false = true
  r1 : L.getD p.i1 false = true → App (Kind.int .i64) 3 w B0 (row1 p L a.tmps) (full p.k1 L m.key)
  r2 : L.getD p.i2 false = true → App (Kind.int .i64) 3 w B0 (row2 p L a.tmps) (full p.k2 L m.val)
  ap : L.getD p.i1 false = true → L.getD p.i2 false = true → ∀ g, (row1 p L a.tmps).ownBlock = some g → (row2 p L a.tmps).ownBlock = some g → False
  bd : L.getD p.ib false = true → a.tmps.getD p.db undef = .agg (RV m (a.tmps.getD p.y1 undef) (a.tmps.getD p.y2 undef))
  st : L.getD p.is false = true → w.heap[b2]? = some (.cells (RV m (a.tmps.getD p.y1 undef) (a.tmps.getD p.y2 undef)) 46 (0, 0))
section
variable {p : KN} {dst : Nat → Nat} {cst : Nat → Option Value} {m : Old'} {A A' : Option Addr} {c c' : Nat} {F : Nat → Prop} {mb b2 B0 : Nat} {w0 : World} {L : Array Bool} {T : Array Value} {w w' : World}
/-- One operation more, whose value goes to d; the world has grown, or blocks of own rows have turned. -/
theorem KI.next (h : KI p dst cst m A A' c c' F mb b2 B0 w0 L { tmps := T, defers := [] } w) (hF : ∀ b, F b → b < B0) (hmb : mb < B0) (hb2 : b2 < B0) (hw0 : w0.heap.size ≤ B0) {G : Nat → Prop} (hc : Chg G w w') (hG : ∀ b, G b → B0 ≤ b)
    {i d : Nat} {v : Value} (hL : L.size = p.n) (hi : i < p.n) (hd : dst i = d) (hdn : d ≠ 1 ∧ d ≠ 2) (hdT : d < p.N) (hinj : ∀ j, j < p.n → j ≠ i → dst j ≠ d) (hv : ∀ u, cst i = some u → v = u)
    (o1 : (L.setIfInBounds i true).getD p.k1 false = true → (L.setIfInBounds i true).getD p.i1 false = true)
    (o2 : (L.setIfInBounds i true).getD p.k2 false = true → (L.setIfInBounds i true).getD p.i2 false = true)
    (o3 : (L.setIfInBounds i true).getD p.ib false = true → (L.setIfInBounds i true).getD p.k1 false = true ∧ (L.setIfInBounds i true).getD p.k2 false = true)
    (o4 : (L.setIfInBounds i true).getD p.is false = true → (L.setIfInBounds i true).getD p.ib false = true)
    (r1 : (L.setIfInBounds i true).getD p.i1 false = true → App (Kind.int .i64) 3 w' B0 (row1 p (L.setIfInBounds i true) (T.setIfInBounds d v)) (full p.k1 (L.setIfInBounds i true) m.key))
    (r2 : (L.setIfInBounds i true).getD p.i2 false = true → App (Kind.int .i64) 3 w' B0 (row2 p (L.setIfInBounds i true) (T.setIfInBounds d v)) (full p.k2 (L.setIfInBounds i true) m.val))
    (ap : (L.setIfInBounds i true).getD p.i1 false = true → (L.setIfInBounds i true).getD p.i2 false = true → ∀ g, (row1 p (L.setIfInBounds i true) (T.setIfInBounds d v)).ownBlock = some g → (row2 p (L.setIfInBounds i true) (T.setIfInBounds d v)).ownBlock = some g → False)
    (bd : (L.setIfInBounds i true).getD p.ib false = true → (T.setIfInBounds d v).getD p.db undef = .agg (RV m ((T.setIfInBounds d v).getD p.y1 undef) ((T.setIfInBounds d v).getD p.y2 undef)))
    (st : (L.setIfInBounds i true).getD p.is false = true → w'.heap[b2]? = some (.cells (RV m ((T.setIfInBounds d v).getD p.y1 undef) ((T.setIfInBounds d v).getD p.y2 undef)) 46 (0, 0))) :
    KI p dst cst m A A' c c' F mb b2 B0 w0 (L.setIfInBounds i true) { tmps := T.setIfInBounds d v, defers := [] } w' := by
  refine ⟨rfl, by simpa using h.size, (put_ne hdn.1).trans h.t1, (put_ne hdn.2).trans h.t2, h.bel.trans (hc.below h.bel.size (fun b hb => Nat.le_trans hw0 (hG b hb))), Nat.le_trans h.hB hc.size, hc.blk h.mc (fun hg => by have := hG _ hg; omega), ?_, h.key.keep (hc.same (fun b _ hb hg => by have := hF b hb; have := hG b hg; omega)), h.val.keep (hc.same (fun b _ hb hg => by have := hF b hb; have := hG b hg; omega)), fun j hj hLj u hu => ?_, o1, o2, o3, o4, r1, r2, ap, bd, st⟩
  · obtain ⟨v0, v1, v2, v3, v4, v5, hr⟩ := h.res
    exact ⟨v0, v1, v2, v3, v4, v5, hc.blk hr (fun hg => by have := hG _ hg; omega)⟩
  · by_cases hji : j = i
    · subst hji
      show (T.setIfInBounds d v).getD (dst j) undef = u
      rw [hd, put_same (by have : T.size = p.N := h.size; omega)]
      exact hv u hu
    · rw [put_ne (Ne.symm hji)] at hLj
      exact (put_ne (Ne.symm (hinj j hj hji))).trans (h.smp j hj hLj u hu)
/-- An operation that touches no row. -/
theorem KI.simple (h : KI p dst cst m A A' c c' F mb b2 B0 w0 L { tmps := T, defers := [] } w) (hF : ∀ b, F b → b < B0) (hmb : mb < B0) (hb2 : b2 < B0) (hw0 : w0.heap.size ≤ B0)
    {i d : Nat} {v : Value} (hL : L.size = p.n) (hi : i < p.n) (hd : dst i = d) (hdn : d ≠ 1 ∧ d ≠ 2) (hdT : d < p.N) (hinj : ∀ j, j < p.n → j ≠ i → dst j ≠ d) (hv : ∀ u, cst i = some u → v = u)
    (hno : (i ≠ p.i1 ∧ i ≠ p.k1 ∧ i ≠ p.i2 ∧ i ≠ p.k2 ∧ i ≠ p.ib ∧ i ≠ p.is) ∧ (d ≠ p.y1 ∧ d ≠ p.z1 ∧ d ≠ p.y2 ∧ d ≠ p.z2 ∧ d ≠ p.db)) :
    KI p dst cst m A A' c c' F mb b2 B0 w0 (L.setIfInBounds i true) { tmps := T.setIfInBounds d v, defers := [] } w := by
  obtain ⟨⟨n1, n2, n3, n4, n5, n6⟩, m1, m2, m3, m4, m5⟩ := hno
  refine h.next hF hmb hb2 hw0 (G := fun _ => False) (Chg.of_below (Below.refl _ _)) (fun _ h => h.elim) hL hi hd hdn hdT hinj hv ?_ ?_ ?_ ?_ ?_ ?_ ?_ ?_ ?_
  all_goals
    simp only [row1, row2, full, put_ne n1, put_ne n2, put_ne n3, put_ne n4, put_ne n5, put_ne n6, put_ne m1, put_ne m2, put_ne m3, put_ne m4, put_ne m5]
  · exact h.o1
  · exact h.o2
  · exact h.o3
  · exact h.o4
  · exact h.r1
  · exact h.r2
  · exact h.ap
  · exact h.bd
  · exact h.st
theorem KI.late (h : KI p dst cst m A A' c c' F mb b2 B0 w0 L { tmps := T, defers := [] } w) (hk : L.getD p.k1 false = false ∨ L.getD p.k2 false = false) : L.getD p.ib false = false ∧ L.getD p.is false = false := by
  have h1 : L.getD p.ib false = false := by
    cases hc : L.getD p.ib false with
    | false => rfl
    | true =>
      obtain ⟨h2, h3⟩ := h.o3 hc
      rcases hk with hk | hk
      · rw [hk] at h2; cases h2
      · rw [hk] at h3; cases h3
  refine ⟨h1, ?_⟩
  cases hc : L.getD p.is false with
  | false => rfl
  | true => have := h.o4 hc; rw [h1] at this; cases this
theorem set_self {L : Array Bool} {i : Nat} (h : i < L.size) : (L.setIfInBounds i true).getD i false = true := by simp [Array.getD_eq_getD_getElem?, h]
/-- A row is made, in new memory. -/
theorem KI.fresh1 (h : KI p dst cst m A A' c c' F mb b2 B0 w0 L { tmps := T, defers := [] } w) (hF : ∀ b, F b → b < B0) (hmb : mb < B0) (hb2 : b2 < B0) (hw0 : w0.heap.size ≤ B0)
    {d : Nat} {v : Value} (hL : L.size = p.n) (hi : p.i1 < p.n) (hlist : L.getD p.i1 false = false) (hd : dst p.i1 = d) (hdn : d ≠ 1 ∧ d ≠ 2) (hdT : d < p.N) (hinj : ∀ j, j < p.n → j ≠ p.i1 → dst j ≠ d) (hv : cst p.i1 = none)
    (hno : (p.i1 ≠ p.i2 ∧ p.i1 ≠ p.k2 ∧ p.i1 ≠ p.ib ∧ p.i1 ≠ p.is) ∧ (d ≠ p.y2 ∧ d ≠ p.z2))
    (hb : Below w.heap.size w w') (HV : App (Kind.int .i64) 3 w' w.heap.size v (full p.k1 (L.setIfInBounds p.i1 true) m.key)) (hrow : row1 p (L.setIfInBounds p.i1 true) (T.setIfInBounds d v) = v) :
    KI p dst cst m A A' c c' F mb b2 B0 w0 (L.setIfInBounds p.i1 true) { tmps := T.setIfInBounds d v, defers := [] } w' := by
  obtain ⟨⟨n3, n4, n5, n6⟩, m3, m4⟩ := hno
  have hk : L.getD p.k1 false = false := by
    cases hc : L.getD p.k1 false with
    | false => rfl
    | true => have := h.o1 hc; rw [hlist] at this; cases this
  obtain ⟨l5, l6⟩ := h.late (.inl hk)
  refine h.next hF hmb hb2 hw0 (G := fun _ => False) (Chg.of_below hb) (fun _ h => h.elim) hL hi hd hdn hdT hinj (fun u hu => by rw [hv] at hu; cases hu) (fun _ => set_self (by omega)) ?_ ?_ ?_ ?_ ?_ ?_ ?_ ?_
  · rw [put_ne n3, put_ne n4]; exact h.o2
  · rw [put_ne n5, l5]; intro hh; cases hh
  · rw [put_ne n6, l6]; intro hh; cases hh
  · intro _
    rw [hrow]
    exact App.from HV h.hB
  · simp only [row2, full, put_ne n3, put_ne n4, put_ne m3, put_ne m4]
    exact fun hh => AppP.below (h.r2 hh) hb
  · intro _ hh g hg1 hg2
    rw [hrow] at hg1
    simp only [row2, put_ne n3, put_ne n4, put_ne m3, put_ne m4] at hh hg2
    have e1 := own_ge HV g hg1
    have e2 := AppP.own_lt (h.r2 hh) hg2
    omega
  · rw [put_ne n5, l5]; intro hh; cases hh
  · rw [put_ne n6, l6]; intro hh; cases hh
/-- A row is filled. -/
theorem KI.fill1 (h : KI p dst cst m A A' c c' F mb b2 B0 w0 L { tmps := T, defers := [] } w) (hF : ∀ b, F b → b < B0) (hmb : mb < B0) (hb2 : b2 < B0) (hw0 : w0.heap.size ≤ B0)
    {d : Nat} {v : Value} (hL : L.size = p.n) (hi : p.k1 < p.n) (hlist : L.getD p.k1 false = false) (hmade : L.getD p.i1 false = true) (hd : dst p.k1 = d) (hdn : d ≠ 1 ∧ d ≠ 2) (hdT : d < p.N) (hinj : ∀ j, j < p.n → j ≠ p.k1 → dst j ≠ d) (hv : cst p.k1 = none)
    (hno : (p.k1 ≠ p.i1 ∧ p.k1 ≠ p.i2 ∧ p.k1 ≠ p.k2 ∧ p.k1 ≠ p.ib ∧ p.k1 ≠ p.is) ∧ (d = p.y1 ∧ d ≠ p.y2 ∧ d ≠ p.z2))
    (hc : Chg (fun b => (row1 p L T).ownBlock = some b) w w') (HV : App (Kind.int .i64) 3 w' B0 v m.key) (hat : v.ownBlock = (row1 p L T).ownBlock ∨ ∃ b, v.ownBlock = some b ∧ w.heap.size ≤ b) :
    KI p dst cst m A A' c c' F mb b2 B0 w0 (L.setIfInBounds p.k1 true) { tmps := T.setIfInBounds d v, defers := [] } w' := by
  obtain ⟨⟨n1, n3, n4, n5, n6⟩, m1, m3, m4⟩ := hno
  obtain ⟨l5, l6⟩ := h.late (.inl hlist)
  have hTs : T.size = p.N := h.size
  have hrow : row1 p (L.setIfInBounds p.k1 true) (T.setIfInBounds d v) = v := by
    unfold row1
    rw [set_self (by omega), if_pos rfl, ← m1, put_same (by omega)]
  have hfull : full p.k1 (L.setIfInBounds p.k1 true) m.key = m.key := by
    unfold full
    rw [set_self (by omega), if_pos rfl]
  have hge := own_ge (h.r1 hmade)
  refine h.next hF hmb hb2 hw0 hc (fun b hb => hge b hb) hL hi hd hdn hdT hinj (fun u hu => by rw [hv] at hu; cases hu) (fun _ => by rw [put_ne n1]; exact hmade) ?_ ?_ ?_ ?_ ?_ ?_ ?_ ?_
  · rw [put_ne n3, put_ne n4]; exact h.o2
  · rw [put_ne n5, l5]; intro hh; cases hh
  · rw [put_ne n6, l6]; intro hh; cases hh
  · intro _
    rw [hrow, hfull]
    exact HV
  · simp only [row2, full, put_ne n3, put_ne n4, put_ne m3, put_ne m4]
    exact fun hh => AppP.keepOwn (flat_int _) (h.r2 hh) (fun k hk => hc.block k (AppP.own_lt (h.r2 hh) hk) (fun e => h.ap hmade hh k e hk))
  · intro _ hh g hg1 hg2
    rw [hrow] at hg1
    simp only [row2, put_ne n3, put_ne n4, put_ne m3, put_ne m4] at hh hg2
    rcases hat with e | ⟨b, e, hb⟩
    · exact h.ap hmade hh g (by rw [← e]; exact hg1) hg2
    · have e2 := AppP.own_lt (h.r2 hh) hg2
      rw [e] at hg1
      injection hg1 with hg1
      omega
  · rw [put_ne n5, l5]; intro hh; cases hh
  · rw [put_ne n6, l6]; intro hh; cases hh
/-- A row is made, in new memory. -/
theorem KI.fresh2 (h : KI p dst cst m A A' c c' F mb b2 B0 w0 L { tmps := T, defers := [] } w) (hF : ∀ b, F b → b < B0) (hmb : mb < B0) (hb2 : b2 < B0) (hw0 : w0.heap.size ≤ B0)
    {d : Nat} {v : Value} (hL : L.size = p.n) (hi : p.i2 < p.n) (hlist : L.getD p.i2 false = false) (hd : dst p.i2 = d) (hdn : d ≠ 1 ∧ d ≠ 2) (hdT : d < p.N) (hinj : ∀ j, j < p.n → j ≠ p.i2 → dst j ≠ d) (hv : cst p.i2 = none)
    (hno : (p.i2 ≠ p.i1 ∧ p.i2 ≠ p.k1 ∧ p.i2 ≠ p.ib ∧ p.i2 ≠ p.is) ∧ (d ≠ p.y1 ∧ d ≠ p.z1))
    (hb : Below w.heap.size w w') (HV : App (Kind.int .i64) 3 w' w.heap.size v (full p.k2 (L.setIfInBounds p.i2 true) m.val)) (hrow : row2 p (L.setIfInBounds p.i2 true) (T.setIfInBounds d v) = v) :
    KI p dst cst m A A' c c' F mb b2 B0 w0 (L.setIfInBounds p.i2 true) { tmps := T.setIfInBounds d v, defers := [] } w' := by
  obtain ⟨⟨n3, n4, n5, n6⟩, m3, m4⟩ := hno
  have hk : L.getD p.k2 false = false := by
    cases hc : L.getD p.k2 false with
    | false => rfl
    | true => have := h.o2 hc; rw [hlist] at this; cases this
  obtain ⟨l5, l6⟩ := h.late (.inr hk)
  refine h.next hF hmb hb2 hw0 (G := fun _ => False) (Chg.of_below hb) (fun _ h => h.elim) hL hi hd hdn hdT hinj (fun u hu => by rw [hv] at hu; cases hu) ?_ (fun _ => set_self (by omega)) ?_ ?_ ?_ ?_ ?_ ?_ ?_
  · rw [put_ne n3, put_ne n4]; exact h.o1
  · rw [put_ne n5, l5]; intro hh; cases hh
  · rw [put_ne n6, l6]; intro hh; cases hh
  · simp only [row1, full, put_ne n3, put_ne n4, put_ne m3, put_ne m4]
    exact fun hh => AppP.below (h.r1 hh) hb
  · intro _
    rw [hrow]
    exact App.from HV h.hB
  · intro hh _ g hg2 hg1
    rw [hrow] at hg1
    simp only [row1, put_ne n3, put_ne n4, put_ne m3, put_ne m4] at hh hg2
    have e1 := own_ge HV g hg1
    have e2 := AppP.own_lt (h.r1 hh) hg2
    omega
  · rw [put_ne n5, l5]; intro hh; cases hh
  · rw [put_ne n6, l6]; intro hh; cases hh
/-- A row is filled. -/
theorem KI.fill2 (h : KI p dst cst m A A' c c' F mb b2 B0 w0 L { tmps := T, defers := [] } w) (hF : ∀ b, F b → b < B0) (hmb : mb < B0) (hb2 : b2 < B0) (hw0 : w0.heap.size ≤ B0)
    {d : Nat} {v : Value} (hL : L.size = p.n) (hi : p.k2 < p.n) (hlist : L.getD p.k2 false = false) (hmade : L.getD p.i2 false = true) (hd : dst p.k2 = d) (hdn : d ≠ 1 ∧ d ≠ 2) (hdT : d < p.N) (hinj : ∀ j, j < p.n → j ≠ p.k2 → dst j ≠ d) (hv : cst p.k2 = none)
    (hno : (p.k2 ≠ p.i2 ∧ p.k2 ≠ p.i1 ∧ p.k2 ≠ p.k1 ∧ p.k2 ≠ p.ib ∧ p.k2 ≠ p.is) ∧ (d = p.y2 ∧ d ≠ p.y1 ∧ d ≠ p.z1))
    (hc : Chg (fun b => (row2 p L T).ownBlock = some b) w w') (HV : App (Kind.int .i64) 3 w' B0 v m.val) (hat : v.ownBlock = (row2 p L T).ownBlock ∨ ∃ b, v.ownBlock = some b ∧ w.heap.size ≤ b) :
    KI p dst cst m A A' c c' F mb b2 B0 w0 (L.setIfInBounds p.k2 true) { tmps := T.setIfInBounds d v, defers := [] } w' := by
  obtain ⟨⟨n1, n3, n4, n5, n6⟩, m1, m3, m4⟩ := hno
  obtain ⟨l5, l6⟩ := h.late (.inr hlist)
  have hTs : T.size = p.N := h.size
  have hrow : row2 p (L.setIfInBounds p.k2 true) (T.setIfInBounds d v) = v := by
    unfold row2
    rw [set_self (by omega), if_pos rfl, ← m1, put_same (by omega)]
  have hfull : full p.k2 (L.setIfInBounds p.k2 true) m.val = m.val := by
    unfold full
    rw [set_self (by omega), if_pos rfl]
  have hge := own_ge (h.r2 hmade)
  refine h.next hF hmb hb2 hw0 hc (fun b hb => hge b hb) hL hi hd hdn hdT hinj (fun u hu => by rw [hv] at hu; cases hu) ?_ (fun _ => by rw [put_ne n1]; exact hmade) ?_ ?_ ?_ ?_ ?_ ?_ ?_
  · rw [put_ne n3, put_ne n4]; exact h.o1
  · rw [put_ne n5, l5]; intro hh; cases hh
  · rw [put_ne n6, l6]; intro hh; cases hh
  · simp only [row1, full, put_ne n3, put_ne n4, put_ne m3, put_ne m4]
    exact fun hh => AppP.keepOwn (flat_int _) (h.r1 hh) (fun k hk => hc.block k (AppP.own_lt (h.r1 hh) hk) (fun e => h.ap hh hmade k hk e))
  · intro _
    rw [hrow, hfull]
    exact HV
  · intro hh _ g hg2 hg1
    rw [hrow] at hg1
    simp only [row1, put_ne n3, put_ne n4, put_ne m3, put_ne m4] at hh hg2
    rcases hat with e | ⟨b, e, hb⟩
    · exact h.ap hh hmade g hg2 (by rw [← e]; exact hg1)
    · have e2 := AppP.own_lt (h.r1 hh) hg2
      rw [e] at hg1
      injection hg1 with hg1
      omega
  · rw [put_ne n5, l5]; intro hh; cases hh
  · rw [put_ne n6, l6]; intro hh; cases hh
/-- The record is built. -/
theorem KI.build (h : KI p dst cst m A A' c c' F mb b2 B0 w0 L { tmps := T, defers := [] } w) (hF : ∀ b, F b → b < B0) (hmb : mb < B0) (hb2 : b2 < B0) (hw0 : w0.heap.size ≤ B0)
    (hL : L.size = p.n) (hi : p.ib < p.n) (hk1 : L.getD p.k1 false = true) (hk2 : L.getD p.k2 false = true) (hlist : L.getD p.ib false = false) (hd : dst p.ib = p.db) (hdn : p.db ≠ 1 ∧ p.db ≠ 2) (hdT : p.db < p.N) (hinj : ∀ j, j < p.n → j ≠ p.ib → dst j ≠ p.db) (hv : cst p.ib = none)
    (hno : (p.ib ≠ p.i1 ∧ p.ib ≠ p.k1 ∧ p.ib ≠ p.i2 ∧ p.ib ≠ p.k2 ∧ p.ib ≠ p.is) ∧ (p.db ≠ p.y1 ∧ p.db ≠ p.z1 ∧ p.db ≠ p.y2 ∧ p.db ≠ p.z2)) :
    KI p dst cst m A A' c c' F mb b2 B0 w0 (L.setIfInBounds p.ib true) { tmps := T.setIfInBounds p.db (.agg (RV m (T.getD p.y1 undef) (T.getD p.y2 undef))), defers := [] } w := by
  obtain ⟨⟨n1, n2, n3, n4, n6⟩, m1, m2, m3, m4⟩ := hno
  have hTs : T.size = p.N := h.size
  have l6 : L.getD p.is false = false := by
    cases hc : L.getD p.is false with
    | false => rfl
    | true => have := h.o4 hc; rw [hlist] at this; cases this
  refine h.next hF hmb hb2 hw0 (G := fun _ => False) (Chg.of_below (Below.refl _ _)) (fun _ h => h.elim) hL hi hd hdn hdT hinj (fun u hu => by rw [hv] at hu; cases hu) ?_ ?_ ?_ ?_ ?_ ?_ ?_ ?_ ?_
  · rw [put_ne n1, put_ne n2]; exact h.o1
  · rw [put_ne n3, put_ne n4]; exact h.o2
  · intro _; rw [put_ne n2, put_ne n4]; exact ⟨hk1, hk2⟩
  · rw [put_ne n6, l6]; intro hh; cases hh
  · simp only [row1, full, put_ne n1, put_ne n2, put_ne m1, put_ne m2]; exact h.r1
  · simp only [row2, full, put_ne n3, put_ne n4, put_ne m3, put_ne m4]; exact h.r2
  · simp only [row1, row2, put_ne n1, put_ne n2, put_ne n3, put_ne n4, put_ne m1, put_ne m2, put_ne m3, put_ne m4]; exact h.ap
  · intro _; rw [put_same (by omega), put_ne m1, put_ne m3]
  · rw [put_ne n6, l6]; intro hh; cases hh
/-- .. and stored. -/
theorem KI.store (h : KI p dst cst m A A' c c' F mb b2 B0 w0 L { tmps := T, defers := [] } w) (hF : ∀ b, F b → b < B0) (hFb : ∀ b, F b → b ≠ b2) (hmb : mb ≠ b2) (hb2 : b2 < B0) (hw0 : w0.heap.size ≤ b2)
    (hL : L.size = p.n) (hlb : L.getD p.ib false = true) (hnone : cst p.is = none)
    (hno : p.is ≠ p.i1 ∧ p.is ≠ p.k1 ∧ p.is ≠ p.i2 ∧ p.is ≠ p.k2 ∧ p.is ≠ p.ib) (hc : Chg (fun b => b = b2) w w')
    (hD : w'.heap[b2]? = some (.cells (RV m (T.getD p.y1 undef) (T.getD p.y2 undef)) 46 (0, 0))) :
    KI p dst cst m A A' c c' F mb b2 B0 w0 (L.setIfInBounds p.is true) { tmps := T, defers := [] } w' := by
  obtain ⟨n1, n2, n3, n4, n5⟩ := hno
  refine ⟨rfl, h.size, h.t1, h.t2, h.bel.trans (hc.below h.bel.size (fun b hb => by subst hb; exact hw0)), Nat.le_trans h.hB hc.size, hc.blk h.mc hmb, ⟨_, _, _, _, _, _, hD⟩, h.key.keep (hc.same (fun b _ hb hg => hFb b hb hg)), h.val.keep (hc.same (fun b _ hb hg => hFb b hb hg)), fun j hj hLj u hu => ?_, ?_, ?_, ?_, ?_, ?_, ?_, ?_, ?_, fun _ => hD⟩
  · by_cases hji : j = p.is
    · subst hji; rw [hnone] at hu; cases hu
    · rw [put_ne (Ne.symm hji)] at hLj
      exact h.smp j hj hLj u hu
  · rw [put_ne n1, put_ne n2]; exact h.o1
  · rw [put_ne n3, put_ne n4]; exact h.o2
  · rw [put_ne n5, put_ne n2, put_ne n4]; exact h.o3
  · rw [put_ne n5]; exact fun _ => hlb
  · simp only [row1, full, put_ne n1, put_ne n2]
    exact fun hh => AppP.chg (h.r1 hh) hc (fun b _ h1 h2 => by omega)
  · simp only [row2, full, put_ne n3, put_ne n4]
    exact fun hh => AppP.chg (h.r2 hh) hc (fun b _ h1 h2 => by omega)
  · simp only [row1, row2, put_ne n1, put_ne n2, put_ne n3, put_ne n4]; exact h.ap
  · rw [put_ne n5]; exact h.bd
end
def keptN : KN := ⟨17, 19, 8, 8, 11, 11, 14, 14, 17, 17, 15, 18, 16⟩
def keptD : Nat → Nat
  | 0 => 3 | 1 => 4 | 2 => 5 | 3 => 6 | 4 => 7 | 5 => 8 | 6 => 9 | 7 => 10 | 8 => 11 | 9 => 12 | 10 => 13 | 11 => 14 | 12 => 15 | 13 => 16 | 14 => 17 | 15 => 18 | 16 => 99 | _ => 98
def keptC (m : Old') (A A' : Option Addr) (c c' mb : Nat) : Nat → Option Value
  | 0 => some (.pointer (some ⟨mb, 0, none⟩))
  | 1 => some (.int .i64 m.off)
  | 2 => some (.pointer (some ⟨mb, 2, none⟩))
  | 3 => some (.int .i64 m.time)
  | 4 => some (.pointer (some ⟨mb, 5, none⟩))
  | 5 => some (.bool m.hk)
  | 6 => some (.pointer (some ⟨mb, 3, none⟩))
  | 7 => some (.slice A m.key.length c)
  | 9 => some (.pointer (some ⟨mb, 6, none⟩))
  | 10 => some (.bool m.miss)
  | 11 => some (.bool (!m.miss))
  | 12 => some (.pointer (some ⟨mb, 4, none⟩))
  | 13 => some (.slice A' m.val.length c')
  | _ => none

set_option maxRecDepth 100000 in
set_option maxHeartbeats 4000000 in
theorem kept_any (m : Old') (A A' : Option Addr) (c c' : Nat) (F : Nat → Prop) (w : World) (h : Ints w F A c m.key) (h' : Ints w F A' c' m.val) (hkey : m.key.length ≤ 1048576) (hval : m.val.length ≤ 1048576) :
    Calls Tryd.prog 14 #[OV m A c A' c'] w fun e w' => ∃ vk vv, e = .returned (.agg (RV m vk vv)) ∧ Copied w w' m.rec_ vk vv := by
  have hs := h.bound (bnd_int .i64)
  have hs' := h'.bound (bnd_int .i64)
  clear h h'
  go_enter Tryd.func14, Tryd.ntmps14
  go_upto_region 1 with fail
  generalize hW : World.alloc _ _ = W
  obtain ⟨hA, hB, b1, hsW⟩ := alloc2 hW
  clear hW
  have hsW1 := hs.below b1
  have hsW2 := hs'.below b1
  refine wp_region_any (by kernel_rfl) ?_
  change wpAny _ _ _ _ _ _ _ (World.drew W)
  generalize hV : W.drew = V
  have bD : Below W.heap.size W V := by rw [← hV]; exact ⟨rfl, rfl, rfl, Nat.le_refl _, fun _ _ => rfl⟩
  have hAV := blk_below hA bD
  have hBV := blk_below hB bD
  have hKV := hsW1.below bD
  have hVV := hsW2.below bD
  have bV := bthen b1 bD
  have hsV : w.heap.size + 2 ≤ V.heap.size := by have := bD.size; omega
  clear hV bD hA hB hsW1 hsW2 b1 hsW hs hs'
  have hF : ∀ b, (F b ∧ b < w.heap.size) → b < w.heap.size + 2 := fun b hb => by omega
  have hFb : ∀ b, (F b ∧ b < w.heap.size) → b ≠ w.heap.size + 1 := fun b hb => by omega
  have hmb : w.heap.size < w.heap.size + 2 := by omega
  have hb2 : w.heap.size + 1 < w.heap.size + 2 := by omega
  have hw0 : w.heap.size ≤ w.heap.size + 2 := by omega
  refine wpAny_inv (KI keptN keptD (keptC m A A' c c' w.heap.size) m A A' c c' (fun b => F b ∧ b < w.heap.size) w.heap.size (w.heap.size + 1) (w.heap.size + 2) w) ?step ?fin _ _ _ _ rfl (by decide) ?init
  case init =>
    refine ⟨rfl, rfl, rfl, rfl, bV, hsV, hAV, ⟨_, _, _, _, _, _, hBV⟩, hKV, hVV, fun j hj h => ?_, fun h => ?_, fun h => ?_, fun h => ?_, fun h => ?_, fun h => ?_, fun h => ?_, fun h => ?_, fun h => ?_, fun h => ?_⟩
    · have hj' : j < 17 := hj
      obtain rfl | rfl | rfl | rfl | rfl | rfl | rfl | rfl | rfl | rfl | rfl | rfl | rfl | rfl | rfl | rfl | rfl : j = 0 ∨ j = 1 ∨ j = 2 ∨ j = 3 ∨ j = 4 ∨ j = 5 ∨ j = 6 ∨ j = 7 ∨ j = 8 ∨ j = 9 ∨ j = 10 ∨ j = 11 ∨ j = 12 ∨ j = 13 ∨ j = 14 ∨ j = 15 ∨ j = 16 := by omega
      all_goals exact absurd h (by decide)
    all_goals exact absurd h (by decide)
  case fin =>
    intro L a X hI hs hr
    have hall := all_listed hs hr (by kernel_rfl)
    obtain ⟨T, ds⟩ := a
    obtain rfl : ds = [] := hI.dfr
    have hst := hI.st (hall keptN.is (by decide))
    have h1 := hI.r1 (hall keptN.i1 (by decide))
    have h2 := hI.r2 (hall keptN.i2 (by decide))
    have h3 := hI.ap (hall keptN.i1 (by decide)) (hall keptN.i2 (by decide))
    have hr1 : row1 keptN L T = T.getD keptN.y1 undef := by unfold row1; rw [hall keptN.k1 (by decide), if_pos rfl]
    have hr2 : row2 keptN L T = T.getD keptN.y2 undef := by unfold row2; rw [hall keptN.k2 (by decide), if_pos rfl]
    have hf1 : full keptN.k1 L m.key = m.key := by unfold full; rw [hall keptN.k1 (by decide), if_pos rfl]
    have hf2 : full keptN.k2 L m.val = m.val := by unfold full; rw [hall keptN.k2 (by decide), if_pos rfl]
    dsimp only at hst h1 h2 h3
    rw [hr1, hf1] at h1
    rw [hr2, hf2] at h2
    rw [hr1, hr2] at h3
    obtain ⟨u1, hu1⟩ : ∃ u, u = T.getD keptN.y1 undef := ⟨_, rfl⟩
    obtain ⟨u2, hu2⟩ : ∃ u, u = T.getD keptN.y2 undef := ⟨_, rfl⟩
    rw [← hu1] at h1 h3 hst
    rw [← hu2] at h2 h3 hst
    have t2 : T.getD 2 undef = .pointer (some ⟨w.heap.size + 1, 0, none⟩) := hI.t2
    have f2 : T[2]?.getD undef = .pointer (some ⟨w.heap.size + 1, 0, none⟩) := by rw [← Array.getD_eq_getD_getElem?]; exact t2
    obtain ⟨q0, q1, q2, q3, q4, q5, qf⟩ := six hst
    have hlt := blk_lt2 hst
    have HC := Lib.hid (show Copied w X m.rec_ u1 u2 from ⟨App.from h1 (by omega), App.from h2 (by omega), fun g g1 g2 => h3 g g1 g2, hI.bel⟩)
    clear hI hall hs hr hst h1 h2 h3 hr1 hr2 hf1 hf2 hu1 hu2
    go_wp2
    refine bodyPost_ret (v := .agg (RV m u1 u2)) (by simp [results, Tryd.results14, go_sem, q0, q1, q2, q3, q4, q5, f2, hlt]) rfl ⟨u1, u2, rfl, HC.out⟩
  case step =>
      intro L a X i hI hs hi
      obtain ⟨T, ds⟩ := a
      obtain rfl : ds = [] := hI.dfr
      have hlt : i < 17 := ready_lt hi
      have hL : L.size = keptN.n := hs
      have hT : T.size = keptN.N := hI.size
      have t1 : T.getD 1 undef = _ := hI.t1
      have t2 : T.getD 2 undef = _ := hI.t2
      obtain rfl | rfl | rfl | rfl | rfl | rfl | rfl | rfl | rfl | rfl | rfl | rfl | rfl | rfl | rfl | rfl | rfl : i = 0 ∨ i = 1 ∨ i = 2 ∨ i = 3 ∨ i = 4 ∨ i = 5 ∨ i = 6 ∨ i = 7 ∨ i = 8 ∨ i = 9 ∨ i = 10 ∨ i = 11 ∨ i = 12 ∨ i = 13 ∨ i = 14 ∨ i = 15 ∨ i = 16 := by omega
      · refine wpOp_step rfl (fun K' hK => ?_)
        go_simp
        exact hK _ _ (hI.simple (i := 0) (d := 3) hF hmb hb2 hw0 hL (by decide) rfl (by decide) (by decide) (by decide) (fun u hu => by injection hu) (by decide))
      · refine wpOp_step rfl (fun K' hK => ?_)
        have e : T.getD 3 undef = _ := hI.smp 0 (by decide) (dep hi 0 (by kernel_rfl)) _ rfl
        obtain ⟨q0, q1, q2, q3, q4, q5, q6, qf⟩ := sev hI.mc
        go_simp
        exact hK _ _ (hI.simple (i := 1) (d := 4) hF hmb hb2 hw0 hL (by decide) rfl (by decide) (by decide) (by decide) (fun u hu => by injection hu) (by decide))
      · refine wpOp_step rfl (fun K' hK => ?_)
        go_simp
        exact hK _ _ (hI.simple (i := 2) (d := 5) hF hmb hb2 hw0 hL (by decide) rfl (by decide) (by decide) (by decide) (fun u hu => by injection hu) (by decide))
      · refine wpOp_step rfl (fun K' hK => ?_)
        have e : T.getD 5 undef = _ := hI.smp 2 (by decide) (dep hi 2 (by kernel_rfl)) _ rfl
        obtain ⟨q0, q1, q2, q3, q4, q5, q6, qf⟩ := sev hI.mc
        go_simp
        exact hK _ _ (hI.simple (i := 3) (d := 6) hF hmb hb2 hw0 hL (by decide) rfl (by decide) (by decide) (by decide) (fun u hu => by injection hu) (by decide))
      · refine wpOp_step rfl (fun K' hK => ?_)
        go_simp
        exact hK _ _ (hI.simple (i := 4) (d := 7) hF hmb hb2 hw0 hL (by decide) rfl (by decide) (by decide) (by decide) (fun u hu => by injection hu) (by decide))
      · refine wpOp_step rfl (fun K' hK => ?_)
        have e : T.getD 7 undef = _ := hI.smp 4 (by decide) (dep hi 4 (by kernel_rfl)) _ rfl
        obtain ⟨q0, q1, q2, q3, q4, q5, q6, qf⟩ := sev hI.mc
        go_simp
        exact hK _ _ (hI.simple (i := 5) (d := 8) hF hmb hb2 hw0 hL (by decide) rfl (by decide) (by decide) (by decide) (fun u hu => by injection hu) (by decide))
      · refine wpOp_step rfl (fun K' hK => ?_)
        go_simp
        exact hK _ _ (hI.simple (i := 6) (d := 9) hF hmb hb2 hw0 hL (by decide) rfl (by decide) (by decide) (by decide) (fun u hu => by injection hu) (by decide))
      · refine wpOp_step rfl (fun K' hK => ?_)
        have e : T.getD 9 undef = _ := hI.smp 6 (by decide) (dep hi 6 (by kernel_rfl)) _ rfl
        obtain ⟨q0, q1, q2, q3, q4, q5, q6, qf⟩ := sev hI.mc
        go_simp
        exact hK _ _ (hI.simple (i := 7) (d := 10) hF hmb hb2 hw0 hL (by decide) rfl (by decide) (by decide) (by decide) (fun u hu => by injection hu) (by decide))
      · refine wpOp_step rfl (fun K' hK => ?_)
        have e : T.getD 10 undef = _ := hI.smp 7 (by decide) (dep hi 7 (by kernel_rfl)) _ rfl
        go_simp
        refine (Clone_any m.key A c _ X hI.key hkey).mono ?_
        rintro e X2 ⟨v, rfl, HV, hb⟩
        dsimp only
        refine hK _ _ (hI.fresh1 (d := 11) hF hmb hb2 hw0 hL (by decide) (ready_no hi) rfl (by decide) (by decide) (by decide) rfl (by decide) hb ?_ ?_)
        · unfold full; rw [show (L.setIfInBounds keptN.i1 true).getD keptN.k1 false = true from set_self (by rw [hL]; decide), if_pos rfl]; exact HV
        · unfold row1; rw [show (L.setIfInBounds keptN.i1 true).getD keptN.k1 false = true from set_self (by rw [hL]; decide), if_pos rfl]; exact put_same (by rw [hT]; decide)
      · refine wpOp_step rfl (fun K' hK => ?_)
        go_simp
        exact hK _ _ (hI.simple (i := 9) (d := 12) hF hmb hb2 hw0 hL (by decide) rfl (by decide) (by decide) (by decide) (fun u hu => by injection hu) (by decide))
      · refine wpOp_step rfl (fun K' hK => ?_)
        have e : T.getD 12 undef = _ := hI.smp 9 (by decide) (dep hi 9 (by kernel_rfl)) _ rfl
        obtain ⟨q0, q1, q2, q3, q4, q5, q6, qf⟩ := sev hI.mc
        go_simp
        exact hK _ _ (hI.simple (i := 10) (d := 13) hF hmb hb2 hw0 hL (by decide) rfl (by decide) (by decide) (by decide) (fun u hu => by injection hu) (by decide))
      · refine wpOp_step rfl (fun K' hK => ?_)
        have e : T.getD 13 undef = _ := hI.smp 10 (by decide) (dep hi 10 (by kernel_rfl)) _ rfl
        go_simp
        exact hK _ _ (hI.simple (i := 11) (d := 14) hF hmb hb2 hw0 hL (by decide) rfl (by decide) (by decide) (by decide) (fun u hu => by injection hu) (by decide))
      · refine wpOp_step rfl (fun K' hK => ?_)
        go_simp
        exact hK _ _ (hI.simple (i := 12) (d := 15) hF hmb hb2 hw0 hL (by decide) rfl (by decide) (by decide) (by decide) (fun u hu => by injection hu) (by decide))
      · refine wpOp_step rfl (fun K' hK => ?_)
        have e : T.getD 15 undef = _ := hI.smp 12 (by decide) (dep hi 12 (by kernel_rfl)) _ rfl
        obtain ⟨q0, q1, q2, q3, q4, q5, q6, qf⟩ := sev hI.mc
        go_simp
        exact hK _ _ (hI.simple (i := 13) (d := 16) hF hmb hb2 hw0 hL (by decide) rfl (by decide) (by decide) (by decide) (fun u hu => by injection hu) (by decide))
      · refine wpOp_step rfl (fun K' hK => ?_)
        have e : T.getD 16 undef = _ := hI.smp 13 (by decide) (dep hi 13 (by kernel_rfl)) _ rfl
        go_simp
        refine (Clone_any m.val A' c' _ X hI.val hval).mono ?_
        rintro e X2 ⟨v, rfl, HV, hb⟩
        dsimp only
        refine hK _ _ (hI.fresh2 (d := 17) hF hmb hb2 hw0 hL (by decide) (ready_no hi) rfl (by decide) (by decide) (by decide) rfl (by decide) hb ?_ ?_)
        · unfold full; rw [show (L.setIfInBounds keptN.i2 true).getD keptN.k2 false = true from set_self (by rw [hL]; decide), if_pos rfl]; exact HV
        · unfold row2; rw [show (L.setIfInBounds keptN.i2 true).getD keptN.k2 false = true from set_self (by rw [hL]; decide), if_pos rfl]; exact put_same (by rw [hT]; decide)
      · refine wpOp_step rfl (fun K' hK => ?_)
        have ea : T.getD 4 undef = _ := hI.smp 1 (by decide) (dep hi 1 (by kernel_rfl)) _ rfl
        have eb : T.getD 6 undef = _ := hI.smp 3 (by decide) (dep hi 3 (by kernel_rfl)) _ rfl
        have ed : T.getD 8 undef = _ := hI.smp 5 (by decide) (dep hi 5 (by kernel_rfl)) _ rfl
        have ef : T.getD 14 undef = _ := hI.smp 11 (by decide) (dep hi 11 (by kernel_rfl)) _ rfl
        have lk1 : L.getD keptN.k1 false = true := dep hi 8 (by kernel_rfl)
        have lk2 : L.getD keptN.k2 false = true := dep hi 14 (by kernel_rfl)
        have R1 := hI.r1 (hI.o1 lk1)
        have R2 := hI.r2 (hI.o2 lk2)
        have hr1 : row1 keptN L T = T.getD 11 undef := by unfold row1; rw [lk1, if_pos rfl]; rfl
        have hr2 : row2 keptN L T = T.getD 17 undef := by unfold row2; rw [lk2, if_pos rfl]; rfl
        have hf1 : full keptN.k1 L m.key = m.key := by unfold full; rw [lk1, if_pos rfl]
        have hf2 : full keptN.k2 L m.val = m.val := by unfold full; rw [lk2, if_pos rfl]
        dsimp only at R1 R2
        rw [hr1, hf1] at R1
        rw [hr2, hf2] at R2
        obtain ⟨A1, a1, e1, _⟩ := R1.slice_
        obtain ⟨A2, a2, e2, _⟩ := R2.slice_
        have HB := hI.build hF hmb hb2 hw0 hL (by decide) lk1 lk2 (ready_no hi) rfl (by decide) (by decide) (by decide) rfl (by decide)
        rw [show T.getD keptN.y1 undef = _ from e1, show T.getD keptN.y2 undef = _ from e2] at HB
        have g1 : T[11]?.getD undef = .slice A1 m.key.length a1 := by rw [← Array.getD_eq_getD_getElem?]; exact e1
        have g2 : T[17]?.getD undef = .slice A2 m.val.length a2 := by rw [← Array.getD_eq_getD_getElem?]; exact e2
        have ga : T[4]?.getD undef = .int .i64 m.off := by rw [← Array.getD_eq_getD_getElem?]; exact ea
        have gb : T[6]?.getD undef = .int .i64 m.time := by rw [← Array.getD_eq_getD_getElem?]; exact eb
        have gd : T[8]?.getD undef = .bool m.hk := by rw [← Array.getD_eq_getD_getElem?]; exact ed
        have gf : T[14]?.getD undef = .bool (!m.miss) := by rw [← Array.getD_eq_getD_getElem?]; exact ef
        go_simp
        exact hK _ _ HB
      · refine wpOp_step rfl (fun K' hK => ?_)
        have hbl : L.getD keptN.ib false = true := dep hi 15 (by kernel_rfl)
        obtain ⟨lk1, lk2⟩ := hI.o3 hbl
        have R1 := hI.r1 (hI.o1 lk1)
        have R2 := hI.r2 (hI.o2 lk2)
        have hr1 : row1 keptN L T = T.getD 11 undef := by unfold row1; rw [lk1, if_pos rfl]; rfl
        have hr2 : row2 keptN L T = T.getD 17 undef := by unfold row2; rw [lk2, if_pos rfl]; rfl
        have hf1 : full keptN.k1 L m.key = m.key := by unfold full; rw [lk1, if_pos rfl]
        have hf2 : full keptN.k2 L m.val = m.val := by unfold full; rw [lk2, if_pos rfl]
        dsimp only at R1 R2
        rw [hr1, hf1] at R1
        rw [hr2, hf2] at R2
        obtain ⟨A1, a1, e1, _⟩ := R1.slice_
        obtain ⟨A2, a2, e2, _⟩ := R2.slice_
        have e : T.getD 18 undef = .agg (RV m (T.getD 11 undef) (T.getD 17 undef)) := hI.bd hbl
        rw [e1, e2] at e
        obtain ⟨v0, v1, v2, v3, v4, v5, hres⟩ := hI.res
        obtain ⟨q0, q1, q2, q3, q4, q5, qf⟩ := six hres
        go_simp
        refine hK _ _ (hI.store hF hFb (by omega) hb2 (by omega) hL hbl rfl (by decide) (Chg.setCells (fun b => b = w.heap.size + 1) (g := w.heap.size + 1) rfl [.int .i64 m.off, .int .i64 m.time, .bool m.hk, .slice A1 m.key.length a1, .bool (!m.miss), .slice A2 m.val.length a2] 0 X) ?_)
        rw [show T.getD keptN.y1 undef = _ from e1, show T.getD keptN.y2 undef = _ from e2]
        have := blk_put (blk_put (blk_put (blk_put (blk_put (blk_put hres 0 (.int .i64 m.off)) 1 (.int .i64 m.time)) 2 (.bool m.hk)) 3 (.slice A1 m.key.length a1)) 4 (.bool (!m.miss))) 5 (.slice A2 m.val.length a2)
        simpa using this

def l11N : KN := ⟨19, 21, 6, 9, 12, 9, 13, 16, 19, 16, 17, 20, 18⟩
def l11D : Nat → Nat
  | 0 => 3 | 1 => 4 | 2 => 5 | 3 => 6 | 4 => 7 | 5 => 8 | 6 => 9 | 7 => 10 | 8 => 11 | 9 => 12 | 10 => 13 | 11 => 14 | 12 => 15 | 13 => 16 | 14 => 17 | 15 => 18 | 16 => 19 | 17 => 20 | 18 => 99 | _ => 98
def l11C (m : Old') (A A' : Option Addr) (c c' mb : Nat) : Nat → Option Value
  | 0 => some (.pointer (some ⟨mb, 0, none⟩))
  | 1 => some (.int .i64 m.off)
  | 2 => some (.pointer (some ⟨mb, 2, none⟩))
  | 3 => some (.int .i64 m.time)
  | 4 => some (.pointer (some ⟨mb, 5, none⟩))
  | 5 => some (.bool m.hk)
  | 7 => some (.pointer (some ⟨mb, 3, none⟩))
  | 8 => some (.slice A m.key.length c)
  | 10 => some (.pointer (some ⟨mb, 6, none⟩))
  | 11 => some (.bool m.miss)
  | 12 => some (.bool (!m.miss))
  | 14 => some (.pointer (some ⟨mb, 4, none⟩))
  | 15 => some (.slice A' m.val.length c')
  | _ => none

set_option maxRecDepth 100000 in
set_option maxHeartbeats 4000000 in
theorem l11_any (m : Old') (A A' : Option Addr) (c c' : Nat) (F : Nat → Prop) (w : World) (h : Ints w F A c m.key) (h' : Ints w F A' c' m.val) (hkey : m.key.length ≤ 1048576) (hval : m.val.length ≤ 1048576) :
    Calls Tryd.prog 17 #[OV m A c A' c'] w fun e w' => ∃ vk vv, e = .returned (.agg (RV m vk vv)) ∧ Copied w w' m.rec_ vk vv := by
  have hs := h.bound (bnd_int .i64)
  have hs' := h'.bound (bnd_int .i64)
  clear h h'
  go_enter Tryd.func17, Tryd.ntmps17
  go_upto_region 1 with fail
  generalize hW : World.alloc _ _ = W
  obtain ⟨hA, hB, b1, hsW⟩ := alloc2 hW
  clear hW
  have hsW1 := hs.below b1
  have hsW2 := hs'.below b1
  refine wp_region_any (by kernel_rfl) ?_
  change wpAny _ _ _ _ _ _ _ (World.drew W)
  generalize hV : W.drew = V
  have bD : Below W.heap.size W V := by rw [← hV]; exact ⟨rfl, rfl, rfl, Nat.le_refl _, fun _ _ => rfl⟩
  have hAV := blk_below hA bD
  have hBV := blk_below hB bD
  have hKV := hsW1.below bD
  have hVV := hsW2.below bD
  have bV := bthen b1 bD
  have hsV : w.heap.size + 2 ≤ V.heap.size := by have := bD.size; omega
  clear hV bD hA hB hsW1 hsW2 b1 hsW hs hs'
  have hF : ∀ b, (F b ∧ b < w.heap.size) → b < w.heap.size + 2 := fun b hb => by omega
  have hFb : ∀ b, (F b ∧ b < w.heap.size) → b ≠ w.heap.size + 1 := fun b hb => by omega
  have hmb : w.heap.size < w.heap.size + 2 := by omega
  have hb2 : w.heap.size + 1 < w.heap.size + 2 := by omega
  have hw0 : w.heap.size ≤ w.heap.size + 2 := by omega
  refine wpAny_inv (KI l11N l11D (l11C m A A' c c' w.heap.size) m A A' c c' (fun b => F b ∧ b < w.heap.size) w.heap.size (w.heap.size + 1) (w.heap.size + 2) w) ?step ?fin _ _ _ _ rfl (by decide) ?init
  case init =>
    refine ⟨rfl, rfl, rfl, rfl, bV, hsV, hAV, ⟨_, _, _, _, _, _, hBV⟩, hKV, hVV, fun j hj h => ?_, fun h => ?_, fun h => ?_, fun h => ?_, fun h => ?_, fun h => ?_, fun h => ?_, fun h => ?_, fun h => ?_, fun h => ?_⟩
    · have hj' : j < 19 := hj
      obtain rfl | rfl | rfl | rfl | rfl | rfl | rfl | rfl | rfl | rfl | rfl | rfl | rfl | rfl | rfl | rfl | rfl | rfl | rfl : j = 0 ∨ j = 1 ∨ j = 2 ∨ j = 3 ∨ j = 4 ∨ j = 5 ∨ j = 6 ∨ j = 7 ∨ j = 8 ∨ j = 9 ∨ j = 10 ∨ j = 11 ∨ j = 12 ∨ j = 13 ∨ j = 14 ∨ j = 15 ∨ j = 16 ∨ j = 17 ∨ j = 18 := by omega
      all_goals exact absurd h (by decide)
    all_goals exact absurd h (by decide)
  case fin =>
    intro L a X hI hs hr
    have hall := all_listed hs hr (by kernel_rfl)
    obtain ⟨T, ds⟩ := a
    obtain rfl : ds = [] := hI.dfr
    have hst := hI.st (hall l11N.is (by decide))
    have h1 := hI.r1 (hall l11N.i1 (by decide))
    have h2 := hI.r2 (hall l11N.i2 (by decide))
    have h3 := hI.ap (hall l11N.i1 (by decide)) (hall l11N.i2 (by decide))
    have hr1 : row1 l11N L T = T.getD l11N.y1 undef := by unfold row1; rw [hall l11N.k1 (by decide), if_pos rfl]
    have hr2 : row2 l11N L T = T.getD l11N.y2 undef := by unfold row2; rw [hall l11N.k2 (by decide), if_pos rfl]
    have hf1 : full l11N.k1 L m.key = m.key := by unfold full; rw [hall l11N.k1 (by decide), if_pos rfl]
    have hf2 : full l11N.k2 L m.val = m.val := by unfold full; rw [hall l11N.k2 (by decide), if_pos rfl]
    dsimp only at hst h1 h2 h3
    rw [hr1, hf1] at h1
    rw [hr2, hf2] at h2
    rw [hr1, hr2] at h3
    obtain ⟨u1, hu1⟩ : ∃ u, u = T.getD l11N.y1 undef := ⟨_, rfl⟩
    obtain ⟨u2, hu2⟩ : ∃ u, u = T.getD l11N.y2 undef := ⟨_, rfl⟩
    rw [← hu1] at h1 h3 hst
    rw [← hu2] at h2 h3 hst
    have t2 : T.getD 2 undef = .pointer (some ⟨w.heap.size + 1, 0, none⟩) := hI.t2
    have f2 : T[2]?.getD undef = .pointer (some ⟨w.heap.size + 1, 0, none⟩) := by rw [← Array.getD_eq_getD_getElem?]; exact t2
    obtain ⟨q0, q1, q2, q3, q4, q5, qf⟩ := six hst
    have hlt := blk_lt2 hst
    have HC := Lib.hid (show Copied w X m.rec_ u1 u2 from ⟨App.from h1 (by omega), App.from h2 (by omega), fun g g1 g2 => h3 g g1 g2, hI.bel⟩)
    clear hI hall hs hr hst h1 h2 h3 hr1 hr2 hf1 hf2 hu1 hu2
    go_wp2
    refine bodyPost_ret (v := .agg (RV m u1 u2)) (by simp [results, Tryd.results17, go_sem, q0, q1, q2, q3, q4, q5, f2, hlt]) rfl ⟨u1, u2, rfl, HC.out⟩
  case step =>
      intro L a X i hI hs hi
      obtain ⟨T, ds⟩ := a
      obtain rfl : ds = [] := hI.dfr
      have hlt : i < 19 := ready_lt hi
      have hL : L.size = l11N.n := hs
      have hT : T.size = l11N.N := hI.size
      have t1 : T.getD 1 undef = _ := hI.t1
      have t2 : T.getD 2 undef = _ := hI.t2
      obtain rfl | rfl | rfl | rfl | rfl | rfl | rfl | rfl | rfl | rfl | rfl | rfl | rfl | rfl | rfl | rfl | rfl | rfl | rfl : i = 0 ∨ i = 1 ∨ i = 2 ∨ i = 3 ∨ i = 4 ∨ i = 5 ∨ i = 6 ∨ i = 7 ∨ i = 8 ∨ i = 9 ∨ i = 10 ∨ i = 11 ∨ i = 12 ∨ i = 13 ∨ i = 14 ∨ i = 15 ∨ i = 16 ∨ i = 17 ∨ i = 18 := by omega
      · refine wpOp_step rfl (fun K' hK => ?_)
        go_simp
        exact hK _ _ (hI.simple (i := 0) (d := 3) hF hmb hb2 hw0 hL (by decide) rfl (by decide) (by decide) (by decide) (fun u hu => by injection hu) (by decide))
      · refine wpOp_step rfl (fun K' hK => ?_)
        have e : T.getD 3 undef = _ := hI.smp 0 (by decide) (dep hi 0 (by kernel_rfl)) _ rfl
        obtain ⟨q0, q1, q2, q3, q4, q5, q6, qf⟩ := sev hI.mc
        go_simp
        exact hK _ _ (hI.simple (i := 1) (d := 4) hF hmb hb2 hw0 hL (by decide) rfl (by decide) (by decide) (by decide) (fun u hu => by injection hu) (by decide))
      · refine wpOp_step rfl (fun K' hK => ?_)
        go_simp
        exact hK _ _ (hI.simple (i := 2) (d := 5) hF hmb hb2 hw0 hL (by decide) rfl (by decide) (by decide) (by decide) (fun u hu => by injection hu) (by decide))
      · refine wpOp_step rfl (fun K' hK => ?_)
        have e : T.getD 5 undef = _ := hI.smp 2 (by decide) (dep hi 2 (by kernel_rfl)) _ rfl
        obtain ⟨q0, q1, q2, q3, q4, q5, q6, qf⟩ := sev hI.mc
        go_simp
        exact hK _ _ (hI.simple (i := 3) (d := 6) hF hmb hb2 hw0 hL (by decide) rfl (by decide) (by decide) (by decide) (fun u hu => by injection hu) (by decide))
      · refine wpOp_step rfl (fun K' hK => ?_)
        go_simp
        exact hK _ _ (hI.simple (i := 4) (d := 7) hF hmb hb2 hw0 hL (by decide) rfl (by decide) (by decide) (by decide) (fun u hu => by injection hu) (by decide))
      · refine wpOp_step rfl (fun K' hK => ?_)
        have e : T.getD 7 undef = _ := hI.smp 4 (by decide) (dep hi 4 (by kernel_rfl)) _ rfl
        obtain ⟨q0, q1, q2, q3, q4, q5, q6, qf⟩ := sev hI.mc
        go_simp
        exact hK _ _ (hI.simple (i := 5) (d := 8) hF hmb hb2 hw0 hL (by decide) rfl (by decide) (by decide) (by decide) (fun u hu => by injection hu) (by decide))
      · refine wpOp_step rfl (fun K' hK => ?_)
        go_simp
        have hk : L.getD l11N.k1 false = false := by
          cases hc : L.getD l11N.k1 false with
          | false => rfl
          | true => have := hI.o1 hc; rw [show L.getD l11N.i1 false = false from ready_no hi] at this; cases this
        refine hK _ _ (hI.fresh1 (d := 9) hF hmb hb2 hw0 hL (by decide) (ready_no hi) rfl (by decide) (by decide) (by decide) rfl (by decide) (bal _ _) ?_ ?_)
        · unfold full; rw [put_ne (by decide), hk, if_neg (by decide)]; exact lit_row (heap_alloc_new _ _) (Nat.le_refl _)
        · unfold row1; rw [put_ne (by decide), hk, if_neg (by decide)]; exact put_same (by rw [hT]; decide)
      · refine wpOp_step rfl (fun K' hK => ?_)
        go_simp
        exact hK _ _ (hI.simple (i := 7) (d := 10) hF hmb hb2 hw0 hL (by decide) rfl (by decide) (by decide) (by decide) (fun u hu => by injection hu) (by decide))
      · refine wpOp_step rfl (fun K' hK => ?_)
        have e : T.getD 10 undef = _ := hI.smp 7 (by decide) (dep hi 7 (by kernel_rfl)) _ rfl
        obtain ⟨q0, q1, q2, q3, q4, q5, q6, qf⟩ := sev hI.mc
        go_simp
        exact hK _ _ (hI.simple (i := 8) (d := 11) hF hmb hb2 hw0 hL (by decide) rfl (by decide) (by decide) (by decide) (fun u hu => by injection hu) (by decide))
      · refine wpOp_step rfl (fun K' hK => ?_)
        have e : T.getD 11 undef = _ := hI.smp 8 (by decide) (dep hi 8 (by kernel_rfl)) _ rfl
        have hm : L.getD l11N.i1 false = true := dep hi 6 (by kernel_rfl)
        have hk : L.getD l11N.k1 false = false := ready_no hi
        have HR := hI.r1 hm
        have hr : row1 l11N L T = T.getD 9 undef := by unfold row1; rw [hk, if_neg (by decide)]; rfl
        have hf : full l11N.k1 L m.key = [] := by unfold full; rw [hk, if_neg (by decide)]
        dsimp only at HR
        rw [hr, hf] at HR
        refine step_appF (Kind.int .i64) (xs := []) (ys := m.key) HR rfl _ _ 32 (.int .i64 0) 8 rfl Tryd.underlying32 (by kernel_rfl) rfl (bnd_int _) (onec_int _) (flat_int _) rfl e rfl hI.key (fun b hb => Nat.le_trans hI.hB hb) (by simp; omega) (by simp; omega) ?_
        intro v1 w1 HV hc hat
        rw [List.nil_append] at HV
        refine hK _ _ (hI.fill1 (d := 12) hF hmb hb2 hw0 hL (by decide) hk hm rfl (by decide) (by decide) (by decide) rfl (by decide) (by rw [hr]; exact hc) HV (by rw [hr]; exact hat))
      · refine wpOp_step rfl (fun K' hK => ?_)
        go_simp
        exact hK _ _ (hI.simple (i := 10) (d := 13) hF hmb hb2 hw0 hL (by decide) rfl (by decide) (by decide) (by decide) (fun u hu => by injection hu) (by decide))
      · refine wpOp_step rfl (fun K' hK => ?_)
        have e : T.getD 13 undef = _ := hI.smp 10 (by decide) (dep hi 10 (by kernel_rfl)) _ rfl
        obtain ⟨q0, q1, q2, q3, q4, q5, q6, qf⟩ := sev hI.mc
        go_simp
        exact hK _ _ (hI.simple (i := 11) (d := 14) hF hmb hb2 hw0 hL (by decide) rfl (by decide) (by decide) (by decide) (fun u hu => by injection hu) (by decide))
      · refine wpOp_step rfl (fun K' hK => ?_)
        have e : T.getD 14 undef = _ := hI.smp 11 (by decide) (dep hi 11 (by kernel_rfl)) _ rfl
        go_simp
        exact hK _ _ (hI.simple (i := 12) (d := 15) hF hmb hb2 hw0 hL (by decide) rfl (by decide) (by decide) (by decide) (fun u hu => by injection hu) (by decide))
      · refine wpOp_step rfl (fun K' hK => ?_)
        go_simp
        have hk : L.getD l11N.k2 false = false := by
          cases hc : L.getD l11N.k2 false with
          | false => rfl
          | true => have := hI.o2 hc; rw [show L.getD l11N.i2 false = false from ready_no hi] at this; cases this
        refine hK _ _ (hI.fresh2 (d := 16) hF hmb hb2 hw0 hL (by decide) (ready_no hi) rfl (by decide) (by decide) (by decide) rfl (by decide) (bal _ _) ?_ ?_)
        · unfold full; rw [put_ne (by decide), hk, if_neg (by decide)]; exact lit_row (heap_alloc_new _ _) (Nat.le_refl _)
        · unfold row2; rw [put_ne (by decide), hk, if_neg (by decide)]; exact put_same (by rw [hT]; decide)
      · refine wpOp_step rfl (fun K' hK => ?_)
        go_simp
        exact hK _ _ (hI.simple (i := 14) (d := 17) hF hmb hb2 hw0 hL (by decide) rfl (by decide) (by decide) (by decide) (fun u hu => by injection hu) (by decide))
      · refine wpOp_step rfl (fun K' hK => ?_)
        have e : T.getD 17 undef = _ := hI.smp 14 (by decide) (dep hi 14 (by kernel_rfl)) _ rfl
        obtain ⟨q0, q1, q2, q3, q4, q5, q6, qf⟩ := sev hI.mc
        go_simp
        exact hK _ _ (hI.simple (i := 15) (d := 18) hF hmb hb2 hw0 hL (by decide) rfl (by decide) (by decide) (by decide) (fun u hu => by injection hu) (by decide))
      · refine wpOp_step rfl (fun K' hK => ?_)
        have e : T.getD 18 undef = _ := hI.smp 15 (by decide) (dep hi 15 (by kernel_rfl)) _ rfl
        have hm : L.getD l11N.i2 false = true := dep hi 13 (by kernel_rfl)
        have hk : L.getD l11N.k2 false = false := ready_no hi
        have HR := hI.r2 hm
        have hr : row2 l11N L T = T.getD 16 undef := by unfold row2; rw [hk, if_neg (by decide)]; rfl
        have hf : full l11N.k2 L m.val = [] := by unfold full; rw [hk, if_neg (by decide)]
        dsimp only at HR
        rw [hr, hf] at HR
        refine step_appF (Kind.int .i64) (xs := []) (ys := m.val) HR rfl _ _ 32 (.int .i64 0) 8 rfl Tryd.underlying32 (by kernel_rfl) rfl (bnd_int _) (onec_int _) (flat_int _) rfl e rfl hI.val (fun b hb => Nat.le_trans hI.hB hb) (by simp; omega) (by simp; omega) ?_
        intro v1 w1 HV hc hat
        rw [List.nil_append] at HV
        refine hK _ _ (hI.fill2 (d := 19) hF hmb hb2 hw0 hL (by decide) hk hm rfl (by decide) (by decide) (by decide) rfl (by decide) (by rw [hr]; exact hc) HV (by rw [hr]; exact hat))
      · refine wpOp_step rfl (fun K' hK => ?_)
        have ea : T.getD 4 undef = _ := hI.smp 1 (by decide) (dep hi 1 (by kernel_rfl)) _ rfl
        have eb : T.getD 6 undef = _ := hI.smp 3 (by decide) (dep hi 3 (by kernel_rfl)) _ rfl
        have ed : T.getD 8 undef = _ := hI.smp 5 (by decide) (dep hi 5 (by kernel_rfl)) _ rfl
        have ef : T.getD 15 undef = _ := hI.smp 12 (by decide) (dep hi 12 (by kernel_rfl)) _ rfl
        have lk1 : L.getD l11N.k1 false = true := dep hi 9 (by kernel_rfl)
        have lk2 : L.getD l11N.k2 false = true := dep hi 16 (by kernel_rfl)
        have R1 := hI.r1 (hI.o1 lk1)
        have R2 := hI.r2 (hI.o2 lk2)
        have hr1 : row1 l11N L T = T.getD 12 undef := by unfold row1; rw [lk1, if_pos rfl]; rfl
        have hr2 : row2 l11N L T = T.getD 19 undef := by unfold row2; rw [lk2, if_pos rfl]; rfl
        have hf1 : full l11N.k1 L m.key = m.key := by unfold full; rw [lk1, if_pos rfl]
        have hf2 : full l11N.k2 L m.val = m.val := by unfold full; rw [lk2, if_pos rfl]
        dsimp only at R1 R2
        rw [hr1, hf1] at R1
        rw [hr2, hf2] at R2
        obtain ⟨A1, a1, e1, _⟩ := R1.slice_
        obtain ⟨A2, a2, e2, _⟩ := R2.slice_
        have HB := hI.build hF hmb hb2 hw0 hL (by decide) lk1 lk2 (ready_no hi) rfl (by decide) (by decide) (by decide) rfl (by decide)
        rw [show T.getD l11N.y1 undef = _ from e1, show T.getD l11N.y2 undef = _ from e2] at HB
        have g1 : T[12]?.getD undef = .slice A1 m.key.length a1 := by rw [← Array.getD_eq_getD_getElem?]; exact e1
        have g2 : T[19]?.getD undef = .slice A2 m.val.length a2 := by rw [← Array.getD_eq_getD_getElem?]; exact e2
        have ga : T[4]?.getD undef = .int .i64 m.off := by rw [← Array.getD_eq_getD_getElem?]; exact ea
        have gb : T[6]?.getD undef = .int .i64 m.time := by rw [← Array.getD_eq_getD_getElem?]; exact eb
        have gd : T[8]?.getD undef = .bool m.hk := by rw [← Array.getD_eq_getD_getElem?]; exact ed
        have gf : T[15]?.getD undef = .bool (!m.miss) := by rw [← Array.getD_eq_getD_getElem?]; exact ef
        go_simp
        exact hK _ _ HB
      · refine wpOp_step rfl (fun K' hK => ?_)
        have hbl : L.getD l11N.ib false = true := dep hi 17 (by kernel_rfl)
        obtain ⟨lk1, lk2⟩ := hI.o3 hbl
        have R1 := hI.r1 (hI.o1 lk1)
        have R2 := hI.r2 (hI.o2 lk2)
        have hr1 : row1 l11N L T = T.getD 12 undef := by unfold row1; rw [lk1, if_pos rfl]; rfl
        have hr2 : row2 l11N L T = T.getD 19 undef := by unfold row2; rw [lk2, if_pos rfl]; rfl
        have hf1 : full l11N.k1 L m.key = m.key := by unfold full; rw [lk1, if_pos rfl]
        have hf2 : full l11N.k2 L m.val = m.val := by unfold full; rw [lk2, if_pos rfl]
        dsimp only at R1 R2
        rw [hr1, hf1] at R1
        rw [hr2, hf2] at R2
        obtain ⟨A1, a1, e1, _⟩ := R1.slice_
        obtain ⟨A2, a2, e2, _⟩ := R2.slice_
        have e : T.getD 20 undef = .agg (RV m (T.getD 12 undef) (T.getD 19 undef)) := hI.bd hbl
        rw [e1, e2] at e
        obtain ⟨v0, v1, v2, v3, v4, v5, hres⟩ := hI.res
        obtain ⟨q0, q1, q2, q3, q4, q5, qf⟩ := six hres
        go_simp
        refine hK _ _ (hI.store hF hFb (by omega) hb2 (by omega) hL hbl rfl (by decide) (Chg.setCells (fun b => b = w.heap.size + 1) (g := w.heap.size + 1) rfl [.int .i64 m.off, .int .i64 m.time, .bool m.hk, .slice A1 m.key.length a1, .bool (!m.miss), .slice A2 m.val.length a2] 0 X) ?_)
        rw [show T.getD l11N.y1 undef = _ from e1, show T.getD l11N.y2 undef = _ from e2]
        have := blk_put (blk_put (blk_put (blk_put (blk_put (blk_put hres 0 (.int .i64 m.off)) 1 (.int .i64 m.time)) 2 (.bool m.hk)) 3 (.slice A1 m.key.length a1)) 4 (.bool (!m.miss))) 5 (.slice A2 m.val.length a2)
        simpa using this
end Go.Proofs.YtgnjnpfeofhniaaDoor
