/- Rows that a call makes and appends to, the elements' parts in blocks apart. -/
import Derived.Test.YtgnjnpfeofhniaaDoorGa
import Derived.Maps.OwnIn
import Derived.RangeFuncOwn
namespace Go.Proofs.YtgnjnpfeofhniaaDoor
set_option linter.unusedVariables false
set_option linter.unusedSimpArgs false
open Go.RowKit

def IsCells (w : World) (b : Nat) : Prop := ∃ o : Obj, w.heap[b]? = some o ∧ o.isCells = true
def XKind.Solid {α : Type} (k : XKind α) : Prop := ∀ (w : World) (F : Nat → Prop) (x : α) (cs : List Value), k.X w F x cs → k.X w (fun b => F b ∧ IsCells w b) x cs
theorem Blk.isCells {w : World} {g : Nat} {e : TypeId} {m : Nat} (h : Blk w g e m) : IsCells w g := by
  obtain ⟨cs, hb, _⟩ := h
  exact ⟨_, hb, rfl⟩
theorem XKind.Row.solid {α : Type} {k : XKind α} (hk : k.Solid) {e : TypeId} {w : World} {F : Nat → Prop} {A : Option Addr} {c : Nat} {xs : List α} (h : k.Row e w F A c xs) : k.Row e w (fun b => F b ∧ IsCells w b) A c xs := by
  refine ⟨h.1, h.2.1, fun hx => ?_⟩
  obtain ⟨g, m, rfl, h1, hB, hm, Fs, h2, h3, h4⟩ := h.2.2 hx
  refine ⟨g, m, rfl, ⟨h1, hB.isCells⟩, hB, hm, fun i b => Fs i b ∧ IsCells w b, fun i j b p q => h2 i j b p.1 q.1, fun i b hb => ⟨⟨(h3 i b hb.1).1, hb.2⟩, (h3 i b hb.1).2⟩, fun j x hj => ?_⟩
  obtain ⟨cs, hX, hc⟩ := h4 j x hj
  exact ⟨cs, hk _ _ _ _ hX, hc⟩
theorem solid_int : (XKind.int .i64).Solid := fun _ _ _ _ h => h
theorem solid_rec {ei : TypeId} : (XKind.rec_ ei).Solid := by
  rintro w F r cs ⟨A, c, A', c', rfl, F1, F2, hd, h1, h2, h3, ha, hb⟩
  exact ⟨A, c, A', c', rfl, fun b => F1 b ∧ IsCells w b, fun b => F2 b ∧ IsCells w b, fun b p q => hd b p.1 q.1, fun b p => ⟨h1 b p.1, p.2⟩, fun b p => ⟨h2 b p.1, p.2⟩, fun b p => h3 b (p.elim (fun h => .inl h.1) (fun h => .inr h.1)), ha.solid solid_int, hb.solid solid_int⟩
theorem solid_bat {ei er : TypeId} : (XKind.bat ei er).Solid := by
  rintro w F r cs ⟨A, c, rfl, h⟩
  exact ⟨A, c, rfl, h.solid solid_rec⟩

/-- An own row, the elements' parts apart; all below B. -/
def AppX {α : Type} (k : XKind α) (e : TypeId) (w : World) (P : Nat → Prop) (B : Nat) (v : Value) (xs : List α) : Prop :=
  B ≤ w.heap.size ∧ ∃ (Fs : Nat → Nat → Prop) (inner : List Value), w.ownsRow 0 e k.d.sz v xs.length inner ∧ (∀ g, v.ownBlock = some g → P g ∧ g < B) ∧ (∀ i j b, Fs i b → Fs j b → i = j) ∧
    (∀ i b, Fs i b → P b ∧ b < B ∧ v.ownBlock ≠ some b) ∧ ∀ j x, xs[j]? = some x → ∃ cs, k.X w (Fs j) x cs ∧ ∀ i u, cs[i]? = some u → inner[j * k.d.sz + i]? = some u
section
variable {α : Type} {k : XKind α} {e : TypeId} {w w' : World} {P : Nat → Prop} {B : Nat} {v : Value} {xs : List α}
theorem AppX.toP (h : AppX k e w P B v xs) : AppP k.d e w P v xs := by
  obtain ⟨h0, Fs, inner, ho, hg, _, hF, hE⟩ := h
  refine ⟨fun b => ∃ i, Fs i b, inner, ho, fun g h => (hg g h).1, fun b hb => ?_, fun j x hj => ?_⟩
  · obtain ⟨i, hb⟩ := hb
    exact ⟨(hF i b hb).1, Nat.lt_of_lt_of_le (hF i b hb).2.1 h0, (hF i b hb).2.2⟩
  · obtain ⟨cs, hX, hc⟩ := hE j x hj
    exact ⟨cs, k.d.mono (fun b hb => ⟨j, hb⟩) (k.toK hX), hc⟩
theorem AppX.nil (k : XKind α) (e : TypeId) (w : World) (P : Nat → Prop) : AppX k e w P w.heap.size (.slice none 0 0) [] :=
  ⟨Nat.le_refl _, fun _ _ => False, [], World.ownsRow_nil _ _ _ _, fun _ h => by simp [Value.ownBlock] at h, fun _ _ _ h => h.elim, fun _ _ h => h.elim, fun j x hj => by simp at hj⟩
theorem AppX.lit (k : XKind α) (e : TypeId) (w : World) (P : Nat → Prop) (hb : P w.heap.size) : AppX k e (w.alloc (.cells #[] e)) P (w.heap.size + 1) (.slice (some ⟨w.heap.size, 0, none⟩) 0 0) [] :=
  ⟨by simp, fun _ _ => False, [], World.ownsRow_made w #[] 0 (Nat.zero_le _) (by simp [maxLen]) (by simp), fun g h => by simp [Value.ownBlock] at h; subst h; exact ⟨hb, by omega⟩, fun _ _ _ h => h.elim, fun _ _ h => h.elim, fun j x hj => by simp at hj⟩
theorem AppX.made (k : XKind α) (e : TypeId) (w : World) (P : Nat → Prop) (cs : Array Value) (n : Nat) (hn : n ≤ 1099511627776) (hs : cs.size = n * k.d.sz) (hb : P w.heap.size) : AppX k e (w.alloc (.cells cs e)) P (w.heap.size + 1) (.slice (some ⟨w.heap.size, 0, none⟩) 0 n) [] :=
  ⟨by simp, fun _ _ => False, [], World.ownsRow_made w cs n (Nat.zero_le _) (by simp only [maxLen]; omega) hs, fun g h => by simp [Value.ownBlock] at h; subst h; exact ⟨hb, by omega⟩, fun _ _ _ h => h.elim, fun _ _ h => h.elim, fun j x hj => by simp at hj⟩
theorem AppX.keep (h : AppX k e w P B v xs) (hs : Same P w w') (hsz : w.heap.size ≤ w'.heap.size) : AppX k e w' P B v xs := by
  obtain ⟨h0, Fs, inner, ho, hg, hd, hF, hE⟩ := h
  refine ⟨Nat.le_trans h0 hsz, Fs, inner, own_moved ho (fun g hk => hs g (hg g hk).1 (ho.lt g hk).2), hg, hd, hF, fun j x hj => ?_⟩
  obtain ⟨cs, hX, hc⟩ := hE j x hj
  exact ⟨cs, k.keep (fun b hb hlt => hs b (hF j b hb).1 hlt) hsz hX, hc⟩
theorem AppX.chg {G : Nat → Prop} (h : AppX k e w P B v xs) (hc : Chg G w w') (hG : ∀ b, b < w.heap.size → P b → ¬ G b) : AppX k e w' P B v xs := h.keep (hc.same hG) hc.size
theorem AppX.below (h : AppX k e w P B v xs) (hb : Below w.heap.size w w') : AppX k e w' P B v xs := h.keep (Same.of_below hb) hb.size
theorem AppX.now (h : AppX k e w P B v xs) : AppX k e w P w.heap.size v xs := by
  obtain ⟨h0, Fs, inner, ho, hg, hd, hF, hE⟩ := h
  exact ⟨Nat.le_refl _, Fs, inner, ho, fun g h => ⟨(hg g h).1, Nat.lt_of_lt_of_le (hg g h).2 h0⟩, hd, fun i b hb => ⟨(hF i b hb).1, Nat.lt_of_lt_of_le (hF i b hb).2.1 h0, (hF i b hb).2.2⟩, hE⟩
theorem AppX.mono {P' : Nat → Prop} (h : AppX k e w P B v xs) (hp : ∀ b, P b → P' b) : AppX k e w P' B v xs := by
  obtain ⟨h0, Fs, inner, ho, hg, hd, hF, hE⟩ := h
  exact ⟨h0, Fs, inner, ho, fun g h => ⟨hp g (hg g h).1, (hg g h).2⟩, hd, fun i b hb => ⟨hp b (hF i b hb).1, (hF i b hb).2⟩, hE⟩
theorem AppX.grown (hk : k.Solid) (h : AppX k e w P B v xs) {row : Option Nat} (hg : w.grownBy w' row) (hr : ∀ r, row = some r → ∃ o : Obj, w.heap[r]? = some o ∧ o.isCells = false) : AppX k e w' P B v xs := by
  obtain ⟨h0, Fs, inner, ho, hgo, hd, hF, hE⟩ := h
  have hkeep : ∀ b, IsCells w b → w'.heap[b]? = w.heap[b]? := by
    rintro b ⟨o, ho, hc⟩
    exact grownBy_keeps_cells hg hr ho hc
  refine ⟨Nat.le_trans h0 hg.size, fun i b => Fs i b ∧ IsCells w b, inner, own_moved ho (fun g hk => hkeep g ?_), hgo, fun i j b p q => hd i j b p.1 q.1, fun i b hb => hF i b hb.1, fun j x hj => ?_⟩
  · rcases ho.2 with ⟨rfl, _⟩ | ⟨g', cap, cur, rfl, _, hh, _⟩
    · simp [Value.ownBlock] at hk
    · simp [Value.ownBlock] at hk
      subst hk
      exact ⟨_, hh, rfl⟩
  · obtain ⟨cs, hX, hc⟩ := hE j x hj
    exact ⟨cs, k.keep (fun b hb _ => hkeep b hb.2) hg.size (hk _ _ _ _ hX), hc⟩
theorem AppX.ge (h : AppX k e w P B v xs) : ∀ g, v.ownBlock = some g → P g ∧ g < B := by
  obtain ⟨h0, Fs, inner, ho, hg, _⟩ := h
  exact hg
/-- As a row whose parts are apart. -/
theorem AppX.row (h : AppX k e w P B v xs) : ∃ A c, v = .slice A xs.length c ∧ k.Row e w P A c xs := by
  obtain ⟨A, c, rfl, h1, h2⟩ := h.toP.slice_
  obtain ⟨h0, Fs, inner, ho, hg, hd, hF, hE⟩ := h
  refine ⟨A, c, rfl, h1, h2, fun hx => ?_⟩
  rcases id ho.2 with ⟨_, hn⟩ | ⟨g, cap, cur, hv, _, hh, k1, k2, k3, k4⟩
  · exact absurd (List.eq_nil_of_length_eq_zero hn) hx
  · injection hv with hv1 hv2 hv3
    subst hv1
    refine ⟨g, cap * k.d.sz, rfl, (hg g rfl).1, ⟨cur, hh, k3⟩, Nat.mul_le_mul_right _ (by omega), Fs, hd, fun i b hb => ⟨(hF i b hb).1, fun e => (hF i b hb).2.2 (by rw [e]; rfl), Nat.lt_of_lt_of_le (hF i b hb).2.1 h0⟩, fun j x hj => ?_⟩
    obtain ⟨cs, hX, hc⟩ := hE j x hj
    refine ⟨cs, hX, fun i u hu => ?_⟩
    have := ho.cells (g := g) rfl _ _ (hc i u hu)
    have hadd : (⟨g, 0, none⟩ : Addr).add (j * k.d.sz + i) = ⟨g, j * k.d.sz + i, none⟩ := by unfold Addr.add; split <;> simp_all
    rw [hadd] at this
    exact this
/-- One more. W: the world ahead of the literal that holds the new element's cells. -/
theorem AppX.add {W w1 : World} {v1 : Value} {p : α} {cs : List Value} {G : Nat → Prop} {inner : List Value} {Fs : Nat → Nat → Prop} (ho : W.ownsRow 0 e k.d.sz v xs.length inner)
    (hd : ∀ i j b, Fs i b → Fs j b → i = j) (hF : ∀ i b, Fs i b → P b ∧ b < B ∧ v.ownBlock ≠ some b) (hgo : ∀ g, v.ownBlock = some g → P g ∧ g < B) (h0 : B ≤ W.heap.size)
    (hE : ∀ j x, xs[j]? = some x → ∃ cs, k.X W (Fs j) x cs ∧ ∀ i u, cs[i]? = some u → inner[j * k.d.sz + i]? = some u)
    (hp : k.X W G p cs) (hG : ∀ b, G b → P b ∧ v.ownBlock ≠ some b ∧ ∀ i, ¬ Fs i b) (hown : w1.ownsRow 0 e k.d.sz v1 (xs.length + 1) (inner ++ cs)) (hg : Chg (fun b => v.ownBlock = some b) W w1)
    (hnew : ∀ b, W.heap.size ≤ b → P b) (hat : v1.ownBlock = v.ownBlock ∨ ∃ b, v1.ownBlock = some b ∧ W.heap.size ≤ b) : AppX k e w1 P w1.heap.size v1 (xs ++ [p]) := by
  have hlen := k.d.len (k.toK hp)
  have hin : inner.length = xs.length * k.d.sz := ho.1
  have hpb := k.bound hp
  have hne : ∀ b, b < W.heap.size → v.ownBlock ≠ some b → v1.ownBlock ≠ some b := by
    intro b hb hn
    rcases hat with h | ⟨q, hk, hle⟩
    · rw [h]; exact hn
    · rw [hk]; intro h; injection h with h; omega
  have hGn : ∀ b, G b → v.ownBlock ≠ some b := fun b hb => (hG b hb).2.1
  refine ⟨Nat.le_refl _, fun i b => (i < xs.length ∧ Fs i b) ∨ (i = xs.length ∧ G b ∧ b < W.heap.size), inner ++ cs, by simpa using hown, ?_, ?_, ?_, ?_⟩
  · intro q hq
    refine ⟨?_, (hown.lt q hq).2⟩
    rcases hat with h | ⟨q', hk', hle⟩
    · exact (hgo q (by rw [← h]; exact hq)).1
    · rw [hk'] at hq
      injection hq with hq
      exact hnew q (by omega)
  · rintro i j b (⟨p1, q⟩ | ⟨p1, q, r⟩) (⟨p', q'⟩ | ⟨p', q', r'⟩)
    · exact hd i j b q q'
    · exact absurd q ((hG b q').2.2 i)
    · exact absurd q' ((hG b q).2.2 j)
    · omega
  · rintro i b (⟨p1, q⟩ | ⟨p1, q, r⟩)
    · obtain ⟨a1, a2, a3⟩ := hF i b q
      exact ⟨a1, by have := hg.size; omega, hne b (by omega) a3⟩
    · exact ⟨(hG b q).1, by have := hg.size; omega, hne b r (hGn b q)⟩
  · intro j x hj
    by_cases hjl : j < xs.length
    · rw [List.getElem?_append_left hjl] at hj
      obtain ⟨ds, hX, hc⟩ := hE j x hj
      refine ⟨ds, k.mono (fun b hb => .inl ⟨hjl, hb⟩) (k.keep (hg.same (fun b _ hb => (hF j b hb).2.2)) hg.size hX), fun i u hu => ?_⟩
      have hil : i < k.d.sz := by rw [← k.d.len (k.toK hX)]; exact (List.getElem?_eq_some_iff.1 hu).1
      have : j * k.d.sz + k.d.sz ≤ xs.length * k.d.sz := by rw [← Nat.succ_mul]; exact Nat.mul_le_mul_right _ hjl
      rw [List.getElem?_append_left (by omega)]
      exact hc i u hu
    · have hjeq : j = xs.length := by
        have := (List.getElem?_eq_some_iff.1 hj).1
        simp at this
        omega
      subst hjeq
      rw [List.getElem?_append_right (Nat.le_refl _)] at hj
      simp at hj
      subst hj
      refine ⟨cs, k.mono (fun b hb => .inr ⟨rfl, hb⟩) (k.keep (hg.same (fun b _ hb => hGn b hb.1)) hg.size hpb), fun i u hu => ?_⟩
      rw [List.getElem?_append_right (by omega), hin]
      simpa using hu
end

section
variable {P : Program} {ops : Array Oper} {rest : List Oper} {o : Oper} {a : Act} {Q : Exit → Act → World → Prop} {α : Type}
/-- The run of append(v, p). -/
theorem run_appX (k : XKind α) {e : TypeId} {W : World} {R : Nat → Prop} {B : Nat} {v : Value} {xs : List α} (HO : AppX k e W R B v xs) (t ty : TypeId) (z : Value) (bytes : Nat)
    (ht : P.underlying t = some (.slice e)) (hinfo : (P.info? e).map (fun i => (i.zero, i.size, i.bytes)) = some (some z, k.d.sz, bytes)) (hz : z.cells.size = k.d.sz) (hs0 : 0 < k.d.sz)
    (p : α) (cs : List Value) (G : Nat → Prop) (hp : k.X W G p cs) (hG : ∀ b, G b → R b ∧ B ≤ b) (h1 : ∀ u ∈ cs, u.oneCell' = true)
    (hnew : ∀ b, W.heap.size ≤ b → R b) (h63 : xs.length + 1 ≤ 1099511627776) (hl : (xs.length + 1) * bytes ≤ 140737488355328) :
    ∃ v1 w1, (Builtin.append_ #[t, t] ty #[v, .slice (some ⟨W.heap.size, 0, none⟩) 1 1]).run P (W.alloc (.cells cs.toArray e)) = .ok v1 w1 ∧ AppX k e w1 R w1.heap.size v1 (xs ++ [p]) ∧ Chg (fun b => v.ownBlock = some b) W w1 ∧
      (v1.ownBlock = v.ownBlock ∨ ∃ b, v1.ownBlock = some b ∧ W.heap.size ≤ b) := by
  obtain ⟨h0, Fs, inner, hown, hgo, hd, hF, hE⟩ := HO
  obtain ⟨i0, hi, hz0, hz1, hz2⟩ := info_of hinfo
  have hlen := k.d.len (k.toK hp)
  obtain ⟨v', w', hrun, h2, h3, _, h5⟩ := run_append_own_at (P := P) (W.alloc (.cells cs.toArray e)) 0 t ty e i0 z k.d.sz bytes ht hi hz0 hz1 hz2 hz hs0 v xs.length inner (hown.alloc _)
    ⟨W.heap.size, 0, none⟩ 1 1 cs (by rw [hlen]; omega) (fun j u hu => by
      have hadd : (⟨W.heap.size, 0, none⟩ : Addr).add j = ⟨W.heap.size, j, none⟩ := by unfold Addr.add; split <;> simp_all
      rw [hadd, cell_of_row _ _ _ _ _ _ (heap_alloc_new W (.cells cs.toArray e))]
      simpa using hu) h1 (by simp only [maxLen]; omega) (by exact hl) (by simp)
  have hsz : (W.alloc (.cells cs.toArray e)).heap.size = W.heap.size + 1 := by simp
  have hg : Chg (fun b => v.ownBlock = some b) W w' := ⟨h3.os, h3.tape, h3.output, by have := h3.size; rw [hsz] at this; omega, fun b hb hn => (h3.block b (by rw [hsz]; omega) (fun e => hn e.symm)).trans (Below.heap_alloc W _ b hb)⟩
  have hat : v'.ownBlock = v.ownBlock ∨ ∃ b, v'.ownBlock = some b ∧ W.heap.size ≤ b := by
    rcases h5 with h5 | h5
    · exact .inl h5
    · exact .inr ⟨_, h5, by rw [hsz]; omega⟩
  exact ⟨v', w', hrun, AppX.add hown hd hF hgo h0 hE hp (fun b hb => ⟨(hG b hb).1, fun h => by have := (hgo b h).2; have := (hG b hb).2; omega, fun i q => by have := (hF i b q).2.1; have := (hG b hb).2; omega⟩) (by simpa using h2) hg hnew hat, hg, hat⟩
/-- .. the new element's parts are older ones. -/
theorem run_appX2 (k : XKind α) {e : TypeId} {W : World} {R R' : Nat → Prop} {B : Nat} {v : Value} {xs : List α} (HO : AppX k e W R B v xs) (hRR : ∀ b, R b → R' b) (t ty : TypeId) (z : Value) (bytes : Nat)
    (ht : P.underlying t = some (.slice e)) (hinfo : (P.info? e).map (fun i => (i.zero, i.size, i.bytes)) = some (some z, k.d.sz, bytes)) (hz : z.cells.size = k.d.sz) (hs0 : 0 < k.d.sz)
    (p : α) (cs : List Value) (G : Nat → Prop) (hp : k.X W G p cs) (hG : ∀ b, G b → R' b ∧ ¬ R b) (h1 : ∀ u ∈ cs, u.oneCell' = true)
    (hnew : ∀ b, W.heap.size ≤ b → R' b) (h63 : xs.length + 1 ≤ 1099511627776) (hl : (xs.length + 1) * bytes ≤ 140737488355328) :
    ∃ v1 w1, (Builtin.append_ #[t, t] ty #[v, .slice (some ⟨W.heap.size, 0, none⟩) 1 1]).run P (W.alloc (.cells cs.toArray e)) = .ok v1 w1 ∧ AppX k e w1 R' w1.heap.size v1 (xs ++ [p]) ∧ Chg (fun b => v.ownBlock = some b) W w1 ∧
      (v1.ownBlock = v.ownBlock ∨ ∃ b, v1.ownBlock = some b ∧ W.heap.size ≤ b) := by
  obtain ⟨h0, Fs, inner, hown, hgo, hd, hF, hE⟩ := HO
  obtain ⟨i0, hi, hz0, hz1, hz2⟩ := info_of hinfo
  have hlen := k.d.len (k.toK hp)
  obtain ⟨v', w', hrun, h2, h3, _, h5⟩ := run_append_own_at (P := P) (W.alloc (.cells cs.toArray e)) 0 t ty e i0 z k.d.sz bytes ht hi hz0 hz1 hz2 hz hs0 v xs.length inner (hown.alloc _)
    ⟨W.heap.size, 0, none⟩ 1 1 cs (by rw [hlen]; omega) (fun j u hu => by
      have hadd : (⟨W.heap.size, 0, none⟩ : Addr).add j = ⟨W.heap.size, j, none⟩ := by unfold Addr.add; split <;> simp_all
      rw [hadd, cell_of_row _ _ _ _ _ _ (heap_alloc_new W (.cells cs.toArray e))]
      simpa using hu) h1 (by simp only [maxLen]; omega) (by exact hl) (by simp)
  have hsz : (W.alloc (.cells cs.toArray e)).heap.size = W.heap.size + 1 := by simp
  have hg : Chg (fun b => v.ownBlock = some b) W w' := ⟨h3.os, h3.tape, h3.output, by have := h3.size; rw [hsz] at this; omega, fun b hb hn => (h3.block b (by rw [hsz]; omega) (fun e => hn e.symm)).trans (Below.heap_alloc W _ b hb)⟩
  have hat : v'.ownBlock = v.ownBlock ∨ ∃ b, v'.ownBlock = some b ∧ W.heap.size ≤ b := by
    rcases h5 with h5 | h5
    · exact .inl h5
    · exact .inr ⟨_, h5, by rw [hsz]; omega⟩
  exact ⟨v', w', hrun, AppX.add (P := R') hown hd (fun i b q => ⟨hRR b (hF i b q).1, (hF i b q).2⟩) (fun g hg => ⟨hRR g (hgo g hg).1, (hgo g hg).2⟩) h0 hE hp (fun b hb => ⟨(hG b hb).1, fun h => (hG b hb).2 (hgo b h).1, fun i q => (hG b hb).2 (hF i b q).1⟩) (by simpa using h2) hg hnew hat, hg, hat⟩
theorem wpList_appX2 (k : XKind α) {e : TypeId} {W : World} {R R' : Nat → Prop} {B : Nat} {v : Value} {xs : List α} (HO : AppX k e W R B v xs) (hRR : ∀ b, R b → R' b) (hgd : o.guard = none) (s x : Operand) (t : TypeId) (z : Value) (bytes : Nat)
    (ho : o.op = .call { callee := .builtin .append, args := #[s, x], argTypes := #[t, t] })
    (ht : P.underlying t = some (.slice e)) (hinfo : (P.info? e).map (fun i => (i.zero, i.size, i.bytes)) = some (some z, k.d.sz, bytes)) (hz : z.cells.size = k.d.sz) (hs0 : 0 < k.d.sz)
    (p : α) (cs : List Value) (G : Nat → Prop) (hs : a.eval s = v) (hx : a.eval x = .slice (some ⟨W.heap.size, 0, none⟩) 1 1)
    (hp : k.X W G p cs) (hG : ∀ b, G b → R' b ∧ ¬ R b) (h1 : ∀ u ∈ cs, u.oneCell' = true)
    (hnew : ∀ b, W.heap.size ≤ b → R' b) (h63 : xs.length + 1 ≤ 1099511627776) (hl : (xs.length + 1) * bytes ≤ 140737488355328)
    (h : ∀ v1 w1, AppX k e w1 R' w1.heap.size v1 (xs ++ [p]) → Chg (fun b => v.ownBlock = some b) W w1 → (v1.ownBlock = v.ownBlock ∨ ∃ b, v1.ownBlock = some b ∧ W.heap.size ≤ b) → wpList P ops Q rest (a.put o.dst v1) w1) :
    wpList P ops Q (o :: rest) a (W.alloc (.cells cs.toArray e)) := by
  obtain ⟨v1, w1, hrun, h2, h3, h4⟩ := run_appX2 (P := P) k HO hRR t o.type z bytes ht hinfo hz hs0 p cs G hp hG h1 hnew h63 hl
  refine wpList_plain hgd fun K hK => ?_
  unfold Oper.wp execOp
  simp only [ho, resolve, invoke, builtin, Sem.run_bind, Sem.run_pure, Result.andThen_ok, List.map_toArray, List.map_cons, List.map_nil, hs, hx, hrun]
  exact hK _ _ (h v1 w1 h2 h3 h4)
theorem wpList_appX (k : XKind α) {e : TypeId} {W : World} {R : Nat → Prop} {B : Nat} {v : Value} {xs : List α} (HO : AppX k e W R B v xs) (hgd : o.guard = none) (s x : Operand) (t : TypeId) (z : Value) (bytes : Nat)
    (ho : o.op = .call { callee := .builtin .append, args := #[s, x], argTypes := #[t, t] })
    (ht : P.underlying t = some (.slice e)) (hinfo : (P.info? e).map (fun i => (i.zero, i.size, i.bytes)) = some (some z, k.d.sz, bytes)) (hz : z.cells.size = k.d.sz) (hs0 : 0 < k.d.sz)
    (p : α) (cs : List Value) (G : Nat → Prop) (hs : a.eval s = v) (hx : a.eval x = .slice (some ⟨W.heap.size, 0, none⟩) 1 1)
    (hp : k.X W G p cs) (hG : ∀ b, G b → R b ∧ B ≤ b) (h1 : ∀ u ∈ cs, u.oneCell' = true)
    (hnew : ∀ b, W.heap.size ≤ b → R b) (h63 : xs.length + 1 ≤ 1099511627776) (hl : (xs.length + 1) * bytes ≤ 140737488355328)
    (h : ∀ v1 w1, AppX k e w1 R w1.heap.size v1 (xs ++ [p]) → Chg (fun b => v.ownBlock = some b) W w1 → (v1.ownBlock = v.ownBlock ∨ ∃ b, v1.ownBlock = some b ∧ W.heap.size ≤ b) → wpList P ops Q rest (a.put o.dst v1) w1) :
    wpList P ops Q (o :: rest) a (W.alloc (.cells cs.toArray e)) := by
  obtain ⟨v1, w1, hrun, h2, h3, h4⟩ := run_appX (P := P) k HO t o.type z bytes ht hinfo hz hs0 p cs G hp hG h1 hnew h63 hl
  refine wpList_plain hgd fun K hK => ?_
  unfold Oper.wp execOp
  simp only [ho, resolve, invoke, builtin, Sem.run_bind, Sem.run_pure, Result.andThen_ok, List.map_toArray, List.map_cons, List.map_nil, hs, hx, hrun]
  exact hK _ _ (h v1 w1 h2 h3 h4)
/-- The new element stands in any block. -/
theorem run_appX3 (k : XKind α) {e : TypeId} {W : World} {R R' : Nat → Prop} {B : Nat} {v : Value} {xs : List α} (HO : AppX k e W R B v xs) (hRR : ∀ b, R b → R' b) (t ty : TypeId) (z : Value) (bytes : Nat)
    (ht : P.underlying t = some (.slice e)) (hinfo : (P.info? e).map (fun i => (i.zero, i.size, i.bytes)) = some (some z, k.d.sz, bytes)) (hz : z.cells.size = k.d.sz) (hs0 : 0 < k.d.sz)
    (p : α) (cs : List Value) (G : Nat → Prop) (g : Nat) (hcs : ∀ j u, cs[j]? = some u → W.cell? ⟨g, j, none⟩ = some u) (hp : k.X W G p cs) (hG : ∀ b, G b → R' b ∧ ¬ R b) (h1 : ∀ u ∈ cs, u.oneCell' = true)
    (hnew : ∀ b, W.heap.size ≤ b → R' b) (h63 : xs.length + 1 ≤ 1099511627776) (hl : (xs.length + 1) * bytes ≤ 140737488355328) :
    ∃ v1 w1, (Builtin.append_ #[t, t] ty #[v, .slice (some ⟨g, 0, none⟩) 1 1]).run P W = .ok v1 w1 ∧ AppX k e w1 R' w1.heap.size v1 (xs ++ [p]) ∧ Chg (fun b => v.ownBlock = some b) W w1 ∧
      (v1.ownBlock = v.ownBlock ∨ ∃ b, v1.ownBlock = some b ∧ W.heap.size ≤ b) := by
  obtain ⟨h0, Fs, inner, hown, hgo, hd, hF, hE⟩ := HO
  obtain ⟨i0, hi, hz0, hz1, hz2⟩ := info_of hinfo
  have hlen := k.d.len (k.toK hp)
  obtain ⟨v', w', hrun, h2, h3, _, h5⟩ := run_append_own_at (P := P) W 0 t ty e i0 z k.d.sz bytes ht hi hz0 hz1 hz2 hz hs0 v xs.length inner hown
    ⟨g, 0, none⟩ 1 1 cs (by rw [hlen]; omega) (fun j u hu => by
      have hadd : (⟨g, 0, none⟩ : Addr).add j = ⟨g, j, none⟩ := by unfold Addr.add; split <;> simp_all
      rw [hadd]
      exact hcs j u hu) h1 (by simp only [maxLen]; omega) (by exact hl) (by simp)
  have hg : Chg (fun b => v.ownBlock = some b) W w' := ⟨h3.os, h3.tape, h3.output, h3.size, fun b hb hn => h3.block b hb (fun e => hn e.symm)⟩
  have hat : v'.ownBlock = v.ownBlock ∨ ∃ b, v'.ownBlock = some b ∧ W.heap.size ≤ b := by
    rcases h5 with h5 | h5
    · exact .inl h5
    · exact .inr ⟨_, h5, Nat.le_refl _⟩
  exact ⟨v', w', hrun, AppX.add (P := R') hown hd (fun i b q => ⟨hRR b (hF i b q).1, (hF i b q).2⟩) (fun g hg => ⟨hRR g (hgo g hg).1, (hgo g hg).2⟩) h0 hE hp (fun b hb => ⟨(hG b hb).1, fun h => (hG b hb).2 (hgo b h).1, fun i q => (hG b hb).2 (hF i b q).1⟩) (by simpa using h2) hg hnew hat, hg, hat⟩
theorem cells_at {w : World} {g : Nat} {cs : List Value} {e : TypeId} (h : w.heap[g]? = some (.cells cs.toArray e (0, 0))) : ∀ j u, cs[j]? = some u → w.cell? ⟨g, j, none⟩ = some u := fun j u hu => by
  rw [cell_of_row _ _ _ _ _ _ h]
  simpa using hu
theorem XKind.below {k : XKind α} {w w' : World} {F : Nat → Prop} {x : α} {cs : List Value} (h : k.X w F x cs) (hb : Below w.heap.size w w') : k.X w' F x cs := k.keep (Same.of_below hb) hb.size h
theorem step_appX3 (k : XKind α) {e : TypeId} {W : World} {R R' : Nat → Prop} {B : Nat} {v : Value} {xs : List α} {K : Act → World → Prop} {E : Prop} (HO : AppX k e W R B v xs) (hRR : ∀ b, R b → R' b) (hgd : o.guard = none) (s x : Operand) (t : TypeId) (z : Value) (bytes : Nat)
    (ho : o.op = .call { callee := .builtin .append, args := #[s, x], argTypes := #[t, t] })
    (ht : P.underlying t = some (.slice e)) (hinfo : (P.info? e).map (fun i => (i.zero, i.size, i.bytes)) = some (some z, k.d.sz, bytes)) (hz : z.cells.size = k.d.sz) (hs0 : 0 < k.d.sz)
    (p : α) (cs : List Value) (G : Nat → Prop) (g : Nat) (hs : a.eval s = v) (hx : a.eval x = .slice (some ⟨g, 0, none⟩) 1 1) (hcs : ∀ j u, cs[j]? = some u → W.cell? ⟨g, j, none⟩ = some u)
    (hp : k.X W G p cs) (hG : ∀ b, G b → R' b ∧ ¬ R b) (h1 : ∀ u ∈ cs, u.oneCell' = true)
    (hnew : ∀ b, W.heap.size ≤ b → R' b) (h63 : xs.length + 1 ≤ 1099511627776) (hl : (xs.length + 1) * bytes ≤ 140737488355328)
    (h : ∀ v1 w1, AppX k e w1 R' w1.heap.size v1 (xs ++ [p]) → Chg (fun b => v.ownBlock = some b) W w1 → (v1.ownBlock = v.ownBlock ∨ ∃ b, v1.ownBlock = some b ∧ W.heap.size ≤ b) → K (a.put o.dst v1) w1) :
    if Region.wanted o (yielded ops a.tmps) = true then Oper.wp P o a W K Q else E := by
  have hw : Region.wanted o (yielded ops a.tmps) = true := by simp [Region.wanted, hgd]
  rw [if_pos hw]
  obtain ⟨v1, w1, hrun, h2, h3, h4⟩ := run_appX3 (P := P) k HO hRR t o.type z bytes ht hinfo hz hs0 p cs G g hcs hp hG h1 hnew h63 hl
  unfold Oper.wp execOp
  simp only [ho, resolve, invoke, builtin, Sem.run_bind, Sem.run_pure, Result.andThen_ok, List.map_toArray, List.map_cons, List.map_nil, hs, hx, hrun]
  exact h v1 w1 h2 h3 h4
/-- .. at a step of a region that draws, inside a fence. -/
theorem stepIn_appX {F : Fence} {n : Nat} (k : XKind α) {e : TypeId} {W : World} {R : Nat → Prop} {B : Nat} {v : Value} {xs : List α} {K : Act → World → Prop} {E : Prop} (HO : AppX k e W R B v xs) (hgd : o.guard = none) (s x : Operand) (t : TypeId) (z : Value) (bytes : Nat)
    (ho : o.op = .call { callee := .builtin .append, args := #[s, x], argTypes := #[t, t] })
    (ht : P.underlying t = some (.slice e)) (hinfo : (P.info? e).map (fun i => (i.zero, i.size, i.bytes)) = some (some z, k.d.sz, bytes)) (hz : z.cells.size = k.d.sz) (hs0 : 0 < k.d.sz)
    (p : α) (cs : List Value) (G : Nat → Prop) (hs : a.eval s = v) (hx : a.eval x = .slice (some ⟨W.heap.size, 0, none⟩) 1 1)
    (hp : k.X W G p cs) (hG : ∀ b, G b → R b ∧ B ≤ b) (h1 : ∀ u ∈ cs, u.oneCell' = true)
    (hnew : ∀ b, W.heap.size ≤ b → R b) (h63 : xs.length + 1 ≤ 1099511627776) (hl : (xs.length + 1) * bytes ≤ 140737488355328)
    (h : ∀ v1 w1, AppX k e w1 R w1.heap.size v1 (xs ++ [p]) → Chg (fun b => v.ownBlock = some b) W w1 → (v1.ownBlock = v.ownBlock ∨ ∃ b, v1.ownBlock = some b ∧ W.heap.size ≤ b) → K (a.put o.dst v1) w1) :
    if Region.wanted o (yielded ops a.tmps) = true then Oper.wpIn F n P o a (W.alloc (.cells cs.toArray e)) K Q else E := by
  have hw : Region.wanted o (yielded ops a.tmps) = true := by simp [Region.wanted, hgd]
  rw [if_pos hw]
  obtain ⟨v1, w1, hrun, h2, h3, h4⟩ := run_appX (P := P) k HO t o.type z bytes ht hinfo hz hs0 p cs G hp hG h1 hnew h63 hl
  unfold Oper.wpIn
  refine ⟨by simp [Oper.about, ho, resolve, Target.leads, Sem.run_pure], ?_⟩
  rw [Oper.semAt_plain F _ _ (by rw [ho]; intro c hc'; cases hc')]
  simp [execOp, ho, resolve, invoke, builtin, hs, hx, hrun, Result.andThen]
  exact h v1 w1 h2 h3 h4
end

/-- Own ints, as a row whose parts are apart. -/
theorem AppP.xints {e : TypeId} {w : World} {P : Nat → Prop} {v : Value} {xs : List Int} (h : AppP (Kind.int .i64) e w P v xs) : ∃ A c, v = .slice A xs.length c ∧ XInts e w (fun b => v.ownBlock = some b) A c xs := by
  obtain ⟨A, c, rfl, h1, h2⟩ := h.slice_
  obtain ⟨F, inner, ho, hP, hF, hE⟩ := h
  refine ⟨A, c, rfl, h1, h2, fun hx => ?_⟩
  rcases id ho.2 with ⟨_, hn⟩ | ⟨g, cap, cur, hv, _, hh, k1, k2, k3, k4⟩
  · exact absurd (List.eq_nil_of_length_eq_zero hn) hx
  · injection hv with hv1 hv2 hv3
    subst hv1
    refine ⟨g, cap * 1, rfl, rfl, ⟨cur, hh, k3⟩, Nat.mul_le_mul_right _ (by omega), fun _ _ => False, fun _ _ _ h => h.elim, fun _ _ h => h.elim, fun j x hj => ?_⟩
    obtain ⟨cs, hX, hc⟩ := hE j x hj
    refine ⟨cs, hX, fun i u hu => ?_⟩
    have := ho.cells (g := g) rfl _ _ (hc i u hu)
    have hadd : (⟨g, 0, none⟩ : Addr).add (j * (Kind.int .i64).sz + i) = ⟨g, j * (Kind.int .i64).sz + i, none⟩ := by unfold Addr.add; split <;> simp_all
    rw [hadd] at this
    exact this
theorem Copied.x {w w' : World} {r : Rec} {vk vv : Value} (h : Copied w w' r vk vv) : (XKind.rec_ 3).X w' (fun b => w.heap.size ≤ b ∧ b < w'.heap.size) r [.int .i64 r.off, .int .i64 r.time, .bool r.hk, vk, .bool r.hv, vv] := by
  obtain ⟨A, c, e1, hA⟩ := h.key.xints
  obtain ⟨A', c', e2, hA'⟩ := h.val.xints
  refine ⟨A, c, A', c', by rw [e1, e2], fun b => vk.ownBlock = some b, fun b => vv.ownBlock = some b, fun b h1 h2 => h.apart b h1 h2, fun b hb => ⟨own_ge h.key b hb, AppP.own_lt h.key hb⟩, fun b hb => ⟨own_ge h.val b hb, AppP.own_lt h.val hb⟩, fun b hb => ?_, hA, hA'⟩
  rcases hb with hb | hb
  · exact AppP.own_lt h.key hb
  · exact AppP.own_lt h.val hb
abbrev RX : XKind Rec := XKind.rec_ 3
abbrev BX : XKind Bat := XKind.bat 3 46
end Go.Proofs.YtgnjnpfeofhniaaDoor
