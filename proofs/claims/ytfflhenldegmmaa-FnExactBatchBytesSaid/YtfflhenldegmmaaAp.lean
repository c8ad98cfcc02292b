/- Rows that a call makes and appends to. -/
import Derived.Test.YtfflhenldegmmaaGr
import Derived.Maps.AppendAt
import Derived.Laws.Rows
import Derived.Deep.RegionLaw
import Derived.BigRegion
namespace Go.Proofs.Ytfflhenldegmmaa
set_option linter.unusedVariables false
set_option linter.unusedSimpArgs false
open Go.RowKit

theorem Chg.setNew {F : Nat → Prop} {a b : World} (h : Chg F a b) {p : Addr} (hp : a.heap.size ≤ p.block) (u : Value) : Chg F a (b.setCell p u) :=
  ⟨h.os, h.tape, h.output, by simpa using h.size, fun i hi hn => (Below.heap_setCell b p u i (by omega)).trans (h.block i hi hn)⟩
theorem Chg.alloc {F : Nat → Prop} {a b : World} (h : Chg F a b) (o : Obj) : Chg F a (b.alloc o) :=
  ⟨h.os, h.tape, h.output, Nat.le_trans h.size (by simp), fun i hi hn => (Below.heap_alloc b o i (Nat.lt_of_lt_of_le hi h.size)).trans (h.block i hi hn)⟩
theorem Chg.drew {F : Nat → Prop} {a b : World} (h : Chg F a b) : Chg F a b.drew := ⟨h.os, h.tape, h.output, h.size, h.block⟩
theorem Chg.drewN {F : Nat → Prop} {a b : World} (h : Chg F a b) (n : Nat) : Chg F a (b.drewN n) := ⟨h.os, h.tape, h.output, h.size, h.block⟩
/-- .. and then a change of blocks that were not there. -/
theorem Chg.then {F G : Nat → Prop} {a b c : World} (h : Chg F a b) (k : Chg G b c) (hG : ∀ i, i < a.heap.size → G i → F i) : Chg F a c :=
  ⟨k.os.trans h.os, k.tape.trans h.tape, k.output.trans h.output, Nat.le_trans h.size k.size, fun i hi hn => (k.block i (Nat.lt_of_lt_of_le hi h.size) (fun hg => hn (hG i hi hg))).trans (h.block i hi hn)⟩
theorem Chg.blk {F : Nat → Prop} {a b : World} (h : Chg F a b) {g : Nat} {o : Obj} (hb : a.heap[g]? = some o) (hn : ¬ F g) : b.heap[g]? = some o :=
  (h.block g (Array.getElem?_eq_some_iff.1 hb).1 hn).trans hb

/-- A row of one's own that can be appended to; it and what the elements lead to lie in blocks of P. -/
def AppP {α : Type} (d : Kind α) (e : TypeId) (w : World) (P : Nat → Prop) (v : Value) (xs : List α) : Prop :=
  ∃ (F : Nat → Prop) (inner : List Value), w.ownsRow 0 e d.sz v xs.length inner ∧ (∀ k, v.ownBlock = some k → P k) ∧ (∀ b, F b → P b ∧ b < w.heap.size ∧ v.ownBlock ≠ some b) ∧
    ∀ j x, xs[j]? = some x → ∃ cs, d.K w F x cs ∧ ∀ i u, cs[i]? = some u → inner[j * d.sz + i]? = some u
abbrev App {α : Type} (d : Kind α) (e : TypeId) (w : World) (base : Nat) (v : Value) (xs : List α) : Prop := AppP d e w (fun b => base ≤ b) v xs

section
variable {α : Type} {d : Kind α} {e : TypeId} {w w' : World} {P : Nat → Prop} {v : Value} {xs : List α}
theorem own_moved {base size n : Nat} {inner : List Value} (h : w.ownsRow base e size v n inner) (hm : ∀ k, v.ownBlock = some k → w'.heap[k]? = w.heap[k]?) : w'.ownsRow base e size v n inner := by
  obtain ⟨h1, h2⟩ := h
  refine ⟨h1, ?_⟩
  rcases h2 with h2 | ⟨g, cap, cur, rfl, hg, hh, r⟩
  · exact .inl h2
  · exact .inr ⟨g, cap, cur, rfl, hg, (hm g (by simp [Value.ownBlock])).trans hh, r⟩
theorem AppP.keep (h : AppP d e w P v xs) (hs : Same P w w') (hsz : w.heap.size ≤ w'.heap.size) : AppP d e w' P v xs := by
  obtain ⟨F, inner, ho, hP, hF, hE⟩ := h
  refine ⟨F, inner, own_moved ho (fun k hk => hs k (hP k hk) (ho.lt k hk).2), hP, fun b hb => ⟨(hF b hb).1, Nat.lt_of_lt_of_le (hF b hb).2.1 hsz, (hF b hb).2.2⟩, fun j x hj => ?_⟩
  obtain ⟨cs, hK, hc⟩ := hE j x hj
  exact ⟨cs, d.keep (fun b hb hlt => hs b (hF b hb).1 hlt) hK, hc⟩
theorem AppP.chg {G : Nat → Prop} (h : AppP d e w P v xs) (hc : Chg G w w') (hG : ∀ b, b < w.heap.size → P b → ¬ G b) : AppP d e w' P v xs := h.keep (hc.same hG) hc.size
theorem AppP.below (h : AppP d e w P v xs) (hb : Below w.heap.size w w') : AppP d e w' P v xs := h.keep (Same.of_below hb) hb.size
theorem AppP.mono {P' : Nat → Prop} (h : AppP d e w P v xs) (hp : ∀ b, b < w.heap.size → P b → P' b) : AppP d e w P' v xs := by
  obtain ⟨F, inner, ho, hP, hF, hE⟩ := h
  exact ⟨F, inner, ho, fun k hk => hp k (ho.lt k hk).2 (hP k hk), fun b hb => ⟨hp b (hF b hb).2.1 (hF b hb).1, (hF b hb).2⟩, hE⟩
theorem AppP.nil (d : Kind α) (e : TypeId) (w : World) (P : Nat → Prop) : AppP d e w P (.slice none 0 0) [] :=
  ⟨fun _ => False, [], World.ownsRow_nil _ _ _ _, fun _ h => by simp [Value.ownBlock] at h, fun _ h => h.elim, fun j x hj => by simp at hj⟩
/-- A literal without elements. -/
theorem App.lit (d : Kind α) (e : TypeId) (w : World) (base : Nat) (hb : base ≤ w.heap.size) : App d e (w.alloc (.cells #[] e)) base (.slice (some ⟨w.heap.size, 0, none⟩) 0 0) [] :=
  ⟨fun _ => False, [], World.ownsRow_made w #[] 0 (Nat.zero_le _) (by simp [maxLen]) (by simp), fun k h => by simp [Value.ownBlock] at h; omega, fun _ h => h.elim, fun j x hj => by simp at hj⟩
theorem AppP.slice_ (h : AppP d e w P v xs) : ∃ A c, v = .slice A xs.length c ∧ xs.length ≤ c ∧ c ≤ 9223372036854775807 := by
  obtain ⟨F, inner, ho, _, _, _⟩ := h
  rcases ho.2 with ⟨rfl, hn⟩ | ⟨g, cap, cur, rfl, _, _, h1, h2, _⟩
  · exact ⟨none, 0, by rw [hn], by omega, by omega⟩
  · unfold maxLen at h2
    exact ⟨_, cap, rfl, h1, by omega⟩
theorem AppP.row (h : AppP d e w P v xs) : ∃ A c, v = .slice A xs.length c ∧ d.Row w P A c xs := by
  obtain ⟨A, c, rfl, h1, h2⟩ := h.slice_
  refine ⟨A, c, rfl, h1, h2, fun hx => ?_⟩
  obtain ⟨F, inner, ho, hP, hF, hE⟩ := h
  rcases ho.2 with ⟨_, hn⟩ | ⟨g, cap, cur, hv, hg, hh, _⟩
  · exact absurd (List.eq_nil_of_length_eq_zero hn) hx
  · have hA : A = some ⟨g, 0, none⟩ := by injection hv
    subst hA
    refine ⟨_, rfl, hP g (by simp [Value.ownBlock]), fun j x hj => ?_⟩
    obtain ⟨cs, hK, hc⟩ := hE j x hj
    exact ⟨cs, d.mono (fun b hb => (hF b hb).1) hK, fun i u hu => ho.cells (g := g) rfl _ _ (hc i u hu)⟩
theorem App.from {base base' : Nat} (h : App d e w base v xs) (hb : base' ≤ base) : App d e w base' v xs := AppP.mono h (fun _ _ h => Nat.le_trans hb h)
theorem AppP.ne (h : AppP d e w P v xs) {k : Nat} (hk : v.ownBlock = some k) : P k := by
  obtain ⟨F, inner, _, hP, _⟩ := h
  exact hP k hk
theorem AppP.own_lt (h : AppP d e w P v xs) {k : Nat} (hk : v.ownBlock = some k) : k < w.heap.size := by
  obtain ⟨F, inner, ho, _, _⟩ := h
  exact (ho.lt k hk).2
theorem AppP.get (h : AppP d e w P v xs) {j : Nat} (hj : j < xs.length) : ∃ ad c cs, v = .slice (some ad) xs.length c ∧ d.K w (fun b => P b ∧ b < w.heap.size ∧ v.ownBlock ≠ some b) xs[j] cs ∧ ∀ i u, cs[i]? = some u → w.cell? (ad.add (j * d.sz + i)) = some u := by
  obtain ⟨F, inner, ho, hP, hF, hE⟩ := h
  obtain ⟨cs, hK, hc⟩ := hE j _ (List.getElem?_eq_getElem hj)
  rcases ho.2 with ⟨_, hn⟩ | ⟨g, cap, cur, hv, hg, hh, _⟩
  · omega
  · exact ⟨_, cap, cs, hv, d.mono hF hK, fun i u hu => by subst hv; exact ho.cells (g := g) rfl _ _ (hc i u hu)⟩

/-- One more. W: the world ahead of the literal that holds the new element's cells. -/
theorem AppP.add {W w1 : World} {v1 : Value} {p : α} {cs inner : List Value} {F G : Nat → Prop} (ho : W.ownsRow 0 e d.sz v xs.length inner)
    (hF : ∀ b, F b → P b ∧ b < W.heap.size ∧ v.ownBlock ≠ some b) (hE : ∀ j x, xs[j]? = some x → ∃ cs, d.K W F x cs ∧ ∀ i u, cs[i]? = some u → inner[j * d.sz + i]? = some u)
    (hp : d.K W G p cs) (hG : ∀ b, G b → P b ∧ b < W.heap.size ∧ v.ownBlock ≠ some b) (hown : w1.ownsRow 0 e d.sz v1 (xs.length + 1) (inner ++ cs)) (hg : Chg (fun b => v.ownBlock = some b) W w1)
    (hP : ∀ k, v.ownBlock = some k → P k) (hnew : ∀ b, W.heap.size ≤ b → P b)
    (hat : v1.ownBlock = v.ownBlock ∨ ∃ b, v1.ownBlock = some b ∧ W.heap.size ≤ b) : AppP d e w1 P v1 (xs ++ [p]) := by
  have hlen := d.len hp
  have hin : inner.length = xs.length * d.sz := ho.1
  have hne : ∀ b, b < W.heap.size → v.ownBlock ≠ some b → v1.ownBlock ≠ some b := by
    intro b hb hn
    rcases hat with h | ⟨k, hk, hle⟩
    · rw [h]; exact hn
    · rw [hk]; intro h; injection h with h; omega
  refine ⟨fun b => F b ∨ G b, inner ++ cs, by simpa using hown, ?_, ?_, ?_⟩
  · intro k hk
    rcases hat with h | ⟨k', hk', hle⟩
    · exact hP k (by rw [← h]; exact hk)
    · rw [hk'] at hk
      injection hk with hk
      exact hnew k (by omega)
  · rintro b (hb | hb)
    · obtain ⟨h1, h2, h3⟩ := hF b hb
      exact ⟨h1, Nat.lt_of_lt_of_le h2 hg.size, hne b h2 h3⟩
    · obtain ⟨h1, h2, h3⟩ := hG b hb
      exact ⟨h1, Nat.lt_of_lt_of_le h2 hg.size, hne b h2 h3⟩
  · intro j x hj
    by_cases hjl : j < xs.length
    · rw [List.getElem?_append_left hjl] at hj
      obtain ⟨ds, hK, hc⟩ := hE j x hj
      refine ⟨ds, d.mono (fun b hb => .inl hb) (d.keep (hg.same (fun b hlt hb => (hF b hb).2.2)) hK), fun i u hu => ?_⟩
      have hil : i < d.sz := by rw [← d.len hK]; exact (List.getElem?_eq_some_iff.1 hu).1
      have : j * d.sz + d.sz ≤ xs.length * d.sz := by rw [← Nat.succ_mul]; exact Nat.mul_le_mul_right _ hjl
      rw [List.getElem?_append_left (by omega)]
      exact hc i u hu
    · have hjeq : j = xs.length := by
        have := (List.getElem?_eq_some_iff.1 hj).1
        simp at this
        omega
      subst hjeq
      rw [List.getElem?_append_right (Nat.le_refl _)] at hj
      simp at hj
      subst hj
      refine ⟨cs, d.mono (fun b hb => .inr hb) (d.keep (hg.same (fun b hlt hb => (hG b hb).2.2)) hp), fun i u hu => ?_⟩
      rw [List.getElem?_append_right (by omega), hin]
      simpa using hu
/-- A literal of one element. -/
theorem AppP.one {p : α} {cs : List Value} {G : Nat → Prop} (hp : d.K w G p cs) (hG : ∀ b, G b → P b ∧ b < w.heap.size) (hnew : P w.heap.size) :
    AppP d e (w.alloc (.cells cs.toArray e)) P (.slice (some ⟨w.heap.size, 0, none⟩) 1 1) [p] := by
  have hl := d.len hp
  have ho : (w.alloc (.cells cs.toArray e)).ownsRow 0 e d.sz (.slice (some ⟨w.heap.size, 0, none⟩) 1 1) 1 cs :=
    ⟨by simp [hl], .inr ⟨w.heap.size, 1, cs.toArray, rfl, Nat.zero_le _, heap_alloc_new w _, Nat.le_refl _, by simp [maxLen], by simp [hl], by simp [← hl]⟩⟩
  refine ⟨G, cs, ho, fun k hk => by simp [Value.ownBlock] at hk; subst hk; exact hnew, fun b h => ⟨(hG b h).1, by simp; have := (hG b h).2; omega, fun h' => by simp [Value.ownBlock] at h'; have := (hG b h).2; omega⟩, fun j x hj => ?_⟩
  cases j with
  | zero =>
    simp at hj
    subst hj
    exact ⟨cs, d.keep (Same.of_below (Below.alloc (Below.refl _ _) (Nat.le_refl _) _)) hp, fun i u hu => by simpa using hu⟩
  | succ j => simp at hj
end

section
variable {P : Program} {ops : Array Oper} {rest : List Oper} {o : Oper} {a : Act} {Q : Exit → Act → World → Prop} {α : Type}
/-- append(v, p), behind 'at_builtin'. -/
theorem wpList_appP (d : Kind α) {e : TypeId} {W : World} {R : Nat → Prop} {v : Value} {xs : List α} (HO : AppP d e W R v xs) (hgd : o.guard = none) (s x : Operand) (t : TypeId) (z : Value) (bytes : Nat)
    (ho : o.op = .call { callee := .builtin .append, args := #[s, x], argTypes := #[t, t] })
    (ht : P.underlying t = some (.slice e)) (hinfo : (P.info? e).map (fun i => (i.zero, i.size, i.bytes)) = some (some z, d.sz, bytes)) (hz : z.cells.size = d.sz) (hs0 : 0 < d.sz)
    (p : α) (cs : List Value) (G : Nat → Prop) (hs : a.eval s = v) (hx : a.eval x = .slice (some ⟨W.heap.size, 0, none⟩) 1 1)
    (hp : d.K W G p cs) (hG : ∀ b, G b → R b ∧ b < W.heap.size ∧ v.ownBlock ≠ some b) (h1 : ∀ u ∈ cs, u.oneCell' = true)
    (hnew : ∀ b, W.heap.size ≤ b → R b) (h63 : xs.length + 1 ≤ 1099511627776) (hl : (xs.length + 1) * bytes ≤ 140737488355328)
    (h : ∀ v1 w1, AppP d e w1 R v1 (xs ++ [p]) → Chg (fun b => v.ownBlock = some b) W w1 → wpList P ops Q rest (a.put o.dst v1) w1) :
    wpList P ops Q (o :: rest) a (W.alloc (.cells cs.toArray e)) := by
  obtain ⟨F, inner, hown, hP, hF, hE⟩ := HO
  obtain ⟨i0, hi, hz0, hz1, hz2⟩ := info_of hinfo
  have hlen := d.len hp
  refine wpList_plain hgd fun K hK => ?_
  obtain ⟨v', w', hrun, h2, h3, _, h5⟩ := run_append_own_at (P := P) (W.alloc (.cells cs.toArray e)) 0 t o.type e i0 z d.sz bytes ht hi hz0 hz1 hz2 hz hs0 v xs.length inner (hown.alloc _)
    ⟨W.heap.size, 0, none⟩ 1 1 cs (by rw [hlen]; omega) (fun j u hu => by
      have hadd : (⟨W.heap.size, 0, none⟩ : Addr).add j = ⟨W.heap.size, j, none⟩ := by unfold Addr.add; split <;> simp_all
      rw [hadd, cell_of_row _ _ _ _ _ _ (heap_alloc_new W (.cells cs.toArray e))]
      simpa using hu) h1 (by simp only [maxLen]; omega) (by exact hl) (by simp)
  unfold Oper.wp execOp
  simp only [ho, resolve, invoke, builtin, Sem.run_bind, Sem.run_pure, Result.andThen_ok, List.map_toArray, List.map_cons, List.map_nil, hs, hx, hrun]
  have hsz : (W.alloc (.cells cs.toArray e)).heap.size = W.heap.size + 1 := by simp
  have hg : Chg (fun b => v.ownBlock = some b) W w' := ⟨h3.os, h3.tape, h3.output, by have := h3.size; rw [hsz] at this; omega, fun b hb hn => (h3.block b (by rw [hsz]; omega) (fun e => hn e.symm)).trans (Below.heap_alloc W _ b hb)⟩
  refine hK _ _ (h v' w' (AppP.add hown hF hE hp hG (by simpa using h2) hg hP hnew ?_) hg)
  rcases h5 with h5 | h5
  · exact .inl h5
  · exact .inr ⟨_, h5, by rw [hsz]; omega⟩
/-- .. at a step of a region that draws. -/
theorem step_appP (d : Kind α) {e : TypeId} {W : World} {R : Nat → Prop} {v : Value} {xs : List α} {K : Act → World → Prop} {E : Prop} (HO : AppP d e W R v xs) (hgd : o.guard = none) (s x : Operand) (t : TypeId) (z : Value) (bytes : Nat)
    (ho : o.op = .call { callee := .builtin .append, args := #[s, x], argTypes := #[t, t] })
    (ht : P.underlying t = some (.slice e)) (hinfo : (P.info? e).map (fun i => (i.zero, i.size, i.bytes)) = some (some z, d.sz, bytes)) (hz : z.cells.size = d.sz) (hs0 : 0 < d.sz)
    (p : α) (cs : List Value) (G : Nat → Prop) (hs : a.eval s = v) (hx : a.eval x = .slice (some ⟨W.heap.size, 0, none⟩) 1 1)
    (hp : d.K W G p cs) (hG : ∀ b, G b → R b ∧ b < W.heap.size ∧ v.ownBlock ≠ some b) (h1 : ∀ u ∈ cs, u.oneCell' = true)
    (hnew : ∀ b, W.heap.size ≤ b → R b) (h63 : xs.length + 1 ≤ 1099511627776) (hl : (xs.length + 1) * bytes ≤ 140737488355328)
    (h : ∀ v1 w1, AppP d e w1 R v1 (xs ++ [p]) → Chg (fun b => v.ownBlock = some b) W w1 → K (a.put o.dst v1) w1) :
    if Region.wanted o (yielded ops a.tmps) = true then Oper.wp P o a (W.alloc (.cells cs.toArray e)) K Q else E := by
  have hw : Region.wanted o (yielded ops a.tmps) = true := by simp [Region.wanted, hgd]
  rw [if_pos hw]
  obtain ⟨F, inner, hown, hP, hF, hE⟩ := HO
  obtain ⟨i0, hi, hz0, hz1, hz2⟩ := info_of hinfo
  have hlen := d.len hp
  obtain ⟨v', w', hrun, h2, h3, _, h5⟩ := run_append_own_at (P := P) (W.alloc (.cells cs.toArray e)) 0 t o.type e i0 z d.sz bytes ht hi hz0 hz1 hz2 hz hs0 v xs.length inner (hown.alloc _)
    ⟨W.heap.size, 0, none⟩ 1 1 cs (by rw [hlen]; omega) (fun j u hu => by
      have hadd : (⟨W.heap.size, 0, none⟩ : Addr).add j = ⟨W.heap.size, j, none⟩ := by unfold Addr.add; split <;> simp_all
      rw [hadd, cell_of_row _ _ _ _ _ _ (heap_alloc_new W (.cells cs.toArray e))]
      simpa using hu) h1 (by simp only [maxLen]; omega) (by exact hl) (by simp)
  unfold Oper.wp execOp
  simp only [ho, resolve, invoke, builtin, Sem.run_bind, Sem.run_pure, Result.andThen_ok, List.map_toArray, List.map_cons, List.map_nil, hs, hx, hrun]
  have hsz : (W.alloc (.cells cs.toArray e)).heap.size = W.heap.size + 1 := by simp
  have hg : Chg (fun b => v.ownBlock = some b) W w' := ⟨h3.os, h3.tape, h3.output, by have := h3.size; rw [hsz] at this; omega, fun b hb hn => (h3.block b (by rw [hsz]; omega) (fun e => hn e.symm)).trans (Below.heap_alloc W _ b hb)⟩
  refine h v' w' (AppP.add hown hF hE hp hG (by simpa using h2) hg hP hnew ?_) hg
  rcases h5 with h5 | h5
  · exact .inl h5
  · exact .inr ⟨_, h5, by rw [hsz]; omega⟩
theorem wpList_app (d : Kind α) {e : TypeId} {W : World} {base : Nat} {v : Value} {xs : List α} (HO : App d e W base v xs) (hgd : o.guard = none) (s x : Operand) (t : TypeId) (z : Value) (bytes : Nat)
    (ho : o.op = .call { callee := .builtin .append, args := #[s, x], argTypes := #[t, t] })
    (ht : P.underlying t = some (.slice e)) (hinfo : (P.info? e).map (fun i => (i.zero, i.size, i.bytes)) = some (some z, d.sz, bytes)) (hz : z.cells.size = d.sz) (hs0 : 0 < d.sz)
    (p : α) (cs : List Value) (G : Nat → Prop) (hs : a.eval s = v) (hx : a.eval x = .slice (some ⟨W.heap.size, 0, none⟩) 1 1)
    (hp : d.K W G p cs) (hG : ∀ b, G b → base ≤ b ∧ b < W.heap.size ∧ v.ownBlock ≠ some b) (h1 : ∀ u ∈ cs, u.oneCell' = true)
    (hbase : base ≤ W.heap.size) (h63 : xs.length + 1 ≤ 1099511627776) (hl : (xs.length + 1) * bytes ≤ 140737488355328)
    (h : ∀ v1 w1, App d e w1 base v1 (xs ++ [p]) → Chg (fun b => v.ownBlock = some b) W w1 → wpList P ops Q rest (a.put o.dst v1) w1) :
    wpList P ops Q (o :: rest) a (W.alloc (.cells cs.toArray e)) :=
  wpList_appP d HO hgd s x t z bytes ho ht hinfo hz hs0 p cs G hs hx hp hG h1 (fun _ h => Nat.le_trans hbase h) h63 hl h
end
end Go.Proofs.Ytfflhenldegmmaa
