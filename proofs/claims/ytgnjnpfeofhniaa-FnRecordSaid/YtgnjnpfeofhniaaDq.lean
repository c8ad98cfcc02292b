/- The draw of a record and two numbers. A region that draws its order, by one invariant. -/
import Derived.Test.YtgnjnpfeofhniaaD6
namespace Go.Proofs.Ytgnjnpfeofhniaa
set_option linter.unusedVariables false
set_option linter.unusedSimpArgs false
open Go.RowKit

/-- A region that draws its order: an operation at a time, under one invariant. -/
theorem wpAny_inv {P : Program} {md : Region.Mode} {ops : Array Oper} {Q : Exit → Act → World → Prop} (Inv : Array Bool → Act → World → Prop)
    (step : ∀ (listed : Array Bool) (a : Act) (w : World) (i : Nat), Inv listed a w → listed.size = ops.size → i ∈ Region.ready md ops listed → wpOp P ops Q i (fun a' w' => Inv (listed.setIfInBounds i true) a' w') a w)
    (fin : ∀ (listed : Array Bool) (a : Act) (w : World), Inv listed a w → listed.size = ops.size → Region.ready md ops listed = [] → Q .normal a w) :
    ∀ (fuel : Nat) (listed : Array Bool) (a : Act) (w : World), listed.size = ops.size → listed.toList.count false ≤ fuel → Inv listed a w → wpAny P md ops Q fuel listed a w := by
  intro fuel
  induction fuel with
  | zero =>
    intro listed a w hs hc hI
    have hr : Region.ready md ops listed = [] := by
      cases hr : Region.ready md ops listed with
      | nil => rfl
      | cons i rs =>
        have hi : i ∈ Region.ready md ops listed := by rw [hr]; simp
        obtain ⟨h0, o, ho, _⟩ := mem_ready.1 hi
        have hlt : i < listed.size := by rw [hs]; exact (Array.getElem?_eq_some_iff.1 ho).1
        have h1 : listed.getD i true = listed[i] := by simp [Array.getD, hlt]
        have hm : false ∈ listed.toList := by
          rw [← h0, h1]
          simp
        have := List.count_pos_iff.2 hm
        omega
    exact ⟨hr, fin _ _ _ hI hs hr⟩
  | succ n ih =>
    intro listed a w hs hc hI
    refine ⟨fun hr => fin _ _ _ hI hs hr, fun i hi => wpOp_mono (fun a' w' h' => ih _ a' w' (by simp [hs]) ?_ h') (step listed a w i hI hs hi)⟩
    obtain ⟨h0, o, ho, _⟩ := mem_ready.1 hi
    have hlt : i < listed.size := by rw [hs]; exact (Array.getElem?_eq_some_iff.1 ho).1
    have h1 : listed.getD i true = listed[i] := by simp [Array.getD, hlt]
    rw [Array.toList_setIfInBounds, List.count_set (by simpa using hlt)]
    have h2 : listed.toList[i]'(by simpa using hlt) = false := by rw [← h0, h1]; simp
    have e1 : ((false : Bool) == false) = true := rfl
    have e2 : ((true : Bool) == false) = false := rfl
    rw [h2, e1, e2, if_pos rfl, if_neg (by decide)]
    omega
theorem dep {md : Region.Mode} {ops : Array Oper} {L : Array Bool} {i : Nat} (hi : i ∈ Region.ready md ops L) (j : Nat) (hj : (ops[i]?).map (fun o => o.after.any (fun e => e.on == j && Region.binds md e)) = some true) : L.getD j false = true := by
  obtain ⟨_, o, ho, hall⟩ := mem_ready.1 hi
  rw [ho] at hj
  simp only [Option.map_some, Option.some.injEq, Array.any_eq_true, Bool.and_eq_true, beq_iff_eq] at hj
  obtain ⟨x, hx, h1, h2⟩ := hj
  rw [← h1]
  exact hall _ (Array.getElem_mem hx) h2
theorem ready_lt {md : Region.Mode} {ops : Array Oper} {L : Array Bool} {i : Nat} (hi : i ∈ Region.ready md ops L) : i < ops.size := by
  obtain ⟨_, o, ho, _⟩ := mem_ready.1 hi
  exact (Array.getElem?_eq_some_iff.1 ho).1
theorem ready_no {md : Region.Mode} {ops : Array Oper} {L : Array Bool} {i : Nat} (hi : i ∈ Region.ready md ops L) : L.getD i false = false := by
  obtain ⟨h, _⟩ := mem_ready.1 hi
  cases hc : L.getD i false with
  | false => rfl
  | true =>
    rw [Array.getD_eq_getD_getElem?] at h hc
    cases hl : L[i]? with
    | none => rw [hl] at hc; simp at hc
    | some b => rw [hl] at h hc; simp at h hc; rw [h] at hc; cases hc

theorem put_same {T : Array Value} {d : Nat} {v u : Value} (h : d < T.size) : (T.setIfInBounds d v).getD d u = v := by simp [Array.getD_eq_getD_getElem?, h]
theorem put_ne {α : Type} {T : Array α} {d k : Nat} {v u : α} (h : d ≠ k) : (T.setIfInBounds d v).getD k u = T.getD k u := by simp [Array.getD_eq_getD_getElem?, Array.getElem?_setIfInBounds_ne h]

theorem all_listed {md : Region.Mode} {ops : Array Oper} {L : Array Bool} (hs : L.size = ops.size) (hr : Region.ready md ops L = [])
    (hf : (List.range ops.size).all (fun j => (ops[j]?).any (fun o => o.after.all fun e => !Region.binds md e || decide (e.on < j))) = true) : ∀ j, j < ops.size → L.getD j false = true := by
  intro j
  induction j using Nat.strongRecOn with
  | _ j ih =>
    intro hj
    cases hc : L.getD j false with
    | true => rfl
    | false =>
      exfalso
      have hm : j ∈ Region.ready md ops L := by
        rw [mem_ready]
        have hjl : j < L.size := by omega
        refine ⟨by rw [Array.getD_eq_getD_getElem?] at hc ⊢; rw [Array.getElem?_eq_getElem hjl] at hc ⊢; simpa using hc, ops[j], Array.getElem?_eq_getElem hj, fun e he hb => ?_⟩
        have h1 := List.all_eq_true.1 hf j (List.mem_range.2 hj)
        rw [Array.getElem?_eq_getElem hj] at h1
        simp only [Option.any_some, Array.all_eq_true_iff_forall_mem] at h1
        have h2 := h1 e he
        rw [hb] at h2
        simp at h2
        exact ih e.on h2 (by omega)
      rw [hr] at hm
      cases hm
theorem tri3 {w : World} {g : Nat} {t : TypeId} {v0 v1 v2 : Value} (h : w.heap[g]? = some (.cells #[v0, v1, v2] t (0, 0))) :
    w.cell? ⟨g, 0, none⟩ = some v0 ∧ w.cell? ⟨g, 1, none⟩ = some v1 ∧ w.cell? ⟨g, 2, none⟩ = some v2 ∧ ∀ i, w.frozen? ⟨g, i, none⟩ = false := by
  refine ⟨?_, ?_, ?_, fun i => ?_⟩ <;> simp [World.cell?, World.frozen?, h]
theorem blk_lt2 {w : World} {g : Nat} {o : Obj} (h : w.heap[g]? = some o) : g < w.heap.size := (Array.getElem?_eq_some_iff.1 h).1
theorem far6 {w : World} {g g' : Nat} (h : g ≠ g') {i : Nat} {v u0 u1 u2 u3 u4 u5 : Value} (hc : w.cell? ⟨g, i, none⟩ = some v) : ((((((w.setCell ⟨g', 0, none⟩ u0).setCell ⟨g', 1, none⟩ u1).setCell ⟨g', 2, none⟩ u2).setCell ⟨g', 3, none⟩ u3).setCell ⟨g', 4, none⟩ u4).setCell ⟨g', 5, none⟩ u5).cell? ⟨g, i, none⟩ = some v := by
  have hb := Chg.setCells (fun b => b = g') (g := g') rfl [u0, u1, u2, u3, u4, u5] 0 w
  exact (World.cell?_of_block (hb.block _ (World.block_lt_of_cell? _ _ hc) h)).trans hc
/-! What is known of what has come up. -/
abbrev lit3 : Obj := .cells #[.int .i64 (-1), .int .i64 99999, .int .i64 100000] 3 (0, 0)
def LitAt (g b2 : Nat) (w : World) (v : Value) : Prop := ∃ l, v = .slice (some ⟨l, 0, none⟩) 3 3 ∧ w.heap[l]? = some lit3 ∧ l ≠ g ∧ l ≠ b2
def AdrAt (g b2 : Nat) (w : World) (v : Value) : Prop := ∃ l k : Nat, v = .pointer (some ⟨l, k, none⟩) ∧ k < 3 ∧ w.heap[l]? = some lit3 ∧ l ≠ g ∧ l ≠ b2
def PickV (v : Value) : Prop := ∃ k : Nat, v = .int .i64 (k : Int) ∧ k < 3
def NumV (v : Value) : Prop := ∃ x : Int, v = .int .i64 x
def dstO : Nat → Nat
  | 0 => 14 | 1 => 15 | 2 => 16 | 3 => 17 | 4 => 18 | 5 => 19 | 6 => 20 | 7 => 21 | 8 => 22 | 9 => 23 | 10 => 24 | 11 => 99 | 12 => 3 | 13 => 4 | _ => 98
def DD (rv : Value) (cr : Array Value) (g b2 : Nat) (j : Nat) (T : Array Value) (w : World) : Prop :=
  match j with
  | 0 => T.getD 14 undef = rv
  | 1 => LitAt g b2 w (T.getD 15 undef)
  | 2 => T.getD 16 undef = .pointer (some ⟨g, 0, none⟩)
  | 3 => PickV (T.getD 17 undef)
  | 4 => AdrAt g b2 w (T.getD 18 undef)
  | 5 => NumV (T.getD 19 undef)
  | 6 => LitAt g b2 w (T.getD 20 undef)
  | 7 => T.getD 21 undef = .pointer (some ⟨g, 0, none⟩)
  | 8 => PickV (T.getD 22 undef)
  | 9 => AdrAt g b2 w (T.getD 23 undef)
  | 10 => NumV (T.getD 24 undef)
  | 11 => w.heap[b2]? = some (.cells cr 25 (0, 0))
  | 12 => NumV (T.getD 3 undef)
  | 13 => NumV (T.getD 4 undef)
  | _ => True
theorem LitAt.chg {g b2 : Nat} {G : Nat → Prop} {w w' : World} {v : Value} (h : LitAt g b2 w v) (hc : Chg G w w') (hG : ∀ b, G b → b = g ∨ b = b2) : LitAt g b2 w' v := by
  obtain ⟨l, e, h1, h2, h3⟩ := h
  exact ⟨l, e, hc.blk h1 (fun hg => (hG _ hg).elim h2 h3), h2, h3⟩
theorem AdrAt.chg {g b2 : Nat} {G : Nat → Prop} {w w' : World} {v : Value} (h : AdrAt g b2 w v) (hc : Chg G w w') (hG : ∀ b, G b → b = g ∨ b = b2) : AdrAt g b2 w' v := by
  obtain ⟨l, k, e, hk, h1, h2, h3⟩ := h
  exact ⟨l, k, e, hk, hc.blk h1 (fun hg => (hG _ hg).elim h2 h3), h2, h3⟩
theorem DD.next {rv : Value} {cr : Array Value} {g b2 : Nat} {j d : Nat} {T T' : Array Value} {w w' : World} {G : Nat → Prop} (h : DD rv cr g b2 j T w) (hj : j < 14) (hT : ∀ k, k ≠ d → T'.getD k undef = T.getD k undef) (hd : dstO j ≠ d) (hc : Chg G w w') (hG : ∀ b, G b → b = g ∨ b = b2) (h11 : j = 11 → ¬ G b2) : DD rv cr g b2 j T' w' := by
  obtain rfl | rfl | rfl | rfl | rfl | rfl | rfl | rfl | rfl | rfl | rfl | rfl | rfl | rfl : j = 0 ∨ j = 1 ∨ j = 2 ∨ j = 3 ∨ j = 4 ∨ j = 5 ∨ j = 6 ∨ j = 7 ∨ j = 8 ∨ j = 9 ∨ j = 10 ∨ j = 11 ∨ j = 12 ∨ j = 13 := by omega
  case inr.inr.inr.inr.inr.inr.inr.inr.inr.inr.inr.inl => exact hc.blk (show w.heap[b2]? = _ from h) (h11 rfl)
  all_goals
    have e := hT _ hd
    simp only [dstO] at e
    simp only [DD] at h ⊢
    rw [e]
    first | exact h | exact LitAt.chg h hc hG | exact AdrAt.chg h hc hG
structure RI (r : Rec) (Ak Av : Option Addr) (ck cv : Nat) (F : Nat → Prop) (g b2 bx N : Nat) (w0 : World) (L : Array Bool) (a : Act) (w : World) : Prop where
  dfr : a.defers = []
  size : a.tmps.size = 30
  t2 : a.tmps.getD 2 undef = .pointer (some ⟨b2, 0, none⟩)
  t5 : a.tmps.getD 5 undef = .pointer (some ⟨g, 0, none⟩)
  t6 : a.tmps.getD 6 undef = .pointer (some ⟨bx, 0, none⟩)
  bel : Below w0.heap.size w0 w
  rd : L.getD 8 false = false → RdN w g (if L.getD 3 false = true then N + 1 else N)
  gl : g < w.heap.size
  ord : L.getD 8 false = true → L.getD 3 false = true
  box : w.heap[bx]? = some (.cells #[.int .i64 r.off, .int .i64 r.time, .bool r.hk, .slice Ak r.key.length ck, .bool r.hv, .slice Av r.val.length cv] 25 (0, 0))
  res : ∃ v0 v1 v2 v3 v4 v5, w.heap[b2]? = some (.cells #[v0, v1, v2, v3, v4, v5] 25 (0, 0))
  key : Ints w F Ak ck r.key
  val : Ints w F Av cv r.val
  done : ∀ j, j < 14 → L.getD j false = true → DD (.agg #[.int .i64 r.off, .int .i64 r.time, .bool r.hk, .slice Ak r.key.length ck, .bool r.hv, .slice Av r.val.length cv]) #[.int .i64 r.off, .int .i64 r.time, .bool r.hk, .slice Ak r.key.length ck, .bool r.hv, .slice Av r.val.length cv] g b2 j a.tmps w
section
variable {r : Rec} {Ak Av : Option Addr} {ck cv : Nat} {F : Nat → Prop} {g b2 bx N : Nat} {w0 : World} {L : Array Bool} {T : Array Value} {w w' : World}
/-- One operation more, whose value goes to d; but the store. -/
theorem RI.next (h : RI r Ak Av ck cv F g b2 bx N w0 L { tmps := T, defers := [] } w) (hFg : ∀ b, F b → b ≠ g) (hbg : bx ≠ g) (hb2g : b2 ≠ g) (hg0 : w0.heap.size ≤ g) {i : Nat} {d : Nat} (hi : i < 14) (hi11 : i ≠ 11) (hL : L.size = 14) (ho : i = 8 → L.getD 3 false = true) (hd : dstO i = d) {v : Value} (hc : Chg (fun b => b = g) w w')
    (hrd : (L.setIfInBounds i true).getD 8 false = false → RdN w' g (if (L.setIfInBounds i true).getD 3 false = true then N + 1 else N))
    (hD : DD (.agg #[.int .i64 r.off, .int .i64 r.time, .bool r.hk, .slice Ak r.key.length ck, .bool r.hv, .slice Av r.val.length cv]) #[.int .i64 r.off, .int .i64 r.time, .bool r.hk, .slice Ak r.key.length ck, .bool r.hv, .slice Av r.val.length cv] g b2 i (T.setIfInBounds d v) w') :
    RI r Ak Av ck cv F g b2 bx N w0 (L.setIfInBounds i true) { tmps := T.setIfInBounds d v, defers := [] } w' := by
  have hd2 : d ≠ 2 ∧ d ≠ 5 ∧ d ≠ 6 ∧ d ≠ 99 := by
    subst hd
    obtain rfl | rfl | rfl | rfl | rfl | rfl | rfl | rfl | rfl | rfl | rfl | rfl | rfl | rfl : i = 0 ∨ i = 1 ∨ i = 2 ∨ i = 3 ∨ i = 4 ∨ i = 5 ∨ i = 6 ∨ i = 7 ∨ i = 8 ∨ i = 9 ∨ i = 10 ∨ i = 11 ∨ i = 12 ∨ i = 13 := by omega
    all_goals first | exact absurd rfl hi11 | decide
  refine ⟨rfl, by simpa using h.size, (put_ne hd2.1).trans h.t2, (put_ne hd2.2.1).trans h.t5, (put_ne hd2.2.2.1).trans h.t6, h.bel.trans (hc.below h.bel.size (fun b hb => by subst hb; exact hg0)), hrd, Nat.lt_of_lt_of_le h.gl hc.size, ?_, hc.blk h.box hbg, ?_, h.key.keep (hc.same (fun b _ hb hg => hFg b hb hg)), h.val.keep (hc.same (fun b _ hb hg => hFg b hb hg)), fun j hj hLj => ?_⟩
  · intro h8
    by_cases hi3 : i = 3
    · subst hi3
      simp [Array.getD_eq_getD_getElem?, hL]
    · rw [put_ne hi3]
      by_cases hi8 : i = 8
      · exact ho hi8
      · rw [put_ne hi8] at h8
        exact h.ord h8
  · obtain ⟨v0, v1, v2, v3, v4, v5, hr⟩ := h.res
    exact ⟨v0, v1, v2, v3, v4, v5, hc.blk hr hb2g⟩
  · by_cases hji : j = i
    · subst hji; exact hD
    · rw [put_ne (Ne.symm hji)] at hLj
      refine DD.next (h.done j hj hLj) hj (fun k hk => put_ne (Ne.symm hk)) ?_ hc (fun b hb => .inl hb) (fun _ => hb2g)
      subst hd
      intro e
      apply hji
      revert e
      obtain rfl | rfl | rfl | rfl | rfl | rfl | rfl | rfl | rfl | rfl | rfl | rfl | rfl | rfl : i = 0 ∨ i = 1 ∨ i = 2 ∨ i = 3 ∨ i = 4 ∨ i = 5 ∨ i = 6 ∨ i = 7 ∨ i = 8 ∨ i = 9 ∨ i = 10 ∨ i = 11 ∨ i = 12 ∨ i = 13 := by omega
      all_goals
        obtain rfl | rfl | rfl | rfl | rfl | rfl | rfl | rfl | rfl | rfl | rfl | rfl | rfl | rfl : j = 0 ∨ j = 1 ∨ j = 2 ∨ j = 3 ∨ j = 4 ∨ j = 5 ∨ j = 6 ∨ j = 7 ∨ j = 8 ∨ j = 9 ∨ j = 10 ∨ j = 11 ∨ j = 12 ∨ j = 13 := by omega
        all_goals decide
/-- An operation that leaves the reader alone. -/
theorem RI.rdk (h : RI r Ak Av ck cv F g b2 bx N w0 L { tmps := T, defers := [] } w) {i : Nat} (h3 : i ≠ 3) (h8 : i ≠ 8) (hb : Below w.heap.size w w') :
    (L.setIfInBounds i true).getD 8 false = false → RdN w' g (if (L.setIfInBounds i true).getD 3 false = true then N + 1 else N) := by
  rw [put_ne h8, put_ne h3]
  exact fun hh => (h.rd hh).below hb
/-- The store. -/
theorem RI.store (h : RI r Ak Av ck cv F g b2 bx N w0 L { tmps := T, defers := [] } w) (hFb : ∀ b, F b → b ≠ b2) (hbb : bx ≠ b2) (hb2g : b2 ≠ g) (hb0 : w0.heap.size ≤ b2) (hL : L.size = 14) (h8 : L.getD 8 false = true) (hc : Chg (fun b => b = b2) w w')
    (hD : w'.heap[b2]? = some (.cells #[.int .i64 r.off, .int .i64 r.time, .bool r.hk, .slice Ak r.key.length ck, .bool r.hv, .slice Av r.val.length cv] 25 (0, 0))) :
    RI r Ak Av ck cv F g b2 bx N w0 (L.setIfInBounds 11 true) { tmps := T, defers := [] } w' := by
  refine ⟨rfl, h.size, h.t2, h.t5, h.t6, h.bel.trans (hc.below h.bel.size (fun b hb => by subst hb; exact hb0)), ?_, Nat.lt_of_lt_of_le h.gl hc.size, ?_, hc.blk h.box hbb, ⟨_, _, _, _, _, _, hD⟩, h.key.keep (hc.same (fun b _ hb hg => hFb b hb hg)), h.val.keep (hc.same (fun b _ hb hg => hFb b hb hg)), fun j hj hLj => ?_⟩
  · rw [put_ne (by decide), h8]
    intro hh
    cases hh
  · rw [put_ne (by decide), put_ne (by decide)]
    exact h.ord
  · by_cases hji : j = 11
    · subst hji; exact hD
    · rw [put_ne (Ne.symm hji)] at hLj
      exact DD.next (d := 98) (h.done j hj hLj) hj (fun k _ => rfl) (by
        obtain rfl | rfl | rfl | rfl | rfl | rfl | rfl | rfl | rfl | rfl | rfl | rfl | rfl | rfl : j = 0 ∨ j = 1 ∨ j = 2 ∨ j = 3 ∨ j = 4 ∨ j = 5 ∨ j = 6 ∨ j = 7 ∨ j = 8 ∨ j = 9 ∨ j = 10 ∨ j = 11 ∨ j = 12 ∨ j = 13 := by omega
        all_goals decide) hc (fun b hb => .inr hb) (fun e => absurd e hji)
end

/-! The same for the other region. -/
def dstE : Nat → Nat
  | 0 => 25 | 1 => 26 | 2 => 27 | 3 => 28 | 4 => 29 | 5 => 99 | 6 => 3 | 7 => 4 | _ => 98
def DE (rv : Value) (cr : Array Value) (g b2 : Nat) (j : Nat) (T : Array Value) (w : World) : Prop :=
  match j with
  | 0 => T.getD 25 undef = rv
  | 1 => T.getD 26 undef = .pointer (some ⟨g, 0, none⟩)
  | 2 => NumV (T.getD 27 undef)
  | 3 => T.getD 28 undef = .pointer (some ⟨g, 0, none⟩)
  | 4 => NumV (T.getD 29 undef)
  | 5 => w.heap[b2]? = some (.cells cr 25 (0, 0))
  | 6 => NumV (T.getD 3 undef)
  | 7 => NumV (T.getD 4 undef)
  | _ => True
theorem DE.next {rv : Value} {cr : Array Value} {g b2 : Nat} {j d : Nat} {T T' : Array Value} {w w' : World} {G : Nat → Prop} (h : DE rv cr g b2 j T w) (hj : j < 8) (hT : ∀ k, k ≠ d → T'.getD k undef = T.getD k undef) (hd : dstE j ≠ d) (hc : Chg G w w') (h5 : j = 5 → ¬ G b2) : DE rv cr g b2 j T' w' := by
  obtain rfl | rfl | rfl | rfl | rfl | rfl | rfl | rfl : j = 0 ∨ j = 1 ∨ j = 2 ∨ j = 3 ∨ j = 4 ∨ j = 5 ∨ j = 6 ∨ j = 7 := by omega
  case inr.inr.inr.inr.inr.inl => exact hc.blk (show w.heap[b2]? = _ from h) (h5 rfl)
  all_goals
    have e := hT _ hd
    simp only [dstE] at e
    simp only [DE] at h ⊢
    rw [e]
    exact h
structure RJ (r : Rec) (Ak Av : Option Addr) (ck cv : Nat) (F : Nat → Prop) (g b2 bx N : Nat) (w0 : World) (L : Array Bool) (a : Act) (w : World) : Prop where
  dfr : a.defers = []
  size : a.tmps.size = 30
  t2 : a.tmps.getD 2 undef = .pointer (some ⟨b2, 0, none⟩)
  t5 : a.tmps.getD 5 undef = .pointer (some ⟨g, 0, none⟩)
  t6 : a.tmps.getD 6 undef = .pointer (some ⟨bx, 0, none⟩)
  bel : Below w0.heap.size w0 w
  rd : L.getD 4 false = false → RdN w g (if L.getD 2 false = true then N + 1 else N)
  gl : g < w.heap.size
  ord : L.getD 4 false = true → L.getD 2 false = true
  box : w.heap[bx]? = some (.cells #[.int .i64 r.off, .int .i64 r.time, .bool r.hk, .slice Ak r.key.length ck, .bool r.hv, .slice Av r.val.length cv] 25 (0, 0))
  res : ∃ v0 v1 v2 v3 v4 v5, w.heap[b2]? = some (.cells #[v0, v1, v2, v3, v4, v5] 25 (0, 0))
  key : Ints w F Ak ck r.key
  val : Ints w F Av cv r.val
  done : ∀ j, j < 8 → L.getD j false = true → DE (.agg #[.int .i64 r.off, .int .i64 r.time, .bool r.hk, .slice Ak r.key.length ck, .bool r.hv, .slice Av r.val.length cv]) #[.int .i64 r.off, .int .i64 r.time, .bool r.hk, .slice Ak r.key.length ck, .bool r.hv, .slice Av r.val.length cv] g b2 j a.tmps w
section
variable {r : Rec} {Ak Av : Option Addr} {ck cv : Nat} {F : Nat → Prop} {g b2 bx N : Nat} {w0 : World} {L : Array Bool} {T : Array Value} {w w' : World}
theorem RJ.next (h : RJ r Ak Av ck cv F g b2 bx N w0 L { tmps := T, defers := [] } w) (hFg : ∀ b, F b → b ≠ g) (hbg : bx ≠ g) (hb2g : b2 ≠ g) (hg0 : w0.heap.size ≤ g) {i : Nat} {d : Nat} (hi : i < 8) (hi5 : i ≠ 5) (hL : L.size = 8) (ho : i = 4 → L.getD 2 false = true) (hd : dstE i = d) {v : Value} (hc : Chg (fun b => b = g) w w')
    (hrd : (L.setIfInBounds i true).getD 4 false = false → RdN w' g (if (L.setIfInBounds i true).getD 2 false = true then N + 1 else N))
    (hD : DE (.agg #[.int .i64 r.off, .int .i64 r.time, .bool r.hk, .slice Ak r.key.length ck, .bool r.hv, .slice Av r.val.length cv]) #[.int .i64 r.off, .int .i64 r.time, .bool r.hk, .slice Ak r.key.length ck, .bool r.hv, .slice Av r.val.length cv] g b2 i (T.setIfInBounds d v) w') :
    RJ r Ak Av ck cv F g b2 bx N w0 (L.setIfInBounds i true) { tmps := T.setIfInBounds d v, defers := [] } w' := by
  have hd2 : d ≠ 2 ∧ d ≠ 5 ∧ d ≠ 6 ∧ d ≠ 99 := by
    subst hd
    obtain rfl | rfl | rfl | rfl | rfl | rfl | rfl | rfl : i = 0 ∨ i = 1 ∨ i = 2 ∨ i = 3 ∨ i = 4 ∨ i = 5 ∨ i = 6 ∨ i = 7 := by omega
    all_goals first | exact absurd rfl hi5 | decide
  refine ⟨rfl, by simpa using h.size, (put_ne hd2.1).trans h.t2, (put_ne hd2.2.1).trans h.t5, (put_ne hd2.2.2.1).trans h.t6, h.bel.trans (hc.below h.bel.size (fun b hb => by subst hb; exact hg0)), hrd, Nat.lt_of_lt_of_le h.gl hc.size, ?_, hc.blk h.box hbg, ?_, h.key.keep (hc.same (fun b _ hb hg => hFg b hb hg)), h.val.keep (hc.same (fun b _ hb hg => hFg b hb hg)), fun j hj hLj => ?_⟩
  · intro h8
    by_cases hi3 : i = 2
    · subst hi3
      simp [Array.getD_eq_getD_getElem?, hL]
    · rw [put_ne hi3]
      by_cases hi8 : i = 4
      · exact ho hi8
      · rw [put_ne hi8] at h8
        exact h.ord h8
  · obtain ⟨v0, v1, v2, v3, v4, v5, hr⟩ := h.res
    exact ⟨v0, v1, v2, v3, v4, v5, hc.blk hr hb2g⟩
  · by_cases hji : j = i
    · subst hji; exact hD
    · rw [put_ne (Ne.symm hji)] at hLj
      refine DE.next (h.done j hj hLj) hj (fun k hk => put_ne (Ne.symm hk)) ?_ hc (fun _ => hb2g)
      subst hd
      intro e
      apply hji
      revert e
      obtain rfl | rfl | rfl | rfl | rfl | rfl | rfl | rfl : i = 0 ∨ i = 1 ∨ i = 2 ∨ i = 3 ∨ i = 4 ∨ i = 5 ∨ i = 6 ∨ i = 7 := by omega
      all_goals
        obtain rfl | rfl | rfl | rfl | rfl | rfl | rfl | rfl : j = 0 ∨ j = 1 ∨ j = 2 ∨ j = 3 ∨ j = 4 ∨ j = 5 ∨ j = 6 ∨ j = 7 := by omega
        all_goals decide
theorem RJ.rdk (h : RJ r Ak Av ck cv F g b2 bx N w0 L { tmps := T, defers := [] } w) {i : Nat} (h3 : i ≠ 2) (h8 : i ≠ 4) (hb : Below w.heap.size w w') :
    (L.setIfInBounds i true).getD 4 false = false → RdN w' g (if (L.setIfInBounds i true).getD 2 false = true then N + 1 else N) := by
  rw [put_ne h8, put_ne h3]
  exact fun hh => (h.rd hh).below hb
theorem RJ.store (h : RJ r Ak Av ck cv F g b2 bx N w0 L { tmps := T, defers := [] } w) (hFb : ∀ b, F b → b ≠ b2) (hbb : bx ≠ b2) (hb2g : b2 ≠ g) (hb0 : w0.heap.size ≤ b2) (hL : L.size = 8) (h8 : L.getD 4 false = true) (hc : Chg (fun b => b = b2) w w')
    (hD : w'.heap[b2]? = some (.cells #[.int .i64 r.off, .int .i64 r.time, .bool r.hk, .slice Ak r.key.length ck, .bool r.hv, .slice Av r.val.length cv] 25 (0, 0))) :
    RJ r Ak Av ck cv F g b2 bx N w0 (L.setIfInBounds 5 true) { tmps := T, defers := [] } w' := by
  refine ⟨rfl, h.size, h.t2, h.t5, h.t6, h.bel.trans (hc.below h.bel.size (fun b hb => by subst hb; exact hb0)), ?_, Nat.lt_of_lt_of_le h.gl hc.size, ?_, hc.blk h.box hbb, ⟨_, _, _, _, _, _, hD⟩, h.key.keep (hc.same (fun b _ hb hg => hFb b hb hg)), h.val.keep (hc.same (fun b _ hb hg => hFb b hb hg)), fun j hj hLj => ?_⟩
  · rw [put_ne (by decide), h8]
    intro hh
    cases hh
  · rw [put_ne (by decide), put_ne (by decide)]
    exact h.ord
  · by_cases hji : j = 5
    · subst hji; exact hD
    · rw [put_ne (Ne.symm hji)] at hLj
      exact DE.next (d := 98) (h.done j hj hLj) hj (fun k _ => rfl) (by
        obtain rfl | rfl | rfl | rfl | rfl | rfl | rfl | rfl : j = 0 ∨ j = 1 ∨ j = 2 ∨ j = 3 ∨ j = 4 ∨ j = 5 ∨ j = 6 ∨ j = 7 := by omega
        all_goals decide) hc (fun e => absurd e hji)
end

set_option maxRecDepth 100000 in
set_option maxHeartbeats 4000000 in
theorem DrawRecordBytes_any (bs0 : List Int) (A : Option Addr) (c : Nat) (F : Nat → Prop) (w : World) (h : Kind.byte.Row w F A c bs0) :
    Calls Try.prog 4 #[.slice A bs0.length c] w fun e w' => ∃ (r : Rec) (Ak Av : Option Addr) (ck cv : Nat) (o t : Int),
      e = .returned (.tuple #[.agg #[.int .i64 r.off, .int .i64 r.time, .bool r.hk, .slice Ak r.key.length ck, .bool r.hv, .slice Av r.val.length cv], .int .i64 o, .int .i64 t]) ∧ Ints w' (fun b => w.heap.size ≤ b) Ak ck r.key ∧ Ints w' (fun b => w.heap.size ≤ b) Av cv r.val ∧ Below w.heap.size w w' := by
  go_enter Try.func4, Try.ntmps4
  go_wp2_with fail
  generalize hW0 : World.alloc _ _ = W0
  obtain ⟨hB0, bW0, hz0⟩ := alloc1 hW0
  clear hW0
  refine (l6Open_any bs0 A c F _ (h.below bW0)).mono ?_
  rintro e w1 ⟨g, rfl, hg, hR, hb1⟩
  have r1 : RdN w1 g 0 := ⟨0, Nat.le_refl _, hR⟩
  have hB1 := blk_below hB0 hb1
  have b1 := bthen bW0 hb1
  have hgl1 := r1.lt
  have hs1 := hb1.size
  clear hR hb1 bW0 hB0
  go_wp2_with fail
  refine (l91Record_any g 0 _ r1 (by omega)).mono ?_
  rintro e w2 ⟨r, Ak, Av, ck, cv, rfl, hlk, hlv, JK, JV, r2, c2⟩
  have hB2 := c2.blk hB1 (by omega)
  have b2 := b1.trans (c2.below b1.size (fun i hi => by omega))
  have hs2 := c2.size
  clear c2 r1 hB1 b1
  go_wp2_with fail
  generalize hW3 : World.alloc _ _ = W3
  obtain ⟨hX3, bW3, hz3⟩ := alloc1 hW3
  clear hW3
  have r3 := r2.below bW3
  have JK3 := JK.below bW3
  have JV3 := JV.below bW3
  have hB3 := blk_below hB2 bW3
  have b3 := bthen b2 bW3
  clear r2 JK JV hB2 bW3 b2
  refine (pickN g _ 16 _ r3 (by omega) (by omega) (by omega)).mono ?_
  rintro e w4 ⟨v4, rfl, a4, bb4, r4, c4⟩
  have hX4 := c4.blk hX3 (by omega)
  have hB4 := c4.blk hB3 (by omega)
  have JK4 := JK3.keep (w' := w4) (c4.same (fun i _ h1 h2 => by omega))
  have JV4 := JV3.keep (w' := w4) (c4.same (fun i _ h1 h2 => by omega))
  have b4 := b3.trans (c4.below b3.size (fun i hi => by omega))
  have hs4 := c4.size
  clear c4 r3 JK3 JV3 hX3 hB3 b3
  cases hv : (v4 == 0)
  · have HW : w.heap.size < g := by omega
    go_wp2_with fail
    refine wp_region_any (by kernel_rfl) ?_
    change wpAny _ _ _ _ _ _ _ (World.drew w4)
    generalize hV : w4.drew = V
    have bD : Below w4.heap.size w4 V := by rw [← hV]; exact ⟨rfl, rfl, rfl, Nat.le_refl _, fun _ _ => rfl⟩
    have hXV := blk_below hX4 bD
    have hBV := blk_below hB4 bD
    have rV := r4.below bD
    have JKV := JK4.below bD
    have JVV := JV4.below bD
    have bV := bthen b4 bD
    clear hV bD hX4 hB4 r4 JK4 JV4 b4
    refine wpAny_inv (RJ r Ak Av ck cv (fun b => w1.heap.size ≤ b) g w.heap.size w2.heap.size 63 w) ?step ?fin _ _ _ _ rfl (by decide) ?init
    case init =>
      exact ⟨rfl, rfl, rfl, rfl, rfl, bV, fun _ => rV, rV.lt, fun h => by simp [Array.getD] at h, hXV, ⟨_, _, _, _, _, _, hBV⟩, JKV, JVV, fun j hj h => by
        obtain rfl | rfl | rfl | rfl | rfl | rfl | rfl | rfl : j = 0 ∨ j = 1 ∨ j = 2 ∨ j = 3 ∨ j = 4 ∨ j = 5 ∨ j = 6 ∨ j = 7 := by omega
        all_goals exact absurd h (by decide)⟩
    case fin =>
      intro L a X hI hs hr
      have hall := all_listed hs hr (by kernel_rfl)
      obtain ⟨T, ds⟩ := a
      obtain rfl : ds = [] := hI.dfr
      have d11 := hI.done 5 (by omega) (hall 5 (by decide))
      obtain ⟨o, d12⟩ := hI.done 6 (by omega) (hall 6 (by decide))
      obtain ⟨t, d13⟩ := hI.done 7 (by omega) (hall 7 (by decide))
      have e2 : T.getD 2 undef = .pointer (some ⟨w.heap.size, 0, none⟩) := hI.t2
      have e12 : T.getD 3 undef = .int .i64 o := d12
      have e13 : T.getD 4 undef = .int .i64 t := d13
      obtain ⟨q0, q1, q2, q3, q4, q5, qf⟩ := six (show X.heap[w.heap.size]? = some _ from d11)
      have hlt := blk_lt2 d11
      have f2 : T[2]?.getD undef = .pointer (some ⟨w.heap.size, 0, none⟩) := by rw [← Array.getD_eq_getD_getElem?]; exact e2
      have f12 : T[3]?.getD undef = .int .i64 o := by rw [← Array.getD_eq_getD_getElem?]; exact e12
      have f13 : T[4]?.getD undef = .int .i64 t := by rw [← Array.getD_eq_getD_getElem?]; exact e13
      have HK := Lib.hid hI.key
      have HV := Lib.hid hI.val
      have HB := Lib.hid hI.bel
      clear hI hall d11 d12 d13 hs hr
      go_wp2
      refine bodyPost_ret (v := .tuple #[.agg #[.int .i64 r.off, .int .i64 r.time, .bool r.hk, .slice Ak r.key.length ck, .bool r.hv, .slice Av r.val.length cv], .int .i64 o, .int .i64 t]) (by simp [results, Try.results4, go_sem, q0, q1, q2, q3, q4, q5, f2, f12, f13, hlt]) rfl ⟨r, Ak, Av, ck, cv, o, t, rfl, HK.out.mono (fun b hb => by omega), HV.out.mono (fun b hb => by omega), HB.out⟩
    case step =>
      intro L a X i hI hs hi
      obtain ⟨T, ds⟩ := a
      obtain rfl : ds = [] := hI.dfr
      have hlt : i < 8 := ready_lt hi
      have hL : L.size = 8 := hs
      have hT : T.size = 30 := hI.size
      have t2 : T.getD 2 undef = _ := hI.t2
      have t5 : T.getD 5 undef = _ := hI.t5
      have t6 : T.getD 6 undef = _ := hI.t6
      have hgl := hI.gl
      have hbl : w.heap.size < X.heap.size := by obtain ⟨_, _, _, _, _, _, hh⟩ := hI.res; exact blk_lt2 hh
      have hFg : ∀ b, w1.heap.size ≤ b → b ≠ g := fun b hb => by omega
      have hFb : ∀ b, w1.heap.size ≤ b → b ≠ w.heap.size := fun b hb => by omega
      have hbg : w2.heap.size ≠ g := by omega
      have hbb : w2.heap.size ≠ w.heap.size := by omega
      have hb2g : w.heap.size ≠ g := by omega
      have hgw : w.heap.size ≤ g := by omega
      obtain rfl | rfl | rfl | rfl | rfl | rfl | rfl | rfl : i = 0 ∨ i = 1 ∨ i = 2 ∨ i = 3 ∨ i = 4 ∨ i = 5 ∨ i = 6 ∨ i = 7 := by omega
      · refine wpOp_step rfl (fun K' hK => ?_)
        obtain ⟨q0, q1, q2, q3, q4, q5, qf⟩ := six hI.box
        go_simp
        exact hK _ _ (hI.next (i := 0) (d := 25) hFg hbg hb2g hgw (by omega) (by decide) hL (fun h => absurd h (by decide)) rfl (Chg.of_below (Below.refl _ _)) (hI.rdk (by decide) (by decide) (Below.refl _ _)) (put_same (by omega)))
      · refine wpOp_step rfl (fun K' hK => ?_)
        go_simp
        exact hK _ _ (hI.next (i := 1) (d := 26) hFg hbg hb2g hgw (by omega) (by decide) hL (fun h => absurd h (by decide)) rfl (Chg.of_below (Below.refl _ _)) (hI.rdk (by decide) (by decide) (Below.refl _ _)) (put_same (by omega)))
      · refine wpOp_step rfl (fun K' hK => ?_)
        have e16 : T.getD 26 undef = _ := hI.done 1 (by omega) (dep hi 1 (by kernel_rfl))
        have l3 := ready_no hi
        have l8 : L.getD 4 false = false := by
          cases hc : L.getD 4 false with
          | false => rfl
          | true => have := hI.ord hc; rw [l3] at this; cases this
        have hr := hI.rd l8
        rw [l3] at hr
        go_simp
        refine (pickN g 63 60 _ hr (by omega) (by omega) (by omega)).mono ?_
        rintro e X2 ⟨v, rfl, a2, c2', r2', ch⟩
        dsimp only
        refine hK _ _ (hI.next (i := 2) (d := 27) hFg hbg hb2g hgw (by omega) (by decide) hL (fun h => absurd h (by decide)) rfl ch (fun _ => ?_) ⟨v, put_same (by omega)⟩)
        rw [if_pos (by simp [Array.getD_eq_getD_getElem?, hL])]
        exact r2'
      · refine wpOp_step rfl (fun K' hK => ?_)
        go_simp
        exact hK _ _ (hI.next (i := 3) (d := 28) hFg hbg hb2g hgw (by omega) (by decide) hL (fun h => absurd h (by decide)) rfl (Chg.of_below (Below.refl _ _)) (hI.rdk (by decide) (by decide) (Below.refl _ _)) (put_same (by omega)))
      · refine wpOp_step rfl (fun K' hK => ?_)
        have e21 : T.getD 28 undef = _ := hI.done 3 (by omega) (dep hi 3 (by kernel_rfl))
        have l3 := dep hi 2 (by kernel_rfl)
        have hr := hI.rd (ready_no hi)
        rw [if_pos l3] at hr
        go_simp
        refine (pickN g (63 + 1) 250 _ hr (by omega) (by omega) (by omega)).mono ?_
        rintro e X2 ⟨v, rfl, a2, c2', r2', ch⟩
        dsimp only
        refine hK _ _ (hI.next (i := 4) (d := 29) hFg hbg hb2g hgw (by omega) (by decide) hL (fun _ => dep hi 2 (by kernel_rfl)) rfl ch (fun hh => ?_) ⟨v, put_same (by omega)⟩)
        simp [Array.getD_eq_getD_getElem?, hL] at hh
      · refine wpOp_step rfl (fun K' hK => ?_)
        have e14 : T.getD 25 undef = _ := hI.done 0 (by omega) (dep hi 0 (by kernel_rfl))
        have l8 := dep hi 4 (by kernel_rfl)
        obtain ⟨v0, v1, v2, v3, v4', v5, hres⟩ := hI.res
        obtain ⟨q0, q1, q2, q3, q4, q5, qf⟩ := six hres
        go_simp
        refine hK _ _ (hI.store hFb hbb hb2g (Nat.le_refl _) hL l8 (Chg.setCells (fun b => b = w.heap.size) (g := w.heap.size) rfl [.int .i64 r.off, .int .i64 r.time, .bool r.hk, .slice Ak r.key.length ck, .bool r.hv, .slice Av r.val.length cv] 0 X) ?_)
        have := blk_put (blk_put (blk_put (blk_put (blk_put (blk_put hres 0 (.int .i64 r.off)) 1 (.int .i64 r.time)) 2 (.bool r.hk)) 3 (.slice Ak r.key.length ck)) 4 (.bool r.hv)) 5 (.slice Av r.val.length cv)
        simpa using this
      · refine wpOp_step rfl (fun K' hK => ?_)
        obtain ⟨x, e27⟩ : NumV (T.getD 27 undef) := hI.done 2 (by omega) (dep hi 2 (by kernel_rfl))
        go_simp
        exact hK _ _ (hI.next (i := 6) (d := 3) hFg hbg hb2g hgw (by omega) (by decide) hL (fun h => absurd h (by decide)) rfl (Chg.of_below (Below.refl _ _)) (hI.rdk (by decide) (by decide) (Below.refl _ _)) ⟨x, put_same (by omega)⟩)
      · refine wpOp_step rfl (fun K' hK => ?_)
        obtain ⟨x, e29⟩ : NumV (T.getD 29 undef) := hI.done 4 (by omega) (dep hi 4 (by kernel_rfl))
        go_simp
        exact hK _ _ (hI.next (i := 7) (d := 4) hFg hbg hb2g hgw (by omega) (by decide) hL (fun h => absurd h (by decide)) rfl (Chg.of_below (Below.refl _ _)) (hI.rdk (by decide) (by decide) (Below.refl _ _)) ⟨x, put_same (by omega)⟩)
  · have HW : w.heap.size < g := by omega
    go_wp2_with fail
    refine wp_region_any (by kernel_rfl) ?_
    change wpAny _ _ _ _ _ _ _ (World.drew w4)
    generalize hV : w4.drew = V
    have bD : Below w4.heap.size w4 V := by rw [← hV]; exact ⟨rfl, rfl, rfl, Nat.le_refl _, fun _ _ => rfl⟩
    have hXV := blk_below hX4 bD
    have hBV := blk_below hB4 bD
    have rV := r4.below bD
    have JKV := JK4.below bD
    have JVV := JV4.below bD
    have bV := bthen b4 bD
    clear hV bD hX4 hB4 r4 JK4 JV4 b4
    refine wpAny_inv (RI r Ak Av ck cv (fun b => w1.heap.size ≤ b) g w.heap.size w2.heap.size 63 w) ?step ?fin _ _ _ _ rfl (by decide) ?init
    case init =>
      exact ⟨rfl, rfl, rfl, rfl, rfl, bV, fun _ => rV, rV.lt, fun h => by simp [Array.getD] at h, hXV, ⟨_, _, _, _, _, _, hBV⟩, JKV, JVV, fun j hj h => by
        obtain rfl | rfl | rfl | rfl | rfl | rfl | rfl | rfl | rfl | rfl | rfl | rfl | rfl | rfl : j = 0 ∨ j = 1 ∨ j = 2 ∨ j = 3 ∨ j = 4 ∨ j = 5 ∨ j = 6 ∨ j = 7 ∨ j = 8 ∨ j = 9 ∨ j = 10 ∨ j = 11 ∨ j = 12 ∨ j = 13 := by omega
        all_goals exact absurd h (by decide)⟩
    case fin =>
      intro L a X hI hs hr
      have hall := all_listed hs hr (by kernel_rfl)
      obtain ⟨T, ds⟩ := a
      obtain rfl : ds = [] := hI.dfr
      have d11 := hI.done 11 (by omega) (hall 11 (by decide))
      obtain ⟨o, d12⟩ := hI.done 12 (by omega) (hall 12 (by decide))
      obtain ⟨t, d13⟩ := hI.done 13 (by omega) (hall 13 (by decide))
      have e2 : T.getD 2 undef = .pointer (some ⟨w.heap.size, 0, none⟩) := hI.t2
      have e12 : T.getD 3 undef = .int .i64 o := d12
      have e13 : T.getD 4 undef = .int .i64 t := d13
      obtain ⟨q0, q1, q2, q3, q4, q5, qf⟩ := six (show X.heap[w.heap.size]? = some _ from d11)
      have hlt := blk_lt2 d11
      have f2 : T[2]?.getD undef = .pointer (some ⟨w.heap.size, 0, none⟩) := by rw [← Array.getD_eq_getD_getElem?]; exact e2
      have f12 : T[3]?.getD undef = .int .i64 o := by rw [← Array.getD_eq_getD_getElem?]; exact e12
      have f13 : T[4]?.getD undef = .int .i64 t := by rw [← Array.getD_eq_getD_getElem?]; exact e13
      have HK := Lib.hid hI.key
      have HV := Lib.hid hI.val
      have HB := Lib.hid hI.bel
      clear hI hall d11 d12 d13 hs hr
      go_wp2
      refine bodyPost_ret (v := .tuple #[.agg #[.int .i64 r.off, .int .i64 r.time, .bool r.hk, .slice Ak r.key.length ck, .bool r.hv, .slice Av r.val.length cv], .int .i64 o, .int .i64 t]) (by simp [results, Try.results4, go_sem, q0, q1, q2, q3, q4, q5, f2, f12, f13, hlt]) rfl ⟨r, Ak, Av, ck, cv, o, t, rfl, HK.out.mono (fun b hb => by omega), HV.out.mono (fun b hb => by omega), HB.out⟩
    case step =>
      intro L a X i hI hs hi
      obtain ⟨T, ds⟩ := a
      obtain rfl : ds = [] := hI.dfr
      have hlt : i < 14 := ready_lt hi
      have hL : L.size = 14 := hs
      have hT : T.size = 30 := hI.size
      have t2 : T.getD 2 undef = _ := hI.t2
      have t5 : T.getD 5 undef = _ := hI.t5
      have t6 : T.getD 6 undef = _ := hI.t6
      have hgl := hI.gl
      have hbl : w.heap.size < X.heap.size := by obtain ⟨_, _, _, _, _, _, hh⟩ := hI.res; exact blk_lt2 hh
      have hFg : ∀ b, w1.heap.size ≤ b → b ≠ g := fun b hb => by omega
      have hFb : ∀ b, w1.heap.size ≤ b → b ≠ w.heap.size := fun b hb => by omega
      have hbg : w2.heap.size ≠ g := by omega
      have hbb : w2.heap.size ≠ w.heap.size := by omega
      have hb2g : w.heap.size ≠ g := by omega
      have hgw : w.heap.size ≤ g := by omega
      obtain rfl | rfl | rfl | rfl | rfl | rfl | rfl | rfl | rfl | rfl | rfl | rfl | rfl | rfl : i = 0 ∨ i = 1 ∨ i = 2 ∨ i = 3 ∨ i = 4 ∨ i = 5 ∨ i = 6 ∨ i = 7 ∨ i = 8 ∨ i = 9 ∨ i = 10 ∨ i = 11 ∨ i = 12 ∨ i = 13 := by omega
      · refine wpOp_step rfl (fun K' hK => ?_)
        obtain ⟨q0, q1, q2, q3, q4, q5, qf⟩ := six hI.box
        go_simp
        exact hK _ _ (hI.next (i := 0) (d := 14) hFg hbg hb2g hgw (by omega) (by decide) hL (fun h => absurd h (by decide)) rfl (Chg.of_below (Below.refl _ _)) (hI.rdk (by decide) (by decide) (Below.refl _ _)) (put_same (by omega)))
      · refine wpOp_step rfl (fun K' hK => ?_)
        go_simp
        exact hK _ _ (hI.next (i := 1) (d := 15) hFg hbg hb2g hgw (by omega) (by decide) hL (fun h => absurd h (by decide)) rfl (Chg.of_below (bal _ _)) (hI.rdk (by decide) (by decide) (bal _ _)) ⟨X.heap.size, put_same (by omega), heap_alloc_new _ _, by omega, by omega⟩)
      · refine wpOp_step rfl (fun K' hK => ?_)
        go_simp
        exact hK _ _ (hI.next (i := 2) (d := 16) hFg hbg hb2g hgw (by omega) (by decide) hL (fun h => absurd h (by decide)) rfl (Chg.of_below (Below.refl _ _)) (hI.rdk (by decide) (by decide) (Below.refl _ _)) (put_same (by omega)))
      · refine wpOp_step rfl (fun K' hK => ?_)
        have e16 : T.getD 16 undef = _ := hI.done 2 (by omega) (dep hi 2 (by kernel_rfl))
        have l3 := ready_no hi
        have l8 : L.getD 8 false = false := by
          cases hc : L.getD 8 false with
          | false => rfl
          | true => have := hI.ord hc; rw [l3] at this; cases this
        have hr := hI.rd l8
        rw [l3] at hr
        go_simp
        refine (pickN g 63 3 _ hr (by omega) (by omega) (by omega)).mono ?_
        rintro e X2 ⟨v, rfl, a2, c2', r2', ch⟩
        obtain ⟨k, rfl⟩ := Int.eq_ofNat_of_zero_le a2
        dsimp only
        refine hK _ _ (hI.next (i := 3) (d := 17) hFg hbg hb2g hgw (by omega) (by decide) hL (fun h => absurd h (by decide)) rfl ch (fun _ => ?_) ⟨k, put_same (by omega), by omega⟩)
        rw [if_pos (by simp [Array.getD_eq_getD_getElem?, hL])]
        exact r2'
      · refine wpOp_step rfl (fun K' hK => ?_)
        obtain ⟨l, e15, hl, hlg, hlb⟩ : LitAt g w.heap.size X (T.getD 15 undef) := hI.done 1 (by omega) (dep hi 1 (by kernel_rfl))
        obtain ⟨k, e17, hk⟩ : PickV (T.getD 17 undef) := hI.done 3 (by omega) (dep hi 3 (by kernel_rfl))
        obtain rfl | rfl | rfl : k = 0 ∨ k = 1 ∨ k = 2 := by omega
        all_goals
          go_simp
          exact hK _ _ (hI.next (i := 4) (d := 18) hFg hbg hb2g hgw (by omega) (by decide) hL (fun h => absurd h (by decide)) rfl (Chg.of_below (Below.refl _ _)) (hI.rdk (by decide) (by decide) (Below.refl _ _)) ⟨l, _, put_same (by omega), by omega, hl, hlg, hlb⟩)
      · refine wpOp_step rfl (fun K' hK => ?_)
        obtain ⟨l, k, e18, hk, hl, hlg, hlb⟩ : AdrAt g w.heap.size X (T.getD 18 undef) := hI.done 4 (by omega) (dep hi 4 (by kernel_rfl))
        obtain ⟨y0, y1, y2, yf⟩ := tri3 hl
        obtain rfl | rfl | rfl : k = 0 ∨ k = 1 ∨ k = 2 := by omega
        all_goals
          go_simp
          exact hK _ _ (hI.next (i := 5) (d := 19) hFg hbg hb2g hgw (by omega) (by decide) hL (fun h => absurd h (by decide)) rfl (Chg.of_below (Below.refl _ _)) (hI.rdk (by decide) (by decide) (Below.refl _ _)) ⟨_, put_same (by omega)⟩)
      · refine wpOp_step rfl (fun K' hK => ?_)
        go_simp
        exact hK _ _ (hI.next (i := 6) (d := 20) hFg hbg hb2g hgw (by omega) (by decide) hL (fun h => absurd h (by decide)) rfl (Chg.of_below (bal _ _)) (hI.rdk (by decide) (by decide) (bal _ _)) ⟨X.heap.size, put_same (by omega), heap_alloc_new _ _, by omega, by omega⟩)
      · refine wpOp_step rfl (fun K' hK => ?_)
        go_simp
        exact hK _ _ (hI.next (i := 7) (d := 21) hFg hbg hb2g hgw (by omega) (by decide) hL (fun h => absurd h (by decide)) rfl (Chg.of_below (Below.refl _ _)) (hI.rdk (by decide) (by decide) (Below.refl _ _)) (put_same (by omega)))
      · refine wpOp_step rfl (fun K' hK => ?_)
        have e21 : T.getD 21 undef = _ := hI.done 7 (by omega) (dep hi 7 (by kernel_rfl))
        have l3 := dep hi 3 (by kernel_rfl)
        have hr := hI.rd (ready_no hi)
        rw [if_pos l3] at hr
        go_simp
        refine (pickN g (63 + 1) 3 _ hr (by omega) (by omega) (by omega)).mono ?_
        rintro e X2 ⟨v, rfl, a2, c2', r2', ch⟩
        obtain ⟨k, rfl⟩ := Int.eq_ofNat_of_zero_le a2
        dsimp only
        refine hK _ _ (hI.next (i := 8) (d := 22) hFg hbg hb2g hgw (by omega) (by decide) hL (fun _ => dep hi 3 (by kernel_rfl)) rfl ch (fun hh => ?_) ⟨k, put_same (by omega), by omega⟩)
        simp [Array.getD_eq_getD_getElem?, hL] at hh
      · refine wpOp_step rfl (fun K' hK => ?_)
        obtain ⟨l, e20, hl, hlg, hlb⟩ : LitAt g w.heap.size X (T.getD 20 undef) := hI.done 6 (by omega) (dep hi 6 (by kernel_rfl))
        obtain ⟨k, e22, hk⟩ : PickV (T.getD 22 undef) := hI.done 8 (by omega) (dep hi 8 (by kernel_rfl))
        obtain rfl | rfl | rfl : k = 0 ∨ k = 1 ∨ k = 2 := by omega
        all_goals
          go_simp
          exact hK _ _ (hI.next (i := 9) (d := 23) hFg hbg hb2g hgw (by omega) (by decide) hL (fun h => absurd h (by decide)) rfl (Chg.of_below (Below.refl _ _)) (hI.rdk (by decide) (by decide) (Below.refl _ _)) ⟨l, _, put_same (by omega), by omega, hl, hlg, hlb⟩)
      · refine wpOp_step rfl (fun K' hK => ?_)
        obtain ⟨l, k, e23, hk, hl, hlg, hlb⟩ : AdrAt g w.heap.size X (T.getD 23 undef) := hI.done 9 (by omega) (dep hi 9 (by kernel_rfl))
        obtain ⟨y0, y1, y2, yf⟩ := tri3 hl
        obtain rfl | rfl | rfl : k = 0 ∨ k = 1 ∨ k = 2 := by omega
        all_goals
          go_simp
          exact hK _ _ (hI.next (i := 10) (d := 24) hFg hbg hb2g hgw (by omega) (by decide) hL (fun h => absurd h (by decide)) rfl (Chg.of_below (Below.refl _ _)) (hI.rdk (by decide) (by decide) (Below.refl _ _)) ⟨_, put_same (by omega)⟩)
      · refine wpOp_step rfl (fun K' hK => ?_)
        have e14 : T.getD 14 undef = _ := hI.done 0 (by omega) (dep hi 0 (by kernel_rfl))
        have l8 := dep hi 8 (by kernel_rfl)
        obtain ⟨v0, v1, v2, v3, v4, v5, hres⟩ := hI.res
        obtain ⟨q0, q1, q2, q3, q4, q5, qf⟩ := six hres
        go_simp
        refine hK _ _ (hI.store hFb hbb hb2g (Nat.le_refl _) hL l8 (Chg.setCells (fun b => b = w.heap.size) (g := w.heap.size) rfl [.int .i64 r.off, .int .i64 r.time, .bool r.hk, .slice Ak r.key.length ck, .bool r.hv, .slice Av r.val.length cv] 0 X) ?_)
        have := blk_put (blk_put (blk_put (blk_put (blk_put (blk_put hres 0 (.int .i64 r.off)) 1 (.int .i64 r.time)) 2 (.bool r.hk)) 3 (.slice Ak r.key.length ck)) 4 (.bool r.hv)) 5 (.slice Av r.val.length cv)
        simpa using this
      · refine wpOp_step rfl (fun K' hK => ?_)
        obtain ⟨x, e19⟩ : NumV (T.getD 19 undef) := hI.done 5 (by omega) (dep hi 5 (by kernel_rfl))
        go_simp
        exact hK _ _ (hI.next (i := 12) (d := 3) hFg hbg hb2g hgw (by omega) (by decide) hL (fun h => absurd h (by decide)) rfl (Chg.of_below (Below.refl _ _)) (hI.rdk (by decide) (by decide) (Below.refl _ _)) ⟨x, put_same (by omega)⟩)
      · refine wpOp_step rfl (fun K' hK => ?_)
        obtain ⟨x, e24⟩ : NumV (T.getD 24 undef) := hI.done 10 (by omega) (dep hi 10 (by kernel_rfl))
        go_simp
        exact hK _ _ (hI.next (i := 13) (d := 4) hFg hbg hb2g hgw (by omega) (by decide) hL (fun h => absurd h (by decide)) rfl (Chg.of_below (Below.refl _ _)) (hI.rdk (by decide) (by decide) (Below.refl _ _)) ⟨x, put_same (by omega)⟩)
end Go.Proofs.Ytgnjnpfeofhniaa
