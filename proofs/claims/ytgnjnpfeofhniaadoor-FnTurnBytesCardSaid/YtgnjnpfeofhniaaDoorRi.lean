/- A region that draws its order, by one invariant. No program in sight. -/
import Derived.Test.YtgnjnpfeofhniaaDoorGa
namespace Go.Proofs.YtgnjnpfeofhniaaDoor
set_option linter.unusedVariables false
set_option linter.unusedSimpArgs false
open Go.RowKit

/-- A region that draws its order: an operation at a time, under one invariant. -/
theorem wpAny_inv {P : Program} {md : Region.Mode} {ops : Array Oper} {Q : Exit → Act → World → Prop} (Inv : Array Bool → Act → World → Prop)
    (step : ∀ (listed : Array Bool) (a : Act) (w : World) (i : Nat), Inv listed a w → listed.size = ops.size → i ∈ Region.ready md ops listed → wpOp P ops Q i (fun a' w' => Inv (listed.setIfInBounds i true) a' w') a w)
    (fin : ∀ (listed : Array Bool) (a : Act) (w : World), Inv listed a w → listed.size = ops.size → Region.ready md ops listed = [] → Q .normal a w) :
    ∀ (fuel : Nat) (listed : Array Bool) (a : Act) (w : World), listed.size = ops.size → listed.toList.count false ≤ fuel → Inv listed a w → wpAny P md ops Q fuel listed a w := by
  intro fuel
  induction fuel with
  | zero =>
    intro listed a w hs hc hI
    have hr : Region.ready md ops listed = [] := by
      cases hr : Region.ready md ops listed with
      | nil => rfl
      | cons i rs =>
        have hi : i ∈ Region.ready md ops listed := by rw [hr]; simp
        obtain ⟨h0, o, ho, _⟩ := mem_ready.1 hi
        have hlt : i < listed.size := by rw [hs]; exact (Array.getElem?_eq_some_iff.1 ho).1
        have h1 : listed.getD i true = listed[i] := by simp [Array.getD, hlt]
        have hm : false ∈ listed.toList := by
          rw [← h0, h1]
          simp
        have := List.count_pos_iff.2 hm
        omega
    exact ⟨hr, fin _ _ _ hI hs hr⟩
  | succ n ih =>
    intro listed a w hs hc hI
    refine ⟨fun hr => fin _ _ _ hI hs hr, fun i hi => wpOp_mono (fun a' w' h' => ih _ a' w' (by simp [hs]) ?_ h') (step listed a w i hI hs hi)⟩
    obtain ⟨h0, o, ho, _⟩ := mem_ready.1 hi
    have hlt : i < listed.size := by rw [hs]; exact (Array.getElem?_eq_some_iff.1 ho).1
    have h1 : listed.getD i true = listed[i] := by simp [Array.getD, hlt]
    rw [Array.toList_setIfInBounds, List.count_set (by simpa using hlt)]
    have h2 : listed.toList[i]'(by simpa using hlt) = false := by rw [← h0, h1]; simp
    have e1 : ((false : Bool) == false) = true := rfl
    have e2 : ((true : Bool) == false) = false := rfl
    rw [h2, e1, e2, if_pos rfl, if_neg (by decide)]
    omega
theorem dep {md : Region.Mode} {ops : Array Oper} {L : Array Bool} {i : Nat} (hi : i ∈ Region.ready md ops L) (j : Nat) (hj : (ops[i]?).map (fun o => o.after.any (fun e => e.on == j && Region.binds md e)) = some true) : L.getD j false = true := by
  obtain ⟨_, o, ho, hall⟩ := mem_ready.1 hi
  rw [ho] at hj
  simp only [Option.map_some, Option.some.injEq, Array.any_eq_true, Bool.and_eq_true, beq_iff_eq] at hj
  obtain ⟨x, hx, h1, h2⟩ := hj
  rw [← h1]
  exact hall _ (Array.getElem_mem hx) h2
theorem ready_lt {md : Region.Mode} {ops : Array Oper} {L : Array Bool} {i : Nat} (hi : i ∈ Region.ready md ops L) : i < ops.size := by
  obtain ⟨_, o, ho, _⟩ := mem_ready.1 hi
  exact (Array.getElem?_eq_some_iff.1 ho).1
theorem ready_no {md : Region.Mode} {ops : Array Oper} {L : Array Bool} {i : Nat} (hi : i ∈ Region.ready md ops L) : L.getD i false = false := by
  obtain ⟨h, _⟩ := mem_ready.1 hi
  cases hc : L.getD i false with
  | false => rfl
  | true =>
    rw [Array.getD_eq_getD_getElem?] at h hc
    cases hl : L[i]? with
    | none => rw [hl] at hc; simp at hc
    | some b => rw [hl] at h hc; simp at h hc; rw [h] at hc; cases hc

theorem put_same {T : Array Value} {d : Nat} {v u : Value} (h : d < T.size) : (T.setIfInBounds d v).getD d u = v := by simp [Array.getD_eq_getD_getElem?, h]
theorem put_ne {α : Type} {T : Array α} {d k : Nat} {v u : α} (h : d ≠ k) : (T.setIfInBounds d v).getD k u = T.getD k u := by simp [Array.getD_eq_getD_getElem?, Array.getElem?_setIfInBounds_ne h]

theorem all_listed {md : Region.Mode} {ops : Array Oper} {L : Array Bool} (hs : L.size = ops.size) (hr : Region.ready md ops L = [])
    (hf : (List.range ops.size).all (fun j => (ops[j]?).any (fun o => o.after.all fun e => !Region.binds md e || decide (e.on < j))) = true) : ∀ j, j < ops.size → L.getD j false = true := by
  intro j
  induction j using Nat.strongRecOn with
  | _ j ih =>
    intro hj
    cases hc : L.getD j false with
    | true => rfl
    | false =>
      exfalso
      have hm : j ∈ Region.ready md ops L := by
        rw [mem_ready]
        have hjl : j < L.size := by omega
        refine ⟨by rw [Array.getD_eq_getD_getElem?] at hc ⊢; rw [Array.getElem?_eq_getElem hjl] at hc ⊢; simpa using hc, ops[j], Array.getElem?_eq_getElem hj, fun e he hb => ?_⟩
        have h1 := List.all_eq_true.1 hf j (List.mem_range.2 hj)
        rw [Array.getElem?_eq_getElem hj] at h1
        simp only [Option.any_some, Array.all_eq_true_iff_forall_mem] at h1
        have h2 := h1 e he
        rw [hb] at h2
        simp at h2
        exact ih e.on h2 (by omega)
      rw [hr] at hm
      cases hm
theorem tri3 {w : World} {g : Nat} {t : TypeId} {v0 v1 v2 : Value} (h : w.heap[g]? = some (.cells #[v0, v1, v2] t (0, 0))) :
    w.cell? ⟨g, 0, none⟩ = some v0 ∧ w.cell? ⟨g, 1, none⟩ = some v1 ∧ w.cell? ⟨g, 2, none⟩ = some v2 ∧ ∀ i, w.frozen? ⟨g, i, none⟩ = false := by
  refine ⟨?_, ?_, ?_, fun i => ?_⟩ <;> simp [World.cell?, World.frozen?, h]
theorem blk_lt2 {w : World} {g : Nat} {o : Obj} (h : w.heap[g]? = some o) : g < w.heap.size := (Array.getElem?_eq_some_iff.1 h).1
theorem far6 {w : World} {g g' : Nat} (h : g ≠ g') {i : Nat} {v u0 u1 u2 u3 u4 u5 : Value} (hc : w.cell? ⟨g, i, none⟩ = some v) : ((((((w.setCell ⟨g', 0, none⟩ u0).setCell ⟨g', 1, none⟩ u1).setCell ⟨g', 2, none⟩ u2).setCell ⟨g', 3, none⟩ u3).setCell ⟨g', 4, none⟩ u4).setCell ⟨g', 5, none⟩ u5).cell? ⟨g, i, none⟩ = some v := by
  have hb := Chg.setCells (fun b => b = g') (g := g') rfl [u0, u1, u2, u3, u4, u5] 0 w
  exact (World.cell?_of_block (hb.block _ (World.block_lt_of_cell? _ _ hc) h)).trans hc
end Go.Proofs.YtgnjnpfeofhniaaDoor
