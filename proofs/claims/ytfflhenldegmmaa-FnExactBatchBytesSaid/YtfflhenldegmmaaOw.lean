/- Stores into a row that a call appends to. -/
import Derived.Test.YtfflhenldegmmaaAp
namespace Go.Proofs.Ytfflhenldegmmaa
set_option linter.unusedVariables false
set_option linter.unusedSimpArgs false
open Go.RowKit

/-- The own row's block, and its elements. -/
theorem AppP.own {α : Type} {d : Kind α} {e : TypeId} {w : World} {P : Nat → Prop} {v : Value} {xs : List α} (h : AppP d e w P v xs) (hn : 0 < xs.length) :
    ∃ gq cap cur, v = .slice (some ⟨gq, 0, none⟩) xs.length cap ∧ P gq ∧ w.heap[gq]? = some (.cells cur e (0, 0)) ∧ cur.size = cap * d.sz ∧ xs.length ≤ cap ∧ cap ≤ 9223372036854775807 ∧
      ∀ j x, xs[j]? = some x → ∃ cs, d.K w (fun b => P b ∧ b ≠ gq) x cs ∧ ∀ i u, cs[i]? = some u → w.cell? ⟨gq, j * d.sz + i, none⟩ = some u := by
  obtain ⟨F, inner, ho, hP, hF, hE⟩ := h
  rcases id ho.2 with ⟨_, h0⟩ | ⟨gq, cap, cur, rfl, hg, hh, h1, h2, h3, h4⟩
  · omega
  · refine ⟨gq, cap, cur, rfl, hP gq rfl, hh, h3, h1, by unfold maxLen at h2; omega, fun j x hj => ?_⟩
    obtain ⟨cs, hK, hc⟩ := hE j x hj
    refine ⟨cs, d.mono (fun b hb => ⟨(hF b hb).1, fun h => (hF b hb).2.2 (by subst h; rfl)⟩) hK, fun i u hu => ?_⟩
    have := ho.cells (g := gq) rfl _ _ (hc i u hu)
    have hadd : (⟨gq, 0, none⟩ : Addr).add (j * d.sz + i) = ⟨gq, j * d.sz + i, none⟩ := by unfold Addr.add; split <;> simp_all
    rw [hadd] at this
    exact this
/-- .. with another element at place q. -/
theorem own_set {α : Type} {d : Kind α} {w : World} {P : Nat → Prop} {xs : List α} {gq cap q : Nat} {x : α} {cs : List Value} (hg : P gq) (hl : xs.length ≤ cap) (hc : cap ≤ 9223372036854775807)
    (hE : ∀ j x, xs[j]? = some x → ∃ cs, d.K w (fun b => P b ∧ b ≠ gq) x cs ∧ ∀ i u, cs[i]? = some u → w.cell? ⟨gq, j * d.sz + i, none⟩ = some u) (hq : q < xs.length) (hK : d.K w (fun b => P b ∧ b ≠ gq) x cs) :
    d.Row (w.setCells gq (q * d.sz) cs) P (some ⟨gq, 0, none⟩) cap (xs.set q x) := by
  have hcl := d.len hK
  have cF : Chg (fun b => b = gq) w (w.setCells gq (q * d.sz) cs) := Chg.setCells (fun b => b = gq) rfl cs _ w
  have hin : ∀ j, j < cs.length → (w.cell? ⟨gq, q * d.sz + j, none⟩).isSome = true := by
    intro j hj
    obtain ⟨ds, hK', h'⟩ := hE q _ (List.getElem?_eq_getElem hq)
    have hj' : j < ds.length := by rw [d.len hK', ← hcl]; exact hj
    rw [h' j _ (List.getElem?_eq_getElem hj')]
    rfl
  refine ⟨by simpa using hl, hc, fun _ => ⟨_, rfl, hg, fun j y hj => ?_⟩⟩
  have hadd : ∀ m, (⟨gq, 0, none⟩ : Addr).add m = ⟨gq, m, none⟩ := by intro m; unfold Addr.add; split <;> simp_all
  by_cases hjq : j = q
  · subst hjq
    have : y = x := by simpa [hq] using hj.symm
    subst this
    refine ⟨cs, d.mono (fun b h => h.1) (d.keep (cF.same (fun i _ h1 h2 => h1.2 h2)) hK), fun i u hu => ?_⟩
    rw [hadd]
    have hi := (List.getElem?_eq_some_iff.1 hu).1
    have := World.cell?_setCells_in gq cs (j * d.sz) w hin i hi
    rw [this]
    exact hu ▸ (List.getElem?_eq_getElem hi).symm
  · rw [List.getElem?_set_ne (fun h => hjq h.symm)] at hj
    obtain ⟨ds, hK', h'⟩ := hE j y hj
    refine ⟨ds, d.mono (fun b h => h.1) (d.keep (cF.same (fun i _ h1 h2 => h1.2 h2)) hK'), fun i u hu => ?_⟩
    rw [hadd, World.cell?_setCells_out gq cs _ w _ (fun _ _ => ?_)]
    · exact h' i u hu
    · have hi : i < d.sz := by rw [← d.len hK']; exact (List.getElem?_eq_some_iff.1 hu).1
      rcases Nat.lt_or_gt_of_ne hjq with h | h
      · left
        have : j * d.sz + d.sz ≤ q * d.sz := by rw [← Nat.succ_mul]; exact Nat.mul_le_mul_right _ h
        show j * d.sz + i < q * d.sz
        omega
      · right
        have : q * d.sz + d.sz ≤ j * d.sz := by rw [← Nat.succ_mul]; exact Nat.mul_le_mul_right _ h
        show q * d.sz + cs.length ≤ j * d.sz + i
        omega
/-- A store of what is there. -/
theorem setCell_self {w : World} {g i : Nat} {t : TypeId} {cs : Array Value} {u : Value} (h : w.heap[g]? = some (.cells cs t (0, 0))) (hu : cs[i]? = some u) : w.setCell ⟨g, i, none⟩ u = w := by
  have hc : cs.setIfInBounds i u = cs := by
    apply Array.ext
    · simp
    · intro j h1 h2
      rw [Array.getElem_setIfInBounds]
      split
      · rename_i e
        subst e
        exact (Array.getElem?_eq_some_iff.1 hu).2.symm
      · rfl
  have hm : (w.setCell ⟨g, i, none⟩ u).heap = w.heap := by
    apply Array.ext_getElem?
    intro j
    by_cases hj : j = g
    · subst hj
      rw [blk_put h, hc, h]
    · exact Below.heap_setCell w ⟨g, i, none⟩ u j hj
  have hd : w.setCell ⟨g, i, none⟩ u = { w with heap := (w.setCell ⟨g, i, none⟩ u).heap } := rfl
  rw [hd, hm]
theorem cell_arr {w : World} {g i : Nat} {t : TypeId} {cs : Array Value} {u : Value} (h : w.heap[g]? = some (.cells cs t (0, 0))) (hu : w.cell? ⟨g, i, none⟩ = some u) : cs[i]? = some u := by
  simpa [World.cell?, h] using hu
end Go.Proofs.Ytfflhenldegmmaa
