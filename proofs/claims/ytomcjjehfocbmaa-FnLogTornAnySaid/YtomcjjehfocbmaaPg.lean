/- Plain: a batch of which a byte was changed. No program in sight. -/
import Derived.Test.YtomcjjehfocbmaaPf
namespace Go.Proofs.Ytomcjjehfocbmaa
set_option linter.unusedVariables false
set_option linter.unusedSimpArgs false

theorem sumStep_inj {s u b : Int} (hs : 0 ≤ s ∧ s ≤ 65520) (hu : 0 ≤ u ∧ u ≤ 65520) (h : sumStep s b = sumStep u b) : s = u := by
  unfold sumStep at h
  omega
theorem sumGo_inj {s u : Int} (l : List Int) (hs : 0 ≤ s ∧ s ≤ 65520) (hu : 0 ≤ u ∧ u ≤ 65520) (h : sumGo s l = sumGo u l) : s = u := by
  induction l generalizing s u with
  | nil => exact h
  | cons b t ih => exact sumStep_inj hs hu (ih (sumStep_range s b) (sumStep_range u b) h)
theorem sumStep_other {s x y : Int} (hx : 0 ≤ x ∧ x ≤ 255) (hy : 0 ≤ y ∧ y ≤ 255) (h : sumStep s x = sumStep s y) : x = y := by
  unfold sumStep at h
  omega
/-- One byte changed changes the sum. -/
theorem sumB_set {l : List Int} {k : Nat} {y : Int} (hk : k < l.length) (hb : bytesB l = true) (hy : 0 ≤ y ∧ y ≤ 255) (h : sumB (l.set k y) = sumB l) : y = l[k] := by
  have e1 : l = l.take k ++ (l[k] :: l.drop (k + 1)) := by rw [← List.drop_eq_getElem_cons hk, List.take_append_drop]
  have e2 : l.set k y = l.take k ++ (y :: l.drop (k + 1)) := by
    rw [List.set_eq_take_append_cons_drop, if_pos hk]
  have hr : 0 ≤ sumGo 1 (l.take k) ∧ sumGo 1 (l.take k) ≤ 65520 := sumGo_range _ _ (by omega)
  have h1 : sumGo (sumStep (sumGo 1 (l.take k)) y) (l.drop (k + 1)) = sumGo (sumStep (sumGo 1 (l.take k)) l[k]) (l.drop (k + 1)) := by
    have a1 : sumB (l.set k y) = sumGo (sumStep (sumGo 1 (l.take k)) y) (l.drop (k + 1)) := by
      unfold sumB; rw [e2, sumGo_append]; rfl
    have a2 : sumB l = sumGo (sumStep (sumGo 1 (l.take k)) l[k]) (l.drop (k + 1)) := by
      unfold sumB; conv => lhs; rw [e1, sumGo_append]
      rfl
    rw [← a1, ← a2, h]
  exact sumStep_other hy (byte_at hb hk) (sumGo_inj _ (sumStep_range _ _) (sumStep_range _ _) h1)
theorem BatAt.sum {l : List Int} {p : Nat} {b : Bat} (h : BatAt l p b) : num2 l (p + 5) = sumB b.rest := by
  obtain ⟨hv, s, h⟩ := h
  have h1 : l.drop (p + 5) = intB2 (sumB b.rest) ++ (b.rest ++ s) := drop_app (x := intB3 b.first ++ intB2 b.rest.length) (by rw [h]; unfold batBytes; simp) 5 rfl
  have hr : 0 ≤ sumB b.rest ∧ sumB b.rest ≤ 65520 := sumGo_range _ _ (by omega)
  exact num2_int h1 (by omega)
theorem batAt_self {b : Bat} (h : batB b = true) : BatAt (batBytes b) 0 b := ⟨h, [], by simp⟩
/-- Another byte at a place behind the number of bytes: no batch stands there any more. -/
theorem damaged {b : Bat} (hv : batB b = true) {k : Nat} {y : Int} (h5 : 5 ≤ k) (hk : k < (batBytes b).length) (hy : 0 ≤ y ∧ y ≤ 255) (hne : y ≠ (batBytes b)[k]) : ∀ c, ¬ BatAt ((batBytes b).set k y) 0 c := by
  intro c hc
  have h0 := batAt_self hv
  have hb := batBytes_bytes hv
  obtain ⟨l, hl⟩ : ∃ l, l = batBytes b := ⟨_, rfl⟩
  rw [← hl] at h0 hb hc hk
  have hne : y ≠ l[k] := by subst hl; exact hne
  have hll : l.length = 7 + b.rest.length := by rw [hl, batBytes_len, rest_len]; omega
  have gs : ∀ i, i ≠ k → (l.set k y).getD i 0 = l.getD i 0 := fun i hi => by
    rw [List.getD_eq_getElem?_getD, List.getD_eq_getElem?_getD, List.getElem?_set_ne (fun e => hi e.symm)]
  have gk : (l.set k y).getD k 0 = y := by
    rw [List.getD_eq_getElem?_getD, List.getElem?_set_self hk]; rfl
  have gl : l.getD k 0 = l[k] := getD_at hk
  have hm : (c.rest.length : Int) = b.rest.length := by
    rw [← hc.many, ← h0.many]
    unfold num2
    rw [gs _ (by omega), gs _ (by omega)]
  have hml : c.rest.length = b.rest.length := by omega
  have hr0 : l.drop 7 = b.rest := by
    have := h0.rest_take
    rw [List.take_of_length_le (by rw [List.length_drop]; omega)] at this
    exact this
  have hr1 : (l.set k y).drop 7 = c.rest := by
    have := hc.rest_take
    rw [List.take_of_length_le (by rw [List.length_drop, List.length_set]; omega)] at this
    exact this
  have s0 := h0.sum
  have s1 := hc.sum
  unfold num2 at s0 s1
  simp only [Nat.zero_add, Nat.reduceAdd] at s0 s1
  by_cases h7 : k < 7
  · have er : c.rest = b.rest := by
      rw [← hr1, ← hr0, List.drop_set, if_pos h7]
    rw [er, ← s0] at s1
    by_cases h6 : k = 5
    · subst h6
      rw [gk, gl, gs 6 (by omega)] at s1
      omega
    · obtain rfl : k = 6 := by omega
      rw [gk, gl, gs 5 (by omega)] at s1
      omega
  · have er : c.rest = b.rest.set (k - 7) y := by
      rw [← hr1, ← hr0, List.drop_set, if_neg h7]
    rw [gs 5 (by omega), gs 6 (by omega), s0, er] at s1
    have hk7 : k - 7 < b.rest.length := by omega
    have hx := sumB_set hk7 (rest_bytes hv) hy s1.symm
    refine hne ?_
    rw [hx]
    simp only [← hr0, List.getElem_drop]
    congr 1
    omega
/-- A batch that is packed, or no more. -/
def Bat.turn (b : Bat) : Bat := { b with packed := !b.packed }
theorem turn_ok {b : Bat} (h : batB b = true) : batB b.turn = true := h
theorem turn_head (b : Bat) : (batBytes b.turn).take 3 = (batBytes b).take 3 := by
  have d : ∀ x : Bat, (batBytes x).take 3 = intB3 x.first := fun x => by unfold batBytes; simp [intB3]
  rw [d, d]
  rfl
end Go.Proofs.Ytomcjjehfocbmaa
