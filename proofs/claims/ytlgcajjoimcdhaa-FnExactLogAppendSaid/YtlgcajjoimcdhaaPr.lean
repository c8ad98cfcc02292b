/- Plain laws of finding and reading records. No program in sight. -/
import Derived.Test.YtlgcajjoimcdhaaPh
namespace Go.Proofs.Ytlgcajjoimcdhaa
set_option linter.unusedVariables false
set_option linter.unusedSimpArgs false

theorem find_first {rs : List Rec} (hp : rs.Pairwise Rec.lt) {p : Rec → Bool} {s r : Rec} (hs : rs.find? p = some s) (hr : r ∈ rs) (hpr : p r = true) : s.off ≤ r.off := by
  induction rs with
  | nil => cases hr
  | cons a t ih =>
    rw [List.find?_cons] at hs
    cases ha : p a with
    | true =>
      rw [ha] at hs
      simp at hs
      subst hs
      rcases List.mem_cons.1 hr with rfl | h
      · exact Int.le_refl _
      · exact Int.le_of_lt ((List.pairwise_cons.1 hp).1 r h)
    | false =>
      rw [ha] at hs
      rcases List.mem_cons.1 hr with rfl | h
      · rw [ha] at hpr; cases hpr
      · exact ih (List.pairwise_cons.1 hp).2 hs h
theorem findT_later {bs : List Bat} (h : logB bs = true) (t : Int) : timesFind bs (t + 1) = -1 ∨ timesFind bs t ≤ timesFind bs (t + 1) := by
  unfold timesFind findT
  rw [if_pos h, if_pos h]
  cases hf : (allRecs bs).find? (timeB (t + 1)) with
  | none => exact .inl rfl
  | some r =>
    right
    have hr := List.mem_of_find?_eq_some hf
    have hp := List.find?_some hf
    have hp' : timeB t r = true := by simp [timeB] at hp ⊢; omega
    cases hg : (allRecs bs).find? (timeB t) with
    | none => exact absurd hp' (by simpa using List.find?_eq_none.1 hg r hr)
    | some s => exact find_first (allRecs_up h) hg hr hp'
/-- What is ahead of what is found. -/
theorem find_ahead {rs : List Rec} {p : Rec → Bool} {s : Rec} (hs : rs.find? p = some s) : ∃ k, ∃ hk : k < rs.length, rs[k] = s ∧ p s = true ∧ ∀ j (hj : j < k), p (rs[j]'(by omega)) = false := by
  induction rs with
  | nil => cases hs
  | cons a t ih =>
    rw [List.find?_cons] at hs
    cases ha : p a with
    | true =>
      rw [ha] at hs
      simp at hs
      subst hs
      exact ⟨0, by simp, rfl, ha, fun j hj => by omega⟩
    | false =>
      rw [ha] at hs
      obtain ⟨k, hk, e, h1, h2⟩ := ih hs
      refine ⟨k + 1, by simpa using hk, by simpa using e, h1, fun j hj => ?_⟩
      cases j with
      | zero => simpa using ha
      | succ j => simpa using h2 j (by omega)
theorem up_ne {rs : List Rec} (hp : rs.Pairwise Rec.lt) {j k : Nat} (hk : k < rs.length) (hj : j < k) : (rs[j]'(by omega)).off ≠ rs[k].off := by
  have := List.pairwise_iff_getElem.1 hp j k (by omega) hk hj
  unfold Rec.lt at this
  omega
theorem endOf_last {bs : List Bat} (h : logB bs = true) (h0 : 0 < bs.length) : endOf bs = (bs[bs.length - 1]'(by omega)).last + 1 := by
  unfold endOf
  rw [if_neg (by omega), batAt_eq (by omega)]
theorem off_lt_end {bs : List Bat} (h : logB bs = true) : ∀ r ∈ allRecs bs, r.off < endOf bs := by
  intro r hr
  obtain ⟨b, hb, hr'⟩ := List.mem_flatMap.1 hr
  obtain ⟨i, hi, rfl⟩ := List.getElem_of_mem hb
  obtain ⟨_, hv, hp⟩ := (logB_iff _).1 h
  rw [endOf_last h (by omega)]
  have h1 := off_between (hv _ (List.getElem_mem hi)) hr'
  by_cases hl : i = bs.length - 1
  · subst hl; omega
  · have h2 := List.pairwise_iff_getElem.1 hp i (bs.length - 1) hi (by omega) (by omega)
    have h3 := first_le_last (hv _ (List.getElem_mem (l := bs) (n := bs.length - 1) (by omega)))
    unfold Bat.lt at h2
    omega
theorem endOf_nonneg {bs : List Bat} (h : logB bs = true) : 0 ≤ endOf bs ∧ endOf bs ≤ 100000 := by
  by_cases h0 : bs.length = 0
  · unfold endOf; rw [if_pos h0]; omega
  · rw [endOf_last h (by omega)]
    have hv := ((logB_iff _).1 h).2.1 _ (List.getElem_mem (l := bs) (n := bs.length - 1) (by omega))
    have hpos := batB_pos hv
    rw [last_eq hpos]
    have := recB_bounds (((recsB_iff _).1 (batB_recs hv)).1 _ (List.getElem_mem (l := (bs[bs.length - 1]'(by omega)).recs) (n := (bs[bs.length - 1]'(by omega)).recs.length - 1) (by omega)))
    omega
theorem readOne_end {bs : List Bat} (h : logB bs = true) : readOne bs (endOf bs) = none := by
  unfold readOne
  rw [if_pos h, List.find?_eq_none]
  intro r hr
  have := off_lt_end h r hr
  simp [offB]; omega
theorem readOne_last {bs : List Bat} (h : logB bs = true) (h0 : 0 < bs.length) : (readOne bs (endOf bs - 1)).isSome = true := by
  unfold readOne
  rw [if_pos h, List.find?_isSome]
  have hv := ((logB_iff _).1 h).2.1 _ (List.getElem_mem (l := bs) (n := bs.length - 1) (by omega))
  have hpos := batB_pos hv
  refine ⟨_, List.mem_flatMap.2 ⟨_, List.getElem_mem (l := bs) (n := bs.length - 1) (by omega), List.getElem_mem (l := (bs[bs.length - 1]'(by omega)).recs) (n := (bs[bs.length - 1]'(by omega)).recs.length - 1) (by omega)⟩, ?_⟩
  rw [endOf_last h h0, last_eq hpos]
  simp [offB]

/-! reading on -/
def onB (o : Int) (r : Rec) : Bool := decide (o ≤ r.off)
def unmarked (bs : List Bat) : List Bat := bs.filter (fun b => !b.mark)
def recsOn (bs : List Bat) (o : Int) : List Rec := (allRecs (unmarked bs)).filter (onB o)
def readRecords (bs : List Bat) (o : Int) (many : Int) : List Rec := if logB bs && inB many 0 99 then (recsOn bs o).take many.toNat else []
theorem logB_sub {bs cs : List Bat} (h : logB bs = true) (hs : cs.Sublist bs) : logB cs = true := by
  rw [logB_iff] at h ⊢
  exact ⟨Nat.le_trans hs.length_le h.1, fun e he => h.2.1 e (hs.subset he), h.2.2.sublist hs⟩
theorem logB_unmarked {bs : List Bat} (h : logB bs = true) : logB (unmarked bs) = true := logB_sub h List.filter_sublist
theorem recsOn_up {bs : List Bat} (h : logB bs = true) (o : Int) : (recsOn bs o).Pairwise Rec.lt := (allRecs_up (logB_unmarked h)).filter _
theorem recsOn_ge {bs : List Bat} {o : Int} {r : Rec} (h : r ∈ recsOn bs o) : o ≤ r.off := by
  have := (List.mem_filter.1 h).2
  simpa [onB] using this
theorem readRecords_mem {bs : List Bat} {o m : Int} {r : Rec} (h : r ∈ readRecords bs o m) : logB bs = true ∧ inB m 0 99 = true ∧ r ∈ recsOn bs o := by
  unfold readRecords at h
  split at h
  · rename_i hc
    rw [Bool.and_eq_true] at hc
    exact ⟨hc.1, hc.2, List.mem_of_mem_take h⟩
  · cases h
theorem readRecords_up (bs : List Bat) (o m : Int) : (readRecords bs o m).Pairwise Rec.lt := by
  unfold readRecords
  split
  · rename_i hc
    rw [Bool.and_eq_true] at hc
    exact (recsOn_up hc.1 o).sublist (List.take_sublist _ _)
  · exact List.Pairwise.nil
theorem readRecords_len (bs : List Bat) (o m : Int) : (readRecords bs o m).length = 0 ∨ ((readRecords bs o m).length : Int) ≤ m := by
  unfold readRecords
  split
  · rename_i hc
    simp [inB] at hc
    right
    simp; omega
  · exact .inl rfl
theorem readRecords_all {bs : List Bat} (h : logB bs = true) : readRecords bs 0 99 = allRecs (unmarked bs) := by
  unfold readRecords recsOn
  rw [h, if_pos (show (true && inB 99 0 99) = true from rfl)]
  have hu := logB_unmarked h
  have e : (allRecs (unmarked bs)).filter (onB 0) = allRecs (unmarked bs) := by
    rw [List.filter_eq_self]
    intro r hr
    have := recB_bounds (allRecs_recB hu r hr)
    simp [onB]; omega
  rw [e, List.take_of_length_le]
  have := allRecs_len hu
  simp; omega
theorem readRecords_le (bs : List Bat) (h : logB bs = true) (o m : Int) : (readRecords bs o m).length ≤ (allRecs (unmarked bs)).length := by
  unfold readRecords
  split
  · have := List.length_filter_le (onB o) (allRecs (unmarked bs))
    unfold recsOn
    simp; omega
  · simp
/-- Records of marks are not among those that are read. -/
theorem readRecords_mark {bs : List Bat} {o m : Int} {r : Rec} (hr : r ∈ readRecords bs o m) {b : Bat} (hb : b ∈ bs) (hm : b.mark = true) : b.first ≠ r.off := by
  obtain ⟨h, _, hr⟩ := readRecords_mem hr
  obtain ⟨b', hb', hr'⟩ := List.mem_flatMap.1 (List.mem_filter.1 hr).1
  have hb2 := List.mem_filter.1 hb'
  obtain ⟨_, hv, hp⟩ := (logB_iff _).1 h
  obtain ⟨i, hi, rfl⟩ := List.getElem_of_mem hb
  obtain ⟨j, hj, rfl⟩ := List.getElem_of_mem hb2.1
  have hij : i ≠ j := by
    rintro rfl
    have := hb2.2
    rw [hm] at this
    cases this
  have h1 := off_between (hv _ (List.getElem_mem hj)) hr'
  have h2 := first_le_last (hv _ (List.getElem_mem hi))
  rcases Nat.lt_or_gt_of_ne hij with hlt | hlt
  · have := List.pairwise_iff_getElem.1 hp i j hi hj hlt
    unfold Bat.lt at this
    omega
  · have := List.pairwise_iff_getElem.1 hp j i hj hi hlt
    unfold Bat.lt at this
    omega
theorem filter_from {rs : List Rec} (hp : rs.Pairwise Rec.lt) {k : Nat} (hk : k < rs.length) : rs.filter (onB (rs[k].off + 1)) = rs.drop (k + 1) := by
  have e := List.take_append_drop (k + 1) rs
  have hsplit : rs.filter (onB (rs[k].off + 1)) = (rs.take (k + 1)).filter (onB (rs[k].off + 1)) ++ (rs.drop (k + 1)).filter (onB (rs[k].off + 1)) := by rw [← List.filter_append, e]
  have hpp := List.pairwise_iff_getElem.1 hp
  rw [hsplit]
  have h1 : (rs.take (k + 1)).filter (onB (rs[k].off + 1)) = [] := by
    rw [List.filter_eq_nil_iff]
    intro r hr
    obtain ⟨i, hi, rfl⟩ := List.getElem_of_mem hr
    rw [List.getElem_take]
    have hi' : i < k + 1 := by simp at hi; omega
    by_cases hik : i = k
    · subst hik; simp [onB]; omega
    · have := hpp i k (by omega) hk (by omega)
      unfold Rec.lt at this
      simp [onB]; omega
  have h2 : (rs.drop (k + 1)).filter (onB (rs[k].off + 1)) = rs.drop (k + 1) := by
    rw [List.filter_eq_self]
    intro r hr
    obtain ⟨i, hi, rfl⟩ := List.getElem_of_mem hr
    rw [List.getElem_drop]
    have := hpp k (k + 1 + i) hk (by simp at hi; omega) (by omega)
    unfold Rec.lt at this
    simp [onB]; omega
  rw [h1, h2, List.nil_append]
theorem filter_filter_on (rs : List Rec) (o o' : Int) (h : o ≤ o') : (rs.filter (onB o)).filter (onB o') = rs.filter (onB o') := by
  rw [List.filter_filter]
  congr 1
  funext r
  by_cases h1 : o' ≤ r.off
  · simp [onB, h1]; omega
  · simp [onB, h1]
/-- Reading goes on behind the last record that was read. -/
theorem readRecords_on {bs : List Bat} {o m : Int} {k : Nat} (hk : 0 < k) (hkl : k ≤ (readRecords bs o m).length) :
    readRecords bs o k = (readRecords bs o m).take k ∧ (readRecords bs o k).length = k ∧
      ∀ r, (readRecords bs o k)[k - 1]? = some r → readRecords bs o k ++ readRecords bs (r.off + 1) (m - k) = readRecords bs o m := by
  have hne : readRecords bs o m ≠ [] := by intro e; rw [e] at hkl; simp at hkl; omega
  obtain ⟨x, hx⟩ := List.exists_mem_of_ne_nil _ hne
  obtain ⟨hlog, hm, _⟩ := readRecords_mem hx
  have hm' := hm
  simp [inB] at hm'
  have e1 : readRecords bs o m = (recsOn bs o).take m.toNat := by unfold readRecords; rw [hlog, hm]; rfl
  have hlen : k ≤ m.toNat ∧ k ≤ (recsOn bs o).length := by rw [e1] at hkl; simp at hkl; omega
  have hki : inB (k : Int) 0 99 = true := by simp [inB]; omega
  have e2 : readRecords bs o k = (recsOn bs o).take k := by unfold readRecords; rw [hlog, hki]; simp
  refine ⟨by rw [e1, e2, List.take_take, Nat.min_eq_left hlen.1], by rw [e2]; simp; omega, fun r hr => ?_⟩
  have hmk : inB (m - k) 0 99 = true := by simp [inB]; omega
  have hk1 : k - 1 < (recsOn bs o).length := by omega
  have hr' : (recsOn bs o)[k - 1] = r := by
    rw [e2, List.getElem?_take, if_pos (by omega), List.getElem?_eq_getElem hk1] at hr
    injection hr
  have e3 : readRecords bs (r.off + 1) (m - k) = ((recsOn bs o).drop k).take (m.toNat - k) := by
    unfold readRecords
    rw [hlog, hmk]
    have hro : o ≤ r.off + 1 := by
      have : r ∈ recsOn bs o := by rw [← hr']; exact List.getElem_mem _
      have := recsOn_ge this
      omega
    have : recsOn bs (r.off + 1) = (recsOn bs o).drop k := by
      have h1 := filter_from (recsOn_up hlog o) hk1
      rw [hr', show k - 1 + 1 = k by omega] at h1
      rw [← h1]
      unfold recsOn
      rw [filter_filter_on _ _ _ hro]
    rw [this]
    simp
  rw [e2, e3, e1]
  rw [show m.toNat = k + (m.toNat - k) by omega, List.take_add]
  simp
end Go.Proofs.Ytlgcajjoimcdhaa
