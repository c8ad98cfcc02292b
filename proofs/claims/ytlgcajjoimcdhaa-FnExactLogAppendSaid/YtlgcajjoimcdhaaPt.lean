/- Plain laws of segments: order, parts, times, reading. No program in sight. -/
import Derived.Test.YtlgcajjoimcdhaaPe
namespace Go.Proofs.Ytlgcajjoimcdhaa
set_option linter.unusedVariables false
set_option linter.unusedSimpArgs false

def allRecs (bs : List Bat) : List Rec := bs.flatMap (·.recs)
def Rec.lt (a b : Rec) : Prop := a.off < b.off
def Bat.lt (a b : Bat) : Prop := a.last < b.first

theorem recStep_iff {rs : List Rec} {k : Nat} (h : k < rs.length) : recStep rs k = true ↔ recB rs[k] = true ∧ ∀ h0 : 0 < k, Rec.lt (rs[k - 1]'(by omega)) rs[k] := by
  by_cases h0 : k = 0
  · subst h0; simp [recStep, recAt_eq h]
  · have h1 : k - 1 < rs.length := by omega
    have h2 : 0 < k := by omega
    simp [recStep, recAt_eq h, recAt_eq h1, h0, h2, Rec.lt]
theorem recsB_iff (rs : List Rec) : recsB rs = true ↔ (∀ r ∈ rs, recB r = true) ∧ rs.Pairwise Rec.lt := by
  unfold recsB
  rw [allUpto_iff]
  constructor
  · intro h
    refine ⟨fun r hr => ?_, pairwise_of_adj (R := Rec.lt) (P := fun _ => True) (fun a b c _ h1 h2 => (Int.lt_trans h1 h2 : a.off < c.off)) (fun _ _ => trivial) (fun k hk => ?_)⟩
    · obtain ⟨i, hi, rfl⟩ := List.getElem_of_mem hr
      exact ((recStep_iff hi).1 (h i hi)).1
    · exact ((recStep_iff hk).1 (h (k + 1) hk)).2 (Nat.succ_pos k)
  · rintro ⟨h1, h2⟩
    intro k hk
    refine (recStep_iff hk).2 ⟨h1 _ (List.getElem_mem _), fun h0 => ?_⟩
    have h3 := adj_of_pairwise h2 (k - 1) (by omega)
    have e : k - 1 + 1 = k := by omega
    simpa only [e] using h3
theorem batB_recs {b : Bat} (h : batB b = true) : recsB b.recs = true := by
  simp only [batB, Bool.and_eq_true] at h; exact h.2
theorem batB_len {b : Bat} (h : batB b = true) : 1 ≤ b.recs.length ∧ b.recs.length ≤ 6 := by
  simp only [batB, manyB, Bool.and_eq_true] at h
  have := h.1.2.1
  simp [inB] at this
  omega
theorem batB_mark {b : Bat} (h : batB b = true) (hm : b.mark = true) : b.recs.length = 1 := by
  simp only [batB, manyB, Bool.and_eq_true] at h
  have := h.1.2.2
  simpa [hm] using this
theorem first_eq {b : Bat} (h : 0 < b.recs.length) : b.first = (b.recs[0]).off := by unfold Bat.first; rw [recAt_eq h]
theorem last_eq {b : Bat} (h : 0 < b.recs.length) : b.last = (b.recs[b.recs.length - 1]'(by omega)).off := by unfold Bat.last; rw [recAt_eq (by omega)]
/-- Each offset of a valid batch lies between the first and the last one. -/
theorem off_between {b : Bat} (h : batB b = true) {r : Rec} (hr : r ∈ b.recs) : b.first ≤ r.off ∧ r.off ≤ b.last := by
  have hp := ((recsB_iff _).1 (batB_recs h)).2
  have h0 := batB_pos h
  rw [first_eq h0, last_eq h0]
  obtain ⟨i, hi, rfl⟩ := List.getElem_of_mem hr
  have hp' := List.pairwise_iff_getElem.1 hp
  constructor
  · rcases Nat.eq_zero_or_pos i with rfl | h1
    · exact Int.le_refl _
    · exact Int.le_of_lt (hp' 0 i h0 hi h1)
  · by_cases h1 : i = b.recs.length - 1
    · subst h1; exact Int.le_refl _
    · exact Int.le_of_lt (hp' i (b.recs.length - 1) hi (by omega) (by omega))
theorem first_le_last {b : Bat} (h : batB b = true) : b.first ≤ b.last := by
  have h0 := batB_pos h
  have := off_between h (List.getElem_mem (l := b.recs) (n := 0) h0)
  omega
theorem batStep_iff {bs : List Bat} {k : Nat} (h : k < bs.length) : batStep bs k = true ↔ batB bs[k] = true ∧ ∀ h0 : 0 < k, Bat.lt (bs[k - 1]'(by omega)) bs[k] := by
  by_cases h0 : k = 0
  · subst h0; simp [batStep, batAt_eq h]
  · have h1 : k - 1 < bs.length := by omega
    have h2 : 0 < k := by omega
    simp [batStep, batAt_eq h, batAt_eq h1, h0, h2, Bat.lt]
theorem logB_iff (bs : List Bat) : logB bs = true ↔ bs.length ≤ 8 ∧ (∀ b ∈ bs, batB b = true) ∧ bs.Pairwise Bat.lt := by
  unfold logB
  rw [Bool.and_eq_true, allUpto_iff]
  simp only [decide_eq_true_eq]
  constructor
  · rintro ⟨h8, h⟩
    have hb : ∀ b ∈ bs, batB b = true := by
      intro b hb
      obtain ⟨i, hi, rfl⟩ := List.getElem_of_mem hb
      exact ((batStep_iff hi).1 (h i hi)).1
    refine ⟨h8, hb, pairwise_of_adj (R := Bat.lt) (P := fun b => batB b = true) (fun a b c hP h1 h2 => ?_) hb (fun k hk => ?_)⟩
    · have := first_le_last hP
      unfold Bat.lt at *
      omega
    · exact ((batStep_iff hk).1 (h (k + 1) hk)).2 (by omega)
  · rintro ⟨h8, h1, h2⟩
    refine ⟨h8, fun k hk => (batStep_iff hk).2 ⟨h1 _ (List.getElem_mem _), fun h0 => ?_⟩⟩
    have h3 := adj_of_pairwise h2 (k - 1) (by omega)
    have e : k - 1 + 1 = k := by omega
    simpa only [e] using h3
theorem logB_part {bs : List Bat} (h : logB bs = true) (k : Nat) : logB (bs.take k ++ bs.drop (k + 1)) = true := by
  rw [logB_iff] at h ⊢
  have hs := part_sub bs k
  exact ⟨Nat.le_trans hs.length_le h.1, fun e he => h.2.1 e (hs.subset he), h.2.2.sublist hs⟩
theorem logB_dup {bs : List Bat} (k : Nat) (hk : k < bs.length) : logB (bs.take (k + 1) ++ bs.drop k) = false := by
  rw [Bool.eq_false_iff]
  intro h
  have h' := (logB_iff _).1 h
  have h1 := adj_of_pairwise h'.2.2 k (by rw [dup_len bs k hk]; omega)
  rw [(dup_at bs k hk).1, (dup_at bs k hk).2] at h1
  have hb : bs[k] ∈ bs.take (k + 1) ++ bs.drop k := List.mem_append_right _ (by rw [List.mem_drop_iff_getElem]; exact ⟨0, by omega, by simp⟩)
  have := first_le_last (h'.2.1 _ hb)
  unfold Bat.lt at h1
  omega
theorem logB_take {bs : List Bat} (h : logB bs = true) (k : Nat) : logB (bs.take k) = true := by
  rw [logB_iff] at h ⊢
  have hs := List.take_sublist k bs
  exact ⟨Nat.le_trans hs.length_le h.1, fun e he => h.2.1 e (hs.subset he), h.2.2.sublist hs⟩
/-- The offsets of all records of a valid segment ascend. -/
theorem allRecs_up {bs : List Bat} (h : logB bs = true) : (allRecs bs).Pairwise Rec.lt := by
  obtain ⟨_, hb, hp⟩ := (logB_iff _).1 h
  unfold allRecs
  rw [List.pairwise_flatMap]
  refine ⟨fun b hm => ((recsB_iff _).1 (batB_recs (hb b hm))).2, ?_⟩
  rw [List.pairwise_iff_getElem] at hp ⊢
  intro i j hi hj hij x hx y hy
  have h1 := off_between (hb _ (List.getElem_mem hi)) hx
  have h2 := off_between (hb _ (List.getElem_mem hj)) hy
  have := hp i j hi hj hij
  unfold Bat.lt at this
  unfold Rec.lt
  omega
theorem allRecs_recB {bs : List Bat} (h : logB bs = true) : ∀ r ∈ allRecs bs, recB r = true := by
  intro r hr
  obtain ⟨b, hb, hr'⟩ := List.mem_flatMap.1 hr
  exact ((recsB_iff _).1 (batB_recs (((logB_iff _).1 h).2.1 b hb))).1 r hr'
theorem recB_bounds {r : Rec} (h : recB r = true) : 0 ≤ r.off ∧ r.off ≤ 99999 ∧ 0 ≤ r.time ∧ r.time ≤ 99999 := by
  simp only [recB, baseB, inB, Bool.and_eq_true, decide_eq_true_eq] at h
  omega
theorem allRecs_snoc (bs : List Bat) (b : Bat) : allRecs (bs ++ [b]) = allRecs bs ++ b.recs := by simp [allRecs]
theorem allRecs_len {bs : List Bat} (h : logB bs = true) : (allRecs bs).length ≤ 48 := by
  obtain ⟨h8, hb, _⟩ := (logB_iff _).1 h
  have : ∀ l : List Bat, (∀ b ∈ l, batB b = true) → (allRecs l).length ≤ 6 * l.length := by
    intro l
    induction l with
    | nil => intro _; simp [allRecs]
    | cons a t ih =>
      intro hl
      have h1 := ih (fun b hb => hl b (by simp [hb]))
      have h2 := (batB_len (hl a (by simp))).2
      have : allRecs (a :: t) = a.recs ++ allRecs t := rfl
      rw [this]; simp; omega
  have := this bs hb
  omega

/-! what the functions compute -/
def timeB (t : Int) (r : Rec) : Bool := decide (t ≤ r.time)
def offOr (o : Option Rec) : Int := match o with | some r => r.off | none => -1
def findT (rs : List Rec) (t : Int) : Int := offOr (rs.find? (timeB t))
def timesFind (bs : List Bat) (t : Int) : Int := if logB bs then findT (allRecs bs) t else -1
def spanB (f t : Int) (r : Rec) : Bool := decide (f ≤ r.time) && decide (r.time < t)
def cntT (rs : List Rec) (f t : Int) : Nat := (rs.filter (spanB f t)).length
def timesCount (bs : List Bat) (f t : Int) : Int := if logB bs then (cntT (allRecs bs) f t : Int) else -1
def endOf (bs : List Bat) : Int := if bs.length = 0 then 0 else (batAt bs (bs.length - 1)).last + 1
def readEnd (bs : List Bat) : Int := if logB bs then endOf bs else -1
def offB (o : Int) (r : Rec) : Bool := r.off == o
def readOne (bs : List Bat) (o : Int) : Option Rec := if logB bs then (allRecs bs).find? (offB o) else none

theorem cntT_le (rs : List Rec) (f t : Int) : cntT rs f t ≤ rs.length := List.length_filter_le _ _
theorem cntT_split (rs : List Rec) (f k t : Int) (h1 : f ≤ k) (h2 : k ≤ t) : cntT rs f k + cntT rs k t = cntT rs f t := by
  unfold cntT
  induction rs with
  | nil => rfl
  | cons r rs ih =>
    simp only [List.filter_cons, spanB]
    by_cases a : f ≤ r.time <;> by_cases b : r.time < k <;> by_cases c : k ≤ r.time <;> by_cases d : r.time < t <;>
      simp only [a, b, c, d, decide_true, decide_false, Bool.and_true, Bool.and_false, Bool.false_and, Bool.true_and, if_true, if_false, List.length_cons, Bool.false_eq_true] <;> first | omega | (exfalso; omega)
theorem cntT_all (rs : List Rec) (h : ∀ r ∈ rs, recB r = true) : cntT rs 0 100000 = rs.length := by
  unfold cntT
  rw [List.filter_eq_self.2]
  intro r hr
  have := recB_bounds (h r hr)
  simp [spanB]; omega
end Go.Proofs.Ytlgcajjoimcdhaa
