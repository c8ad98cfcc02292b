/- Plain laws of greatest times: a heap; running maxima. No program in sight. -/
import Derived.Test.YtlgcajjoimcdhaaPt
namespace Go.Proofs.Ytlgcajjoimcdhaa
set_option linter.unusedVariables false
set_option linter.unusedSimpArgs false

def HeapOk (h : List Int) : Prop := ∀ i (hi : i < h.length), 0 < i → h[i] ≤ h[(i - 1) / 2]'(by omega)
theorem heap_root {h : List Int} (hh : HeapOk h) : ∀ i (hi : i < h.length), h[i] ≤ h[0]'(by omega) := by
  intro i
  induction i using Nat.strongRecOn with
  | ind i ih =>
    intro hi
    by_cases h0 : i = 0
    · subst h0; exact Int.le_refl _
    · exact Int.le_trans (hh i hi (by omega)) (ih ((i - 1) / 2) (by omega) (by omega))
/-- A heap but at place j, which may be too great. -/
structure HeapUp (h : List Int) (j : Nat) : Prop where
  lt : j < h.length
  others : ∀ i (hi : i < h.length), 0 < i → i ≠ j → h[i] ≤ h[(i - 1) / 2]'(by omega)
  kids : ∀ i (hi : i < h.length), 0 < i → (i - 1) / 2 = j → 0 < j → h[i] ≤ h[(j - 1) / 2]'(by omega)
theorem heapUp_start {h : List Int} (hh : HeapOk h) (x : Int) : HeapUp (h ++ [x]) h.length where
  lt := by simp
  others := by
    intro i hi h0 hne
    have hil : i < h.length := by simp at hi; omega
    rw [List.getElem_append_left hil, List.getElem_append_left (show (i - 1) / 2 < h.length by omega)]
    exact hh i hil h0
  kids := by
    intro i hi h0 hp _
    simp at hi
    omega
theorem heapUp_stop {h : List Int} {j : Nat} (hu : HeapUp h j) (hs : ∀ (h0 : 0 < j), h[j]'hu.lt ≤ h[(j - 1) / 2]'(by have := hu.lt; omega)) : HeapOk h := by
  intro i hi h0
  by_cases hj : i = j
  · subst hj; exact hs h0
  · exact hu.others i hi h0 hj
def swapL (h : List Int) (i j : Nat) : List Int := (h.set i (h.getD j 0)).set j (h.getD i 0)
theorem swapL_len (h : List Int) (i j : Nat) : (swapL h i j).length = h.length := by simp [swapL]
theorem swapL_at (h : List Int) (i j k : Nat) (hi : i < h.length) (hj : j < h.length) (hk : k < h.length) :
    (swapL h i j)[k]'(by rw [swapL_len]; exact hk) = if k = j then h[i] else if k = i then h[j] else h[k] := by
  unfold swapL
  rw [List.getElem_set]
  by_cases h1 : j = k
  · subst h1; simp [hi]
  · rw [if_neg h1, if_neg (fun e => h1 e.symm), List.getElem_set]
    by_cases h2 : i = k
    · subst h2; simp [hj]
    · rw [if_neg h2, if_neg (fun e => h2 e.symm)]
theorem swapL_mem (h : List Int) (i j : Nat) (hi : i < h.length) (hj : j < h.length) (y : Int) : y ∈ swapL h i j ↔ y ∈ h := by
  constructor
  · intro hy
    obtain ⟨k, hk, rfl⟩ := List.getElem_of_mem hy
    have hk' : k < h.length := by rw [swapL_len] at hk; exact hk
    rw [swapL_at h i j k hi hj hk']
    split
    · exact List.getElem_mem _
    · split <;> exact List.getElem_mem _
  · intro hy
    obtain ⟨k, hk, rfl⟩ := List.getElem_of_mem hy
    by_cases h1 : k = i
    · subst h1
      have := swapL_at h k j j hi hj hj
      rw [if_pos rfl] at this
      rw [← this]; exact List.getElem_mem _
    · by_cases h2 : k = j
      · subst h2
        have := swapL_at h i k i hi hj hi
        rw [if_neg (fun e => h1 e.symm), if_pos rfl] at this
        rw [← this]; exact List.getElem_mem _
      · have := swapL_at h i j k hi hj hk
        rw [if_neg h2, if_neg h1] at this
        rw [← this]; exact List.getElem_mem _
theorem heapUp_swap {h : List Int} {j : Nat} (hu : HeapUp h j) (h0 : 0 < j) (hgt : h[(j - 1) / 2]'(by have := hu.lt; omega) < h[j]'hu.lt) : HeapUp (swapL h ((j - 1) / 2) j) ((j - 1) / 2) := by
  have hlt := hu.lt
  obtain ⟨p, hp⟩ : ∃ p, p = (j - 1) / 2 := ⟨_, rfl⟩
  have hpl : p < h.length := by omega
  have hpj : p ≠ j := by omega
  rw [← hp]
  have hgt' : h[p] < h[j] := by simpa only [← hp] using hgt
  refine ⟨by rw [swapL_len]; exact hpl, ?_, ?_⟩
  · intro i hi hi0 hne
    rw [swapL_len] at hi
    have hq : (i - 1) / 2 < h.length := by omega
    rw [swapL_at h p j i hpl hlt hi, swapL_at h p j _ hpl hlt hq]
    rw [if_neg hne]
    by_cases h1 : i = j
    · have e2 : (i - 1) / 2 = p := by rw [h1]; exact hp.symm
      have e3 : ¬ (i - 1) / 2 = j := by rw [e2]; exact hpj
      rw [if_pos h1, if_neg e3, if_pos e2]
      omega
    · rw [if_neg h1]
      by_cases h2 : (i - 1) / 2 = j
      · rw [if_pos h2]
        have := hu.kids i hi hi0 h2 h0
        simpa only [← hp] using this
      · rw [if_neg h2]
        have h3 := hu.others i hi hi0 h1
        by_cases h4 : (i - 1) / 2 = p
        · rw [if_pos h4]
          have : h[i] ≤ h[p] := by simpa only [h4] using h3
          omega
        · rw [if_neg h4]; exact h3
  · intro i hi hi0 hpar hp0
    rw [swapL_len] at hi
    have hq : (p - 1) / 2 < h.length := by omega
    rw [swapL_at h p j i hpl hlt hi, swapL_at h p j _ hpl hlt hq]
    have e1 : (p - 1) / 2 ≠ j := by omega
    have e2 : (p - 1) / 2 ≠ p := by omega
    rw [if_neg e1, if_neg e2]
    have hpp := hu.others p hpl hp0 hpj
    by_cases h1 : i = j
    · rw [if_pos h1]; exact hpp
    · have h2 : i ≠ p := by omega
      rw [if_neg h1, if_neg h2]
      have h3 := hu.others i hi hi0 h1
      have : h[i] ≤ h[p] := by simpa only [hpar] using h3
      omega

theorem snoc_ind {α : Type} {P : List α → Prop} (h0 : P []) (h1 : ∀ l a, P l → P (l ++ [a])) (l : List α) : P l := by
  have : ∀ n (l : List α), l.length = n → P l := by
    intro n
    induction n with
    | zero => intro l hl; rw [List.eq_nil_of_length_eq_zero hl]; exact h0
    | succ n ih =>
      intro l hl
      rcases List.eq_nil_or_concat l with h | ⟨L, b, h⟩
      · subst h; simp at hl
      · subst h
        rw [List.concat_eq_append]
        exact h1 _ _ (ih L (by simpa using hl))
  exact this _ l rfl
/-! greatest times -/
def mostT (rs : List Rec) : Int := rs.foldl (fun m r => max m r.time) 0
theorem mostT_snoc (rs : List Rec) (r : Rec) : mostT (rs ++ [r]) = max (mostT rs) r.time := by unfold mostT; rw [List.foldl_append]; rfl
theorem mostT_nonneg (rs : List Rec) : 0 ≤ mostT rs := by
  induction rs using snoc_ind with
  | h0 => exact Int.le_refl _
  | h1 l r ih => rw [mostT_snoc]; omega
theorem mostT_append (a b : List Rec) : mostT (a ++ b) = max (mostT a) (mostT b) := by
  induction b using snoc_ind with
  | h0 => have := mostT_nonneg a; have e : mostT [] = 0 := rfl; rw [List.append_nil, e]; omega
  | h1 l r ih => rw [← List.append_assoc, mostT_snoc, ih, mostT_snoc]; omega
theorem le_mostT {rs : List Rec} {r : Rec} (h : r ∈ rs) : r.time ≤ mostT rs := by
  induction rs using snoc_ind with
  | h0 => cases h
  | h1 l x ih =>
    rw [mostT_snoc]
    rcases List.mem_append.1 h with h | h
    · have := ih h; omega
    · simp at h; subst h; omega
theorem mostT_at (rs : List Rec) : mostT rs = 0 ∨ ∃ r ∈ rs, r.time = mostT rs := by
  induction rs using snoc_ind with
  | h0 => exact .inl rfl
  | h1 l x ih =>
    rw [mostT_snoc]
    by_cases hc : mostT l ≤ x.time
    · exact .inr ⟨x, by simp, by omega⟩
    · rw [Int.max_eq_left (by omega)]
      rcases ih with h | ⟨r, hr, h⟩
      · exact .inl h
      · exact .inr ⟨r, by simp [hr], h⟩
theorem mostT_of {rs : List Rec} {m : Int} (h0 : 0 ≤ m) (h1 : ∀ r ∈ rs, r.time ≤ m) (h2 : ∃ r ∈ rs, r.time = m) : mostT rs = m := by
  obtain ⟨r, hr, e⟩ := h2
  have := le_mostT hr
  rcases mostT_at rs with h | ⟨s, hs, h⟩
  · omega
  · have := h1 s hs; omega
def timeAt (bs : List Bat) (k : Nat) : Int := mostT (allRecs (bs.take (k + 1)))
def timesUp (bs : List Bat) (n : Nat) : List Int := (List.range n).map (timeAt bs)
def timesOf (bs : List Bat) : List Int := if logB bs then timesUp bs bs.length else []
theorem timesUp_len (bs : List Bat) (n : Nat) : (timesUp bs n).length = n := by simp [timesUp]
theorem timesUp_succ (bs : List Bat) (n : Nat) : timesUp bs (n + 1) = timesUp bs n ++ [timeAt bs n] := by unfold timesUp; rw [List.range_succ, List.map_append]; rfl
theorem timesUp_at (bs : List Bat) (n k : Nat) (h : k < n) : (timesUp bs n)[k]'(by rw [timesUp_len]; exact h) = timeAt bs k := by simp [timesUp]
theorem timeAt_succ (bs : List Bat) (k : Nat) (h : k < bs.length) : timeAt bs k = max (mostT (allRecs (bs.take k))) (mostT bs[k].recs) := by
  unfold timeAt
  rw [List.take_succ_eq_append_getElem h, allRecs_snoc, mostT_append]
theorem timeAt_take (bs : List Bat) (k j : Nat) (h : j < k) : timeAt (bs.take k) j = timeAt bs j := by
  unfold timeAt
  rw [List.take_take, Nat.min_eq_left (by omega)]
theorem timesOf_take {bs : List Bat} (h : logB bs = true) (k : Nat) (hk : k ≤ bs.length) : timesOf (bs.take k) = (timesOf bs).take k := by
  unfold timesOf
  rw [h, logB_take h k, if_pos rfl, if_pos rfl]
  refine List.ext_getElem (by simp [timesUp_len]) fun j h1 h2 => ?_
  rw [timesUp_len] at h1
  have hj : j < k := by simp at h1; omega
  rw [List.getElem_take, timesUp_at _ _ _ h1, timesUp_at _ _ _ (by omega), timeAt_take _ _ _ hj]
theorem findT_none_iff {bs : List Bat} (h : logB bs = true) (t : Int) : timesFind bs t = -1 ↔ (bs.length = 0 ∨ timeAt bs (bs.length - 1) < t) := by
  unfold timesFind findT
  rw [if_pos h]
  have hall : allRecs (bs.take (bs.length - 1 + 1)) = allRecs bs := by rw [List.take_of_length_le (by omega)]
  have hoff : (offOr ((allRecs bs).find? (timeB t)) = -1) ↔ (allRecs bs).find? (timeB t) = none := by
    cases hf : (allRecs bs).find? (timeB t) with
    | none => simp [offOr]
    | some r =>
      have := recB_bounds (allRecs_recB h r (List.mem_of_find?_eq_some hf))
      simp [offOr]; omega
  rw [hoff, List.find?_eq_none]
  constructor
  · intro hn
    by_cases h0 : bs.length = 0
    · exact .inl h0
    · right
      unfold timeAt
      rw [hall]
      obtain ⟨b, hb⟩ : ∃ b, b ∈ bs := ⟨bs[0]'(by omega), List.getElem_mem _⟩
      have hlen := batB_pos (((logB_iff _).1 h).2.1 b hb)
      have hr : b.recs[0] ∈ allRecs bs := List.mem_flatMap.2 ⟨b, hb, List.getElem_mem _⟩
      have h1 := hn _ hr
      have h2 := recB_bounds (allRecs_recB h _ hr)
      simp [timeB] at h1
      rcases mostT_at (allRecs bs) with h3 | ⟨r, hr', h3⟩
      · omega
      · have := hn r hr'
        simp [timeB] at this
        omega
  · rintro (h0 | hlt) r hr
    · have : bs = [] := List.eq_nil_of_length_eq_zero h0
      subst this
      simp [allRecs] at hr
    · unfold timeAt at hlt
      rw [hall] at hlt
      have := le_mostT hr
      simp [timeB]; omega
end Go.Proofs.Ytlgcajjoimcdhaa
