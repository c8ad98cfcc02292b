/- Plain laws of entries: parts, the last one up to an offset. No program in sight. -/
import Derived.Test.YtlgcajjoimcdhaaPl
namespace Go.Proofs.Ytlgcajjoimcdhaa
set_option linter.unusedVariables false
set_option linter.unusedSimpArgs false

theorem pairwise_of_adj {α : Type} {R : α → α → Prop} {P : α → Prop} (tr : ∀ a b c, P b → R a b → R b c → R a c) {l : List α} (hP : ∀ x ∈ l, P x)
    (h : ∀ (k : Nat) (hk : k + 1 < l.length), R l[k] l[k + 1]) : l.Pairwise R := by
  rw [List.pairwise_iff_getElem]
  intro i j hi hj hij
  obtain ⟨n, rfl⟩ : ∃ n, j = i + n + 1 := ⟨j - i - 1, by omega⟩
  clear hij
  induction n with
  | zero => exact h i hj
  | succ n ih =>
    have h1 := ih (by omega)
    have h2 := h (i + n + 1) (by omega)
    exact tr _ _ _ (hP _ (List.getElem_mem _)) h1 h2
theorem adj_of_pairwise {α : Type} {R : α → α → Prop} {l : List α} (h : l.Pairwise R) (k : Nat) (hk : k + 1 < l.length) : R l[k] l[k + 1] :=
  (List.pairwise_iff_getElem.1 h) k (k + 1) (by omega) hk (by omega)
theorem part_sub {α : Type} (l : List α) (k : Nat) : (l.take k ++ l.drop (k + 1)).Sublist l := by
  have h : (l.take k ++ l.drop (k + 1)).Sublist (l.take k ++ l.drop k) := by
    refine (List.Sublist.refl _).append ?_
    rw [← List.drop_drop]
    exact List.drop_sublist _ _
  rwa [List.take_append_drop] at h
theorem part_len {α : Type} (l : List α) (k : Nat) (h : k < l.length) : (l.take k ++ l.drop (k + 1)).length = l.length - 1 := by simp; omega
theorem dup_len {α : Type} (l : List α) (k : Nat) (h : k < l.length) : (l.take (k + 1) ++ l.drop k).length = l.length + 1 := by simp; omega
theorem dup_at {α : Type} (l : List α) (k : Nat) (h : k < l.length) : (l.take (k + 1) ++ l.drop k)[k]'(by rw [dup_len l k h]; omega) = l[k] ∧ (l.take (k + 1) ++ l.drop k)[k + 1]'(by rw [dup_len l k h]; omega) = l[k] := by
  constructor
  · rw [List.getElem_append_left (by simp; omega)]; simp
  · rw [List.getElem_append_right (by simp; omega)]; simp [Nat.min_eq_left (show k + 1 ≤ l.length by omega)]

def Ent.lt (a b : Ent) : Prop := a.off < b.off ∧ a.place < b.place
theorem entStep_iff {es : List Ent} {k : Nat} (h : k < es.length) : entStep es k = true ↔ entB es[k] = true ∧ ∀ h0 : 0 < k, Ent.lt (es[k - 1]'(by omega)) es[k] := by
  by_cases h0 : k = 0
  · subst h0; simp [entStep, entAt_eq h]
  · have h1 : k - 1 < es.length := by omega
    have h2 : 0 < k := by omega
    simp [entStep, entAt_eq h, entAt_eq h1, h0, h2, Ent.lt]
theorem entsB_iff (es : List Ent) : entsB es = true ↔ es.length ≤ 8 ∧ (∀ e ∈ es, entB e = true) ∧ es.Pairwise Ent.lt := by
  unfold entsB
  rw [Bool.and_eq_true, allUpto_iff]
  simp only [decide_eq_true_eq]
  constructor
  · rintro ⟨h8, h⟩
    refine ⟨h8, fun e he => ?_, pairwise_of_adj (P := fun _ => True) (fun a b c _ h1 h2 => ⟨Int.lt_trans h1.1 h2.1, Int.lt_trans h1.2 h2.2⟩) (fun _ _ => trivial) (fun k hk => ?_)⟩
    · obtain ⟨i, hi, rfl⟩ := List.getElem_of_mem he
      exact ((entStep_iff hi).1 (h i hi)).1
    · exact ((entStep_iff hk).1 (h (k + 1) hk)).2 (by omega)
  · rintro ⟨h8, h1, h2⟩
    refine ⟨h8, fun k hk => (entStep_iff hk).2 ⟨h1 _ (List.getElem_mem _), fun h0 => ?_⟩⟩
    have h3 := adj_of_pairwise h2 (k - 1) (by omega)
    have e : k - 1 + 1 = k := by omega
    simpa only [e] using h3
theorem entsB_part {es : List Ent} (h : entsB es = true) (k : Nat) : entsB (es.take k ++ es.drop (k + 1)) = true := by
  rw [entsB_iff] at h ⊢
  have hs := part_sub es k
  exact ⟨Nat.le_trans hs.length_le h.1, fun e he => h.2.1 e (hs.subset he), h.2.2.sublist hs⟩
theorem entsB_dup {es : List Ent} (k : Nat) (hk : k < es.length) : entsB (es.take (k + 1) ++ es.drop k) = false := by
  rw [Bool.eq_false_iff]
  intro h
  have h1 := adj_of_pairwise ((entsB_iff _).1 h).2.2 k (by rw [dup_len es k hk]; omega)
  rw [(dup_at es k hk).1, (dup_at es k hk).2] at h1
  exact absurd h1.1 (by omega)

/-! the last entry up to an offset -/
def upB (o : Int) (e : Ent) : Bool := decide (e.off ≤ o)
def findE (es : List Ent) (o : Int) : Option Ent := (es.filter (upB o)).getLast?
theorem findE_nil (o : Int) : findE [] o = none := rfl
theorem findE_snoc_yes (es : List Ent) (o : Int) (e : Ent) (h : e.off ≤ o) : findE (es ++ [e]) o = some e := by
  unfold findE; rw [List.filter_append]; simp [upB, h]
theorem findE_snoc_no (es : List Ent) (o : Int) (e : Ent) (h : o < e.off) : findE (es ++ [e]) o = findE es o := by
  have : ¬ e.off ≤ o := by omega
  unfold findE; rw [List.filter_append]; simp [upB, this]
theorem findE_split (pre post : List Ent) (o : Int) (h1 : ∀ e ∈ pre, e.off ≤ o) (h2 : ∀ e ∈ post, o < e.off) : findE (pre ++ post) o = pre.getLast? := by
  have e1 : pre.filter (upB o) = pre := List.filter_eq_self.2 (fun e he => by simp [upB, h1 e he])
  have e2 : post.filter (upB o) = [] := List.filter_eq_nil_iff.2 (fun e he => by have := h2 e he; simp [upB]; omega)
  unfold findE; rw [List.filter_append, e1, e2, List.append_nil]
theorem findE_mem {es : List Ent} {o : Int} {e : Ent} (h : findE es o = some e) : e ∈ es ∧ e.off ≤ o := by
  have := List.mem_of_getLast? h
  rw [List.mem_filter] at this
  exact ⟨this.1, by simpa [upB] using this.2⟩
theorem findE_most {es : List Ent} {o : Int} {e : Ent} (hs : es.Pairwise Ent.lt) (h : findE es o = some e) : ∀ x ∈ es, x.off ≤ o → x.off ≤ e.off := by
  intro x hx hxo
  have hm : x ∈ es.filter (upB o) := List.mem_filter.2 ⟨hx, by simp [upB, hxo]⟩
  have hp := hs.filter (upB o)
  unfold findE at h
  obtain ⟨l, hl⟩ : ∃ l, es.filter (upB o) = l ++ [e] := by
    rw [List.getLast?_eq_some_iff] at h
    exact h
  rw [hl] at hm hp
  rw [List.pairwise_append] at hp
  rcases List.mem_append.1 hm with h1 | h1
  · have := hp.2.2 x h1 e (by simp)
    have := this.1
    omega
  · simp at h1; subst h1; omega
theorem findE_when {es : List Ent} {o : Int} (hs : es.Pairwise Ent.lt) : (findE es o).isSome = (decide (0 < es.length) && decide ((entAt es 0).off ≤ o)) := by
  cases es with
  | nil => rfl
  | cons a t =>
    have e0 : entAt (a :: t) 0 = a := rfl
    rw [e0]
    by_cases h : a.off ≤ o
    · have : (findE (a :: t) o).isSome = true := by
        cases hf : findE (a :: t) o with
        | some _ => rfl
        | none =>
          unfold findE at hf
          rw [List.getLast?_eq_none_iff] at hf
          have := List.filter_eq_nil_iff.1 hf a (by simp)
          simp [upB, h] at this
      rw [this]; simp [h]
    · have : findE (a :: t) o = none := by
        unfold findE
        rw [List.getLast?_eq_none_iff, List.filter_eq_nil_iff]
        intro x hx
        rcases List.mem_cons.1 hx with rfl | hx
        · simp [upB, h]
        · have := (List.pairwise_cons.1 hs).1 x hx
          have := this.1
          simp [upB]; omega
      rw [this]; simp [h]
end Go.Proofs.Ytlgcajjoimcdhaa
