/- Plain: a batch that stands in bytes. No program in sight. -/
import Derived.Test.YtomcjjehfocbmaaPb
namespace Go.Proofs.Ytomcjjehfocbmaa
set_option linter.unusedVariables false
set_option linter.unusedSimpArgs false

/-- The bytes of a valid batch stand at a place. -/
def BatAt (l : List Int) (p : Nat) (b : Bat) : Prop := batB b = true ∧ ∃ s, l.drop p = batBytes b ++ s
section
variable {l : List Int} {p : Nat} {b : Bat}
theorem drop_app {α : Type} {l x s : List α} {p : Nat} (h : l.drop p = x ++ s) (n : Nat) (hn : n = x.length) : l.drop (p + n) = s := by
  rw [← List.drop_drop, h, hn, List.drop_left]
theorem BatAt.len (h : BatAt l p b) : p + (batBytes b).length ≤ l.length := by
  obtain ⟨_, s, h⟩ := h
  have h1 := congrArg List.length h
  rw [List.length_drop, List.length_append, batBytes_len] at h1
  rw [batBytes_len]
  omega
theorem BatAt.region (h : BatAt l p b) : (l.drop p).take (batBytes b).length = batBytes b := by
  obtain ⟨_, s, h⟩ := h
  rw [h, List.take_left]
theorem BatAt.of_region (hv : batB b = true) (h : (l.drop p).take (batBytes b).length = batBytes b) : BatAt l p b :=
  ⟨hv, (l.drop p).drop (batBytes b).length, by conv => lhs; rw [← List.take_append_drop (batBytes b).length (l.drop p), h]⟩
theorem BatAt.offset (h : BatAt l p b) : num3 l p = b.first := by
  obtain ⟨hv, s, h⟩ := h
  refine num3_int (s := intB2 b.rest.length ++ intB2 (sumB b.rest) ++ b.rest ++ s) ?_ (by have := (batB_base hv).1; omega)
  rw [h]; unfold batBytes; simp
theorem BatAt.many (h : BatAt l p b) : num2 l (p + 3) = (b.rest.length : Int) := by
  obtain ⟨hv, s, h⟩ := h
  have h1 : l.drop (p + 3) = intB2 b.rest.length ++ (intB2 (sumB b.rest) ++ b.rest ++ s) := drop_app (x := intB3 b.first) (by rw [h]; unfold batBytes; simp) 3 rfl
  exact num2_int h1 (by have := body_len hv; have := rest_len b; omega)
theorem BatAt.rest_at (h : BatAt l p b) : ∃ s, l.drop (p + 7) = b.rest ++ s := by
  obtain ⟨hv, s, h⟩ := h
  exact ⟨s, drop_app (x := intB3 b.first ++ intB2 b.rest.length ++ intB2 (sumB b.rest)) (by rw [h]; unfold batBytes; simp) 7 rfl⟩
theorem BatAt.rest_take (h : BatAt l p b) : (l.drop (p + 7)).take b.rest.length = b.rest := by
  obtain ⟨s, h⟩ := h.rest_at
  rw [h, List.take_left]
theorem BatAt.size (h : BatAt l p b) : 11 ≤ b.rest.length ∧ p + 7 + b.rest.length ≤ l.length := by
  have := h.len
  rw [batBytes_len] at this
  have := rest_len b
  omega
end
theorem rest_0 (b : Bat) : b.rest.getD 0 0 = b.flags := rfl
theorem rest_1 (b : Bat) : b.rest.getD 1 0 = b.prod := rfl
theorem rest_2 (b : Bat) : b.rest.getD 2 0 = b.epoch := rfl
theorem rest_8 (b : Bat) : b.rest.getD 8 0 = (b.recs.length : Int) := rfl
theorem rest_9 (b : Bat) : b.rest.getD 9 0 = 0 := rfl
theorem rest_10 (b : Bat) : b.rest.getD 10 0 = 0 := rfl
theorem rest_seq {b : Bat} (h : batB b = true) : num2 b.rest 3 = b.seq :=
  num2_int (s := intB3 b.base ++ [(b.recs.length : Int), 0, 0] ++ b.body) (by unfold Bat.rest; simp) (by have := headB_range (batB_parts h).1; omega)
theorem rest_base {b : Bat} (h : batB b = true) : num3 b.rest 5 = b.base :=
  num3_int (s := [(b.recs.length : Int), 0, 0] ++ b.body) (by unfold Bat.rest; simp [intB2]) (by have := (batB_base h).2; omega)
theorem rest_body (b : Bat) : b.rest.drop 11 = b.body := by unfold Bat.rest; simp [intB2, intB3]
theorem flags_packed (b : Bat) : b.packed = decide (b.flags % 2 = 1) := by
  unfold Bat.flags; cases b.packed <;> cases b.mark <;> decide
theorem flags_mark (b : Bat) : b.mark = decide (b.flags / 2 = 1) := by
  unfold Bat.flags; cases b.packed <;> cases b.mark <;> decide
theorem body_rows {b : Bat} (h : batB b = true) (hp : b.packed = true) : unp b.body [] = some b.rows := by
  unfold Bat.body
  rw [if_pos hp]
  exact unp_pack (by have := rows_len h; omega)
theorem body_plain {b : Bat} (hp : b.packed = false) : b.body = b.rows := by
  unfold Bat.body
  rw [if_neg (by simp [hp])]
/-- The records stand one behind the other. -/
theorem rows_at {b : Bat} (h : batB b = true) {k : Nat} (hk : k < b.recs.length) :
    rdRec b.rows (rowsB (b.recs.take k) b.first b.base).length b.first b.base = some (b.recs[k], (rowsB (b.recs.take (k + 1)) b.first b.base).length) := by
  have hb := batB_base h
  have hr := (batB_parts h).2.2 _ (List.getElem_mem hk)
  have hd : b.rows.drop (rowsB (b.recs.take k) b.first b.base).length = recBytes b.recs[k] b.first b.base ++ rowsB (b.recs.drop (k + 1)) b.first b.base := by
    have e : b.rows = rowsB (b.recs.take k) b.first b.base ++ (recBytes b.recs[k] b.first b.base ++ rowsB (b.recs.drop (k + 1)) b.first b.base) := by
      unfold Bat.rows
      rw [← rowsB_cons, ← List.drop_eq_getElem_cons hk]
      unfold rowsB
      rw [← List.flatMap_append, List.take_append_drop]
    rw [e, List.drop_left]
  rw [rdRec_rt hr (by simp [baseB, inB]; omega) hd, rowsB_take hk, List.length_append]
/-- No two batches have the same bytes. -/
theorem BatAt.uniq {l : List Int} {p : Nat} {b c : Bat} (h : BatAt l p b) (h' : BatAt l p c) : b = c := by
  have hf : b.first = c.first := h.offset.symm.trans h'.offset
  have hm : (b.rest.length : Int) = c.rest.length := h.many.symm.trans h'.many
  have hml : b.rest.length = c.rest.length := by omega
  have hr : b.rest = c.rest := by rw [← h.rest_take, ← h'.rest_take, hml]
  have hv := h.1
  have hv' := h'.1
  have e0 : b.flags = c.flags := by rw [← rest_0, ← rest_0, hr]
  have e1 : b.prod = c.prod := by rw [← rest_1, ← rest_1, hr]
  have e2 : b.epoch = c.epoch := by rw [← rest_2, ← rest_2, hr]
  have e3 : b.seq = c.seq := by rw [← rest_seq hv, ← rest_seq hv', hr]
  have e4 : b.base = c.base := by rw [← rest_base hv, ← rest_base hv', hr]
  have e5 : b.recs.length = c.recs.length := by
    have : (b.recs.length : Int) = c.recs.length := by rw [← rest_8, ← rest_8, hr]
    omega
  have e6 : b.body = c.body := by rw [← rest_body, ← rest_body, hr]
  have ep : b.packed = c.packed := by rw [flags_packed, flags_packed, e0]
  have em : b.mark = c.mark := by rw [flags_mark, flags_mark, e0]
  have er : b.rows = c.rows := by
    cases hp : b.packed with
    | true =>
      have h1 := body_rows hv hp
      have h2 := body_rows hv' (ep.symm.trans hp)
      rw [e6] at h1
      exact Option.some.inj (h1.symm.trans h2)
    | false => rw [← body_plain hp, ← body_plain (b := c) (by rw [← ep, hp]), e6]
  have et : ∀ k, k ≤ b.recs.length → b.recs.take k = c.recs.take k := by
    intro k
    induction k with
    | zero => intro _; simp
    | succ k ih =>
      intro hk
      have i1 := ih (by omega)
      have h1 := rows_at hv (k := k) (by omega)
      have h2 := rows_at hv' (k := k) (by omega)
      rw [← i1, ← er, ← hf, ← e4] at h2
      have h3 := congrArg Prod.fst (Option.some.inj (h1.symm.trans h2))
      have h2 : b.recs[k] = c.recs[k] := h3
      rw [List.take_succ_eq_append_getElem (by omega), List.take_succ_eq_append_getElem (by omega), i1, h2]
  have ers : b.recs = c.recs := by
    have := et b.recs.length (Nat.le_refl _)
    rw [List.take_length, e5, List.take_length] at this
    exact this
  cases b; cases c
  simp only at ep em e1 e2 e3 ers
  subst ep em e1 e2 e3 ers
  rfl
/-- What is read at a place. -/
def RdBat (l : List Int) (p : Nat) : Option Bat → Prop
  | some b => BatAt l p b
  | none => ∀ b, ¬ BatAt l p b
theorem RdBat.uniq {l : List Int} {p : Nat} {r s : Option Bat} (h : RdBat l p r) (h' : RdBat l p s) : r = s := by
  cases r with
  | some b =>
    cases s with
    | some c => rw [BatAt.uniq h h']
    | none => exact absurd h (h' b)
  | none =>
    cases s with
    | some c => exact absurd h' (h c)
    | none => rfl
/-- Cut ahead of its end, nothing stands there. -/
theorem BatAt.cut {l : List Int} {p n : Nat} {b : Bat} (h : BatAt l p b) (hn : n < p + (batBytes b).length) : ∀ c, ¬ BatAt (l.take n) p c := by
  intro c hc
  have h1 : BatAt l p c := by
    obtain ⟨hv, s, hs⟩ := hc
    refine ⟨hv, s ++ (l.drop n).drop (p - n), ?_⟩
    by_cases hpn : p ≤ n
    · have e : l.drop p = (l.take n).drop p ++ l.drop n := by
        conv => lhs; rw [← List.take_append_drop n l]
        rw [List.drop_append]
        by_cases hl : n ≤ l.length
        · rw [List.length_take, Nat.min_eq_left hl, show p - n = 0 by omega, List.drop_zero]
        · rw [List.drop_of_length_le (l := l) (by omega)]; simp
      rw [e, hs, show p - n = 0 by omega, List.drop_zero, List.append_assoc]
    · rw [List.drop_of_length_le (by rw [List.length_take]; omega)] at hs
      have := congrArg List.length hs
      rw [List.length_append, batBytes_len] at this
      simp at this
      omega
  have e := h.uniq h1
  subst e
  have := hc.len
  rw [List.length_take] at this
  omega
end Go.Proofs.Ytomcjjehfocbmaa
