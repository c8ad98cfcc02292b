/- Plain: reading a batch step by step. No program in sight. -/
import Derived.Test.YtomcjjehfocbmaaPg
namespace Go.Proofs.Ytomcjjehfocbmaa
set_option linter.unusedVariables false
set_option linter.unusedSimpArgs false

/-- The first records of bytes, and the place behind them. -/
def rdRows (l : List Int) (o t : Int) : Nat → Option (List Rec × Nat)
  | 0 => some ([], 0)
  | k + 1 =>
    match rdRows l o t k with
    | none => none
    | some (rs, e) =>
      match rdRec l e o t with
      | none => none
      | some (r, e') => some (rs ++ [r], e')
theorem rdRows_none {l : List Int} {o t : Int} {k : Nat} (h : rdRows l o t k = none) : rdRows l o t (k + 1) = none := by rw [rdRows, h]
theorem rdRows_stop {l : List Int} {o t : Int} {k e : Nat} {rs : List Rec} (h : rdRows l o t k = some (rs, e)) (h2 : rdRec l e o t = none) : rdRows l o t (k + 1) = none := by
  rw [rdRows, h]; simp only [h2]
theorem rdRows_step {l : List Int} {o t : Int} {k e e' : Nat} {rs : List Rec} {r : Rec} (h : rdRows l o t k = some (rs, e)) (h2 : rdRec l e o t = some (r, e')) : rdRows l o t (k + 1) = some (rs ++ [r], e') := by
  rw [rdRows, h]; simp only [h2]
theorem rdRows_later {l : List Int} {o t : Int} {k n : Nat} (h : rdRows l o t k = none) (hn : k ≤ n) : rdRows l o t n = none := by
  induction n with
  | zero => obtain rfl : k = 0 := by omega
            exact h
  | succ n ih =>
    by_cases hk : k = n + 1
    · rw [← hk]; exact h
    · exact rdRows_none (ih (by omega))
theorem rdRows_len {l : List Int} {o t : Int} {k e : Nat} {rs : List Rec} (h : rdRows l o t k = some (rs, e)) : rs.length = k := by
  induction k generalizing rs e with
  | zero => rw [rdRows] at h; injection h with h; injection h with h1 h2; rw [← h1]; rfl
  | succ k ih =>
    cases hq : rdRows l o t k with
    | none => rw [rdRows_none hq] at h; exact absurd h (by simp)
    | some x =>
      obtain ⟨rs0, e0⟩ := x
      cases hr : rdRec l e0 o t with
      | none => rw [rdRows_stop hq hr] at h; exact absurd h (by simp)
      | some y =>
        obtain ⟨r, e1⟩ := y
        rw [rdRows_step hq hr] at h
        injection h with h
        injection h with h1 h2
        rw [← h1, List.length_append, ih hq]
        rfl
theorem rdRows_ok {l : List Int} (hb : bytesB l = true) {o t : Int} {k e : Nat} {rs : List Rec} (h : rdRows l o t k = some (rs, e)) : (∀ r ∈ rs, recB r = true) ∧ e ≤ l.length := by
  induction k generalizing rs e with
  | zero => rw [rdRows] at h; injection h with h; injection h with h1 h2; subst h1 h2; exact ⟨by simp, Nat.zero_le _⟩
  | succ k ih =>
    cases hq : rdRows l o t k with
    | none => rw [rdRows_none hq] at h; exact absurd h (by simp)
    | some x =>
      obtain ⟨rs0, e0⟩ := x
      cases hr : rdRec l e0 o t with
      | none => rw [rdRows_stop hq hr] at h; exact absurd h (by simp)
      | some y =>
        obtain ⟨r, e1⟩ := y
        rw [rdRows_step hq hr] at h
        injection h with h
        injection h with h1 h2
        obtain ⟨_, _, h3, h4⟩ := rdRec_inv hb hr
        subst h1 h2
        refine ⟨fun q hq' => ?_, h4⟩
        rcases List.mem_append.1 hq' with hm | hm
        · exact (ih hq).1 q hm
        · simp at hm; subst hm; exact h3
theorem rows_read {b : Bat} (h : batB b = true) {k : Nat} (hk : k ≤ b.recs.length) : rdRows b.rows b.first b.base k = some (b.recs.take k, (rowsB (b.recs.take k) b.first b.base).length) := by
  induction k with
  | zero => rfl
  | succ k ih =>
    rw [rdRows_step (ih (by omega)) (rows_at h (by omega)), ← List.take_succ_eq_append_getElem (by omega)]
/-- What stands behind the head. -/
def restAt (l : List Int) (p : Nat) : List Int := (l.drop (p + 7)).take (num2 l (p + 3)).toNat
def rowsOf (rest : List Int) : Option (List Int) := if rest.getD 0 0 % 2 = 1 then unp (rest.drop 11) [] else some (rest.drop 11)
def batOf (rest : List Int) (rs : List Rec) : Bat := ⟨decide (rest.getD 0 0 % 2 = 1), decide (rest.getD 0 0 / 2 = 1), rest.getD 1 0, rest.getD 2 0, num2 rest 3, rs⟩
section
variable {l : List Int} {p : Nat} {b : Bat}
theorem BatAt.rest (h : BatAt l p b) : restAt l p = b.rest := by
  unfold restAt
  rw [h.many]
  exact h.rest_take
theorem BatAt.rows (h : BatAt l p b) : rowsOf (restAt l p) = some b.rows := by
  rw [h.rest]
  unfold rowsOf
  rw [rest_0, rest_body]
  have hf := flags_packed b
  cases hp : b.packed with
  | true => rw [hp] at hf; rw [if_pos (by simpa using hf.symm)]; exact body_rows h.1 hp
  | false => rw [hp] at hf; rw [if_neg (by simpa using hf.symm)]; rw [body_plain hp]
theorem BatAt.recs (h : BatAt l p b) : rdRows b.rows (num3 l p) (num3 (restAt l p) 5) ((restAt l p).getD 8 0).toNat = some (b.recs, b.rows.length) := by
  rw [h.rest, h.offset, rest_base h.1, rest_8]
  have := rows_read h.1 (Nat.le_refl b.recs.length)
  rw [List.take_length] at this
  exact this
theorem BatAt.bat (h : BatAt l p b) : batOf (restAt l p) b.recs = b := by
  rw [h.rest]
  unfold batOf
  rw [rest_0, rest_1, rest_2, rest_seq h.1, ← flags_packed, ← flags_mark]
/-- All tests at once. -/
theorem BatAt.tests (h : BatAt l p b) : 11 ≤ (num2 l (p + 3)).toNat ∧ p + 7 + (num2 l (p + 3)).toNat ≤ l.length ∧ num2 l (p + 5) = sumB (restAt l p) ∧ (restAt l p).getD 0 0 ≤ 3 ∧ (restAt l p).getD 9 0 = 0 ∧ (restAt l p).getD 10 0 = 0 ∧ baseB (num3 l p) (num3 (restAt l p) 5) = true ∧ p + 18 ≤ l.length := by
  have h1 := h.size
  have h2 := batB_base h.1
  refine ⟨by rw [h.many]; omega, by rw [h.many]; omega, by rw [h.rest]; exact h.sum, by rw [h.rest, rest_0]; exact (flags_range b).2, by rw [h.rest]; rfl, by rw [h.rest]; rfl, ?_, by omega⟩
  rw [h.rest, h.offset, rest_base h.1]
  simp [baseB, inB]; omega
theorem BatAt.next (h : BatAt l p b) : p + 7 + (num2 l (p + 3)).toNat = p + (batBytes b).length := by
  rw [h.many, batBytes_len, rest_len]; omega
end
/-- What was read is a batch if its bytes are those that were read. -/
theorem BatAt.of_same {l : List Int} {p e : Nat} {b : Bat} (hv : batB b = true) (hpe : p ≤ e) (hel : e ≤ l.length) (h : (l.drop p).take (e - p) = batBytes b) : BatAt l p b ∧ e = p + (batBytes b).length := by
  have hl := congrArg List.length h
  rw [List.length_take, List.length_drop] at hl
  exact ⟨BatAt.of_region hv (by rw [← h, List.length_take, List.length_drop]; congr 1; omega), by omega⟩
theorem batOf_ok {l : List Int} (hb : bytesB l = true) (rs : List Rec) : (0 ≤ (batOf l rs).prod ∧ (batOf l rs).prod ≤ 255) ∧ (0 ≤ (batOf l rs).epoch ∧ (batOf l rs).epoch ≤ 255) ∧ (0 ≤ (batOf l rs).seq ∧ (batOf l rs).seq ≤ 65535) := by
  have h1 := getD_byte hb 1
  have h2 := getD_byte hb 2
  have h3 := getD_byte hb 3
  have h4 := getD_byte hb 4
  refine ⟨h1, h2, ?_⟩
  show 0 ≤ num2 l 3 ∧ num2 l 3 ≤ 65535
  unfold num2
  simp only [Nat.reduceAdd]
  omega
end Go.Proofs.Ytomcjjehfocbmaa
