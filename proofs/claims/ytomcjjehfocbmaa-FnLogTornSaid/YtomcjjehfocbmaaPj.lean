/- Plain: a batch that stands in bytes. No program in sight. Plain: a batch of which a byte was changed. No program in sight. Plain: reading a batch step by step. No program in sight. Plain: scanning a segment. No program in sight. Plain: what the laws of scanning want. No program in sight. Plain: when no batch stands at a place, and when one does. No program in sight. -/
import Derived.Test.YtomcjjehfocbmaaPb
namespace Go.Proofs.Ytomcjjehfocbmaa
set_option linter.unusedVariables false
set_option linter.unusedSimpArgs false
section
/-- The bytes of a valid batch stand at a place. -/
def BatAt (l : List Int) (p : Nat) (b : Bat) : Prop := batB b = true ∧ ∃ s, l.drop p = batBytes b ++ s
section
variable {l : List Int} {p : Nat} {b : Bat}
theorem drop_app {α : Type} {l x s : List α} {p : Nat} (h : l.drop p = x ++ s) (n : Nat) (hn : n = x.length) : l.drop (p + n) = s := by
  rw [← List.drop_drop, h, hn, List.drop_left]
theorem BatAt.len (h : BatAt l p b) : p + (batBytes b).length ≤ l.length := by
  obtain ⟨_, s, h⟩ := h
  have h1 := congrArg List.length h
  rw [List.length_drop, List.length_append, batBytes_len] at h1
  rw [batBytes_len]
  omega
theorem BatAt.region (h : BatAt l p b) : (l.drop p).take (batBytes b).length = batBytes b := by
  obtain ⟨_, s, h⟩ := h
  rw [h, List.take_left]
theorem BatAt.of_region (hv : batB b = true) (h : (l.drop p).take (batBytes b).length = batBytes b) : BatAt l p b :=
  ⟨hv, (l.drop p).drop (batBytes b).length, by conv => lhs; rw [← List.take_append_drop (batBytes b).length (l.drop p), h]⟩
theorem BatAt.offset (h : BatAt l p b) : num3 l p = b.first := by
  obtain ⟨hv, s, h⟩ := h
  refine num3_int (s := intB2 b.rest.length ++ intB2 (sumB b.rest) ++ b.rest ++ s) ?_ (by have := (batB_base hv).1; omega)
  rw [h]; unfold batBytes; simp
theorem BatAt.many (h : BatAt l p b) : num2 l (p + 3) = (b.rest.length : Int) := by
  obtain ⟨hv, s, h⟩ := h
  have h1 : l.drop (p + 3) = intB2 b.rest.length ++ (intB2 (sumB b.rest) ++ b.rest ++ s) := drop_app (x := intB3 b.first) (by rw [h]; unfold batBytes; simp) 3 rfl
  exact num2_int h1 (by have := body_len hv; have := rest_len b; omega)
theorem BatAt.rest_at (h : BatAt l p b) : ∃ s, l.drop (p + 7) = b.rest ++ s := by
  obtain ⟨hv, s, h⟩ := h
  exact ⟨s, drop_app (x := intB3 b.first ++ intB2 b.rest.length ++ intB2 (sumB b.rest)) (by rw [h]; unfold batBytes; simp) 7 rfl⟩
theorem BatAt.rest_take (h : BatAt l p b) : (l.drop (p + 7)).take b.rest.length = b.rest := by
  obtain ⟨s, h⟩ := h.rest_at
  rw [h, List.take_left]
theorem BatAt.size (h : BatAt l p b) : 11 ≤ b.rest.length ∧ p + 7 + b.rest.length ≤ l.length := by
  have := h.len
  rw [batBytes_len] at this
  have := rest_len b
  omega
end
theorem rest_0 (b : Bat) : b.rest.getD 0 0 = b.flags := rfl
theorem rest_1 (b : Bat) : b.rest.getD 1 0 = b.prod := rfl
theorem rest_2 (b : Bat) : b.rest.getD 2 0 = b.epoch := rfl
theorem rest_8 (b : Bat) : b.rest.getD 8 0 = (b.recs.length : Int) := rfl
theorem rest_9 (b : Bat) : b.rest.getD 9 0 = 0 := rfl
theorem rest_10 (b : Bat) : b.rest.getD 10 0 = 0 := rfl
theorem rest_seq {b : Bat} (h : batB b = true) : num2 b.rest 3 = b.seq :=
  num2_int (s := intB3 b.base ++ [(b.recs.length : Int), 0, 0] ++ b.body) (by unfold Bat.rest; simp) (by have := headB_range (batB_parts h).1; omega)
theorem rest_base {b : Bat} (h : batB b = true) : num3 b.rest 5 = b.base :=
  num3_int (s := [(b.recs.length : Int), 0, 0] ++ b.body) (by unfold Bat.rest; simp [intB2]) (by have := (batB_base h).2; omega)
theorem rest_body (b : Bat) : b.rest.drop 11 = b.body := by unfold Bat.rest; simp [intB2, intB3]
theorem flags_packed (b : Bat) : b.packed = decide (b.flags % 2 = 1) := by
  unfold Bat.flags; cases b.packed <;> cases b.mark <;> decide
theorem flags_mark (b : Bat) : b.mark = decide (b.flags / 2 = 1) := by
  unfold Bat.flags; cases b.packed <;> cases b.mark <;> decide
theorem body_rows {b : Bat} (h : batB b = true) (hp : b.packed = true) : unp b.body [] = some b.rows := by
  unfold Bat.body
  rw [if_pos hp]
  exact unp_pack (by have := rows_len h; omega)
theorem body_plain {b : Bat} (hp : b.packed = false) : b.body = b.rows := by
  unfold Bat.body
  rw [if_neg (by simp [hp])]
/-- The records stand one behind the other. -/
theorem rows_at {b : Bat} (h : batB b = true) {k : Nat} (hk : k < b.recs.length) :
    rdRec b.rows (rowsB (b.recs.take k) b.first b.base).length b.first b.base = some (b.recs[k], (rowsB (b.recs.take (k + 1)) b.first b.base).length) := by
  have hb := batB_base h
  have hr := (batB_parts h).2.2 _ (List.getElem_mem hk)
  have hd : b.rows.drop (rowsB (b.recs.take k) b.first b.base).length = recBytes b.recs[k] b.first b.base ++ rowsB (b.recs.drop (k + 1)) b.first b.base := by
    have e : b.rows = rowsB (b.recs.take k) b.first b.base ++ (recBytes b.recs[k] b.first b.base ++ rowsB (b.recs.drop (k + 1)) b.first b.base) := by
      unfold Bat.rows
      rw [← rowsB_cons, ← List.drop_eq_getElem_cons hk]
      unfold rowsB
      rw [← List.flatMap_append, List.take_append_drop]
    rw [e, List.drop_left]
  rw [rdRec_rt hr (by simp [baseB, inB]; omega) hd, rowsB_take hk, List.length_append]
/-- No two batches have the same bytes. -/
theorem BatAt.uniq {l : List Int} {p : Nat} {b c : Bat} (h : BatAt l p b) (h' : BatAt l p c) : b = c := by
  have hf : b.first = c.first := h.offset.symm.trans h'.offset
  have hm : (b.rest.length : Int) = c.rest.length := h.many.symm.trans h'.many
  have hml : b.rest.length = c.rest.length := by omega
  have hr : b.rest = c.rest := by rw [← h.rest_take, ← h'.rest_take, hml]
  have hv := h.1
  have hv' := h'.1
  have e0 : b.flags = c.flags := by rw [← rest_0, ← rest_0, hr]
  have e1 : b.prod = c.prod := by rw [← rest_1, ← rest_1, hr]
  have e2 : b.epoch = c.epoch := by rw [← rest_2, ← rest_2, hr]
  have e3 : b.seq = c.seq := by rw [← rest_seq hv, ← rest_seq hv', hr]
  have e4 : b.base = c.base := by rw [← rest_base hv, ← rest_base hv', hr]
  have e5 : b.recs.length = c.recs.length := by
    have : (b.recs.length : Int) = c.recs.length := by rw [← rest_8, ← rest_8, hr]
    omega
  have e6 : b.body = c.body := by rw [← rest_body, ← rest_body, hr]
  have ep : b.packed = c.packed := by rw [flags_packed, flags_packed, e0]
  have em : b.mark = c.mark := by rw [flags_mark, flags_mark, e0]
  have er : b.rows = c.rows := by
    cases hp : b.packed with
    | true =>
      have h1 := body_rows hv hp
      have h2 := body_rows hv' (ep.symm.trans hp)
      rw [e6] at h1
      exact Option.some.inj (h1.symm.trans h2)
    | false => rw [← body_plain hp, ← body_plain (b := c) (by rw [← ep, hp]), e6]
  have et : ∀ k, k ≤ b.recs.length → b.recs.take k = c.recs.take k := by
    intro k
    induction k with
    | zero => intro _; simp
    | succ k ih =>
      intro hk
      have i1 := ih (by omega)
      have h1 := rows_at hv (k := k) (by omega)
      have h2 := rows_at hv' (k := k) (by omega)
      rw [← i1, ← er, ← hf, ← e4] at h2
      have h3 := congrArg Prod.fst (Option.some.inj (h1.symm.trans h2))
      have h2 : b.recs[k] = c.recs[k] := h3
      rw [List.take_succ_eq_append_getElem (by omega), List.take_succ_eq_append_getElem (by omega), i1, h2]
  have ers : b.recs = c.recs := by
    have := et b.recs.length (Nat.le_refl _)
    rw [List.take_length, e5, List.take_length] at this
    exact this
  cases b; cases c
  simp only at ep em e1 e2 e3 ers
  subst ep em e1 e2 e3 ers
  rfl
/-- What is read at a place. -/
def RdBat (l : List Int) (p : Nat) : Option Bat → Prop
  | some b => BatAt l p b
  | none => ∀ b, ¬ BatAt l p b
theorem RdBat.uniq {l : List Int} {p : Nat} {r s : Option Bat} (h : RdBat l p r) (h' : RdBat l p s) : r = s := by
  cases r with
  | some b =>
    cases s with
    | some c => rw [BatAt.uniq h h']
    | none => exact absurd h (h' b)
  | none =>
    cases s with
    | some c => exact absurd h' (h c)
    | none => rfl
/-- Cut ahead of its end, nothing stands there. -/
theorem BatAt.cut {l : List Int} {p n : Nat} {b : Bat} (h : BatAt l p b) (hn : n < p + (batBytes b).length) : ∀ c, ¬ BatAt (l.take n) p c := by
  intro c hc
  have h1 : BatAt l p c := by
    obtain ⟨hv, s, hs⟩ := hc
    refine ⟨hv, s ++ (l.drop n).drop (p - n), ?_⟩
    by_cases hpn : p ≤ n
    · have e : l.drop p = (l.take n).drop p ++ l.drop n := by
        conv => lhs; rw [← List.take_append_drop n l]
        rw [List.drop_append]
        by_cases hl : n ≤ l.length
        · rw [List.length_take, Nat.min_eq_left hl, show p - n = 0 by omega, List.drop_zero]
        · rw [List.drop_of_length_le (l := l) (by omega)]; simp
      rw [e, hs, show p - n = 0 by omega, List.drop_zero, List.append_assoc]
    · rw [List.drop_of_length_le (by rw [List.length_take]; omega)] at hs
      have := congrArg List.length hs
      rw [List.length_append, batBytes_len] at this
      simp at this
      omega
  have e := h.uniq h1
  subst e
  have := hc.len
  rw [List.length_take] at this
  omega
end

section
theorem sumStep_inj {s u b : Int} (hs : 0 ≤ s ∧ s ≤ 65520) (hu : 0 ≤ u ∧ u ≤ 65520) (h : sumStep s b = sumStep u b) : s = u := by
  unfold sumStep at h
  omega
theorem sumGo_inj {s u : Int} (l : List Int) (hs : 0 ≤ s ∧ s ≤ 65520) (hu : 0 ≤ u ∧ u ≤ 65520) (h : sumGo s l = sumGo u l) : s = u := by
  induction l generalizing s u with
  | nil => exact h
  | cons b t ih => exact sumStep_inj hs hu (ih (sumStep_range s b) (sumStep_range u b) h)
theorem sumStep_other {s x y : Int} (hx : 0 ≤ x ∧ x ≤ 255) (hy : 0 ≤ y ∧ y ≤ 255) (h : sumStep s x = sumStep s y) : x = y := by
  unfold sumStep at h
  omega
/-- One byte changed changes the sum. -/
theorem sumB_set {l : List Int} {k : Nat} {y : Int} (hk : k < l.length) (hb : bytesB l = true) (hy : 0 ≤ y ∧ y ≤ 255) (h : sumB (l.set k y) = sumB l) : y = l[k] := by
  have e1 : l = l.take k ++ (l[k] :: l.drop (k + 1)) := by rw [← List.drop_eq_getElem_cons hk, List.take_append_drop]
  have e2 : l.set k y = l.take k ++ (y :: l.drop (k + 1)) := by
    rw [List.set_eq_take_append_cons_drop, if_pos hk]
  have hr : 0 ≤ sumGo 1 (l.take k) ∧ sumGo 1 (l.take k) ≤ 65520 := sumGo_range _ _ (by omega)
  have h1 : sumGo (sumStep (sumGo 1 (l.take k)) y) (l.drop (k + 1)) = sumGo (sumStep (sumGo 1 (l.take k)) l[k]) (l.drop (k + 1)) := by
    have a1 : sumB (l.set k y) = sumGo (sumStep (sumGo 1 (l.take k)) y) (l.drop (k + 1)) := by
      unfold sumB; rw [e2, sumGo_append]; rfl
    have a2 : sumB l = sumGo (sumStep (sumGo 1 (l.take k)) l[k]) (l.drop (k + 1)) := by
      unfold sumB; conv => lhs; rw [e1, sumGo_append]
      rfl
    rw [← a1, ← a2, h]
  exact sumStep_other hy (byte_at hb hk) (sumGo_inj _ (sumStep_range _ _) (sumStep_range _ _) h1)
theorem BatAt.sum {l : List Int} {p : Nat} {b : Bat} (h : BatAt l p b) : num2 l (p + 5) = sumB b.rest := by
  obtain ⟨hv, s, h⟩ := h
  have h1 : l.drop (p + 5) = intB2 (sumB b.rest) ++ (b.rest ++ s) := drop_app (x := intB3 b.first ++ intB2 b.rest.length) (by rw [h]; unfold batBytes; simp) 5 rfl
  have hr : 0 ≤ sumB b.rest ∧ sumB b.rest ≤ 65520 := sumGo_range _ _ (by omega)
  exact num2_int h1 (by omega)
theorem batAt_self {b : Bat} (h : batB b = true) : BatAt (batBytes b) 0 b := ⟨h, [], by simp⟩
/-- Another byte at a place behind the number of bytes: no batch stands there any more. -/
theorem damaged {b : Bat} (hv : batB b = true) {k : Nat} {y : Int} (h5 : 5 ≤ k) (hk : k < (batBytes b).length) (hy : 0 ≤ y ∧ y ≤ 255) (hne : y ≠ (batBytes b)[k]) : ∀ c, ¬ BatAt ((batBytes b).set k y) 0 c := by
  intro c hc
  have h0 := batAt_self hv
  have hb := batBytes_bytes hv
  obtain ⟨l, hl⟩ : ∃ l, l = batBytes b := ⟨_, rfl⟩
  rw [← hl] at h0 hb hc hk
  have hne : y ≠ l[k] := by subst hl; exact hne
  have hll : l.length = 7 + b.rest.length := by rw [hl, batBytes_len, rest_len]; omega
  have gs : ∀ i, i ≠ k → (l.set k y).getD i 0 = l.getD i 0 := fun i hi => by
    rw [List.getD_eq_getElem?_getD, List.getD_eq_getElem?_getD, List.getElem?_set_ne (fun e => hi e.symm)]
  have gk : (l.set k y).getD k 0 = y := by
    rw [List.getD_eq_getElem?_getD, List.getElem?_set_self hk]; rfl
  have gl : l.getD k 0 = l[k] := getD_at hk
  have hm : (c.rest.length : Int) = b.rest.length := by
    rw [← hc.many, ← h0.many]
    unfold num2
    rw [gs _ (by omega), gs _ (by omega)]
  have hml : c.rest.length = b.rest.length := by omega
  have hr0 : l.drop 7 = b.rest := by
    have := h0.rest_take
    rw [List.take_of_length_le (by rw [List.length_drop]; omega)] at this
    exact this
  have hr1 : (l.set k y).drop 7 = c.rest := by
    have := hc.rest_take
    rw [List.take_of_length_le (by rw [List.length_drop, List.length_set]; omega)] at this
    exact this
  have s0 := h0.sum
  have s1 := hc.sum
  unfold num2 at s0 s1
  simp only [Nat.zero_add, Nat.reduceAdd] at s0 s1
  by_cases h7 : k < 7
  · have er : c.rest = b.rest := by
      rw [← hr1, ← hr0, List.drop_set, if_pos h7]
    rw [er, ← s0] at s1
    by_cases h6 : k = 5
    · subst h6
      rw [gk, gl, gs 6 (by omega)] at s1
      omega
    · obtain rfl : k = 6 := by omega
      rw [gk, gl, gs 5 (by omega)] at s1
      omega
  · have er : c.rest = b.rest.set (k - 7) y := by
      rw [← hr1, ← hr0, List.drop_set, if_neg h7]
    rw [gs 5 (by omega), gs 6 (by omega), s0, er] at s1
    have hk7 : k - 7 < b.rest.length := by omega
    have hx := sumB_set hk7 (rest_bytes hv) hy s1.symm
    refine hne ?_
    rw [hx]
    simp only [← hr0, List.getElem_drop]
    congr 1
    omega
/-- A batch that is packed, or no more. -/
def Bat.turn (b : Bat) : Bat := { b with packed := !b.packed }
theorem turn_ok {b : Bat} (h : batB b = true) : batB b.turn = true := h
theorem turn_head (b : Bat) : (batBytes b.turn).take 3 = (batBytes b).take 3 := by
  have d : ∀ x : Bat, (batBytes x).take 3 = intB3 x.first := fun x => by unfold batBytes; simp [intB3]
  rw [d, d]
  rfl
end

section
/-- The first records of bytes, and the place behind them. -/
def rdRows (l : List Int) (o t : Int) : Nat → Option (List Rec × Nat)
  | 0 => some ([], 0)
  | k + 1 =>
    match rdRows l o t k with
    | none => none
    | some (rs, e) =>
      match rdRec l e o t with
      | none => none
      | some (r, e') => some (rs ++ [r], e')
theorem rdRows_none {l : List Int} {o t : Int} {k : Nat} (h : rdRows l o t k = none) : rdRows l o t (k + 1) = none := by rw [rdRows, h]
theorem rdRows_stop {l : List Int} {o t : Int} {k e : Nat} {rs : List Rec} (h : rdRows l o t k = some (rs, e)) (h2 : rdRec l e o t = none) : rdRows l o t (k + 1) = none := by
  rw [rdRows, h]; simp only [h2]
theorem rdRows_step {l : List Int} {o t : Int} {k e e' : Nat} {rs : List Rec} {r : Rec} (h : rdRows l o t k = some (rs, e)) (h2 : rdRec l e o t = some (r, e')) : rdRows l o t (k + 1) = some (rs ++ [r], e') := by
  rw [rdRows, h]; simp only [h2]
theorem rdRows_later {l : List Int} {o t : Int} {k n : Nat} (h : rdRows l o t k = none) (hn : k ≤ n) : rdRows l o t n = none := by
  induction n with
  | zero => obtain rfl : k = 0 := by omega
            exact h
  | succ n ih =>
    by_cases hk : k = n + 1
    · rw [← hk]; exact h
    · exact rdRows_none (ih (by omega))
theorem rdRows_len {l : List Int} {o t : Int} {k e : Nat} {rs : List Rec} (h : rdRows l o t k = some (rs, e)) : rs.length = k := by
  induction k generalizing rs e with
  | zero => rw [rdRows] at h; injection h with h; injection h with h1 h2; rw [← h1]; rfl
  | succ k ih =>
    cases hq : rdRows l o t k with
    | none => rw [rdRows_none hq] at h; exact absurd h (by simp)
    | some x =>
      obtain ⟨rs0, e0⟩ := x
      cases hr : rdRec l e0 o t with
      | none => rw [rdRows_stop hq hr] at h; exact absurd h (by simp)
      | some y =>
        obtain ⟨r, e1⟩ := y
        rw [rdRows_step hq hr] at h
        injection h with h
        injection h with h1 h2
        rw [← h1, List.length_append, ih hq]
        rfl
theorem rdRows_ok {l : List Int} (hb : bytesB l = true) {o t : Int} {k e : Nat} {rs : List Rec} (h : rdRows l o t k = some (rs, e)) : (∀ r ∈ rs, recB r = true) ∧ e ≤ l.length := by
  induction k generalizing rs e with
  | zero => rw [rdRows] at h; injection h with h; injection h with h1 h2; subst h1 h2; exact ⟨by simp, Nat.zero_le _⟩
  | succ k ih =>
    cases hq : rdRows l o t k with
    | none => rw [rdRows_none hq] at h; exact absurd h (by simp)
    | some x =>
      obtain ⟨rs0, e0⟩ := x
      cases hr : rdRec l e0 o t with
      | none => rw [rdRows_stop hq hr] at h; exact absurd h (by simp)
      | some y =>
        obtain ⟨r, e1⟩ := y
        rw [rdRows_step hq hr] at h
        injection h with h
        injection h with h1 h2
        obtain ⟨_, _, h3, h4⟩ := rdRec_inv hb hr
        subst h1 h2
        refine ⟨fun q hq' => ?_, h4⟩
        rcases List.mem_append.1 hq' with hm | hm
        · exact (ih hq).1 q hm
        · simp at hm; subst hm; exact h3
theorem rows_read {b : Bat} (h : batB b = true) {k : Nat} (hk : k ≤ b.recs.length) : rdRows b.rows b.first b.base k = some (b.recs.take k, (rowsB (b.recs.take k) b.first b.base).length) := by
  induction k with
  | zero => rfl
  | succ k ih =>
    rw [rdRows_step (ih (by omega)) (rows_at h (by omega)), ← List.take_succ_eq_append_getElem (by omega)]
/-- What stands behind the head. -/
def restAt (l : List Int) (p : Nat) : List Int := (l.drop (p + 7)).take (num2 l (p + 3)).toNat
def rowsOf (rest : List Int) : Option (List Int) := if rest.getD 0 0 % 2 = 1 then unp (rest.drop 11) [] else some (rest.drop 11)
def batOf (rest : List Int) (rs : List Rec) : Bat := ⟨decide (rest.getD 0 0 % 2 = 1), decide (rest.getD 0 0 / 2 = 1), rest.getD 1 0, rest.getD 2 0, num2 rest 3, rs⟩
section
variable {l : List Int} {p : Nat} {b : Bat}
theorem BatAt.rest (h : BatAt l p b) : restAt l p = b.rest := by
  unfold restAt
  rw [h.many]
  exact h.rest_take
theorem BatAt.rows (h : BatAt l p b) : rowsOf (restAt l p) = some b.rows := by
  rw [h.rest]
  unfold rowsOf
  rw [rest_0, rest_body]
  have hf := flags_packed b
  cases hp : b.packed with
  | true => rw [hp] at hf; rw [if_pos (by simpa using hf.symm)]; exact body_rows h.1 hp
  | false => rw [hp] at hf; rw [if_neg (by simpa using hf.symm)]; rw [body_plain hp]
theorem BatAt.recs (h : BatAt l p b) : rdRows b.rows (num3 l p) (num3 (restAt l p) 5) ((restAt l p).getD 8 0).toNat = some (b.recs, b.rows.length) := by
  rw [h.rest, h.offset, rest_base h.1, rest_8]
  have := rows_read h.1 (Nat.le_refl b.recs.length)
  rw [List.take_length] at this
  exact this
theorem BatAt.bat (h : BatAt l p b) : batOf (restAt l p) b.recs = b := by
  rw [h.rest]
  unfold batOf
  rw [rest_0, rest_1, rest_2, rest_seq h.1, ← flags_packed, ← flags_mark]
/-- All tests at once. -/
theorem BatAt.tests (h : BatAt l p b) : 11 ≤ (num2 l (p + 3)).toNat ∧ p + 7 + (num2 l (p + 3)).toNat ≤ l.length ∧ num2 l (p + 5) = sumB (restAt l p) ∧ (restAt l p).getD 0 0 ≤ 3 ∧ (restAt l p).getD 9 0 = 0 ∧ (restAt l p).getD 10 0 = 0 ∧ baseB (num3 l p) (num3 (restAt l p) 5) = true ∧ p + 18 ≤ l.length := by
  have h1 := h.size
  have h2 := batB_base h.1
  refine ⟨by rw [h.many]; omega, by rw [h.many]; omega, by rw [h.rest]; exact h.sum, by rw [h.rest, rest_0]; exact (flags_range b).2, by rw [h.rest]; rfl, by rw [h.rest]; rfl, ?_, by omega⟩
  rw [h.rest, h.offset, rest_base h.1]
  simp [baseB, inB]; omega
theorem BatAt.next (h : BatAt l p b) : p + 7 + (num2 l (p + 3)).toNat = p + (batBytes b).length := by
  rw [h.many, batBytes_len, rest_len]; omega
end
/-- What was read is a batch if its bytes are those that were read. -/
theorem BatAt.of_same {l : List Int} {p e : Nat} {b : Bat} (hv : batB b = true) (hpe : p ≤ e) (hel : e ≤ l.length) (h : (l.drop p).take (e - p) = batBytes b) : BatAt l p b ∧ e = p + (batBytes b).length := by
  have hl := congrArg List.length h
  rw [List.length_take, List.length_drop] at hl
  exact ⟨BatAt.of_region hv (by rw [← h, List.length_take, List.length_drop]; congr 1; omega), by omega⟩
theorem batOf_ok {l : List Int} (hb : bytesB l = true) (rs : List Rec) : (0 ≤ (batOf l rs).prod ∧ (batOf l rs).prod ≤ 255) ∧ (0 ≤ (batOf l rs).epoch ∧ (batOf l rs).epoch ≤ 255) ∧ (0 ≤ (batOf l rs).seq ∧ (batOf l rs).seq ≤ 65535) := by
  have h1 := getD_byte hb 1
  have h2 := getD_byte hb 2
  have h3 := getD_byte hb 3
  have h4 := getD_byte hb 4
  refine ⟨h1, h2, ?_⟩
  show 0 ≤ num2 l 3 ∧ num2 l 3 ≤ 65535
  unfold num2
  simp only [Nat.reduceAdd]
  omega
end

section
open Classical in
/-- The batch at a place, if one stands there. -/
noncomputable def rdBat (l : List Int) (p : Nat) : Option Bat := if h : ∃ b, BatAt l p b then some h.choose else none
theorem rdBat_rd (l : List Int) (p : Nat) : RdBat l p (rdBat l p) := by
  unfold rdBat
  split
  · rename_i h; exact h.choose_spec
  · rename_i h; exact fun b hb => h ⟨b, hb⟩
theorem rdBat_of {l : List Int} {p : Nat} {r : Option Bat} (h : RdBat l p r) : rdBat l p = r := (rdBat_rd l p).uniq h
theorem rdBat_some {l : List Int} {p : Nat} {b : Bat} (h : BatAt l p b) : rdBat l p = some b := rdBat_of (r := some b) h
theorem rdBat_none {l : List Int} {p : Nat} (h : ∀ b, ¬ BatAt l p b) : rdBat l p = none := rdBat_of (r := none) h
theorem rdBat_at {l : List Int} {p : Nat} {b : Bat} (h : rdBat l p = some b) : BatAt l p b := by
  have := rdBat_rd l p
  rw [h] at this
  exact this

/-- A head, or less, whose bytes are not all there. -/
def tornB (l : List Int) (p : Nat) : Bool := decide (l.length < p + 18) || decide ((l.length : Int) < p + 7 + num2 l (p + 3))
def lastOf (bs : List Bat) : Int := match bs.getLast? with | none => -1 | some b => b.last
theorem lastOf_nil : lastOf [] = -1 := rfl
theorem lastOf_snoc (bs : List Bat) (b : Bat) : lastOf (bs ++ [b]) = b.last := by simp [lastOf]
theorem lastOf_at {bs : List Bat} (h : 0 < bs.length) : lastOf bs = bs[bs.length - 1].last := by
  unfold lastOf
  rw [List.getLast?_eq_getElem?, List.getElem?_eq_getElem (by omega)]
/-- Scanning on: so many batches at most, at a place, behind what was found. -/
noncomputable def scanGo (l : List Int) : Nat → Nat → List Bat → List Bat × Nat × Int
  | 0, p, bs => (bs, p, 0)
  | f + 1, p, bs =>
    if p = l.length then (bs, p, 0) else if tornB l p = true then (bs, p, 1) else
    match rdBat l p with
    | none => (bs, p, 2)
    | some b => if b.first ≤ lastOf bs then (bs, p, 3) else scanGo l f (p + (batBytes b).length) (bs ++ [b])
noncomputable def scanOf (l : List Int) : List Bat × Nat × Int := if bytesB l = true then scanGo l 8 0 [] else ([], 0, 2)
section
variable {l : List Int} {f p : Nat} {bs : List Bat} {b : Bat}
theorem scanGo_zero (l : List Int) (p : Nat) (bs : List Bat) : scanGo l 0 p bs = (bs, p, 0) := rfl
theorem scanGo_end (h : p = l.length) : scanGo l f p bs = (bs, p, 0) := by
  cases f with
  | zero => rfl
  | succ f => rw [scanGo, if_pos h]
theorem scanGo_torn (h : p ≠ l.length) (ht : tornB l p = true) : scanGo l (f + 1) p bs = (bs, p, 1) := by rw [scanGo, if_neg h, if_pos ht]
theorem scanGo_bad (h : p ≠ l.length) (ht : tornB l p = false) (hb : rdBat l p = none) : scanGo l (f + 1) p bs = (bs, p, 2) := by rw [scanGo, if_neg h, if_neg (by simp [ht]), hb]
theorem scanGo_order (h : p ≠ l.length) (ht : tornB l p = false) (hb : rdBat l p = some b) (ho : b.first ≤ lastOf bs) : scanGo l (f + 1) p bs = (bs, p, 3) := by
  rw [scanGo, if_neg h, if_neg (by simp [ht]), hb]; simp only [if_pos ho]
theorem scanGo_more (h : p ≠ l.length) (ht : tornB l p = false) (hb : rdBat l p = some b) (ho : ¬ b.first ≤ lastOf bs) : scanGo l (f + 1) p bs = scanGo l f (p + (batBytes b).length) (bs ++ [b]) := by
  rw [scanGo, if_neg h, if_neg (by simp [ht]), hb]; simp only [if_neg ho]
end
theorem BatAt.whole {l : List Int} {p : Nat} {b : Bat} (h : BatAt l p b) : tornB l p = false ∧ p ≠ l.length := by
  have h1 := h.tests
  have h2 := h.many
  have h3 := h.size
  refine ⟨?_, by omega⟩
  unfold tornB
  simp only [Bool.or_eq_false_iff, decide_eq_false_iff_not]
  rw [h2]
  omega
/-- What holds of what was found. -/
structure ScanInv (l : List Int) (p : Nat) (bs : List Bat) : Prop where
  log : logB bs = true
  le : p ≤ l.length
  at_ : p = (logCat bs).length
  bytes : l.take p = logCat bs
theorem logB_nil : logB [] = true := by rw [logB_iff]; simp
theorem ScanInv.start (l : List Int) : ScanInv l 0 [] := ⟨logB_nil, Nat.zero_le _, rfl, by simp [logCat_nil]⟩
theorem lt_last {bs : List Bat} {a b : Bat} (h : bs.Pairwise Bat.lt) (hv : ∀ x ∈ bs, batB x = true) (ha : a ∈ bs) (hl : lastOf bs < b.first) : Bat.lt a b := by
  unfold Bat.lt
  obtain ⟨i, hi, rfl⟩ := List.getElem_of_mem ha
  rw [lastOf_at (by omega)] at hl
  by_cases h2 : i = bs.length - 1
  · subst h2; exact hl
  · have h3 := (List.pairwise_iff_getElem.1 h) i (bs.length - 1) hi (by omega) (by omega)
    have h4 := first_le_last (hv _ (List.getElem_mem (show bs.length - 1 < bs.length by omega)))
    unfold Bat.lt at h3
    omega
theorem ScanInv.more {l : List Int} {p : Nat} {bs : List Bat} {b : Bat} (h : ScanInv l p bs) (h8 : bs.length < 8) (hb : BatAt l p b) (ho : lastOf bs < b.first) : ScanInv l (p + (batBytes b).length) (bs ++ [b]) := by
  obtain ⟨h0, h1, h2⟩ := (logB_iff _).1 h.log
  refine ⟨?_, hb.len, ?_, ?_⟩
  · rw [logB_iff]
    refine ⟨by simp; omega, fun x hx => ?_, ?_⟩
    · rcases List.mem_append.1 hx with hx | hx
      · exact h1 x hx
      · simp at hx; subst hx; exact hb.1
    · rw [List.pairwise_append]
      exact ⟨h2, by simp, fun a ha c hc => by simp at hc; subst hc; exact lt_last h2 h1 ha ho⟩
  · rw [logCat_append, logCat_one, List.length_append, ← h.at_]
  · rw [List.take_add, h.bytes, hb.region, logCat_append, logCat_one]
structure ScanOk (l : List Int) (r : List Bat × Nat × Int) : Prop where
  inv : ScanInv l r.2.1 r.1
  stop : r.2.2 = 0 → r.2.1 = l.length ∨ r.1.length = 8
theorem scanGo_ok (l : List Int) (f p : Nat) (bs : List Bat) (h : ScanInv l p bs) (hf : f + bs.length = 8) : ScanOk l (scanGo l f p bs) := by
  induction f generalizing p bs with
  | zero => exact ⟨h, fun _ => .inr (by show bs.length = 8; omega)⟩
  | succ f ih =>
    by_cases hp : p = l.length
    · rw [scanGo_end hp]; exact ⟨h, fun _ => .inl hp⟩
    · cases ht : tornB l p with
      | true => rw [scanGo_torn hp ht]; exact ⟨h, fun h => by cases h⟩
      | false =>
        cases hb : rdBat l p with
        | none => rw [scanGo_bad hp ht hb]; exact ⟨h, fun h => by cases h⟩
        | some b =>
          by_cases ho : b.first ≤ lastOf bs
          · rw [scanGo_order hp ht hb ho]; exact ⟨h, fun h => by cases h⟩
          · rw [scanGo_more hp ht hb ho]
            exact ih _ _ (h.more (by omega) (rdBat_at hb) (by omega)) (by simp; omega)
theorem scanOf_ok (l : List Int) : ScanOk l (scanOf l) := by
  unfold scanOf
  split
  · exact scanGo_ok l 8 0 [] (ScanInv.start l) rfl
  · exact ⟨ScanInv.start l, fun h => by cases h⟩
theorem scanOf_bytes {l : List Int} (h : (scanOf l).2.2 ≠ 2) : bytesB l = true := by
  unfold scanOf at h
  split at h
  · assumption
  · exact absurd rfl h
theorem scanOf_len {l : List Int} : (scanOf l).1.length ≤ 8 := ((logB_iff _).1 (scanOf_ok l).inv.log).1
/-- The batches that stand ahead are found one behind the other. -/
theorem cat_at {l : List Int} {bs : List Bat} (h : logB bs = true) (hl : l.take (logCat bs).length = logCat bs) {k : Nat} (hk : k < bs.length) : BatAt l (logCat (bs.take k)).length bs[k] := by
  refine ⟨(logB_all h).2 _ (List.getElem_mem hk), ?_⟩
  obtain ⟨s, hs⟩ : ∃ s, s = l.drop (logCat bs).length := ⟨_, rfl⟩
  have e : l = logCat bs ++ s := by conv => lhs; rw [← List.take_append_drop (logCat bs).length l, hl, ← hs]
  have e2 : logCat bs = logCat (bs.take k) ++ (batBytes bs[k] ++ logCat (bs.drop (k + 1))) := by
    rw [← logCat_one, ← logCat_append, ← logCat_append]
    congr 1
    rw [List.singleton_append, ← List.drop_eq_getElem_cons hk, List.take_append_drop]
  refine ⟨logCat (bs.drop (k + 1)) ++ s, ?_⟩
  rw [e2, List.append_assoc] at e
  conv => lhs; rw [e]
  rw [List.drop_left, List.append_assoc]
theorem lastOf_take {bs : List Bat} (h : logB bs = true) {k : Nat} (hk : k < bs.length) : ¬ bs[k].first ≤ lastOf (bs.take k) := by
  obtain ⟨_, h1, h2⟩ := (logB_iff _).1 h
  rcases Nat.eq_zero_or_pos k with rfl | h0
  · have := (batB_base (h1 _ (List.getElem_mem hk))).1
    simp only [List.take_zero, lastOf_nil]
    omega
  · rw [lastOf_at (by rw [List.length_take]; omega)]
    have h3 := (List.pairwise_iff_getElem.1 h2) (k - 1) k (by omega) hk (by omega)
    unfold Bat.lt at h3
    have e : (bs.take k)[(bs.take k).length - 1]'(by rw [List.length_take]; omega) = bs[k - 1] := by
      rw [List.getElem_take]
      congr 1
      rw [List.length_take]; omega
    rw [e]
    omega
theorem scan_pre {l : List Int} {bs : List Bat} (h : logB bs = true) (hl : l.take (logCat bs).length = logCat bs) (k : Nat) (hk : k ≤ bs.length) :
    scanGo l 8 0 [] = scanGo l (8 - k) (logCat (bs.take k)).length (bs.take k) := by
  have h8 := ((logB_iff _).1 h).1
  induction k with
  | zero => rfl
  | succ k ih =>
    have hb := cat_at h hl (k := k) (by omega)
    rw [ih (by omega), show 8 - k = (8 - (k + 1)) + 1 by omega, scanGo_more hb.whole.2 hb.whole.1 (rdBat_some hb) (lastOf_take h (by omega)), ← List.take_succ_eq_append_getElem (by omega), logCat_take (by omega), List.length_append]
theorem scan_pre_all {l : List Int} {bs : List Bat} (h : logB bs = true) (hl : l.take (logCat bs).length = logCat bs) : scanGo l 8 0 [] = scanGo l (8 - bs.length) (logCat bs).length bs := by
  have := scan_pre h hl bs.length (Nat.le_refl _)
  rw [List.take_length] at this
  exact this
/-- What is good is found whole. -/
theorem scan_cat {bs : List Bat} (h : logB bs = true) : scanOf (logCat bs) = (bs, (logCat bs).length, 0) := by
  unfold scanOf
  rw [if_pos (logCat_bytes (logB_all h).2), scan_pre_all h (List.take_length), scanGo_end rfl]
theorem num2_take {l : List Int} {n i : Nat} (h : i + 2 ≤ n) : num2 (l.take n) i = num2 l i := by
  unfold num2
  have e : ∀ j, j < n → (l.take n).getD j 0 = l.getD j 0 := fun j hj => by rw [List.getD_eq_getElem?_getD, List.getD_eq_getElem?_getD, List.getElem?_take_of_lt hj]
  rw [e i (by omega), e (i + 1) (by omega)]
/-- Cut in the midst of a batch. -/
theorem torn_cut {l : List Int} {p n : Nat} {b : Bat} (h : BatAt l p b) (hn : n < p + (batBytes b).length) : tornB (l.take n) p = true := by
  have h1 := h.many
  have h2 := h.len
  have h3 := batBytes_len b
  have h4 := rest_len b
  unfold tornB
  rw [List.length_take, Nat.min_eq_left (by omega)]
  simp only [Bool.or_eq_true, decide_eq_true_eq]
  by_cases hs : n < p + 18
  · exact .inl hs
  · right
    rw [num2_take (by omega), h1]
    omega
/-- A part of what is good: so many batches, the end or a torn one. -/
theorem scan_part {bs : List Bat} (h : logB bs = true) (k : Nat) (hk : k ≤ (logCat bs).length) :
    ∃ j, j ≤ bs.length ∧ (logCat (bs.take j)).length ≤ k ∧ scanOf ((logCat bs).take k) = (bs.take j, (logCat (bs.take j)).length, if (logCat (bs.take j)).length = k then 0 else 1) ∧ (∀ hj : j < bs.length, k < (logCat (bs.take (j + 1))).length) := by
  have h8 := ((logB_iff _).1 h).1
  have hby : bytesB ((logCat bs).take k) = true := List.all_eq_true.2 fun x hx => List.all_eq_true.1 (show (logCat bs).all byteB = true from logCat_bytes (logB_all h).2) x (List.mem_of_mem_take hx)
  have hex : ∀ m, m ≤ bs.length → (logCat (bs.take m)).length ≤ k → ∃ j, j ≤ bs.length ∧ (logCat (bs.take j)).length ≤ k ∧ (∀ hj : j < bs.length, k < (logCat (bs.take (j + 1))).length) := by
    intro m hm hmk
    induction hd : bs.length - m generalizing m with
    | zero => exact ⟨m, hm, hmk, fun hj => by omega⟩
    | succ d ih =>
      by_cases hc : (logCat (bs.take (m + 1))).length ≤ k
      · exact ih (m + 1) (by omega) hc (by omega)
      · exact ⟨m, hm, hmk, fun _ => by omega⟩
  obtain ⟨j, hj, hjk, hnext⟩ := hex 0 (Nat.zero_le _) (by simp [logCat_nil])
  refine ⟨j, hj, hjk, ?_, hnext⟩
  have hlj : logB (bs.take j) = true := logB_take h j
  have hpre : ((logCat bs).take k).take (logCat (bs.take j)).length = logCat (bs.take j) := by
    rw [List.take_take, Nat.min_eq_left hjk]
    conv => lhs; rw [show bs = bs.take j ++ bs.drop j from (List.take_append_drop j bs).symm, logCat_append]
    rw [show (logCat (List.take j (List.take j bs ++ List.drop j bs))).length = (logCat (bs.take j)).length by rw [List.take_append_drop], List.take_left]
  unfold scanOf
  rw [if_pos hby, scan_pre_all hlj hpre]
  have hlen : ((logCat bs).take k).length = k := by rw [List.length_take]; omega
  by_cases he : (logCat (bs.take j)).length = k
  · rw [scanGo_end (by rw [hlen, he]), if_pos he]
  · rw [if_neg he]
    have hjl : j < bs.length := by
      rcases Nat.lt_or_ge j bs.length with hh | hh
      · exact hh
      · rw [List.take_of_length_le hh] at hjk he; omega
    have hb := cat_at h (List.take_length) hjl
    have ht := torn_cut (n := k) hb (by have := hnext hjl; rw [logCat_take hjl, List.length_append] at this; exact this)
    have hz : (bs.take j).length = j := by rw [List.length_take]; omega
    rw [hz, show 8 - j = (8 - j - 1) + 1 by omega, scanGo_torn (by rw [hlen]; exact he) ht]
/-- Twice the same: the second time its offsets are not ahead. -/
theorem scan_twice {l : List Int} (h0 : (scanOf l).2.2 = 0) (hn : (scanOf l).2.1 = l.length) (hne : l.length ≠ 0) :
    scanOf (l ++ l) = ((scanOf l).1, (scanOf l).2.1, if (scanOf l).1.length = 8 then 0 else 3) := by
  have ok := (scanOf_ok l).inv
  have hby := scanOf_bytes (l := l) (by rw [h0]; decide)
  obtain ⟨bs, hbs⟩ : ∃ bs, bs = (scanOf l).1 := ⟨_, rfl⟩
  have hl : l = logCat bs := by
    have := ok.bytes
    rw [hn, List.take_length, ← hbs] at this
    exact this
  rw [hn]
  rw [← hbs] at ok ⊢
  have h8 := ((logB_iff _).1 ok.log).1
  have hll : (logCat bs).length = l.length := by rw [← hl]
  unfold scanOf
  rw [if_pos (bytesB_append hby hby), scan_pre_all (l := l ++ l) ok.log (by rw [hll, List.take_left, hl]), hll]
  by_cases he : bs.length = 8
  · rw [if_pos he, he]
    exact scanGo_zero _ _ _
  · rw [if_neg he]
    have hpos : 0 < bs.length := by
      rcases Nat.eq_zero_or_pos bs.length with hh | hh
      · rw [List.length_eq_zero_iff.1 hh] at hl; rw [hl] at hne; exact absurd rfl hne
      · exact hh
    have hb0 : BatAt l 0 bs[0] := cat_at ok.log (by rw [hll, List.take_length, hl]) hpos
    have hb : BatAt (l ++ l) l.length bs[0] := by
      obtain ⟨hv, s, hs⟩ := hb0
      exact ⟨hv, s, by rw [List.drop_left]; simpa using hs⟩
    obtain ⟨_, hv, hp⟩ := (logB_iff _).1 ok.log
    have hfl : bs[0].first ≤ lastOf bs := by
      rw [lastOf_at hpos]
      have h1 := first_le_last (hv _ (List.getElem_mem hpos))
      by_cases hz : bs.length - 1 = 0
      · have e : bs[bs.length - 1] = bs[0] := by congr 1
        rw [e]; exact h1
      · have h2 := (List.pairwise_iff_getElem.1 hp) 0 (bs.length - 1) hpos (by omega) (by omega)
        have h3 := first_le_last (hv _ (List.getElem_mem (show bs.length - 1 < bs.length by omega)))
        unfold Bat.lt at h2
        omega
    rw [show 8 - bs.length = (8 - bs.length - 1) + 1 by omega, scanGo_order hb.whole.2 hb.whole.1 (rdBat_some hb) hfl]
/-- Seeking on: so many batches at most; n: the number of the next one. -/
noncomputable def seekGo (l : List Int) (o : Int) : Nat → Nat → Nat → Option (Bat × Nat)
  | 0, _, _ => none
  | f + 1, p, n =>
    match rdBat l p with
    | none => none
    | some b => if o ≤ b.last then some (b, n) else seekGo l o f (p + (batBytes b).length) (n + 1)
theorem seekGo_none {l : List Int} {o : Int} {f p n : Nat} (h : rdBat l p = none) : seekGo l o f p n = none := by
  cases f with
  | zero => rfl
  | succ f => rw [seekGo, h]
theorem seekGo_here {l : List Int} {o : Int} {f p n : Nat} {b : Bat} (h : rdBat l p = some b) (ho : o ≤ b.last) : seekGo l o (f + 1) p n = some (b, n) := by rw [seekGo, h]; simp only [if_pos ho]
theorem seekGo_on {l : List Int} {o : Int} {f p n : Nat} {b : Bat} (h : rdBat l p = some b) (ho : ¬ o ≤ b.last) : seekGo l o (f + 1) p n = seekGo l o f (p + (batBytes b).length) (n + 1) := by rw [seekGo, h]; simp only [if_neg ho]

/-- The entries' places are the batches'. -/
theorem idxTo_at (bs : List Bat) (e : Int) (k : Nat) (hk : k ≤ bs.length) : ∀ x ∈ idxTo bs e k, ∃ j, ∃ hj : j < k, x = ⟨(bs[j]'(by omega)).first, placeAt bs j⟩ := by
  induction k with
  | zero => intro x hx; simp [idxTo] at hx
  | succ k ih =>
    intro x hx
    by_cases hf : farP e (idxTo bs e k) (placeAt bs k)
    · rw [idxTo_yes (by omega) hf] at hx
      rcases List.mem_append.1 hx with hx | hx
      · obtain ⟨j, hj, h⟩ := ih (by omega) x hx
        exact ⟨j, by omega, h⟩
      · simp at hx
        exact ⟨k, by omega, hx⟩
    · rw [idxTo_no hf] at hx
      obtain ⟨j, hj, h⟩ := ih (by omega) x hx
      exact ⟨j, by omega, h⟩
theorem idx_lt {bs : List Bat} (h : logB bs = true) {i j : Nat} (hij : i < j) (hj : j < bs.length) : Ent.lt ⟨(bs[i]'(by omega)).first, placeAt bs i⟩ ⟨bs[j].first, placeAt bs j⟩ := by
  obtain ⟨_, hv, hp⟩ := (logB_iff _).1 h
  have h1 := (List.pairwise_iff_getElem.1 hp) i j (by omega) hj hij
  have h2 := first_le_last (hv _ (List.getElem_mem (show i < bs.length by omega)))
  have h3 := placeAt_step (bs := bs) (k := i) (by omega)
  have h4 := placeAt_mono (bs := bs) (j := i + 1) (k := j) (by omega)
  unfold Bat.lt at h1
  refine ⟨?_, ?_⟩
  · show (bs[i]'(by omega)).first < bs[j].first; omega
  · show placeAt bs i < placeAt bs j; omega
theorem idxTo_pair {bs : List Bat} (h : logB bs = true) (e : Int) (k : Nat) (hk : k ≤ bs.length) : (idxTo bs e k).Pairwise Ent.lt := by
  induction k with
  | zero => simp [idxTo]
  | succ k ih =>
    by_cases hf : farP e (idxTo bs e k) (placeAt bs k)
    · rw [idxTo_yes (by omega) hf, List.pairwise_append]
      refine ⟨ih (by omega), by simp, fun a ha c hc => ?_⟩
      obtain ⟨j, hj, rfl⟩ := idxTo_at bs e k (by omega) a ha
      simp at hc
      subst hc
      exact idx_lt h hj (by omega)
    · rw [idxTo_no hf]; exact ih (by omega)
theorem idxTo_ents {bs : List Bat} (h : logB bs = true) (e : Int) : entsB (idxTo bs e bs.length) = true := by
  rw [entsB_iff]
  refine ⟨Nat.le_trans (idxTo_len bs e bs.length) (logB_all h).1, fun x hx => ?_, idxTo_pair h e _ (Nat.le_refl _)⟩
  obtain ⟨j, hj, rfl⟩ := idxTo_at bs e _ (Nat.le_refl _) x hx
  have h1 := (batB_base ((logB_all h).2 _ (List.getElem_mem hj))).1
  have h2 := placeAt_range h j
  simp only [entB, inB, Bool.and_eq_true, decide_eq_true_eq]
  omega
theorem idx_bat {bs : List Bat} (h : logB bs = true) {e : Int} {x : Ent} (hx : x ∈ idxTo bs e bs.length) : ∃ b p, x.place = ((p : Nat) : Int) ∧ x.off = b.first ∧ BatAt (logCat bs) p b := by
  obtain ⟨j, hj, rfl⟩ := idxTo_at bs e _ (Nat.le_refl _) x hx
  exact ⟨bs[j], _, rfl, rfl, cat_at h (List.take_length) hj⟩
end

section
theorem scan_good (l : List Int) : logB (scanOf l).1 = true ∧ (scanOf l).2.1 ≤ l.length ∧ (scanOf l).2.1 = (logCat (scanOf l).1).length ∧ l.take (scanOf l).2.1 = logCat (scanOf l).1 :=
  ⟨(scanOf_ok l).inv.log, (scanOf_ok l).inv.le, (scanOf_ok l).inv.at_, (scanOf_ok l).inv.bytes⟩
theorem scan_again (l : List Int) : scanOf (l.take (scanOf l).2.1) = ((scanOf l).1, (scanOf l).2.1, 0) := by
  obtain ⟨h1, _, h3, h4⟩ := scan_good l
  rw [h4, scan_cat h1, ← h3]
theorem batBytes_18 (b : Bat) : 18 ≤ (batBytes b).length := by rw [batBytes_len]; omega
theorem logCat_last {bs : List Bat} {m : Nat} (hm : m + 1 = bs.length) : (logCat (bs.take m)).length + (batBytes (bs[m]'(by omega))).length = (logCat bs).length := by
  have h := logCat_take (bs := bs) (k := m) (by omega)
  rw [hm, List.take_length] at h
  rw [h, List.length_append]
theorem logCat_mono {bs : List Bat} {i j : Nat} (hij : i ≤ j) : (logCat (bs.take i)).length ≤ (logCat (bs.take j)).length := by
  have e : bs.take j = bs.take i ++ (bs.take j).drop i := by
    conv => lhs; rw [← List.take_append_drop i (bs.take j), List.take_take, Nat.min_eq_left hij]
  rw [e, logCat_append, List.length_append]
  omega
/-- The last byte is torn off. -/
theorem scan_torn1 {bs : List Bat} (h : logB bs = true) {m k : Nat} (hm : m + 1 = bs.length) (hk : k + 1 = (logCat bs).length) : scanOf ((logCat bs).take k) = (bs.take m, (logCat (bs.take m)).length, 1) := by
  obtain ⟨j, hj, hjk, hs, hn⟩ := scan_part h k (by omega)
  have h18 := batBytes_18 (bs[m]'(by omega))
  have hl := logCat_last hm
  have hjl : j < bs.length := by
    rcases Nat.lt_or_ge j bs.length with hh | hh
    · exact hh
    · rw [List.take_of_length_le hh] at hjk; omega
  have hjm : j = m := by
    have h2 := hn hjl
    have h3 := logCat_take hjl
    by_cases hc : j + 1 ≤ m
    · have := logCat_mono (bs := bs) hc; omega
    · omega
  subst hjm
  rw [hs, if_neg (by omega)]
theorem scan_any {bs : List Bat} (h : logB bs = true) (k : Nat) (hk : k ≤ (logCat bs).length) :
    ∃ j n why, j ≤ bs.length ∧ n ≤ k ∧ scanOf ((logCat bs).take k) = (bs.take j, n, why) ∧ ((why = 0 ∧ n = k) ∨ (why = 1 ∧ n ≠ k)) := by
  obtain ⟨j, hj, hjk, hs, _⟩ := scan_part h k hk
  by_cases he : (logCat (bs.take j)).length = k
  · exact ⟨j, _, 0, hj, hjk, by rw [hs, if_pos he], .inl ⟨rfl, he⟩⟩
  · exact ⟨j, _, 1, hj, hjk, by rw [hs, if_neg he], .inr ⟨rfl, he⟩⟩
end

section
section
variable {l : List Int} {p : Nat}
theorem none_short (h : l.length < p + 18) : rdBat l p = none := rdBat_none fun b hb => by have := hb.tests; omega
theorem none_size (h : (num2 l (p + 3)).toNat < 11 ∨ l.length < p + 7 + (num2 l (p + 3)).toNat) : rdBat l p = none := rdBat_none fun b hb => by have := hb.tests; omega
theorem none_sum (h : num2 l (p + 5) ≠ sumB (restAt l p)) : rdBat l p = none := rdBat_none fun b hb => h hb.tests.2.2.1
theorem none_head (h : 3 < (restAt l p).getD 0 0 ∨ (restAt l p).getD 9 0 ≠ 0 ∨ (restAt l p).getD 10 0 ≠ 0) : rdBat l p = none := rdBat_none fun b hb => by
  obtain ⟨_, _, _, h1, h2, h3, _⟩ := hb.tests
  rcases h with h | h | h
  · omega
  · exact h h2
  · exact h h3
theorem none_base (h : baseB (num3 l p) (num3 (restAt l p) 5) = false) : rdBat l p = none := rdBat_none fun b hb => by
  have := hb.tests.2.2.2.2.2.2.1
  rw [h] at this
  cases this
theorem none_rows (h : rowsOf (restAt l p) = none) : rdBat l p = none := rdBat_none fun b hb => by
  have := hb.rows
  rw [h] at this
  cases this
variable {rows : List Int} {rs : List Rec} {e : Nat}
theorem none_recs (hr : rowsOf (restAt l p) = some rows) (h : rdRows rows (num3 l p) (num3 (restAt l p) 5) ((restAt l p).getD 8 0).toNat = none) : rdBat l p = none := rdBat_none fun b hb => by
  have h1 := hb.rows
  rw [hr] at h1
  have h2 := hb.recs
  rw [← Option.some.inj h1, h] at h2
  cases h2
theorem rd_first {b : Bat} (hb : BatAt l p b) (hr : rowsOf (restAt l p) = some rows) (hrs : rdRows rows (num3 l p) (num3 (restAt l p) 5) ((restAt l p).getD 8 0).toNat = some (rs, e)) : batOf (restAt l p) rs = b ∧ e = rows.length := by
  have h1 := hb.rows
  rw [hr] at h1
  have h2 := hb.recs
  rw [← Option.some.inj h1, hrs] at h2
  have h3 := congrArg Prod.fst (Option.some.inj h2)
  have h4 := congrArg Prod.snd (Option.some.inj h2)
  have h3 : rs = b.recs := h3
  subst h3
  exact ⟨hb.bat, h4⟩
theorem none_end (hr : rowsOf (restAt l p) = some rows) (hrs : rdRows rows (num3 l p) (num3 (restAt l p) 5) ((restAt l p).getD 8 0).toNat = some (rs, e)) (he : e ≠ rows.length) : rdBat l p = none :=
  rdBat_none fun b hb => he (rd_first hb hr hrs).2
theorem none_valid (hr : rowsOf (restAt l p) = some rows) (hrs : rdRows rows (num3 l p) (num3 (restAt l p) 5) ((restAt l p).getD 8 0).toNat = some (rs, e)) (h : batB (batOf (restAt l p) rs) = false) : rdBat l p = none :=
  rdBat_none fun b hb => by
    have := (rd_first hb hr hrs).1
    rw [this, hb.1] at h
    cases h
/-- The bytes from the place to the end that the head tells. -/
def regAt (l : List Int) (p : Nat) : List Int := (l.drop p).take (7 + (num2 l (p + 3)).toNat)
theorem BatAt.reg {b : Bat} (hb : BatAt l p b) : regAt l p = batBytes b := by
  unfold regAt
  have := hb.next
  rw [show 7 + (num2 l (p + 3)).toNat = (batBytes b).length by omega]
  exact hb.region
theorem none_other (hr : rowsOf (restAt l p) = some rows) (hrs : rdRows rows (num3 l p) (num3 (restAt l p) 5) ((restAt l p).getD 8 0).toNat = some (rs, e)) (h : regAt l p ≠ batBytes (batOf (restAt l p) rs)) : rdBat l p = none :=
  rdBat_none fun b hb => by
    rw [(rd_first hb hr hrs).1] at h
    exact h hb.reg
theorem some_last {b : Bat} (hv : batB b = true) (hpm : p + 7 + (num2 l (p + 3)).toNat ≤ l.length) (hs : regAt l p = batBytes b) : rdBat l p = some b ∧ p + 7 + (num2 l (p + 3)).toNat = p + (batBytes b).length := by
  obtain ⟨h1, h2⟩ := BatAt.of_same (l := l) (p := p) (e := p + 7 + (num2 l (p + 3)).toNat) hv (by omega) hpm (by rw [show p + 7 + (num2 l (p + 3)).toNat - p = 7 + (num2 l (p + 3)).toNat by omega]; exact hs)
  exact ⟨rdBat_some h1, h2⟩
theorem restAt_len (h : p + 7 + (num2 l (p + 3)).toNat ≤ l.length) : (restAt l p).length = (num2 l (p + 3)).toNat := by
  unfold restAt
  rw [List.length_take, List.length_drop]
  omega
theorem regAt_len (h : p + 7 + (num2 l (p + 3)).toNat ≤ l.length) : (regAt l p).length = 7 + (num2 l (p + 3)).toNat := by
  unfold regAt
  rw [List.length_take, List.length_drop]
  omega
theorem restAt_bytes (h : bytesB l = true) : bytesB (restAt l p) = true :=
  List.all_eq_true.2 fun x hx => List.all_eq_true.1 (show l.all byteB = true from h) x (List.mem_of_mem_drop (List.mem_of_mem_take hx))
theorem regAt_bytes (h : bytesB l = true) : bytesB (regAt l p) = true :=
  List.all_eq_true.2 fun x hx => List.all_eq_true.1 (show l.all byteB = true from h) x (List.mem_of_mem_drop (List.mem_of_mem_take hx))
theorem drop_bytes {l : List Int} (h : bytesB l = true) (k : Nat) : bytesB (l.drop k) = true :=
  List.all_eq_true.2 fun x hx => List.all_eq_true.1 (show l.all byteB = true from h) x (List.mem_of_mem_drop hx)
theorem rows_small {rest : List Int} (hb : bytesB rest = true) (hn : rest.length ≤ 65535) (h : rowsOf rest = some rows) : bytesB rows = true ∧ rows.length ≤ 65535 := by
  unfold rowsOf at h
  split at h
  · exact ⟨unp_bytes (drop_bytes hb 11) h, by have := unp_len h; omega⟩
  · injection h with h
    subst h
    exact ⟨drop_bytes hb 11, by rw [List.length_drop]; omega⟩
/-- What is compared with a part of what is told is told whole if it is as long as it says. -/
theorem same_whole {b : Bat} (hv : batB b = true) (hpm : p + 7 + (num2 l (p + 3)).toNat ≤ l.length) (h11 : 11 ≤ (num2 l (p + 3)).toNat) (hs : sameAt (batBytes b) 0 (regAt l p) = true) : regAt l p = batBytes b := by
  unfold sameAt at hs
  rw [List.drop_zero, beq_iff_eq] at hs
  have hl := congrArg List.length hs
  rw [List.length_take, regAt_len hpm] at hl
  have e1 : num2 (regAt l p) 3 = num2 l (p + 3) := by
    unfold regAt
    rw [num2_take (by omega)]
    unfold num2
    simp only [List.getD_eq_getElem?_getD, List.getElem?_drop]
  have e2 : num2 (regAt l p) 3 = num2 (batBytes b) 3 := by
    rw [← hs]
    exact num2_take (by rw [regAt_len hpm]; omega)
  have e3 : num2 (batBytes b) 3 = (b.rest.length : Int) := (batAt_self hv).many
  have e4 : b.rest.length = (num2 l (p + 3)).toNat := by rw [← e1, e2, e3]; rfl
  have hbl := batBytes_len b
  have hrl := rest_len b
  rw [← hs, List.take_of_length_le]
  rw [regAt_len hpm]
  omega
theorem same_not {x y : List Int} (h : x = y) : sameAt y 0 x = true := by
  subst h; unfold sameAt; simp
end
end
end Go.Proofs.Ytomcjjehfocbmaa
