/- Unpacking, in plain words; what was packed is unpacked. -/
import Derived.Test.YtfflhenldegmmaaPq
namespace Go.Proofs.Ytfflhenldegmmaa
set_option linter.unusedVariables false
set_option linter.unusedSimpArgs false
open Go.RowKit

def copyN : Nat → Nat → List Int → List Int
  | 0, _, o => o
  | k + 1, b, o => copyN k b (o ++ [o.getD (o.length - b) 0])
theorem copyN_len (k b : Nat) (o : List Int) : (copyN k b o).length = o.length + k := by
  induction k generalizing o with
  | zero => rfl
  | succ k ih => unfold copyN; rw [ih]; simp; omega
theorem copyN_succ (k b : Nat) (o : List Int) : copyN (k + 1) b o = copyN k b o ++ [(copyN k b o).getD ((copyN k b o).length - b) 0] := by
  induction k generalizing o with
  | zero => rfl
  | succ k ih =>
    conv => lhs; unfold copyN
    rw [ih]
    rfl
def unpGo : Nat → List Int → List Int → Option (List Int)
  | _, [], o => some o
  | 0, _ :: _, _ => none
  | f + 1, n :: t, o =>
    if n < 64 then
      if t.length < n.toNat + 1 then none
      else if 200 < (o ++ t.take (n.toNat + 1)).length then none
      else unpGo f (t.drop (n.toNat + 1)) (o ++ t.take (n.toNat + 1))
    else if n < 128 then
      match t with
      | [] => none
      | b :: t' =>
        if b < 1 ∨ (o.length : Int) < b then none
        else if 200 < (copyN (n - 61).toNat b.toNat o).length then none
        else unpGo f t' (copyN (n - 61).toNat b.toNat o)
    else none
def unp (l o : List Int) : Option (List Int) := unpGo l.length l o
theorem unpGo_fuel (f g : Nat) (l o : List Int) (hf : l.length ≤ f) (hg : l.length ≤ g) : unpGo f l o = unpGo g l o := by
  induction f generalizing g l o with
  | zero =>
    have : l = [] := List.length_eq_zero_iff.1 (by omega)
    subst this
    cases g <;> rfl
  | succ f ih =>
    cases l with
    | nil => cases g <;> rfl
    | cons n t =>
      cases g with
      | zero => simp at hg
      | succ g =>
        have hft : t.length ≤ f := by simpa using hf
        have hgt : t.length ≤ g := by simpa using hg
        unfold unpGo
        rw [ih g (t.drop (n.toNat + 1)) _ (by rw [List.length_drop]; omega) (by rw [List.length_drop]; omega)]
        cases t with
        | nil => rfl
        | cons b t' =>
          dsimp only
          rw [ih g t' _ (by simp at hft; omega) (by simp at hgt; omega)]
theorem unp_nil (o : List Int) : unp [] o = some o := rfl
theorem unp_plain {n : Int} {t o : List Int} (h : n < 64) (ht : n.toNat + 1 ≤ t.length) (ho : o.length + (n.toNat + 1) ≤ 200) : unp (n :: t) o = unp (t.drop (n.toNat + 1)) (o ++ t.take (n.toNat + 1)) := by
  unfold unp
  rw [List.length_cons]
  conv => lhs; unfold unpGo
  rw [if_pos h, if_neg (by omega), if_neg (by rw [List.length_append, List.length_take]; omega)]
  exact unpGo_fuel _ _ _ _ (by rw [List.length_drop]; omega) (Nat.le_refl _)
theorem unp_short {n : Int} {t o : List Int} (h : n < 64) (ht : t.length < n.toNat + 1) : unp (n :: t) o = none := by
  unfold unp
  rw [List.length_cons]
  unfold unpGo
  rw [if_pos h, if_pos ht]
theorem unp_over {n : Int} {t o : List Int} (h : n < 64) (ht : n.toNat + 1 ≤ t.length) (ho : 200 < o.length + (n.toNat + 1)) : unp (n :: t) o = none := by
  unfold unp
  rw [List.length_cons]
  unfold unpGo
  rw [if_pos h, if_neg (by omega), if_pos (by rw [List.length_append, List.length_take]; omega)]
theorem unp_alone {n : Int} {o : List Int} (h : ¬ n < 64) : unp [n] o = none := by
  unfold unp
  rw [List.length_cons]
  unfold unpGo
  rw [if_neg h]
  split <;> rfl
theorem unp_great {n : Int} {t o : List Int} (h : ¬ n < 128) : unp (n :: t) o = none := by
  unfold unp
  rw [List.length_cons]
  unfold unpGo
  rw [if_neg (by omega), if_neg h]
theorem unp_far {n b : Int} {t o : List Int} (h : ¬ n < 64) (hb : b < 1 ∨ (o.length : Int) < b) : unp (n :: b :: t) o = none := by
  unfold unp
  rw [List.length_cons]
  unfold unpGo
  rw [if_neg h]
  split
  · dsimp only
    rw [if_pos hb]
  · rfl
theorem unp_copy {n b : Int} {t o : List Int} (h : ¬ n < 64) (h2 : n < 128) (hb : ¬ (b < 1 ∨ (o.length : Int) < b)) (ho : o.length + (n - 61).toNat ≤ 200) : unp (n :: b :: t) o = unp t (copyN (n - 61).toNat b.toNat o) := by
  unfold unp
  rw [List.length_cons]
  conv => lhs; unfold unpGo
  rw [if_neg h, if_pos h2]
  dsimp only
  rw [if_neg hb, if_neg (by rw [copyN_len]; omega)]
  exact unpGo_fuel _ _ _ _ (by simp) (Nat.le_refl _)
theorem unp_copy_over {n b : Int} {t o : List Int} (h : ¬ n < 64) (h2 : n < 128) (hb : ¬ (b < 1 ∨ (o.length : Int) < b)) (ho : 200 < o.length + (n - 61).toNat) : unp (n :: b :: t) o = none := by
  unfold unp
  rw [List.length_cons]
  unfold unpGo
  rw [if_neg h, if_pos h2]
  dsimp only
  rw [if_neg hb, if_pos (by rw [copyN_len]; omega)]
theorem unpGo_len (f : Nat) (l o x : List Int) (ho : o.length ≤ 200) (h : unpGo f l o = some x) : x.length ≤ 200 := by
  induction f generalizing l o with
  | zero =>
    cases l with
    | nil => simp only [unpGo, Option.some.injEq] at h; rw [← h]; exact ho
    | cons n t => simp [unpGo] at h
  | succ f ih =>
    cases l with
    | nil => simp only [unpGo, Option.some.injEq] at h; rw [← h]; exact ho
    | cons n t =>
      unfold unpGo at h
      split at h
      · split at h
        · cases h
        · split at h
          · cases h
          · exact ih _ _ (by omega) h
      · split at h
        · cases t with
          | nil => cases h
          | cons b t' =>
            dsimp only at h
            split at h
            · cases h
            · split at h
              · cases h
              · exact ih _ _ (by omega) h
        · cases h
theorem unp_len {l x : List Int} (h : unp l [] = some x) : x.length ≤ 200 := unpGo_len _ _ _ _ (by simp) h
theorem copyN_bytes (k b : Nat) (o : List Int) (ho : bytesB o = true) (hb1 : 1 ≤ b) (hb : b ≤ o.length) : bytesB (copyN k b o) = true := by
  induction k generalizing o with
  | zero => exact ho
  | succ k ih =>
    unfold copyN
    refine ih _ (bytesB_append ho ?_) (by simp; omega)
    have hlt : o.length - b < o.length := by omega
    have hm : o.getD (o.length - b) 0 = o[o.length - b] := by simp [List.getD_eq_getElem?_getD, hlt]
    rw [hm]
    have := List.all_eq_true.1 (show o.all byteB = true from ho) _ (List.getElem_mem hlt)
    simp [bytesB, this]
theorem bytesB_sub {l m : List Int} (h : bytesB l = true) (hm : ∀ x ∈ m, x ∈ l) : bytesB m = true :=
  List.all_eq_true.2 fun x hx => List.all_eq_true.1 (show l.all byteB = true from h) x (hm x hx)
theorem unpGo_bytes (f : Nat) (l o x : List Int) (hl : bytesB l = true) (ho : bytesB o = true) (h : unpGo f l o = some x) : bytesB x = true := by
  induction f generalizing l o with
  | zero =>
    cases l with
    | nil => simp only [unpGo, Option.some.injEq] at h; rw [← h]; exact ho
    | cons n t => simp [unpGo] at h
  | succ f ih =>
    cases l with
    | nil => simp only [unpGo, Option.some.injEq] at h; rw [← h]; exact ho
    | cons n t =>
      have ht := bytesB_sub hl (m := t) (fun x hx => by simp [hx])
      unfold unpGo at h
      split at h
      · split at h
        · cases h
        · split at h
          · cases h
          · exact ih _ _ (bytesB_sub ht fun x hx => List.mem_of_mem_drop hx) (bytesB_append ho (bytesB_sub ht fun x hx => List.mem_of_mem_take hx)) h
      · split at h
        · cases t with
          | nil => cases h
          | cons b t' =>
            dsimp only at h
            split at h
            · cases h
            · rename_i hb
              split at h
              · cases h
              · exact ih _ _ (bytesB_sub ht fun x hx => by simp [hx]) (copyN_bytes _ _ _ ho (by omega) (by omega)) h
        · cases h
theorem unp_bytes {l x : List Int} (hl : bytesB l = true) (h : unp l [] = some x) : bytesB x = true := unpGo_bytes _ _ _ _ hl rfl h

/-! What was packed. -/
theorem unp_plainB (f : Nat) (p s o : List Int) (hf : p.length ≤ f) (h : o.length + p.length ≤ 200) : unp (plainB p ++ s) o = unp s (o ++ p) := by
  induction f generalizing p o with
  | zero =>
    have : p = [] := List.length_eq_zero_iff.1 (by omega)
    subst this
    simp [plainB_nil]
  | succ f ih =>
    by_cases hp : p = []
    · subst hp
      simp [plainB_nil]
    · have hl : 0 < p.length := List.length_pos_iff.2 hp
      rw [plainB_step hp]
      have e : (((min 64 p.length : Nat) : Int) - 1).toNat + 1 = min 64 p.length := by omega
      have el : (List.take 64 p).length = min 64 p.length := List.length_take
      rw [List.cons_append, List.append_assoc, unp_plain (by omega) (by rw [e, List.length_append, el]; omega) (by rw [e]; omega), e]
      rw [← el, List.take_left, List.drop_left, ih (p.drop 64) _ (by rw [List.length_drop]; omega) (by rw [List.length_append, el, List.length_drop]; omega)]
      rw [List.append_assoc, List.take_append_drop]
def GoodB (l : List Int) (i : Nat) (s : Nat × Nat) : Prop := 1 ≤ s.1 → s.1 = longN l i s.2 ∧ 1 ≤ s.2
theorem bestFrom_good (l : List Int) (i : Nat) (q : Nat → Bool) (c b : Nat) (s : Nat × Nat) (hs : GoodB l i s) (hb : 1 ≤ b) : GoodB l i (bestFrom l i q c b s) := by
  induction c generalizing b s with
  | zero => exact hs
  | succ c ih =>
    unfold bestFrom
    refine ih (b + 1) _ ?_ (by omega)
    cases q b
    · exact hs
    · simp only [if_true]
      unfold updB
      split
      · exact fun _ => ⟨rfl, hb⟩
      · exact hs
theorem bestN_good {l : List Int} {i : Nat} : GoodB l i (bestN l i) := bestFrom_good l i _ _ 1 (0, 0) (fun h => absurd h (by decide)) (Nat.le_refl _)
theorem copyN_take {l : List Int} {i b : Nat} (k : Nat) (hb1 : 1 ≤ b) (hb : b ≤ i) (hk : i + k ≤ l.length) (hs : ∀ j, j < k → l.getD (i + j) 0 = l.getD (i + j - b) 0) : copyN k b (l.take i) = l.take (i + k) := by
  induction k with
  | zero => rfl
  | succ k ih =>
    rw [copyN_succ, ih (by omega) (fun j hj => hs j (by omega))]
    have hlt : i + k < l.length := by omega
    have hl : (l.take (i + k)).length = i + k := by rw [List.length_take]; omega
    rw [hl, show i + (k + 1) = i + k + 1 by omega, List.take_succ_eq_append_getElem hlt]
    congr 2
    have h1 := hs k (by omega)
    rw [List.getD_eq_getElem?_getD, List.getElem?_eq_getElem hlt] at h1
    simp only [Option.getD_some] at h1
    rw [h1, List.getD_eq_getElem?_getD, List.getD_eq_getElem?_getD, List.getElem?_take_of_lt (by omega)]
theorem unp_packR {l : List Int} (h200 : l.length ≤ 200) (f i : Nat) (p : List Int) (hi : i ≤ l.length) (hf : l.length ≤ i + f) (o : List Int) (hp : o ++ p = l.take i) : unp (packR l f i p) o = some l := by
  induction f generalizing i p o with
  | zero =>
    have hl := congrArg List.length hp
    rw [List.length_append, List.length_take] at hl
    have := unp_plainB p.length p [] o (Nat.le_refl _) (by omega)
    rw [List.append_nil] at this
    simp only [packR]
    rw [this, hp, unp_nil, List.take_of_length_le (by omega)]
  | succ f ih =>
    have hl := congrArg List.length hp
    rw [List.length_append, List.length_take] at hl
    by_cases hlt : i < l.length
    · by_cases hb : (bestN l i).1 < 3
      · rw [packR_plain hlt hb]
        refine ih (i + 1) _ (by omega) (by omega) o ?_
        rw [← List.append_assoc, hp, List.take_succ_eq_append_getElem hlt]
        simp [List.getD_eq_getElem?_getD, hlt]
      · obtain ⟨h1, h2, h3⟩ := bestN_end (l := l) (i := i) hi
        have h4 := h3 (by omega)
        obtain ⟨h5, h6⟩ := bestN_good (l := l) (i := i) (by omega)
        rw [packR_match hlt hb]
        generalize (bestN l i).1 = n at *
        generalize (bestN l i).2 = b at *
        rw [unp_plainB p.length p _ o (Nat.le_refl _) (by omega), hp]
        have hlen : (l.take i).length = i := by rw [List.length_take]; omega
        have en : ((n : Int) + 61 - 61).toNat = n := by omega
        have eb : ((b : Int)).toNat = b := by omega
        simp only [List.cons_append, List.nil_append]
        rw [unp_copy (by omega) (by omega) (by rw [hlen]; omega) (by rw [hlen, en]; omega), en, eb]
        rw [copyN_take n (by omega) (by omega) h1 (fun j hj => by
          have := longGo_same (l := l) (i := i) (b := b) (k := 66) (n := 0) j (Nat.zero_le _) (by rw [h5] at hj; exact hj)
          exact this)]
        exact ih (i + n) [] h1 (by omega) _ (by simp)
    · rw [packR_end (by omega)]
      have := unp_plainB p.length p [] o (Nat.le_refl _) (by omega)
      rw [List.append_nil] at this
      rw [this, hp, unp_nil, List.take_of_length_le (by omega)]
theorem unp_pack {l : List Int} (h : l.length ≤ 200) : unp (packOf l) [] = some l := unp_packR h _ _ _ (Nat.zero_le _) (by omega) _ (by simp)
theorem best_pos {l : List Int} {i : Nat} (h : i ≤ l.length) (hb : ¬ (bestN l i).1 < 3) : 3 ≤ (bestN l i).1 ∧ (bestN l i).1 ≤ 66 ∧ i + (bestN l i).1 ≤ l.length ∧ 1 ≤ (bestN l i).2 ∧ (bestN l i).2 ≤ 200 := by
  obtain ⟨h1, h2, h3⟩ := bestN_end h
  have := h3 (by omega)
  omega
end Go.Proofs.Ytfflhenldegmmaa
