/- Packing, in plain words. -/
import Derived.Test.YtfflhenldegmmaaPl
namespace Go.Proofs.Ytfflhenldegmmaa
set_option linter.unusedVariables false
set_option linter.unusedSimpArgs false
open Go.RowKit

/-- How many bytes at i are as those b back; at most so many more. -/
def longGo (l : List Int) (i b : Nat) : Nat → Nat → Nat
  | 0, n => n
  | k + 1, n => if i + n < l.length ∧ l.getD (i + n) 0 = l.getD (i + n - b) 0 then longGo l i b k (n + 1) else n
def longN (l : List Int) (i b : Nat) : Nat := longGo l i b 66 0
theorem longGo_stop {l : List Int} {i b k n : Nat} (h : ¬ (i + n < l.length ∧ l.getD (i + n) 0 = l.getD (i + n - b) 0)) : longGo l i b k n = n := by
  cases k with
  | zero => rfl
  | succ k => unfold longGo; rw [if_neg h]
theorem longGo_more {l : List Int} {i b k n : Nat} (h : i + n < l.length ∧ l.getD (i + n) 0 = l.getD (i + n - b) 0) : longGo l i b (k + 1) n = longGo l i b k (n + 1) := by
  conv => lhs; unfold longGo
  rw [if_pos h]
theorem longGo_le (l : List Int) (i b k n : Nat) : n ≤ longGo l i b k n ∧ longGo l i b k n ≤ n + k := by
  induction k generalizing n with
  | zero => exact ⟨Nat.le_refl _, Nat.le_refl _⟩
  | succ k ih =>
    unfold longGo
    split
    · have := ih (n + 1)
      omega
    · omega
theorem longGo_end (l : List Int) (i b k n : Nat) (h : i + n ≤ l.length) : i + longGo l i b k n ≤ l.length := by
  induction k generalizing n with
  | zero => exact h
  | succ k ih =>
    unfold longGo
    split
    · rename_i hc
      exact ih (n + 1) (by omega)
    · exact h
theorem longN_le (l : List Int) (i b : Nat) : longN l i b ≤ 66 := by have := (longGo_le l i b 66 0).2; unfold longN; omega
theorem longN_end {l : List Int} {i b : Nat} (h : i ≤ l.length) : i + longN l i b ≤ l.length := longGo_end l i b 66 0 h
theorem longGo_same {l : List Int} {i b k n : Nat} : ∀ j, n ≤ j → j < longGo l i b k n → l.getD (i + j) 0 = l.getD (i + j - b) 0 := by
  induction k generalizing n with
  | zero => intro j h1 h2; simp only [longGo] at h2; omega
  | succ k ih =>
    intro j h1 h2
    unfold longGo at h2
    split at h2
    · rename_i hc
      by_cases hj : j = n
      · rw [hj]; exact hc.2
      · exact ih j (by omega) h2
    · omega

/-- Three bytes. -/
def key3 (l : List Int) (p : Nat) : Int × Int × Int := (l.getD p 0, l.getD (p + 1) 0, l.getD (p + 2) 0)
theorem key3_long {l : List Int} {i b : Nat} (h : i + 3 ≤ l.length) (hb : b ≤ i) : 3 ≤ longN l i b ↔ key3 l (i - b) = key3 l i := by
  have e1 : i + 1 - b = i - b + 1 := by omega
  have e2 : i + 2 - b = i - b + 2 := by omega
  unfold longN key3
  by_cases h0 : l.getD i 0 = l.getD (i - b) 0
  · rw [longGo_more ⟨by omega, by simpa using h0⟩]
    by_cases h1 : l.getD (i + 1) 0 = l.getD (i - b + 1) 0
    · rw [longGo_more ⟨by omega, by rw [show i + (0 + 1) = i + 1 from rfl, e1]; exact h1⟩]
      by_cases h2 : l.getD (i + 2) 0 = l.getD (i - b + 2) 0
      · rw [longGo_more ⟨by omega, by rw [show i + (0 + 1 + 1) = i + 2 from rfl, e2]; exact h2⟩]
        have := (longGo_le l i b 63 (0 + 1 + 1 + 1)).1
        constructor
        · intro _; rw [h0, h1, h2]
        · intro _; omega
      · rw [longGo_stop (fun hh => h2 (by have := hh.2; rw [show i + (0 + 1 + 1) = i + 2 from rfl, e2] at this; exact this))]
        constructor
        · intro h; omega
        · intro h
          exact absurd (Prod.ext_iff.1 (Prod.ext_iff.1 h).2).2.symm h2
    · rw [longGo_stop (fun hh => h1 (by have := hh.2; rw [show i + (0 + 1) = i + 1 from rfl, e1] at this; exact this))]
      constructor
      · intro h; omega
      · intro h
        exact absurd (Prod.ext_iff.1 (Prod.ext_iff.1 h).2).1.symm h1
  · rw [longGo_stop (fun hh => h0 (by simpa using hh.2))]
    constructor
    · intro h; omega
    · intro h
      exact absurd (Prod.ext_iff.1 h).1.symm h0

def updB (l : List Int) (i b : Nat) (s : Nat × Nat) : Nat × Nat := if s.1 < longN l i b then (longN l i b, b) else s
/-- The best of the next c places back, from b on. -/
def bestFrom (l : List Int) (i : Nat) (q : Nat → Bool) : Nat → Nat → Nat × Nat → Nat × Nat
  | 0, _, s => s
  | c + 1, b, s => bestFrom l i q c (b + 1) (if q b then updB l i b s else s)
def bestN (l : List Int) (i : Nat) : Nat × Nat := bestFrom l i (fun _ => true) (min i 200) 1 (0, 0)
theorem bestFrom_end (l : List Int) (i : Nat) (q : Nat → Bool) (h : i ≤ l.length) (c b : Nat) (s : Nat × Nat) (hs : i + s.1 ≤ l.length ∧ s.1 ≤ 66 ∧ (1 ≤ s.1 → 1 ≤ s.2 ∧ s.2 < b)) (hb : 1 ≤ b) :
    i + (bestFrom l i q c b s).1 ≤ l.length ∧ (bestFrom l i q c b s).1 ≤ 66 ∧ (1 ≤ (bestFrom l i q c b s).1 → 1 ≤ (bestFrom l i q c b s).2 ∧ (bestFrom l i q c b s).2 < b + c) := by
  induction c generalizing b s with
  | zero => exact hs
  | succ c ih =>
    unfold bestFrom
    have h1 := ih (b + 1) (if q b then updB l i b s else s) (by
      cases q b
      · simp only [Bool.false_eq_true, if_false]
        exact ⟨hs.1, hs.2.1, fun h => by have := hs.2.2 h; omega⟩
      · simp only [if_true]
        unfold updB
        split
        · exact ⟨longN_end h, longN_le _ _ _, fun _ => by show 1 ≤ b ∧ b < b + 1; omega⟩
        · exact ⟨hs.1, hs.2.1, fun h => by have := hs.2.2 h; omega⟩) (by omega)
    exact ⟨h1.1, h1.2.1, fun h => by have := h1.2.2 h; omega⟩
theorem bestN_end {l : List Int} {i : Nat} (h : i ≤ l.length) : i + (bestN l i).1 ≤ l.length ∧ (bestN l i).1 ≤ 66 ∧ (1 ≤ (bestN l i).1 → 1 ≤ (bestN l i).2 ∧ (bestN l i).2 ≤ 200 ∧ (bestN l i).2 ≤ i) := by
  have h1 := bestFrom_end l i (fun _ => true) h (min i 200) 1 (0, 0) ⟨by simpa using h, by decide, fun h => absurd h (by decide)⟩ (by decide)
  refine ⟨h1.1, h1.2.1, fun hh => ?_⟩
  have := h1.2.2 hh
  unfold bestN
  omega

/-- The program's: the best of places, nearest first, till one is too far. -/
def matchGo (l : List Int) (i : Nat) : List Nat → Nat × Nat → Nat × Nat
  | [], s => s
  | p :: t, s => if 200 < i - p then s else matchGo l i t (updB l i (i - p) s)
def matchN (l : List Int) (i : Nat) (ps : List Nat) : Nat × Nat := matchGo l i ps.reverse (0, 0)
/-- The places ahead of i at which three bytes are as told. -/
def seenOf (l : List Int) (i : Nat) (k : Int × Int × Int) : List Nat := (List.range i).filter (fun p => decide (p + 3 ≤ l.length) && (key3 l p == k))
theorem seenOf_zero (l : List Int) (k : Int × Int × Int) : seenOf l 0 k = [] := rfl
theorem seenOf_succ (l : List Int) (i : Nat) (k : Int × Int × Int) : seenOf l (i + 1) k = seenOf l i k ++ if i + 3 ≤ l.length ∧ key3 l i = k then [i] else [] := by
  unfold seenOf
  rw [List.range_succ, List.filter_append]
  congr 1
  by_cases h1 : i + 3 ≤ l.length <;> by_cases h2 : key3 l i = k <;> simp [h1, h2]
theorem seenOf_lt {l : List Int} {i p : Nat} {k : Int × Int × Int} (h : p ∈ seenOf l i k) : p < i := by
  unfold seenOf at h
  exact List.mem_range.1 (List.mem_filter.1 h).1
theorem seenOf_len (l : List Int) (i : Nat) (k : Int × Int × Int) : (seenOf l i k).length ≤ i := by
  unfold seenOf
  exact Nat.le_trans (List.length_filter_le _ _) (by simp)
theorem match_from (l : List Int) (i : Nat) (q : Nat → Bool) (k : Nat) (hk : k ≤ i) (s : Nat × Nat) :
    matchGo l i ((List.range k).filter (fun p => q (i - p))).reverse s = bestFrom l i q (min k (200 - (i - k))) (i - k + 1) s := by
  induction k generalizing s with
  | zero => simp [matchGo, bestFrom]
  | succ k ih =>
    rw [List.range_succ, List.filter_append, List.reverse_append]
    have e1 : i - (k + 1) + 1 = i - k := by omega
    rw [e1]
    by_cases hf : 200 < i - k
    · have hz : min (k + 1) (200 - (i - (k + 1))) = 0 := by omega
      rw [hz]
      cases hq : q (i - k)
      · simp only [List.filter_cons, hq, List.filter_nil, Bool.false_eq_true, if_false, List.reverse_nil, List.nil_append]
        rw [ih (by omega)]
        have hz2 : min k (200 - (i - k)) = 0 := by omega
        rw [hz2]
        rfl
      · simp only [List.filter_cons, hq, List.filter_nil, if_true, List.reverse_cons, List.reverse_nil, List.nil_append, List.cons_append]
        unfold matchGo
        rw [if_pos hf]
        rfl
    · have hz : min (k + 1) (200 - (i - (k + 1))) = min k (200 - (i - k)) + 1 := by omega
      rw [hz]
      conv => rhs; unfold bestFrom
      cases hq : q (i - k)
      · simp only [List.filter_cons, hq, List.filter_nil, Bool.false_eq_true, if_false, List.reverse_nil, List.nil_append]
        exact ih (by omega) s
      · simp only [List.filter_cons, hq, List.filter_nil, if_true, List.reverse_cons, List.reverse_nil, List.nil_append, List.cons_append]
        conv => lhs; unfold matchGo
        rw [if_neg hf]
        exact ih (by omega) _
/-- The two bests: either both are short, or they are the same. -/
def SameB (s s' : Nat × Nat) : Prop := (s'.1 = 0 ∧ s.1 < 3) ∨ (s = s' ∧ 3 ≤ s.1)
theorem same_from {l : List Int} {i : Nat} {q : Nat → Bool} (c b : Nat) (hq : ∀ x, b ≤ x → x < b + c → (q x = true ↔ 3 ≤ longN l i x)) (s s' : Nat × Nat) (h : SameB s s') :
    SameB (bestFrom l i (fun _ => true) c b s) (bestFrom l i q c b s') := by
  induction c generalizing b s s' with
  | zero => exact h
  | succ c ih =>
    unfold bestFrom
    refine ih (b + 1) (fun x h1 h2 => hq x (by omega) (by omega)) _ _ ?_
    have hb := hq b (Nat.le_refl _) (by omega)
    simp only [if_true]
    cases hqb : q b
    · have hl : longN l i b < 3 := by
        rcases Nat.lt_or_ge (longN l i b) 3 with h | h
        · exact h
        · rw [hb.2 h] at hqb; cases hqb
      simp only [Bool.false_eq_true, if_false]
      rcases h with ⟨h1, h2⟩ | ⟨rfl, h2⟩
      · left
        refine ⟨h1, ?_⟩
        unfold updB
        split
        · exact hl
        · exact h2
      · right
        unfold updB
        rw [if_neg (by omega)]
        exact ⟨rfl, h2⟩
    · have hl := hb.1 hqb
      simp only [if_true]
      rcases h with ⟨h1, h2⟩ | ⟨rfl, h2⟩
      · right
        unfold updB
        rw [if_pos (by omega), if_pos (by omega)]
        exact ⟨rfl, hl⟩
      · right
        refine ⟨rfl, ?_⟩
        unfold updB
        split
        · exact hl
        · exact h2
theorem match_best {l : List Int} {i : Nat} (h : i + 3 ≤ l.length) : SameB (bestN l i) (matchN l i (seenOf l i (key3 l i))) := by
  have e : seenOf l i (key3 l i) = (List.range i).filter (fun p => (fun b => decide (3 ≤ longN l i b)) (i - p)) := by
    unfold seenOf
    refine List.filter_congr fun p hp => ?_
    have hp := List.mem_range.1 hp
    have hk := key3_long (b := i - p) h (by omega)
    rw [show i - (i - p) = p by omega] at hk
    rw [Bool.eq_iff_iff]
    simp only [Bool.and_eq_true, decide_eq_true_eq, beq_iff_eq]
    constructor
    · intro h'; exact hk.2 h'.2
    · intro h'; exact ⟨by omega, hk.1 h'⟩
  unfold matchN
  rw [e, match_from l i (fun b => decide (3 ≤ longN l i b)) i (Nat.le_refl _)]
  unfold bestN
  rw [show min i (200 - (i - i)) = min i 200 by omega, show i - i + 1 = 1 by omega]
  exact same_from (min i 200) 1 (fun x _ _ => by simp) (0, 0) (0, 0) (Or.inl ⟨rfl, by decide⟩)
theorem best_short {l : List Int} {i : Nat} (h : i ≤ l.length) (h3 : ¬ i + 3 ≤ l.length) : (bestN l i).1 < 3 := by
  have := (bestN_end h).1
  omega

/-- Bytes that are told as they are. -/
def plainGo : Nat → List Int → List Int
  | 0, _ => []
  | f + 1, p => if p = [] then [] else (((min 64 p.length : Nat) : Int) - 1) :: (p.take 64 ++ plainGo f (p.drop 64))
def plainB (p : List Int) : List Int := plainGo p.length p
theorem plainGo_fuel (f g : Nat) (p : List Int) (hf : p.length ≤ f) (hg : p.length ≤ g) : plainGo f p = plainGo g p := by
  induction f generalizing g p with
  | zero =>
    have : p = [] := List.length_eq_zero_iff.1 (by omega)
    subst this
    cases g with
    | zero => rfl
    | succ g => simp [plainGo]
  | succ f ih =>
    cases g with
    | zero =>
      have : p = [] := List.length_eq_zero_iff.1 (by omega)
      subst this
      simp [plainGo]
    | succ g =>
      unfold plainGo
      by_cases hp : p = []
      · rw [if_pos hp, if_pos hp]
      · have hl : 0 < p.length := List.length_pos_iff.2 hp
        rw [if_neg hp, if_neg hp, ih g (p.drop 64) (by rw [List.length_drop]; omega) (by rw [List.length_drop]; omega)]
theorem plainB_nil : plainB [] = [] := rfl
theorem plainB_step {p : List Int} (h : p ≠ []) : plainB p = (((min 64 p.length : Nat) : Int) - 1) :: (p.take 64 ++ plainB (p.drop 64)) := by
  have hl : 0 < p.length := List.length_pos_iff.2 h
  unfold plainB
  obtain ⟨f, hf⟩ : ∃ f, p.length = f + 1 := ⟨p.length - 1, by omega⟩
  rw [hf]
  conv => lhs; unfold plainGo
  rw [if_neg h, hf, plainGo_fuel f (p.drop 64).length _ (by rw [List.length_drop]; omega) (Nat.le_refl _)]
theorem plainGo_len (f : Nat) (p : List Int) (hf : p.length ≤ f) : (plainGo f p).length ≤ 2 * p.length := by
  induction f generalizing p with
  | zero => simp [plainGo]
  | succ f ih =>
    unfold plainGo
    split
    · simp
    · rename_i h
      have hl : 0 < p.length := List.length_pos_iff.2 h
      have := ih (p.drop 64) (by rw [List.length_drop]; omega)
      rw [List.length_drop] at this
      rw [List.length_cons, List.length_append, List.length_take]
      omega
theorem plainB_len (p : List Int) : (plainB p).length ≤ 2 * p.length := plainGo_len _ _ (Nat.le_refl _)
theorem plainGo_bytes (f : Nat) (p : List Int) (hb : bytesB p = true) : bytesB (plainGo f p) = true := by
  induction f generalizing p with
  | zero => rfl
  | succ f ih =>
    unfold plainGo
    split
    · rfl
    · rename_i h
      have hl : 0 < p.length := List.length_pos_iff.2 h
      have hall := List.all_eq_true.1 (show p.all byteB = true from hb)
      have hd := ih (p.drop 64) (List.all_eq_true.2 fun x hx => hall x (List.mem_of_mem_drop hx))
      refine List.all_eq_true.2 fun x hx => ?_
      rcases List.mem_cons.1 hx with rfl | hx
      · simp [byteB]; omega
      · rcases List.mem_append.1 hx with hx | hx
        · exact hall x (List.mem_of_mem_take hx)
        · exact List.all_eq_true.1 hd x hx
theorem plainB_bytes {p : List Int} (hb : bytesB p = true) : bytesB (plainB p) = true := plainGo_bytes _ _ hb

/-- The packed form of what is behind i; p: what is not told yet. -/
def packR (l : List Int) : Nat → Nat → List Int → List Int
  | 0, _, p => plainB p
  | f + 1, i, p => if i < l.length then (if (bestN l i).1 < 3 then packR l f (i + 1) (p ++ [l.getD i 0]) else plainB p ++ ([((bestN l i).1 : Int) + 61, ((bestN l i).2 : Int)] ++ packR l f (i + (bestN l i).1) [])) else plainB p
def packOf (l : List Int) : List Int := packR l l.length 0 []
theorem packR_end {l : List Int} {f i : Nat} {p : List Int} (h : l.length ≤ i) : packR l f i p = plainB p := by
  cases f with
  | zero => rfl
  | succ f => unfold packR; rw [if_neg (by omega)]
theorem packR_plain {l : List Int} {f i : Nat} {p : List Int} (h : i < l.length) (hb : (bestN l i).1 < 3) : packR l (f + 1) i p = packR l f (i + 1) (p ++ [l.getD i 0]) := by
  conv => lhs; unfold packR
  rw [if_pos h, if_pos hb]
theorem packR_match {l : List Int} {f i : Nat} {p : List Int} (h : i < l.length) (hb : ¬ (bestN l i).1 < 3) : packR l (f + 1) i p = plainB p ++ ([((bestN l i).1 : Int) + 61, ((bestN l i).2 : Int)] ++ packR l f (i + (bestN l i).1) []) := by
  conv => lhs; unfold packR
  rw [if_pos h, if_neg hb]
theorem packR_len (l : List Int) (f i : Nat) (p : List Int) (hi : i ≤ l.length) : (packR l f i p).length ≤ 2 * p.length + 2 * (l.length - i) := by
  induction f generalizing i p with
  | zero =>
    have := plainB_len p
    simp only [packR]
    omega
  | succ f ih =>
    unfold packR
    split
    · split
      · rename_i h _
        have := ih (i + 1) (p ++ [l.getD i 0]) (by omega)
        rw [List.length_append, List.length_singleton] at this
        omega
      · rename_i h hb
        have h1 := (bestN_end hi).1
        have := ih (i + (bestN l i).1) [] h1
        have := plainB_len p
        simp only [List.length_append, List.length_cons, List.length_nil] at *
        omega
    · have := plainB_len p
      omega
theorem packOf_len (l : List Int) : (packOf l).length ≤ 2 * l.length := by
  have := packR_len l l.length 0 [] (Nat.zero_le _)
  simp at this
  unfold packOf
  exact this
theorem bytesB_append {a b : List Int} (ha : bytesB a = true) (hb : bytesB b = true) : bytesB (a ++ b) = true := by
  refine List.all_eq_true.2 fun x hx => ?_
  rcases List.mem_append.1 hx with h | h
  · exact List.all_eq_true.1 (show a.all byteB = true from ha) x h
  · exact List.all_eq_true.1 (show b.all byteB = true from hb) x h
theorem packR_bytes (l : List Int) (hl : bytesB l = true) (f i : Nat) (p : List Int) (hi : i ≤ l.length) (hp : bytesB p = true) : bytesB (packR l f i p) = true := by
  induction f generalizing i p with
  | zero => exact plainB_bytes hp
  | succ f ih =>
    unfold packR
    split
    · split
      · rename_i h _
        refine ih (i + 1) _ (by omega) (bytesB_append hp ?_)
        have hm : l.getD i 0 = l[i] := by simp [List.getD_eq_getElem?_getD, h]
        rw [hm]
        have := List.all_eq_true.1 (show l.all byteB = true from hl) l[i] (List.getElem_mem h)
        simp [bytesB, this]
      · rename_i h hb
        obtain ⟨h1, h2, h3⟩ := bestN_end hi
        have h4 := h3 (by omega)
        refine bytesB_append (plainB_bytes hp) (bytesB_append ?_ (ih _ [] h1 rfl))
        simp [bytesB, byteB]
        omega
    · exact plainB_bytes hp
theorem packOf_bytes {l : List Int} (hl : bytesB l = true) : bytesB (packOf l) = true := packR_bytes l hl _ _ _ (Nat.zero_le _) rfl
end Go.Proofs.Ytfflhenldegmmaa
