/- Packing, in plain words. Plain laws of variable numbers and of records as bytes. No program in sight. Unpacking, in plain words; what was packed is unpacked. Plain laws of entries: parts, the last one up to an offset. No program in sight. Plain laws of segments: order, parts, times, reading. No program in sight. -/
import Derived.Test.YtgnjnpfeofhniaaDoorKb
namespace Go.Proofs.YtgnjnpfeofhniaaDoor
set_option linter.unusedVariables false
set_option linter.unusedSimpArgs false
section
open Go.RowKit

/-- How many bytes at i are as those b back; at most so many more. -/
def longGo (l : List Int) (i b : Nat) : Nat → Nat → Nat
  | 0, n => n
  | k + 1, n => if i + n < l.length ∧ l.getD (i + n) 0 = l.getD (i + n - b) 0 then longGo l i b k (n + 1) else n
def longN (l : List Int) (i b : Nat) : Nat := longGo l i b 66 0
theorem longGo_stop {l : List Int} {i b k n : Nat} (h : ¬ (i + n < l.length ∧ l.getD (i + n) 0 = l.getD (i + n - b) 0)) : longGo l i b k n = n := by
  cases k with
  | zero => rfl
  | succ k => unfold longGo; rw [if_neg h]
theorem longGo_more {l : List Int} {i b k n : Nat} (h : i + n < l.length ∧ l.getD (i + n) 0 = l.getD (i + n - b) 0) : longGo l i b (k + 1) n = longGo l i b k (n + 1) := by
  conv => lhs; unfold longGo
  rw [if_pos h]
theorem longGo_le (l : List Int) (i b k n : Nat) : n ≤ longGo l i b k n ∧ longGo l i b k n ≤ n + k := by
  induction k generalizing n with
  | zero => exact ⟨Nat.le_refl _, Nat.le_refl _⟩
  | succ k ih =>
    unfold longGo
    split
    · have := ih (n + 1)
      omega
    · omega
theorem longGo_end (l : List Int) (i b k n : Nat) (h : i + n ≤ l.length) : i + longGo l i b k n ≤ l.length := by
  induction k generalizing n with
  | zero => exact h
  | succ k ih =>
    unfold longGo
    split
    · rename_i hc
      exact ih (n + 1) (by omega)
    · exact h
theorem longN_le (l : List Int) (i b : Nat) : longN l i b ≤ 66 := by have := (longGo_le l i b 66 0).2; unfold longN; omega
theorem longN_end {l : List Int} {i b : Nat} (h : i ≤ l.length) : i + longN l i b ≤ l.length := longGo_end l i b 66 0 h
theorem longGo_same {l : List Int} {i b k n : Nat} : ∀ j, n ≤ j → j < longGo l i b k n → l.getD (i + j) 0 = l.getD (i + j - b) 0 := by
  induction k generalizing n with
  | zero => intro j h1 h2; simp only [longGo] at h2; omega
  | succ k ih =>
    intro j h1 h2
    unfold longGo at h2
    split at h2
    · rename_i hc
      by_cases hj : j = n
      · rw [hj]; exact hc.2
      · exact ih j (by omega) h2
    · omega

/-- Three bytes. -/
def key3 (l : List Int) (p : Nat) : Int × Int × Int := (l.getD p 0, l.getD (p + 1) 0, l.getD (p + 2) 0)
theorem key3_long {l : List Int} {i b : Nat} (h : i + 3 ≤ l.length) (hb : b ≤ i) : 3 ≤ longN l i b ↔ key3 l (i - b) = key3 l i := by
  have e1 : i + 1 - b = i - b + 1 := by omega
  have e2 : i + 2 - b = i - b + 2 := by omega
  unfold longN key3
  by_cases h0 : l.getD i 0 = l.getD (i - b) 0
  · rw [longGo_more ⟨by omega, by simpa using h0⟩]
    by_cases h1 : l.getD (i + 1) 0 = l.getD (i - b + 1) 0
    · rw [longGo_more ⟨by omega, by rw [show i + (0 + 1) = i + 1 from rfl, e1]; exact h1⟩]
      by_cases h2 : l.getD (i + 2) 0 = l.getD (i - b + 2) 0
      · rw [longGo_more ⟨by omega, by rw [show i + (0 + 1 + 1) = i + 2 from rfl, e2]; exact h2⟩]
        have := (longGo_le l i b 63 (0 + 1 + 1 + 1)).1
        constructor
        · intro _; rw [h0, h1, h2]
        · intro _; omega
      · rw [longGo_stop (fun hh => h2 (by have := hh.2; rw [show i + (0 + 1 + 1) = i + 2 from rfl, e2] at this; exact this))]
        constructor
        · intro h; omega
        · intro h
          exact absurd (Prod.ext_iff.1 (Prod.ext_iff.1 h).2).2.symm h2
    · rw [longGo_stop (fun hh => h1 (by have := hh.2; rw [show i + (0 + 1) = i + 1 from rfl, e1] at this; exact this))]
      constructor
      · intro h; omega
      · intro h
        exact absurd (Prod.ext_iff.1 (Prod.ext_iff.1 h).2).1.symm h1
  · rw [longGo_stop (fun hh => h0 (by simpa using hh.2))]
    constructor
    · intro h; omega
    · intro h
      exact absurd (Prod.ext_iff.1 h).1.symm h0

def updB (l : List Int) (i b : Nat) (s : Nat × Nat) : Nat × Nat := if s.1 < longN l i b then (longN l i b, b) else s
/-- The best of the next c places back, from b on. -/
def bestFrom (l : List Int) (i : Nat) (q : Nat → Bool) : Nat → Nat → Nat × Nat → Nat × Nat
  | 0, _, s => s
  | c + 1, b, s => bestFrom l i q c (b + 1) (if q b then updB l i b s else s)
def bestN (l : List Int) (i : Nat) : Nat × Nat := bestFrom l i (fun _ => true) (min i 200) 1 (0, 0)
theorem bestFrom_end (l : List Int) (i : Nat) (q : Nat → Bool) (h : i ≤ l.length) (c b : Nat) (s : Nat × Nat) (hs : i + s.1 ≤ l.length ∧ s.1 ≤ 66 ∧ (1 ≤ s.1 → 1 ≤ s.2 ∧ s.2 < b)) (hb : 1 ≤ b) :
    i + (bestFrom l i q c b s).1 ≤ l.length ∧ (bestFrom l i q c b s).1 ≤ 66 ∧ (1 ≤ (bestFrom l i q c b s).1 → 1 ≤ (bestFrom l i q c b s).2 ∧ (bestFrom l i q c b s).2 < b + c) := by
  induction c generalizing b s with
  | zero => exact hs
  | succ c ih =>
    unfold bestFrom
    have h1 := ih (b + 1) (if q b then updB l i b s else s) (by
      cases q b
      · simp only [Bool.false_eq_true, if_false]
        exact ⟨hs.1, hs.2.1, fun h => by have := hs.2.2 h; omega⟩
      · simp only [if_true]
        unfold updB
        split
        · exact ⟨longN_end h, longN_le _ _ _, fun _ => by show 1 ≤ b ∧ b < b + 1; omega⟩
        · exact ⟨hs.1, hs.2.1, fun h => by have := hs.2.2 h; omega⟩) (by omega)
    exact ⟨h1.1, h1.2.1, fun h => by have := h1.2.2 h; omega⟩
theorem bestN_end {l : List Int} {i : Nat} (h : i ≤ l.length) : i + (bestN l i).1 ≤ l.length ∧ (bestN l i).1 ≤ 66 ∧ (1 ≤ (bestN l i).1 → 1 ≤ (bestN l i).2 ∧ (bestN l i).2 ≤ 200 ∧ (bestN l i).2 ≤ i) := by
  have h1 := bestFrom_end l i (fun _ => true) h (min i 200) 1 (0, 0) ⟨by simpa using h, by decide, fun h => absurd h (by decide)⟩ (by decide)
  refine ⟨h1.1, h1.2.1, fun hh => ?_⟩
  have := h1.2.2 hh
  unfold bestN
  omega

/-- The program's: the best of places, nearest first, till one is too far. -/
def matchGo (l : List Int) (i : Nat) : List Nat → Nat × Nat → Nat × Nat
  | [], s => s
  | p :: t, s => if 200 < i - p then s else matchGo l i t (updB l i (i - p) s)
def matchN (l : List Int) (i : Nat) (ps : List Nat) : Nat × Nat := matchGo l i ps.reverse (0, 0)
/-- The places ahead of i at which three bytes are as told. -/
def seenOf (l : List Int) (i : Nat) (k : Int × Int × Int) : List Nat := (List.range i).filter (fun p => decide (p + 3 ≤ l.length) && (key3 l p == k))
theorem seenOf_zero (l : List Int) (k : Int × Int × Int) : seenOf l 0 k = [] := rfl
theorem seenOf_succ (l : List Int) (i : Nat) (k : Int × Int × Int) : seenOf l (i + 1) k = seenOf l i k ++ if i + 3 ≤ l.length ∧ key3 l i = k then [i] else [] := by
  unfold seenOf
  rw [List.range_succ, List.filter_append]
  congr 1
  by_cases h1 : i + 3 ≤ l.length <;> by_cases h2 : key3 l i = k <;> simp [h1, h2]
theorem seenOf_lt {l : List Int} {i p : Nat} {k : Int × Int × Int} (h : p ∈ seenOf l i k) : p < i := by
  unfold seenOf at h
  exact List.mem_range.1 (List.mem_filter.1 h).1
theorem seenOf_len (l : List Int) (i : Nat) (k : Int × Int × Int) : (seenOf l i k).length ≤ i := by
  unfold seenOf
  exact Nat.le_trans (List.length_filter_le _ _) (by simp)
theorem match_from (l : List Int) (i : Nat) (q : Nat → Bool) (k : Nat) (hk : k ≤ i) (s : Nat × Nat) :
    matchGo l i ((List.range k).filter (fun p => q (i - p))).reverse s = bestFrom l i q (min k (200 - (i - k))) (i - k + 1) s := by
  induction k generalizing s with
  | zero => simp [matchGo, bestFrom]
  | succ k ih =>
    rw [List.range_succ, List.filter_append, List.reverse_append]
    have e1 : i - (k + 1) + 1 = i - k := by omega
    rw [e1]
    by_cases hf : 200 < i - k
    · have hz : min (k + 1) (200 - (i - (k + 1))) = 0 := by omega
      rw [hz]
      cases hq : q (i - k)
      · simp only [List.filter_cons, hq, List.filter_nil, Bool.false_eq_true, if_false, List.reverse_nil, List.nil_append]
        rw [ih (by omega)]
        have hz2 : min k (200 - (i - k)) = 0 := by omega
        rw [hz2]
        rfl
      · simp only [List.filter_cons, hq, List.filter_nil, if_true, List.reverse_cons, List.reverse_nil, List.nil_append, List.cons_append]
        unfold matchGo
        rw [if_pos hf]
        rfl
    · have hz : min (k + 1) (200 - (i - (k + 1))) = min k (200 - (i - k)) + 1 := by omega
      rw [hz]
      conv => rhs; unfold bestFrom
      cases hq : q (i - k)
      · simp only [List.filter_cons, hq, List.filter_nil, Bool.false_eq_true, if_false, List.reverse_nil, List.nil_append]
        exact ih (by omega) s
      · simp only [List.filter_cons, hq, List.filter_nil, if_true, List.reverse_cons, List.reverse_nil, List.nil_append, List.cons_append]
        conv => lhs; unfold matchGo
        rw [if_neg hf]
        exact ih (by omega) _
/-- The two bests: either both are short, or they are the same. -/
def SameB (s s' : Nat × Nat) : Prop := (s'.1 = 0 ∧ s.1 < 3) ∨ (s = s' ∧ 3 ≤ s.1)
theorem same_from {l : List Int} {i : Nat} {q : Nat → Bool} (c b : Nat) (hq : ∀ x, b ≤ x → x < b + c → (q x = true ↔ 3 ≤ longN l i x)) (s s' : Nat × Nat) (h : SameB s s') :
    SameB (bestFrom l i (fun _ => true) c b s) (bestFrom l i q c b s') := by
  induction c generalizing b s s' with
  | zero => exact h
  | succ c ih =>
    unfold bestFrom
    refine ih (b + 1) (fun x h1 h2 => hq x (by omega) (by omega)) _ _ ?_
    have hb := hq b (Nat.le_refl _) (by omega)
    simp only [if_true]
    cases hqb : q b
    · have hl : longN l i b < 3 := by
        rcases Nat.lt_or_ge (longN l i b) 3 with h | h
        · exact h
        · rw [hb.2 h] at hqb; cases hqb
      simp only [Bool.false_eq_true, if_false]
      rcases h with ⟨h1, h2⟩ | ⟨rfl, h2⟩
      · left
        refine ⟨h1, ?_⟩
        unfold updB
        split
        · exact hl
        · exact h2
      · right
        unfold updB
        rw [if_neg (by omega)]
        exact ⟨rfl, h2⟩
    · have hl := hb.1 hqb
      simp only [if_true]
      rcases h with ⟨h1, h2⟩ | ⟨rfl, h2⟩
      · right
        unfold updB
        rw [if_pos (by omega), if_pos (by omega)]
        exact ⟨rfl, hl⟩
      · right
        refine ⟨rfl, ?_⟩
        unfold updB
        split
        · exact hl
        · exact h2
theorem match_best {l : List Int} {i : Nat} (h : i + 3 ≤ l.length) : SameB (bestN l i) (matchN l i (seenOf l i (key3 l i))) := by
  have e : seenOf l i (key3 l i) = (List.range i).filter (fun p => (fun b => decide (3 ≤ longN l i b)) (i - p)) := by
    unfold seenOf
    refine List.filter_congr fun p hp => ?_
    have hp := List.mem_range.1 hp
    have hk := key3_long (b := i - p) h (by omega)
    rw [show i - (i - p) = p by omega] at hk
    rw [Bool.eq_iff_iff]
    simp only [Bool.and_eq_true, decide_eq_true_eq, beq_iff_eq]
    constructor
    · intro h'; exact hk.2 h'.2
    · intro h'; exact ⟨by omega, hk.1 h'⟩
  unfold matchN
  rw [e, match_from l i (fun b => decide (3 ≤ longN l i b)) i (Nat.le_refl _)]
  unfold bestN
  rw [show min i (200 - (i - i)) = min i 200 by omega, show i - i + 1 = 1 by omega]
  exact same_from (min i 200) 1 (fun x _ _ => by simp) (0, 0) (0, 0) (Or.inl ⟨rfl, by decide⟩)
theorem best_short {l : List Int} {i : Nat} (h : i ≤ l.length) (h3 : ¬ i + 3 ≤ l.length) : (bestN l i).1 < 3 := by
  have := (bestN_end h).1
  omega

/-- Bytes that are told as they are. -/
def plainGo : Nat → List Int → List Int
  | 0, _ => []
  | f + 1, p => if p = [] then [] else (((min 64 p.length : Nat) : Int) - 1) :: (p.take 64 ++ plainGo f (p.drop 64))
def plainB (p : List Int) : List Int := plainGo p.length p
theorem plainGo_fuel (f g : Nat) (p : List Int) (hf : p.length ≤ f) (hg : p.length ≤ g) : plainGo f p = plainGo g p := by
  induction f generalizing g p with
  | zero =>
    have : p = [] := List.length_eq_zero_iff.1 (by omega)
    subst this
    cases g with
    | zero => rfl
    | succ g => simp [plainGo]
  | succ f ih =>
    cases g with
    | zero =>
      have : p = [] := List.length_eq_zero_iff.1 (by omega)
      subst this
      simp [plainGo]
    | succ g =>
      unfold plainGo
      by_cases hp : p = []
      · rw [if_pos hp, if_pos hp]
      · have hl : 0 < p.length := List.length_pos_iff.2 hp
        rw [if_neg hp, if_neg hp, ih g (p.drop 64) (by rw [List.length_drop]; omega) (by rw [List.length_drop]; omega)]
theorem plainB_nil : plainB [] = [] := rfl
theorem plainB_step {p : List Int} (h : p ≠ []) : plainB p = (((min 64 p.length : Nat) : Int) - 1) :: (p.take 64 ++ plainB (p.drop 64)) := by
  have hl : 0 < p.length := List.length_pos_iff.2 h
  unfold plainB
  obtain ⟨f, hf⟩ : ∃ f, p.length = f + 1 := ⟨p.length - 1, by omega⟩
  rw [hf]
  conv => lhs; unfold plainGo
  rw [if_neg h, hf, plainGo_fuel f (p.drop 64).length _ (by rw [List.length_drop]; omega) (Nat.le_refl _)]
theorem plainGo_len (f : Nat) (p : List Int) (hf : p.length ≤ f) : (plainGo f p).length ≤ 2 * p.length := by
  induction f generalizing p with
  | zero => simp [plainGo]
  | succ f ih =>
    unfold plainGo
    split
    · simp
    · rename_i h
      have hl : 0 < p.length := List.length_pos_iff.2 h
      have := ih (p.drop 64) (by rw [List.length_drop]; omega)
      rw [List.length_drop] at this
      rw [List.length_cons, List.length_append, List.length_take]
      omega
theorem plainB_len (p : List Int) : (plainB p).length ≤ 2 * p.length := plainGo_len _ _ (Nat.le_refl _)
theorem plainGo_bytes (f : Nat) (p : List Int) (hb : bytesB p = true) : bytesB (plainGo f p) = true := by
  induction f generalizing p with
  | zero => rfl
  | succ f ih =>
    unfold plainGo
    split
    · rfl
    · rename_i h
      have hl : 0 < p.length := List.length_pos_iff.2 h
      have hall := List.all_eq_true.1 (show p.all byteB = true from hb)
      have hd := ih (p.drop 64) (List.all_eq_true.2 fun x hx => hall x (List.mem_of_mem_drop hx))
      refine List.all_eq_true.2 fun x hx => ?_
      rcases List.mem_cons.1 hx with rfl | hx
      · simp [byteB]; omega
      · rcases List.mem_append.1 hx with hx | hx
        · exact hall x (List.mem_of_mem_take hx)
        · exact List.all_eq_true.1 hd x hx
theorem plainB_bytes {p : List Int} (hb : bytesB p = true) : bytesB (plainB p) = true := plainGo_bytes _ _ hb

/-- The packed form of what is behind i; p: what is not told yet. -/
def packR (l : List Int) : Nat → Nat → List Int → List Int
  | 0, _, p => plainB p
  | f + 1, i, p => if i < l.length then (if (bestN l i).1 < 3 then packR l f (i + 1) (p ++ [l.getD i 0]) else plainB p ++ ([((bestN l i).1 : Int) + 61, ((bestN l i).2 : Int)] ++ packR l f (i + (bestN l i).1) [])) else plainB p
def packOf (l : List Int) : List Int := packR l l.length 0 []
theorem packR_end {l : List Int} {f i : Nat} {p : List Int} (h : l.length ≤ i) : packR l f i p = plainB p := by
  cases f with
  | zero => rfl
  | succ f => unfold packR; rw [if_neg (by omega)]
theorem packR_plain {l : List Int} {f i : Nat} {p : List Int} (h : i < l.length) (hb : (bestN l i).1 < 3) : packR l (f + 1) i p = packR l f (i + 1) (p ++ [l.getD i 0]) := by
  conv => lhs; unfold packR
  rw [if_pos h, if_pos hb]
theorem packR_match {l : List Int} {f i : Nat} {p : List Int} (h : i < l.length) (hb : ¬ (bestN l i).1 < 3) : packR l (f + 1) i p = plainB p ++ ([((bestN l i).1 : Int) + 61, ((bestN l i).2 : Int)] ++ packR l f (i + (bestN l i).1) []) := by
  conv => lhs; unfold packR
  rw [if_pos h, if_neg hb]
theorem packR_len (l : List Int) (f i : Nat) (p : List Int) (hi : i ≤ l.length) : (packR l f i p).length ≤ 2 * p.length + 2 * (l.length - i) := by
  induction f generalizing i p with
  | zero =>
    have := plainB_len p
    simp only [packR]
    omega
  | succ f ih =>
    unfold packR
    split
    · split
      · rename_i h _
        have := ih (i + 1) (p ++ [l.getD i 0]) (by omega)
        rw [List.length_append, List.length_singleton] at this
        omega
      · rename_i h hb
        have h1 := (bestN_end hi).1
        have := ih (i + (bestN l i).1) [] h1
        have := plainB_len p
        simp only [List.length_append, List.length_cons, List.length_nil] at *
        omega
    · have := plainB_len p
      omega
theorem packOf_len (l : List Int) : (packOf l).length ≤ 2 * l.length := by
  have := packR_len l l.length 0 [] (Nat.zero_le _)
  simp at this
  unfold packOf
  exact this
theorem bytesB_append {a b : List Int} (ha : bytesB a = true) (hb : bytesB b = true) : bytesB (a ++ b) = true := by
  refine List.all_eq_true.2 fun x hx => ?_
  rcases List.mem_append.1 hx with h | h
  · exact List.all_eq_true.1 (show a.all byteB = true from ha) x h
  · exact List.all_eq_true.1 (show b.all byteB = true from hb) x h
theorem packR_bytes (l : List Int) (hl : bytesB l = true) (f i : Nat) (p : List Int) (hi : i ≤ l.length) (hp : bytesB p = true) : bytesB (packR l f i p) = true := by
  induction f generalizing i p with
  | zero => exact plainB_bytes hp
  | succ f ih =>
    unfold packR
    split
    · split
      · rename_i h _
        refine ih (i + 1) _ (by omega) (bytesB_append hp ?_)
        have hm : l.getD i 0 = l[i] := by simp [List.getD_eq_getElem?_getD, h]
        rw [hm]
        have := List.all_eq_true.1 (show l.all byteB = true from hl) l[i] (List.getElem_mem h)
        simp [bytesB, this]
      · rename_i h hb
        obtain ⟨h1, h2, h3⟩ := bestN_end hi
        have h4 := h3 (by omega)
        refine bytesB_append (plainB_bytes hp) (bytesB_append ?_ (ih _ [] h1 rfl))
        simp [bytesB, byteB]
        omega
    · exact plainB_bytes hp
theorem packOf_bytes {l : List Int} (hl : bytesB l = true) : bytesB (packOf l) = true := packR_bytes l hl _ _ _ (Nat.zero_le _) rfl
end

section
def foldV (n : Int) : Int := if n < 0 then -2 * n - 1 else 2 * n
def unfoldV (f : Int) : Int := if f % 2 = 1 then -((f + 1) / 2) else f / 2
theorem fold_range {n : Int} (h : -1000000 ≤ n ∧ n ≤ 1000000) : 0 ≤ foldV n ∧ foldV n ≤ 2000000 := by unfold foldV; split <;> omega
theorem unfold_fold (n : Int) : unfoldV (foldV n) = n := by unfold foldV unfoldV; split <;> (split <;> omega)
theorem fold_unfold {f : Int} (h : 0 ≤ f) : foldV (unfoldV f) = f := by unfold foldV unfoldV; split <;> (split <;> omega)
theorem unfold_range {f : Int} (h0 : 0 ≤ f) (h1 : f ≤ 2000000) : -1000000 ≤ unfoldV f ∧ unfoldV f ≤ 1000000 := by unfold unfoldV; split <;> omega
/-- A folded number as bytes. -/
def vb (f : Int) : List Int := if f < 128 then [f] else if f < 16384 then [f % 128 + 128, f / 128] else [f % 128 + 128, f / 128 % 128 + 128, f / 16384]
def varB (n : Int) : List Int := vb (foldV n)
theorem vb_len (f : Int) : 1 ≤ (vb f).length ∧ (vb f).length ≤ 3 := by unfold vb; split <;> (try split) <;> simp
theorem vb_small {f : Int} (h : f < 128) : vb f = [f] := if_pos h
theorem varB_len (n : Int) : 1 ≤ (varB n).length ∧ (varB n).length ≤ 3 := vb_len _
/-- Reading on: n bytes at most, at i; f: what was read; u: the unit. -/
def rdGo (l : List Int) : Nat → Nat → Int → Int → Option (Int × Nat)
  | 0, _, _, _ => none
  | n + 1, i, f, u =>
    match l[i]? with
    | none => none
    | some b => if b < 128 then (if (u ≠ 1 ∧ b = 0) ∨ 2000000 < f + u * b then none else some (unfoldV (f + u * b), i + 1)) else rdGo l n (i + 1) (f + u * (b - 128)) (128 * u)
def rdV (l : List Int) (i : Nat) : Option (Int × Nat) := rdGo l 3 i 0 1
theorem rdGo_end (l : List Int) (n i : Nat) (f u : Int) (h : l.length ≤ i) : rdGo l n i f u = none := by
  cases n with
  | zero => rfl
  | succ n => simp [rdGo, List.getElem?_eq_none h]
theorem rdGo_last (l : List Int) (n i : Nat) (f u : Int) (h : i < l.length) (hb : l[i] < 128) : rdGo l (n + 1) i f u = if (u ≠ 1 ∧ l[i] = 0) ∨ 2000000 < f + u * l[i] then none else some (unfoldV (f + u * l[i]), i + 1) := by
  simp [rdGo, List.getElem?_eq_getElem h, hb]
theorem rdGo_more (l : List Int) (n i : Nat) (f u : Int) (h : i < l.length) (hb : ¬ l[i] < 128) : rdGo l (n + 1) i f u = rdGo l n (i + 1) (f + u * (l[i] - 128)) (128 * u) := by
  simp [rdGo, List.getElem?_eq_getElem h, hb]
theorem rdGo_bound (l : List Int) (n i : Nat) (f u : Int) {x : Int} {j : Nat} (h : rdGo l n i f u = some (x, j)) : i < j ∧ j ≤ l.length := by
  induction n generalizing i f u with
  | zero => cases h
  | succ n ih =>
    by_cases hi : i < l.length
    · by_cases hb : l[i] < 128
      · rw [rdGo_last l n i f u hi hb] at h
        split at h
        · cases h
        · injection h with h
          injection h with h1 h2
          omega
      · rw [rdGo_more l n i f u hi hb] at h
        have := ih _ _ _ h
        omega
    · rw [rdGo_end l _ i f u (by omega)] at h
      cases h
theorem rdGo_mono (l : List Int) (m n i : Nat) (f u : Int) {x : Int × Nat} (h : rdGo (l.take m) n i f u = some x) : rdGo l n i f u = some x := by
  induction n generalizing i f u with
  | zero => cases h
  | succ n ih =>
    by_cases hi : i < (l.take m).length
    · have hi' : i < l.length := by simp at hi; omega
      have he : (l.take m)[i] = l[i] := by simp
      by_cases hb : l[i] < 128
      · rw [rdGo_last _ n i f u hi (by rw [he]; exact hb), he] at h
        rw [rdGo_last l n i f u hi' hb]
        exact h
      · rw [rdGo_more _ n i f u hi (by rw [he]; exact hb), he] at h
        rw [rdGo_more l n i f u hi' hb]
        exact ih _ _ _ h
    · rw [rdGo_end _ _ i f u (by omega)] at h
      cases h
theorem rdV_bound {l : List Int} {i : Nat} {x : Int} {j : Nat} (h : rdV l i = some (x, j)) : i < j ∧ j ≤ l.length := rdGo_bound _ _ _ _ _ h
theorem rdV_mono {l : List Int} {m i : Nat} {x : Int × Nat} (h : rdV (l.take m) i = some x) : rdV l i = some x := rdGo_mono _ _ _ _ _ _ h
theorem drop_some {l : List Int} {i : Nat} {b : Int} {s : List Int} (h : l.drop i = b :: s) : ∃ hi : i < l.length, l[i] = b ∧ l.drop (i + 1) = s := by
  have hi : i < l.length := by
    apply Classical.byContradiction
    intro hn
    rw [List.drop_of_length_le (by omega)] at h
    cases h
  rw [List.drop_eq_getElem_cons hi] at h
  injection h with h1 h2
  exact ⟨hi, h1, h2⟩
theorem rdV_vb {l s : List Int} {i : Nat} {f : Int} (h : l.drop i = vb f ++ s) (h0 : 0 ≤ f) (h1 : f ≤ 2000000) : rdV l i = some (unfoldV f, i + (vb f).length) ∧ l.drop (i + (vb f).length) = s := by
  refine ⟨?_, by rw [← List.drop_drop, h, List.drop_left]⟩
  unfold rdV
  unfold vb at h ⊢
  split at h
  · rename_i c1
    obtain ⟨hi, e, _⟩ := drop_some h
    rw [rdGo_last _ _ _ _ _ hi (by rw [e]; exact c1), if_pos c1, e, if_neg (by omega)]
    simp
  · rename_i c1
    rw [if_neg c1]
    split at h
    · rename_i c2
      obtain ⟨hi, e, h'⟩ := drop_some h
      obtain ⟨hi', e', _⟩ := drop_some h'
      rw [if_pos c2, rdGo_more _ _ _ _ _ hi (by omega), rdGo_last _ _ _ _ _ hi' (by omega), e, e', if_neg (by omega)]
      simp
      congr 1
      omega
    · rename_i c2
      obtain ⟨hi, e, h'⟩ := drop_some h
      obtain ⟨hi', e', h''⟩ := drop_some h'
      obtain ⟨hi'', e'', _⟩ := drop_some h''
      rw [if_neg c2, rdGo_more _ _ _ _ _ hi (by omega), rdGo_more _ _ _ _ _ hi' (by omega), rdGo_last _ _ _ _ _ hi'' (by omega), e, e', e'', if_neg (by omega)]
      simp
      congr 1
      omega
theorem rdV_varB {l s : List Int} {i : Nat} {n : Int} (h : l.drop i = varB n ++ s) (hn : -1000000 ≤ n ∧ n ≤ 1000000) : rdV l i = some (n, i + (varB n).length) ∧ l.drop (i + (varB n).length) = s := by
  have := rdV_vb h (fold_range hn).1 (fold_range hn).2
  rwa [unfold_fold] at this
/-- What is read was written. -/
theorem rdV_inv {l : List Int} (hb : bytesB l = true) {i j : Nat} {n : Int} (h : rdV l i = some (n, j)) : (∃ s, l.drop i = varB n ++ s) ∧ j = i + (varB n).length ∧ (-1000000 ≤ n ∧ n ≤ 1000000) := by
  have hbt : ∀ k (hk : k < l.length), 0 ≤ l[k] ∧ l[k] ≤ 255 := fun k hk => by
    unfold bytesB at hb
    have := List.all_eq_true.1 hb l[k] (List.getElem_mem hk)
    simpa [byteB] using this
  have key : ∀ f, 0 ≤ f → f ≤ 2000000 → n = unfoldV f → j = i + (vb f).length → (∃ s, l.drop i = vb f ++ s) → (∃ s, l.drop i = varB n ++ s) ∧ j = i + (varB n).length ∧ (-1000000 ≤ n ∧ n ≤ 1000000) := by
    rintro f h0 h1 rfl hj hs
    unfold varB
    rw [fold_unfold h0]
    exact ⟨hs, hj, unfold_range h0 h1⟩
  unfold rdV at h
  have hi : i < l.length := Classical.byContradiction fun hn => by
    rw [rdGo_end _ _ _ _ _ (by omega)] at h; cases h
  have b0 := hbt i hi
  by_cases c0 : l[i] < 128
  · rw [rdGo_last _ _ _ _ _ hi c0] at h
    split at h
    · cases h
    · injection h with h
      injection h with h1 h2
      refine key (l[i]) (by omega) (by omega) (by rw [← h1]; congr 1; omega) (by rw [vb_small c0]; simp; omega) ⟨l.drop (i + 1), by rw [vb_small c0, List.drop_eq_getElem_cons hi]; rfl⟩
  · rw [rdGo_more _ _ _ _ _ hi c0] at h
    have hi' : i + 1 < l.length := Classical.byContradiction fun hn => by
      rw [rdGo_end _ _ _ _ _ (by omega)] at h; cases h
    have b1 := hbt (i + 1) hi'
    by_cases c1 : l[i + 1] < 128
    · rw [rdGo_last _ _ _ _ _ hi' c1] at h
      split at h
      · cases h
      · rename_i hn
        injection h with h
        injection h with h1 h2
        have e : vb (l[i] - 128 + 128 * l[i + 1]) = [l[i], l[i + 1]] := by
          unfold vb
          rw [if_neg (by omega), if_pos (by omega)]
          congr 1
          · omega
          · congr 1; omega
        refine key (l[i] - 128 + 128 * l[i + 1]) (by omega) (by omega) (by rw [← h1]; congr 1; omega) (by rw [e]; simp; omega) ⟨l.drop (i + 1 + 1), by rw [e, List.drop_eq_getElem_cons hi, List.drop_eq_getElem_cons hi']; rfl⟩
    · rw [rdGo_more _ _ _ _ _ hi' c1] at h
      have hi'' : i + 1 + 1 < l.length := Classical.byContradiction fun hn => by
        rw [rdGo_end _ _ _ _ _ (by omega)] at h; cases h
      have b2 := hbt (i + 1 + 1) hi''
      by_cases c2 : l[i + 1 + 1] < 128
      · rw [rdGo_last _ _ _ _ _ hi'' c2] at h
        split at h
        · cases h
        · rename_i hn
          injection h with h
          injection h with h1 h2
          have e : vb (l[i] - 128 + 128 * (l[i + 1] - 128) + 16384 * l[i + 1 + 1]) = [l[i], l[i + 1], l[i + 1 + 1]] := by
            unfold vb
            rw [if_neg (by omega), if_neg (by omega)]
            congr 1
            · omega
            · congr 1
              · omega
              · congr 1; omega
          refine key (l[i] - 128 + 128 * (l[i + 1] - 128) + 16384 * l[i + 1 + 1]) (by omega) (by omega) (by rw [← h1]; congr 1; omega) (by rw [e]; simp; omega) ⟨l.drop (i + 1 + 1 + 1), by rw [e, List.drop_eq_getElem_cons hi, List.drop_eq_getElem_cons hi', List.drop_eq_getElem_cons hi'']; rfl⟩
      · rw [rdGo_more _ _ _ _ _ hi'' c2] at h
        cases h

/-- A part as bytes. -/
def partP (has : Bool) (k : List Int) : List Int := if has then varB k.length ++ k else varB (-1)
def bodyB (r : Rec) (o t : Int) : List Int := varB (r.time - t) ++ varB (r.off - o) ++ partP r.hk r.key ++ partP r.hv r.val
def recBytes (r : Rec) (o t : Int) : List Int := varB (bodyB r o t).length ++ bodyB r o t
def rdPart (l : List Int) (c : Nat) : Option (Bool × List Int × Nat) :=
  match rdV l c with
  | none => none
  | some (n, d) => if n = -1 then some (false, [], d) else if 0 ≤ n ∧ d + n.toNat ≤ l.length then some (true, (l.drop d).take n.toNat, d + n.toNat) else none
/-- A record at i for a base, and the place behind it. -/
def rdRec (l : List Int) (i : Nat) (o t : Int) : Option (Rec × Nat) :=
  match rdV l i with
  | none => none
  | some (m, a) =>
    match rdV l a with
    | none => none
    | some (dt, b) =>
      match rdV l b with
      | none => none
      | some (dk, c) =>
        match rdPart l c with
        | none => none
        | some (hk, key, d) =>
          match rdPart l d with
          | none => none
          | some (hv, val, e) => if m = (e : Int) - a ∧ recB ⟨o + dk, t + dt, hk, key, hv, val⟩ = true then some (⟨o + dk, t + dt, hk, key, hv, val⟩, e) else none

theorem partB_len {has : Bool} {k : List Int} (h : partB has k = true) : k.length ≤ 12 ∧ (has = false → k = []) := by
  unfold partB at h
  cases has
  · simp at h
    subst h
    exact ⟨by simp, fun _ => rfl⟩
  · simp at h
    exact ⟨h.1, fun h => by cases h⟩
theorem partP_len {has : Bool} {k : List Int} (h : k.length ≤ 12) : (partP has k).length ≤ 15 := by
  unfold partP
  have h1 := varB_len k.length
  have h2 := varB_len (-1)
  cases has <;> simp <;> omega
theorem recB_parts {r : Rec} (h : recB r = true) : (0 ≤ r.off ∧ r.off ≤ 99999) ∧ (0 ≤ r.time ∧ r.time ≤ 99999) ∧ partB r.hk r.key = true ∧ partB r.hv r.val = true := by
  unfold recB baseB inB at h
  simp only [Bool.and_eq_true, decide_eq_true_eq] at h
  exact ⟨h.1.1.1, h.1.1.2, h.1.2, h.2⟩
theorem bodyB_len {r : Rec} {o t : Int} (h : recB r = true) : (bodyB r o t).length ≤ 36 := by
  obtain ⟨_, _, h3, h4⟩ := recB_parts h
  have h5 := partP_len (has := r.hk) (partB_len h3).1
  have h6 := partP_len (has := r.hv) (partB_len h4).1
  have h7 := varB_len (r.time - t)
  have h8 := varB_len (r.off - o)
  unfold bodyB
  simp
  omega
theorem rdPart_bound {l : List Int} {c d : Nat} {hk : Bool} {k : List Int} (h : rdPart l c = some (hk, k, d)) : c < d ∧ d ≤ l.length := by
  unfold rdPart at h
  split at h
  · cases h
  · rename_i n e hr
    have := rdV_bound hr
    split at h
    · injection h with h; injection h with h1 h2; injection h2 with h2 h3; omega
    · split at h
      · injection h with h; injection h with h1 h2; injection h2 with h2 h3; omega
      · cases h
theorem rdPart_mono {l : List Int} {m c d : Nat} {hk : Bool} {k : List Int} (h : rdPart (l.take m) c = some (hk, k, d)) : rdPart l c = some (hk, k, d) := by
  have hbd := rdPart_bound h
  unfold rdPart at h ⊢
  split at h
  · cases h
  · rename_i n e hr
    rw [rdV_mono hr]
    have hb := rdV_bound hr
    dsimp only
    split at h
    · rename_i hn; rw [if_pos hn]; exact h
    · rename_i hn
      rw [if_neg hn]
      split at h
      · rename_i h2
        have hl : (l.take m).length ≤ l.length := by simp; omega
        rw [if_pos ⟨h2.1, by omega⟩]
        rw [← h]
        have : ((l.take m).drop e).take n.toNat = (l.drop e).take n.toNat := by
          rw [List.drop_take, List.take_take, Nat.min_eq_left]
          have := h2.2
          simp at this
          omega
        rw [this]
      · cases h
theorem rdPart_rt {l s : List Int} {i : Nat} {has : Bool} {k : List Int} (hp : partB has k = true) (h : l.drop i = partP has k ++ s) : rdPart l i = some (has, k, i + (partP has k).length) ∧ l.drop (i + (partP has k).length) = s := by
  obtain ⟨hl, hf⟩ := partB_len hp
  refine ⟨?_, by rw [← List.drop_drop, h, List.drop_left]⟩
  unfold partP at h ⊢
  cases has with
  | false =>
    have := hf rfl
    subst this
    obtain ⟨h1, _⟩ := rdV_varB (n := -1) (by simpa using h) (by omega)
    unfold rdPart
    rw [h1]
    simp
  | true =>
    obtain ⟨h1, h2⟩ := rdV_varB (n := (k.length : Int)) (s := k ++ s) (by simpa using h) (by omega)
    have hb := rdV_bound h1
    unfold rdPart
    rw [h1]
    have h3 : l.length - (i + (varB k.length).length) = k.length + s.length := by rw [← List.length_drop, h2]; simp
    dsimp only
    rw [if_neg (by omega), if_pos ⟨by omega, by simp only [Int.toNat_natCast]; omega⟩, h2]
    simp
    omega
theorem rdRec_rt {l s : List Int} {i : Nat} {r : Rec} {o t : Int} (hr : recB r = true) (hb : baseB o t = true) (h : l.drop i = recBytes r o t ++ s) : rdRec l i o t = some (r, i + (recBytes r o t).length) := by
  obtain ⟨h1, h2, h3, h4⟩ := recB_parts hr
  have hb' : (0 ≤ o ∧ o ≤ 99999) ∧ (0 ≤ t ∧ t ≤ 99999) := by simpa [baseB, inB] using hb
  have hlen := bodyB_len (o := o) (t := t) hr
  unfold recBytes at h
  obtain ⟨e1, d1⟩ := rdV_varB (n := ((bodyB r o t).length : Int)) (s := bodyB r o t ++ s) (by simpa using h) (by omega)
  obtain ⟨e2, d2⟩ := rdV_varB (n := r.time - t) (s := varB (r.off - o) ++ (partP r.hk r.key ++ (partP r.hv r.val ++ s))) (by rw [d1]; simp [bodyB]) (by omega)
  obtain ⟨e3, d3⟩ := rdV_varB (n := r.off - o) d2 (by omega)
  obtain ⟨e4, d4⟩ := rdPart_rt h3 d3
  obtain ⟨e5, d5⟩ := rdPart_rt h4 d4
  have el : (bodyB r o t).length = (varB (r.time - t)).length + (varB (r.off - o)).length + (partP r.hk r.key).length + (partP r.hv r.val).length := by simp [bodyB]; omega
  have er : (⟨o + (r.off - o), t + (r.time - t), r.hk, r.key, r.hv, r.val⟩ : Rec) = r := by
    rw [show o + (r.off - o) = r.off by omega, show t + (r.time - t) = r.time by omega]
  have el2 : (recBytes r o t).length = (varB (bodyB r o t).length).length + (bodyB r o t).length := by simp [recBytes]
  unfold rdRec
  rw [e1]
  dsimp only
  rw [e2]
  dsimp only
  rw [e3]
  dsimp only
  rw [e4]
  dsimp only
  rw [e5]
  dsimp only
  have ee : i + (varB (bodyB r o t).length).length + (varB (r.time - t)).length + (varB (r.off - o)).length + (partP r.hk r.key).length + (partP r.hv r.val).length = i + (recBytes r o t).length := by rw [el2, el]; simp only [Nat.add_assoc]
  have em : ((bodyB r o t).length : Int) = ((i + (varB (bodyB r o t).length).length + (varB (r.time - t)).length + (varB (r.off - o)).length + (partP r.hk r.key).length + (partP r.hv r.val).length : Nat) : Int) - ((i + (varB (bodyB r o t).length).length : Nat) : Int) := by
    generalize (varB (bodyB r o t).length).length = p1
    generalize (varB (r.time - t)).length = p2 at *
    generalize (varB (r.off - o)).length = p3 at *
    generalize (partP r.hk r.key).length = p4 at *
    generalize (partP r.hv r.val).length = p5 at *
    clear ee e1 e2 e3 e4 e5 d1 d2 d3 d4 d5 el2 h
    omega
  rw [er, if_pos ⟨em, hr⟩, ee]
theorem rdPart_inv {l : List Int} (hb : bytesB l = true) {c d : Nat} {hk : Bool} {k : List Int} (h : rdPart l c = some (hk, k, d)) : (∃ s, l.drop c = partP hk k ++ s) ∧ d = c + (partP hk k).length := by
  unfold rdPart at h
  split at h
  · cases h
  · rename_i n e hr
    have hbd := rdV_bound hr
    obtain ⟨⟨s, hs⟩, he, hn⟩ := rdV_inv hb hr
    split at h
    · rename_i hm
      injection h with h; injection h with h1 h2; injection h2 with h2 h3
      subst h1 h2 h3 hm
      exact ⟨⟨s, by simpa [partP] using hs⟩, by simpa [partP] using he⟩
    · split at h
      · rename_i h2
        injection h with h; injection h with h1 h3; injection h3 with h3 h4
        subst h1 h3 h4
        have hd : l.drop e = s := by rw [he, ← List.drop_drop, hs, List.drop_left]
        have hkl : ((l.drop e).take n.toNat).length = n.toNat := by rw [List.length_take, List.length_drop]; omega
        have hnn : ((((l.drop e).take n.toNat).length : Nat) : Int) = n := by rw [hkl]; omega
        refine ⟨⟨(l.drop e).drop n.toNat, ?_⟩, ?_⟩
        · unfold partP
          rw [if_pos rfl, hnn, hs, List.append_assoc, List.take_append_drop, hd]
        · unfold partP
          rw [if_pos rfl, hnn, List.length_append, hkl]
          omega
      · cases h
/-- The five readings. -/
structure Read5 (l : List Int) (i : Nat) (o t m : Int) (r : Rec) (a e : Nat) : Prop where
  ex : ∃ b c d dt dk, rdV l i = some (m, a) ∧ rdV l a = some (dt, b) ∧ rdV l b = some (dk, c) ∧ rdPart l c = some (r.hk, r.key, d) ∧ rdPart l d = some (r.hv, r.val, e) ∧ r.off = o + dk ∧ r.time = t + dt
theorem Read5.rd {l : List Int} {i a e : Nat} {o t m : Int} {r : Rec} (h : Read5 l i o t m r a e) : rdRec l i o t = if m = (e : Int) - a ∧ recB r = true then some (r, e) else none := by
  obtain ⟨b, c, d, dt, dk, e1, e2, e3, e4, e5, e6, e7⟩ := h.ex
  have er : (⟨o + dk, t + dt, r.hk, r.key, r.hv, r.val⟩ : Rec) = r := by rw [← e6, ← e7]
  unfold rdRec
  rw [e1]
  dsimp only
  rw [e2]
  dsimp only
  rw [e3]
  dsimp only
  rw [e4]
  dsimp only
  rw [e5]
  dsimp only
  rw [er]
theorem rdRec_read5 {l : List Int} {i e : Nat} {o t : Int} {r : Rec} (h : rdRec l i o t = some (r, e)) : ∃ m a, Read5 l i o t m r a e ∧ m = (e : Int) - a ∧ recB r = true := by
  unfold rdRec at h
  split at h
  · cases h
  split at h
  · cases h
  split at h
  · cases h
  split at h
  · cases h
  split at h
  · cases h
  split at h
  · rename_i m a e1 _ dt b e2 _ dk c e3 _ hk key d e4 _ hv val e' e5 hm
    injection h with h
    injection h with h1 h2
    subst h1 h2
    exact ⟨m, a, ⟨b, c, d, dt, dk, e1, e2, e3, e4, e5, rfl, rfl⟩, hm.1, hm.2⟩
  · cases h
theorem Read5.bytes {l : List Int} (hb : bytesB l = true) {i a e : Nat} {o t m : Int} {r : Rec} (h : Read5 l i o t m r a e) : (∃ s, l.drop i = varB m ++ (bodyB r o t ++ s)) ∧ a = i + (varB m).length ∧ e = a + (bodyB r o t).length ∧ e ≤ l.length ∧ (-1000000 ≤ m ∧ m ≤ 1000000) := by
  obtain ⟨b, c, d, dt, dk, e1, e2, e3, e4, e5, e6, e7⟩ := h.ex
  obtain ⟨⟨s1, h1⟩, k1, r1⟩ := rdV_inv hb e1
  obtain ⟨⟨s2, h2⟩, k2, _⟩ := rdV_inv hb e2
  obtain ⟨⟨s3, h3⟩, k3, _⟩ := rdV_inv hb e3
  obtain ⟨⟨s4, h4⟩, k4⟩ := rdPart_inv hb e4
  obtain ⟨⟨s5, h5⟩, k5⟩ := rdPart_inv hb e5
  have hbd := rdPart_bound e5
  have f1 : l.drop a = s1 := by rw [k1, ← List.drop_drop, h1, List.drop_left]
  have f2 : l.drop b = s2 := by rw [k2, ← List.drop_drop, h2, List.drop_left]
  have f3 : l.drop c = s3 := by rw [k3, ← List.drop_drop, h3, List.drop_left]
  have f4 : l.drop d = s4 := by rw [k4, ← List.drop_drop, h4, List.drop_left]
  have ed : dt = r.time - t := by omega
  have ek : dk = r.off - o := by omega
  subst ed ek
  refine ⟨⟨s5, ?_⟩, k1, ?_, hbd.2, r1⟩
  · rw [h1, ← f1, h2, ← f2, h3, ← f3, h4, ← f4, h5]
    simp [bodyB]
  · simp [bodyB]
    omega
theorem rdRec_inv {l : List Int} (hb : bytesB l = true) {i e : Nat} {o t : Int} {r : Rec} (h : rdRec l i o t = some (r, e)) : (∃ s, l.drop i = recBytes r o t ++ s) ∧ e = i + (recBytes r o t).length ∧ recB r = true ∧ e ≤ l.length := by
  obtain ⟨m, a, h5, hm, hr⟩ := rdRec_read5 h
  obtain ⟨⟨s, hs⟩, ha, he, hl, _⟩ := h5.bytes hb
  have hml : m = ((bodyB r o t).length : Int) := by omega
  subst hml
  refine ⟨⟨s, by rw [hs]; simp [recBytes]⟩, by simp [recBytes]; omega, hr, hl⟩
theorem rdRec_cut {l : List Int} {i e : Nat} {o t : Int} {r : Rec} (h : rdRec l i o t = some (r, e)) (n : Nat) (hn : n < e) : rdRec (l.take n) i o t = none := by
  cases hq : rdRec (l.take n) i o t with
  | none => rfl
  | some q =>
    exfalso
    obtain ⟨r', e'⟩ := q
    obtain ⟨m, a, h5, hm, hr⟩ := rdRec_read5 hq
    obtain ⟨b, c, d, dt, dk, e1, e2, e3, e4, e5, e6, e7⟩ := h5.ex
    have hbd := (rdPart_bound e5).2
    have h5' : Read5 l i o t m r' a e' := ⟨b, c, d, dt, dk, rdV_mono e1, rdV_mono e2, rdV_mono e3, rdPart_mono e4, rdPart_mono e5, e6, e7⟩
    have := h5'.rd
    rw [if_pos ⟨hm, hr⟩, h] at this
    injection this with this
    injection this with h1 h2
    simp at hbd
    omega
/-- Bytes begin with others at i. -/
def sameAt (l : List Int) (i : Nat) (x : List Int) : Bool := (l.drop i).take x.length == x
theorem Read5.same {l : List Int} (hb : bytesB l = true) {i a e : Nat} {o t m : Int} {r : Rec} (h : Read5 l i o t m r a e) (hr : recB r = true) : sameAt l i (recBytes r o t) = decide (m = (e : Int) - a) := by
  obtain ⟨⟨s, hs⟩, ha, he, hl, hm⟩ := h.bytes hb
  have hlen := bodyB_len (o := o) (t := t) hr
  rw [Bool.eq_iff_iff]
  simp only [sameAt, beq_iff_eq, decide_eq_true_eq]
  constructor
  · intro hq
    have h1 : l.drop i = varB ((bodyB r o t).length : Int) ++ (bodyB r o t ++ (l.drop i).drop (recBytes r o t).length) := by
      rw [← List.append_assoc, show varB ((bodyB r o t).length : Int) ++ bodyB r o t = recBytes r o t from rfl]
      conv => lhs; rw [← List.take_append_drop (recBytes r o t).length (l.drop i), hq]
    obtain ⟨e1, _⟩ := rdV_varB h1 (by omega)
    obtain ⟨b, c, d, dt, dk, e2, _⟩ := h.ex
    rw [e1] at e2
    simp only [Option.some.injEq, Prod.mk.injEq] at e2
    obtain ⟨e3, e4⟩ := e2
    rw [← e3, he]
    clear e1 h1 hq hs e4 e3 hlen hm hb ha he hl h hr
    generalize (bodyB r o t).length = L
    omega
  · intro hm'
    have hml : m = ((bodyB r o t).length : Int) := by omega
    subst hml
    rw [hs, ← List.append_assoc, show varB ((bodyB r o t).length : Int) ++ bodyB r o t = recBytes r o t from rfl, List.take_left]
end

section
open Go.RowKit

def copyN : Nat → Nat → List Int → List Int
  | 0, _, o => o
  | k + 1, b, o => copyN k b (o ++ [o.getD (o.length - b) 0])
theorem copyN_len (k b : Nat) (o : List Int) : (copyN k b o).length = o.length + k := by
  induction k generalizing o with
  | zero => rfl
  | succ k ih => unfold copyN; rw [ih]; simp; omega
theorem copyN_succ (k b : Nat) (o : List Int) : copyN (k + 1) b o = copyN k b o ++ [(copyN k b o).getD ((copyN k b o).length - b) 0] := by
  induction k generalizing o with
  | zero => rfl
  | succ k ih =>
    conv => lhs; unfold copyN
    rw [ih]
    rfl
def unpGo : Nat → List Int → List Int → Option (List Int)
  | _, [], o => some o
  | 0, _ :: _, _ => none
  | f + 1, n :: t, o =>
    if n < 64 then
      if t.length < n.toNat + 1 then none
      else if 200 < (o ++ t.take (n.toNat + 1)).length then none
      else unpGo f (t.drop (n.toNat + 1)) (o ++ t.take (n.toNat + 1))
    else if n < 128 then
      match t with
      | [] => none
      | b :: t' =>
        if b < 1 ∨ (o.length : Int) < b then none
        else if 200 < (copyN (n - 61).toNat b.toNat o).length then none
        else unpGo f t' (copyN (n - 61).toNat b.toNat o)
    else none
def unp (l o : List Int) : Option (List Int) := unpGo l.length l o
theorem unpGo_fuel (f g : Nat) (l o : List Int) (hf : l.length ≤ f) (hg : l.length ≤ g) : unpGo f l o = unpGo g l o := by
  induction f generalizing g l o with
  | zero =>
    have : l = [] := List.length_eq_zero_iff.1 (by omega)
    subst this
    cases g <;> rfl
  | succ f ih =>
    cases l with
    | nil => cases g <;> rfl
    | cons n t =>
      cases g with
      | zero => simp at hg
      | succ g =>
        have hft : t.length ≤ f := by simpa using hf
        have hgt : t.length ≤ g := by simpa using hg
        unfold unpGo
        rw [ih g (t.drop (n.toNat + 1)) _ (by rw [List.length_drop]; omega) (by rw [List.length_drop]; omega)]
        cases t with
        | nil => rfl
        | cons b t' =>
          dsimp only
          rw [ih g t' _ (by simp at hft; omega) (by simp at hgt; omega)]
theorem unp_nil (o : List Int) : unp [] o = some o := rfl
theorem unp_plain {n : Int} {t o : List Int} (h : n < 64) (ht : n.toNat + 1 ≤ t.length) (ho : o.length + (n.toNat + 1) ≤ 200) : unp (n :: t) o = unp (t.drop (n.toNat + 1)) (o ++ t.take (n.toNat + 1)) := by
  unfold unp
  rw [List.length_cons]
  conv => lhs; unfold unpGo
  rw [if_pos h, if_neg (by omega), if_neg (by rw [List.length_append, List.length_take]; omega)]
  exact unpGo_fuel _ _ _ _ (by rw [List.length_drop]; omega) (Nat.le_refl _)
theorem unp_short {n : Int} {t o : List Int} (h : n < 64) (ht : t.length < n.toNat + 1) : unp (n :: t) o = none := by
  unfold unp
  rw [List.length_cons]
  unfold unpGo
  rw [if_pos h, if_pos ht]
theorem unp_over {n : Int} {t o : List Int} (h : n < 64) (ht : n.toNat + 1 ≤ t.length) (ho : 200 < o.length + (n.toNat + 1)) : unp (n :: t) o = none := by
  unfold unp
  rw [List.length_cons]
  unfold unpGo
  rw [if_pos h, if_neg (by omega), if_pos (by rw [List.length_append, List.length_take]; omega)]
theorem unp_alone {n : Int} {o : List Int} (h : ¬ n < 64) : unp [n] o = none := by
  unfold unp
  rw [List.length_cons]
  unfold unpGo
  rw [if_neg h]
  split <;> rfl
theorem unp_great {n : Int} {t o : List Int} (h : ¬ n < 128) : unp (n :: t) o = none := by
  unfold unp
  rw [List.length_cons]
  unfold unpGo
  rw [if_neg (by omega), if_neg h]
theorem unp_far {n b : Int} {t o : List Int} (h : ¬ n < 64) (hb : b < 1 ∨ (o.length : Int) < b) : unp (n :: b :: t) o = none := by
  unfold unp
  rw [List.length_cons]
  unfold unpGo
  rw [if_neg h]
  split
  · dsimp only
    rw [if_pos hb]
  · rfl
theorem unp_copy {n b : Int} {t o : List Int} (h : ¬ n < 64) (h2 : n < 128) (hb : ¬ (b < 1 ∨ (o.length : Int) < b)) (ho : o.length + (n - 61).toNat ≤ 200) : unp (n :: b :: t) o = unp t (copyN (n - 61).toNat b.toNat o) := by
  unfold unp
  rw [List.length_cons]
  conv => lhs; unfold unpGo
  rw [if_neg h, if_pos h2]
  dsimp only
  rw [if_neg hb, if_neg (by rw [copyN_len]; omega)]
  exact unpGo_fuel _ _ _ _ (by simp) (Nat.le_refl _)
theorem unp_copy_over {n b : Int} {t o : List Int} (h : ¬ n < 64) (h2 : n < 128) (hb : ¬ (b < 1 ∨ (o.length : Int) < b)) (ho : 200 < o.length + (n - 61).toNat) : unp (n :: b :: t) o = none := by
  unfold unp
  rw [List.length_cons]
  unfold unpGo
  rw [if_neg h, if_pos h2]
  dsimp only
  rw [if_neg hb, if_pos (by rw [copyN_len]; omega)]
theorem unpGo_len (f : Nat) (l o x : List Int) (ho : o.length ≤ 200) (h : unpGo f l o = some x) : x.length ≤ 200 := by
  induction f generalizing l o with
  | zero =>
    cases l with
    | nil => simp only [unpGo, Option.some.injEq] at h; rw [← h]; exact ho
    | cons n t => simp [unpGo] at h
  | succ f ih =>
    cases l with
    | nil => simp only [unpGo, Option.some.injEq] at h; rw [← h]; exact ho
    | cons n t =>
      unfold unpGo at h
      split at h
      · split at h
        · cases h
        · split at h
          · cases h
          · exact ih _ _ (by omega) h
      · split at h
        · cases t with
          | nil => cases h
          | cons b t' =>
            dsimp only at h
            split at h
            · cases h
            · split at h
              · cases h
              · exact ih _ _ (by omega) h
        · cases h
theorem unp_len {l x : List Int} (h : unp l [] = some x) : x.length ≤ 200 := unpGo_len _ _ _ _ (by simp) h
theorem copyN_bytes (k b : Nat) (o : List Int) (ho : bytesB o = true) (hb1 : 1 ≤ b) (hb : b ≤ o.length) : bytesB (copyN k b o) = true := by
  induction k generalizing o with
  | zero => exact ho
  | succ k ih =>
    unfold copyN
    refine ih _ (bytesB_append ho ?_) (by simp; omega)
    have hlt : o.length - b < o.length := by omega
    have hm : o.getD (o.length - b) 0 = o[o.length - b] := by simp [List.getD_eq_getElem?_getD, hlt]
    rw [hm]
    have := List.all_eq_true.1 (show o.all byteB = true from ho) _ (List.getElem_mem hlt)
    simp [bytesB, this]
theorem bytesB_sub {l m : List Int} (h : bytesB l = true) (hm : ∀ x ∈ m, x ∈ l) : bytesB m = true :=
  List.all_eq_true.2 fun x hx => List.all_eq_true.1 (show l.all byteB = true from h) x (hm x hx)
theorem unpGo_bytes (f : Nat) (l o x : List Int) (hl : bytesB l = true) (ho : bytesB o = true) (h : unpGo f l o = some x) : bytesB x = true := by
  induction f generalizing l o with
  | zero =>
    cases l with
    | nil => simp only [unpGo, Option.some.injEq] at h; rw [← h]; exact ho
    | cons n t => simp [unpGo] at h
  | succ f ih =>
    cases l with
    | nil => simp only [unpGo, Option.some.injEq] at h; rw [← h]; exact ho
    | cons n t =>
      have ht := bytesB_sub hl (m := t) (fun x hx => by simp [hx])
      unfold unpGo at h
      split at h
      · split at h
        · cases h
        · split at h
          · cases h
          · exact ih _ _ (bytesB_sub ht fun x hx => List.mem_of_mem_drop hx) (bytesB_append ho (bytesB_sub ht fun x hx => List.mem_of_mem_take hx)) h
      · split at h
        · cases t with
          | nil => cases h
          | cons b t' =>
            dsimp only at h
            split at h
            · cases h
            · rename_i hb
              split at h
              · cases h
              · exact ih _ _ (bytesB_sub ht fun x hx => by simp [hx]) (copyN_bytes _ _ _ ho (by omega) (by omega)) h
        · cases h
theorem unp_bytes {l x : List Int} (hl : bytesB l = true) (h : unp l [] = some x) : bytesB x = true := unpGo_bytes _ _ _ _ hl rfl h

/-! What was packed. -/
theorem unp_plainB (f : Nat) (p s o : List Int) (hf : p.length ≤ f) (h : o.length + p.length ≤ 200) : unp (plainB p ++ s) o = unp s (o ++ p) := by
  induction f generalizing p o with
  | zero =>
    have : p = [] := List.length_eq_zero_iff.1 (by omega)
    subst this
    simp [plainB_nil]
  | succ f ih =>
    by_cases hp : p = []
    · subst hp
      simp [plainB_nil]
    · have hl : 0 < p.length := List.length_pos_iff.2 hp
      rw [plainB_step hp]
      have e : (((min 64 p.length : Nat) : Int) - 1).toNat + 1 = min 64 p.length := by omega
      have el : (List.take 64 p).length = min 64 p.length := List.length_take
      rw [List.cons_append, List.append_assoc, unp_plain (by omega) (by rw [e, List.length_append, el]; omega) (by rw [e]; omega), e]
      rw [← el, List.take_left, List.drop_left, ih (p.drop 64) _ (by rw [List.length_drop]; omega) (by rw [List.length_append, el, List.length_drop]; omega)]
      rw [List.append_assoc, List.take_append_drop]
def GoodB (l : List Int) (i : Nat) (s : Nat × Nat) : Prop := 1 ≤ s.1 → s.1 = longN l i s.2 ∧ 1 ≤ s.2
theorem bestFrom_good (l : List Int) (i : Nat) (q : Nat → Bool) (c b : Nat) (s : Nat × Nat) (hs : GoodB l i s) (hb : 1 ≤ b) : GoodB l i (bestFrom l i q c b s) := by
  induction c generalizing b s with
  | zero => exact hs
  | succ c ih =>
    unfold bestFrom
    refine ih (b + 1) _ ?_ (by omega)
    cases q b
    · exact hs
    · simp only [if_true]
      unfold updB
      split
      · exact fun _ => ⟨rfl, hb⟩
      · exact hs
theorem bestN_good {l : List Int} {i : Nat} : GoodB l i (bestN l i) := bestFrom_good l i _ _ 1 (0, 0) (fun h => absurd h (by decide)) (Nat.le_refl _)
theorem copyN_take {l : List Int} {i b : Nat} (k : Nat) (hb1 : 1 ≤ b) (hb : b ≤ i) (hk : i + k ≤ l.length) (hs : ∀ j, j < k → l.getD (i + j) 0 = l.getD (i + j - b) 0) : copyN k b (l.take i) = l.take (i + k) := by
  induction k with
  | zero => rfl
  | succ k ih =>
    rw [copyN_succ, ih (by omega) (fun j hj => hs j (by omega))]
    have hlt : i + k < l.length := by omega
    have hl : (l.take (i + k)).length = i + k := by rw [List.length_take]; omega
    rw [hl, show i + (k + 1) = i + k + 1 by omega, List.take_succ_eq_append_getElem hlt]
    congr 2
    have h1 := hs k (by omega)
    rw [List.getD_eq_getElem?_getD, List.getElem?_eq_getElem hlt] at h1
    simp only [Option.getD_some] at h1
    rw [h1, List.getD_eq_getElem?_getD, List.getD_eq_getElem?_getD, List.getElem?_take_of_lt (by omega)]
theorem unp_packR {l : List Int} (h200 : l.length ≤ 200) (f i : Nat) (p : List Int) (hi : i ≤ l.length) (hf : l.length ≤ i + f) (o : List Int) (hp : o ++ p = l.take i) : unp (packR l f i p) o = some l := by
  induction f generalizing i p o with
  | zero =>
    have hl := congrArg List.length hp
    rw [List.length_append, List.length_take] at hl
    have := unp_plainB p.length p [] o (Nat.le_refl _) (by omega)
    rw [List.append_nil] at this
    simp only [packR]
    rw [this, hp, unp_nil, List.take_of_length_le (by omega)]
  | succ f ih =>
    have hl := congrArg List.length hp
    rw [List.length_append, List.length_take] at hl
    by_cases hlt : i < l.length
    · by_cases hb : (bestN l i).1 < 3
      · rw [packR_plain hlt hb]
        refine ih (i + 1) _ (by omega) (by omega) o ?_
        rw [← List.append_assoc, hp, List.take_succ_eq_append_getElem hlt]
        simp [List.getD_eq_getElem?_getD, hlt]
      · obtain ⟨h1, h2, h3⟩ := bestN_end (l := l) (i := i) hi
        have h4 := h3 (by omega)
        obtain ⟨h5, h6⟩ := bestN_good (l := l) (i := i) (by omega)
        rw [packR_match hlt hb]
        generalize (bestN l i).1 = n at *
        generalize (bestN l i).2 = b at *
        rw [unp_plainB p.length p _ o (Nat.le_refl _) (by omega), hp]
        have hlen : (l.take i).length = i := by rw [List.length_take]; omega
        have en : ((n : Int) + 61 - 61).toNat = n := by omega
        have eb : ((b : Int)).toNat = b := by omega
        simp only [List.cons_append, List.nil_append]
        rw [unp_copy (by omega) (by omega) (by rw [hlen]; omega) (by rw [hlen, en]; omega), en, eb]
        rw [copyN_take n (by omega) (by omega) h1 (fun j hj => by
          have := longGo_same (l := l) (i := i) (b := b) (k := 66) (n := 0) j (Nat.zero_le _) (by rw [h5] at hj; exact hj)
          exact this)]
        exact ih (i + n) [] h1 (by omega) _ (by simp)
    · rw [packR_end (by omega)]
      have := unp_plainB p.length p [] o (Nat.le_refl _) (by omega)
      rw [List.append_nil] at this
      rw [this, hp, unp_nil, List.take_of_length_le (by omega)]
theorem unp_pack {l : List Int} (h : l.length ≤ 200) : unp (packOf l) [] = some l := unp_packR h _ _ _ (Nat.zero_le _) (by omega) _ (by simp)
theorem best_pos {l : List Int} {i : Nat} (h : i ≤ l.length) (hb : ¬ (bestN l i).1 < 3) : 3 ≤ (bestN l i).1 ∧ (bestN l i).1 ≤ 66 ∧ i + (bestN l i).1 ≤ l.length ∧ 1 ≤ (bestN l i).2 ∧ (bestN l i).2 ≤ 200 := by
  obtain ⟨h1, h2, h3⟩ := bestN_end h
  have := h3 (by omega)
  omega
end

section
theorem pairwise_of_adj {α : Type} {R : α → α → Prop} {P : α → Prop} (tr : ∀ a b c, P b → R a b → R b c → R a c) {l : List α} (hP : ∀ x ∈ l, P x)
    (h : ∀ (k : Nat) (hk : k + 1 < l.length), R l[k] l[k + 1]) : l.Pairwise R := by
  rw [List.pairwise_iff_getElem]
  intro i j hi hj hij
  obtain ⟨n, rfl⟩ : ∃ n, j = i + n + 1 := ⟨j - i - 1, by omega⟩
  clear hij
  induction n with
  | zero => exact h i hj
  | succ n ih =>
    have h1 := ih (by omega)
    have h2 := h (i + n + 1) (by omega)
    exact tr _ _ _ (hP _ (List.getElem_mem _)) h1 h2
theorem adj_of_pairwise {α : Type} {R : α → α → Prop} {l : List α} (h : l.Pairwise R) (k : Nat) (hk : k + 1 < l.length) : R l[k] l[k + 1] :=
  (List.pairwise_iff_getElem.1 h) k (k + 1) (by omega) hk (by omega)
theorem part_sub {α : Type} (l : List α) (k : Nat) : (l.take k ++ l.drop (k + 1)).Sublist l := by
  have h : (l.take k ++ l.drop (k + 1)).Sublist (l.take k ++ l.drop k) := by
    refine (List.Sublist.refl _).append ?_
    rw [← List.drop_drop]
    exact List.drop_sublist _ _
  rwa [List.take_append_drop] at h
theorem part_len {α : Type} (l : List α) (k : Nat) (h : k < l.length) : (l.take k ++ l.drop (k + 1)).length = l.length - 1 := by simp; omega
theorem dup_len {α : Type} (l : List α) (k : Nat) (h : k < l.length) : (l.take (k + 1) ++ l.drop k).length = l.length + 1 := by simp; omega
theorem dup_at {α : Type} (l : List α) (k : Nat) (h : k < l.length) : (l.take (k + 1) ++ l.drop k)[k]'(by rw [dup_len l k h]; omega) = l[k] ∧ (l.take (k + 1) ++ l.drop k)[k + 1]'(by rw [dup_len l k h]; omega) = l[k] := by
  constructor
  · rw [List.getElem_append_left (by simp; omega)]; simp
  · rw [List.getElem_append_right (by simp; omega)]; simp [Nat.min_eq_left (show k + 1 ≤ l.length by omega)]

def Ent.lt (a b : Ent) : Prop := a.off < b.off ∧ a.place < b.place
theorem entStep_iff {es : List Ent} {k : Nat} (h : k < es.length) : entStep es k = true ↔ entB es[k] = true ∧ ∀ h0 : 0 < k, Ent.lt (es[k - 1]'(by omega)) es[k] := by
  by_cases h0 : k = 0
  · subst h0; simp [entStep, entAt_eq h]
  · have h1 : k - 1 < es.length := by omega
    have h2 : 0 < k := by omega
    simp [entStep, entAt_eq h, entAt_eq h1, h0, h2, Ent.lt]
theorem entsB_iff (es : List Ent) : entsB es = true ↔ es.length ≤ 8 ∧ (∀ e ∈ es, entB e = true) ∧ es.Pairwise Ent.lt := by
  unfold entsB
  rw [Bool.and_eq_true, allUpto_iff]
  simp only [decide_eq_true_eq]
  constructor
  · rintro ⟨h8, h⟩
    refine ⟨h8, fun e he => ?_, pairwise_of_adj (P := fun _ => True) (fun a b c _ h1 h2 => ⟨Int.lt_trans h1.1 h2.1, Int.lt_trans h1.2 h2.2⟩) (fun _ _ => trivial) (fun k hk => ?_)⟩
    · obtain ⟨i, hi, rfl⟩ := List.getElem_of_mem he
      exact ((entStep_iff hi).1 (h i hi)).1
    · exact ((entStep_iff hk).1 (h (k + 1) hk)).2 (by omega)
  · rintro ⟨h8, h1, h2⟩
    refine ⟨h8, fun k hk => (entStep_iff hk).2 ⟨h1 _ (List.getElem_mem _), fun h0 => ?_⟩⟩
    have h3 := adj_of_pairwise h2 (k - 1) (by omega)
    have e : k - 1 + 1 = k := by omega
    simpa only [e] using h3
theorem entsB_part {es : List Ent} (h : entsB es = true) (k : Nat) : entsB (es.take k ++ es.drop (k + 1)) = true := by
  rw [entsB_iff] at h ⊢
  have hs := part_sub es k
  exact ⟨Nat.le_trans hs.length_le h.1, fun e he => h.2.1 e (hs.subset he), h.2.2.sublist hs⟩
theorem entsB_dup {es : List Ent} (k : Nat) (hk : k < es.length) : entsB (es.take (k + 1) ++ es.drop k) = false := by
  rw [Bool.eq_false_iff]
  intro h
  have h1 := adj_of_pairwise ((entsB_iff _).1 h).2.2 k (by rw [dup_len es k hk]; omega)
  rw [(dup_at es k hk).1, (dup_at es k hk).2] at h1
  exact absurd h1.1 (by omega)

/-! the last entry up to an offset -/
def upB (o : Int) (e : Ent) : Bool := decide (e.off ≤ o)
def findE (es : List Ent) (o : Int) : Option Ent := (es.filter (upB o)).getLast?
theorem findE_nil (o : Int) : findE [] o = none := rfl
theorem findE_snoc_yes (es : List Ent) (o : Int) (e : Ent) (h : e.off ≤ o) : findE (es ++ [e]) o = some e := by
  unfold findE; rw [List.filter_append]; simp [upB, h]
theorem findE_snoc_no (es : List Ent) (o : Int) (e : Ent) (h : o < e.off) : findE (es ++ [e]) o = findE es o := by
  have : ¬ e.off ≤ o := by omega
  unfold findE; rw [List.filter_append]; simp [upB, this]
theorem findE_split (pre post : List Ent) (o : Int) (h1 : ∀ e ∈ pre, e.off ≤ o) (h2 : ∀ e ∈ post, o < e.off) : findE (pre ++ post) o = pre.getLast? := by
  have e1 : pre.filter (upB o) = pre := List.filter_eq_self.2 (fun e he => by simp [upB, h1 e he])
  have e2 : post.filter (upB o) = [] := List.filter_eq_nil_iff.2 (fun e he => by have := h2 e he; simp [upB]; omega)
  unfold findE; rw [List.filter_append, e1, e2, List.append_nil]
theorem findE_mem {es : List Ent} {o : Int} {e : Ent} (h : findE es o = some e) : e ∈ es ∧ e.off ≤ o := by
  have := List.mem_of_getLast? h
  rw [List.mem_filter] at this
  exact ⟨this.1, by simpa [upB] using this.2⟩
theorem findE_most {es : List Ent} {o : Int} {e : Ent} (hs : es.Pairwise Ent.lt) (h : findE es o = some e) : ∀ x ∈ es, x.off ≤ o → x.off ≤ e.off := by
  intro x hx hxo
  have hm : x ∈ es.filter (upB o) := List.mem_filter.2 ⟨hx, by simp [upB, hxo]⟩
  have hp := hs.filter (upB o)
  unfold findE at h
  obtain ⟨l, hl⟩ : ∃ l, es.filter (upB o) = l ++ [e] := by
    rw [List.getLast?_eq_some_iff] at h
    exact h
  rw [hl] at hm hp
  rw [List.pairwise_append] at hp
  rcases List.mem_append.1 hm with h1 | h1
  · have := hp.2.2 x h1 e (by simp)
    have := this.1
    omega
  · simp at h1; subst h1; omega
theorem findE_when {es : List Ent} {o : Int} (hs : es.Pairwise Ent.lt) : (findE es o).isSome = (decide (0 < es.length) && decide ((entAt es 0).off ≤ o)) := by
  cases es with
  | nil => rfl
  | cons a t =>
    have e0 : entAt (a :: t) 0 = a := rfl
    rw [e0]
    by_cases h : a.off ≤ o
    · have : (findE (a :: t) o).isSome = true := by
        cases hf : findE (a :: t) o with
        | some _ => rfl
        | none =>
          unfold findE at hf
          rw [List.getLast?_eq_none_iff] at hf
          have := List.filter_eq_nil_iff.1 hf a (by simp)
          simp [upB, h] at this
      rw [this]; simp [h]
    · have : findE (a :: t) o = none := by
        unfold findE
        rw [List.getLast?_eq_none_iff, List.filter_eq_nil_iff]
        intro x hx
        rcases List.mem_cons.1 hx with rfl | hx
        · simp [upB, h]
        · have := (List.pairwise_cons.1 hs).1 x hx
          have := this.1
          simp [upB]; omega
      rw [this]; simp [h]
end

section
def allRecs (bs : List Bat) : List Rec := bs.flatMap (·.recs)
def Rec.lt (a b : Rec) : Prop := a.off < b.off
def Bat.lt (a b : Bat) : Prop := a.last < b.first

theorem recStep_iff {rs : List Rec} {k : Nat} (h : k < rs.length) : recStep rs k = true ↔ recB rs[k] = true ∧ ∀ h0 : 0 < k, Rec.lt (rs[k - 1]'(by omega)) rs[k] := by
  by_cases h0 : k = 0
  · subst h0; simp [recStep, recAt_eq h]
  · have h1 : k - 1 < rs.length := by omega
    have h2 : 0 < k := by omega
    simp [recStep, recAt_eq h, recAt_eq h1, h0, h2, Rec.lt]
theorem recsB_iff (rs : List Rec) : recsB rs = true ↔ (∀ r ∈ rs, recB r = true) ∧ rs.Pairwise Rec.lt := by
  unfold recsB
  rw [allUpto_iff]
  constructor
  · intro h
    refine ⟨fun r hr => ?_, pairwise_of_adj (R := Rec.lt) (P := fun _ => True) (fun a b c _ h1 h2 => (Int.lt_trans h1 h2 : a.off < c.off)) (fun _ _ => trivial) (fun k hk => ?_)⟩
    · obtain ⟨i, hi, rfl⟩ := List.getElem_of_mem hr
      exact ((recStep_iff hi).1 (h i hi)).1
    · exact ((recStep_iff hk).1 (h (k + 1) hk)).2 (Nat.succ_pos k)
  · rintro ⟨h1, h2⟩
    intro k hk
    refine (recStep_iff hk).2 ⟨h1 _ (List.getElem_mem _), fun h0 => ?_⟩
    have h3 := adj_of_pairwise h2 (k - 1) (by omega)
    have e : k - 1 + 1 = k := by omega
    simpa only [e] using h3
theorem batB_recs {b : Bat} (h : batB b = true) : recsB b.recs = true := by
  simp only [batB, Bool.and_eq_true] at h; exact h.2
theorem batB_len {b : Bat} (h : batB b = true) : 1 ≤ b.recs.length ∧ b.recs.length ≤ 6 := by
  simp only [batB, manyB, Bool.and_eq_true] at h
  have := h.1.2.1
  simp [inB] at this
  omega
theorem batB_mark {b : Bat} (h : batB b = true) (hm : b.mark = true) : b.recs.length = 1 := by
  simp only [batB, manyB, Bool.and_eq_true] at h
  have := h.1.2.2
  simpa [hm] using this
theorem first_eq {b : Bat} (h : 0 < b.recs.length) : b.first = (b.recs[0]).off := by unfold Bat.first; rw [recAt_eq h]
theorem last_eq {b : Bat} (h : 0 < b.recs.length) : b.last = (b.recs[b.recs.length - 1]'(by omega)).off := by unfold Bat.last; rw [recAt_eq (by omega)]
/-- Each offset of a valid batch lies between the first and the last one. -/
theorem off_between {b : Bat} (h : batB b = true) {r : Rec} (hr : r ∈ b.recs) : b.first ≤ r.off ∧ r.off ≤ b.last := by
  have hp := ((recsB_iff _).1 (batB_recs h)).2
  have h0 := batB_pos h
  rw [first_eq h0, last_eq h0]
  obtain ⟨i, hi, rfl⟩ := List.getElem_of_mem hr
  have hp' := List.pairwise_iff_getElem.1 hp
  constructor
  · rcases Nat.eq_zero_or_pos i with rfl | h1
    · exact Int.le_refl _
    · exact Int.le_of_lt (hp' 0 i h0 hi h1)
  · by_cases h1 : i = b.recs.length - 1
    · subst h1; exact Int.le_refl _
    · exact Int.le_of_lt (hp' i (b.recs.length - 1) hi (by omega) (by omega))
theorem first_le_last {b : Bat} (h : batB b = true) : b.first ≤ b.last := by
  have h0 := batB_pos h
  have := off_between h (List.getElem_mem (l := b.recs) (n := 0) h0)
  omega
theorem batStep_iff {bs : List Bat} {k : Nat} (h : k < bs.length) : batStep bs k = true ↔ batB bs[k] = true ∧ ∀ h0 : 0 < k, Bat.lt (bs[k - 1]'(by omega)) bs[k] := by
  by_cases h0 : k = 0
  · subst h0; simp [batStep, batAt_eq h]
  · have h1 : k - 1 < bs.length := by omega
    have h2 : 0 < k := by omega
    simp [batStep, batAt_eq h, batAt_eq h1, h0, h2, Bat.lt]
theorem logB_iff (bs : List Bat) : logB bs = true ↔ bs.length ≤ 8 ∧ (∀ b ∈ bs, batB b = true) ∧ bs.Pairwise Bat.lt := by
  unfold logB
  rw [Bool.and_eq_true, allUpto_iff]
  simp only [decide_eq_true_eq]
  constructor
  · rintro ⟨h8, h⟩
    have hb : ∀ b ∈ bs, batB b = true := by
      intro b hb
      obtain ⟨i, hi, rfl⟩ := List.getElem_of_mem hb
      exact ((batStep_iff hi).1 (h i hi)).1
    refine ⟨h8, hb, pairwise_of_adj (R := Bat.lt) (P := fun b => batB b = true) (fun a b c hP h1 h2 => ?_) hb (fun k hk => ?_)⟩
    · have := first_le_last hP
      unfold Bat.lt at *
      omega
    · exact ((batStep_iff hk).1 (h (k + 1) hk)).2 (by omega)
  · rintro ⟨h8, h1, h2⟩
    refine ⟨h8, fun k hk => (batStep_iff hk).2 ⟨h1 _ (List.getElem_mem _), fun h0 => ?_⟩⟩
    have h3 := adj_of_pairwise h2 (k - 1) (by omega)
    have e : k - 1 + 1 = k := by omega
    simpa only [e] using h3
theorem logB_part {bs : List Bat} (h : logB bs = true) (k : Nat) : logB (bs.take k ++ bs.drop (k + 1)) = true := by
  rw [logB_iff] at h ⊢
  have hs := part_sub bs k
  exact ⟨Nat.le_trans hs.length_le h.1, fun e he => h.2.1 e (hs.subset he), h.2.2.sublist hs⟩
theorem logB_dup {bs : List Bat} (k : Nat) (hk : k < bs.length) : logB (bs.take (k + 1) ++ bs.drop k) = false := by
  rw [Bool.eq_false_iff]
  intro h
  have h' := (logB_iff _).1 h
  have h1 := adj_of_pairwise h'.2.2 k (by rw [dup_len bs k hk]; omega)
  rw [(dup_at bs k hk).1, (dup_at bs k hk).2] at h1
  have hb : bs[k] ∈ bs.take (k + 1) ++ bs.drop k := List.mem_append_right _ (by rw [List.mem_drop_iff_getElem]; exact ⟨0, by omega, by simp⟩)
  have := first_le_last (h'.2.1 _ hb)
  unfold Bat.lt at h1
  omega
theorem logB_take {bs : List Bat} (h : logB bs = true) (k : Nat) : logB (bs.take k) = true := by
  rw [logB_iff] at h ⊢
  have hs := List.take_sublist k bs
  exact ⟨Nat.le_trans hs.length_le h.1, fun e he => h.2.1 e (hs.subset he), h.2.2.sublist hs⟩
/-- The offsets of all records of a valid segment ascend. -/
theorem allRecs_up {bs : List Bat} (h : logB bs = true) : (allRecs bs).Pairwise Rec.lt := by
  obtain ⟨_, hb, hp⟩ := (logB_iff _).1 h
  unfold allRecs
  rw [List.pairwise_flatMap]
  refine ⟨fun b hm => ((recsB_iff _).1 (batB_recs (hb b hm))).2, ?_⟩
  rw [List.pairwise_iff_getElem] at hp ⊢
  intro i j hi hj hij x hx y hy
  have h1 := off_between (hb _ (List.getElem_mem hi)) hx
  have h2 := off_between (hb _ (List.getElem_mem hj)) hy
  have := hp i j hi hj hij
  unfold Bat.lt at this
  unfold Rec.lt
  omega
theorem allRecs_recB {bs : List Bat} (h : logB bs = true) : ∀ r ∈ allRecs bs, recB r = true := by
  intro r hr
  obtain ⟨b, hb, hr'⟩ := List.mem_flatMap.1 hr
  exact ((recsB_iff _).1 (batB_recs (((logB_iff _).1 h).2.1 b hb))).1 r hr'
theorem recB_bounds {r : Rec} (h : recB r = true) : 0 ≤ r.off ∧ r.off ≤ 99999 ∧ 0 ≤ r.time ∧ r.time ≤ 99999 := by
  simp only [recB, baseB, inB, Bool.and_eq_true, decide_eq_true_eq] at h
  omega
theorem allRecs_snoc (bs : List Bat) (b : Bat) : allRecs (bs ++ [b]) = allRecs bs ++ b.recs := by simp [allRecs]
theorem allRecs_len {bs : List Bat} (h : logB bs = true) : (allRecs bs).length ≤ 48 := by
  obtain ⟨h8, hb, _⟩ := (logB_iff _).1 h
  have : ∀ l : List Bat, (∀ b ∈ l, batB b = true) → (allRecs l).length ≤ 6 * l.length := by
    intro l
    induction l with
    | nil => intro _; simp [allRecs]
    | cons a t ih =>
      intro hl
      have h1 := ih (fun b hb => hl b (by simp [hb]))
      have h2 := (batB_len (hl a (by simp))).2
      have : allRecs (a :: t) = a.recs ++ allRecs t := rfl
      rw [this]; simp; omega
  have := this bs hb
  omega

/-! what the functions compute -/
def timeB (t : Int) (r : Rec) : Bool := decide (t ≤ r.time)
def offOr (o : Option Rec) : Int := match o with | some r => r.off | none => -1
def findT (rs : List Rec) (t : Int) : Int := offOr (rs.find? (timeB t))
def timesFind (bs : List Bat) (t : Int) : Int := if logB bs then findT (allRecs bs) t else -1
def spanB (f t : Int) (r : Rec) : Bool := decide (f ≤ r.time) && decide (r.time < t)
def cntT (rs : List Rec) (f t : Int) : Nat := (rs.filter (spanB f t)).length
def timesCount (bs : List Bat) (f t : Int) : Int := if logB bs then (cntT (allRecs bs) f t : Int) else -1
def endOf (bs : List Bat) : Int := if bs.length = 0 then 0 else (batAt bs (bs.length - 1)).last + 1
def readEnd (bs : List Bat) : Int := if logB bs then endOf bs else -1
def offB (o : Int) (r : Rec) : Bool := r.off == o
def readOne (bs : List Bat) (o : Int) : Option Rec := if logB bs then (allRecs bs).find? (offB o) else none

theorem cntT_le (rs : List Rec) (f t : Int) : cntT rs f t ≤ rs.length := List.length_filter_le _ _
theorem cntT_split (rs : List Rec) (f k t : Int) (h1 : f ≤ k) (h2 : k ≤ t) : cntT rs f k + cntT rs k t = cntT rs f t := by
  unfold cntT
  induction rs with
  | nil => rfl
  | cons r rs ih =>
    simp only [List.filter_cons, spanB]
    by_cases a : f ≤ r.time <;> by_cases b : r.time < k <;> by_cases c : k ≤ r.time <;> by_cases d : r.time < t <;>
      simp only [a, b, c, d, decide_true, decide_false, Bool.and_true, Bool.and_false, Bool.false_and, Bool.true_and, if_true, if_false, List.length_cons, Bool.false_eq_true] <;> first | omega | (exfalso; omega)
theorem cntT_all (rs : List Rec) (h : ∀ r ∈ rs, recB r = true) : cntT rs 0 100000 = rs.length := by
  unfold cntT
  rw [List.filter_eq_self.2]
  intro r hr
  have := recB_bounds (h r hr)
  simp [spanB]; omega
end
end Go.Proofs.YtgnjnpfeofhniaaDoor
