/- Plain laws of appending. No program in sight. -/
import Derived.Test.YtlgcajjoimcdhaaPr
namespace Go.Proofs.Ytlgcajjoimcdhaa
set_option linter.unusedVariables false
set_option linter.unusedSimpArgs false

def Rec.onto (r : Rec) (o : Int) : Rec := ⟨o, r.time, r.hk, r.key, r.hv, r.val⟩
def Bat.holding (b : Bat) (rs : List Rec) : Bat := ⟨b.packed, b.mark, b.prod, b.epoch, b.seq, rs⟩
/-- The first k records with the next offsets. -/
def renTo (rs : List Rec) (n : Int) (k : Nat) : List Rec := (List.range k).map fun (j : Nat) => (recAt rs j).onto (n + (j : Int))
def renum (rs : List Rec) (n : Int) : List Rec := renTo rs n rs.length
theorem renTo_len (rs : List Rec) (n : Int) (k : Nat) : (renTo rs n k).length = k := by simp [renTo]
theorem renTo_zero (rs : List Rec) (n : Int) : renTo rs n 0 = [] := rfl
theorem renTo_succ (rs : List Rec) (n : Int) (k : Nat) (h : k < rs.length) : renTo rs n (k + 1) = renTo rs n k ++ [rs[k].onto (n + (k : Int))] := by
  unfold renTo
  rw [List.range_succ, List.map_append, List.map_cons, List.map_nil, recAt_eq h]
theorem renum_len (rs : List Rec) (n : Int) : (renum rs n).length = rs.length := renTo_len _ _ _
theorem renTo_at (rs : List Rec) (n : Int) (k j : Nat) (h : j < (renTo rs n k).length) (hj : j < rs.length) : (renTo rs n k)[j] = rs[j].onto (n + (j : Int)) := by
  simp [renTo, recAt_eq hj]
theorem renum_at (rs : List Rec) (n : Int) (j : Nat) (h : j < (renum rs n).length) : (renum rs n)[j] = (rs[j]'(by rw [renum_len] at h; exact h)).onto (n + (j : Int)) := renTo_at _ _ _ _ _ _
theorem renum_renum (rs : List Rec) (m n : Int) : renum (renum rs m) n = renum rs n := by
  refine List.ext_getElem (by simp [renum_len]) fun j h1 h2 => ?_
  rw [renum_at, renum_at, renum_at]
  rfl
/-- The first k records written over. -/
def renUp (rs : List Rec) (n : Int) : Nat → List Rec
  | 0 => rs
  | k + 1 => (renUp rs n k).set k ((recAt rs k).onto (n + (k : Int)))
theorem renUp_len (rs : List Rec) (n : Int) (k : Nat) : (renUp rs n k).length = rs.length := by
  induction k with
  | zero => rfl
  | succ k ih => rw [renUp, List.length_set, ih]
theorem renUp_at (rs : List Rec) (n : Int) (k j : Nat) (h : j < (renUp rs n k).length) (hj : j < rs.length) : (renUp rs n k)[j] = if j < k then rs[j].onto (n + (j : Int)) else rs[j] := by
  induction k with
  | zero => simp [renUp]
  | succ k ih =>
    have hl : j < (renUp rs n k).length := by rw [renUp_len]; exact hj
    by_cases e : k = j
    · subst e
      simp [renUp, recAt_eq hj]
    · have h1 : (renUp rs n (k + 1))[j] = (renUp rs n k)[j] := by
        simp only [renUp]
        rw [List.getElem_set_ne e]
      rw [h1, ih hl]
      by_cases hk : j < k
      · rw [if_pos hk, if_pos (by omega)]
      · rw [if_neg hk, if_neg (by omega)]
theorem renUp_all (rs : List Rec) (n : Int) : renUp rs n rs.length = renum rs n := by
  refine List.ext_getElem (by simp [renUp_len, renum_len]) fun j h1 h2 => ?_
  have hj : j < rs.length := by rw [renUp_len] at h1; exact h1
  rw [renUp_at rs n rs.length j h1 hj, renum_at, if_pos hj]
theorem renUp_next (rs : List Rec) (n : Int) (k : Nat) (h : k < rs.length) : ∃ h' : k < (renUp rs n k).length, (renUp rs n k)[k] = rs[k] ∧ renUp rs n (k + 1) = (renUp rs n k).set k (rs[k].onto (n + (k : Int))) := by
  refine ⟨by rw [renUp_len]; exact h, ?_, ?_⟩
  · rw [renUp_at rs n k k _ h, if_neg (by omega)]
  · rw [renUp, recAt_eq h]
theorem renum_recB {rs : List Rec} {n : Int} : ∀ r ∈ renum rs n, ∃ s ∈ rs, r.key = s.key ∧ r.val = s.val := by
  intro r hr
  obtain ⟨j, hj, rfl⟩ := List.getElem_of_mem hr
  rw [renum_at]
  exact ⟨_, List.getElem_mem _, rfl, rfl⟩

/-- Where the next record goes. -/
def nextOff (bs : List Bat) : Int := readEnd bs
def appd (bs : List Bat) (b : Bat) : List Bat := bs ++ [b.holding (renum b.recs (readEnd bs))]
def appB (bs : List Bat) (b : Bat) : Bool := logB bs && batB b && logB (appd bs b)
def logAppend (bs : List Bat) (b : Bat) : List Bat := if appB bs b then appd bs b else []
theorem appd_len (bs : List Bat) (b : Bat) : (appd bs b).length = bs.length + 1 := by simp [appd]
theorem appd_last (bs : List Bat) (b : Bat) : (appd bs b)[(appd bs b).length - 1]? = some (b.holding (renum b.recs (readEnd bs))) := by
  rw [appd_len]; simp [appd]
theorem appB_log {bs : List Bat} {b : Bat} (h : appB bs b = true) : logB bs = true ∧ batB b = true ∧ logB (appd bs b) = true := by
  unfold appB at h
  simp only [Bool.and_eq_true] at h
  exact ⟨h.1.1, h.1.2, h.2⟩
theorem appd_again (bs : List Bat) (b : Bat) : appd bs (b.holding (renum b.recs (readEnd bs))) = appd bs b := by
  unfold appd Bat.holding
  rw [renum_renum]
theorem appB_again {bs : List Bat} {b : Bat} (h : appB bs b = true) : appB bs (b.holding (renum b.recs (readEnd bs))) = true := by
  obtain ⟨h1, h2, h3⟩ := appB_log h
  unfold appB
  rw [appd_again, h1, h3]
  have := ((logB_iff _).1 h3).2.1 (b.holding (renum b.recs (readEnd bs))) (by simp [appd])
  rw [this]
  rfl
theorem logAppend_yes {bs : List Bat} {b : Bat} (h : appB bs b = true) : logAppend bs b = appd bs b := if_pos h
theorem logAppend_no {bs : List Bat} {b : Bat} (h : appB bs b = false) : logAppend bs b = [] := by unfold logAppend; rw [h]; rfl
end Go.Proofs.Ytlgcajjoimcdhaa
