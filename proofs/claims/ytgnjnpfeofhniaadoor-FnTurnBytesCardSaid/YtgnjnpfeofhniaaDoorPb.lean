/- Batches as bytes, in plain words. Plain laws: segments as bytes, indexes of segments, reading batches. No program in sight. -/
import Derived.Test.YtgnjnpfeofhniaaDoorSc
import Derived.Test.YtgnjnpfeofhniaaDoorPn
namespace Go.Proofs.YtgnjnpfeofhniaaDoor
set_option linter.unusedVariables false
set_option linter.unusedSimpArgs false
section
open Go.RowKit

theorem vb_bytes {f : Int} (h0 : 0 ≤ f) (h1 : f ≤ 2000000) : bytesB (vb f) = true := by
  unfold vb
  split
  · simp [bytesB, byteB]; omega
  · split
    · simp [bytesB, byteB]; omega
    · simp [bytesB, byteB]; omega
theorem varB_bytes {n : Int} (h : -1000000 ≤ n ∧ n ≤ 1000000) : bytesB (varB n) = true := vb_bytes (fold_range h).1 (fold_range h).2
theorem varB_one {n : Int} (h : -1 ≤ n ∧ n ≤ 63) : (varB n).length = 1 := by
  unfold varB
  rw [vb_small (by unfold foldV; split <;> omega)]
  rfl
theorem partP_len13 {has : Bool} {k : List Int} (h : partB has k = true) : (partP has k).length ≤ 13 := by
  have h1 := (partB_len h).1
  unfold partP
  split
  · rw [List.length_append, varB_one (by omega)]; omega
  · rw [varB_one (by omega)]; omega
theorem partP_bytes {has : Bool} {k : List Int} (h : partB has k = true) : bytesB (partP has k) = true := by
  have h1 := (partB_len h).1
  unfold partP
  cases has
  · exact varB_bytes (by omega)
  · refine bytesB_append (varB_bytes (by omega)) ?_
    simp [partB] at h
    exact h.2
theorem bodyB_len32 {r : Rec} {o t : Int} (h : recB r = true) : (bodyB r o t).length ≤ 32 := by
  obtain ⟨_, _, h3, h4⟩ := recB_parts h
  have l1 := (varB_len (r.time - t)).2
  have l2 := (varB_len (r.off - o)).2
  have l3 := partP_len13 h3
  have l4 := partP_len13 h4
  unfold bodyB
  simp only [List.length_append]
  omega
theorem recBytes_len33 {r : Rec} {o t : Int} (h : recB r = true) : (recBytes r o t).length ≤ 33 := by
  have := bodyB_len32 (o := o) (t := t) h
  unfold recBytes
  rw [List.length_append, varB_one (by omega)]
  omega
theorem recBytes_bytes {r : Rec} {o t : Int} (h : recB r = true) (ho : 0 ≤ o ∧ o ≤ 99999) (ht : 0 ≤ t ∧ t ≤ 99999) : bytesB (recBytes r o t) = true := by
  obtain ⟨h1, h2, h3, h4⟩ := recB_parts h
  have := bodyB_len32 (o := o) (t := t) h
  unfold recBytes bodyB
  exact bytesB_append (varB_bytes (by unfold bodyB at this; omega)) (bytesB_append (bytesB_append (bytesB_append (varB_bytes (by omega)) (varB_bytes (by omega))) (partP_bytes h3)) (partP_bytes h4))

def Bat.base (b : Bat) : Int := (recAt b.recs 0).time
def rowsB (rs : List Rec) (o t : Int) : List Int := rs.flatMap (fun r => recBytes r o t)
theorem rowsB_nil (o t : Int) : rowsB [] o t = [] := rfl
theorem rowsB_cons (r : Rec) (rs : List Rec) (o t : Int) : rowsB (r :: rs) o t = recBytes r o t ++ rowsB rs o t := by simp [rowsB]
theorem rowsB_take {rs : List Rec} {o t : Int} {k : Nat} (h : k < rs.length) : rowsB (rs.take (k + 1)) o t = rowsB (rs.take k) o t ++ recBytes rs[k] o t := by
  unfold rowsB
  rw [List.take_succ_eq_append_getElem h, List.flatMap_append]
  simp
theorem rowsB_len {rs : List Rec} {o t : Int} (h : ∀ r ∈ rs, recB r = true) : (rowsB rs o t).length ≤ 33 * rs.length := by
  induction rs with
  | nil => simp [rowsB]
  | cons r t ih =>
    rw [rowsB_cons, List.length_append, List.length_cons]
    have := recBytes_len33 (o := o) (t := by assumption) (h r (by simp))
    have := ih (fun q hq => h q (by simp [hq]))
    omega
theorem rowsB_bytes {rs : List Rec} {o t : Int} (h : ∀ r ∈ rs, recB r = true) (ho : 0 ≤ o ∧ o ≤ 99999) (ht : 0 ≤ t ∧ t ≤ 99999) : bytesB (rowsB rs o t) = true := by
  induction rs with
  | nil => rfl
  | cons r u ih =>
    rw [rowsB_cons]
    exact bytesB_append (recBytes_bytes (h r (by simp)) ho ht) (ih (fun q hq => h q (by simp [hq])))
def Bat.rows (b : Bat) : List Int := rowsB b.recs b.first b.base
def Bat.body (b : Bat) : List Int := if b.packed then packOf b.rows else b.rows
def Bat.flags (b : Bat) : Int := (if b.packed then 1 else 0) + (if b.mark then 2 else 0)
def Bat.rest (b : Bat) : List Int := [b.flags, b.prod, b.epoch] ++ intB2 b.seq ++ intB3 b.base ++ [(b.recs.length : Int), 0, 0] ++ b.body
def batBytes (b : Bat) : List Int := intB3 b.first ++ intB2 b.rest.length ++ intB2 (sumB b.rest) ++ b.rest

theorem batB_parts {b : Bat} (h : batB b = true) : headB b = true ∧ (1 ≤ b.recs.length ∧ b.recs.length ≤ 6) ∧ (∀ r ∈ b.recs, recB r = true) := by
  have hp := batB_pos h
  simp only [batB, manyB, Bool.and_eq_true] at h
  refine ⟨h.1.1, ⟨hp, ?_⟩, fun r hr => ?_⟩
  · have := h.1.2.1
    simp [inB] at this
    omega
  · obtain ⟨k, hk, rfl⟩ := List.getElem_of_mem hr
    have := allUpto_iff.1 h.2 k hk
    simp only [recStep, Bool.and_eq_true] at this
    rw [recAt_eq hk] at this
    exact this.1
theorem headB_range {b : Bat} (h : headB b = true) : (0 ≤ b.prod ∧ b.prod ≤ 255) ∧ (0 ≤ b.epoch ∧ b.epoch ≤ 99) ∧ (0 ≤ b.seq ∧ b.seq ≤ 9999) := by
  unfold headB at h
  split at h
  · rename_i hp
    simp at hp h
    omega
  · simp [inB] at h
    omega
theorem batB_base {b : Bat} (h : batB b = true) : (0 ≤ b.first ∧ b.first ≤ 99999) ∧ (0 ≤ b.base ∧ b.base ≤ 99999) := by
  obtain ⟨_, ⟨h1, _⟩, h2⟩ := batB_parts h
  have h3 := h2 _ (List.getElem_mem (show 0 < b.recs.length by omega))
  obtain ⟨h4, h5, _⟩ := recB_parts h3
  unfold Bat.first Bat.base
  rw [recAt_eq (show 0 < b.recs.length by omega)]
  exact ⟨h4, h5⟩
theorem rows_len {b : Bat} (h : batB b = true) : b.rows.length ≤ 198 := by
  obtain ⟨_, ⟨_, h1⟩, h2⟩ := batB_parts h
  have := rowsB_len (o := b.first) (t := b.base) h2
  unfold Bat.rows
  omega
theorem rows_bytes {b : Bat} (h : batB b = true) : bytesB b.rows = true := rowsB_bytes (batB_parts h).2.2 (batB_base h).1 (batB_base h).2
theorem body_len {b : Bat} (h : batB b = true) : b.body.length ≤ 396 := by
  have h1 := rows_len h
  have h2 := packOf_len b.rows
  unfold Bat.body
  split <;> omega
theorem body_bytes {b : Bat} (h : batB b = true) : bytesB b.body = true := by
  unfold Bat.body
  split
  · exact packOf_bytes (rows_bytes h)
  · exact rows_bytes h
theorem flags_range (b : Bat) : 0 ≤ b.flags ∧ b.flags ≤ 3 := by
  unfold Bat.flags
  cases b.packed <;> cases b.mark <;> simp
theorem bytesB_cons {x : Int} {l : List Int} (hx : 0 ≤ x ∧ x ≤ 255) (hl : bytesB l = true) : bytesB (x :: l) = true := by
  unfold bytesB at *
  rw [List.all_cons, hl]
  simp [byteB, hx]
theorem rest_bytes {b : Bat} (h : batB b = true) : bytesB b.rest = true := by
  obtain ⟨h1, h2, _⟩ := batB_parts h
  obtain ⟨p1, p2, p3⟩ := headB_range h1
  have hf := flags_range b
  unfold Bat.rest
  refine bytesB_append (bytesB_append (bytesB_append (bytesB_append ?_ (intB2_bytes _)) (intB3_bytes _)) ?_) (body_bytes h)
  · exact bytesB_cons (by omega) (bytesB_cons (by omega) (bytesB_cons (by omega) rfl))
  · exact bytesB_cons (by omega) (bytesB_cons (by omega) (bytesB_cons (by omega) rfl))
theorem rest_len (b : Bat) : b.rest.length = 11 + b.body.length := by
  unfold Bat.rest intB2 intB3
  simp only [List.length_append, List.length_cons, List.length_nil]
theorem batBytes_len (b : Bat) : (batBytes b).length = 18 + b.body.length := by
  have := rest_len b
  unfold batBytes intB2 intB3
  simp only [List.length_append, List.length_cons, List.length_nil]
  omega
theorem batBytes_bytes {b : Bat} (h : batB b = true) : bytesB (batBytes b) = true := by
  unfold batBytes
  exact bytesB_append (bytesB_append (bytesB_append (intB3_bytes _) (intB2_bytes _)) (intB2_bytes _)) (rest_bytes h)
/-- The bytes of a batch, none if it is invalid. -/
def batOut (b : Bat) : List Int := if batB b then batBytes b else []
theorem batOut_yes {b : Bat} (h : batB b = true) : batOut b = batBytes b := by unfold batOut; rw [h]; rfl
theorem batOut_no {b : Bat} (h : batB b = false) : batOut b = [] := by unfold batOut; rw [h]; rfl
theorem batOut_bytes (b : Bat) : bytesB (batOut b) = true := by
  cases h : batB b
  · rw [batOut_no h]; rfl
  · rw [batOut_yes h]; exact batBytes_bytes h
theorem batOut_len (b : Bat) : (batOut b).length ≤ 414 := by
  cases h : batB b
  · rw [batOut_no h]; simp
  · rw [batOut_yes h, batBytes_len]; have := body_len h; omega
theorem first_getElem {b : Bat} (h : 0 < b.recs.length) : b.first = b.recs[0].off ∧ b.base = b.recs[0].time := by
  unfold Bat.first Bat.base
  rw [recAt_eq h]
  exact ⟨rfl, rfl⟩
end

section
def logCat (bs : List Bat) : List Int := bs.flatMap batBytes
def logOut (bs : List Bat) : List Int := if logB bs = true then logCat bs else []
theorem logCat_nil : logCat [] = [] := rfl
theorem logCat_append (xs ys : List Bat) : logCat (xs ++ ys) = logCat xs ++ logCat ys := by simp [logCat]
theorem logCat_one (b : Bat) : logCat [b] = batBytes b := by simp [logCat]
theorem logCat_take {bs : List Bat} {k : Nat} (h : k < bs.length) : logCat (bs.take (k + 1)) = logCat (bs.take k) ++ batBytes bs[k] := by
  rw [List.take_succ_eq_append_getElem h, logCat_append, logCat_one]
theorem batBytes_le {b : Bat} (h : batB b = true) : (batBytes b).length ≤ 414 := by
  have := body_len h
  rw [batBytes_len]; omega
theorem logCat_len {bs : List Bat} (h : ∀ b ∈ bs, batB b = true) : (logCat bs).length ≤ 414 * bs.length := by
  induction bs with
  | nil => simp [logCat]
  | cons b bs ih =>
    have h1 := ih (fun x hx => h x (List.mem_cons_of_mem _ hx))
    have h2 := batBytes_le (h b (List.mem_cons_self))
    rw [show b :: bs = [b] ++ bs from rfl, logCat_append, logCat_one]
    simp only [List.length_append, List.length_cons, List.length_nil]
    omega
theorem logCat_bytes {bs : List Bat} (h : ∀ b ∈ bs, batB b = true) : bytesB (logCat bs) = true := by
  unfold logCat
  unfold bytesB; rw [List.all_eq_true]
  intro x hx
  obtain ⟨b, hb, hx⟩ := List.mem_flatMap.1 hx
  exact (List.all_eq_true.1 (batBytes_bytes (h b hb))) x hx
theorem logOut_yes {bs : List Bat} (h : logB bs = true) : logOut bs = logCat bs := by unfold logOut; rw [if_pos h]
theorem logOut_no {bs : List Bat} (h : logB bs = false) : logOut bs = [] := by unfold logOut; rw [if_neg (by simp [h])]
theorem logB_all {bs : List Bat} (h : logB bs = true) : bs.length ≤ 8 ∧ ∀ b ∈ bs, batB b = true := ⟨((logB_iff _).1 h).1, ((logB_iff _).1 h).2.1⟩
theorem logCat_len8 {bs : List Bat} (h : logB bs = true) : (logCat bs).length ≤ 3312 := by
  have h1 := logCat_len (logB_all h).2
  have h2 := (logB_all h).1
  omega
theorem logOut_len (bs : List Bat) : (logOut bs).length ≤ 3312 := by
  unfold logOut
  split
  · rename_i h; exact logCat_len8 h
  · simp
theorem logCat_take_len {bs : List Bat} (h : logB bs = true) (k : Nat) : (logCat (bs.take k)).length ≤ 3312 := logCat_len8 (logB_take h k)

/-- The place of a batch. -/
def placeAt (bs : List Bat) (k : Nat) : Int := ((logCat (bs.take k)).length : Int)
theorem placeAt_zero (bs : List Bat) : placeAt bs 0 = 0 := by simp [placeAt, logCat]
theorem placeAt_succ {bs : List Bat} {k : Nat} (h : k < bs.length) : placeAt bs (k + 1) = placeAt bs k + ((batBytes bs[k]).length : Int) := by
  unfold placeAt; rw [logCat_take h]; simp
theorem placeAt_range {bs : List Bat} (h : logB bs = true) (k : Nat) : 0 ≤ placeAt bs k ∧ placeAt bs k ≤ 3312 := by
  have := logCat_take_len h k
  unfold placeAt; omega
theorem placeAt_step {bs : List Bat} {k : Nat} (h : k < bs.length) : placeAt bs k + 18 ≤ placeAt bs (k + 1) := by
  rw [placeAt_succ h, batBytes_len]; omega
theorem placeAt_mono {bs : List Bat} {j k : Nat} (h : j ≤ k) : placeAt bs j ≤ placeAt bs k := by
  unfold placeAt
  have : ((logCat (bs.take j)).length : Int) ≤ ((logCat (bs.take k)).length : Int) := by
    have e : bs.take k = bs.take j ++ (bs.drop j).take (k - j) := by
      rw [← List.take_add]; congr 1; omega
    rw [e, logCat_append, List.length_append]; omega
  exact this
def farP (e : Int) (out : List Ent) (p : Int) : Prop := out = [] ∨ e ≤ p - (entAt out (out.length - 1)).place
instance (e : Int) (out : List Ent) (p : Int) : Decidable (farP e out p) := by unfold farP; infer_instance
/-- The entries of the first batches. -/
def idxTo (bs : List Bat) (e : Int) : Nat → List Ent
  | 0 => []
  | k + 1 => if farP e (idxTo bs e k) (placeAt bs k) then idxTo bs e k ++ [⟨(batAt bs k).first, placeAt bs k⟩] else idxTo bs e k
theorem idxTo_yes {bs : List Bat} {e : Int} {k : Nat} (hk : k < bs.length) (h : farP e (idxTo bs e k) (placeAt bs k)) : idxTo bs e (k + 1) = idxTo bs e k ++ [⟨bs[k].first, placeAt bs k⟩] := by
  rw [idxTo, if_pos h, batAt_eq hk]
theorem idxTo_no {bs : List Bat} {e : Int} {k : Nat} (h : ¬ farP e (idxTo bs e k) (placeAt bs k)) : idxTo bs e (k + 1) = idxTo bs e k := by rw [idxTo, if_neg h]
theorem idxTo_len (bs : List Bat) (e : Int) (k : Nat) : (idxTo bs e k).length ≤ k := by
  induction k with
  | zero => simp [idxTo]
  | succ k ih =>
    unfold idxTo
    split
    · rw [List.length_append]; simp; exact ih
    · omega
def idxOk (bs : List Bat) (e : Int) : Bool := logB bs && inB e 1 9999
def idxOut (bs : List Bat) (e : Int) : List Ent := if idxOk bs e = true then idxTo bs e bs.length else []
theorem idxOut_yes {bs : List Bat} {e : Int} (h : idxOk bs e = true) : idxOut bs e = idxTo bs e bs.length := by unfold idxOut; rw [if_pos h]
theorem idxOut_no {bs : List Bat} {e : Int} (h : idxOk bs e = false) : idxOut bs e = [] := by unfold idxOut; rw [if_neg (by simp [h])]
theorem idxOut_len {bs : List Bat} {e : Int} : (idxOut bs e).length ≤ 8 := by
  unfold idxOut
  split
  · rename_i h
    simp only [idxOk, Bool.and_eq_true] at h
    have h1 := idxTo_len bs e bs.length
    have h2 := (logB_all h.1).1
    omega
  · simp
theorem entAt_snoc (l : List Ent) (a : Ent) : entAt (l ++ [a]) ((l ++ [a]).length - 1) = a := by
  rw [entAt_eq (by simp)]; simp
theorem entAt_left {l : List Ent} {a : Ent} {i : Nat} (h : i < l.length) : entAt (l ++ [a]) i = entAt l i := by
  rw [entAt_eq (by simp; omega), entAt_eq h, List.getElem_append_left h]
theorem entAt_last {l : List Ent} {a : Ent} : entAt (l ++ [a]) l.length = a := by
  rw [entAt_eq (by simp)]; simp
/-- What holds of the entries of the first batches. -/
def IdxInv (e : Int) (l : List Ent) (k : Nat) : Prop := (∀ i, i + 1 < l.length → e ≤ (entAt l (i + 1)).place - (entAt l i).place) ∧ (0 < k → 0 < l.length ∧ (entAt l 0).place = 0)
theorem idxTo_inv (bs : List Bat) (e : Int) (k : Nat) : IdxInv e (idxTo bs e k) k := by
  induction k with
  | zero => exact ⟨fun i h => by simp [idxTo] at h, fun h => by omega⟩
  | succ k ih =>
    obtain ⟨i1, i2⟩ := ih
    by_cases hf : farP e (idxTo bs e k) (placeAt bs k)
    · have he : idxTo bs e (k + 1) = idxTo bs e k ++ [⟨(batAt bs k).first, placeAt bs k⟩] := by rw [idxTo, if_pos hf]
      rw [he]
      have hk0 : k = 0 → idxTo bs e k = [] := fun h => by subst h; rfl
      have hp0 : k = 0 → placeAt bs k = 0 := fun h => by subst h; exact placeAt_zero bs
      generalize idxTo bs e k = l at *
      refine ⟨fun i h => ?_, fun _ => ⟨by simp, ?_⟩⟩
      · simp only [List.length_append, List.length_cons, List.length_nil] at h
        by_cases hi : i + 1 < l.length
        · rw [entAt_left hi, entAt_left (by omega)]
          exact i1 i hi
        · have hil : i + 1 = l.length := by omega
          rw [hil, entAt_last, entAt_left (by omega)]
          rcases hf with rfl | hf
          · simp at hil
          · simpa only [show l.length - 1 = i by omega] using hf
      · rcases Nat.eq_zero_or_pos k with hk | hk
        · rw [hk0 hk]
          exact hp0 hk
        · obtain ⟨hp, h0⟩ := i2 hk
          rw [entAt_left hp]
          exact h0
    · rw [idxTo_no hf]
      refine ⟨i1, fun _ => ?_⟩
      have hne : ¬ idxTo bs e k = [] := fun h => hf (.inl h)
      have hk : 0 < k := by
        rcases Nat.eq_zero_or_pos k with rfl | hk
        · exact absurd rfl hne
        · exact hk
      exact i2 hk
/-- With the number 1 each batch has an entry. -/
theorem idxTo_one (bs : List Bat) (k : Nat) (h : k ≤ bs.length) : (idxTo bs 1 k).length = k ∧ ∀ h0 : 0 < k, (entAt (idxTo bs 1 k) (k - 1)).place = placeAt bs (k - 1) := by
  induction k with
  | zero => exact ⟨rfl, fun h => by omega⟩
  | succ k ih =>
    obtain ⟨h1, h2⟩ := ih (by omega)
    have hf : farP 1 (idxTo bs 1 k) (placeAt bs k) := by
      rcases Nat.eq_zero_or_pos k with rfl | hk
      · exact .inl rfl
      · refine .inr ?_
        rw [h1, h2 hk]
        have := placeAt_step (bs := bs) (k := k - 1) (by omega)
        rw [show k - 1 + 1 = k by omega] at this
        omega
    rw [idxTo_yes (by omega) hf]
    refine ⟨by simp [h1], fun _ => ?_⟩
    have := entAt_snoc (idxTo bs 1 k) ⟨bs[k].first, placeAt bs k⟩
    simp only [List.length_append, List.length_cons, List.length_nil, h1] at this
    rw [show k + 1 - 1 = k by omega] at this ⊢
    rw [this]

/-- The batches that are not ahead of an offset. -/
def rdL (bs : List Bat) (o : Int) : List Bat := bs.filter (fun b => decide (o ≤ b.last))
/-- No more than so many bytes, but one batch at least. -/
def okM (m : Int) (xs : List Bat) : Prop := 2 ≤ xs.length → ((logCat xs).length : Int) ≤ m
/-- What is read of batches. -/
def RB (m : Int) (l xs : List Bat) : Prop := ∃ rest, l = xs ++ rest ∧ okM m xs ∧ (rest = [] ∨ (xs ≠ [] ∧ ∃ b r, rest = b :: r ∧ m < ((logCat (xs ++ [b])).length : Int)))
def rbOk (bs : List Bat) (m : Int) : Bool := logB bs && inB m 0 99999
def RBOut (bs : List Bat) (o m : Int) (xs : List Bat) : Prop := if rbOk bs m = true then RB m (rdL bs o) xs else xs = []
theorem logCat_pre (xs ys : List Bat) : (logCat xs).length ≤ (logCat (xs ++ ys)).length := by rw [logCat_append]; simp
theorem RB.uniq {m : Int} {l xs ys : List Bat} (h : RB m l xs) (h' : RB m l ys) : xs = ys := by
  have key : ∀ xs ys : List Bat, RB m l xs → RB m l ys → ys.length ≤ xs.length := by
    rintro xs ys ⟨r, e, k, c⟩ ⟨r', e', k', c'⟩
    rcases c with rfl | ⟨hn, b, q, rfl, hm⟩
    · have := congrArg List.length e
      have := congrArg List.length e'
      simp at *; omega
    · refine Nat.le_of_not_lt fun hlt => ?_
      have hy : ys = xs ++ b :: (ys.drop (xs.length + 1)) := by
        have h1 : ys = l.take ys.length := by rw [e']; simp
        have h2 : ys.take (xs.length + 1) = xs ++ [b] := by
          rw [h1, List.take_take, show min (xs.length + 1) ys.length = xs.length + 1 by omega, e]
          rw [List.take_append, List.take_of_length_le (by omega)]; simp
        calc ys = ys.take (xs.length + 1) ++ ys.drop (xs.length + 1) := (List.take_append_drop _ _).symm
          _ = _ := by rw [h2]; simp
      have hl : 2 ≤ ys.length := by
        have : 0 < xs.length := List.length_pos_iff.2 hn
        omega
      have h3 := k' hl
      rw [hy, show xs ++ b :: ys.drop (xs.length + 1) = (xs ++ [b]) ++ ys.drop (xs.length + 1) by simp] at h3
      have := logCat_pre (xs ++ [b]) (ys.drop (xs.length + 1))
      omega
  have h1 := key xs ys h h'
  have h2 := key ys xs h' h
  obtain ⟨r, e, _⟩ := h
  obtain ⟨r', e', _⟩ := h'
  have a1 : l.take xs.length = xs := by rw [e]; simp
  have a2 : l.take ys.length = ys := by rw [e']; simp
  rw [← a1, ← a2, show xs.length = ys.length by omega]
theorem RBOut.uniq {bs : List Bat} {o m : Int} {xs ys : List Bat} (h : RBOut bs o m xs) (h' : RBOut bs o m ys) : xs = ys := by
  unfold RBOut at h h'
  split at h
  · rename_i hk; rw [if_pos hk] at h'; exact h.uniq h'
  · rename_i hk; rw [if_neg hk] at h'; rw [h, h']
/-- The batches ahead of an offset come first. -/
theorem rdL_drop {bs : List Bat} {o : Int} (h : logB bs = true) (n : Nat) (hn : n ≤ bs.length) (h1 : ∀ i, (hi : i < n) → bs[i].last < o) (h2 : ∀ hi : n < bs.length, o ≤ bs[n].last) : rdL bs o = bs.drop n := by
  unfold rdL
  rw [show bs.filter (fun b => decide (o ≤ b.last)) = (bs.take n ++ bs.drop n).filter (fun b => decide (o ≤ b.last)) by rw [List.take_append_drop], List.filter_append]
  have e1 : (bs.take n).filter (fun b => decide (o ≤ b.last)) = [] := by
    rw [List.filter_eq_nil_iff]
    intro b hb
    obtain ⟨i, hi, rfl⟩ := List.getElem_of_mem hb
    rw [List.length_take] at hi
    have := h1 i (by omega)
    simp only [List.getElem_take, decide_eq_true_eq]
    omega
  have e2 : (bs.drop n).filter (fun b => decide (o ≤ b.last)) = bs.drop n := by
    rw [List.filter_eq_self]
    intro b hb
    obtain ⟨i, hi, rfl⟩ := List.getElem_of_mem hb
    rw [List.length_drop] at hi
    have hn' : n < bs.length := by omega
    have h3 := h2 hn'
    simp only [List.getElem_drop, decide_eq_true_eq]
    obtain ⟨_, hb', hp⟩ := (logB_iff _).1 h
    rcases Nat.eq_zero_or_pos i with rfl | hi0
    · simpa using h3
    · have h4 : Bat.lt bs[n] bs[n + i] := (List.pairwise_iff_getElem.1 hp) n (n + i) hn' (by omega) (by omega)
      have h5 := first_le_last (hb' _ (List.getElem_mem (show n + i < bs.length by omega)))
      unfold Bat.lt at h4
      omega
  rw [e1, e2]; rfl
theorem rdL_take_succ {bs : List Bat} {o : Int} {k : Nat} (h : k < bs.length) : rdL (bs.take (k + 1)) o = if o ≤ bs[k].last then rdL (bs.take k) o ++ [bs[k]] else rdL (bs.take k) o := by
  unfold rdL
  rw [List.take_succ_eq_append_getElem h, List.filter_append]
  by_cases hc : o ≤ bs[k].last <;> simp [List.filter_cons, hc]
theorem rdL_split (bs : List Bat) (o : Int) (k : Nat) : rdL bs o = rdL (bs.take k) o ++ rdL (bs.drop k) o := by
  unfold rdL; rw [← List.filter_append, List.take_append_drop]
theorem rdL_mem {bs : List Bat} {o : Int} {b : Bat} (h : b ∈ rdL bs o) : b ∈ bs := (List.mem_filter.1 h).1
theorem rdL_len (bs : List Bat) (o : Int) : (rdL bs o).length ≤ bs.length := List.length_filter_le _ _
theorem RB.pre {m : Int} {l xs : List Bat} (h : RB m l xs) : xs.length ≤ l.length ∧ xs = l.take xs.length := by
  obtain ⟨r, rfl, _⟩ := h
  exact ⟨by simp, by simp⟩
theorem RBOut.le {bs : List Bat} {o m : Int} {xs : List Bat} (h : RBOut bs o m xs) : xs.length ≤ bs.length := by
  unfold RBOut at h
  split at h
  · exact Nat.le_trans h.pre.1 (rdL_len _ _)
  · rw [h]; simp
theorem RBOut.mem {bs : List Bat} {o m : Int} {xs : List Bat} (h : RBOut bs o m xs) : ∀ b ∈ xs, b ∈ bs := by
  unfold RBOut at h
  split at h
  · intro b hb
    obtain ⟨r, e, _⟩ := h
    exact rdL_mem (o := o) (by rw [e]; exact List.mem_append_left _ hb)
  · rw [h]; simp
theorem RBOut.ok {bs : List Bat} {o m : Int} {xs : List Bat} (h : RBOut bs o m xs) (hx : xs ≠ []) : logB bs = true := by
  unfold RBOut at h
  split at h
  · rename_i hk; simp only [rbOk, Bool.and_eq_true] at hk; exact hk.1
  · exact absurd h hx
/-- All is read. -/
theorem RBOut.all {bs xs : List Bat} (hv : logB bs = true) (h : RBOut bs 0 99999 xs) : xs = bs := by
  have hk : rbOk bs 99999 = true := by unfold rbOk; rw [hv]; rfl
  unfold RBOut at h
  rw [if_pos hk] at h
  have hd : rdL bs 0 = bs := by
    unfold rdL
    rw [List.filter_eq_self]
    intro b hb
    have hb' := (logB_all hv).2 b hb
    have := first_le_last hb'
    have := (batB_base hb').1.1
    simp only [decide_eq_true_eq]; omega
  rw [hd] at h
  obtain ⟨r, e, k, rfl | ⟨hn, b, q, rfl, hm⟩⟩ := h
  · rw [e]; simp
  · exfalso
    have h1 := logCat_len8 hv
    rw [e, show xs ++ b :: q = (xs ++ [b]) ++ q by simp] at h1
    have := logCat_pre (xs ++ [b]) q
    omega
end
end Go.Proofs.YtgnjnpfeofhniaaDoor
