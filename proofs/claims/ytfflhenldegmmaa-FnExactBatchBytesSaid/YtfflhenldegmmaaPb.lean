/- Batches as bytes, in plain words. -/
import Derived.Test.YtfflhenldegmmaaSc
import Derived.Test.YtfflhenldegmmaaPk
import Derived.Test.YtfflhenldegmmaaPz
namespace Go.Proofs.Ytfflhenldegmmaa
set_option linter.unusedVariables false
set_option linter.unusedSimpArgs false
open Go.RowKit

theorem vb_bytes {f : Int} (h0 : 0 ≤ f) (h1 : f ≤ 2000000) : bytesB (vb f) = true := by
  unfold vb
  split
  · simp [bytesB, byteB]; omega
  · split
    · simp [bytesB, byteB]; omega
    · simp [bytesB, byteB]; omega
theorem varB_bytes {n : Int} (h : -1000000 ≤ n ∧ n ≤ 1000000) : bytesB (varB n) = true := vb_bytes (fold_range h).1 (fold_range h).2
theorem varB_one {n : Int} (h : -1 ≤ n ∧ n ≤ 63) : (varB n).length = 1 := by
  unfold varB
  rw [vb_small (by unfold foldV; split <;> omega)]
  rfl
theorem partP_len13 {has : Bool} {k : List Int} (h : partB has k = true) : (partP has k).length ≤ 13 := by
  have h1 := (partB_len h).1
  unfold partP
  split
  · rw [List.length_append, varB_one (by omega)]; omega
  · rw [varB_one (by omega)]; omega
theorem partP_bytes {has : Bool} {k : List Int} (h : partB has k = true) : bytesB (partP has k) = true := by
  have h1 := (partB_len h).1
  unfold partP
  cases has
  · exact varB_bytes (by omega)
  · refine bytesB_append (varB_bytes (by omega)) ?_
    simp [partB] at h
    exact h.2
theorem bodyB_len32 {r : Rec} {o t : Int} (h : recB r = true) : (bodyB r o t).length ≤ 32 := by
  obtain ⟨_, _, h3, h4⟩ := recB_parts h
  have l1 := (varB_len (r.time - t)).2
  have l2 := (varB_len (r.off - o)).2
  have l3 := partP_len13 h3
  have l4 := partP_len13 h4
  unfold bodyB
  simp only [List.length_append]
  omega
theorem recBytes_len33 {r : Rec} {o t : Int} (h : recB r = true) : (recBytes r o t).length ≤ 33 := by
  have := bodyB_len32 (o := o) (t := t) h
  unfold recBytes
  rw [List.length_append, varB_one (by omega)]
  omega
theorem recBytes_bytes {r : Rec} {o t : Int} (h : recB r = true) (ho : 0 ≤ o ∧ o ≤ 99999) (ht : 0 ≤ t ∧ t ≤ 99999) : bytesB (recBytes r o t) = true := by
  obtain ⟨h1, h2, h3, h4⟩ := recB_parts h
  have := bodyB_len32 (o := o) (t := t) h
  unfold recBytes bodyB
  exact bytesB_append (varB_bytes (by unfold bodyB at this; omega)) (bytesB_append (bytesB_append (bytesB_append (varB_bytes (by omega)) (varB_bytes (by omega))) (partP_bytes h3)) (partP_bytes h4))

def Bat.base (b : Bat) : Int := (recAt b.recs 0).time
def rowsB (rs : List Rec) (o t : Int) : List Int := rs.flatMap (fun r => recBytes r o t)
theorem rowsB_nil (o t : Int) : rowsB [] o t = [] := rfl
theorem rowsB_cons (r : Rec) (rs : List Rec) (o t : Int) : rowsB (r :: rs) o t = recBytes r o t ++ rowsB rs o t := by simp [rowsB]
theorem rowsB_take {rs : List Rec} {o t : Int} {k : Nat} (h : k < rs.length) : rowsB (rs.take (k + 1)) o t = rowsB (rs.take k) o t ++ recBytes rs[k] o t := by
  unfold rowsB
  rw [List.take_succ_eq_append_getElem h, List.flatMap_append]
  simp
theorem rowsB_len {rs : List Rec} {o t : Int} (h : ∀ r ∈ rs, recB r = true) : (rowsB rs o t).length ≤ 33 * rs.length := by
  induction rs with
  | nil => simp [rowsB]
  | cons r t ih =>
    rw [rowsB_cons, List.length_append, List.length_cons]
    have := recBytes_len33 (o := o) (t := by assumption) (h r (by simp))
    have := ih (fun q hq => h q (by simp [hq]))
    omega
theorem rowsB_bytes {rs : List Rec} {o t : Int} (h : ∀ r ∈ rs, recB r = true) (ho : 0 ≤ o ∧ o ≤ 99999) (ht : 0 ≤ t ∧ t ≤ 99999) : bytesB (rowsB rs o t) = true := by
  induction rs with
  | nil => rfl
  | cons r u ih =>
    rw [rowsB_cons]
    exact bytesB_append (recBytes_bytes (h r (by simp)) ho ht) (ih (fun q hq => h q (by simp [hq])))
def Bat.rows (b : Bat) : List Int := rowsB b.recs b.first b.base
def Bat.body (b : Bat) : List Int := if b.packed then packOf b.rows else b.rows
def Bat.flags (b : Bat) : Int := (if b.packed then 1 else 0) + (if b.mark then 2 else 0)
def Bat.rest (b : Bat) : List Int := [b.flags, b.prod, b.epoch] ++ intB2 b.seq ++ intB3 b.base ++ [(b.recs.length : Int), 0, 0] ++ b.body
def batBytes (b : Bat) : List Int := intB3 b.first ++ intB2 b.rest.length ++ intB2 (sumB b.rest) ++ b.rest

theorem batB_parts {b : Bat} (h : batB b = true) : headB b = true ∧ (1 ≤ b.recs.length ∧ b.recs.length ≤ 6) ∧ (∀ r ∈ b.recs, recB r = true) := by
  have hp := batB_pos h
  simp only [batB, manyB, Bool.and_eq_true] at h
  refine ⟨h.1.1, ⟨hp, ?_⟩, fun r hr => ?_⟩
  · have := h.1.2.1
    simp [inB] at this
    omega
  · obtain ⟨k, hk, rfl⟩ := List.getElem_of_mem hr
    have := allUpto_iff.1 h.2 k hk
    simp only [recStep, Bool.and_eq_true] at this
    rw [recAt_eq hk] at this
    exact this.1
theorem headB_range {b : Bat} (h : headB b = true) : (0 ≤ b.prod ∧ b.prod ≤ 255) ∧ (0 ≤ b.epoch ∧ b.epoch ≤ 99) ∧ (0 ≤ b.seq ∧ b.seq ≤ 9999) := by
  unfold headB at h
  split at h
  · rename_i hp
    simp at hp h
    omega
  · simp [inB] at h
    omega
theorem batB_base {b : Bat} (h : batB b = true) : (0 ≤ b.first ∧ b.first ≤ 99999) ∧ (0 ≤ b.base ∧ b.base ≤ 99999) := by
  obtain ⟨_, ⟨h1, _⟩, h2⟩ := batB_parts h
  have h3 := h2 _ (List.getElem_mem (show 0 < b.recs.length by omega))
  obtain ⟨h4, h5, _⟩ := recB_parts h3
  unfold Bat.first Bat.base
  rw [recAt_eq (show 0 < b.recs.length by omega)]
  exact ⟨h4, h5⟩
theorem rows_len {b : Bat} (h : batB b = true) : b.rows.length ≤ 198 := by
  obtain ⟨_, ⟨_, h1⟩, h2⟩ := batB_parts h
  have := rowsB_len (o := b.first) (t := b.base) h2
  unfold Bat.rows
  omega
theorem rows_bytes {b : Bat} (h : batB b = true) : bytesB b.rows = true := rowsB_bytes (batB_parts h).2.2 (batB_base h).1 (batB_base h).2
theorem body_len {b : Bat} (h : batB b = true) : b.body.length ≤ 396 := by
  have h1 := rows_len h
  have h2 := packOf_len b.rows
  unfold Bat.body
  split <;> omega
theorem body_bytes {b : Bat} (h : batB b = true) : bytesB b.body = true := by
  unfold Bat.body
  split
  · exact packOf_bytes (rows_bytes h)
  · exact rows_bytes h
theorem flags_range (b : Bat) : 0 ≤ b.flags ∧ b.flags ≤ 3 := by
  unfold Bat.flags
  cases b.packed <;> cases b.mark <;> simp
theorem bytesB_cons {x : Int} {l : List Int} (hx : 0 ≤ x ∧ x ≤ 255) (hl : bytesB l = true) : bytesB (x :: l) = true := by
  unfold bytesB at *
  rw [List.all_cons, hl]
  simp [byteB, hx]
theorem rest_bytes {b : Bat} (h : batB b = true) : bytesB b.rest = true := by
  obtain ⟨h1, h2, _⟩ := batB_parts h
  obtain ⟨p1, p2, p3⟩ := headB_range h1
  have hf := flags_range b
  unfold Bat.rest
  refine bytesB_append (bytesB_append (bytesB_append (bytesB_append ?_ (intB2_bytes _)) (intB3_bytes _)) ?_) (body_bytes h)
  · exact bytesB_cons (by omega) (bytesB_cons (by omega) (bytesB_cons (by omega) rfl))
  · exact bytesB_cons (by omega) (bytesB_cons (by omega) (bytesB_cons (by omega) rfl))
theorem rest_len (b : Bat) : b.rest.length = 11 + b.body.length := by
  unfold Bat.rest intB2 intB3
  simp only [List.length_append, List.length_cons, List.length_nil]
theorem batBytes_len (b : Bat) : (batBytes b).length = 18 + b.body.length := by
  have := rest_len b
  unfold batBytes intB2 intB3
  simp only [List.length_append, List.length_cons, List.length_nil]
  omega
theorem batBytes_bytes {b : Bat} (h : batB b = true) : bytesB (batBytes b) = true := by
  unfold batBytes
  exact bytesB_append (bytesB_append (bytesB_append (intB3_bytes _) (intB2_bytes _)) (intB2_bytes _)) (rest_bytes h)
/-- The bytes of a batch, none if it is invalid. -/
def batOut (b : Bat) : List Int := if batB b then batBytes b else []
theorem batOut_yes {b : Bat} (h : batB b = true) : batOut b = batBytes b := by unfold batOut; rw [h]; rfl
theorem batOut_no {b : Bat} (h : batB b = false) : batOut b = [] := by unfold batOut; rw [h]; rfl
theorem batOut_bytes (b : Bat) : bytesB (batOut b) = true := by
  cases h : batB b
  · rw [batOut_no h]; rfl
  · rw [batOut_yes h]; exact batBytes_bytes h
theorem batOut_len (b : Bat) : (batOut b).length ≤ 414 := by
  cases h : batB b
  · rw [batOut_no h]; simp
  · rw [batOut_yes h, batBytes_len]; have := body_len h; omega
theorem first_getElem {b : Bat} (h : 0 < b.recs.length) : b.first = b.recs[0].off ∧ b.base = b.recs[0].time := by
  unfold Bat.first Bat.base
  rw [recAt_eq h]
  exact ⟨rfl, rfl⟩
end Go.Proofs.Ytfflhenldegmmaa
