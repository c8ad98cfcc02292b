/- The plain meaning: records, batches, segments. No program in sight. -/
import Derived.Test.YtfflhenldegmmaaKb
namespace Go.Proofs.Ytfflhenldegmmaa
set_option linter.unusedVariables false
set_option linter.unusedSimpArgs false

def byteB (n : Int) : Bool := decide (0 ≤ n) && decide (n ≤ 255)
def bytesB (l : List Int) : Bool := l.all byteB
def inB (n l h : Int) : Bool := decide (l ≤ n) && decide (n ≤ h)
def partB (has : Bool) (l : List Int) : Bool := if has then decide (l.length ≤ 12) && bytesB l else l.length == 0
def baseB (o t : Int) : Bool := inB o 0 99999 && inB t 0 99999
def recB (r : Rec) : Bool := baseB r.off r.time && partB r.hk r.key && partB r.hv r.val

theorem bytesB_take_succ (l : List Int) (k : Nat) (h : k < l.length) : bytesB (l.take (k + 1)) = (bytesB (l.take k) && byteB l[k]) := by
  unfold bytesB
  rw [List.take_succ_eq_append_getElem h, List.all_append]; simp
theorem bytesB_false_of (l : List Int) (k : Nat) (h : k < l.length) (hb : byteB l[k] = false) : bytesB l = false := by
  unfold bytesB
  rw [List.all_eq_false]
  exact ⟨l[k], List.getElem_mem h, by simp [hb]⟩

def allUpto (p : Nat → Bool) (n : Nat) : Bool := (List.range n).all p
theorem allUpto_zero (p : Nat → Bool) : allUpto p 0 = true := rfl
theorem allUpto_succ (p : Nat → Bool) (n : Nat) : allUpto p (n + 1) = (allUpto p n && p n) := by
  unfold allUpto; rw [List.range_succ, List.all_append]; simp
theorem allUpto_false {p : Nat → Bool} {n k : Nat} (hk : k < n) (h : p k = false) : allUpto p n = false := by
  unfold allUpto; rw [List.all_eq_false]; exact ⟨k, List.mem_range.2 hk, by simp [h]⟩
theorem allUpto_iff {p : Nat → Bool} {n : Nat} : allUpto p n = true ↔ ∀ k, k < n → p k = true := by
  unfold allUpto; rw [List.all_eq_true]; simp [List.mem_range]

def Rec.zero : Rec := ⟨0, 0, false, [], false, []⟩
def Bat.zero : Bat := ⟨false, false, 0, 0, 0, []⟩
def Ent.zero : Ent := ⟨0, 0⟩
def recAt (rs : List Rec) (k : Nat) : Rec := rs.getD k Rec.zero
def batAt (bs : List Bat) (k : Nat) : Bat := bs.getD k Bat.zero
def entAt (es : List Ent) (k : Nat) : Ent := es.getD k Ent.zero
theorem recAt_eq {rs : List Rec} {k : Nat} (h : k < rs.length) : recAt rs k = rs[k] := by unfold recAt; simp [h]
theorem batAt_eq {bs : List Bat} {k : Nat} (h : k < bs.length) : batAt bs k = bs[k] := by unfold batAt; simp [h]
theorem entAt_eq {es : List Ent} {k : Nat} (h : k < es.length) : entAt es k = es[k] := by unfold entAt; simp [h]

def Bat.first (b : Bat) : Int := (recAt b.recs 0).off
def Bat.last (b : Bat) : Int := (recAt b.recs (b.recs.length - 1)).off
def recStep (rs : List Rec) (k : Nat) : Bool := recB (recAt rs k) && (k == 0 || decide ((recAt rs (k - 1)).off < (recAt rs k).off))
def recsB (rs : List Rec) : Bool := allUpto (recStep rs) rs.length
def headB (b : Bat) : Bool := if b.prod == 255 then b.epoch == 0 && b.seq == 0 && !b.mark else inB b.prod 0 254 && inB b.epoch 0 99 && inB b.seq 0 9999
def manyB (b : Bat) : Bool := inB b.recs.length 1 6 && (!b.mark || b.recs.length == 1)
def batB (b : Bat) : Bool := headB b && manyB b && recsB b.recs
def batStep (bs : List Bat) (k : Nat) : Bool := batB (batAt bs k) && (k == 0 || decide ((batAt bs (k - 1)).last < (batAt bs k).first))
def logB (bs : List Bat) : Bool := decide (bs.length ≤ 8) && allUpto (batStep bs) bs.length
def entB (e : Ent) : Bool := inB e.off 0 99999 && inB e.place 0 99999
def entStep (es : List Ent) (k : Nat) : Bool := entB (entAt es k) && (k == 0 || (decide ((entAt es (k - 1)).off < (entAt es k).off) && decide ((entAt es (k - 1)).place < (entAt es k).place)))
def entsB (es : List Ent) : Bool := decide (es.length ≤ 8) && allUpto (entStep es) es.length

theorem recStep_bad {rs : List Rec} {k : Nat} (h : k < rs.length) (hR : recB rs[k] = false) : recStep rs k = false := by unfold recStep; rw [recAt_eq h, hR]; rfl
theorem recStep_first {rs : List Rec} {k : Nat} (h : k < rs.length) (hR : recB rs[k] = true) (h0 : k = 0) : recStep rs k = true := by unfold recStep; rw [recAt_eq h, hR]; simp [h0]
theorem recStep_next {rs : List Rec} {k : Nat} (h : k < rs.length) (h1 : k - 1 < rs.length) (hR : recB rs[k] = true) (hc : rs[k - 1].off < rs[k].off) : recStep rs k = true := by unfold recStep; rw [recAt_eq h, recAt_eq h1, hR]; simp [hc]
theorem recStep_fall {rs : List Rec} {k : Nat} (h : k < rs.length) (h1 : k - 1 < rs.length) (h0 : k ≠ 0) (hc : rs[k].off ≤ rs[k - 1].off) : recStep rs k = false := by
  have : ¬ rs[k - 1].off < rs[k].off := by omega
  unfold recStep; rw [recAt_eq h, recAt_eq h1]; simp [h0, this]
theorem batStep_bad {bs : List Bat} {k : Nat} (h : k < bs.length) (hR : batB bs[k] = false) : batStep bs k = false := by unfold batStep; rw [batAt_eq h, hR]; rfl
theorem batStep_first {bs : List Bat} {k : Nat} (h : k < bs.length) (hR : batB bs[k] = true) (h0 : k = 0) : batStep bs k = true := by unfold batStep; rw [batAt_eq h, hR]; simp [h0]
theorem batStep_next {bs : List Bat} {k : Nat} (h : k < bs.length) (h1 : k - 1 < bs.length) (hR : batB bs[k] = true) (hc : bs[k - 1].last < bs[k].first) : batStep bs k = true := by unfold batStep; rw [batAt_eq h, batAt_eq h1, hR]; simp [hc]
theorem batStep_fall {bs : List Bat} {k : Nat} (h : k < bs.length) (h1 : k - 1 < bs.length) (h0 : k ≠ 0) (hc : bs[k].first ≤ bs[k - 1].last) : batStep bs k = false := by
  have : ¬ bs[k - 1].last < bs[k].first := by omega
  unfold batStep; rw [batAt_eq h, batAt_eq h1]; simp [h0, this]
theorem entStep_bad {es : List Ent} {k : Nat} (h : k < es.length) (hR : entB es[k] = false) : entStep es k = false := by unfold entStep; rw [entAt_eq h, hR]; rfl
theorem entStep_first {es : List Ent} {k : Nat} (h : k < es.length) (hR : entB es[k] = true) (h0 : k = 0) : entStep es k = true := by unfold entStep; rw [entAt_eq h, hR]; simp [h0]
theorem entStep_next {es : List Ent} {k : Nat} (h : k < es.length) (h1 : k - 1 < es.length) (hR : entB es[k] = true) (hc : es[k - 1].off < es[k].off) (hd : es[k - 1].place < es[k].place) : entStep es k = true := by unfold entStep; rw [entAt_eq h, entAt_eq h1, hR]; simp [hc, hd]
theorem entStep_fall {es : List Ent} {k : Nat} (h : k < es.length) (h1 : k - 1 < es.length) (h0 : k ≠ 0) (hc : es[k].off ≤ es[k - 1].off ∨ es[k].place ≤ es[k - 1].place) : entStep es k = false := by
  have : ¬ (es[k - 1].off < es[k].off ∧ es[k - 1].place < es[k].place) := by omega
  unfold entStep; rw [entAt_eq h, entAt_eq h1]; simp [h0]; intro _ h2; exact Classical.byContradiction fun h3 => this ⟨h2, by omega⟩
theorem manyB_mark {b : Bat} (h : manyB b = true) : inB b.recs.length 1 6 = true ∧ (b.mark = true → ((b.recs.length : Int) != 1) = false) := by
  simp only [manyB, Bool.and_eq_true] at h
  refine ⟨h.1, fun hm => ?_⟩
  have := h.2
  rw [hm] at this
  simp at this
  simp [this]
theorem batB_pos {b : Bat} (h : batB b = true) : 0 < b.recs.length := by
  simp only [batB, manyB, Bool.and_eq_true] at h
  have := h.1.2.1
  simp [inB] at this
  omega
theorem batStep_batB {bs : List Bat} {k : Nat} (h : k < bs.length) (hs : batStep bs k = true) : batB bs[k] = true := by
  simp only [batStep, Bool.and_eq_true] at hs
  rw [← batAt_eq h]; exact hs.1

/-! sizes -/
def szOf (n : Nat) (left : Int) : Int := if left < n then -1 else left - n
theorem szOf_neg {n : Nat} {left : Int} (h : left < n) : szOf n left = -1 := if_pos h
theorem szOf_pos {n : Nat} {left : Int} (h : (n : Int) ≤ left) : szOf n left = left - n := if_neg (by omega)
def wtR (r : Rec) : Nat := r.key.length + r.val.length
def wtRs (rs : List Rec) : Nat := rs.length + (rs.map wtR).sum
def wtB (b : Bat) : Nat := wtRs b.recs
def wtBs (bs : List Bat) : Nat := bs.length + (bs.map wtB).sum
theorem sum_take_succ {α : Type} (f : α → Nat) (l : List α) (k : Nat) (h : k < l.length) : ((l.take (k + 1)).map f).sum = ((l.take k).map f).sum + f l[k] := by
  rw [List.take_succ_eq_append_getElem h, List.map_append, List.sum_append]; simp
theorem sum_take_le {α : Type} (f : α → Nat) (l : List α) (k : Nat) : ((l.take k).map f).sum ≤ (l.map f).sum := by
  induction l generalizing k with
  | nil => simp
  | cons a t ih =>
    cases k with
    | zero => simp
    | succ k => simpa using ih k
theorem le_sum {α : Type} (f : α → Nat) (l : List α) {x : α} (h : x ∈ l) : f x ≤ (l.map f).sum := by
  induction l with
  | nil => simp at h
  | cons a t ih =>
    rcases List.mem_cons.1 h with rfl | h
    · simp
    · simp; have := ih h; omega
def Rec.small (r : Rec) : Prop := r.key.length ≤ 1048576 ∧ r.val.length ≤ 1048576
def Bat.small (b : Bat) : Prop := b.recs.length ≤ 1048576 ∧ ∀ r ∈ b.recs, r.small
theorem Rec.small_of {r : Rec} (h : wtR r ≤ 1048576) : r.small := by unfold wtR at h; exact ⟨by omega, by omega⟩
theorem Bat.small_of {b : Bat} (h : wtB b ≤ 1048576) : b.small := by
  unfold wtB wtRs at h
  exact ⟨by omega, fun r hr => Rec.small_of (by have := le_sum wtR b.recs hr; omega)⟩
theorem small_of_wtBs {bs : List Bat} (h : wtBs bs ≤ 1048576) : bs.length ≤ 1048576 ∧ ∀ b ∈ bs, b.small := by
  unfold wtBs at h
  exact ⟨by omega, fun b hb => Bat.small_of (by have := le_sum wtB bs hb; omega)⟩
end Go.Proofs.Ytfflhenldegmmaa
