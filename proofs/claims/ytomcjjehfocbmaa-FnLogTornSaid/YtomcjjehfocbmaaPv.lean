/- Plain: when no batch stands at a place, and when one does. No program in sight. -/
import Derived.Test.YtomcjjehfocbmaaPj
namespace Go.Proofs.Ytomcjjehfocbmaa
set_option linter.unusedVariables false
set_option linter.unusedSimpArgs false
section
variable {l : List Int} {p : Nat}
theorem none_short (h : l.length < p + 18) : rdBat l p = none := rdBat_none fun b hb => by have := hb.tests; omega
theorem none_size (h : (num2 l (p + 3)).toNat < 11 ∨ l.length < p + 7 + (num2 l (p + 3)).toNat) : rdBat l p = none := rdBat_none fun b hb => by have := hb.tests; omega
theorem none_sum (h : num2 l (p + 5) ≠ sumB (restAt l p)) : rdBat l p = none := rdBat_none fun b hb => h hb.tests.2.2.1
theorem none_head (h : 3 < (restAt l p).getD 0 0 ∨ (restAt l p).getD 9 0 ≠ 0 ∨ (restAt l p).getD 10 0 ≠ 0) : rdBat l p = none := rdBat_none fun b hb => by
  obtain ⟨_, _, _, h1, h2, h3, _⟩ := hb.tests
  rcases h with h | h | h
  · omega
  · exact h h2
  · exact h h3
theorem none_base (h : baseB (num3 l p) (num3 (restAt l p) 5) = false) : rdBat l p = none := rdBat_none fun b hb => by
  have := hb.tests.2.2.2.2.2.2.1
  rw [h] at this
  cases this
theorem none_rows (h : rowsOf (restAt l p) = none) : rdBat l p = none := rdBat_none fun b hb => by
  have := hb.rows
  rw [h] at this
  cases this
variable {rows : List Int} {rs : List Rec} {e : Nat}
theorem none_recs (hr : rowsOf (restAt l p) = some rows) (h : rdRows rows (num3 l p) (num3 (restAt l p) 5) ((restAt l p).getD 8 0).toNat = none) : rdBat l p = none := rdBat_none fun b hb => by
  have h1 := hb.rows
  rw [hr] at h1
  have h2 := hb.recs
  rw [← Option.some.inj h1, h] at h2
  cases h2
theorem rd_first {b : Bat} (hb : BatAt l p b) (hr : rowsOf (restAt l p) = some rows) (hrs : rdRows rows (num3 l p) (num3 (restAt l p) 5) ((restAt l p).getD 8 0).toNat = some (rs, e)) : batOf (restAt l p) rs = b ∧ e = rows.length := by
  have h1 := hb.rows
  rw [hr] at h1
  have h2 := hb.recs
  rw [← Option.some.inj h1, hrs] at h2
  have h3 := congrArg Prod.fst (Option.some.inj h2)
  have h4 := congrArg Prod.snd (Option.some.inj h2)
  have h3 : rs = b.recs := h3
  subst h3
  exact ⟨hb.bat, h4⟩
theorem none_end (hr : rowsOf (restAt l p) = some rows) (hrs : rdRows rows (num3 l p) (num3 (restAt l p) 5) ((restAt l p).getD 8 0).toNat = some (rs, e)) (he : e ≠ rows.length) : rdBat l p = none :=
  rdBat_none fun b hb => he (rd_first hb hr hrs).2
theorem none_valid (hr : rowsOf (restAt l p) = some rows) (hrs : rdRows rows (num3 l p) (num3 (restAt l p) 5) ((restAt l p).getD 8 0).toNat = some (rs, e)) (h : batB (batOf (restAt l p) rs) = false) : rdBat l p = none :=
  rdBat_none fun b hb => by
    have := (rd_first hb hr hrs).1
    rw [this, hb.1] at h
    cases h
/-- The bytes from the place to the end that the head tells. -/
def regAt (l : List Int) (p : Nat) : List Int := (l.drop p).take (7 + (num2 l (p + 3)).toNat)
theorem BatAt.reg {b : Bat} (hb : BatAt l p b) : regAt l p = batBytes b := by
  unfold regAt
  have := hb.next
  rw [show 7 + (num2 l (p + 3)).toNat = (batBytes b).length by omega]
  exact hb.region
theorem none_other (hr : rowsOf (restAt l p) = some rows) (hrs : rdRows rows (num3 l p) (num3 (restAt l p) 5) ((restAt l p).getD 8 0).toNat = some (rs, e)) (h : regAt l p ≠ batBytes (batOf (restAt l p) rs)) : rdBat l p = none :=
  rdBat_none fun b hb => by
    rw [(rd_first hb hr hrs).1] at h
    exact h hb.reg
theorem some_last {b : Bat} (hv : batB b = true) (hpm : p + 7 + (num2 l (p + 3)).toNat ≤ l.length) (hs : regAt l p = batBytes b) : rdBat l p = some b ∧ p + 7 + (num2 l (p + 3)).toNat = p + (batBytes b).length := by
  obtain ⟨h1, h2⟩ := BatAt.of_same (l := l) (p := p) (e := p + 7 + (num2 l (p + 3)).toNat) hv (by omega) hpm (by rw [show p + 7 + (num2 l (p + 3)).toNat - p = 7 + (num2 l (p + 3)).toNat by omega]; exact hs)
  exact ⟨rdBat_some h1, h2⟩
theorem restAt_len (h : p + 7 + (num2 l (p + 3)).toNat ≤ l.length) : (restAt l p).length = (num2 l (p + 3)).toNat := by
  unfold restAt
  rw [List.length_take, List.length_drop]
  omega
theorem regAt_len (h : p + 7 + (num2 l (p + 3)).toNat ≤ l.length) : (regAt l p).length = 7 + (num2 l (p + 3)).toNat := by
  unfold regAt
  rw [List.length_take, List.length_drop]
  omega
theorem restAt_bytes (h : bytesB l = true) : bytesB (restAt l p) = true :=
  List.all_eq_true.2 fun x hx => List.all_eq_true.1 (show l.all byteB = true from h) x (List.mem_of_mem_drop (List.mem_of_mem_take hx))
theorem regAt_bytes (h : bytesB l = true) : bytesB (regAt l p) = true :=
  List.all_eq_true.2 fun x hx => List.all_eq_true.1 (show l.all byteB = true from h) x (List.mem_of_mem_drop (List.mem_of_mem_take hx))
theorem drop_bytes {l : List Int} (h : bytesB l = true) (k : Nat) : bytesB (l.drop k) = true :=
  List.all_eq_true.2 fun x hx => List.all_eq_true.1 (show l.all byteB = true from h) x (List.mem_of_mem_drop hx)
theorem rows_small {rest : List Int} (hb : bytesB rest = true) (hn : rest.length ≤ 65535) (h : rowsOf rest = some rows) : bytesB rows = true ∧ rows.length ≤ 65535 := by
  unfold rowsOf at h
  split at h
  · exact ⟨unp_bytes (drop_bytes hb 11) h, by have := unp_len h; omega⟩
  · injection h with h
    subst h
    exact ⟨drop_bytes hb 11, by rw [List.length_drop]; omega⟩
/-- What is compared with a part of what is told is told whole if it is as long as it says. -/
theorem same_whole {b : Bat} (hv : batB b = true) (hpm : p + 7 + (num2 l (p + 3)).toNat ≤ l.length) (h11 : 11 ≤ (num2 l (p + 3)).toNat) (hs : sameAt (batBytes b) 0 (regAt l p) = true) : regAt l p = batBytes b := by
  unfold sameAt at hs
  rw [List.drop_zero, beq_iff_eq] at hs
  have hl := congrArg List.length hs
  rw [List.length_take, regAt_len hpm] at hl
  have e1 : num2 (regAt l p) 3 = num2 l (p + 3) := by
    unfold regAt
    rw [num2_take (by omega)]
    unfold num2
    simp only [List.getD_eq_getElem?_getD, List.getElem?_drop]
  have e2 : num2 (regAt l p) 3 = num2 (batBytes b) 3 := by
    rw [← hs]
    exact num2_take (by rw [regAt_len hpm]; omega)
  have e3 : num2 (batBytes b) 3 = (b.rest.length : Int) := (batAt_self hv).many
  have e4 : b.rest.length = (num2 l (p + 3)).toNat := by rw [← e1, e2, e3]; rfl
  have hbl := batBytes_len b
  have hrl := rest_len b
  rw [← hs, List.take_of_length_le]
  rw [regAt_len hpm]
  omega
theorem same_not {x y : List Int} (h : x = y) : sameAt y 0 x = true := by
  subst h; unfold sameAt; simp
end
end Go.Proofs.Ytomcjjehfocbmaa
