/- Plain: what the laws of scanning want. No program in sight. -/
import Derived.Test.YtomcjjehfocbmaaPj
namespace Go.Proofs.Ytomcjjehfocbmaa
set_option linter.unusedVariables false
set_option linter.unusedSimpArgs false

theorem scan_good (l : List Int) : logB (scanOf l).1 = true ∧ (scanOf l).2.1 ≤ l.length ∧ (scanOf l).2.1 = (logCat (scanOf l).1).length ∧ l.take (scanOf l).2.1 = logCat (scanOf l).1 :=
  ⟨(scanOf_ok l).inv.log, (scanOf_ok l).inv.le, (scanOf_ok l).inv.at_, (scanOf_ok l).inv.bytes⟩
theorem scan_again (l : List Int) : scanOf (l.take (scanOf l).2.1) = ((scanOf l).1, (scanOf l).2.1, 0) := by
  obtain ⟨h1, _, h3, h4⟩ := scan_good l
  rw [h4, scan_cat h1, ← h3]
theorem batBytes_18 (b : Bat) : 18 ≤ (batBytes b).length := by rw [batBytes_len]; omega
theorem logCat_last {bs : List Bat} {m : Nat} (hm : m + 1 = bs.length) : (logCat (bs.take m)).length + (batBytes (bs[m]'(by omega))).length = (logCat bs).length := by
  have h := logCat_take (bs := bs) (k := m) (by omega)
  rw [hm, List.take_length] at h
  rw [h, List.length_append]
theorem logCat_mono {bs : List Bat} {i j : Nat} (hij : i ≤ j) : (logCat (bs.take i)).length ≤ (logCat (bs.take j)).length := by
  have e : bs.take j = bs.take i ++ (bs.take j).drop i := by
    conv => lhs; rw [← List.take_append_drop i (bs.take j), List.take_take, Nat.min_eq_left hij]
  rw [e, logCat_append, List.length_append]
  omega
/-- The last byte is torn off. -/
theorem scan_torn1 {bs : List Bat} (h : logB bs = true) {m k : Nat} (hm : m + 1 = bs.length) (hk : k + 1 = (logCat bs).length) : scanOf ((logCat bs).take k) = (bs.take m, (logCat (bs.take m)).length, 1) := by
  obtain ⟨j, hj, hjk, hs, hn⟩ := scan_part h k (by omega)
  have h18 := batBytes_18 (bs[m]'(by omega))
  have hl := logCat_last hm
  have hjl : j < bs.length := by
    rcases Nat.lt_or_ge j bs.length with hh | hh
    · exact hh
    · rw [List.take_of_length_le hh] at hjk; omega
  have hjm : j = m := by
    have h2 := hn hjl
    have h3 := logCat_take hjl
    by_cases hc : j + 1 ≤ m
    · have := logCat_mono (bs := bs) hc; omega
    · omega
  subst hjm
  rw [hs, if_neg (by omega)]
theorem scan_any {bs : List Bat} (h : logB bs = true) (k : Nat) (hk : k ≤ (logCat bs).length) :
    ∃ j n why, j ≤ bs.length ∧ n ≤ k ∧ scanOf ((logCat bs).take k) = (bs.take j, n, why) ∧ ((why = 0 ∧ n = k) ∨ (why = 1 ∧ n ≠ k)) := by
  obtain ⟨j, hj, hjk, hs, _⟩ := scan_part h k hk
  by_cases he : (logCat (bs.take j)).length = k
  · exact ⟨j, _, 0, hj, hjk, by rw [hs, if_pos he], .inl ⟨rfl, he⟩⟩
  · exact ⟨j, _, 1, hj, hjk, by rw [hs, if_neg he], .inr ⟨rfl, he⟩⟩
end Go.Proofs.Ytomcjjehfocbmaa
