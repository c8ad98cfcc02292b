/- The reference's matches. -/
import Derived.Test.YtfflhenldegmmaaPq
import Derived.Test.YtfflhenldegmmaaA2
namespace Go.Proofs.Ytfflhenldegmmaa
set_option linter.unusedVariables false
set_option linter.unusedSimpArgs false
open Go.RowKit

theorem info_intP : (Try.prog.info? 3).map (fun i => (i.zero, i.size, i.bytes)) = some (some (.int .i64 0), 1, 8) := by kernel_rfl
/-- Reslicing from l to h. -/
theorem run_between {P : Program} {t e : TypeId} {z : Value} {s b : Nat} (ht : P.underlying t = some (.slice e)) (hinfo : (P.info? e).map (fun i => (i.zero, i.size, i.bytes)) = some (some z, s, b)) (A : Option Addr) (n cap l h : Nat) (L H : Int) (hL : L = (l : Int)) (hH : H = (h : Int)) (hlh : l ≤ h) (hh : h ≤ cap) (w : World) :
    (Instr.slice t (.slice A n cap) (some (.int .i64 L)) (some (.int .i64 H)) none).run P w = .ok (.slice (cutAddr A l cap s) (h - l) (cap - l)) w := by
  subst hL hH
  obtain ⟨i, hi, _, hs, _⟩ := info_of hinfo
  have he : P.elem t = e := by simp [Program.elem, ht]
  rw [run_slice_lh (P := P) (w := w) t A n cap (by rw [he]; exact ht) .i64 .i64 (l : Int) (h : Int) (by omega) (by omega) (by omega)]
  rw [he]
  simp [sizeOf, typeInfo, hi, hs, sliced, cutAddr, Result.andThen]
theorem getD_at {l : List Int} {k : Nat} (h : k < l.length) : l.getD k 0 = l[k] := by simp [List.getD_eq_getElem?_getD, h]
set_option maxHeartbeats 1000000 in
theorem l4Long_any (l : List Int) (A : Option Addr) (c : Nat) (F : Nat → Prop) (i b : Nat) (w : World) (h : Ints w F A c l) (hn : l.length ≤ 4194304) (hi : i ≤ l.length) (hb1 : 1 ≤ b) (hb : b ≤ i) :
    Calls Try.prog 102 #[.slice A l.length c, .int .i64 (i : Int), .int .i64 (b : Int)] w fun e w' => e = .returned (.int .i64 (longN l i b : Nat)) ∧ Below w.heap.size w w' := by
  have hl := h.1
  have hc := h.2.1
  go_enter Try.func102, Try.ntmps102
  go_wp2
  go_loopw [7] (fun q wr => ∃ n : Nat, n ≤ 66 ∧ i + n ≤ l.length ∧ q = .int .i64 n ∧ Hid (longGo l i b (66 - n) n = longN l i b) ∧ Hid (Below w.heap.size w wr)) (fun q _ => 66 - (intOf q).toNat)
  case atStart => exact ⟨0, Nat.zero_le _, hi, rfl, Lib.hid rfl, Lib.hid (Below.refl _ _)⟩
  case round =>
    obtain ⟨n, hn66, hin, rfl, ht, hbw⟩ := hrel
    obtain ⟨m, hm⟩ : ∃ m, m = i + n := ⟨_, rfl⟩
    have hm1 : IntKind.i64.wrap ((i : Int) + (n : Int)) = (m : Int) := by rw [IntWalk.i64_in _ (by omega)]; omega
    by_cases h1 : m < l.length
    · have d1 : decide ((m : Int) < (l.length : Int)) = true := by simp; omega
      by_cases h2 : n < 66
      · have d2 : decide ((n : Int) < 66) = true := by simp; omega
        obtain ⟨j, hj⟩ : ∃ j, j = m - b := ⟨_, rfl⟩
        have hj1 : IntKind.i64.wrap ((m : Int) - (b : Int)) = (j : Int) := by rw [IntWalk.i64_in _ (by omega)]; omega
        have hjl : j < l.length := by omega
        obtain ⟨ad, rfl, _, q⟩ := (h.below hbw.out).int_at h1
        obtain ⟨ad', ha, _, q'⟩ := (h.below hbw.out).int_at hjl
        injection ha with ha
        subst ha
        have hdw : ∀ k, Below w.heap.size w (wr.drewN k) := fun k => bthen hbw.out (below_drewN _ _)
        have HDW := Lib.hid hdw
        by_cases he : l[m] = l[j]
        · have d3 : (l[m] == l[j]) = true := by simp [he]
          have HT := Lib.hid (show longGo l i b (66 - (n + 1)) (n + 1) = longN l i b by
            rw [← ht.out, show 66 - n = 66 - (n + 1) + 1 by omega, longGo_more]
            rw [← hm, ← hj, getD_at h1, getD_at hjl]
            exact ⟨h1, he⟩)
          have hin2 : i + (n + 1) ≤ l.length := by omega
          clear he hj hm
          go_wp2_with fail
          go_quiet (fail)
          go_wp2
          go_roundw
          case rel => exact ⟨n + 1, by omega, hin2, by go_num, HT, Lib.hid (HDW.out _)⟩
          case measure => simp [intOf]; omega
        · have d3 : (l[m] == l[j]) = false := by simp [he]
          have HT := Lib.hid (show longN l i b = n by
            rw [← ht.out, longGo_stop]
            rw [← hm, ← hj, getD_at h1, getD_at hjl]
            exact fun h' => he h'.2)
          clear he hj hm
          go_wp2_with fail
          go_quiet (fail)
          go_wp2
          go_ret
          exact ⟨by rw [HT.out]; rfl, HDW.out _⟩
      · have d2 : decide ((n : Int) < 66) = false := by simp; omega
        have HT := Lib.hid (show longN l i b = n by rw [← ht.out, show 66 - n = 0 by omega]; rfl)
        have HDW := Lib.hid (fun k => show Below w.heap.size w (wr.drewN k) from bthen hbw.out (below_drewN _ _))
        clear hm
        go_wp2_with fail
        go_quiet (fail)
        go_wp2
        go_ret
        exact ⟨by rw [HT.out]; rfl, HDW.out _⟩
    · have d1 : decide ((m : Int) < (l.length : Int)) = false := by simp; omega
      have HT := Lib.hid (show longN l i b = n by
        rw [← ht.out, longGo_stop]
        rw [← hm]
        exact fun h' => h1 h'.1)
      have HDW := Lib.hid (fun k => show Below w.heap.size w (wr.drewN k) from bthen hbw.out (below_drewN _ _))
      clear hm
      go_wp2_with fail
      go_quiet (fail)
      go_wp2
      go_ret
      exact ⟨by rw [HT.out]; rfl, HDW.out _⟩

set_option maxRecDepth 20000 in
set_option maxHeartbeats 1000000 in
theorem l4Best_any (l : List Int) (A : Option Addr) (c : Nat) (F : Nat → Prop) (i : Nat) (w : World) (h : Ints w F A c l) (hn : l.length ≤ 4194304) (hi : i ≤ l.length) :
    Calls Try.prog 95 #[.slice A l.length c, .int .i64 (i : Int)] w fun e w' => e = .returned (.tuple #[.int .i64 ((bestN l i).1 : Nat), .int .i64 ((bestN l i).2 : Nat)]) ∧ Below w.heap.size w w' := by
  have hl := h.1
  have hc := h.2.1
  go_enter Try.func95, Try.ntmps95
  go_wp2
  go_loopw [6, 7, 8] (fun be lo q wr => ∃ (k : Nat) (s : Nat × Nat), k ≤ min i 200 ∧ q = .int .i64 (k + 1 : Nat) ∧ lo = .int .i64 (s.1 : Nat) ∧ be = .int .i64 (s.2 : Nat) ∧ Hid (bestFrom l i (fun _ => true) (min i 200 - k) (k + 1) s = bestN l i) ∧ Hid (Below w.heap.size w wr)) (fun _ _ q _ => min i 200 + 1 - (intOf q).toNat)
  case atStart => exact ⟨0, (0, 0), Nat.zero_le _, rfl, rfl, rfl, Lib.hid rfl, Lib.hid (Below.refl _ _)⟩
  case round =>
    obtain ⟨k, s, hk, rfl, rfl, rfl, ht, hbw⟩ := hrel
    have HC := fun (hkb : k + 1 ≤ i) => l4Long_any l A c F i (k + 1) wr (h.below hbw.out) hn hi (by omega) hkb
    rw [show ((k + 1 : Nat) : Int) = (k : Int) + 1 from rfl] at HC
    by_cases h200 : i ≤ 200
    · have HM := Lib.hid (show min i 200 = i by omega)
      by_cases hlt : k < i
      · go_wp2_with fail
        refine (HC (by omega)).mono ?_
        rintro e w2 ⟨rfl, hb2⟩
        obtain ⟨N, hN⟩ : ∃ N, N = longN l i (k + 1) := ⟨_, rfl⟩
        rw [← hN]
        have HB := Lib.hid (bthen hbw.out hb2)
        have HT := Lib.hid (show bestFrom l i (fun _ => true) (min i 200 - (k + 1)) (k + 1 + 1) (if s.1 < N then (N, k + 1) else s) = bestN l i by
          rw [← ht.out, show min i 200 - k = min i 200 - (k + 1) + 1 by rw [HM.out]; omega, hN]
          rfl)
        clear hN HC hb2
        by_cases hgt : s.1 < N
        · rw [if_pos hgt] at HT
          go_wp2
          go_roundw
          case rel => exact ⟨k + 1, (N, k + 1), by rw [HM.out]; omega, by go_num, rfl, by go_num, HT, HB⟩
          case measure => simp [intOf]; omega
        · rw [if_neg hgt] at HT
          go_wp2
          go_roundw
          case rel => exact ⟨k + 1, s, by rw [HM.out]; omega, by go_num, rfl, rfl, HT, HB⟩
          case measure => simp [intOf]; omega
      · have HT := Lib.hid (show s = bestN l i by
          rw [← ht.out, show min i 200 - k = 0 by rw [HM.out]; omega]
          rfl)
        go_wp2
        go_ret2
        exact ⟨by rw [← HT.out]; rfl, hbw.out⟩
    · have HM := Lib.hid (show min i 200 = 200 by omega)
      by_cases hlt : k < 200
      · go_wp2_with fail
        refine (HC (by omega)).mono ?_
        rintro e w2 ⟨rfl, hb2⟩
        obtain ⟨N, hN⟩ : ∃ N, N = longN l i (k + 1) := ⟨_, rfl⟩
        rw [← hN]
        have HB := Lib.hid (bthen hbw.out hb2)
        have HT := Lib.hid (show bestFrom l i (fun _ => true) (min i 200 - (k + 1)) (k + 1 + 1) (if s.1 < N then (N, k + 1) else s) = bestN l i by
          rw [← ht.out, show min i 200 - k = min i 200 - (k + 1) + 1 by rw [HM.out]; omega, hN]
          rfl)
        clear hN HC hb2
        by_cases hgt : s.1 < N
        · rw [if_pos hgt] at HT
          go_wp2
          go_roundw
          case rel => exact ⟨k + 1, (N, k + 1), by rw [HM.out]; omega, by go_num, rfl, by go_num, HT, HB⟩
          case measure => simp [intOf]; omega
        · rw [if_neg hgt] at HT
          go_wp2
          go_roundw
          case rel => exact ⟨k + 1, s, by rw [HM.out]; omega, by go_num, rfl, rfl, HT, HB⟩
          case measure => simp [intOf]; omega
      · have HT := Lib.hid (show s = bestN l i by
          rw [← ht.out, show min i 200 - k = 0 by rw [HM.out]; omega]
          rfl)
        go_wp2
        go_ret2
        exact ⟨by rw [← HT.out]; rfl, hbw.out⟩
end Go.Proofs.Ytfflhenldegmmaa
