/- Marks: ints. -/
import Derived.Test.YtfflhenldegmmaaAx
namespace Go.Proofs.Ytfflhenldegmmaa
set_option linter.unusedVariables false
set_option linter.unusedSimpArgs false
open Go.RowKit

def marksI (n : Nat) (k : Int) : List Int := (List.range n).map (fun (i : Nat) => k + (i : Int))
theorem marksI_len (n : Nat) (k : Int) : (marksI n k).length = n := by simp [marksI]
theorem marksI_at (n : Nat) (k : Int) (i : Nat) (h : i < n) : (marksI n k)[i]'(by rw [marksI_len]; exact h) = k + i := by simp [marksI]
theorem XInts.at_ {e : TypeId} {w : World} {F : Nat → Prop} {A : Option Addr} {c : Nat} {xs : List Int} (h : XInts e w F A c xs) {i : Nat} (hi : i < xs.length) :
    ∃ g, A = some ⟨g, 0, none⟩ ∧ F g ∧ w.cell? ⟨g, i, none⟩ = some (.int .i64 xs[i]) ∧ w.frozen? ⟨g, i, none⟩ = false := by
  obtain ⟨g, m, e, hF, hB, hm, Fs, _, _, h3⟩ := h.2.2 (by intro e; rw [e] at hi; simp at hi)
  obtain ⟨cs, hX, hc⟩ := h3 i _ (List.getElem?_eq_getElem hi)
  have hX : cs = [.int .i64 xs[i]] := hX
  subst hX
  have := hc 0 _ rfl
  refine ⟨g, e, hF, ?_, hB.frozen i⟩
  have s1 : (XKind.int .i64).d.sz = 1 := rfl
  rw [s1] at this
  simpa using this
theorem XInts.set {e : TypeId} {w : World} {F : Nat → Prop} {g c : Nat} {xs : List Int} (h : XInts e w F (some ⟨g, 0, none⟩) c xs) {i : Nat} (hi : i < xs.length) (x : Int) :
    XInts e (w.setCell ⟨g, i, none⟩ (.int .i64 x)) F (some ⟨g, 0, none⟩) c (xs.set i x) := by
  obtain ⟨h1, h2, h3⟩ := h
  refine ⟨by simpa using h1, h2, fun _ => ?_⟩
  obtain ⟨g', m, e, hF, hB, hm, Fs, k1, k2, k3⟩ := h3 (by intro e; rw [e] at hi; simp at hi)
  injection e with e
  injection e with e _ _
  subst e
  refine ⟨g, m, rfl, hF, hB.set _ _, by simpa using hm, fun _ _ => False, fun _ _ _ h => h.elim, fun _ _ h => h.elim, fun j y hj => ⟨[.int .i64 y], rfl, fun q u hu => ?_⟩⟩
  have s1 : (XKind.int .i64).d.sz = 1 := rfl
  obtain ⟨rfl, rfl⟩ : q = 0 ∧ u = .int .i64 y := by
    cases q with
    | zero => exact ⟨rfl, by simpa using hu.symm⟩
    | succ q => simp at hu
  rw [s1, Nat.mul_one, Nat.add_zero]
  rw [s1, Nat.mul_one] at hm
  by_cases hji : i = j
  · subst hji
    have : y = x := by simpa [hi] using hj.symm
    subst this
    obtain ⟨v, hv⟩ := hB.some (i := i) (by omega)
    exact World.cell?_setCell_same _ _ _ hv
  · rw [List.getElem?_set_ne hji] at hj
    obtain ⟨cs, hK, hc⟩ := k3 j y hj
    have hK : cs = [.int .i64 y] := hK
    subst hK
    have := hc 0 _ rfl
    rw [s1, Nat.mul_one, Nat.add_zero] at this
    rw [World.cell?_setCell_other _ _ _ _ (by intro e; injection e with e1 e2; exact hji e2)]
    exact this
theorem marks_step {xs : List Int} {k : Int} {i : Nat} (hi : i < xs.length) : (marksI i k ++ xs.drop i).set i (k + i) = marksI (i + 1) k ++ xs.drop (i + 1) := by
  rw [List.set_append_right _ _ (by rw [marksI_len]; exact Nat.le_refl _), marksI_len, Nat.sub_self, List.drop_eq_getElem_cons hi, List.set_cons_zero]
  unfold marksI
  rw [List.range_succ, List.map_append, List.append_assoc]
  rfl
theorem markIntS_any (xs : List Int) (A : Option Addr) (c : Nat) (F : Nat → Prop) (k : Int) (w : World) (h : XInts 3 w F A c xs) (hk : 0 ≤ k) (hk1 : k ≤ 1152921504606846976) (hn : xs.length ≤ 1152921504606846976) :
    Calls Try.prog 20 #[.slice A xs.length c, .int .i64 k] w fun e w' => e = .returned (.int .i64 (k + xs.length)) ∧ XInts 3 w' F A c (marksI xs.length k) ∧ Chg F w w' := by
  have hl := h.1
  have hc := h.2.1
  go_enter Try.func20, Try.ntmps20
  go_wp2_with fail
  go_loopw [1, 5] (fun q i wr => ∃ j : Nat, j ≤ xs.length ∧ i = .int .i64 j ∧ q = .int .i64 (k + j) ∧ Hid (XInts 3 wr F A c (marksI j k ++ xs.drop j)) ∧ Hid (Chg F w wr)) (fun _ i _ => xs.length - (intOf i).toNat)
  case atStart => exact ⟨0, Nat.zero_le _, rfl, by simp, Lib.hid (by simpa [marksI] using h), Lib.hid (Chg.refl _ _)⟩
  case round =>
    obtain ⟨j, hj, rfl, rfl, HX, HC⟩ := hrel
    by_cases hlt : j < xs.length
    · have hlen : (marksI j k ++ xs.drop j).length = xs.length := by simp [marksI_len]; omega
      obtain ⟨g, rfl, hF, q0, hf⟩ := HX.out.at_ (i := j) (by rw [hlen]; exact hlt)
      have HX2 := HX.out.set (i := j) (by rw [hlen]; exact hlt) (k + j)
      rw [marks_step hlt] at HX2
      have HX3 := Lib.hid HX2
      have HC3 := Lib.hid (HC.out.trans (Chg.set F wr (p := ⟨g, j, none⟩) hF (.int .i64 (k + j))))
      clear HX2
      go_wp2
      go_roundw
      case rel => exact ⟨j + 1, by omega, by go_num, by congr 1; omega, HX3, HC3⟩
      case measure => simp [intOf]; omega
    · have hj2 : j = xs.length := by omega
      subst hj2
      have HX3 := Lib.hid (show XInts 3 wr F A c (marksI xs.length k) by have := HX.out; rwa [List.drop_length, List.append_nil] at this)
      go_wp2
      go_ret
      exact ⟨rfl, HX3.out, HC.out⟩
theorem heldIntS_any (n : Nat) (A : Option Addr) (c : Nat) (F : Nat → Prop) (k : Int) (w : World) (h : Ints w F A c (marksI n k)) (hk : 0 ≤ k) (hk1 : k ≤ 1152921504606846976) (hn : n ≤ 1152921504606846976) :
    Calls Try.prog 33 #[.slice A n c, .int .i64 k] w fun e w' => e = .returned (.int .i64 (k + n)) ∧ Below w.heap.size w w' := by
  have hl := h.1
  have hc := h.2.1
  rw [marksI_len] at hl
  go_enter Try.func33, Try.ntmps33
  go_wp2_with fail
  go_loopw [1, 5] (fun q i wr => ∃ j : Nat, j ≤ n ∧ i = .int .i64 j ∧ q = .int .i64 (k + j) ∧ Hid (Below w.heap.size w wr)) (fun _ i _ => n - (intOf i).toNat)
  case atStart => exact ⟨0, Nat.zero_le _, rfl, by simp, Lib.hid (Below.refl _ _)⟩
  case round =>
    obtain ⟨j, hj, rfl, rfl, HB⟩ := hrel
    by_cases hlt : j < n
    · obtain ⟨ad, rfl, _, q0⟩ := (h.below HB.out).int_at (j := j) (by rw [marksI_len]; exact hlt)
      rw [marksI_at n k j hlt] at q0
      go_wp2
      go_roundw
      case rel => exact ⟨j + 1, by omega, by go_num, by congr 1; omega, HB⟩
      case measure => simp [intOf]; omega
    · have hj2 : j = n := by omega
      subst hj2
      go_wp2
      go_ret
      exact ⟨rfl, HB.out⟩
end Go.Proofs.Ytfflhenldegmmaa
