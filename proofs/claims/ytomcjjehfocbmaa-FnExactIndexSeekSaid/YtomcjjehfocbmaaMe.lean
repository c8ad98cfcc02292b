/- Marks of entries. -/
import Derived.Test.YtomcjjehfocbmaaM5
namespace Go.Proofs.Ytomcjjehfocbmaa
set_option linter.unusedVariables false
set_option linter.unusedSimpArgs false
open Go.RowKit

def marksE (n : Nat) (k : Int) : List Ent := (List.range n).map fun (i : Nat) => ⟨k + 2 * (i : Int), k + 2 * (i : Int) + 1⟩
theorem marksE_len (n : Nat) (k : Int) : (marksE n k).length = n := by simp [marksE]
theorem marksE_at (n : Nat) (k : Int) (i : Nat) (h : i < n) : (marksE n k)[i]'(by rw [marksE_len]; exact h) = ⟨k + 2 * (i : Int), k + 2 * (i : Int) + 1⟩ := by simp [marksE]
theorem marksE_step {xs : List Ent} {k : Int} {i : Nat} (hi : i < xs.length) : (marksE i k ++ xs.drop i).set i ⟨k + 2 * (i : Int), k + 2 * (i : Int) + 1⟩ = marksE (i + 1) k ++ xs.drop (i + 1) := by
  rw [List.set_append_right _ _ (by rw [marksE_len]; exact Nat.le_refl _), marksE_len, Nat.sub_self, List.drop_eq_getElem_cons hi, List.set_cons_zero]
  unfold marksE
  rw [List.range_succ, List.map_append, List.append_assoc]
  rfl
set_option maxHeartbeats 2000000 in
theorem markEntryS_any (xs : List Ent) (A : Option Addr) (c : Nat) (F : Nat → Prop) (k : Int) (w : World) (h : XKind.ent.Row 57 w F A c xs) (hk : 0 ≤ k) (hk1 : k ≤ 1152921504606846976) (hn : xs.length ≤ 1048576) :
    Calls Try.prog 20 #[.slice A xs.length c, .int .i64 k] w fun e w' => e = .returned (.int .i64 (k + 2 * xs.length)) ∧ XKind.ent.Row 57 w' F A c (marksE xs.length k) ∧ Chg F w w' := by
  have hl := h.1
  have hc := h.2.1
  go_enter Try.func20, Try.ntmps20
  go_wp2_with fail
  go_loopw [1, 5] (fun q i wr => ∃ j : Nat, j ≤ xs.length ∧ i = .int .i64 j ∧ q = .int .i64 (k + 2 * j) ∧ Hid (XKind.ent.Row 57 wr F A c (marksE j k ++ xs.drop j)) ∧ Hid (Chg F w wr)) (fun _ i _ => xs.length - (intOf i).toNat)
  case atStart => exact ⟨0, Nat.zero_le _, rfl, by simp, Lib.hid (by simpa [marksE] using h), Lib.hid (Chg.refl _ _)⟩
  case round =>
    obtain ⟨j, hj, rfl, rfl, HX, HC⟩ := hrel
    by_cases hlt : j < xs.length
    · have hlen : (marksE j k ++ xs.drop j).length = xs.length := by simp [marksE_len]; omega
      obtain ⟨g, m, Fi, cs, rfl, hF, hB, hroom, hFi, hXe, hcell, hput⟩ := HX.out.focus (i := j) (by rw [hlen]; exact hlt)
      have s2 : XKind.ent.d.sz = 2 := rfl
      rw [s2] at hcell hroom hput
      have hcs : cs = [.int .i64 _, .int .i64 _] := hXe
      rw [hcs] at hcell
      have p0 := hcell 0 _ rfl
      rw [Nat.add_zero] at p0
      have p1 := hcell 1 _ rfl
      obtain ⟨o0, q0⟩ : ∃ v, wr.cell? ⟨g, j * 2, none⟩ = some v := ⟨_, p0⟩
      obtain ⟨o1, q1⟩ : ∃ v, wr.cell? ⟨g, j * 2 + 1, none⟩ = some v := ⟨_, p1⟩
      clear p0 p1
      have fz : ∀ i, wr.frozen? ⟨g, i, none⟩ = false := fun i => hB.frozen i
      obtain ⟨a, ha⟩ : ∃ a, a = k + 2 * (j : Int) := ⟨_, rfl⟩
      obtain ⟨B1, c1, k1, r1⟩ := blkPut hB (o := j * 2) (by omega) (.int .i64 a)
      obtain ⟨B2, c2, k2, r2⟩ := blkPut B1 (o := j * 2 + 1) (by omega) (.int .i64 (a + 1))
      have q1b := (r1 (j * 2 + 1) (by omega)).trans q1
      have fz1 : ∀ i, (wr.setCell ⟨g, j * 2, none⟩ (.int .i64 a)).frozen? ⟨g, i, none⟩ = false := fun i => B1.frozen i
      have hrow := hput _ ⟨a, a + 1⟩ [.int .i64 a, .int .i64 (a + 1)] ((k1.trans k2).mono (fun i _ h => .inl h)) B2 rfl (fun q u hu => by
        match q, hu with
        | 0, hu => simp at hu; subst hu; rw [Nat.add_zero, r2 _ (by omega)]; exact c1
        | 1, hu => simp at hu; subst hu; exact c2) (fun p hp => by rw [r2 _ (by omega), r1 _ (by omega)])
      have hst : (⟨a, a + 1⟩ : Ent) = ⟨k + 2 * (j : Int), k + 2 * (j : Int) + 1⟩ := by rw [ha]
      rw [hst, marksE_step hlt] at hrow
      have HX3 := Lib.hid hrow
      have HC3 := Lib.hid (HC.out.trans ((k1.trans k2).mono (F' := F) (fun i _ h => by subst h; exact hF)))
      have HA := Lib.hid ha
      have ha1 : 0 ≤ a ∧ a ≤ 1152921504606846976 + 2097152 := by omega
      rw [← ha]
      clear hrow hput hcell hst ha B1 B2 c1 c2 k1 k2 r1 r2 hXe hcs s2 hlen
      go_wp2
      go_roundw
      case rel => exact ⟨j + 1, by omega, by go_num, by congr 1; have := HA.out; omega, HX3, HC3⟩
      case measure => simp [intOf]; omega
    · have hj2 : j = xs.length := by omega
      subst hj2
      have HX3 := Lib.hid (show XKind.ent.Row 57 wr F A c (marksE xs.length k) by have := HX.out; rwa [List.drop_length, List.append_nil] at this)
      go_wp2
      go_ret
      exact ⟨rfl, HX3.out, HC.out⟩
/-- A row of entries of one's own, the parts apart. -/
theorem AppP.xents {e : TypeId} {w : World} {P : Nat → Prop} {v : Value} {xs : List Ent} (h : AppP Kind.ent e w P v xs) : ∃ A c, v = .slice A xs.length c ∧ XKind.ent.Row e w (fun b => v.ownBlock = some b) A c xs := by
  obtain ⟨A, c, rfl, h1, h2⟩ := h.slice_
  obtain ⟨F, inner, ho, hP, hF, hE⟩ := h
  refine ⟨A, c, rfl, h1, h2, fun hx => ?_⟩
  rcases id ho.2 with ⟨_, hn⟩ | ⟨g, cap, cur, hv, _, hh, k1, k2, k3, k4⟩
  · exact absurd (List.eq_nil_of_length_eq_zero hn) hx
  · injection hv with hv1 hv2 hv3
    subst hv1
    refine ⟨g, cap * 2, rfl, rfl, ⟨cur, hh, k3⟩, Nat.mul_le_mul_right _ (by omega), fun _ _ => False, fun _ _ _ h => h.elim, fun _ _ h => h.elim, fun j x hj => ?_⟩
    obtain ⟨cs, hK, hc⟩ := hE j x hj
    refine ⟨cs, hK, fun i u hu => ?_⟩
    have := ho.cells (g := g) rfl _ _ (hc i u hu)
    have hadd : (⟨g, 0, none⟩ : Addr).add (j * 2 + i) = ⟨g, j * 2 + i, none⟩ := by unfold Addr.add; split <;> simp_all
    have h2' : Kind.ent.sz = 2 := rfl
    rw [h2', hadd] at this
    exact this
end Go.Proofs.Ytomcjjehfocbmaa
