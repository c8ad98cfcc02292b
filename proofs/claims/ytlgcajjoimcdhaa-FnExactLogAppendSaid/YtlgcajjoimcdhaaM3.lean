/- Marks: held by records. -/
import Derived.Test.YtlgcajjoimcdhaaM2
import Derived.Test.YtlgcajjoimcdhaaGr
namespace Go.Proofs.Ytlgcajjoimcdhaa
set_option linter.unusedVariables false
set_option linter.unusedSimpArgs false
open Go.RowKit

set_option maxHeartbeats 2000000 in
theorem heldRecordS_any (rs : List Rec) (A : Option Addr) (c : Nat) (F : Nat → Prop) (k : Int) (w : World) (h : Recs w F A c (upR rs k rs.length)) (hk : 0 ≤ k) (hk1 : endR rs k rs.length ≤ 1152921504606846976) :
    Calls Try.prog 43 #[.slice A rs.length c, .int .i64 k] w fun e w' => e = .returned (.int .i64 (endR rs k rs.length)) ∧ Below w.heap.size w w' := by
  have hl := h.1
  have hc := h.2.1
  rw [upR_len] at hl
  go_enter Try.func43, Try.ntmps43
  go_wp2_with fail
  go_loopw [1, 5] (fun q i wr => ∃ j : Nat, j ≤ rs.length ∧ i = .int .i64 j ∧ q = .int .i64 (endR rs k j) ∧ Hid (Below w.heap.size w wr)) (fun _ i _ => rs.length - (intOf i).toNat)
  case atStart => exact ⟨0, Nat.zero_le _, rfl, rfl, Lib.hid (Below.refl _ _)⟩
  case round =>
    obtain ⟨j, hj, rfl, rfl, HB⟩ := hrel
    by_cases hlt : j < rs.length
    · have hju : j < (upR rs k rs.length).length := by rw [upR_len]; exact hlt
      have hel : (upR rs k rs.length)[j] = markR rs[j] (endR rs k j) := by
        have := upR_done rs k rs.length j hlt hlt
        rw [List.getElem?_eq_getElem hju] at this
        injection this
      obtain ⟨ad, C1, d1, C2, d2, rfl, _, i1, i2, q0, q1, q2, q3, q4, q5⟩ := (h.below HB.out).rec_at hju
      rw [hel] at i1 i2 q0 q1 q2 q3 q4 q5
      have hE := endR_succ rs k j hlt
      have hm1 := endR_mono rs k (show j + 1 ≤ rs.length by omega)
      have hm0 := endR_mono rs k (Nat.zero_le j)
      have e0 : endR rs k 0 = k := rfl
      rw [e0] at hm0
      have hb4 := hE
      unfold markEnd at hb4
      obtain ⟨a, ha⟩ : ∃ a, a = endR rs k j := ⟨_, rfl⟩
      rw [← ha] at hb4 hm0 hE i1 i2 q0 q1 q2 q3 q4 q5 ⊢
      have HE := Lib.hid hE
      have hlen1 : a + 4 + rs[j].key.length + rs[j].val.length ≤ 1152921504606846976 := by omega
      obtain ⟨nk, hnk⟩ : ∃ nk, nk = rs[j].key.length := ⟨_, rfl⟩
      obtain ⟨nv, hnv⟩ : ∃ nv, nv = rs[j].val.length := ⟨_, rfl⟩
      simp only [markR, marksI_len] at i1 i2 q0 q1 q2 q3 q4 q5
      rw [← hnk] at i1 i2 q3 q4 hlen1
      rw [← hnv] at i2 q5 hlen1
      rw [show a + 2 = a + 1 + 1 by omega] at q2
      rw [show a + 3 = a + 1 + 1 + 1 by omega] at i1 i2 q4
      have HNX : Hid (endR rs k (j + 1) = a + 1 + 1 + 1 + nk + 1 + nv) := Lib.hid (by rw [HE.out, hnk, hnv]; unfold markEnd; omega)
      clear hel hE hb4 hm1 e0 ha hnk hnv HE
      go_wp2_with fail
      refine (heldIntS_any nk C1 d1 _ (a + 1 + 1 + 1) wr i1 (by omega) (by omega) (by omega)).mono ?_
      rintro e w1 ⟨rfl, hb1⟩
      have p4 := below_cell hb1 q4
      have p5 := below_cell hb1 q5
      have i21 := i2.below hb1
      have HB1 := Lib.hid (bthen HB.out hb1)
      clear q0 q1 q2 q3 q4 q5 hb1 i1 i2
      go_wp2_with fail
      refine (heldIntS_any nv C2 d2 _ (a + 1 + 1 + 1 + nk + 1) w1 i21 (by omega) (by omega) (by omega)).mono ?_
      rintro e w2 ⟨rfl, hb2⟩
      have HB2 := Lib.hid (bthen HB1.out hb2)
      clear hb2 i21 p4 p5
      go_wp2
      go_roundw
      case rel => exact ⟨j + 1, by omega, by go_num, by rw [HNX.out], HB2⟩
      case measure => simp [intOf]; omega
    · have hj2 : j = rs.length := by omega
      subst hj2
      go_wp2
      go_ret
      exact ⟨rfl, HB.out⟩
end Go.Proofs.Ytlgcajjoimcdhaa
