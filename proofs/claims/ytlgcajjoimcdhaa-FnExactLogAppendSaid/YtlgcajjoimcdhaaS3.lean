/- All records: the reference's, the laws'. -/
import Derived.Test.YtlgcajjoimcdhaaA2
import Derived.Test.YtlgcajjoimcdhaaPr
namespace Go.Proofs.Ytlgcajjoimcdhaa
set_option linter.unusedVariables false
set_option linter.unusedSimpArgs false
open Go.RowKit

theorem allRecs_take_succ {bs : List Bat} {k : Nat} (h : k < bs.length) : allRecs (bs.take (k + 1)) = allRecs (bs.take k) ++ bs[k].recs := by rw [List.take_succ_eq_append_getElem h, allRecs_snoc]
theorem allRecs_take_le (bs : List Bat) (k : Nat) : (allRecs (bs.take k)).length ≤ (allRecs bs).length := by
  conv => rhs; rw [← List.take_append_drop k bs]
  unfold allRecs
  rw [List.flatMap_append, List.length_append]
  omega

set_option maxHeartbeats 1000000 in
theorem l14All_any (bs : List Bat) (A : Option Addr) (c : Nat) (F : Nat → Prop) (w : World) (h : Bats w F A c bs) (hsm : (allRecs bs).length ≤ 1000) :
    Calls Try.prog 68 #[.slice A bs.length c] w fun e w' => ∃ A' c', e = .returned (.slice A' (allRecs bs).length c') ∧ Recs w' (fun b => F b ∨ w.heap.size ≤ b) A' c' (allRecs bs) ∧ Below w.heap.size w w' := by
  have hl := h.1
  have hc := h.2.1
  have hbd := h.bound bnd_bat
  go_enter Try.func68, Try.ntmps68
  go_wp2_with fail
  have hA1 := AppP.mono (P' := fun b => (F b ∧ b < w.heap.size) ∨ w.heap.size ≤ b) (App.lit Kind.rec_ 33 w w.heap.size (Nat.le_refl _)) (fun b _ hb => .inr hb)
  have hB1 := Lib.hid (bal w (.cells #[] 33))
  go_loopw [3, 4] (fun v i wr => ∃ k : Nat, k ≤ bs.length ∧ i = .int .i64 k ∧ AppP Kind.rec_ 33 wr (fun b => (F b ∧ b < w.heap.size) ∨ w.heap.size ≤ b) v (allRecs (bs.take k)) ∧
    Hid (∀ g, v.ownBlock = some g → w.heap.size ≤ g) ∧ Hid (Below w.heap.size w wr)) (fun _ i _ => bs.length - (intOf i).toNat)
  case atStart => exact ⟨0, Nat.zero_le _, rfl, hA1, Lib.hid own_lit, hB1⟩
  case round =>
    obtain ⟨k, hk, rfl, HA, HO, HB⟩ := hrel
    by_cases hlt : k < bs.length
    · obtain ⟨ad, B, b, rfl, _, hr, q0, q1, q2, q3, q4, q5⟩ := (hbd.below HB.out).bat_at hlt
      have e1 := allRecs_take_succ hlt
      have hsz : (allRecs (bs.take k)).length + bs[k].recs.length ≤ 1000 := by
        have := allRecs_take_le bs (k + 1)
        rw [e1] at this
        simp at this
        omega
      have E1 := Lib.hid e1
      have hws := HB.out.size
      clear e1 hA1 hB1
      go_wp2_with (at_builtin; go_loud (refine wpList_appN Kind.rec_ HA rfl _ _ 28 (.agg #[.int .i64 0, .int .i64 0, .bool false, .slice none 0 0, .bool false, .slice none 0 0]) 80 rfl Try.underlying28 (by kernel_rfl) rfl bnd_rec onec_rec (A := B) (c := b) rfl rfl rfl hr (fun b' _ hb => ⟨.inl hb, fun e => by have := HO.out _ e; omega⟩) (fun b' hb => .inr (by omega)) (by omega) (by omega) ?_))
      intro v1 w1 HA1 hc1 ho1
      rw [← E1.out] at HA1
      have HO1 := Lib.hid (own_from ho1 HO.out hws)
      have HB1 := Lib.hid (HB.out.trans (hc1.below hws (fun i hi => HO.out i hi)))
      clear hc1 ho1 HA HO HB q0 q1 q2 q3 q4 q5 hr
      go_wp2
      go_roundw
      case rel => exact ⟨k + 1, by omega, by go_num, HA1, HO1, HB1⟩
      case measure => simp [intOf]; omega
    · have hk2 : k = bs.length := by omega
      subst hk2
      rw [List.take_length] at HA
      obtain ⟨A', c', rfl, J⟩ := AppP.row HA
      have HJ := Lib.hid (J.mono (F' := fun b => F b ∨ w.heap.size ≤ b) (fun b hb => hb.elim (fun h => .inl h.1) .inr))
      clear HA J
      go_wp2
      go_ret
      exact ⟨A', c', rfl, HJ.out, HB.out⟩
end Go.Proofs.Ytlgcajjoimcdhaa
