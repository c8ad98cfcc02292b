/- The law FnReadBatches. -/
import Derived.Test.YtfkhmmekdmochaaRb
import Derived.Test.YtfkhmmekdmochaaDx
import Derived.Test.YtfkhmmekdmochaaE3
import Derived.Test.YtfkhmmekdmochaaSp
import Derived.Test.YtfkhmmekdmochaaBt
namespace Go.Proofs.Ytfkhmmekdmochaa
set_option linter.unusedVariables false
set_option linter.unusedSimpArgs false
open Go.RowKit

theorem run_cutlhR {P : Program} {t e : TypeId} {z : Value} {s b : Nat} (ht : P.underlying t = some (.slice e)) (hinfo : (P.info? e).map (fun i => (i.zero, i.size, i.bytes)) = some (some z, s, b)) (A : Option Addr) (n cap l h : Nat) (H : Int) (hH : H = (h : Int)) (hl : l ≤ h) (hh : h ≤ cap) (w : World) :
    (Instr.slice t (.slice A n cap) (some (.int .i64 (l : Int))) (some (.int .i64 H)) none).run P w = .ok (.slice (cutAddr A l cap s) (h - l) (cap - l)) w := by
  subst hH
  obtain ⟨i, hi, _, hs, _⟩ := info_of hinfo
  have he : P.elem t = e := by simp [Program.elem, ht]
  rw [run_slice_lh (P := P) (w := w) t A n cap (by rw [he]; exact ht) .i64 .i64 (l : Int) (h : Int) (by omega) (by omega) (by omega)]
  rw [he]
  simp [sizeOf, typeInfo, hi, hs, sliced, cutAddr, Result.andThen]
set_option maxRecDepth 20000 in
set_option maxHeartbeats 4000000 in
theorem readBatches_walk (b0 : List Int) (A : Option Addr) (c : Nat) (w : World) (h : Kind.byte.Row w (fun _ => True) A c b0) :
    Calls Try.prog 8 #[.slice A b0.length c] w fun e w' => e = .returned (.bool true) ∧ Below w.heap.size w w' := by
  have hl := h.1
  have hc := h.2.1
  by_cases hs : b0.length ≤ 1048576
  · go_enter Try.func8, Try.ntmps8
    go_wp2_with fail
    refine (DrawReadBatches_any b0 A c _ _ h).mono ?_
    rintro e w1 ⟨bs, B, d, o, m, rfl, ho0, ho1, hm0, hm1, hD⟩
    have hB := hD.row
    have hb1 := hD.below
    have hlen9 := hD.len
    have hlB := hB.1
    have hcB := hB.2.1
    clear hD
    go_wp2_with fail
    refine (ReadBatches_any bs B d _ o m w1 hB).mono ?_
    rintro e w2 ⟨v2, B2, xs, rfl, hRB, HV2, hb2⟩
    obtain ⟨A2, c2, rfl, k2⟩ := HV2.toP.row
    have hB2 := hB.below hb2
    go_wp2_with fail
    refine (ReadBatchesS_any bs B d _ o m w2 hB2).mono ?_
    rintro e w3 ⟨v3, B3, xs3, rfl, hRB3, HV3, hb3⟩
    obtain rfl := hRB3.uniq hRB
    obtain ⟨A3, c3, rfl, k3⟩ := HV3.toP.row
    have k23 := k2.below hb3
    have hB3 := hB2.below hb3
    have b3 := bthen (bthen hb1 hb2) hb3
    have hxl := hRB.le
    have hxc := k3.1
    have hxc2 := k23.1
    have HRB := Lib.hid hRB
    clear HV2 HV3 hB hB2 k2 hb1 hb2 hb3 hRB hRB3
    go_wp2_with fail
    refine (sameLog_any xs3 xs3 A2 A3 c2 c3 _ _ w3 k23 k3).mono ?_
    rintro e w4 ⟨rfl, hb4⟩
    rw [decide_eq_true rfl]
    have k24 := k23.below hb4
    have k34 := k3.below hb4
    have hB4 := hB3.below hb4
    have b4 := bthen b3 hb4
    clear k23 k3 hB3 hb4 b3
    rcases Nat.eq_zero_or_pos xs3.length with h0 | h0
    · obtain rfl : xs3 = [] := List.eq_nil_of_length_eq_zero h0
      clear h0
      go_wp2_with fail
      refine (sameLog_any [] [] A2 A3 c2 c3 _ _ w4 k24 k34).mono ?_
      rintro e w5 ⟨rfl, hb5⟩
      rw [decide_eq_true rfl]
      have b5 := Lib.hid (bthen b4 hb5)
      clear b4 hb5 k24 k34 hB4
      go_wp2
      go_ret
      exact ⟨rfl, b5.out⟩
    · have hne : xs3 ≠ [] := List.ne_nil_of_length_pos h0
      have hz : ((xs3.length : Int) == 0) = false := by simp; exact hne
      have hlv := HRB.out.ok hne
      have HLV := Lib.hid hlv
      have HALL := Lib.hid (logB_all hlv).2
      have HPR := Lib.hid (show xs3.length ≤ (rdL bs o).length ∧ xs3 = (rdL bs o).take xs3.length by
        have := HRB.out
        unfold RBOut at this
        split at this
        · exact this.pre
        · exact absurd this hne)
      have HB4 := Lib.hid b4
      have HNE := Lib.hid hne
      clear hlv k34 b4
      go_wp2_with fail
      go_loopw [8] (fun i wr => ∃ k : Nat, k ≤ bs.length ∧ i = .int .i64 k ∧ Hid (∀ i, (hi : i < k) → (batAt bs i).last < o) ∧ Hid (Below w4.heap.size w4 wr)) (fun i _ => bs.length - (intOf i).toNat)
      case atStart => exact ⟨0, Nat.zero_le _, rfl, Lib.hid (fun i hi => by omega), Lib.hid (Below.refl _ _)⟩
      case round =>
        obtain ⟨k, hk, rfl, HP, HB⟩ := hrel
        by_cases hlt : k < bs.length
        · obtain ⟨ad2, C1, d1, rfl, _, hi1, q0, q1, q2, q3, q4, q5⟩ := (hB4.below HB.out).bat_at hlt
          have hbk := HALL.out _ (List.getElem_mem hlt)
          obtain ⟨la, hla⟩ : ∃ la, la = bs[k].last := ⟨_, rfl⟩
          have HLA := Lib.hid hla
          clear hla
          go_wp2_with fail
          refine (BatchSpan_any bs[k] C1 d1 _ _ hi1 hbk).mono ?_
          rintro e w6 ⟨rfl, hb6⟩
          rw [← HLA.out]
          have HB6 := Lib.hid (bthen HB.out hb6)
          clear hb6 hi1 q0 q1 q2 q3 q4 q5 hbk
          by_cases hlo : la < o
          · go_wp2
            go_roundw
            case rel =>
              refine ⟨k + 1, by omega, by go_num, Lib.hid (fun i hi => ?_), HB6⟩
              by_cases hin : i < k
              · exact HP.out i hin
              · obtain rfl : i = k := by omega
                rw [batAt_eq hlt, ← HLA.out]
                exact hlo
            case measure => simp [intOf]; omega
          · have hrd : rdL bs o = bs.drop k := rdL_drop HLV.out k hk (fun i hi => by have := HP.out i hi; rwa [batAt_eq (by omega)] at this) (fun _ => by rw [← HLA.out]; omega)
            have hpr := HPR.out
            rw [hrd] at hpr
            obtain ⟨hp1, hp2⟩ := hpr
            rw [List.length_drop] at hp1
            have hsl : ∀ W : World, (Instr.slice 23 (.slice (some ad2) bs.length d) (some (.int .i64 (k : Int))) (some (.int .i64 ((k : Int) + (xs3.length : Int)))) none).run Try.prog W = .ok (.slice (cutAddr (some ad2) k d 6) xs3.length (d - k)) W := fun W => by
              have := run_cutlhR Try.underlying23 info_batR (some ad2) bs.length d k (k + xs3.length) ((k + xs3.length : Nat) : Int) rfl (by omega) (by omega) W
              rw [show k + xs3.length - k = xs3.length by omega] at this
              simpa using this
            have k26 := (k24.below HB6.out)
            have hcut := (((hB4.below HB6.out).cut k hk).take xs3.length)
            rw [← hp2] at hcut
            have hsum : (k : Int) + (xs3.length : Int) ≤ (bs.length : Int) := by omega
            have HBB := Lib.hid (bthen HB4.out HB6.out)
            clear hrd hp1 hp2 k24 hB4 HB6 hne
            go_wp2_with fail
            refine (sameLog_any xs3 xs3 A2 _ c2 _ _ _ w6 k26 hcut).mono ?_
            rintro e w7 ⟨rfl, hb7⟩
            rw [decide_eq_true rfl]
            have b7 := Lib.hid (bthen HBB.out hb7)
            clear hb7 k26 hcut
            go_wp2
            go_ret
            exact ⟨rfl, b7.out⟩
        · exfalso
          have hk2 : k = bs.length := by omega
          have hrd : rdL bs o = bs.drop k := rdL_drop HLV.out k hk (fun i hi => by have := HP.out i hi; rwa [batAt_eq (by omega)] at this) (fun hi => by omega)
          have hpr := HPR.out.1
          rw [hrd, hk2, List.drop_length] at hpr
          simp at hpr
          exact HNE.out hpr

  · go_enter Try.func8, Try.ntmps8
    go_wp2
    go_ret
    exact ⟨rfl, Below.refl _ _⟩
end Go.Proofs.Ytfkhmmekdmochaa
