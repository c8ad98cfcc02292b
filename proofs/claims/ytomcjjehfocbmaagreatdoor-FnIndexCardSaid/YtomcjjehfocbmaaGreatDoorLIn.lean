/- The law FnIndex: an entry tells where a batch begins. -/
import Derived.Test.YtomcjjehfocbmaaGreatDoorIx
import Derived.Test.YtomcjjehfocbmaaGreatDoorDx
import Derived.Test.YtomcjjehfocbmaaGreatDoorEs
import Derived.Test.YtomcjjehfocbmaaGreatDoorLBt
import Derived.Test.YtomcjjehfocbmaaGreatDoorLb
import Derived.Test.YtomcjjehfocbmaaGreatDoorI1
import Derived.Test.YtomcjjehfocbmaaGreatDoorPj
namespace Go.Proofs.YtomcjjehfocbmaaGreatDoor
set_option linter.unusedVariables false
set_option linter.unusedSimpArgs false
open Go.RowKit

set_option maxRecDepth 20000 in
set_option maxHeartbeats 4000000 in
theorem indexLaw_walk (b0 : List Int) (A : Option Addr) (c : Nat) (w : World) (h : Kind.byte.Row w (fun _ => True) A c b0) (_hg : LaidC w) :
    Calls Tryz.prog 3 #[.slice A b0.length c] w fun e w' => e = .returned (.bool true) ∧ Below w.heap.size w w' := by
  have hl := h.1
  have hc := h.2.1
  by_cases hs : b0.length ≤ 1048576
  · go_enter Tryz.func3, Tryz.ntmps3
    go_wp2_with fail
    refine (DrawIndexOf_any b0 A c _ _ h).mono ?_
    rintro e w1 ⟨bs, B, d, ev, rfl, hD⟩
    have hB := hD.row
    have hb1 := hD.below
    have hlB := hB.1
    have hcB := hB.2.1
    clear hD
    go_wp2_with fail
    refine (IndexOf_any bs B d _ ev w1 hB).mono ?_
    rintro e w2 ⟨v2, rfl, HV2, hb2⟩
    obtain ⟨A2, c2, rfl, k2⟩ := AppP.row HV2
    have hB2 := hB.below hb2
    go_wp2_with fail
    refine (IndexOfS_any bs B d _ ev w2 hB2).mono ?_
    rintro e w3 ⟨v3, rfl, HV3, hb3⟩
    obtain ⟨A3, c3, rfl, k3⟩ := AppP.row HV3
    have k23 := k2.below hb3
    have hB3 := hB2.below hb3
    have b3 := bthen (bthen hb1 hb2) hb3
    clear HV2 HV3 hB hB2 k2 hb1 hb2 hb3
    have hol := idxOut_len (bs := bs) (e := ev)
    cases hv : idxOk bs ev
    · obtain ⟨ob, hob⟩ : ∃ o, o = idxOut bs ev := ⟨_, rfl⟩
      rw [← hob] at k23 k3 hol
      rw [← hob]
      clear hob
      go_wp2_with fail
      refine (sameEntries_any ob ob A2 A3 c2 c3 _ _ w3 k23 k3).mono ?_
      rintro e w4 ⟨rfl, hb4⟩
      rw [decide_eq_true rfl]
      have k24 := k23.below hb4
      have k34 := k3.below hb4
      have b4 := bthen b3 hb4
      go_wp2_with fail
      refine (sameEntries_any ob ob A2 A3 c2 c3 _ _ w4 k24 k34).mono ?_
      rintro e w5 ⟨rfl, hb5⟩
      rw [decide_eq_true rfl]
      have b5 := Lib.hid (bthen b4 hb5)
      clear b4 hb5 hb4 b3 k24 k34
      go_wp2
      go_ret
      exact ⟨rfl, b5.out⟩
    · have HLO := Lib.hid (idxOut_yes hv)
      have HIN := Lib.hid (idxTo_inv bs ev bs.length)
      have hle := idxTo_len bs ev bs.length
      have hlv : logB bs = true := by unfold idxOk at hv; rw [Bool.and_eq_true] at hv; exact hv.1
      have HLV := Lib.hid hlv
      have hev : 1 ≤ ev ∧ ev ≤ 9999 := by unfold idxOk at hv; rw [Bool.and_eq_true] at hv; simpa [inB] using hv.2
      have HENT := Lib.hid (idxTo_ents hlv ev)
      have HIDX := Lib.hid (fun x hx => idx_bat hlv (e := ev) (x := x) hx)
      have HBY := Lib.hid (logCat_bytes (logB_all hlv).2)
      have HLN := Lib.hid (logCat_len8 hlv)
      have HOY := Lib.hid (logOut_yes hlv)
      clear hv hlv
      obtain ⟨ob, hob⟩ : ∃ o, o = idxOut bs ev := ⟨_, rfl⟩
      rw [← hob] at k23 k3 hol HLO
      rw [← hob]
      rw [← HLO.out] at HIN hle HENT HIDX
      clear hob HLO
      go_wp2_with fail
      refine (sameEntries_any ob ob A2 A3 c2 c3 _ _ w3 k23 k3).mono ?_
      rintro e w4 ⟨rfl, hb4⟩
      rw [decide_eq_true rfl]
      have k24 := k23.below hb4
      have hB4 := hB3.below hb4
      have b4 := bthen b3 hb4
      clear k23 k3 b3 hb4 hB3
      go_wp2_with fail
      refine (LogBytes_any bs B d _ w4 hB4).mono ?_
      rintro e w5 ⟨v5, rfl, HV5, hb5⟩
      rw [HLV.out]
      rw [HOY.out] at HV5
      obtain ⟨lb, hlb⟩ : ∃ l, l = logCat bs := ⟨_, rfl⟩
      rw [← hlb] at HV5 HBY HLN HIDX
      obtain ⟨Ab, cb, rfl, r5⟩ := AppP.row HV5
      have k25 := k24.below hb5
      have hlo := k25.1
      have hco := k25.2.1
      have HB5 := Lib.hid (bthen b4 hb5)
      have hln := HLN.out
      clear hlb HV5 k24 hb5 b4 hB4 HIN
      go_wp2_with fail
      go_loopw [11] (fun i wr => ∃ k : Nat, k ≤ ob.length ∧ i = .int .i64 k ∧ Hid (Below w5.heap.size w5 wr)) (fun i _ => ob.length - (intOf i).toNat)
      case atStart => exact ⟨0, Nat.zero_le _, rfl, Lib.hid (Below.refl _ _)⟩
      case round =>
        obtain ⟨k, hk, rfl, HB⟩ := hrel
        by_cases hlt : k < ob.length
        · obtain ⟨ad, rfl, _, e0, e1⟩ := (k25.below HB.out).ent_at hlt
          obtain ⟨b, p, hp, ho, hat⟩ := HIDX.out _ (List.getElem_mem hlt)
          have hpos : 0 < b.recs.length := batB_pos hat.1
          have hf : b.first = b.recs[0].off := by unfold Bat.first; rw [recAt_eq hpos]
          obtain ⟨nx, hnx⟩ : ∃ nx : Int, ((p + (batBytes b).length : Nat) : Int) = nx := ⟨_, rfl⟩
          rw [ho, hf] at e0
          obtain ⟨P, hP⟩ : ∃ P, P = ob[k].place := ⟨_, rfl⟩
          rw [← hP] at e1 hp
          have HC := Lib.hid (BatchFrom_at lb Ab cb _ p P wr (r5.below HB.out) HBY.out (by omega) (rdBat_some hat) hp nx hnx)
          have hlc : (k : Int) < 9223372036854775807 := by omega
          have hrl : (0 : Int) < b.recs.length := by omega
          clear hP hp ho hat hnx hf
          go_wp2_with fail
          refine HC.out.mono ?_
          rintro e w6 ⟨A6, c6, rfl, hX6, hb6⟩
          have hR6 := hX6.toK
          obtain ⟨ad6, B1, d1, B2, d2, rfl, _, _, _, p0, _⟩ := hR6.rec_at hpos
          rw [show ad6.add (0 * 6) = ad6 from rfl] at p0
          have E0 := below_cell hb6 e0
          have hb6' := Lib.hid (HB.out.trans (hb6.mono HB.out.size))
          clear HC hX6 hR6 hb6 e0 e1
          go_wp2_with fail
          generalize hW7 : World.alloc _ _ = W7
          obtain ⟨hA7, b7, hz7⟩ := alloc1 hW7
          clear hW7
          obtain ⟨u0, u1, u2, u3, u4, u5, uf⟩ := six hA7
          have E7 := below_cell b7 E0
          have p7 := below_cell b7 p0
          have HBD := fun n => Lib.hid ((hb6'.out.trans (b7.mono hb6'.out.size)).trans ((below_drewN W7 n).mono (by have := hb6'.out.size; have := b7.size; omega)))
          clear E0 p0 b7 hA7
          go_quiet (fail)
          go_wp2
          go_roundw
          case rel => exact ⟨k + 1, by omega, by go_num, HBD _⟩
          case measure => simp [intOf]; omega
        · have k26 := k25.below HB.out
          have HBB := Lib.hid (bthen HB5.out HB.out)
          go_wp2_with fail
          refine (IndexValid_any ob A2 c2 _ wr k26).mono ?_
          rintro e w8 ⟨rfl, hb8⟩
          rw [HENT.out]
          have HB8 := Lib.hid (bthen HBB.out hb8)
          clear hb8 k26
          go_wp2
          go_ret
          exact ⟨rfl, HB8.out⟩
  · go_enter Tryz.func3, Tryz.ntmps3
    go_wp2
    go_ret
    exact ⟨rfl, Below.refl _ _⟩

end Go.Proofs.YtomcjjehfocbmaaGreatDoor
