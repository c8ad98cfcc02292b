/- The law FnBatchDamage: a changed byte is noticed. -/
import Derived.Test.YtdjhokmcpgjiiaaDoorLBt
namespace Go.Proofs.YtdjhokmcpgjiiaaDoor
set_option linter.unusedVariables false
set_option linter.unusedSimpArgs false
open Go.RowKit

theorem BatchFrom_no (l : List Int) (A : Option Addr) (c : Nat) (F : Nat → Prop) (i : Int) (w : World) (hg : LaidC w) (h : Ints w F A c l) (hb : bytesB l = true) (hn : l.length ≤ 4194304) (p : Nat) (hp : i = (p : Int)) (hr : rdBat l p = none) :
    Calls Tryd.prog 11 #[.slice A l.length c, .int .i64 i] w fun e w' => e = .returned (.tuple #[BZ, .int .i64 0, .bool false]) ∧ Below w.heap.size w w' := by
  subst hp
  exact BatchFrom_none l A c F _ w hg h hb hn (by rw [rdAtI_nat]; exact hr)
theorem set_bytes {l : List Int} (h : bytesB l = true) {k : Nat} {y : Int} (hy : 0 ≤ y ∧ y ≤ 255) : bytesB (l.set k y) = true := by
  refine List.all_eq_true.2 fun x hx => ?_
  rcases List.mem_or_eq_of_mem_set hx with hx | rfl
  · exact List.all_eq_true.1 (show l.all byteB = true from h) x hx
  · simp [byteB, hy]
set_option maxRecDepth 20000 in
set_option maxHeartbeats 4000000 in
theorem batchDamage_walk (b0 : List Int) (A : Option Addr) (c : Nat) (m0 : List Int) (Am : Option Addr) (cm : Nat) (w : World) (h : Kind.byte.Row w (fun _ => True) A c b0) (hm : Kind.byte.Row w (fun _ => True) Am cm m0) (hg : LaidC w) :
    Calls Tryd.prog 4 #[.slice A b0.length c, .slice Am m0.length cm] w fun e w' => e = .returned (.bool true) ∧ Below w.heap.size w w' := by
  have hl := h.1
  have hc := h.2.1
  have hlm := hm.1
  have hcm := hm.2.1
  have HG := Lib.hid hg
  clear hg
  by_cases hs : b0.length ≤ 1048576
  · by_cases hsm : m0.length ≤ 1048576
    · have dd1 : decide ((1048576 : Int) < (b0.length : Int)) = false := by simp; omega
      have dd2 : decide ((1048576 : Int) < (m0.length : Int)) = false := by simp; omega
      go_enter Tryd.func4, Tryd.ntmps4
      go_wp2_with fail
      refine (DrawBatchBytes_any b0 A c _ _ h).mono ?_
      rintro e w0 ⟨b, A1, c1, rfl, hR0, hb0⟩
      go_wp2_with fail
      generalize hW : World.alloc _ _ = W
      obtain ⟨hA, b1, hz⟩ := alloc1 hW
      clear hW
      have hR := hR0.below b1
      refine (BatchBytes_any b A1 c1 _ W hR).mono ?_
      rintro e w1 ⟨v1, rfl, HV1, hb1⟩
      obtain ⟨Ao, co, rfl, ro⟩ := AppP.row HV1
      have hA1 := blk_below hA hb1
      have B1 := bthen (bthen hb0 b1) hb1
      have hR1 := hR.below hb1
      obtain ⟨z0, z1, z2, z3, z4, z5, zf⟩ := six hA1
      clear hA hR0 hR HV1 hb1 b1 hb0
      go_wp2_with fail
      refine (BatchBytesS_any b A1 c1 _ w1 hR1).mono ?_
      rintro e w2 ⟨v2, rfl, HV2, hb2⟩
      obtain ⟨Aw, cw, rfl, rw_⟩ := AppP.row HV2
      have hA2 := blk_below hA1 hb2
      have B2 := bthen B1 hb2
      have hR2 := hR1.below hb2
      have ro2 := ro.below hb2
      have hol := batOut_len b
      have hob := batOut_bytes b
      obtain ⟨ob, hob2⟩ : ∃ o, o = batOut b := ⟨_, rfl⟩
      rw [← hob2] at ro2 rw_ hol hob
      rw [← hob2]
      have HOB := Lib.hid hob2
      clear hob2 ro z0 z1 z2 z3 z4 z5 zf hA1 B1 hR1 HV2 hb2
      obtain ⟨z0, z1, z2, z3, z4, z5, zf⟩ := six hA2
      cases hv : batB b
      · go_wp2_with fail
        refine (sameInts_any ob ob Ao Aw co cw _ _ w2 ro2 rw_).mono ?_
        rintro e w3 ⟨rfl, hb3⟩
        rw [decide_eq_true rfl]
        have ro3 := ro2.below hb3
        have rw3 := rw_.below hb3
        have B3 := bthen B2 hb3
        go_wp2_with fail
        refine (sameInts_any ob ob Ao Aw co cw _ _ w3 ro3 rw3).mono ?_
        rintro e w4 ⟨rfl, hb4⟩
        rw [decide_eq_true rfl]
        have B4 := Lib.hid (bthen B3 hb4)
        clear hb4 B3 hb3 B2
        go_wp2
        go_ret
        exact ⟨rfl, B4.out⟩
      · have HV := Lib.hid hv
        clear hv
        go_wp2_with fail
        refine (sameInts_any ob ob Ao Aw co cw _ _ w2 ro2 rw_).mono ?_
        rintro e w3 ⟨rfl, hb3⟩
        rw [decide_eq_true rfl]
        have ro3 := ro2.below hb3
        have B3 := bthen B2 hb3
        have hA3 := blk_below hA2 hb3
        have hR3 := hR2.below hb3
        have HL3 := Lib.hid (HG.out.below B3)
        have hlt3 := blk_lt hA3
        clear ro2 rw_ hA2 hR2 B2 hb3 z0 z1 z2 z3 z4 z5 zf
        obtain ⟨z0, z1, z2, z3, z4, z5, zf⟩ := six hA3
        have BB := Lib.hid B3
        have HOBB := Lib.hid (show ob = batBytes b by rw [HOB.out, batOut_yes HV.out])
        have hln : 18 ≤ ob.length := by rw [HOB.out, batOut_yes HV.out, batBytes_len]; omega
        clear B3
        obtain ⟨n, hn⟩ : ∃ n : Nat, n = m0.length % (ob.length - 5) := ⟨_, rfl⟩
        have hnlt : n < ob.length - 5 := by rw [hn]; exact Nat.mod_lt _ (by omega)
        have hw1 : IntKind.i64.wrap ((ob.length : Int) - 5) = (ob.length : Int) - 5 := by rw [IntWalk.i64_in _ (by omega)]
        have hrem : (m0.length : Int).tmod ((ob.length : Int) - 5) = (n : Int) := by
          rw [Int.tmod_eq_emod_of_nonneg (by omega), hn, show ((ob.length : Int) - 5) = ((ob.length - 5 : Nat) : Int) by omega]
          exact (Int.natCast_emod _ _).symm
        have hrem2 : (m0.length : Int) % ((ob.length : Int) - 5) = (n : Int) := by
          rw [hn, show ((ob.length : Int) - 5) = ((ob.length - 5 : Nat) : Int) by omega]
          exact (Int.natCast_emod _ _).symm
        have hdz : ((ob.length : Int) - 5 == 0) = false := by simp; omega
        obtain ⟨k, hk⟩ : ∃ k : Nat, k = 5 + n := ⟨_, rfl⟩
        have hkI : (5 : Int) + (n : Int) = (k : Int) := by omega
        have hkl : k < ob.length := by omega
        have hk5 : 5 ≤ k := by omega
        have HKL := Lib.hid hkl
        have hL := App.lit (Kind.int .i64) 3 w3 w3.heap.size (Nat.le_refl _)
        have hr3 := ro3.below (bal w3 (.cells #[] 3))
        obtain ⟨x, hx⟩ : ∃ x, x = ob[k] := ⟨_, rfl⟩
        have hxb : 0 ≤ x ∧ x ≤ 255 := by rw [hx]; exact byte_at hob hkl
        have HX := Lib.hid hx
        clear hn hk hx
        go_wp2_with (at_builtin; go_loud (refine wpList_appF (Kind.int .i64) (xs := []) (ys := ob) hL rfl _ _ 27 (.int .i64 0) 8 rfl Tryd.underlying27 (by kernel_rfl) rfl (bnd_int _) (onec_int _) (flat_int _) rfl rfl rfl hr3 (fun b hb => by simp at hb; omega) (by simp; omega) (by simp; omega) ?_))
        intro v4 w4 HA4 hc4 _
        try rw [List.nil_append] at HA4
        have b4 : Below w3.heap.size w3 w4 := (bal w3 (.cells #[] 3)).trans (hc4.below (by simp) (fun i hi => own_lit _ hi))
        obtain ⟨gq, cap, old, ev, hgq, hglt, q0, qf, hput⟩ := App.put HA4 hkl
        obtain ⟨aq, eq, qx⟩ := App.int_at (ev ▸ HA4) hkl
        injection eq with eq
        subst eq
        have e1 : (⟨gq, 0, none⟩ : Addr).add k = ⟨gq, k, none⟩ := by unfold Addr.add; split <;> simp_all
        rw [e1] at qx
        replace qx : w4.cell? ⟨gq, k, none⟩ = some (.int .i64 x) := by rw [HX.out]; exact qx
        subst ev
        have qf0 := qf k
        have hrow4 := (AppP.row_of HA4)
        obtain ⟨_, hcap1, hcap2, _⟩ := hrow4
        have B4 := Lib.hid (bthen BB.out b4)
        have b4s := Lib.hid b4.size
        clear HA4 hc4 hL hr3 b4 q0 hA3 z0 z1 z2 z3 z4 z5 zf hR3
        by_cases h255 : x = 255
        · have t1 : (x == 255) = true := by simpa using h255
          obtain ⟨hI, hC⟩ := hput 254
          have HNB := Lib.hid (show rdBat (ob.set k 254) 0 = none from rdBat_none (by
            have := damaged HV.out (k := k) (y := 254) hk5 (by rw [← HOBB.out]; exact HKL.out) (by omega) (by
              have e : (batBytes b)[k]'(by rw [← HOBB.out]; exact HKL.out) = x := by rw [HX.out]; congr 1; exact HOBB.out.symm
              rw [e]; omega)
            rw [HOBB.out]; exact this))
          have HSB := Lib.hid (set_bytes (k := k) (y := 254) hob (by omega))
          have hlen : (ob.set k 254).length = ob.length := List.length_set
          have hgb : w3.heap.size ≤ gq := hgq
          have bX := Lib.hid (hC.below (by have := b4s.out; omega) (fun i hi => by omega) : Below w3.heap.size w4 (w4.setCell ⟨gq, k, none⟩ (.int .i64 254)))
          have BX := Lib.hid (B4.out.trans (bX.out.mono (by have := BB.out.size; omega)))
          have HLX := Lib.hid (HG.out.below BX.out)
          obtain ⟨ox, hox⟩ : ∃ o, o = ob.set k 254 := ⟨_, rfl⟩
          rw [← hox] at hI HNB HSB hlen
          have HOL := Lib.hid hlen
          clear hput hC h255 hox hlen
          go_wp2_with fail
          rw [← HOL.out]
          refine (BatchFrom_no ox _ cap _ 0 _ HLX.out hI HSB.out (by rw [HOL.out]; omega) 0 rfl HNB.out).mono ?_
          rintro e w6 ⟨rfl, hb6⟩
          have B6 := Lib.hid (bthen BX.out hb6)
          clear hb6 hI
          go_wp2
          go_ret
          exact ⟨rfl, bthen B6.out (bal _ _)⟩
        · have t1 : (x == 255) = false := by simpa using h255
          have hx1 : IntKind.i64.wrap (x + 1) = x + 1 := by rw [IntWalk.i64_in _ (by omega)]
          obtain ⟨hI, hC⟩ := hput (x + 1)
          have HNB := Lib.hid (show rdBat (ob.set k (x + 1)) 0 = none from rdBat_none (by
            have := damaged HV.out (k := k) (y := x + 1) hk5 (by rw [← HOBB.out]; exact HKL.out) (by omega) (by
              have e : (batBytes b)[k]'(by rw [← HOBB.out]; exact HKL.out) = x := by rw [HX.out]; congr 1; exact HOBB.out.symm
              rw [e]; omega)
            rw [HOBB.out]; exact this))
          have HSB := Lib.hid (set_bytes (k := k) (y := x + 1) hob (by omega))
          have hlen : (ob.set k (x + 1)).length = ob.length := List.length_set
          have hgb : w3.heap.size ≤ gq := hgq
          have bX := Lib.hid (hC.below (by have := b4s.out; omega) (fun i hi => by omega) : Below w3.heap.size w4 (w4.setCell ⟨gq, k, none⟩ (.int .i64 (x + 1))))
          have BX := Lib.hid (B4.out.trans (bX.out.mono (by have := BB.out.size; omega)))
          have HLX := Lib.hid (HG.out.below BX.out)
          obtain ⟨ox, hox⟩ : ∃ o, o = ob.set k (x + 1) := ⟨_, rfl⟩
          rw [← hox] at hI HNB HSB hlen
          have HOL := Lib.hid hlen
          clear hput hC h255 hox hlen
          go_wp2_with fail
          rw [← HOL.out]
          refine (BatchFrom_no ox _ cap _ 0 _ HLX.out hI HSB.out (by rw [HOL.out]; omega) 0 rfl HNB.out).mono ?_
          rintro e w6 ⟨rfl, hb6⟩
          have B6 := Lib.hid (bthen BX.out hb6)
          clear hb6 hI
          go_wp2
          go_ret
          exact ⟨rfl, bthen B6.out (bal _ _)⟩
    · have dd1 : decide ((1048576 : Int) < (b0.length : Int)) = false := by simp; omega
      have dd2 : decide ((1048576 : Int) < (m0.length : Int)) = true := by simp; omega
      go_enter Tryd.func4, Tryd.ntmps4
      go_wp2
      go_ret
      exact ⟨rfl, Below.refl _ _⟩
  · have dd1 : decide ((1048576 : Int) < (b0.length : Int)) = true := by simp; omega
    go_enter Tryd.func4, Tryd.ntmps4
    go_wp2
    go_ret
    exact ⟨rfl, Below.refl _ _⟩
end Go.Proofs.YtdjhokmcpgjiiaaDoor
