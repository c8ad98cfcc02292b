/- A record as bytes: the program. -/
import Derived.Test.YtgnjnpfeofhniaaDoorV2
import Derived.Test.YtgnjnpfeofhniaaDoorGa
namespace Go.Proofs.YtgnjnpfeofhniaaDoor
set_option linter.unusedVariables false
set_option linter.unusedSimpArgs false
open Go.RowKit

theorem partBytes_row {α : Type} {d : Kind α} {e : TypeId} {w : World} {P : Nat → Prop} {A : Option Addr} {n c : Nat} {xs : List α} (h : AppP d e w P (.slice A n c) xs) : d.Row w P A c xs := by
  obtain ⟨A', c', e, h'⟩ := h.row
  injection e with e1 e2 e3
  subst e1 e3
  exact h'
theorem partBytes_any (has : Bool) (xs : List Int) (A : Option Addr) (c : Nat) (F : Nat → Prop) (w : World) (h : Ints w F A c xs) (hn : xs.length ≤ 1000) :
    Calls Tryd.prog 54 #[.bool has, .slice A xs.length c] w fun e w' => ∃ v, e = .returned v ∧ App (Kind.int .i64) 3 w' w.heap.size v (partP has xs) ∧ Below w.heap.size w w' := by
  cases has
  · go_enter Tryd.func54, Tryd.ntmps54
    go_wp2_with fail
    refine (varOf_any (-1) _ (by omega)).mono ?_
    rintro e w1 ⟨v, rfl, HA, hb1⟩
    have HH := Lib.hid HA
    have HB := Lib.hid hb1
    clear HA hb1
    go_wp2
    go_ret
    exact ⟨_, rfl, HH.out, HB.out⟩
  · have hc := h.2.1
    go_enter Tryd.func54, Tryd.ntmps54
    go_wp2_with fail
    refine (varOf_any (xs.length : Int) _ (by omega)).mono ?_
    rintro e w1 ⟨v, rfl, HA, hb1⟩
    have hvl := (varB_len (xs.length : Int)).2
    have HP := Lib.hid (show partP true xs = varB (xs.length : Int) ++ xs from rfl)
    obtain ⟨ys, hys⟩ : ∃ ys, ys = varB (xs.length : Int) := ⟨_, rfl⟩
    rw [← hys] at HA HP hvl
    obtain ⟨A1, c1, rfl, hl1, hc1⟩ := HA.slice_
    have h1 := h.below hb1
    have HX := Lib.hid HA
    have HO := Lib.hid (fun g hg => AppP.ne HA (k := g) hg)
    have HW := Lib.hid hb1.size
    clear HA hys
    go_wp2_with (at_builtin; go_loud (refine wpList_appF (Kind.int .i64) (xs := ys) (ys := xs) HX.out rfl _ _ 32 (.int .i64 0) 8 rfl Tryd.underlying32 (by kernel_rfl) rfl (bnd_int _) (onec_int _) (flat_int _) rfl rfl rfl h1 (fun b hb => by have := HW.out; omega) (by omega) (by omega) ?_))
    intro v1 w2 HA2 hc2 ho2
    rw [← HP.out] at HA2
    have HB := Lib.hid (hb1.trans (hc2.below HW.out (fun i hi => HO.out i hi)))
    clear hc2 ho2
    go_wp2
    go_ret
    exact ⟨_, rfl, HA2, HB.out⟩

set_option maxRecDepth 100000 in
set_option maxHeartbeats 4000000 in
theorem bytesFor_any (r : Rec) (A A' : Option Addr) (c c' : Nat) (F : Nat → Prop) (o t : Int) (w : World) (hk : Ints w F A c r.key) (hv : Ints w F A' c' r.val) (hr : recB r = true) (ho : 0 ≤ o ∧ o ≤ 99999) (ht : 0 ≤ t ∧ t ≤ 99999) :
    Calls Tryd.prog 34 #[.agg #[.int .i64 r.off, .int .i64 r.time, .bool r.hk, .slice A r.key.length c, .bool r.hv, .slice A' r.val.length c'], .int .i64 o, .int .i64 t] w fun e w' =>
      ∃ v, e = .returned v ∧ App (Kind.int .i64) 3 w' w.heap.size v (recBytes r o t) ∧ Below w.heap.size w w' := by
  obtain ⟨ho0, ho1⟩ := ho
  obtain ⟨ht0, ht1⟩ := ht
  obtain ⟨⟨hf0, hf1⟩, ⟨hg0, hg1⟩, hpk, hpv⟩ := recB_parts hr
  have hkl := (partB_len hpk).1
  have hvl := (partB_len hpv).1
  have l1 := (varB_len (r.time - t)).2
  have l2 := (varB_len (r.off - o)).2
  have l3 := partP_len (has := r.hk) hkl
  have l4 := partP_len (has := r.hv) hvl
  obtain ⟨x1, hx1⟩ : ∃ x, x = varB (r.time - t) := ⟨_, rfl⟩
  obtain ⟨x2, hx2⟩ : ∃ x, x = varB (r.off - o) := ⟨_, rfl⟩
  obtain ⟨x3, hx3⟩ : ∃ x, x = partP r.hk r.key := ⟨_, rfl⟩
  obtain ⟨x4, hx4⟩ : ∃ x, x = partP r.hv r.val := ⟨_, rfl⟩
  rw [← hx1] at l1
  rw [← hx2] at l2
  rw [← hx3] at l3
  rw [← hx4] at l4
  have HBY := Lib.hid (show bodyB r o t = x1 ++ x2 ++ x3 ++ x4 by rw [hx1, hx2, hx3, hx4]; rfl)
  have H1 := Lib.hid hx1
  have H2 := Lib.hid hx2
  have H3 := Lib.hid hx3
  have H4 := Lib.hid hx4
  clear hx1 hx2 hx3 hx4 hpk hpv hr
  go_enter Tryd.func34, Tryd.ntmps34
  go_wp2_with fail
  generalize hW : World.alloc _ _ = W
  obtain ⟨hA, b1, hsW⟩ := alloc1 hW
  clear hW
  obtain ⟨z0, z1, z2, z3, z4, z5, zf⟩ := six hA
  have bD : Below W.heap.size W W.drew := ⟨rfl, rfl, rfl, Nat.le_refl _, fun _ _ => rfl⟩
  have HAD := Lib.hid (blk_below hA bD)
  have HWD := Lib.hid (show W.drew.heap.size = W.heap.size from rfl)
  obtain ⟨dT, hdT⟩ : ∃ d, d = r.time - t := ⟨_, rfl⟩
  obtain ⟨dO, hdO⟩ : ∃ d, d = r.off - o := ⟨_, rfl⟩
  have HT : ∀ U, Calls Tryd.prog 53 #[.int .i64 dT] U fun e w' => ∃ v, e = .returned v ∧ App (Kind.int .i64) 3 w' U.heap.size v x1 ∧ Below U.heap.size U w' := fun U => by
    rw [H1.out, ← hdT]; exact varOf_any dT U (by omega)
  have HO : ∀ U, Calls Tryd.prog 53 #[.int .i64 dO] U fun e w' => ∃ v, e = .returned v ∧ App (Kind.int .i64) 3 w' U.heap.size v x2 ∧ Below U.heap.size U w' := fun U => by
    rw [H2.out, ← hdO]; exact varOf_any dO U (by omega)
  have e1 : r.time - t = dT := hdT.symm
  have e2 : r.off - o = dO := hdO.symm
  have hw1 : wrap64 dT = dT := by unfold wrap64; omega
  have hw2 : wrap64 dO = dO := by unfold wrap64; omega
  have hw3 : IntKind.i64.wrap dT = dT := by rw [IntKind.wrap_i64]; omega
  have hw4 : IntKind.i64.wrap dO = dO := by rw [IntKind.wrap_i64]; omega
  clear hdT hdO
  have HALL := Lib.hid (And.intro hk (And.intro hv (And.intro hkl (And.intro hvl (And.intro l3 l4)))))
  have HL12 := Lib.hid (And.intro l1 l2)
  clear hk hv hkl hvl l3 l4 l1 l2 hf0 hf1 hg0 hg1 ho0 ho1 ht0 ht1 z2 z3 z4 z5 zf
  have HT := Lib.hid HT
  have HO := Lib.hid HO
  go_wp2_with fail
  go_region_law (first
    | (go_simp; refine (HO.out wT).mono ?_; rintro e wO ⟨vO, rfl, HXO, hbO⟩; obtain ⟨AO, cO, rfl, _, _⟩ := HXO.slice_; have HXA := App.from (AppP.below HXT hbO) (show W.heap.size ≤ W.drew.heap.size by have := HWD.out; omega); have HXB := partBytes_row HXO; have HXC := bthen (bthen bD hbT) hbO; have HXK := blk_below (blk_below HAD.out hbT) hbO)
    | (go_simp; refine (HT.out wO).mono ?_; rintro e wT ⟨vT, rfl, HXT, hbT⟩; obtain ⟨AT, cT, rfl, _, _⟩ := HXT.slice_; have HXA := App.from HXT (show W.heap.size ≤ wO.heap.size by have := hbO.size; have := HWD.out; omega); have HXB := (partBytes_row HXO).below hbT; have HXC := bthen (bthen bD hbO) hbT; have HXK := blk_below (blk_below HAD.out hbO) hbT)
    | (go_simp; refine (HT.out W.drew).mono ?_; rintro e wT ⟨vT, rfl, HXT, hbT⟩; obtain ⟨AT, cT, rfl, _, _⟩ := HXT.slice_; obtain ⟨r0, r1, _⟩ := six (blk_below HAD.out hbT); clear z0 z1)
    | (go_simp; refine (HO.out W.drew).mono ?_; rintro e wO ⟨vO, rfl, HXO, hbO⟩; obtain ⟨AO, cO, rfl, _, _⟩ := HXO.slice_; obtain ⟨r0, r1, _⟩ := six (blk_below HAD.out hbO); clear z0 z1)
    | (refine step_appF (Kind.int .i64) (xs := x1) (ys := x2) HXA rfl _ _ 32 (.int .i64 0) 8 rfl Tryd.underlying32 (by kernel_rfl) rfl (bnd_int _) (onec_int _) (flat_int _) (by rfl) (by rfl) rfl HXB (fun b hb => by have := HXC.size; have := HWD.out; omega) (by have := HL12.out; omega) (by have := HL12.out; omega) ?_; intro v3 w3 HX3 hc3 ho3))
  all_goals
    obtain ⟨hk, hv, hkl, hvl, l3, l4⟩ := HALL.out
    obtain ⟨l1, l2⟩ := HL12.out
    obtain ⟨y1, hy1⟩ : ∃ y, y = x1 ++ x2 := ⟨_, rfl⟩
    rw [← hy1] at HX3
    have HY1 := Lib.hid hy1
    have ly1 : y1.length ≤ 6 := by rw [hy1, List.length_append]; omega
    have hgW : w.heap.size < W.heap.size := by omega
    have B3 := (bthen b1 HXC).trans (hc3.below (bthen b1 HXC).size (fun i hi => by have := AppP.ne HXA hi; omega))
    have hA3 := hc3.blk HXK (fun e => by have := AppP.ne HXA e; omega)
    have hW3 : W.heap.size ≤ w3.heap.size := Nat.le_trans HXC.size hc3.size
    obtain ⟨A3, c3, rfl, _, _⟩ := HX3.slice_
    obtain ⟨z0, z1, z2, z3, z4, z5, zf⟩ := six hA3
    clear HXT HXO hbT hbO HXA HXB HXC HXK hc3 ho3 hA bD e1 e2 hw1 hw2 hw3 hw4 hy1
    try clear r0 r1
    go_wp2_with fail
    refine (partBytes_any r.hk r.key A c F w3 (hk.below B3) (by omega)).mono ?_
    rintro e wp3 ⟨vp, rfl, HV, hbp⟩
    rw [← H3.out] at HV
    obtain ⟨Ap3, cp3, rfl, _, _⟩ := HV.slice_
    have hrow := partBytes_row HV
    have HX := Lib.hid (AppP.below HX3 hbp)
    have HAp := Lib.hid (blk_below hA3 hbp)
    have Bp := Lib.hid (bthen B3 hbp)
    have HWp := Lib.hid (Nat.le_trans hW3 hbp.size)
    clear HV hbp HX3 hA3 B3 hW3 z0 z1 z2 z3 z4 z5 zf
    go_wp2_with (at_builtin; go_loud (refine wpList_appF (Kind.int .i64) (xs := y1) (ys := x3) HX.out rfl _ _ 32 (.int .i64 0) 8 rfl Tryd.underlying32 (by kernel_rfl) rfl (bnd_int _) (onec_int _) (flat_int _) rfl rfl rfl hrow (fun b hb => by have := HWp.out; omega) (by omega) (by omega) ?_))
    intro v4 w4 HX4 hc ho
    obtain ⟨y2, hy⟩ : ∃ y, y = y1 ++ x3 := ⟨_, rfl⟩
    rw [← hy] at HX4
    have HY3 := Lib.hid hy
    have ly2 : y2.length ≤ 21 := by rw [hy, List.length_append]; omega
    have hA4 := hc.blk HAp.out (fun e => by have := AppP.ne HX.out e; omega)
    have B4 := Bp.out.trans (hc.below Bp.out.size (fun i hi => by have := AppP.ne HX.out hi; omega))
    have hW4 := Nat.le_trans HWp.out hc.size
    obtain ⟨A4x, c4x, rfl, _, _⟩ := HX4.slice_
    obtain ⟨z0, z1, z2, z3, z4, z5, zf⟩ := six hA4
    clear hy hc ho HX HAp Bp HWp hrow
    go_wp2_with fail
    refine (partBytes_any r.hv r.val A' c' F w4 (hv.below B4) (by omega)).mono ?_
    rintro e wp4 ⟨vp, rfl, HV, hbp⟩
    rw [← H4.out] at HV
    obtain ⟨Ap4, cp4, rfl, _, _⟩ := HV.slice_
    have hrow := partBytes_row HV
    have HX := Lib.hid (AppP.below HX4 hbp)
    have HAp := Lib.hid (blk_below hA4 hbp)
    have Bp := Lib.hid (bthen B4 hbp)
    have HWp := Lib.hid (Nat.le_trans hW4 hbp.size)
    clear HV hbp HX4 hA4 B4 hW4 z0 z1 z2 z3 z4 z5 zf
    go_wp2_with (at_builtin; go_loud (refine wpList_appF (Kind.int .i64) (xs := y2) (ys := x4) HX.out rfl _ _ 32 (.int .i64 0) 8 rfl Tryd.underlying32 (by kernel_rfl) rfl (bnd_int _) (onec_int _) (flat_int _) rfl rfl rfl hrow (fun b hb => by have := HWp.out; omega) (by omega) (by omega) ?_))
    intro v5 w5 HX5 hc ho
    obtain ⟨y3, hy⟩ : ∃ y, y = y2 ++ x4 := ⟨_, rfl⟩
    rw [← hy] at HX5
    have HY4 := Lib.hid hy
    have ly3 : y3.length ≤ 36 := by rw [hy, List.length_append]; omega
    have hA5 := hc.blk HAp.out (fun e => by have := AppP.ne HX.out e; omega)
    have B5 := Bp.out.trans (hc.below Bp.out.size (fun i hi => by have := AppP.ne HX.out hi; omega))
    have hW5 := Nat.le_trans HWp.out hc.size
    obtain ⟨A5x, c5x, rfl, _, _⟩ := HX5.slice_
    obtain ⟨z0, z1, z2, z3, z4, z5, zf⟩ := six hA5
    clear hy hc ho HX HAp Bp HWp hrow
    go_wp2_with fail
    refine (varOf_any (y3.length : Int) w5 (by omega)).mono ?_
    rintro e w6 ⟨v6, rfl, HV, hb6⟩
    have hvl6 := (varB_len (y3.length : Int)).2
    obtain ⟨x5, hx5⟩ : ∃ x, x = varB (y3.length : Int) := ⟨_, rfl⟩
    rw [← hx5] at HV hvl6
    have HX5' := Lib.hid hx5
    obtain ⟨A6, c6, rfl, _, _⟩ := HV.slice_
    have hrow := (partBytes_row HX5).below hb6
    have HX := Lib.hid (App.from HV (Nat.le_trans (Nat.le_of_lt hgW) hW5))
    have HW6 := Lib.hid (Nat.le_trans (Nat.le_trans (Nat.le_of_lt hgW) hW5) hb6.size)
    have B6 := Lib.hid (bthen B5 hb6)
    clear HV hb6 HX5 hA5 B5 hW5 z0 z1 z2 z3 z4 z5 zf hx5
    go_wp2_with (at_builtin; go_loud (refine wpList_appF (Kind.int .i64) (xs := x5) (ys := y3) HX.out rfl _ _ 32 (.int .i64 0) 8 rfl Tryd.underlying32 (by kernel_rfl) rfl (bnd_int _) (onec_int _) (flat_int _) rfl rfl rfl hrow (fun b hb => by have := HW6.out; omega) (by omega) (by omega) ?_))
    intro v7 w7 HA7 hc7 ho7
    have B7 := Lib.hid (B6.out.trans (hc7.below B6.out.size (fun i hi => AppP.ne HX.out hi)))
    have HEQ := Lib.hid (show recBytes r o t = x5 ++ y3 by unfold recBytes; rw [HBY.out, ← HY1.out, ← HY3.out, ← HY4.out, ← HX5'.out])
    rw [← HEQ.out] at HA7
    clear hc7 ho7 hrow HX
    go_wp2
    go_ret
    exact ⟨_, rfl, HA7, B7.out⟩
end Go.Proofs.YtgnjnpfeofhniaaDoor
