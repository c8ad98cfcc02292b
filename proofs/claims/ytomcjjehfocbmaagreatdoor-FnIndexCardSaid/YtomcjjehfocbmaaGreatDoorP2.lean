/- The reference's packing. -/
import Derived.Test.YtomcjjehfocbmaaGreatDoorRq
import Derived.Test.YtomcjjehfocbmaaGreatDoorPn
import Derived.Test.YtomcjjehfocbmaaGreatDoorGa
namespace Go.Proofs.YtomcjjehfocbmaaGreatDoor
set_option linter.unusedVariables false
set_option linter.unusedSimpArgs false
open Go.RowKit

set_option maxRecDepth 5000 in
set_option maxHeartbeats 1000000 in
theorem l4Plain_any (p : List Int) (A : Option Addr) (c : Nat) (F : Nat → Prop) (w : World) (h : Ints w F A c p) (hn : p.length ≤ 4194304) :
    Calls Tryz.prog 75 #[.slice A p.length c] w fun e w' => ∃ v, e = .returned v ∧ App (Kind.int .i64) 3 w' w.heap.size v (plainB p) ∧ Below w.heap.size w w' := by
  have hl := h.1
  have hc := h.2.1
  have hB := h.bound (bnd_int .i64)
  have hL := App.lit (Kind.int .i64) 3 w w.heap.size (Nat.le_refl _)
  have HB1 := Lib.hid (bal w (.cells #[] 3))
  go_enter Tryz.func75, Tryz.ntmps75
  go_wp2_with fail
  go_loopw [3, 4] (fun v q wr => ∃ (f : Nat) (xs : List Int), f ≤ p.length + 63 ∧ q = .int .i64 f ∧ App (Kind.int .i64) 3 wr w.heap.size v xs ∧ Hid (xs ++ plainB (p.drop f) = plainB p) ∧ Hid (Below w.heap.size w wr)) (fun _ q _ => p.length + 64 - (intOf q).toNat)
  case atStart => exact ⟨0, [], by omega, rfl, hL, Lib.hid (by simp), HB1⟩
  case round =>
    obtain ⟨f, xs, hf, rfl, HA, HE, HB⟩ := hrel
    clear hL HB1
    have hxl : xs.length ≤ 2 * p.length := by
      have h3 := congrArg List.length HE.out
      have := plainB_len p
      rw [List.length_append] at h3
      omega
    obtain ⟨A1, c1, rfl, hl1, hc1⟩ := HA.slice_
    have HX := Lib.hid HA
    have HW := Lib.hid HB.out.size
    clear HA
    by_cases hlt : f < p.length
    · by_cases h64 : f + 64 ≤ p.length
      · obtain ⟨m, hm⟩ : ∃ m, m = 64 := ⟨_, rfl⟩
        obtain ⟨d, hd⟩ : ∃ d, d = p.drop f := ⟨_, rfl⟩
        have hdl : d.length = p.length - f := by rw [hd, List.length_drop]
        have hdn : d ≠ [] := fun e => by rw [e] at hdl; simp at hdl; omega
        have hml : min 64 d.length = m := by omega
        have HE2 := Lib.hid (show ((xs ++ [(m : Int) - 1]) ++ d.take m) ++ plainB (p.drop (f + 64)) = plainB p by
          rw [← HE.out, ← hd, plainB_step hdn, hml, hd, List.drop_drop, show List.take m (p.drop f) = List.take 64 (p.drop f) by
            by_cases hc : m = 64
            · rw [hc]
            · rw [List.take_of_length_le (by rw [← hd]; omega), List.take_of_length_le (by rw [← hd]; omega)]]
          simp)
        have s1 : ∀ W : World, (Instr.slice 30 (.slice A p.length c) (some (.int .i64 (f : Int))) (some (.int .i64 ((f : Int) + 64))) none).run Tryz.prog W = .ok (.slice (cutAddr A f c 1) m (c - f)) W := fun W => by
          have := run_between Tryz.underlying30 info_intP A p.length c f (f + m) _ _ rfl (show (((f : Int) + 64) : Int) = ((f + m : Nat) : Int) by omega) (by omega) (by omega) W
          rw [show f + m - f = m by omega] at this
          exact this
        have hT := ((hB.cut f (by omega)).take m).below HB.out
        have hTl : (d.take m).length = m := by rw [List.length_take]; omega
        rw [← hd] at hT
        obtain ⟨ys, hys⟩ : ∃ ys, ys = d.take m := ⟨_, rfl⟩
        rw [← hys] at hT hTl HE2
        obtain ⟨x, hx⟩ : ∃ x : Int, x = (m : Int) - 1 := ⟨_, rfl⟩
        rw [← hx] at HE2
        have hm0 : (m : Int) - 1 = x := hx.symm
        have hm1 : IntKind.i64.wrap (((f : Int) + 64) - (f : Int)) = (m : Int) := by rw [IntWalk.i64_in _ (by omega)]; omega
        have hm2 : IntKind.i64.wrap (m : Int) = (m : Int) := by rw [IntWalk.i64_in _ (by omega)]
        have hm3 : IntKind.i64.wrap x = x := by rw [IntWalk.i64_in _ (by omega)]
        have hm4 : ((f : Int) + 64) - (f : Int) = (m : Int) := by omega
        have bD : Below wr.heap.size wr wr.drew := ⟨rfl, rfl, rfl, Nat.le_refl _, fun _ _ => rfl⟩
        have HXD := AppP.below HX.out bD
        have hTD := hT.below bD
        have HWD := Lib.hid (show w.heap.size ≤ wr.drew.heap.size from HW.out)
        have HL := Lib.hid (show xs.length + 1 + m ≤ 16777216 by omega)
        have HTL := Lib.hid hTl
        have HF64 := Lib.hid (show f + 64 ≤ p.length + 63 by omega)
        clear hx hys hd hdl hdn hml hT hTl hm
        go_wp2_with fail
        go_region_law (first
          | (refine step_appF (Kind.int .i64) (xs := xs ++ [x]) (ys := ys) HA3 rfl _ _ 30 (.int .i64 0) 8 rfl Tryz.underlying30 (by kernel_rfl) rfl (bnd_int _) (onec_int _) (flat_int _) (by rfl) (by rfl) HTL.out (hTD.keep (hc3.same (fun i _ h1 h2 => by have := AppP.ne HXD h2; have := h1.2; omega))) (fun b hb => by have := hc3.size; have := HWD.out; omega) (by have := HL.out; have := HTL.out; simp; omega) (by have := HL.out; have := HTL.out; simp; omega) ?_; intro v4 w4 HA4 hc4 ho4)
          | (refine step_appP (Kind.int .i64) HXD rfl _ _ 30 (.int .i64 0) 8 rfl Tryz.underlying30 (by kernel_rfl) rfl (by decide) x [.int .i64 x] (fun _ => False) rfl rfl rfl (fun _ h => h.elim) (by simp [Value.oneCell']) (fun b hb => Nat.le_trans HWD.out hb) (by have := HL.out; omega) (by have := HL.out; omega) ?_; intro v3 w3 HA3 hc3))
        all_goals
          obtain ⟨zs, hzs⟩ : ∃ zs, zs = (xs ++ [x]) ++ ys := ⟨_, rfl⟩
          rw [← hzs] at HA4 HE2
          have b3 := HB.out.trans (bD.mono HB.out.size)
          have b3 := b3.trans (hc3.below HWD.out (fun i hi => AppP.ne HXD hi))
          have HB4 := Lib.hid (b3.trans (hc4.below b3.size (fun i hi => AppP.ne HA3 hi)))
          clear hc3 hc4 ho4 HA3 HXD hTD b3 hzs
          go_wp2
          go_roundw
          case rel => exact ⟨f + 64, zs, HF64.out, by go_num, HA4, HE2, HB4⟩
          case measure => simp [intOf]; omega
      · obtain ⟨m, hm⟩ : ∃ m, m = p.length - f := ⟨_, rfl⟩
        obtain ⟨d, hd⟩ : ∃ d, d = p.drop f := ⟨_, rfl⟩
        have hdl : d.length = p.length - f := by rw [hd, List.length_drop]
        have hdn : d ≠ [] := fun e => by rw [e] at hdl; simp at hdl; omega
        have hml : min 64 d.length = m := by omega
        have HE2 := Lib.hid (show ((xs ++ [(m : Int) - 1]) ++ d.take m) ++ plainB (p.drop (f + 64)) = plainB p by
          rw [← HE.out, ← hd, plainB_step hdn, hml, hd, List.drop_drop, show List.take m (p.drop f) = List.take 64 (p.drop f) by
            by_cases hc : m = 64
            · rw [hc]
            · rw [List.take_of_length_le (by rw [← hd]; omega), List.take_of_length_le (by rw [← hd]; omega)]]
          simp)
        have s1 : ∀ W : World, (Instr.slice 30 (.slice A p.length c) (some (.int .i64 (f : Int))) (some (.int .i64 (p.length : Int))) none).run Tryz.prog W = .ok (.slice (cutAddr A f c 1) m (c - f)) W := fun W => by
          have := run_between Tryz.underlying30 info_intP A p.length c f (f + m) _ _ rfl (show ((p.length : Int) : Int) = ((f + m : Nat) : Int) by omega) (by omega) (by omega) W
          rw [show f + m - f = m by omega] at this
          exact this
        have hT := ((hB.cut f (by omega)).take m).below HB.out
        have hTl : (d.take m).length = m := by rw [List.length_take]; omega
        rw [← hd] at hT
        obtain ⟨ys, hys⟩ : ∃ ys, ys = d.take m := ⟨_, rfl⟩
        rw [← hys] at hT hTl HE2
        obtain ⟨x, hx⟩ : ∃ x : Int, x = (m : Int) - 1 := ⟨_, rfl⟩
        rw [← hx] at HE2
        have hm0 : (m : Int) - 1 = x := hx.symm
        have hm1 : IntKind.i64.wrap ((p.length : Int) - (f : Int)) = (m : Int) := by rw [IntWalk.i64_in _ (by omega)]; omega
        have hm2 : IntKind.i64.wrap (m : Int) = (m : Int) := by rw [IntWalk.i64_in _ (by omega)]
        have hm3 : IntKind.i64.wrap x = x := by rw [IntWalk.i64_in _ (by omega)]
        have hm4 : (p.length : Int) - (f : Int) = (m : Int) := by omega
        have bD : Below wr.heap.size wr wr.drew := ⟨rfl, rfl, rfl, Nat.le_refl _, fun _ _ => rfl⟩
        have HXD := AppP.below HX.out bD
        have hTD := hT.below bD
        have HWD := Lib.hid (show w.heap.size ≤ wr.drew.heap.size from HW.out)
        have HL := Lib.hid (show xs.length + 1 + m ≤ 16777216 by omega)
        have HTL := Lib.hid hTl
        have HF64 := Lib.hid (show f + 64 ≤ p.length + 63 by omega)
        clear hx hys hd hdl hdn hml hT hTl hm
        go_wp2_with fail
        go_region_law (first
          | (refine step_appF (Kind.int .i64) (xs := xs ++ [x]) (ys := ys) HA3 rfl _ _ 30 (.int .i64 0) 8 rfl Tryz.underlying30 (by kernel_rfl) rfl (bnd_int _) (onec_int _) (flat_int _) (by rfl) (by rfl) HTL.out (hTD.keep (hc3.same (fun i _ h1 h2 => by have := AppP.ne HXD h2; have := h1.2; omega))) (fun b hb => by have := hc3.size; have := HWD.out; omega) (by have := HL.out; have := HTL.out; simp; omega) (by have := HL.out; have := HTL.out; simp; omega) ?_; intro v4 w4 HA4 hc4 ho4)
          | (refine step_appP (Kind.int .i64) HXD rfl _ _ 30 (.int .i64 0) 8 rfl Tryz.underlying30 (by kernel_rfl) rfl (by decide) x [.int .i64 x] (fun _ => False) rfl rfl rfl (fun _ h => h.elim) (by simp [Value.oneCell']) (fun b hb => Nat.le_trans HWD.out hb) (by have := HL.out; omega) (by have := HL.out; omega) ?_; intro v3 w3 HA3 hc3))
        all_goals
          obtain ⟨zs, hzs⟩ : ∃ zs, zs = (xs ++ [x]) ++ ys := ⟨_, rfl⟩
          rw [← hzs] at HA4 HE2
          have b3 := HB.out.trans (bD.mono HB.out.size)
          have b3 := b3.trans (hc3.below HWD.out (fun i hi => AppP.ne HXD hi))
          have HB4 := Lib.hid (b3.trans (hc4.below b3.size (fun i hi => AppP.ne HA3 hi)))
          clear hc3 hc4 ho4 HA3 HXD hTD b3 hzs
          go_wp2
          go_roundw
          case rel => exact ⟨f + 64, zs, HF64.out, by go_num, HA4, HE2, HB4⟩
          case measure => simp [intOf]; omega
    · have HQ := Lib.hid (show xs = plainB p by rw [← HE.out, List.drop_eq_nil_of_le (by omega), plainB_nil, List.append_nil])
      have HX2 : App (Kind.int .i64) 3 wr w.heap.size (.slice A1 xs.length c1) xs := HX.out
      go_wp2
      go_ret
      exact ⟨_, rfl, by rw [← HQ.out]; exact HX2, HB.out⟩

set_option maxRecDepth 5000 in
set_option maxHeartbeats 2000000 in
theorem l4Pack_any (l : List Int) (A : Option Addr) (c : Nat) (F : Nat → Prop) (w : World) (h : Ints w F A c l) (hn : l.length ≤ 1048576) :
    Calls Tryz.prog 60 #[.slice A l.length c] w fun e w' => ∃ v, e = .returned v ∧ App (Kind.int .i64) 3 w' w.heap.size v (packOf l) ∧ Below w.heap.size w w' := by
  have hl := h.1
  have hc := h.2.1
  have hB0 := h.bound (bnd_int .i64)
  have hL := App.lit (Kind.int .i64) 3 w w.heap.size (Nat.le_refl _)
  have hL2 : AppP (Kind.int .i64) 3 ((w.alloc (.cells #[] 3)).alloc (.cells #[] 3)) (fun b => w.heap.size ≤ b ∧ (Value.slice (some ⟨w.heap.size, 0, none⟩) 0 0).ownBlock ≠ some b) (.slice (some ⟨w.heap.size + 1, 0, none⟩) 0 0) [] := by
    have h0 := App.lit (Kind.int .i64) 3 (w.alloc (.cells #[] 3)) (w.heap.size + 1) (by simp)
    have h1 : (w.alloc (.cells #[] 3)).heap.size = w.heap.size + 1 := by simp
    rw [h1] at h0
    exact AppP.mono h0 (fun b _ (hb : w.heap.size + 1 ≤ b) => ⟨by omega, by simp [Value.ownBlock]; omega⟩)
  have hL1 := AppP.below hL (bal (w.alloc (.cells #[] 3)) (.cells #[] 3))
  have HB1 := Lib.hid (bthen (bal w (.cells #[] 3)) (bal (w.alloc (.cells #[] 3)) (.cells #[] 3)))
  clear hL
  go_enter Tryz.func60, Tryz.ntmps60
  go_wp2_with fail
  go_loopw [3, 4, 5] (fun vo vp q wr => ∃ (i f : Nat) (xs ps : List Int), i ≤ l.length ∧ l.length ≤ i + f ∧ q = .int .i64 i ∧ App (Kind.int .i64) 3 wr w.heap.size vo xs ∧
    AppP (Kind.int .i64) 3 wr (fun b => w.heap.size ≤ b ∧ vo.ownBlock ≠ some b) vp ps ∧ ps.length ≤ i ∧ Hid (xs ++ packR l f i ps = packOf l) ∧ Hid (Below w.heap.size w wr)) (fun _ _ q _ => l.length - (intOf q).toNat)
  case atStart => exact ⟨0, l.length, [], [], Nat.zero_le _, by omega, rfl, hL1, hL2, Nat.le_refl _, Lib.hid rfl, HB1⟩
  case round =>
    obtain ⟨i, f, xs, ps, hi, hif, rfl, HX, HP, hpl, HE, HB⟩ := hrel
    clear hL1 hL2 HB1
    have hxl : xs.length ≤ 2 * l.length := by
      have h3 := congrArg List.length HE.out
      have := packOf_len l
      rw [List.length_append] at h3
      omega
    obtain ⟨Ao, co, rfl, hlo, hco⟩ := HX.slice_
    obtain ⟨Ap, cp, rfl, hlp, hcp⟩ := HP.slice_
    by_cases hlt : i < l.length
    · obtain ⟨ad, rfl, _, hcell⟩ := (h.below HB.out).int_at hlt
      have hlw := (h.below HB.out)
      obtain ⟨f', rfl⟩ : ∃ f', f = f' + 1 := ⟨f - 1, by omega⟩
      have HXh := Lib.hid HX
      have HPh := Lib.hid HP
      clear HX HP hcell
      go_wp2_with fail
      refine (l4Best_any l (some ad) c F i wr hlw (by omega) hi).mono ?_
      rintro e w2 ⟨rfl, hb2⟩
      have HX := AppP.below HXh.out hb2
      have HP := AppP.below HPh.out hb2
      have HB2 := Lib.hid (bthen HB.out hb2)
      have HW2 := HB2.out.size
      clear HXh HPh hb2 hlw
      by_cases hb : (bestN l i).1 < 3
      · obtain ⟨n, hnn⟩ : ∃ n, n = (bestN l i).1 := ⟨_, rfl⟩
        obtain ⟨b, hbb⟩ : ∃ b, b = (bestN l i).2 := ⟨_, rfl⟩
        have HE2 := Lib.hid (show xs ++ packR l f' (i + 1) (ps ++ [l.getD i 0]) = packOf l by rw [← HE.out, packR_plain hlt hb])
        rw [← hnn, ← hbb]
        rw [← hnn] at hb
        rw [getD_at hlt] at HE2
        clear hnn hbb
        obtain ⟨_, ea, _, hcell⟩ := (h.below HB2.out).int_at hlt
        injection ea with ea
        subst ea
        have HX3 := Lib.hid HX
        clear HX
        go_wp2_with (at_builtin; go_loud (refine wpList_appP (Kind.int .i64) HP rfl _ _ 30 (.int .i64 0) 8 rfl Tryz.underlying30 (by kernel_rfl) rfl (by decide) l[i] [.int .i64 l[i]] (fun _ => False) rfl rfl rfl (fun _ h => h.elim) (by simp [Value.oneCell']) (fun x hx => ⟨by omega, fun e => by have := AppP.own_lt HX3.out e; omega⟩) (by omega) (by omega) ?_))
        intro v3 w3 HP3 hc3
        have HX4 := AppP.keepOwn (flat_int _) HX3.out (fun k hk => hc3.block k (AppP.own_lt HX3.out hk) (fun e => (AppP.ne HP e).2 hk))
        have HB3 := Lib.hid (HB2.out.trans (hc3.below HW2 (fun x hx => (AppP.ne HP hx).1)))
        have hpl3 : (ps ++ [l[i]]).length ≤ i + 1 := by simp; omega
        obtain ⟨qs, hqs⟩ : ∃ qs, qs = ps ++ [l[i]] := ⟨_, rfl⟩
        rw [← hqs] at HP3 HE2 hpl3
        clear hc3 HP HX3 hqs hcell
        go_wp2
        go_roundw
        case rel => exact ⟨i + 1, f', xs, qs, by omega, by omega, by go_num, HX4, HP3, hpl3, HE2, HB3⟩
        case measure => simp [intOf]; omega
      · obtain ⟨hb3, hb66, hbe, hk1, hk2⟩ := best_pos hi hb
        obtain ⟨n, hnn⟩ : ∃ n, n = (bestN l i).1 := ⟨_, rfl⟩
        obtain ⟨b, hbb⟩ : ∃ b, b = (bestN l i).2 := ⟨_, rfl⟩
        have HE2 := Lib.hid (show (xs ++ plainB ps) ++ [64 + (n : Int) - 3, (b : Int)] ++ packR l f' (i + n) [] = packOf l by
          rw [← HE.out, packR_match hlt hb, ← hnn, ← hbb, show (64 + (n : Int) - 3) = (n : Int) + 61 by omega]
          simp)
        rw [← hnn, ← hbb]
        rw [← hnn] at hb hb3 hb66 hbe
        rw [← hbb] at hk1 hk2
        clear hnn hbb
        obtain ⟨Ap', cp', eq', hrow⟩ := HP.row
        obtain ⟨rfl, rfl⟩ : Ap = Ap' ∧ cp = cp' := by injection eq' with e1 e2 e3; exact ⟨e1, e3⟩
        have hpb := plainB_len ps
        have HX3 := Lib.hid HX
        clear HX HP eq'
        go_wp2_with fail
        refine (l4Plain_any ps Ap cp _ w2 hrow (by omega)).mono ?_
        rintro e w3 ⟨v3, rfl, HV, hb3'⟩
        obtain ⟨Av, cv, rfl, hrv⟩ := AppP.row HV
        have HX4 := AppP.below HX3.out hb3'
        have HB3 := Lib.hid (bthen HB2.out hb3')
        have HW3 := HB3.out.size
        clear HX3 hb3' HV hrow
        obtain ⟨ys, hys⟩ : ∃ ys, ys = plainB ps := ⟨_, rfl⟩
        rw [← hys] at hrv HE2 hpb
        rw [← hys]
        clear hys
        go_wp2_with (at_builtin; go_loud (refine wpList_appF (Kind.int .i64) HX4 rfl _ _ 30 (.int .i64 0) 8 rfl Tryz.underlying30 (by kernel_rfl) rfl (bnd_int .i64) (onec_int .i64) (flat_int .i64) rfl rfl rfl hrv (fun x hx => by omega) (by omega) (by omega) ?_))
        intro v4 w4 HX5 hc4 _
        have HB4 := Lib.hid (HB3.out.trans (hc4.below HW3 (fun x hx => AppP.ne HX4 hx)))
        have HW4 := HB4.out.size
        obtain ⟨zs, hzs⟩ : ∃ zs, zs = xs ++ ys := ⟨_, rfl⟩
        have hzl : zs.length ≤ 4 * l.length := by rw [hzs, List.length_append]; omega
        rw [← hzs] at HX5 HE2
        obtain ⟨A4, c4, rfl, _, _⟩ := HX5.slice_
        have HI := App.ints 3 w4 w.heap.size HW4 [64 + (n : Int) - 3, (b : Int)] (by simp)
        obtain ⟨AI, cI, eI, hrI⟩ := AppP.row HI
        obtain ⟨rfl, rfl⟩ : some ⟨w4.heap.size, 0, none⟩ = AI ∧ 2 = cI := by injection eI with e1 e2 e3; exact ⟨e1, e3⟩
        have HX6 := AppP.below HX5 (bal w4 (.cells #[.int .i64 (64 + (n : Int) - 3), .int .i64 (b : Int)] 3))
        have HW6 : w.heap.size ≤ (w4.alloc (.cells #[.int .i64 (64 + (n : Int) - 3), .int .i64 (b : Int)] 3)).heap.size := Nat.le_trans HW4 (by simp)
        have HB6 := Lib.hid (HB4.out.trans ((bal w4 (.cells #[.int .i64 (64 + (n : Int) - 3), .int .i64 (b : Int)] 3)).mono HW4))
        clear hc4 HX4 hrv hzs HI eI
        go_wp2_with (at_builtin; go_loud (refine wpList_appF (Kind.int .i64) (ys := [64 + (n : Int) - 3, (b : Int)]) HX6 rfl _ _ 30 (.int .i64 0) 8 rfl Tryz.underlying30 (by kernel_rfl) rfl (bnd_int .i64) (onec_int .i64) (flat_int .i64) rfl rfl rfl hrI (fun x hx => by omega) (by simp; omega) (by simp; omega) ?_))
        intro v7 w7 HX7 hc7 _
        have HB7 := Lib.hid (HB6.out.trans (hc7.below HW6 (fun x hx => AppP.ne HX6 hx)))
        have HW7 := HB7.out.size
        obtain ⟨us, hus⟩ : ∃ us, us = zs ++ [64 + (n : Int) - 3, (b : Int)] := ⟨_, rfl⟩
        rw [← hus] at HX7 HE2
        have hol := fun g hg => AppP.own_lt HX7 (k := g) hg
        have HX8 := AppP.below HX7 (bal w7 (.cells #[] 3))
        have HP8 : AppP (Kind.int .i64) 3 (w7.alloc (.cells #[] 3)) (fun b => w.heap.size ≤ b ∧ v7.ownBlock ≠ some b) (.slice (some ⟨w7.heap.size, 0, none⟩) 0 0) [] :=
          AppP.mono (App.lit (Kind.int .i64) 3 w7 w7.heap.size (Nat.le_refl _)) (fun b _ (hb : w7.heap.size ≤ b) => ⟨by omega, fun e => by have := hol b e; omega⟩)
        have HB8 := Lib.hid (HB7.out.trans ((bal w7 (.cells #[] 3)).mono HW7))
        clear hc7 HX6 HX5 hrI hus HX7 hol
        go_wp2
        go_roundw
        case rel => exact ⟨i + n, f', us, [], by omega, by omega, by go_num, HX8, HP8, Nat.zero_le _, HE2, HB8⟩
        case measure => simp [intOf]; omega
    · obtain ⟨Ap', cp', eq', hrow⟩ := HP.row
      obtain ⟨rfl, rfl⟩ : Ap = Ap' ∧ cp = cp' := by injection eq' with e1 e2 e3; exact ⟨e1, e3⟩
      have hpb := plainB_len ps
      have HE2 := Lib.hid (show xs ++ plainB ps = packOf l by rw [← HE.out, packR_end (by omega)])
      have HX3 := Lib.hid HX
      clear HX HP eq'
      go_wp2_with fail
      refine (l4Plain_any ps Ap cp _ wr hrow (by omega)).mono ?_
      rintro e w3 ⟨v3, rfl, HV, hb3'⟩
      obtain ⟨Av, cv, rfl, hrv⟩ := AppP.row HV
      have HX4 := AppP.below HX3.out hb3'
      have HB3 := Lib.hid (bthen HB.out hb3')
      have HW3 := HB3.out.size
      clear HX3 hb3' HV hrow
      obtain ⟨ys, hys⟩ : ∃ ys, ys = plainB ps := ⟨_, rfl⟩
      rw [← hys] at hrv HE2 hpb
      rw [← hys]
      clear hys
      go_wp2_with (at_builtin; go_loud (refine wpList_appF (Kind.int .i64) HX4 rfl _ _ 30 (.int .i64 0) 8 rfl Tryz.underlying30 (by kernel_rfl) rfl (bnd_int .i64) (onec_int .i64) (flat_int .i64) rfl rfl rfl hrv (fun x hx => by omega) (by omega) (by omega) ?_))
      intro v4 w4 HX5 hc4 _
      have HB4 := Lib.hid (HB3.out.trans (hc4.below HW3 (fun x hx => AppP.ne HX4 hx)))
      rw [HE2.out] at HX5
      clear hc4 HX4 hrv
      go_wp2
      go_ret
      exact ⟨_, rfl, HX5, HB4.out⟩
end Go.Proofs.YtomcjjehfocbmaaGreatDoor
