/- Messages of the old form turned into a batch: the reference's OldTurn. -/
import Derived.Test.YtgnjnpfeofhniaaDoorTr
namespace Go.Proofs.YtgnjnpfeofhniaaDoor
set_option linter.unusedVariables false
set_option linter.unusedSimpArgs false
open Go.RowKit
def tsN : TN := ⟨11, 43, 1, 5, 6, 34, 7, 35, 8, 36, 10⟩
def tsD : Nat → Nat
  | 0 => 28 | 1 => 29 | 2 => 30 | 3 => 31 | 4 => 32 | 5 => 33 | 6 => 34 | 7 => 35 | 8 => 36 | 9 => 37 | 10 => 99 | _ => 98
def tsC (bb : Nat) (v0 mv lv iv av : Value) : Nat → Option Value
  | 0 => some (.pointer (some ⟨bb, 5, none⟩))
  | 1 => some v0
  | 2 => some lv
  | 3 => some iv
  | 4 => some av
  | 5 => some mv
  | 9 => some (.pointer (some ⟨bb, 5, none⟩))
  | _ => none
set_option maxRecDepth 100000 in
set_option maxHeartbeats 8000000 in
theorem OldTurnS_any (ms : List Old') (A : Option Addr) (c : Nat) (F : Nat → Prop) (pk : Bool) (w : World) (h : Olds w F A c ms) (hsm : ∀ m ∈ ms, m.key.length ≤ 1048576 ∧ m.val.length ≤ 1048576) :
    Calls Tryd.prog 6 #[.slice A ms.length c, .bool pk] w (TurnOut ms pk w) := by
  have hl := h.1
  have hc := h.2.1
  have hbo := h.bound bnd_old
  have HSM := Lib.hid hsm
  clear hsm h
  go_enter Tryd.func6, Tryd.ntmps6
  go_wp2_with fail
  generalize hW : World.alloc _ _ = W
  obtain ⟨hA, hB, b1, hsW⟩ := alloc2 hW
  clear hW
  have HA := Lib.hid hA
  have HB1 := Lib.hid hB
  have HW := Lib.hid b1
  clear hA hB b1
  go_loopw [7] (fun i wr => ∃ k : Nat, k ≤ ms.length ∧ i = .int .i64 (k : Int) ∧ (k = 0 ∨ ms.length ≤ 6) ∧ (∃ v B, wr.heap[w.heap.size + 1]? = some (.cells #[.bool pk, .bool false, .int .i64 255, .int .i64 0, .int .i64 0, v] 28 (0, 0)) ∧ AppX RX 46 wr (RT w) B v ((ms.take k).map Old'.rec_)) ∧ wr.heap[w.heap.size]? = some (.cells #[.bool false, .bool false, .int .i64 0, .int .i64 0, .int .i64 0, .slice none 0 0] 28 (0, 0)) ∧ Hid ((ms.take k).all oldB = true) ∧ Hid (Below w.heap.size w wr)) (fun i _ => ms.length - (intOf i).toNat)
  case atStart => exact ⟨0, Nat.zero_le _, rfl, .inl rfl, ⟨_, _, HB1.out, AppX.nil RX _ _ _⟩, HA.out, Lib.hid rfl, HW⟩
  case round =>
    obtain ⟨k, hk, rfl, hk6, ⟨v, B, hbb, hX⟩, hrb, HV, HB⟩ := hrel
    clear HA HB1 HW
    by_cases hlt : k < ms.length
    · obtain ⟨ad, K, kc, V, vc, rfl, _, hki, hvi, q0, q1, q2, q3, q4, q5, q6⟩ := (hbo.below HB.out).old_at hlt
      have hsm := HSM.out _ (List.getElem_mem hlt)
      obtain ⟨m, hm⟩ : ∃ m, m = ms[k] := ⟨_, rfl⟩
      rw [← hm] at hki hvi q0 q1 q2 q3 q4 q5 q6 hsm
      have HM := Lib.hid hm
      have hwB := HB.out.size
      clear hm
      go_wp2_with fail
      refine (OldValidS_any m K V kc vc _ wr hki hvi hsm.1 hsm.2).mono ?_
      rintro e w2 ⟨rfl, hb2⟩
      have hbb2 := blk_below hbb hb2
      have hrb2 := blk_below hrb hb2
      have hX2 := hX.below hb2
      have hk2 := hki.below hb2
      have hv2 := hvi.below hb2
      have b2 := HB.out.trans (hb2.mono HB.out.size)
      have q0' := below_cell hb2 q0
      have q1' := below_cell hb2 q1
      have q2' := below_cell hb2 q2
      have q3' := below_cell hb2 q3
      have q4' := below_cell hb2 q4
      have q5' := below_cell hb2 q5
      have q6' := below_cell hb2 q6
      clear hki hvi hX hbb q0 q1 q2 q3 q4 q5 q6
      cases hvm : oldB m
      · have HQ : Hid (turnOk ms pk = false) := Lib.hid (all_bad hlt (by rw [← HM.out]; exact hvm) pk)
        obtain ⟨x0, x1, x2, x3, x4, x5, xf⟩ := six hrb2
        have hltr := blk_lt2 hrb2
        have HB2 := Lib.hid b2
        clear hvm b2 hX2 hk2 hv2 hbb2 hrb2 hb2 q0' q1' q2' q3' q4' q5' q6'
        go_wp2
        refine bodyPost_ret (v := .tuple #[.agg #[.bool false, .bool false, .int .i64 0, .int .i64 0, .int .i64 0, .slice none 0 0], .bool false]) (by simp [results, Tryd.results6, go_sem, x0, x1, x2, x3, x4, x5, hltr]) rfl (.no HQ.out rfl ?_)
        exact zeroT HB2.out
      · by_cases h6 : 6 < ms.length
        · have d6 : decide ((6 : Int) < (ms.length : Int)) = true := by simp; omega
          have HQ : Hid (turnOk ms pk = false) := Lib.hid (by unfold turnOk; rw [decide_eq_false (by omega)]; rfl)
          obtain ⟨x0, x1, x2, x3, x4, x5, xf⟩ := six hrb2
          have hltr := blk_lt2 hrb2
          have HB2 := Lib.hid b2
          clear hvm b2 hX2 hk2 hv2 hbb2 hrb2 hb2 q0' q1' q2' q3' q4' q5' q6'
          go_wp2
          refine bodyPost_ret (v := .tuple #[.agg #[.bool false, .bool false, .int .i64 0, .int .i64 0, .int .i64 0, .slice none 0 0], .bool false]) (by simp [results, Tryd.results6, go_sem, x0, x1, x2, x3, x4, x5, hltr]) rfl (.no HQ.out rfl ?_)
          exact zeroT HB2.out
        · have d6 : decide ((6 : Int) < (ms.length : Int)) = false := by simp; omega
          have h66 : ms.length ≤ 6 := by omega
          have HVM := Lib.hid hvm
          obtain ⟨xs, hxs⟩ : ∃ xs, xs = (ms.take k).map Old'.rec_ := ⟨_, rfl⟩
          have hxl : xs.length ≤ 6 := by rw [hxs, List.length_map, List.length_take]; omega
          rw [← hxs] at hX2
          have HXS := Lib.hid hxs
          clear hvm hxs hrb hb2
          go_wp2_with fail
          refine wp_region_any (by kernel_rfl) ?_
          change wpAny _ _ _ _ _ _ _ (World.drew w2)
          generalize hV : w2.drew = V0
          have bD : Below w2.heap.size w2 V0 := by rw [← hV]; exact ⟨rfl, rfl, rfl, Nat.le_refl _, fun _ _ => rfl⟩
          clear hV
          have hbV := blk_below hbb2 bD
          have hrV := blk_below hrb2 bD
          have hXV := hX2.below bD
          have hkV := hk2.below bD
          have hvV := hv2.below bD
          have bV := b2.trans (bD.mono b2.size)
          have hszV := bV.size
          have hszB := blk_lt2 hbV
          have q0 := below_cell bD q0'
          have q1 := below_cell bD q1'
          have q2 := below_cell bD q2'
          have q3 := below_cell bD q3'
          have q4 := below_cell bD q4'
          have q5 := below_cell bD q5'
          have q6 := below_cell bD q6'
          clear q0' q1' q2' q3' q4' q5' q6'
          clear bD hbb2 hrb2 hX2 hk2 hv2 b2
          refine named_frame (fun F0 hF0 => ?_)
          have s0 : F0.size = 43 := by rw [hF0]; rfl
          have g6 : F0.getD 6 undef = .pointer (some ⟨w.heap.size + 1, 0, none⟩) := by rw [hF0]; rfl
          have g0 : F0.getD 0 undef = .slice (some ad) ms.length c := by rw [hF0]; rfl
          have g7 : F0.getD 7 undef = .int .i64 (k : Int) := by rw [hF0]; rfl
          refine wpAny_inv (TI tsN tsD (tsC (w.heap.size + 1) v (OV m K kc V vc) (.slice (some ad) ms.length c) (.int .i64 (k : Int)) (.pointer (some (ad.add (k * 7))))) (fun t => if [28, 29, 30, 31, 32, 33, 34, 35, 36, 37].contains t then none else some (F0.getD t undef)) m v xs (w.heap.size + 1) (RT w) V0) ?step ?fin _ _ _ _ rfl (by decide) ?init
          case init =>
            refine ⟨rfl, s0, fun t u hu => ?_, fun j hj h => ?_, fun h => ?_, fun h => ?_, fun h => ?_, fun h => ?_, fun h => ?_, fun _ => rfl, fun h => ?_, fun h => ?_, fun h => ?_, fun h => ?_⟩
            · by_cases hcn : [28, 29, 30, 31, 32, 33, 34, 35, 36, 37].contains t = true
              · rw [if_pos hcn] at hu; cases hu
              · rw [if_neg hcn] at hu; injection hu
            · have hj' : j < 11 := hj
              obtain rfl | rfl | rfl | rfl | rfl | rfl | rfl | rfl | rfl | rfl | rfl : j = 0 ∨ j = 1 ∨ j = 2 ∨ j = 3 ∨ j = 4 ∨ j = 5 ∨ j = 6 ∨ j = 7 ∨ j = 8 ∨ j = 9 ∨ j = 10 := by omega
              all_goals exact absurd h (by decide)
            all_goals exact absurd h (by decide)
          case step =>
            intro L a X i hI hs hi
            obtain ⟨T, ds⟩ := a
            obtain rfl : ds = [] := hI.dfr
            have hlt2 : i < 11 := ready_lt hi
            have hL : L.size = tsN.n := hs
            have hT : T.size = tsN.N := hI.size
            have t6 : T.getD 6 undef = _ := (hI.fix 6 _ rfl).trans g6
            have t0 : T.getD 0 undef = _ := (hI.fix 0 _ rfl).trans g0
            have t7 : T.getD 7 undef = _ := (hI.fix 7 _ rfl).trans g7
            obtain rfl | rfl | rfl | rfl | rfl | rfl | rfl | rfl | rfl | rfl | rfl : i = 0 ∨ i = 1 ∨ i = 2 ∨ i = 3 ∨ i = 4 ∨ i = 5 ∨ i = 6 ∨ i = 7 ∨ i = 8 ∨ i = 9 ∨ i = 10 := by omega
            · refine wpOp_step rfl (fun K' hK => ?_)
              go_simp
              exact hK _ _ (hI.simple (i := 0) (d := 28) hL (by decide) rfl (by decide) rfl (by decide) (fun u hu => by injection hu) (by decide))
            · refine wpOp_step rfl (fun K' hK => ?_)
              have e28 : T.getD 28 undef = _ := hI.smp 0 (by decide) (dep hi 0 (by kernel_rfl)) _ rfl
              obtain ⟨z0, z1, z2, z3, z4, z5, zf⟩ := six (hI.blk (nof hI.oa (ready_no hi)) hbV)
              go_simp
              exact hK _ _ (hI.simple (i := 1) (d := 29) hL (by decide) rfl (by decide) rfl (by decide) (fun u hu => by injection hu) (by decide))
            · refine wpOp_step rfl (fun K' hK => ?_)
              go_simp
              exact hK _ _ (hI.simple (i := 2) (d := 30) hL (by decide) rfl (by decide) rfl (by decide) (fun u hu => by injection hu) (by decide))
            · refine wpOp_step rfl (fun K' hK => ?_)
              go_simp
              exact hK _ _ (hI.simple (i := 3) (d := 31) hL (by decide) rfl (by decide) rfl (by decide) (fun u hu => by injection hu) (by decide))
            · refine wpOp_step rfl (fun K' hK => ?_)
              have e30 : T.getD 30 undef = _ := hI.smp 2 (by decide) (dep hi 2 (by kernel_rfl)) _ rfl
              have e31 : T.getD 31 undef = _ := hI.smp 3 (by decide) (dep hi 3 (by kernel_rfl)) _ rfl
              go_simp
              exact hK _ _ (hI.simple (i := 4) (d := 32) hL (by decide) rfl (by decide) rfl (by decide) (fun u hu => by injection hu) (by decide))
            · refine wpOp_step rfl (fun K' hK => ?_)
              have e32 : T.getD 32 undef = _ := hI.smp 4 (by decide) (dep hi 4 (by kernel_rfl)) _ rfl
              obtain rfl := hI.pA (nof hI.oc (ready_no hi))
              go_simp
              exact hK _ _ (hI.simple (i := 5) (d := 33) hL (by decide) rfl (by decide) rfl (by decide) (fun u hu => by injection hu) (by decide))
            · refine wpOp_step rfl (fun K' hK => ?_)
              have e33 : T.getD 33 undef = _ := hI.smp 5 (by decide) (dep hi 5 (by kernel_rfl)) _ rfl
              obtain rfl := hI.pA (ready_no hi)
              go_simp
              refine (l11_any m K V kc vc _ X hkV hvV hsm.1 hsm.2).mono ?_
              rintro e X2 ⟨vk, vv, rfl, hC⟩
              dsimp only
              exact hK _ _ (hI.call hL (by decide) (dep hi 5 (by kernel_rfl)) (ready_no hi) rfl (by decide) rfl (by decide) rfl (by decide) hC)
            · refine wpOp_step rfl (fun K' hK => ?_)
              have hjc : L.getD tsN.jc false = true := dep hi 6 (by kernel_rfl)
              obtain ⟨vk, vv, ec, hC⟩ := hI.pC hjc (ready_no hi)
              have ec : T.getD 34 undef = _ := ec
              obtain ⟨Ak, ak, rfl, _⟩ := AppP.row hC.key
              obtain ⟨Av, avc, rfl, _⟩ := AppP.row hC.val
              have gc : T[34]?.getD undef = .agg (RV m (.slice Ak m.rec_.key.length ak) (.slice Av m.rec_.val.length avc)) := by rw [← Array.getD_eq_getD_getElem?]; exact ec
              go_simp
              exact hK _ _ (hI.lit hL (by decide) (ready_no hi) hjc rfl (by decide) rfl (by decide) rfl (by decide) hC)
            · refine wpOp_step rfl (fun K' hK => ?_)
              have e29 : T.getD 29 undef = _ := hI.smp 1 (by decide) (dep hi 1 (by kernel_rfl)) _ rfl
              have hjt : L.getD tsN.jt false = true := dep hi 7 (by kernel_rfl)
              obtain ⟨Wl, vk, vv, rfl, et, hC⟩ := hI.pT hjt (ready_no hi)
              have et : T.getD 35 undef = _ := et
              have hXl := hXV.below hC.below
              have hszl := hC.below.size
              refine step_appX1 RX hXl rfl (.tmp 29) (.tmp 35) 26 (.agg #[.int .i64 0, .int .i64 0, .bool false, .slice none 0 0, .bool false, .slice none 0 0]) 80 rfl Tryd.underlying26 (by kernel_rfl) rfl (by decide) m.rec_ (RV m vk vv).toList _ (show Act.eval _ _ = _ from e29) (show Act.eval _ _ = _ from et) hC.x (fun b hb => ⟨by omega, by have := hXV.1; omega⟩) (by obtain ⟨Ak, ak, rfl, _⟩ := AppP.row hC.key; obtain ⟨Av, avc, rfl, _⟩ := AppP.row hC.val; simp [Value.oneCell']) (fun b hb => by omega) (by omega) (by omega) ?_
              intro v1 w1 hA1 hc1
              exact hK _ _ (hI.app hL (by decide) (ready_no hi) (dep hi 1 (by kernel_rfl)) hjt rfl (by decide) rfl (by decide) rfl (by decide) ⟨hA1, Wl, hC.below, hc1⟩)
            · refine wpOp_step rfl (fun K' hK => ?_)
              go_simp
              exact hK _ _ (hI.simple (i := 9) (d := 37) hL (by decide) rfl (by decide) rfl (by decide) (fun u hu => by injection hu) (by decide))
            · refine wpOp_step rfl (fun K' hK => ?_)
              have e37 : T.getD 37 undef = _ := hI.smp 9 (by decide) (dep hi 9 (by kernel_rfl)) _ rfl
              have hja : L.getD tsN.ja false = true := dep hi 8 (by kernel_rfl)
              obtain ⟨hA1, Wl, hbl, hc1⟩ := hI.pP hja (ready_no hi)
              obtain ⟨A1, a1, ev, _⟩ := hA1.toP.slice_
              have ev : T.getD 36 undef = _ := ev
              have hbX := hc1.blk (blk_below hbV hbl) (fun hh => by have := (hXV.ge _ hh).1; omega)
              obtain ⟨z0, z1, z2, z3, z4, z5, zf⟩ := six hbX
              have HS := hI.store hL (by decide) (ready_no hi) hja rfl (by decide)
              rw [show T.getD tsN.ya undef = _ from ev, show (xs ++ [m.rec_]).length = xs.length + 1 from by simp] at HS
              go_simp
              exact hK _ _ HS
          case fin =>
            intro L a X hI hs hr
            have hall := all_listed hs hr (by kernel_rfl)
            obtain ⟨T, ds⟩ := a
            obtain rfl : ds = [] := hI.dfr
            obtain ⟨w1, rfl, hP⟩ := hI.pS (hall tsN.js (by decide))
            have hTf : ∀ t, [28, 29, 30, 31, 32, 33, 34, 35, 36, 37].contains t = false → T.getD t undef = F0.getD t undef := fun t ht => hI.fix t _ (show (if [28, 29, 30, 31, 32, 33, 34, 35, 36, 37].contains t = true then none else some (F0.getD t undef)) = some (F0.getD t undef) by rw [ht]; rfl)
            have hTe := same_but (hI.size.trans s0.symm) [28, 29, 30, 31, 32, 33, 34, 35, 36, 37] hTf
            simp only [List.foldl_cons, List.foldl_nil] at hTe
            obtain ⟨x28, h28⟩ : ∃ x, x = T.getD 28 undef := ⟨_, rfl⟩
            obtain ⟨x29, h29⟩ : ∃ x, x = T.getD 29 undef := ⟨_, rfl⟩
            obtain ⟨x30, h30⟩ : ∃ x, x = T.getD 30 undef := ⟨_, rfl⟩
            obtain ⟨x31, h31⟩ : ∃ x, x = T.getD 31 undef := ⟨_, rfl⟩
            obtain ⟨x32, h32⟩ : ∃ x, x = T.getD 32 undef := ⟨_, rfl⟩
            obtain ⟨x33, h33⟩ : ∃ x, x = T.getD 33 undef := ⟨_, rfl⟩
            obtain ⟨x34, h34⟩ : ∃ x, x = T.getD 34 undef := ⟨_, rfl⟩
            obtain ⟨x35, h35⟩ : ∃ x, x = T.getD 35 undef := ⟨_, rfl⟩
            obtain ⟨x36, h36⟩ : ∃ x, x = T.getD 36 undef := ⟨_, rfl⟩
            obtain ⟨x37, h37⟩ : ∃ x, x = T.getD 37 undef := ⟨_, rfl⟩
            rw [show T.getD tsN.ya undef = x36 from h36.symm] at hP ⊢
            rw [← h28, ← h29, ← h30, ← h31, ← h32, ← h33, ← h34, ← h35, ← h36, ← h37] at hTe
            clear h28 h29 h30 h31 h32 h33 h34 h35 h36 h37 hTf hI hs hr hall
            replace hTe := hTe.symm
            subst hTe
            subst hF0
            obtain ⟨hA1, Wl, hbl, hc1⟩ := hP
            obtain ⟨A1, a1, rfl, hl1, _⟩ := hA1.toP.slice_
            have hge := hXV.ge
            have hb1 := hc1.blk (blk_below hbV hbl) (fun hh => by have := (hge _ hh).1; omega)
            have hr1 := hc1.blk (blk_below hrV hbl) (fun hh => by have := (hge _ hh).1; omega)
            have bw := (bV.trans (hbl.mono bV.size)).trans (hc1.below (Nat.le_trans bV.size hbl.size) (fun i hi => by have := (hge _ hi).1; omega))
            have hsw := bw.size
            obtain ⟨zs, hzs⟩ : ∃ zs, zs = xs ++ [m.rec_] := ⟨_, rfl⟩
            rw [← hzs] at hA1 hl1 ⊢
            have HZ : Hid (zs = (ms.take (k + 1)).map Old'.rec_) := Lib.hid (by rw [hzs, HXS.out, HM.out, take_recs hlt])
            obtain ⟨Y, hY⟩ : ∃ Y, Y = w1.setCell ⟨w.heap.size + 1, 5, none⟩ (.slice A1 zs.length a1) := ⟨_, rfl⟩
            have cY : Chg (fun b => b = w.heap.size + 1) w1 Y := by rw [hY]; exact Chg.set (fun b => b = w.heap.size + 1) w1 (p := ⟨w.heap.size + 1, 5, none⟩) rfl _
            have hYb : Y.heap[w.heap.size + 1]? = some (.cells #[.bool pk, .bool false, .int .i64 255, .int .i64 0, .int .i64 0, .slice A1 zs.length a1] 28 (0, 0)) := by
              rw [hY]
              have := blk_put hb1 5 (.slice A1 zs.length a1)
              simpa using this
            have hYr := cY.blk hr1 (by omega)
            have hYA := hA1.chg cY (fun b _ hb e => by have : w.heap.size + 2 ≤ b := hb; omega)
            have hYw := bw.trans (cY.below bw.size (fun i hi => by omega))
            have HALL : Hid ((ms.take (k + 1)).all oldB = true) := Lib.hid (by rw [take_all hlt, HV.out, ← HM.out, HVM.out]; rfl)
            have HFIN := Lib.hid (show (∃ v B, Y.heap[w.heap.size + 1]? = some (.cells #[.bool pk, .bool false, .int .i64 255, .int .i64 0, .int .i64 0, v] 28 (0, 0)) ∧ AppX RX 46 Y (RT w) B v ((ms.take (k + 1)).map Old'.rec_)) ∧ Y.heap[w.heap.size]? = some (.cells #[.bool false, .bool false, .int .i64 0, .int .i64 0, .int .i64 0, .slice none 0 0] 28 (0, 0)) ∧ Hid ((ms.take (k + 1)).all oldB = true) ∧ Hid (Below w.heap.size w Y) from ⟨⟨_, _, hYb, by rw [← HZ.out]; exact hYA⟩, hYr, HALL, Lib.hid hYw⟩)
            rw [← hY]
            clear hzs hA1 hl1 hge hb1 hr1 bw hsw hY cY hYb hYr hYA hYw hbl hc1 hXV hbV hrV bV hkV hvV s0
            clear g6 g0 g7
            go_wp2
            go_roundw
            case rel => exact ⟨k + 1, by omega, by go_num, .inr h66, HFIN.out⟩
            case measure => simp [intOf]; omega
    · have hk2 : k = ms.length := by omega
      subst hk2
      have h66 : ms.length ≤ 6 := by omega
      rw [List.take_length] at hX
      obtain ⟨A1, a1, rfl, hr1⟩ := hX.row
      have hX1 := hr1.toK
      obtain ⟨z0, z1, z2, z3, z4, z5, zf⟩ := six hbb
      have HV' : Hid (ms.all oldB = true) := Lib.hid (by have := HV.out; rwa [List.take_length] at this)
      clear hX hr1 HV
      rw [show ((ms.map Old'.rec_).length) = (turnB ms pk).recs.length from rfl] at z5
      go_wp2_with fail
      refine (BatchValidS_any (turnB ms pk) A1 a1 _ wr hX1).mono ?_
      rintro e w2 ⟨rfl, hb2⟩
      have hrb2 := blk_below hrb hb2
      have hbb2 := blk_below hbb hb2
      have hX2 := hX1.below hb2
      have b2 := HB.out.trans (hb2.mono HB.out.size)
      obtain ⟨x0, x1, x2, x3, x4, x5, xf⟩ := six hrb2
      have hltr := blk_lt2 hrb2
      have HX2 := Lib.hid hX2
      have HB2 := Lib.hid b2
      cases hbt : batB (turnB ms pk)
      · have HQ : Hid (turnOk ms pk = false) := Lib.hid (by unfold turnOk; rw [hbt]; simp)
        clear hbt b2 hX2 hX1 hb2 hrb hbb hrb2 hbb2 z0 z1 z2 z3 z4 z5 zf
        go_wp2
        refine bodyPost_ret (v := .tuple #[.agg #[.bool false, .bool false, .int .i64 0, .int .i64 0, .int .i64 0, .slice none 0 0], .bool false]) (by simp [results, Tryd.results6, go_sem, x0, x1, x2, x3, x4, x5, hltr]) rfl (.no HQ.out rfl ?_)
        exact zeroT HB2.out
      · have HQ : Hid (turnOk ms pk = true) := Lib.hid (by unfold turnOk; rw [hbt, HV'.out, decide_eq_true h66]; rfl)
        clear z0 z1 z2 z3 z4 z5 zf
        obtain ⟨z0, z1, z2, z3, z4, z5, zf⟩ := six hbb2
        rw [show ((ms.map Old'.rec_).length) = (turnB ms pk).recs.length from rfl] at z5
        clear hbt b2 hX2 hX1 hb2 hrb hbb hrb2 hbb2
        go_wp2
        have cZ := Chg.setCells (fun b => b = w.heap.size) (g := w.heap.size) rfl [.bool pk, .bool false, .int .i64 255, .int .i64 0, .int .i64 0, .slice A1 (turnB ms pk).recs.length a1] 0 w2
        refine bodyPost_ret (v := .tuple #[.agg #[.bool pk, .bool false, .int .i64 255, .int .i64 0, .int .i64 0, .slice A1 (turnB ms pk).recs.length a1], .bool true]) (by simp [results, Tryd.results6, go_sem, x0, x1, x2, x3, x4, x5, hltr]) rfl ?_
        refine ⟨A1, a1, by rw [HQ.out, turn_yes HQ.out]; rfl, ?_, HB2.out.trans (cZ.below HB2.out.size (fun i hi => by omega))⟩
        rw [turn_yes HQ.out]
        exact (HX2.out.keep (cZ.same (fun i _ h1 h2 => by have : w.heap.size + 2 ≤ i := h1; omega))).mono (fun i (hi : w.heap.size + 2 ≤ i) => by omega)
end Go.Proofs.YtgnjnpfeofhniaaDoor
