/- A batch as bytes: the reference. -/
import Derived.Test.YtomcjjehfocbmaaGreatDoorBs
import Derived.Deep.DeepCutAuto
namespace Go.Proofs.YtomcjjehfocbmaaGreatDoor
set_option linter.unusedVariables false
set_option linter.unusedSimpArgs false
open Go.RowKit

/-- The records' bytes, as they are told. -/
def RowsR (b : Bat) (w wx : World) (bx : Obj) (vr vf : Value) (f : Int) : Prop := ∃ (ys : List Int) (Ar : Option Addr) (cr : Nat) (G : Nat → Prop), vr = .slice Ar ys.length cr ∧ vf = .int .i64 f ∧ ys = b.body ∧ ys.length ≤ 396 ∧ Ints wx G Ar cr ys ∧ wx.heap[w.heap.size]? = some bx ∧ Below w.heap.size w wx
def FlagR (b : Bat) (W wx : World) (vf : Value) : Prop := vf = .int .i64 b.flags ∧ wx = W
def AppR (W wx : World) (v : Value) (l : List Int) : Prop := App (Kind.int .i64) 3 wx W.heap.size v l ∧ Below W.heap.size W wx
set_option maxRecDepth 20000 in
set_option maxHeartbeats 4000000 in
theorem l5Bytes_any (b : Bat) (A : Option Addr) (c : Nat) (F : Nat → Prop) (w : World) (h : Recs w F A c b.recs) (hv : batB b = true) :
    Calls Tryz.prog 35 #[.agg #[.bool b.packed, .bool b.mark, .int .i64 b.prod, .int .i64 b.epoch, .int .i64 b.seq, .slice A b.recs.length c]] w fun e w' => ∃ v, e = .returned v ∧ App (Kind.int .i64) 3 w' w.heap.size v (batBytes b) ∧ Below w.heap.size w w' := by
  have hl := h.1
  have hc := h.2.1
  obtain ⟨hhd, ⟨hn1, hn6⟩, hrec⟩ := batB_parts hv
  obtain ⟨hbo, hbt⟩ := batB_base hv
  have HBO := Lib.hid hbo
  have HBT := Lib.hid hbt
  have HFF := Lib.hid (first_getElem (b := b) (by omega))
  have hn0 : 0 < b.recs.length := by omega
  have HYR := Lib.hid (rest_bytes hv)
  have HSQ := Lib.hid (show 0 ≤ b.seq ∧ b.seq ≤ 16777215 by have := (headB_range hhd).2.2; omega)
  have HBTq := Lib.hid (show 0 ≤ b.base ∧ b.base ≤ 16777215 by have := HBT.out; omega)
  have HBOq := Lib.hid (show 0 ≤ b.first ∧ b.first ≤ 16777215 by have := HBO.out; omega)
  clear hbo hbt
  go_enter Tryz.func35, Tryz.ntmps35
  go_wp2_with fail
  generalize hW : World.alloc _ _ = W1
  obtain ⟨hA1, b1, hz1⟩ := alloc1 hW
  clear hW hz1
  refine (l5Body_any b A c F W1 (h.below b1) hv).mono ?_
  rintro e wo ⟨v0, rfl, HX, hb0⟩
  have hbo := Lib.hid (bthen b1 hb0)
  have hAo := Lib.hid (blk_below hA1 hb0)
  obtain ⟨Ao, co, rfl, _, _⟩ := HX.slice_
  have hrl := rows_len hv
  have hrb := rows_bytes hv
  obtain ⟨xs, hxx⟩ : ∃ xs, xs = b.rows := ⟨_, rfl⟩
  rw [← hxx] at HX hrl hrb
  rw [← hxx]
  have HXX := Lib.hid hxx
  have HXh := Lib.hid HX
  have HN0 := Lib.hid hn0
  clear hxx hA1 b1 hb0 HX hn0
  obtain ⟨z0, z1, z2, z3, z4, z5, zf⟩ := six hAo.out
  obtain ⟨pk, hpk⟩ : ∃ p, p = b.packed := ⟨_, rfl⟩
  rw [← hpk] at z0
  have HPK := Lib.hid hpk
  clear hpk
  go_upto_if 10 with (fail)
  go_cut [3, 4] (fun vr vf wx => RowsR b w wx (.cells #[.bool b.packed, .bool b.mark, .int .i64 b.prod, .int .i64 b.epoch, .int .i64 b.seq, .slice A b.recs.length c] 35) vr vf (if pk then 1 else 0))
  case first =>
    cases pk
    · have hpk := HPK.out
      have HF := Lib.hid (show RowsR b w wo (.cells #[.bool b.packed, .bool b.mark, .int .i64 b.prod, .int .i64 b.epoch, .int .i64 b.seq, .slice A b.recs.length c] 35) (.slice Ao xs.length co) (.int .i64 0) 0 from
        ⟨xs, Ao, co, _, rfl, rfl, by unfold Bat.body; rw [← hpk, HXX.out]; rfl, by omega, (AppP.row_of HXh.out).2.2.2, hAo.out, hbo.out⟩)
      clear hpk
      go_wp2
      go_meet
      exact HF.out
    · have hpk := HPK.out
      clear hpk
      go_wp2_with fail
      have hpk := HPK.out
      refine (l4Pack_any xs Ao co _ wo ((AppP.row_of HXh.out).2.2.2) (by omega)).mono ?_
      rintro e W ⟨vp, rfl, HVp, hbp⟩
      obtain ⟨Ar, cr, rfl, _, _⟩ := HVp.slice_
      have hyl0 := packOf_len xs
      have HF := Lib.hid (show RowsR b w W (.cells #[.bool b.packed, .bool b.mark, .int .i64 b.prod, .int .i64 b.epoch, .int .i64 b.seq, .slice A b.recs.length c] 35) (.slice Ar (packOf xs).length cr) (.int .i64 1) 1 from
        ⟨packOf xs, Ar, cr, _, rfl, rfl, by unfold Bat.body; rw [← hpk, HXX.out]; rfl, by omega, (AppP.row_of HVp).2.2.2, blk_below hAo.out hbp, bthen hbo.out hbp⟩)
      clear hpk HVp hbp z0 z1 z2 z3 z4 z5 zf hyl0
      go_wp2
      go_meet
      exact HF.out
  case rest =>
    obtain ⟨ys, Ar, cr, G, rfl, rfl, hys, hyl, hr, hA, hWW⟩ := hcut
    have HY := Lib.hid hys
    have HWW := Lib.hid hWW
    have hA1 := Lib.hid hA
    have HR1 := Lib.hid hr
    obtain ⟨W, hWe⟩ : ∃ W : World, W = wc := ⟨_, rfl⟩
    subst hWe
    clear hys hWW hr hA HXh hbo hAo HXX hrl hrb z0 z1 z2 z3 z4 z5 zf
    obtain ⟨z0, z1, z2, z3, z4, z5, zf⟩ := six hA1.out
    obtain ⟨mk, hmk⟩ : ∃ p, p = b.mark := ⟨_, rfl⟩
    rw [← hmk] at z1
    have HMK := Lib.hid hmk
    clear hmk
    go_upto_if 16 with (fail)
    go_cut [4] (fun vf wx => FlagR b W wx vf)
    case first =>
      have HFL := Lib.hid (show FlagR b W W (.int .i64 ((if pk then 1 else 0) + (if mk then 2 else 0))) from ⟨by unfold Bat.flags; rw [HPK.out, HMK.out], rfl⟩)
      cases pk <;> cases mk
      all_goals
        go_wp2
        go_meet
        exact HFL.out
    case rest =>
      obtain ⟨rfl, hWc⟩ := hcut
      obtain rfl : W = wc := hWc.symm
      obtain ⟨f, hf⟩ : ∃ f, f = b.flags := ⟨_, rfl⟩
      have HY2 := Lib.hid (show b.rest = [f, b.prod, b.epoch] ++ intB2 b.seq ++ intB3 b.base ++ [(b.recs.length : Int), 0, 0] ++ ys by unfold Bat.rest; rw [hf, HY.out])
      rw [← hf]
      clear hf
      obtain ⟨l1, hl1⟩ : ∃ l1, l1 = [f, b.prod, b.epoch] := ⟨_, rfl⟩
      have HL1 := Lib.hid (show l1.length = 3 by rw [hl1]; rfl)
      have HLIT : ∀ U : World, App (Kind.int .i64) 3 (U.alloc (.cells #[.int .i64 f, .int .i64 b.prod, .int .i64 b.epoch] 3)) U.heap.size (.slice (some ⟨U.heap.size, 0, none⟩) 3 3) l1 := fun U => by rw [hl1]; exact App.ints 3 U U.heap.size (Nat.le_refl _) [f, b.prod, b.epoch] (by simp)
      rw [← hl1] at HY2
      have HLIT := Lib.hid HLIT
      clear hl1
      clear z0 z1 z2 z3 z4 z5 zf
      go_upto_region 8 with (fail)
      go_cut [5] (fun v wx => AppR W wx v (l1 ++ intB2 b.seq))
      case first =>
        obtain ⟨z0, z1, z2, z3, z4, z5, zf⟩ := six hA1.out
        have bD : Below W.heap.size W W.drew := ⟨rfl, rfl, rfl, Nat.le_refl _, fun _ _ => rfl⟩
        have HC := Lib.hid (fun U : World => l2Int2_any b.seq U HSQ.out)
        have HBD := Lib.hid bD
        have hzA2 := below_cell (bal W (.cells #[.int .i64 f, .int .i64 b.prod, .int .i64 b.epoch] 3)) z2
        have hzA3 := below_cell (bal W (.cells #[.int .i64 f, .int .i64 b.prod, .int .i64 b.epoch] 3)) z3
        have hzA4 := below_cell (bal W (.cells #[.int .i64 f, .int .i64 b.prod, .int .i64 b.epoch] 3)) z4
        clear bD z0 z1 z5
        go_region_law (first
          | (refine step_appF (Kind.int .i64) (xs := l1) (ys := intB2 b.seq) HXA rfl _ _ 30 (.int .i64 0) 8 rfl Tryz.underlying30 (by kernel_rfl) rfl (bnd_int _) (onec_int _) (flat_int _) (by rfl) (by rfl) rfl hrA (fun b hb => by have := BA.out.size; omega) (by have := HL1.out; simp [intB2]; omega) (by have := HL1.out; simp [intB2]; omega) ?_; intro v6 w6 HX6 hc6 _; have B6 := Lib.hid (BA.out.trans (hc6.below BA.out.size (fun x hx => AppP.ne HXA hx))))
          | (refine step_appF (Kind.int .i64) (xs := l1) (ys := intB2 b.seq) HXB rfl _ _ 30 (.int .i64 0) 8 rfl Tryz.underlying30 (by kernel_rfl) rfl (bnd_int _) (onec_int _) (flat_int _) (by rfl) (by rfl) rfl hrB (fun b hb => by have := BB.out.size; omega) (by have := HL1.out; simp [intB2]; omega) (by have := HL1.out; simp [intB2]; omega) ?_; intro v6 w6 HX6 hc6 _; have B6 := Lib.hid (BB.out.trans (hc6.below BB.out.size (fun x hx => AppP.ne HXB hx))))
          | (go_simp; refine (HC.out (W.drew.alloc (.cells #[.int .i64 f, .int .i64 b.prod, .int .i64 b.epoch] 3))).mono ?_; rintro e w5 ⟨v5, rfl, HV5, hb5⟩; obtain ⟨A5, c5, rfl, _, _⟩ := HV5.slice_; have hrA := (AppP.row_of HV5).2.2.2; have HXA := App.from (AppP.below (HLIT.out W.drew) hb5) (show W.heap.size ≤ W.drew.heap.size from Nat.le_refl _); have BA := Lib.hid (bthen (bthen HBD.out (bal W.drew (.cells #[.int .i64 f, .int .i64 b.prod, .int .i64 b.epoch] 3))) hb5))
          | (go_simp; refine (HC.out W.drew).mono ?_; rintro e w5 ⟨v5, rfl, HV5, hb5⟩; obtain ⟨A5, c5, rfl, _, _⟩ := HV5.slice_; have BC5 := bthen HBD.out hb5; have HXB := App.from (HLIT.out w5) BC5.size; have hrB := ((AppP.row_of HV5).2.2.2).below (bal w5 (.cells #[.int .i64 f, .int .i64 b.prod, .int .i64 b.epoch] 3)); have BB := Lib.hid (bthen BC5 (bal w5 (.cells #[.int .i64 f, .int .i64 b.prod, .int .i64 b.epoch] 3))); obtain ⟨r0, r1, r2, r3, r4, r5, rf⟩ := six (blk_below hA1.out BC5); have rr2 := below_cell (bal w5 (.cells #[.int .i64 f, .int .i64 b.prod, .int .i64 b.epoch] 3)) r2; have rr3 := below_cell (bal w5 (.cells #[.int .i64 f, .int .i64 b.prod, .int .i64 b.epoch] 3)) r3; have rr4 := below_cell (bal w5 (.cells #[.int .i64 f, .int .i64 b.prod, .int .i64 b.epoch] 3)) r4))
        all_goals
          have HF := Lib.hid (show AppR W w6 v6 (l1 ++ intB2 b.seq) from ⟨HX6, B6.out⟩)
          clear HX6 hc6 B6
          go_wp2_with fail
          go_meet
          exact HF.out
      case rest =>
        obtain ⟨HX6, b6⟩ := hcut
        obtain ⟨w6, hw6⟩ : ∃ W6 : World, W6 = wc := ⟨_, rfl⟩
        subst hw6
        have B6 := Lib.hid b6
        have hn0 := HN0.out
        clear b6
        have h2l : (intB2 b.seq).length = 2 := rfl
        have h3l : (intB3 b.base).length = 3 := rfl
        obtain ⟨l2, hl2⟩ : ∃ l2, l2 = l1 ++ intB2 b.seq := ⟨_, rfl⟩
        have HL2 := Lib.hid (show l2.length = 5 by rw [hl2, List.length_append, HL1.out, h2l])
        have hl2l : l2.length ≤ 5 := by rw [HL2.out]; exact Nat.le_refl _
        rw [← hl2] at HX6 HY2
        have hs6 : W.heap.size ≤ w6.heap.size := B6.out.size
        obtain ⟨adr, C0, e0, C1, e1, rfl, _, _, _, p0, p1, _⟩ := (h.below (bthen HWW.out B6.out)).rec_at hn0
        rw [show adr.add (0 * 6) = adr from rfl] at p0 p1
        rw [← HFF.out.1] at p0
        rw [← HFF.out.2] at p1
        obtain ⟨y0, y1, y2, y3, y4, y5, yf⟩ := six (blk_below hA1.out B6.out)
        obtain ⟨A6, c6, rfl, _, _⟩ := HX6.slice_
        clear hl2
        go_wp2_with fail
        refine (l2Int3_any b.base _ HBTq.out).mono ?_
        rintro e w7 ⟨v7, rfl, HV7, hb7⟩
        obtain ⟨A7, c7, rfl, _, _⟩ := HV7.slice_
        have hr7 := (AppP.row_of HV7).2.2.2
        have HX7 := AppP.below HX6 hb7
        have B7 := Lib.hid (bthen B6.out hb7)
        have hs7 : W.heap.size ≤ w7.heap.size := B7.out.size
        clear HV7 hb7 HX6 B6 p0 p1 y0 y1 y2 y3 y4 y5 yf
        go_wp2_with (at_builtin; go_loud (refine wpList_appF (Kind.int .i64) (ys := intB3 b.base) HX7 rfl _ _ 30 (.int .i64 0) 8 rfl Tryz.underlying30 (by kernel_rfl) rfl (bnd_int .i64) (onec_int .i64) (flat_int .i64) rfl rfl rfl hr7 (fun x hx => by omega) (by omega) (by omega) ?_))
        intro v8 w8 HX8 hc8 _
        have B8 := Lib.hid (B7.out.trans (hc8.below hs7 (fun x hx => AppP.ne HX7 hx)))
        obtain ⟨l3, hl3⟩ : ∃ l3, l3 = l2 ++ intB3 b.base := ⟨_, rfl⟩
        have HL3 := Lib.hid (show l3.length = 8 by rw [hl3, List.length_append, HL2.out, h3l])
        have hl3l : l3.length ≤ 8 := by rw [HL3.out]; exact Nat.le_refl _
        rw [← hl3] at HX8 HY2
        have hs8 : W.heap.size ≤ w8.heap.size := B8.out.size
        have hz5 := (six (blk_below hA1.out B8.out)).2.2.2.2.2.1
        obtain ⟨A8, c8, rfl, _, _⟩ := HX8.slice_
        have HM := App.ints 3 w8 w8.heap.size (Nat.le_refl _) [(b.recs.length : Int), 0, 0] (by simp)
        have hrM := (AppP.row_of HM).2.2.2
        have bM := bal w8 (.cells #[.int .i64 (b.recs.length : Int), .int .i64 0, .int .i64 0] 3)
        have HX8h := Lib.hid (AppP.below HX8 bM)
        have B8h := Lib.hid (bthen B8.out bM)
        have hs8h : W.heap.size ≤ (w8.alloc (.cells #[.int .i64 (b.recs.length : Int), .int .i64 0, .int .i64 0] 3)).heap.size := B8h.out.size
        clear hc8 HX7 hr7 B7 hl3 HM bM HX8
        go_wp2_with (at_builtin; go_loud (refine wpList_appF (Kind.int .i64) (ys := [(b.recs.length : Int), 0, 0]) HX8h.out rfl _ _ 30 (.int .i64 0) 8 rfl Tryz.underlying30 (by kernel_rfl) rfl (bnd_int .i64) (onec_int .i64) (flat_int .i64) rfl rfl rfl hrM (fun x hx => by omega) (by simp; omega) (by simp; omega) ?_))
        intro v9 w9 HX9 hc9 _
        have B9 := Lib.hid (B8h.out.trans (hc9.below hs8h (fun x hx => AppP.ne HX8h.out hx)))
        obtain ⟨l4, hl4⟩ : ∃ l4, l4 = l3 ++ [(b.recs.length : Int), 0, 0] := ⟨_, rfl⟩
        have HL4 := Lib.hid (show l4.length = 11 by rw [hl4, List.length_append, HL3.out]; rfl)
        have hl4l : l4.length ≤ 11 := by rw [HL4.out]; exact Nat.le_refl _
        rw [← hl4] at HX9 HY2
        have hs9 : W.heap.size ≤ w9.heap.size := B9.out.size
        obtain ⟨A9, c9, rfl, _, _⟩ := HX9.slice_
        have hr9 := HR1.out.below B9.out
        clear hc9 HX8h hrM B8h hl4 hs8h
        go_wp2_with (at_builtin; go_loud (refine wpList_appF (Kind.int .i64) (ys := ys) HX9 rfl _ _ 30 (.int .i64 0) 8 rfl Tryz.underlying30 (by kernel_rfl) rfl (bnd_int .i64) (onec_int .i64) (flat_int .i64) rfl rfl rfl hr9 (fun x hx => by omega) (by omega) (by omega) ?_))
        intro v10 w10 HX10 hc10 _
        have B10 := Lib.hid (B9.out.trans (hc10.below hs9 (fun x hx => AppP.ne HX9 hx)))
        rw [← HY2.out] at HX10
        have hrl : b.rest.length = 11 + ys.length := by rw [HY2.out, List.length_append, HL4.out]
        obtain ⟨rs, hrs⟩ : ∃ rs, rs = b.rest := ⟨_, rfl⟩
        rw [← hrs] at HX10 HYR
        have hrsl : rs.length ≤ 407 := by rw [hrs, hrl]; omega
        have HRS := Lib.hid hrs
        obtain ⟨A10, c10, rfl, _, _⟩ := HX10.slice_
        obtain ⟨_, C0', e0', C1', e1', ea, _, _, _, p0, _⟩ := (h.below (bthen HWW.out B10.out)).rec_at hn0
        injection ea with ea
        subst ea
        rw [show adr.add (0 * 6) = adr from rfl] at p0
        rw [← HFF.out.1] at p0
        have hz5b := (six (blk_below hA1.out B10.out)).2.2.2.2.2.1
        have hr10 := (AppP.row_of HX10).2.2.2
        clear hc10 HX9 hr9 B9 hrl hrs hz5
        go_wp2_with fail
        refine (l2Int3_any b.first _ HBOq.out).mono ?_
        rintro e w11 ⟨v11, rfl, HV11, hb11⟩
        obtain ⟨A11, c11, rfl, _, _⟩ := HV11.slice_
        have B10h := B10
        have B11 := Lib.hid hb11
        have hr11 := hr10.below hb11
        clear hb11 B10 p0 hz5b
        go_wp2_with fail
        refine (l2Int2_any (rs.length : Int) _ ⟨by omega, by omega⟩).mono ?_
        rintro e w12 ⟨v12, rfl, HV12, hb12⟩
        obtain ⟨A12, c12, rfl, _, _⟩ := HV12.slice_
        have q12 := (AppP.row_of HV12).2.2.2
        have D12 := Lib.hid (bthen B11.out hb12)
        have HX12 := AppP.below HV11 hb12
        have hs12 : w10.heap.size ≤ w12.heap.size := D12.out.size
        have h30 : (intB3 b.first).length = 3 := rfl
        have h20 : (intB2 (rs.length : Int)).length = 2 := rfl
        clear HV12 hb12 HV11 hr11 B11
        go_wp2_with (at_builtin; go_loud (refine wpList_appF (Kind.int .i64) (ys := intB2 (rs.length : Int)) HX12 rfl _ _ 30 (.int .i64 0) 8 rfl Tryz.underlying30 (by kernel_rfl) rfl (bnd_int .i64) (onec_int .i64) (flat_int .i64) rfl rfl rfl q12 (fun x hx => by omega) (by omega) (by omega) ?_))
        intro v13 w13 HX13 hc13 _
        have D13 := Lib.hid (D12.out.trans (hc13.below hs12 (fun x hx => AppP.ne HX12 hx)))
        obtain ⟨l5, hl5⟩ : ∃ l5, l5 = intB3 b.first ++ intB2 (rs.length : Int) := ⟨_, rfl⟩
        have hl5l : l5.length ≤ 5 := by rw [hl5, List.length_append, h30, h20]; exact Nat.le_refl _
        rw [← hl5] at HX13
        have HL5 := Lib.hid hl5
        have hr13 := hr10.below D13.out
        obtain ⟨A13, c13, rfl, _, _⟩ := HX13.slice_
        clear hc13 HX12 q12 D12 hl5 hs12
        go_wp2_with fail
        refine (l2Sum_any rs A10 c10 _ _ hr13 (by omega) HYR.out).mono ?_
        rintro e w' ⟨rfl, rfl⟩
        have hsr := sumGo_range 1 rs (by omega)
        obtain ⟨u, hu⟩ : ∃ u, u = sumB rs := ⟨_, rfl⟩
        have hsr : 0 ≤ u ∧ u ≤ 65520 := by rw [hu]; exact hsr
        rw [← hu]
        have HU := Lib.hid hu
        clear hu
        go_wp2_with fail
        refine (l2Int2_any u _ ⟨hsr.1, by omega⟩).mono ?_
        rintro e w14 ⟨v14, rfl, HV14, hb14⟩
        obtain ⟨A14, c14, rfl, _, _⟩ := HV14.slice_
        have q14 := (AppP.row_of HV14).2.2.2
        have D14 := Lib.hid (bthen D13.out hb14)
        have HX14 := AppP.below HX13 hb14
        have hs14 : w10.heap.size ≤ w14.heap.size := D14.out.size
        have h2u : (intB2 u).length = 2 := rfl
        clear HV14 hb14 HX13 D13
        go_wp2_with (at_builtin; go_loud (refine wpList_appF (Kind.int .i64) (ys := intB2 u) HX14 rfl _ _ 30 (.int .i64 0) 8 rfl Tryz.underlying30 (by kernel_rfl) rfl (bnd_int .i64) (onec_int .i64) (flat_int .i64) rfl rfl rfl q14 (fun x hx => by omega) (by omega) (by omega) ?_))
        intro v15 w15 HX15 hc15 _
        have D15 := Lib.hid (D14.out.trans (hc15.below hs14 (fun x hx => AppP.ne HX14 hx)))
        obtain ⟨l6, hl6⟩ : ∃ l6, l6 = l5 ++ intB2 u := ⟨_, rfl⟩
        have hl6l : l6.length ≤ 7 := by rw [hl6, List.length_append, h2u]; omega
        rw [← hl6] at HX15
        have HL6 := Lib.hid hl6
        have hr15 := hr10.below D15.out
        have hs15 : w10.heap.size ≤ w15.heap.size := D15.out.size
        obtain ⟨A15, c15, rfl, _, _⟩ := HX15.slice_
        clear hc15 HX14 q14 D14 hl6
        go_wp2_with (at_builtin; go_loud (refine wpList_appF (Kind.int .i64) (ys := rs) HX15 rfl _ _ 30 (.int .i64 0) 8 rfl Tryz.underlying30 (by kernel_rfl) rfl (bnd_int .i64) (onec_int .i64) (flat_int .i64) rfl rfl rfl hr15 (fun x hx => by omega) (by omega) (by omega) ?_))
        intro v16 w16 HX16 hc16 _
        have D16 := D15.out.trans (hc16.below hs15 (fun x hx => AppP.ne HX15 hx))
        have hall : l6 ++ rs = batBytes b := by
          rw [HL6.out, HL5.out, HU.out, HRS.out]
          rfl
        rw [hall] at HX16
        have HFIN := Lib.hid (App.from HX16 (show w.heap.size ≤ w10.heap.size from Nat.le_trans HWW.out.size B10h.out.size))
        have BFIN := Lib.hid (bthen HWW.out (bthen B10h.out D16))
        clear HX16 hc16 HX15 hr15 D16 hall
        go_wp2
        go_ret
        exact ⟨_, rfl, HFIN.out, BFIN.out⟩
end Go.Proofs.YtomcjjehfocbmaaGreatDoor
