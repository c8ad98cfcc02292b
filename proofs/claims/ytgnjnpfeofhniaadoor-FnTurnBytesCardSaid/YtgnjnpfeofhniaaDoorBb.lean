/- A batch as bytes: the program. -/
import Derived.Test.YtgnjnpfeofhniaaDoorPb
import Derived.Test.YtgnjnpfeofhniaaDoorP9
import Derived.Test.YtgnjnpfeofhniaaDoorV9
import Derived.Test.YtgnjnpfeofhniaaDoorAx
namespace Go.Proofs.YtgnjnpfeofhniaaDoor
set_option linter.unusedVariables false
set_option linter.unusedSimpArgs false
open Go.RowKit

/-- Four rows in a literal. -/
theorem rows4 {w : World} {g : Nat} {T : TypeId} {F : Nat → Prop} {xs1 xs2 xs3 xs4 : List Int} {A1 A2 A3 A4 : Option Addr} {c1 c2 c3 c4 : Nat} (h : w.heap[g]? = some (.cells #[.slice A1 xs1.length c1, .slice A2 xs2.length c2, .slice A3 xs3.length c3, .slice A4 xs4.length c4] T (0, 0)))
    (h1 : Ints w F A1 c1 xs1) (h2 : Ints w F A2 c2 xs2) (h3 : Ints w F A3 c3 xs3) (h4 : Ints w F A4 c4 xs4) : (Kind.slice (Kind.int .i64)).Row w (fun _ => True) (some ⟨g, 0, none⟩) 4 [xs1, xs2, xs3, xs4] := by
  have hc : ∀ j u, ([Value.slice A1 xs1.length c1, .slice A2 xs2.length c2, .slice A3 xs3.length c3, .slice A4 xs4.length c4])[j]? = some u → w.cell? ⟨g, j, none⟩ = some u := cells_at (by simpa using h)
  have e : ∀ j, (⟨g, 0, none⟩ : Addr).add j = ⟨g, j, none⟩ := fun j => by unfold Addr.add; split <;> simp_all
  refine ⟨by simp, by omega, fun _ => ⟨_, rfl, trivial, fun j x hj => ?_⟩⟩
  have hF : ∀ b, F b → True := fun _ _ => trivial
  match j, hj with
  | 0, hj => simp at hj; subst hj; exact ⟨_, ⟨A1, c1, rfl, h1.mono hF⟩, fun i u hu => by
      match i, hu with
      | 0, hu => rw [e]; exact hc 0 u hu⟩
  | 1, hj => simp at hj; subst hj; exact ⟨_, ⟨A2, c2, rfl, h2.mono hF⟩, fun i u hu => by
      match i, hu with
      | 0, hu => rw [e]; exact hc 1 u hu⟩
  | 2, hj => simp at hj; subst hj; exact ⟨_, ⟨A3, c3, rfl, h3.mono hF⟩, fun i u hu => by
      match i, hu with
      | 0, hu => rw [e]; exact hc 2 u hu⟩
  | 3, hj => simp at hj; subst hj; exact ⟨_, ⟨A4, c4, rfl, h4.mono hF⟩, fun i u hu => by
      match i, hu with
      | 0, hu => rw [e]; exact hc 3 u hu⟩
set_option maxRecDepth 20000 in
set_option maxHeartbeats 2000000 in
theorem bytesOf_any (b : Bat) (A : Option Addr) (c : Nat) (F : Nat → Prop) (w : World) (h : Recs w F A c b.recs) (hv : batB b = true) :
    Calls Tryd.prog 20 #[.agg #[.bool b.packed, .bool b.mark, .int .i64 b.prod, .int .i64 b.epoch, .int .i64 b.seq, .slice A b.recs.length c]] w fun e w' => ∃ v, e = .returned v ∧ App (Kind.int .i64) 3 w' w.heap.size v (batBytes b) ∧ Below w.heap.size w w' := by
  have hl := h.1
  have hc := h.2.1
  obtain ⟨hhd, ⟨hn1, hn6⟩, hrec⟩ := batB_parts hv
  obtain ⟨ad, A0, c0, A0', c0', rfl, _, hk0, hv0, q0, q1, q2, q3, q4, q5⟩ := h.rec_at (show 0 < b.recs.length by omega)
  rw [show ad.add (0 * 6) = ad from rfl] at q0 q1 q2 q3 q4 q5
  obtain ⟨hbo, hbt⟩ := batB_base hv
  obtain ⟨hf0, hf1⟩ := first_getElem (b := b) (by omega)
  rw [← hf0] at q0
  rw [← hf1] at q1
  have HBO := Lib.hid hbo
  have HBT := Lib.hid hbt
  have HN1 := Lib.hid hn1
  have HN6 := Lib.hid hn6
  have hbx := bal w (.cells #[.bool b.packed, .bool b.mark, .int .i64 b.prod, .int .i64 b.epoch, .int .i64 b.seq, .slice (some ad) b.recs.length c] 28)
  replace q0 := below_cell hbx q0
  replace q1 := below_cell hbx q1
  replace q2 := below_cell hbx q2
  replace q3 := below_cell hbx q3
  replace q4 := below_cell hbx q4
  replace q5 := below_cell hbx q5
  clear hf0 hf1 hbo hbt hbx
  go_enter Tryd.func20, Tryd.ntmps20
  go_wp2_with fail
  generalize hW : World.alloc _ _ = W3
  obtain ⟨hA3, hB3, hC3, b3, hz3⟩ := alloc3 hW
  clear hW q0 q1 q2 q3 q4 q5 hk0 hv0
  obtain ⟨S, hS⟩ : ∃ S, S = w.heap.size + 1 + 1 := ⟨_, rfl⟩
  have hbd := h.bound bnd_rec
  have h3 := h.below b3
  have HSW := Lib.hid (show w.heap.size ≤ S by omega)
  have HSW1 := Lib.hid (show w.heap.size + 1 < S by omega)
  have HX3 : App (Kind.int .i64) 3 W3 S (.slice (some ⟨w.heap.size + 1 + 1, 0, none⟩) 0 0) [] := appP_lit hC3 (by omega)
  have HX3h := Lib.hid HX3
  have HS3 := Lib.hid (show S ≤ W3.heap.size by omega)
  clear HX3 hS hC3 hz3
  go_loopw [4, 17] (fun v i wr => ∃ k : Nat, k ≤ b.recs.length ∧ i = .int .i64 k ∧ App (Kind.int .i64) 3 wr S v (rowsB (b.recs.take k) b.first b.base) ∧ Hid (Below S W3 wr)) (fun _ i _ => b.recs.length - (intOf i).toNat)
  case atStart => exact ⟨0, Nat.zero_le _, rfl, HX3h.out, Lib.hid (Below.refl _ _)⟩
  case round =>
    obtain ⟨k, hk, rfl, HX, HB⟩ := hrel
    obtain ⟨wo, rfl⟩ : ∃ wo : World, wo = wr := ⟨_, rfl⟩
    clear HX3h
    have hW3S := HB.out.size
    have hSo : S ≤ wo.heap.size := Nat.le_trans HS3.out hW3S
    have hAo : wo.heap[w.heap.size]? = _ := (HB.out.block _ (Nat.lt_of_lt_of_le (Nat.lt_succ_self _) (Nat.le_trans (Nat.le_succ _) HSW1.out))).trans hA3
    have hBo : wo.heap[w.heap.size + 1]? = _ := (HB.out.block _ HSW1.out).trans hB3
    have hbo : Below w.heap.size w wo := b3.trans (HB.out.mono HSW.out)
    obtain ⟨Ao, co, rfl, _, _⟩ := HX.slice_
    by_cases hlt : k < b.recs.length
    · obtain ⟨ad', B0, d0, B1, d1, ea, _, hk1, hv1, q0, q1, q2, q3, q4, q5⟩ := (h.below hbo).rec_at hlt
      injection ea with ea
      subst ea
      have hrk := hrec _ (List.getElem_mem hlt)
      have HROW := Lib.hid (rowsB_take (o := b.first) (t := b.base) hlt)
      have hxl := rowsB_len (rs := b.recs.take k) (o := b.first) (t := b.base) (fun r hr => hrec r (List.mem_of_mem_take hr))
      rw [List.length_take] at hxl
      have hbl := recBytes_len33 (o := b.first) (t := b.base) hrk
      have hN6 := HN6.out
      have hxs : (rowsB (b.recs.take k) b.first b.base).length + 33 ≤ 231 := by omega
      obtain ⟨xs, hxx⟩ : ∃ xs, xs = rowsB (b.recs.take k) b.first b.base := ⟨_, rfl⟩
      obtain ⟨ys, hyy⟩ : ∃ ys, ys = recBytes b.recs[k] b.first b.base := ⟨_, rfl⟩
      rw [← hxx, ← hyy] at HROW
      rw [← hxx] at HX hxs
      rw [← hxx]
      rw [← hyy] at hbl
      have HYY := Lib.hid hyy
      have hbk := bal wo (.cells #[.int .i64 b.recs[k].off, .int .i64 b.recs[k].time, .bool b.recs[k].hk, .slice B0 b.recs[k].key.length d0, .bool b.recs[k].hv, .slice B1 b.recs[k].val.length d1] 46)
      have hz1 := below_cell hbk (six hBo).1
      have hz2 := below_cell hbk (six hBo).2.1
      have HXh := Lib.hid (AppP.below HX hbk)
      have hk2 := hk1.below hbk
      have hv2 := hv1.below hbk
      have HBk := Lib.hid (HB.out.trans (hbk.mono hSo))
      have HSo := Lib.hid hSo
      clear hxx hyy hxl hN6 HX hbk hk1 hv1 HB hAo hBo hbo hbd hSo hW3S
      go_wp2_with fail
      refine (bytesFor_any b.recs[k] B0 B1 d0 d1 _ b.first b.base _ hk2 hv2 hrk HBO.out HBT.out).mono ?_
      rintro e w4 ⟨v4, rfl, HV4, hb4⟩
      rw [← HYY.out] at HV4
      obtain ⟨A4, c4, rfl, _, _⟩ := HV4.slice_
      have hrow4 := (AppP.row_of HV4).2.2.2
      have HX4 := AppP.below HXh.out hb4
      have HB4 := Lib.hid (HBk.out.trans (hb4.mono (Nat.le_trans HSo.out (by simp))))
      have hSw4 : S ≤ w4.heap.size := Nat.le_trans HSo.out (Nat.le_trans (by simp) hb4.size)
      clear HV4 hb4 HXh HBk hk2 hv2 hz1 hz2 q0 q1 q2 q3 q4 q5
      go_wp2_with (at_builtin; go_loud (refine wpList_appF (Kind.int .i64) HX4 rfl _ _ 32 (.int .i64 0) 8 rfl Tryd.underlying32 (by kernel_rfl) rfl (bnd_int .i64) (onec_int .i64) (flat_int .i64) rfl rfl rfl hrow4 (fun x hx => by omega) (by omega) (by omega) ?_))
      intro v5 w5 HX5 hc5 _
      rw [← HROW.out] at HX5
      have HB5 := Lib.hid (HB4.out.trans (hc5.below hSw4 (fun x hx => AppP.ne HX4 hx)))
      clear hc5 HX4 hrow4
      go_wp2
      go_roundw
      case rel => exact ⟨k + 1, by omega, by go_num, HX5, HB5⟩
      case measure => simp [intOf]; omega
    · have hkn : k = b.recs.length := by omega
      have hrows : rowsB (b.recs.take k) b.first b.base = b.rows := by rw [hkn, List.take_length]; rfl
      rw [hrows] at HX
      rw [hrows]
      have hrl := rows_len hv
      have hrb := rows_bytes hv
      obtain ⟨xs, hxx⟩ : ∃ xs, xs = b.rows := ⟨_, rfl⟩
      rw [← hxx] at HX hrl hrb
      rw [← hxx]
      have HXX := Lib.hid hxx
      obtain ⟨z0, z1, z2, z3, z4, z5, zf⟩ := six hAo
      obtain ⟨y0, y1, y2, y3, y4, y5, yf⟩ := six hBo
      clear hkn hrows hxx

      cases hpk : b.packed
      · rw [hpk] at z0
        have HY := Lib.hid (show b.body = xs by unfold Bat.body; rw [hpk, HXX.out]; rfl)
        obtain ⟨W, hWW⟩ : ∃ W : World, W = wo := ⟨_, rfl⟩
        subst hWW
        have hr := (AppP.row_of HX).2.2.2
        have HWW := Lib.hid hbo
        obtain ⟨ys, hys⟩ : ∃ ys, ys = xs := ⟨_, rfl⟩
        rw [← hys] at hr HY
        have hyl : ys.length ≤ 396 := by rw [hys]; omega
        have hA := hAo
        have hB := hBo
        rw [← hys]
        clear hys HX HB hAo hBo hbd hSo hW3S hrb hrl
        have hAW := six hA
        obtain ⟨z0, z1, _⟩ := hAW
        cases hmk : b.mark
        · rw [hmk] at z1
          obtain ⟨T, hT⟩ : ∃ T, T = W.heap.size := ⟨_, rfl⟩
          have HFL := Lib.hid (show b.flags = 0 by unfold Bat.flags; rw [hpk, hmk]; rfl)
          have HY2 := Lib.hid (show b.rest = [(0 : Int), b.prod, b.epoch] ++ intB2 b.seq ++ intB3 b.base ++ [(b.recs.length : Int), 0, 0] ++ ys by unfold Bat.rest; rw [HFL.out, HY.out])
          have HYR := Lib.hid (rest_bytes hv)
          have HSQ := Lib.hid (show 0 ≤ b.seq ∧ b.seq ≤ 16777215 by have := (headB_range hhd).2.2; omega)
          have HBTq := Lib.hid (show 0 ≤ b.base ∧ b.base ≤ 16777215 by have := HBT.out; omega)
          have HBOq := Lib.hid (show 0 ≤ b.first ∧ b.first ≤ 16777215 by have := HBO.out; omega)
          have HI := App.ints 3 W W.heap.size (Nat.le_refl _) [(0 : Int), b.prod, b.epoch] (by simp)
          obtain ⟨l1, hl1⟩ : ∃ l1, l1 = [(0 : Int), b.prod, b.epoch] := ⟨_, rfl⟩
          have HL1 := Lib.hid (show l1.length = 3 by rw [hl1]; rfl)
          have hl1l : l1.length ≤ 3 := by rw [HL1.out]; exact Nat.le_refl _
          have bI := bal W (.cells #[.int .i64 0, .int .i64 b.prod, .int .i64 b.epoch] 3)
          have HI1 : App (Kind.int .i64) 3 (W.alloc (.cells #[.int .i64 0, .int .i64 b.prod, .int .i64 b.epoch] 3)) W.heap.size (.slice (some ⟨W.heap.size, 0, none⟩) 3 3) l1 := by rw [hl1]; exact HI
          have hz4 := below_cell bI (six hA).2.2.2.2.1
          rw [← hl1] at HY2
          have HI1h := Lib.hid HI1
          have hA1 := Lib.hid hA
          have hB1 := Lib.hid hB
          have HR1 := Lib.hid hr
          have bI1 := Lib.hid bI
          clear HI HI1 hl1 bI
          go_wp2_with fail
          refine (intOf2_any b.seq _ HSQ.out).mono ?_
          rintro e w5 ⟨v5, rfl, HV5, hb5⟩
          obtain ⟨A5, c5, rfl, _, _⟩ := HV5.slice_
          have hr5 := (AppP.row_of HV5).2.2.2
          have HX5 := AppP.below HI1h.out hb5
          have B5 := Lib.hid (bthen bI1.out hb5)
          have hs5 : W.heap.size ≤ w5.heap.size := B5.out.size
          have h2l : (intB2 b.seq).length = 2 := rfl
          have h3l : (intB3 b.base).length = 3 := rfl
          clear HV5 hb5 HI1h bI1 hz4
          go_wp2_with (at_builtin; go_loud (refine wpList_appF (Kind.int .i64) (ys := intB2 b.seq) HX5 rfl _ _ 32 (.int .i64 0) 8 rfl Tryd.underlying32 (by kernel_rfl) rfl (bnd_int .i64) (onec_int .i64) (flat_int .i64) rfl rfl rfl hr5 (fun x hx => by omega) (by omega) (by omega) ?_))
          intro v6 w6 HX6 hc6 _
          have B6 := Lib.hid (B5.out.trans (hc6.below hs5 (fun x hx => AppP.ne HX5 hx)))
          obtain ⟨l2, hl2⟩ : ∃ l2, l2 = l1 ++ intB2 b.seq := ⟨_, rfl⟩
          have HL2 := Lib.hid (show l2.length = 5 by rw [hl2, List.length_append, HL1.out, h2l])
          have hl2l : l2.length ≤ 5 := by rw [HL2.out]; exact Nat.le_refl _
          rw [← hl2] at HX6 HY2
          have hs6 : W.heap.size ≤ w6.heap.size := B6.out.size
          have hz1 := below_cell B6.out (six hB1.out).2.1
          obtain ⟨A6, c6, rfl, _, _⟩ := HX6.slice_
          clear hc6 HX5 hr5 B5 hl2
          go_wp2_with fail
          refine (intOf3_any b.base _ HBTq.out).mono ?_
          rintro e w7 ⟨v7, rfl, HV7, hb7⟩
          obtain ⟨A7, c7, rfl, _, _⟩ := HV7.slice_
          have hr7 := (AppP.row_of HV7).2.2.2
          have HX7 := AppP.below HX6 hb7
          have B7 := Lib.hid (bthen B6.out hb7)
          have hs7 : W.heap.size ≤ w7.heap.size := B7.out.size
          clear HV7 hb7 HX6 B6 hz1
          go_wp2_with (at_builtin; go_loud (refine wpList_appF (Kind.int .i64) (ys := intB3 b.base) HX7 rfl _ _ 32 (.int .i64 0) 8 rfl Tryd.underlying32 (by kernel_rfl) rfl (bnd_int .i64) (onec_int .i64) (flat_int .i64) rfl rfl rfl hr7 (fun x hx => by omega) (by omega) (by omega) ?_))
          intro v8 w8 HX8 hc8 _
          have B8 := Lib.hid (B7.out.trans (hc8.below hs7 (fun x hx => AppP.ne HX7 hx)))
          obtain ⟨l3, hl3⟩ : ∃ l3, l3 = l2 ++ intB3 b.base := ⟨_, rfl⟩
          have HL3 := Lib.hid (show l3.length = 8 by rw [hl3, List.length_append, HL2.out, h3l])
          have hl3l : l3.length ≤ 8 := by rw [HL3.out]; exact Nat.le_refl _
          rw [← hl3] at HX8 HY2
          have hs8 : W.heap.size ≤ w8.heap.size := B8.out.size
          have hz5 := below_cell B8.out (six hA1.out).2.2.2.2.2.1
          obtain ⟨A8, c8, rfl, _, _⟩ := HX8.slice_
          have HM := App.ints 3 w8 w8.heap.size (Nat.le_refl _) [(b.recs.length : Int), 0, 0] (by simp)
          have hrM := (AppP.row_of HM).2.2.2
          have bM := bal w8 (.cells #[.int .i64 (b.recs.length : Int), .int .i64 0, .int .i64 0] 3)
          have HX8h := Lib.hid (AppP.below HX8 bM)
          have B8h := Lib.hid (bthen B8.out bM)
          have hs8h : W.heap.size ≤ (w8.alloc (.cells #[.int .i64 (b.recs.length : Int), .int .i64 0, .int .i64 0] 3)).heap.size := B8h.out.size
          clear hc8 HX7 hr7 B7 hl3 HM bM HX8
          go_wp2_with (at_builtin; go_loud (refine wpList_appF (Kind.int .i64) (ys := [(b.recs.length : Int), 0, 0]) HX8h.out rfl _ _ 32 (.int .i64 0) 8 rfl Tryd.underlying32 (by kernel_rfl) rfl (bnd_int .i64) (onec_int .i64) (flat_int .i64) rfl rfl rfl hrM (fun x hx => by omega) (by simp; omega) (by simp; omega) ?_))
          intro v9 w9 HX9 hc9 _
          have B9 := Lib.hid (B8h.out.trans (hc9.below hs8h (fun x hx => AppP.ne HX8h.out hx)))
          obtain ⟨l4, hl4⟩ : ∃ l4, l4 = l3 ++ [(b.recs.length : Int), 0, 0] := ⟨_, rfl⟩
          have HL4 := Lib.hid (show l4.length = 11 by rw [hl4, List.length_append, HL3.out]; rfl)
          have hl4l : l4.length ≤ 11 := by rw [HL4.out]; exact Nat.le_refl _
          rw [← hl4] at HX9 HY2
          have hs9 : W.heap.size ≤ w9.heap.size := B9.out.size
          obtain ⟨A9, c9, rfl, _, _⟩ := HX9.slice_
          have hr9 := HR1.out.below B9.out
          clear hc9 HX8h hrM B8h hl4 hs8h
          go_wp2_with (at_builtin; go_loud (refine wpList_appF (Kind.int .i64) (ys := ys) HX9 rfl _ _ 32 (.int .i64 0) 8 rfl Tryd.underlying32 (by kernel_rfl) rfl (bnd_int .i64) (onec_int .i64) (flat_int .i64) rfl rfl rfl hr9 (fun x hx => by omega) (by omega) (by omega) ?_))
          intro v10 w10 HX10 hc10 _
          have B10 := Lib.hid (B9.out.trans (hc10.below hs9 (fun x hx => AppP.ne HX9 hx)))
          rw [← HY2.out] at HX10
          have hrl : b.rest.length = 11 + ys.length := by rw [HY2.out, List.length_append, HL4.out]
          have HRL := Lib.hid hrl
          have hs10 : W.heap.size ≤ w10.heap.size := B10.out.size
          obtain ⟨rs, hrs⟩ : ∃ rs, rs = b.rest := ⟨_, rfl⟩
          rw [← hrs] at HX10 HYR
          have hrsl : rs.length ≤ 407 := by rw [hrs, hrl]; omega
          have HRS := Lib.hid hrs
          obtain ⟨A10, c10, rfl, _, _⟩ := HX10.slice_
          have hz0 := below_cell B10.out (six hB1.out).1
          have hr10 := (AppP.row_of HX10).2.2.2
          clear hc10 HX9 hr9 B9 hrl hrs
          go_wp2_with fail
          refine (intOf3_any b.first _ HBOq.out).mono ?_
          rintro e w11 ⟨v11, rfl, HV11, hb11⟩
          obtain ⟨A11, c11, rfl, _, _⟩ := HV11.slice_
          have q11 := (AppP.row_of HV11).2.2.2
          have B11 := Lib.hid (bthen B10.out hb11)
          have hr11 := hr10.below hb11
          clear HV11 hb11 B10 hz0
          go_wp2_with fail
          refine (intOf2_any (rs.length : Int) _ ⟨by omega, by omega⟩).mono ?_
          rintro e w12 ⟨v12, rfl, HV12, hb12⟩
          obtain ⟨A12, c12, rfl, _, _⟩ := HV12.slice_
          have q12 := (AppP.row_of HV12).2.2.2
          have B12 := Lib.hid (bthen B11.out hb12)
          have hr12 := hr11.below hb12
          have q11 := q11.below hb12
          clear HV12 hb12 B11
          go_wp2_with fail
          refine (over_any 1 rs A10 c10 _ _ hr12 (by omega) HYR.out (by omega)).mono ?_
          rintro e w' ⟨rfl, rfl⟩
          have hsr := sumGo_range 1 rs (by omega)
          obtain ⟨u, hu⟩ : ∃ u, u = sumGo 1 rs := ⟨_, rfl⟩
          rw [← hu] at hsr
          rw [← hu]
          have HU := Lib.hid (show u = sumB rs from hu)
          clear hu
          go_wp2_with fail
          refine (intOf2_any u _ ⟨hsr.1, by omega⟩).mono ?_
          rintro e w13 ⟨v13, rfl, HV13, hb13⟩
          obtain ⟨A13, c13, rfl, _, _⟩ := HV13.slice_
          have q13 := (AppP.row_of HV13).2.2.2
          have B13 := Lib.hid (bthen B12.out hb13)
          have hr13 := hr12.below hb13
          have q11 := q11.below hb13
          have q12 := q12.below hb13
          clear HV13 hb13 B12
          go_wp2_with fail
          generalize hW14 : World.alloc _ _ = W14
          obtain ⟨hC14, b14, _⟩ := alloc1 hW14
          clear hW14
          have hrow4 := rows4 hC14 ((q11.below b14).mono (F' := fun _ => True) (fun _ _ => trivial)) ((q12.below b14).mono (F' := fun _ => True) (fun _ _ => trivial)) ((q13.below b14).mono (F' := fun _ => True) (fun _ _ => trivial)) ((hr13.below b14).mono (F' := fun _ => True) (fun _ _ => trivial))
          have hfl : ([intB3 b.first, intB2 (rs.length : Int), intB2 u, rs].flatten) = batBytes b := by
            rw [HU.out, HRS.out]
            unfold batBytes
            simp
          have HFLAT := Lib.hid hfl
          have hfn : ([intB3 b.first, intB2 (rs.length : Int), intB2 u, rs].flatten).length = 7 + rs.length := by simp [intB3, intB2]; omega
          have BW := Lib.hid (bthen HWW.out (bthen B13.out b14))
          obtain ⟨xss, hxss⟩ : ∃ xss, xss = [intB3 b.first, intB2 (rs.length : Int), intB2 u, rs] := ⟨_, rfl⟩
          rw [← hxss] at hrow4 HFLAT hfn
          have hx4 : xss.length = 4 := by rw [hxss]; rfl
          have HCC := Concat_any xss _ _ _ W14 hrow4 (by omega) (by omega) (by omega)
          rw [hx4] at HCC
          have HCC := Lib.hid HCC
          clear hfl hxss hrow4 hx4 hfn
          refine HCC.out.mono ?_
          rintro e w15 ⟨v15, rfl, HV15, hb15⟩
          rw [HFLAT.out] at HV15
          have HFIN := Lib.hid (App.from HV15 BW.out.size)
          have BFIN := Lib.hid (bthen BW.out hb15)
          clear HV15 hb15
          go_wp2
          go_ret
          exact ⟨_, rfl, HFIN.out, BFIN.out⟩
        · rw [hmk] at z1
          obtain ⟨T, hT⟩ : ∃ T, T = W.heap.size := ⟨_, rfl⟩
          have HFL := Lib.hid (show b.flags = 2 by unfold Bat.flags; rw [hpk, hmk]; rfl)
          have HY2 := Lib.hid (show b.rest = [(2 : Int), b.prod, b.epoch] ++ intB2 b.seq ++ intB3 b.base ++ [(b.recs.length : Int), 0, 0] ++ ys by unfold Bat.rest; rw [HFL.out, HY.out])
          have HYR := Lib.hid (rest_bytes hv)
          have HSQ := Lib.hid (show 0 ≤ b.seq ∧ b.seq ≤ 16777215 by have := (headB_range hhd).2.2; omega)
          have HBTq := Lib.hid (show 0 ≤ b.base ∧ b.base ≤ 16777215 by have := HBT.out; omega)
          have HBOq := Lib.hid (show 0 ≤ b.first ∧ b.first ≤ 16777215 by have := HBO.out; omega)
          have HI := App.ints 3 W W.heap.size (Nat.le_refl _) [(2 : Int), b.prod, b.epoch] (by simp)
          obtain ⟨l1, hl1⟩ : ∃ l1, l1 = [(2 : Int), b.prod, b.epoch] := ⟨_, rfl⟩
          have HL1 := Lib.hid (show l1.length = 3 by rw [hl1]; rfl)
          have hl1l : l1.length ≤ 3 := by rw [HL1.out]; exact Nat.le_refl _
          have bI := bal W (.cells #[.int .i64 2, .int .i64 b.prod, .int .i64 b.epoch] 3)
          have HI1 : App (Kind.int .i64) 3 (W.alloc (.cells #[.int .i64 2, .int .i64 b.prod, .int .i64 b.epoch] 3)) W.heap.size (.slice (some ⟨W.heap.size, 0, none⟩) 3 3) l1 := by rw [hl1]; exact HI
          have hz4 := below_cell bI (six hA).2.2.2.2.1
          rw [← hl1] at HY2
          have HI1h := Lib.hid HI1
          have hA1 := Lib.hid hA
          have hB1 := Lib.hid hB
          have HR1 := Lib.hid hr
          have bI1 := Lib.hid bI
          clear HI HI1 hl1 bI
          go_wp2_with fail
          refine (intOf2_any b.seq _ HSQ.out).mono ?_
          rintro e w5 ⟨v5, rfl, HV5, hb5⟩
          obtain ⟨A5, c5, rfl, _, _⟩ := HV5.slice_
          have hr5 := (AppP.row_of HV5).2.2.2
          have HX5 := AppP.below HI1h.out hb5
          have B5 := Lib.hid (bthen bI1.out hb5)
          have hs5 : W.heap.size ≤ w5.heap.size := B5.out.size
          have h2l : (intB2 b.seq).length = 2 := rfl
          have h3l : (intB3 b.base).length = 3 := rfl
          clear HV5 hb5 HI1h bI1 hz4
          go_wp2_with (at_builtin; go_loud (refine wpList_appF (Kind.int .i64) (ys := intB2 b.seq) HX5 rfl _ _ 32 (.int .i64 0) 8 rfl Tryd.underlying32 (by kernel_rfl) rfl (bnd_int .i64) (onec_int .i64) (flat_int .i64) rfl rfl rfl hr5 (fun x hx => by omega) (by omega) (by omega) ?_))
          intro v6 w6 HX6 hc6 _
          have B6 := Lib.hid (B5.out.trans (hc6.below hs5 (fun x hx => AppP.ne HX5 hx)))
          obtain ⟨l2, hl2⟩ : ∃ l2, l2 = l1 ++ intB2 b.seq := ⟨_, rfl⟩
          have HL2 := Lib.hid (show l2.length = 5 by rw [hl2, List.length_append, HL1.out, h2l])
          have hl2l : l2.length ≤ 5 := by rw [HL2.out]; exact Nat.le_refl _
          rw [← hl2] at HX6 HY2
          have hs6 : W.heap.size ≤ w6.heap.size := B6.out.size
          have hz1 := below_cell B6.out (six hB1.out).2.1
          obtain ⟨A6, c6, rfl, _, _⟩ := HX6.slice_
          clear hc6 HX5 hr5 B5 hl2
          go_wp2_with fail
          refine (intOf3_any b.base _ HBTq.out).mono ?_
          rintro e w7 ⟨v7, rfl, HV7, hb7⟩
          obtain ⟨A7, c7, rfl, _, _⟩ := HV7.slice_
          have hr7 := (AppP.row_of HV7).2.2.2
          have HX7 := AppP.below HX6 hb7
          have B7 := Lib.hid (bthen B6.out hb7)
          have hs7 : W.heap.size ≤ w7.heap.size := B7.out.size
          clear HV7 hb7 HX6 B6 hz1
          go_wp2_with (at_builtin; go_loud (refine wpList_appF (Kind.int .i64) (ys := intB3 b.base) HX7 rfl _ _ 32 (.int .i64 0) 8 rfl Tryd.underlying32 (by kernel_rfl) rfl (bnd_int .i64) (onec_int .i64) (flat_int .i64) rfl rfl rfl hr7 (fun x hx => by omega) (by omega) (by omega) ?_))
          intro v8 w8 HX8 hc8 _
          have B8 := Lib.hid (B7.out.trans (hc8.below hs7 (fun x hx => AppP.ne HX7 hx)))
          obtain ⟨l3, hl3⟩ : ∃ l3, l3 = l2 ++ intB3 b.base := ⟨_, rfl⟩
          have HL3 := Lib.hid (show l3.length = 8 by rw [hl3, List.length_append, HL2.out, h3l])
          have hl3l : l3.length ≤ 8 := by rw [HL3.out]; exact Nat.le_refl _
          rw [← hl3] at HX8 HY2
          have hs8 : W.heap.size ≤ w8.heap.size := B8.out.size
          have hz5 := below_cell B8.out (six hA1.out).2.2.2.2.2.1
          obtain ⟨A8, c8, rfl, _, _⟩ := HX8.slice_
          have HM := App.ints 3 w8 w8.heap.size (Nat.le_refl _) [(b.recs.length : Int), 0, 0] (by simp)
          have hrM := (AppP.row_of HM).2.2.2
          have bM := bal w8 (.cells #[.int .i64 (b.recs.length : Int), .int .i64 0, .int .i64 0] 3)
          have HX8h := Lib.hid (AppP.below HX8 bM)
          have B8h := Lib.hid (bthen B8.out bM)
          have hs8h : W.heap.size ≤ (w8.alloc (.cells #[.int .i64 (b.recs.length : Int), .int .i64 0, .int .i64 0] 3)).heap.size := B8h.out.size
          clear hc8 HX7 hr7 B7 hl3 HM bM HX8
          go_wp2_with (at_builtin; go_loud (refine wpList_appF (Kind.int .i64) (ys := [(b.recs.length : Int), 0, 0]) HX8h.out rfl _ _ 32 (.int .i64 0) 8 rfl Tryd.underlying32 (by kernel_rfl) rfl (bnd_int .i64) (onec_int .i64) (flat_int .i64) rfl rfl rfl hrM (fun x hx => by omega) (by simp; omega) (by simp; omega) ?_))
          intro v9 w9 HX9 hc9 _
          have B9 := Lib.hid (B8h.out.trans (hc9.below hs8h (fun x hx => AppP.ne HX8h.out hx)))
          obtain ⟨l4, hl4⟩ : ∃ l4, l4 = l3 ++ [(b.recs.length : Int), 0, 0] := ⟨_, rfl⟩
          have HL4 := Lib.hid (show l4.length = 11 by rw [hl4, List.length_append, HL3.out]; rfl)
          have hl4l : l4.length ≤ 11 := by rw [HL4.out]; exact Nat.le_refl _
          rw [← hl4] at HX9 HY2
          have hs9 : W.heap.size ≤ w9.heap.size := B9.out.size
          obtain ⟨A9, c9, rfl, _, _⟩ := HX9.slice_
          have hr9 := HR1.out.below B9.out
          clear hc9 HX8h hrM B8h hl4 hs8h
          go_wp2_with (at_builtin; go_loud (refine wpList_appF (Kind.int .i64) (ys := ys) HX9 rfl _ _ 32 (.int .i64 0) 8 rfl Tryd.underlying32 (by kernel_rfl) rfl (bnd_int .i64) (onec_int .i64) (flat_int .i64) rfl rfl rfl hr9 (fun x hx => by omega) (by omega) (by omega) ?_))
          intro v10 w10 HX10 hc10 _
          have B10 := Lib.hid (B9.out.trans (hc10.below hs9 (fun x hx => AppP.ne HX9 hx)))
          rw [← HY2.out] at HX10
          have hrl : b.rest.length = 11 + ys.length := by rw [HY2.out, List.length_append, HL4.out]
          have HRL := Lib.hid hrl
          have hs10 : W.heap.size ≤ w10.heap.size := B10.out.size
          obtain ⟨rs, hrs⟩ : ∃ rs, rs = b.rest := ⟨_, rfl⟩
          rw [← hrs] at HX10 HYR
          have hrsl : rs.length ≤ 407 := by rw [hrs, hrl]; omega
          have HRS := Lib.hid hrs
          obtain ⟨A10, c10, rfl, _, _⟩ := HX10.slice_
          have hz0 := below_cell B10.out (six hB1.out).1
          have hr10 := (AppP.row_of HX10).2.2.2
          clear hc10 HX9 hr9 B9 hrl hrs
          go_wp2_with fail
          refine (intOf3_any b.first _ HBOq.out).mono ?_
          rintro e w11 ⟨v11, rfl, HV11, hb11⟩
          obtain ⟨A11, c11, rfl, _, _⟩ := HV11.slice_
          have q11 := (AppP.row_of HV11).2.2.2
          have B11 := Lib.hid (bthen B10.out hb11)
          have hr11 := hr10.below hb11
          clear HV11 hb11 B10 hz0
          go_wp2_with fail
          refine (intOf2_any (rs.length : Int) _ ⟨by omega, by omega⟩).mono ?_
          rintro e w12 ⟨v12, rfl, HV12, hb12⟩
          obtain ⟨A12, c12, rfl, _, _⟩ := HV12.slice_
          have q12 := (AppP.row_of HV12).2.2.2
          have B12 := Lib.hid (bthen B11.out hb12)
          have hr12 := hr11.below hb12
          have q11 := q11.below hb12
          clear HV12 hb12 B11
          go_wp2_with fail
          refine (over_any 1 rs A10 c10 _ _ hr12 (by omega) HYR.out (by omega)).mono ?_
          rintro e w' ⟨rfl, rfl⟩
          have hsr := sumGo_range 1 rs (by omega)
          obtain ⟨u, hu⟩ : ∃ u, u = sumGo 1 rs := ⟨_, rfl⟩
          rw [← hu] at hsr
          rw [← hu]
          have HU := Lib.hid (show u = sumB rs from hu)
          clear hu
          go_wp2_with fail
          refine (intOf2_any u _ ⟨hsr.1, by omega⟩).mono ?_
          rintro e w13 ⟨v13, rfl, HV13, hb13⟩
          obtain ⟨A13, c13, rfl, _, _⟩ := HV13.slice_
          have q13 := (AppP.row_of HV13).2.2.2
          have B13 := Lib.hid (bthen B12.out hb13)
          have hr13 := hr12.below hb13
          have q11 := q11.below hb13
          have q12 := q12.below hb13
          clear HV13 hb13 B12
          go_wp2_with fail
          generalize hW14 : World.alloc _ _ = W14
          obtain ⟨hC14, b14, _⟩ := alloc1 hW14
          clear hW14
          have hrow4 := rows4 hC14 ((q11.below b14).mono (F' := fun _ => True) (fun _ _ => trivial)) ((q12.below b14).mono (F' := fun _ => True) (fun _ _ => trivial)) ((q13.below b14).mono (F' := fun _ => True) (fun _ _ => trivial)) ((hr13.below b14).mono (F' := fun _ => True) (fun _ _ => trivial))
          have hfl : ([intB3 b.first, intB2 (rs.length : Int), intB2 u, rs].flatten) = batBytes b := by
            rw [HU.out, HRS.out]
            unfold batBytes
            simp
          have HFLAT := Lib.hid hfl
          have hfn : ([intB3 b.first, intB2 (rs.length : Int), intB2 u, rs].flatten).length = 7 + rs.length := by simp [intB3, intB2]; omega
          have BW := Lib.hid (bthen HWW.out (bthen B13.out b14))
          obtain ⟨xss, hxss⟩ : ∃ xss, xss = [intB3 b.first, intB2 (rs.length : Int), intB2 u, rs] := ⟨_, rfl⟩
          rw [← hxss] at hrow4 HFLAT hfn
          have hx4 : xss.length = 4 := by rw [hxss]; rfl
          have HCC := Concat_any xss _ _ _ W14 hrow4 (by omega) (by omega) (by omega)
          rw [hx4] at HCC
          have HCC := Lib.hid HCC
          clear hfl hxss hrow4 hx4 hfn
          refine HCC.out.mono ?_
          rintro e w15 ⟨v15, rfl, HV15, hb15⟩
          rw [HFLAT.out] at HV15
          have HFIN := Lib.hid (App.from HV15 BW.out.size)
          have BFIN := Lib.hid (bthen BW.out hb15)
          clear HV15 hb15
          go_wp2
          go_ret
          exact ⟨_, rfl, HFIN.out, BFIN.out⟩

      · rw [hpk] at z0
        have HY := Lib.hid (show b.body = packOf xs by unfold Bat.body; rw [hpk, HXX.out]; rfl)
        have hr0 := (AppP.row_of HX).2.2.2
        go_wp2_with fail
        refine (pack_any xs Ao co _ wo hr0 (by omega) hrb).mono ?_
        rintro e W ⟨vp, rfl, HVp, hbp⟩
        obtain ⟨Ar, cr, rfl, _, _⟩ := HVp.slice_
        have hr := (AppP.row_of HVp).2.2.2
        have HWW := Lib.hid (bthen hbo hbp)
        have hyl0 := packOf_len xs
        obtain ⟨ys, hys⟩ : ∃ ys, ys = packOf xs := ⟨_, rfl⟩
        rw [← hys] at hr HY hyl0
        have hyl : ys.length ≤ 396 := by omega
        have hA := blk_below hAo hbp
        have hB := blk_below hBo hbp
        rw [← hys]
        clear hys HX HB hAo hBo hbd hSo hW3S hrb hrl hyl0 hr0 HVp hbp z0 z1 z2 z3 z4 z5 zf y0 y1 y2 y3 y4 y5 yf
        have hAW := six hA
        obtain ⟨z0, z1, _⟩ := hAW
        cases hmk : b.mark
        · rw [hmk] at z1
          obtain ⟨T, hT⟩ : ∃ T, T = W.heap.size := ⟨_, rfl⟩
          have HFL := Lib.hid (show b.flags = 1 by unfold Bat.flags; rw [hpk, hmk]; rfl)
          have HY2 := Lib.hid (show b.rest = [(1 : Int), b.prod, b.epoch] ++ intB2 b.seq ++ intB3 b.base ++ [(b.recs.length : Int), 0, 0] ++ ys by unfold Bat.rest; rw [HFL.out, HY.out])
          have HYR := Lib.hid (rest_bytes hv)
          have HSQ := Lib.hid (show 0 ≤ b.seq ∧ b.seq ≤ 16777215 by have := (headB_range hhd).2.2; omega)
          have HBTq := Lib.hid (show 0 ≤ b.base ∧ b.base ≤ 16777215 by have := HBT.out; omega)
          have HBOq := Lib.hid (show 0 ≤ b.first ∧ b.first ≤ 16777215 by have := HBO.out; omega)
          have HI := App.ints 3 W W.heap.size (Nat.le_refl _) [(1 : Int), b.prod, b.epoch] (by simp)
          obtain ⟨l1, hl1⟩ : ∃ l1, l1 = [(1 : Int), b.prod, b.epoch] := ⟨_, rfl⟩
          have HL1 := Lib.hid (show l1.length = 3 by rw [hl1]; rfl)
          have hl1l : l1.length ≤ 3 := by rw [HL1.out]; exact Nat.le_refl _
          have bI := bal W (.cells #[.int .i64 1, .int .i64 b.prod, .int .i64 b.epoch] 3)
          have HI1 : App (Kind.int .i64) 3 (W.alloc (.cells #[.int .i64 1, .int .i64 b.prod, .int .i64 b.epoch] 3)) W.heap.size (.slice (some ⟨W.heap.size, 0, none⟩) 3 3) l1 := by rw [hl1]; exact HI
          have hz4 := below_cell bI (six hA).2.2.2.2.1
          rw [← hl1] at HY2
          have HI1h := Lib.hid HI1
          have hA1 := Lib.hid hA
          have hB1 := Lib.hid hB
          have HR1 := Lib.hid hr
          have bI1 := Lib.hid bI
          clear HI HI1 hl1 bI
          go_wp2_with fail
          refine (intOf2_any b.seq _ HSQ.out).mono ?_
          rintro e w5 ⟨v5, rfl, HV5, hb5⟩
          obtain ⟨A5, c5, rfl, _, _⟩ := HV5.slice_
          have hr5 := (AppP.row_of HV5).2.2.2
          have HX5 := AppP.below HI1h.out hb5
          have B5 := Lib.hid (bthen bI1.out hb5)
          have hs5 : W.heap.size ≤ w5.heap.size := B5.out.size
          have h2l : (intB2 b.seq).length = 2 := rfl
          have h3l : (intB3 b.base).length = 3 := rfl
          clear HV5 hb5 HI1h bI1 hz4
          go_wp2_with (at_builtin; go_loud (refine wpList_appF (Kind.int .i64) (ys := intB2 b.seq) HX5 rfl _ _ 32 (.int .i64 0) 8 rfl Tryd.underlying32 (by kernel_rfl) rfl (bnd_int .i64) (onec_int .i64) (flat_int .i64) rfl rfl rfl hr5 (fun x hx => by omega) (by omega) (by omega) ?_))
          intro v6 w6 HX6 hc6 _
          have B6 := Lib.hid (B5.out.trans (hc6.below hs5 (fun x hx => AppP.ne HX5 hx)))
          obtain ⟨l2, hl2⟩ : ∃ l2, l2 = l1 ++ intB2 b.seq := ⟨_, rfl⟩
          have HL2 := Lib.hid (show l2.length = 5 by rw [hl2, List.length_append, HL1.out, h2l])
          have hl2l : l2.length ≤ 5 := by rw [HL2.out]; exact Nat.le_refl _
          rw [← hl2] at HX6 HY2
          have hs6 : W.heap.size ≤ w6.heap.size := B6.out.size
          have hz1 := below_cell B6.out (six hB1.out).2.1
          obtain ⟨A6, c6, rfl, _, _⟩ := HX6.slice_
          clear hc6 HX5 hr5 B5 hl2
          go_wp2_with fail
          refine (intOf3_any b.base _ HBTq.out).mono ?_
          rintro e w7 ⟨v7, rfl, HV7, hb7⟩
          obtain ⟨A7, c7, rfl, _, _⟩ := HV7.slice_
          have hr7 := (AppP.row_of HV7).2.2.2
          have HX7 := AppP.below HX6 hb7
          have B7 := Lib.hid (bthen B6.out hb7)
          have hs7 : W.heap.size ≤ w7.heap.size := B7.out.size
          clear HV7 hb7 HX6 B6 hz1
          go_wp2_with (at_builtin; go_loud (refine wpList_appF (Kind.int .i64) (ys := intB3 b.base) HX7 rfl _ _ 32 (.int .i64 0) 8 rfl Tryd.underlying32 (by kernel_rfl) rfl (bnd_int .i64) (onec_int .i64) (flat_int .i64) rfl rfl rfl hr7 (fun x hx => by omega) (by omega) (by omega) ?_))
          intro v8 w8 HX8 hc8 _
          have B8 := Lib.hid (B7.out.trans (hc8.below hs7 (fun x hx => AppP.ne HX7 hx)))
          obtain ⟨l3, hl3⟩ : ∃ l3, l3 = l2 ++ intB3 b.base := ⟨_, rfl⟩
          have HL3 := Lib.hid (show l3.length = 8 by rw [hl3, List.length_append, HL2.out, h3l])
          have hl3l : l3.length ≤ 8 := by rw [HL3.out]; exact Nat.le_refl _
          rw [← hl3] at HX8 HY2
          have hs8 : W.heap.size ≤ w8.heap.size := B8.out.size
          have hz5 := below_cell B8.out (six hA1.out).2.2.2.2.2.1
          obtain ⟨A8, c8, rfl, _, _⟩ := HX8.slice_
          have HM := App.ints 3 w8 w8.heap.size (Nat.le_refl _) [(b.recs.length : Int), 0, 0] (by simp)
          have hrM := (AppP.row_of HM).2.2.2
          have bM := bal w8 (.cells #[.int .i64 (b.recs.length : Int), .int .i64 0, .int .i64 0] 3)
          have HX8h := Lib.hid (AppP.below HX8 bM)
          have B8h := Lib.hid (bthen B8.out bM)
          have hs8h : W.heap.size ≤ (w8.alloc (.cells #[.int .i64 (b.recs.length : Int), .int .i64 0, .int .i64 0] 3)).heap.size := B8h.out.size
          clear hc8 HX7 hr7 B7 hl3 HM bM HX8
          go_wp2_with (at_builtin; go_loud (refine wpList_appF (Kind.int .i64) (ys := [(b.recs.length : Int), 0, 0]) HX8h.out rfl _ _ 32 (.int .i64 0) 8 rfl Tryd.underlying32 (by kernel_rfl) rfl (bnd_int .i64) (onec_int .i64) (flat_int .i64) rfl rfl rfl hrM (fun x hx => by omega) (by simp; omega) (by simp; omega) ?_))
          intro v9 w9 HX9 hc9 _
          have B9 := Lib.hid (B8h.out.trans (hc9.below hs8h (fun x hx => AppP.ne HX8h.out hx)))
          obtain ⟨l4, hl4⟩ : ∃ l4, l4 = l3 ++ [(b.recs.length : Int), 0, 0] := ⟨_, rfl⟩
          have HL4 := Lib.hid (show l4.length = 11 by rw [hl4, List.length_append, HL3.out]; rfl)
          have hl4l : l4.length ≤ 11 := by rw [HL4.out]; exact Nat.le_refl _
          rw [← hl4] at HX9 HY2
          have hs9 : W.heap.size ≤ w9.heap.size := B9.out.size
          obtain ⟨A9, c9, rfl, _, _⟩ := HX9.slice_
          have hr9 := HR1.out.below B9.out
          clear hc9 HX8h hrM B8h hl4 hs8h
          go_wp2_with (at_builtin; go_loud (refine wpList_appF (Kind.int .i64) (ys := ys) HX9 rfl _ _ 32 (.int .i64 0) 8 rfl Tryd.underlying32 (by kernel_rfl) rfl (bnd_int .i64) (onec_int .i64) (flat_int .i64) rfl rfl rfl hr9 (fun x hx => by omega) (by omega) (by omega) ?_))
          intro v10 w10 HX10 hc10 _
          have B10 := Lib.hid (B9.out.trans (hc10.below hs9 (fun x hx => AppP.ne HX9 hx)))
          rw [← HY2.out] at HX10
          have hrl : b.rest.length = 11 + ys.length := by rw [HY2.out, List.length_append, HL4.out]
          have HRL := Lib.hid hrl
          have hs10 : W.heap.size ≤ w10.heap.size := B10.out.size
          obtain ⟨rs, hrs⟩ : ∃ rs, rs = b.rest := ⟨_, rfl⟩
          rw [← hrs] at HX10 HYR
          have hrsl : rs.length ≤ 407 := by rw [hrs, hrl]; omega
          have HRS := Lib.hid hrs
          obtain ⟨A10, c10, rfl, _, _⟩ := HX10.slice_
          have hz0 := below_cell B10.out (six hB1.out).1
          have hr10 := (AppP.row_of HX10).2.2.2
          clear hc10 HX9 hr9 B9 hrl hrs
          go_wp2_with fail
          refine (intOf3_any b.first _ HBOq.out).mono ?_
          rintro e w11 ⟨v11, rfl, HV11, hb11⟩
          obtain ⟨A11, c11, rfl, _, _⟩ := HV11.slice_
          have q11 := (AppP.row_of HV11).2.2.2
          have B11 := Lib.hid (bthen B10.out hb11)
          have hr11 := hr10.below hb11
          clear HV11 hb11 B10 hz0
          go_wp2_with fail
          refine (intOf2_any (rs.length : Int) _ ⟨by omega, by omega⟩).mono ?_
          rintro e w12 ⟨v12, rfl, HV12, hb12⟩
          obtain ⟨A12, c12, rfl, _, _⟩ := HV12.slice_
          have q12 := (AppP.row_of HV12).2.2.2
          have B12 := Lib.hid (bthen B11.out hb12)
          have hr12 := hr11.below hb12
          have q11 := q11.below hb12
          clear HV12 hb12 B11
          go_wp2_with fail
          refine (over_any 1 rs A10 c10 _ _ hr12 (by omega) HYR.out (by omega)).mono ?_
          rintro e w' ⟨rfl, rfl⟩
          have hsr := sumGo_range 1 rs (by omega)
          obtain ⟨u, hu⟩ : ∃ u, u = sumGo 1 rs := ⟨_, rfl⟩
          rw [← hu] at hsr
          rw [← hu]
          have HU := Lib.hid (show u = sumB rs from hu)
          clear hu
          go_wp2_with fail
          refine (intOf2_any u _ ⟨hsr.1, by omega⟩).mono ?_
          rintro e w13 ⟨v13, rfl, HV13, hb13⟩
          obtain ⟨A13, c13, rfl, _, _⟩ := HV13.slice_
          have q13 := (AppP.row_of HV13).2.2.2
          have B13 := Lib.hid (bthen B12.out hb13)
          have hr13 := hr12.below hb13
          have q11 := q11.below hb13
          have q12 := q12.below hb13
          clear HV13 hb13 B12
          go_wp2_with fail
          generalize hW14 : World.alloc _ _ = W14
          obtain ⟨hC14, b14, _⟩ := alloc1 hW14
          clear hW14
          have hrow4 := rows4 hC14 ((q11.below b14).mono (F' := fun _ => True) (fun _ _ => trivial)) ((q12.below b14).mono (F' := fun _ => True) (fun _ _ => trivial)) ((q13.below b14).mono (F' := fun _ => True) (fun _ _ => trivial)) ((hr13.below b14).mono (F' := fun _ => True) (fun _ _ => trivial))
          have hfl : ([intB3 b.first, intB2 (rs.length : Int), intB2 u, rs].flatten) = batBytes b := by
            rw [HU.out, HRS.out]
            unfold batBytes
            simp
          have HFLAT := Lib.hid hfl
          have hfn : ([intB3 b.first, intB2 (rs.length : Int), intB2 u, rs].flatten).length = 7 + rs.length := by simp [intB3, intB2]; omega
          have BW := Lib.hid (bthen HWW.out (bthen B13.out b14))
          obtain ⟨xss, hxss⟩ : ∃ xss, xss = [intB3 b.first, intB2 (rs.length : Int), intB2 u, rs] := ⟨_, rfl⟩
          rw [← hxss] at hrow4 HFLAT hfn
          have hx4 : xss.length = 4 := by rw [hxss]; rfl
          have HCC := Concat_any xss _ _ _ W14 hrow4 (by omega) (by omega) (by omega)
          rw [hx4] at HCC
          have HCC := Lib.hid HCC
          clear hfl hxss hrow4 hx4 hfn
          refine HCC.out.mono ?_
          rintro e w15 ⟨v15, rfl, HV15, hb15⟩
          rw [HFLAT.out] at HV15
          have HFIN := Lib.hid (App.from HV15 BW.out.size)
          have BFIN := Lib.hid (bthen BW.out hb15)
          clear HV15 hb15
          go_wp2
          go_ret
          exact ⟨_, rfl, HFIN.out, BFIN.out⟩
        · rw [hmk] at z1
          obtain ⟨T, hT⟩ : ∃ T, T = W.heap.size := ⟨_, rfl⟩
          have HFL := Lib.hid (show b.flags = 3 by unfold Bat.flags; rw [hpk, hmk]; rfl)
          have HY2 := Lib.hid (show b.rest = [(3 : Int), b.prod, b.epoch] ++ intB2 b.seq ++ intB3 b.base ++ [(b.recs.length : Int), 0, 0] ++ ys by unfold Bat.rest; rw [HFL.out, HY.out])
          have HYR := Lib.hid (rest_bytes hv)
          have HSQ := Lib.hid (show 0 ≤ b.seq ∧ b.seq ≤ 16777215 by have := (headB_range hhd).2.2; omega)
          have HBTq := Lib.hid (show 0 ≤ b.base ∧ b.base ≤ 16777215 by have := HBT.out; omega)
          have HBOq := Lib.hid (show 0 ≤ b.first ∧ b.first ≤ 16777215 by have := HBO.out; omega)
          have HI := App.ints 3 W W.heap.size (Nat.le_refl _) [(3 : Int), b.prod, b.epoch] (by simp)
          obtain ⟨l1, hl1⟩ : ∃ l1, l1 = [(3 : Int), b.prod, b.epoch] := ⟨_, rfl⟩
          have HL1 := Lib.hid (show l1.length = 3 by rw [hl1]; rfl)
          have hl1l : l1.length ≤ 3 := by rw [HL1.out]; exact Nat.le_refl _
          have bI := bal W (.cells #[.int .i64 3, .int .i64 b.prod, .int .i64 b.epoch] 3)
          have HI1 : App (Kind.int .i64) 3 (W.alloc (.cells #[.int .i64 3, .int .i64 b.prod, .int .i64 b.epoch] 3)) W.heap.size (.slice (some ⟨W.heap.size, 0, none⟩) 3 3) l1 := by rw [hl1]; exact HI
          have hz4 := below_cell bI (six hA).2.2.2.2.1
          rw [← hl1] at HY2
          have HI1h := Lib.hid HI1
          have hA1 := Lib.hid hA
          have hB1 := Lib.hid hB
          have HR1 := Lib.hid hr
          have bI1 := Lib.hid bI
          clear HI HI1 hl1 bI
          go_wp2_with fail
          refine (intOf2_any b.seq _ HSQ.out).mono ?_
          rintro e w5 ⟨v5, rfl, HV5, hb5⟩
          obtain ⟨A5, c5, rfl, _, _⟩ := HV5.slice_
          have hr5 := (AppP.row_of HV5).2.2.2
          have HX5 := AppP.below HI1h.out hb5
          have B5 := Lib.hid (bthen bI1.out hb5)
          have hs5 : W.heap.size ≤ w5.heap.size := B5.out.size
          have h2l : (intB2 b.seq).length = 2 := rfl
          have h3l : (intB3 b.base).length = 3 := rfl
          clear HV5 hb5 HI1h bI1 hz4
          go_wp2_with (at_builtin; go_loud (refine wpList_appF (Kind.int .i64) (ys := intB2 b.seq) HX5 rfl _ _ 32 (.int .i64 0) 8 rfl Tryd.underlying32 (by kernel_rfl) rfl (bnd_int .i64) (onec_int .i64) (flat_int .i64) rfl rfl rfl hr5 (fun x hx => by omega) (by omega) (by omega) ?_))
          intro v6 w6 HX6 hc6 _
          have B6 := Lib.hid (B5.out.trans (hc6.below hs5 (fun x hx => AppP.ne HX5 hx)))
          obtain ⟨l2, hl2⟩ : ∃ l2, l2 = l1 ++ intB2 b.seq := ⟨_, rfl⟩
          have HL2 := Lib.hid (show l2.length = 5 by rw [hl2, List.length_append, HL1.out, h2l])
          have hl2l : l2.length ≤ 5 := by rw [HL2.out]; exact Nat.le_refl _
          rw [← hl2] at HX6 HY2
          have hs6 : W.heap.size ≤ w6.heap.size := B6.out.size
          have hz1 := below_cell B6.out (six hB1.out).2.1
          obtain ⟨A6, c6, rfl, _, _⟩ := HX6.slice_
          clear hc6 HX5 hr5 B5 hl2
          go_wp2_with fail
          refine (intOf3_any b.base _ HBTq.out).mono ?_
          rintro e w7 ⟨v7, rfl, HV7, hb7⟩
          obtain ⟨A7, c7, rfl, _, _⟩ := HV7.slice_
          have hr7 := (AppP.row_of HV7).2.2.2
          have HX7 := AppP.below HX6 hb7
          have B7 := Lib.hid (bthen B6.out hb7)
          have hs7 : W.heap.size ≤ w7.heap.size := B7.out.size
          clear HV7 hb7 HX6 B6 hz1
          go_wp2_with (at_builtin; go_loud (refine wpList_appF (Kind.int .i64) (ys := intB3 b.base) HX7 rfl _ _ 32 (.int .i64 0) 8 rfl Tryd.underlying32 (by kernel_rfl) rfl (bnd_int .i64) (onec_int .i64) (flat_int .i64) rfl rfl rfl hr7 (fun x hx => by omega) (by omega) (by omega) ?_))
          intro v8 w8 HX8 hc8 _
          have B8 := Lib.hid (B7.out.trans (hc8.below hs7 (fun x hx => AppP.ne HX7 hx)))
          obtain ⟨l3, hl3⟩ : ∃ l3, l3 = l2 ++ intB3 b.base := ⟨_, rfl⟩
          have HL3 := Lib.hid (show l3.length = 8 by rw [hl3, List.length_append, HL2.out, h3l])
          have hl3l : l3.length ≤ 8 := by rw [HL3.out]; exact Nat.le_refl _
          rw [← hl3] at HX8 HY2
          have hs8 : W.heap.size ≤ w8.heap.size := B8.out.size
          have hz5 := below_cell B8.out (six hA1.out).2.2.2.2.2.1
          obtain ⟨A8, c8, rfl, _, _⟩ := HX8.slice_
          have HM := App.ints 3 w8 w8.heap.size (Nat.le_refl _) [(b.recs.length : Int), 0, 0] (by simp)
          have hrM := (AppP.row_of HM).2.2.2
          have bM := bal w8 (.cells #[.int .i64 (b.recs.length : Int), .int .i64 0, .int .i64 0] 3)
          have HX8h := Lib.hid (AppP.below HX8 bM)
          have B8h := Lib.hid (bthen B8.out bM)
          have hs8h : W.heap.size ≤ (w8.alloc (.cells #[.int .i64 (b.recs.length : Int), .int .i64 0, .int .i64 0] 3)).heap.size := B8h.out.size
          clear hc8 HX7 hr7 B7 hl3 HM bM HX8
          go_wp2_with (at_builtin; go_loud (refine wpList_appF (Kind.int .i64) (ys := [(b.recs.length : Int), 0, 0]) HX8h.out rfl _ _ 32 (.int .i64 0) 8 rfl Tryd.underlying32 (by kernel_rfl) rfl (bnd_int .i64) (onec_int .i64) (flat_int .i64) rfl rfl rfl hrM (fun x hx => by omega) (by simp; omega) (by simp; omega) ?_))
          intro v9 w9 HX9 hc9 _
          have B9 := Lib.hid (B8h.out.trans (hc9.below hs8h (fun x hx => AppP.ne HX8h.out hx)))
          obtain ⟨l4, hl4⟩ : ∃ l4, l4 = l3 ++ [(b.recs.length : Int), 0, 0] := ⟨_, rfl⟩
          have HL4 := Lib.hid (show l4.length = 11 by rw [hl4, List.length_append, HL3.out]; rfl)
          have hl4l : l4.length ≤ 11 := by rw [HL4.out]; exact Nat.le_refl _
          rw [← hl4] at HX9 HY2
          have hs9 : W.heap.size ≤ w9.heap.size := B9.out.size
          obtain ⟨A9, c9, rfl, _, _⟩ := HX9.slice_
          have hr9 := HR1.out.below B9.out
          clear hc9 HX8h hrM B8h hl4 hs8h
          go_wp2_with (at_builtin; go_loud (refine wpList_appF (Kind.int .i64) (ys := ys) HX9 rfl _ _ 32 (.int .i64 0) 8 rfl Tryd.underlying32 (by kernel_rfl) rfl (bnd_int .i64) (onec_int .i64) (flat_int .i64) rfl rfl rfl hr9 (fun x hx => by omega) (by omega) (by omega) ?_))
          intro v10 w10 HX10 hc10 _
          have B10 := Lib.hid (B9.out.trans (hc10.below hs9 (fun x hx => AppP.ne HX9 hx)))
          rw [← HY2.out] at HX10
          have hrl : b.rest.length = 11 + ys.length := by rw [HY2.out, List.length_append, HL4.out]
          have HRL := Lib.hid hrl
          have hs10 : W.heap.size ≤ w10.heap.size := B10.out.size
          obtain ⟨rs, hrs⟩ : ∃ rs, rs = b.rest := ⟨_, rfl⟩
          rw [← hrs] at HX10 HYR
          have hrsl : rs.length ≤ 407 := by rw [hrs, hrl]; omega
          have HRS := Lib.hid hrs
          obtain ⟨A10, c10, rfl, _, _⟩ := HX10.slice_
          have hz0 := below_cell B10.out (six hB1.out).1
          have hr10 := (AppP.row_of HX10).2.2.2
          clear hc10 HX9 hr9 B9 hrl hrs
          go_wp2_with fail
          refine (intOf3_any b.first _ HBOq.out).mono ?_
          rintro e w11 ⟨v11, rfl, HV11, hb11⟩
          obtain ⟨A11, c11, rfl, _, _⟩ := HV11.slice_
          have q11 := (AppP.row_of HV11).2.2.2
          have B11 := Lib.hid (bthen B10.out hb11)
          have hr11 := hr10.below hb11
          clear HV11 hb11 B10 hz0
          go_wp2_with fail
          refine (intOf2_any (rs.length : Int) _ ⟨by omega, by omega⟩).mono ?_
          rintro e w12 ⟨v12, rfl, HV12, hb12⟩
          obtain ⟨A12, c12, rfl, _, _⟩ := HV12.slice_
          have q12 := (AppP.row_of HV12).2.2.2
          have B12 := Lib.hid (bthen B11.out hb12)
          have hr12 := hr11.below hb12
          have q11 := q11.below hb12
          clear HV12 hb12 B11
          go_wp2_with fail
          refine (over_any 1 rs A10 c10 _ _ hr12 (by omega) HYR.out (by omega)).mono ?_
          rintro e w' ⟨rfl, rfl⟩
          have hsr := sumGo_range 1 rs (by omega)
          obtain ⟨u, hu⟩ : ∃ u, u = sumGo 1 rs := ⟨_, rfl⟩
          rw [← hu] at hsr
          rw [← hu]
          have HU := Lib.hid (show u = sumB rs from hu)
          clear hu
          go_wp2_with fail
          refine (intOf2_any u _ ⟨hsr.1, by omega⟩).mono ?_
          rintro e w13 ⟨v13, rfl, HV13, hb13⟩
          obtain ⟨A13, c13, rfl, _, _⟩ := HV13.slice_
          have q13 := (AppP.row_of HV13).2.2.2
          have B13 := Lib.hid (bthen B12.out hb13)
          have hr13 := hr12.below hb13
          have q11 := q11.below hb13
          have q12 := q12.below hb13
          clear HV13 hb13 B12
          go_wp2_with fail
          generalize hW14 : World.alloc _ _ = W14
          obtain ⟨hC14, b14, _⟩ := alloc1 hW14
          clear hW14
          have hrow4 := rows4 hC14 ((q11.below b14).mono (F' := fun _ => True) (fun _ _ => trivial)) ((q12.below b14).mono (F' := fun _ => True) (fun _ _ => trivial)) ((q13.below b14).mono (F' := fun _ => True) (fun _ _ => trivial)) ((hr13.below b14).mono (F' := fun _ => True) (fun _ _ => trivial))
          have hfl : ([intB3 b.first, intB2 (rs.length : Int), intB2 u, rs].flatten) = batBytes b := by
            rw [HU.out, HRS.out]
            unfold batBytes
            simp
          have HFLAT := Lib.hid hfl
          have hfn : ([intB3 b.first, intB2 (rs.length : Int), intB2 u, rs].flatten).length = 7 + rs.length := by simp [intB3, intB2]; omega
          have BW := Lib.hid (bthen HWW.out (bthen B13.out b14))
          obtain ⟨xss, hxss⟩ : ∃ xss, xss = [intB3 b.first, intB2 (rs.length : Int), intB2 u, rs] := ⟨_, rfl⟩
          rw [← hxss] at hrow4 HFLAT hfn
          have hx4 : xss.length = 4 := by rw [hxss]; rfl
          have HCC := Concat_any xss _ _ _ W14 hrow4 (by omega) (by omega) (by omega)
          rw [hx4] at HCC
          have HCC := Lib.hid HCC
          clear hfl hxss hrow4 hx4 hfn
          refine HCC.out.mono ?_
          rintro e w15 ⟨v15, rfl, HV15, hb15⟩
          rw [HFLAT.out] at HV15
          have HFIN := Lib.hid (App.from HV15 BW.out.size)
          have BFIN := Lib.hid (bthen BW.out hb15)
          clear HV15 hb15
          go_wp2
          go_ret
          exact ⟨_, rfl, HFIN.out, BFIN.out⟩
end Go.Proofs.YtgnjnpfeofhniaaDoor
