/- A batch as bytes: the reference; BatchBytes of both. -/
import Derived.Test.YtomcjjehfocbmaaGreatDoorBb
import Derived.Test.YtomcjjehfocbmaaGreatDoorP2
import Derived.Test.YtomcjjehfocbmaaGreatDoorW9
import Derived.Test.YtomcjjehfocbmaaGreatDoorB3
import Derived.Test.YtomcjjehfocbmaaGreatDoorS2
namespace Go.Proofs.YtomcjjehfocbmaaGreatDoor
set_option linter.unusedVariables false
set_option linter.unusedSimpArgs false
open Go.RowKit

set_option maxRecDepth 20000 in
set_option maxHeartbeats 2000000 in
theorem l5Body_any (b : Bat) (A : Option Addr) (c : Nat) (F : Nat → Prop) (w : World) (h : Recs w F A c b.recs) (hv : batB b = true) :
    Calls Tryz.prog 59 #[.agg #[.bool b.packed, .bool b.mark, .int .i64 b.prod, .int .i64 b.epoch, .int .i64 b.seq, .slice A b.recs.length c]] w fun e w' => ∃ v, e = .returned v ∧ App (Kind.int .i64) 3 w' w.heap.size v b.rows ∧ Below w.heap.size w w' := by
  have hl := h.1
  have hc := h.2.1
  obtain ⟨hhd, ⟨hn1, hn6⟩, hrec⟩ := batB_parts hv
  obtain ⟨hbo, hbt⟩ := batB_base hv
  have HBO := Lib.hid hbo
  have HBT := Lib.hid hbt
  have HN6 := Lib.hid hn6
  have HFF := Lib.hid (first_getElem (b := b) (by omega))
  clear hbo hbt hhd
  go_enter Tryz.func59, Tryz.ntmps59
  go_wp2_with fail
  generalize hW : World.alloc _ _ = W3
  obtain ⟨hA3, hC3, b3, hz3⟩ := alloc2 hW
  clear hW
  obtain ⟨S, hS⟩ : ∃ S, S = w.heap.size + 1 := ⟨_, rfl⟩
  have h3 := h.below b3
  have HSW := Lib.hid (show w.heap.size ≤ S by omega)
  have HSW1 := Lib.hid (show w.heap.size < S by omega)
  have HX3 : App (Kind.int .i64) 3 W3 S (.slice (some ⟨w.heap.size + 1, 0, none⟩) 0 0) [] := appP_lit hC3 (by omega)
  have HX3h := Lib.hid HX3
  have HS3 := Lib.hid (show S ≤ W3.heap.size by omega)
  clear HX3 hS hC3 hz3
  go_loopw [3, 4] (fun v i wr => ∃ k : Nat, k ≤ b.recs.length ∧ i = .int .i64 k ∧ App (Kind.int .i64) 3 wr S v (rowsB (b.recs.take k) b.first b.base) ∧ Hid (Below S W3 wr)) (fun _ i _ => b.recs.length - (intOf i).toNat)
  case atStart => exact ⟨0, Nat.zero_le _, rfl, HX3h.out, Lib.hid (Below.refl _ _)⟩
  case round =>
    obtain ⟨k, hk, rfl, HX, HB⟩ := hrel
    obtain ⟨wo, rfl⟩ : ∃ wo : World, wo = wr := ⟨_, rfl⟩
    clear HX3h
    have hW3S := HB.out.size
    have hSo : S ≤ wo.heap.size := Nat.le_trans HS3.out hW3S
    have hAo : wo.heap[w.heap.size]? = _ := (HB.out.block _ HSW1.out).trans hA3
    have hbo : Below w.heap.size w wo := b3.trans (HB.out.mono HSW.out)
    obtain ⟨Ao, co, rfl, _, _⟩ := HX.slice_
    obtain ⟨x0, x1, x2, x3, x4, x5, xf⟩ := six hAo
    by_cases hlt : k < b.recs.length
    · obtain ⟨ad, B0, d0, B1, d1, rfl, _, hk1, hv1, q0, q1, q2, q3, q4, q5⟩ := (h.below hbo).rec_at hlt
      obtain ⟨ad', B0', d0', B1', d1', ea, _, _, _, p0, p1, _⟩ := (h.below hbo).rec_at (show 0 < b.recs.length by omega)
      injection ea with ea
      subst ea
      rw [show ad.add (0 * 6) = ad from rfl] at p0 p1
      rw [← HFF.out.1] at p0
      rw [← HFF.out.2] at p1
      have hrk := hrec _ (List.getElem_mem hlt)
      have hn0 : 0 < b.recs.length := by omega
      have HROW := Lib.hid (rowsB_take (o := b.first) (t := b.base) hlt)
      have hxl := rowsB_len (rs := b.recs.take k) (o := b.first) (t := b.base) (fun r hr => hrec r (List.mem_of_mem_take hr))
      rw [List.length_take] at hxl
      have hbl := recBytes_len33 (o := b.first) (t := b.base) hrk
      have hN6 := HN6.out
      have hxs : (rowsB (b.recs.take k) b.first b.base).length + 33 ≤ 231 := by omega
      obtain ⟨xs, hxx⟩ : ∃ xs, xs = rowsB (b.recs.take k) b.first b.base := ⟨_, rfl⟩
      obtain ⟨ys, hyy⟩ : ∃ ys, ys = recBytes b.recs[k] b.first b.base := ⟨_, rfl⟩
      rw [← hxx, ← hyy] at HROW
      rw [← hxx] at HX hxs
      rw [← hxx]
      rw [← hyy] at hbl
      have HYY := Lib.hid hyy
      have bD : Below wo.heap.size wo wo.drew := ⟨rfl, rfl, rfl, Nat.le_refl _, fun _ _ => rfl⟩
      have HXD := Lib.hid (AppP.below HX bD)
      have HBD := Lib.hid (HB.out.trans (bD.mono hSo))
      have HSo := Lib.hid (show S ≤ wo.drew.heap.size from hSo)
      have HC := Lib.hid (l3Bytes_any b.recs[k] B0 B1 d0 d1 _ b.first b.base wo.drew (hk1.below bD) (hv1.below bD) hrk HBO.out HBT.out)
      have HXL := Lib.hid hxs
      have HBL := Lib.hid hbl
      have HLT := Lib.hid hlt
      clear hxx hyy hxl hN6 HX hk1 hv1 HB hAo hbo hSo hW3S bD hrk hbl hxs
      go_wp2_with fail
      go_region_law (first
        | (refine step_appF (Kind.int .i64) (xs := xs) (ys := ys) HX4 rfl _ _ 30 (.int .i64 0) 8 rfl Tryz.underlying30 (by kernel_rfl) rfl (bnd_int _) (onec_int _) (flat_int _) (by rfl) (by rfl) rfl hrow4 (fun b hb => by have := hSw4.out; omega) (by have := HXL.out; have := HBL.out; omega) (by have := HXL.out; have := HBL.out; omega) ?_; intro v5 w5 HX5 hc5 _)
        | (go_simp; refine HC.out.mono ?_; rintro e w4 ⟨v4, rfl, HV4, hb4⟩; rw [← HYY.out] at HV4; obtain ⟨A4, c4, rfl, _, _⟩ := HV4.slice_; have hrow4 := (AppP.row_of HV4).2.2.2; have HX4 := AppP.below HXD.out hb4; have HB4 := Lib.hid (HBD.out.trans (hb4.mono HSo.out)); have hSw4 := Lib.hid (Nat.le_trans HSo.out hb4.size)))
      all_goals
        rw [← HROW.out] at HX5
        have HB5 := Lib.hid (HB4.out.trans (hc5.below hSw4.out (fun x hx => AppP.ne HX4 hx)))
        clear hc5 HX4 hrow4 hb4 HV4
        go_wp2
        go_roundw
        case rel => exact ⟨k + 1, HLT.out, by go_num, HX5, HB5⟩
        case measure => have := HLT.out; simp [intOf]; omega
    · have hkn : k = b.recs.length := by omega
      have hrows : rowsB (b.recs.take k) b.first b.base = b.rows := by rw [hkn, List.take_length]; rfl
      rw [hrows] at HX
      rw [hrows]
      have HR := Lib.hid (App.from HX HSW.out)
      have HBB := Lib.hid hbo
      clear HX hrows hbo
      go_wp2
      go_ret
      exact ⟨_, rfl, HR.out, HBB.out⟩
end Go.Proofs.YtomcjjehfocbmaaGreatDoor
