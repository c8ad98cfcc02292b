/- Copies of records in the reference. -/
import Derived.Test.YtlgcajjoimcdhaaC1
namespace Go.Proofs.Ytlgcajjoimcdhaa
set_option linter.unusedVariables false
set_option linter.unusedSimpArgs false
open Go.RowKit

set_option maxHeartbeats 2000000 in
theorem l12Copy_any (r : Rec) (A A' : Option Addr) (c c' : Nat) (F : Nat → Prop) (w : World) (h : Ints w F A c r.key) (h' : Ints w F A' c' r.val) (hk : r.key.length ≤ 1048576) (hv : r.val.length ≤ 1048576) :
    Calls Try.prog 64 #[.agg #[.int .i64 r.off, .int .i64 r.time, .bool r.hk, .slice A r.key.length c, .bool r.hv, .slice A' r.val.length c']] w fun e w' =>
      ∃ vk vv, e = .returned (.agg #[.int .i64 r.off, .int .i64 r.time, .bool r.hk, vk, .bool r.hv, vv]) ∧ Copied w w' r vk vv := by
  go_enter Try.func64, Try.ntmps64
  go_upto_region 1 with fail
  generalize hW : World.alloc _ _ = W
  obtain ⟨hA, hB, b1, hsW⟩ := alloc2 hW
  clear hW
  obtain ⟨q0, q1, q2, q3, q4, q5, qf⟩ := six hA
  have hL1 := App.lit (Kind.int .i64) 3 W W.heap.size (Nat.le_refl _)
  have hy1 := (h.below b1).below (bal W (.cells #[] 3))
  have hne1 : w.heap.size ≠ W.heap.size := by omega
  have hlt1 : w.heap.size < W.heap.size := by omega
  have hlt1' : w.heap.size + 1 < W.heap.size := by omega
  clear hsW
  go_wp2_with (at_builtin; go_loud (refine wpList_appF (Kind.int .i64) (xs := []) (ys := r.key) hL1 rfl _ _ 31 (.int .i64 0) 8 rfl Try.underlying31 (by kernel_rfl) rfl (bnd_int _) (onec_int _) (flat_int _) rfl rfl rfl hy1 (fun b hb => by simp at hb; omega) (by simp; omega) (by simp; omega) ?_))
  intro v1 w1 HA1 hc1 ho1
  have c1 : Below W.heap.size W w1 := (bal W (.cells #[] 3)).trans (hc1.below (by simp) (fun i hi => own_lit _ hi))
  try rw [List.nil_append] at HA1
  obtain ⟨A2, c2, rfl, _⟩ := AppP.row HA1
  have hA1 := blk_below hA c1
  have hB1 := blk_below hB c1
  clear q0 q1 q2 q3 q4 q5 qf hL1 hy1 hc1 ho1
  obtain ⟨q0, q1, q2, q3, q4, q5, qf⟩ := six hA1
  obtain ⟨X, hX⟩ : ∃ X, X = w1.setCell ⟨w.heap.size, 3, none⟩ (.slice A2 r.key.length c2) := ⟨_, rfl⟩
  have hAX := blk_put hA1 3 (.slice A2 r.key.length c2)
  rw [← hX] at hAX
  have hBX : X.heap[w.heap.size + 1]? = some (.cells #[.int .i64 0, .int .i64 0, .bool false, .slice none 0 0, .bool false, .slice none 0 0] 33 (0, 0)) := by rw [hX]; exact blk_far hB1 (p := ⟨w.heap.size, 3, none⟩) (by simp) _
  have cX : Chg (fun b => b = w.heap.size) w1 X := by rw [hX]; exact Chg.set (fun b => b = w.heap.size) w1 (p := ⟨w.heap.size, 3, none⟩) rfl _
  have HKX := AppP.chg HA1 cX (fun b _ h1 h2 => by omega)
  have hs1 := c1.size
  have bX : Below w.heap.size w X := (b1.trans (c1.mono b1.size)).trans (cX.below (by omega) (fun i hi => by omega))
  have hAX' : X.heap[w.heap.size]? = some (.cells #[.int .i64 r.off, .int .i64 r.time, .bool r.hk, .slice A2 r.key.length c2, .bool r.hv, .slice A' r.val.length c'] 33 (0, 0)) := by simpa using hAX
  have h'X := h'.keep (w' := X) (fun b _ hlt => bX.block b hlt)
  have hzX : W.heap.size ≤ X.heap.size := by have := cX.size; omega
  have HX := Lib.hid hX
  have BX := Lib.hid bX
  clear hAX hX bX cX hA hB hA1 hB1 HA1
  go_upto_region 2 with fail
  rw [← HX.out]
  clear q0 q1 q2 q3 q4 q5 qf
  obtain ⟨q0, q1, q2, q3, q4, q5, qf⟩ := six hAX'
  have hL2 := App.lit (Kind.int .i64) 3 X X.heap.size (Nat.le_refl _)
  have hy2 := h'X.below (bal X (.cells #[] 3))
  have hne2 : w.heap.size ≠ X.heap.size := by omega
  have hlt2 : w.heap.size < X.heap.size := by omega
  go_wp2_with (at_builtin; go_loud (refine wpList_appF (Kind.int .i64) (xs := []) (ys := r.val) hL2 rfl _ _ 31 (.int .i64 0) 8 rfl Try.underlying31 (by kernel_rfl) rfl (bnd_int _) (onec_int _) (flat_int _) rfl rfl rfl hy2 (fun b hb => by simp at hb; omega) (by simp; omega) (by simp; omega) ?_))
  intro v2 w3 HV hc2 ho2
  have c3 : Below X.heap.size X w3 := (bal X (.cells #[] 3)).trans (hc2.below (by simp) (fun i hi => own_lit _ hi))
  try rw [List.nil_append] at HV
  obtain ⟨A3, c3', rfl, _⟩ := AppP.row HV
  have hA3 := blk_below hAX' c3
  have hB3 := blk_below hBX c3
  have HK3 := AppP.below HKX c3
  have hVge := own_ge HV
  have hKlt : ∀ g, (Value.slice A2 r.key.length c2).ownBlock = some g → g < X.heap.size := fun g hg => AppP.own_lt HKX hg
  have hs3 := c3.size
  clear q0 q1 q2 q3 q4 q5 qf hL2 hy2 hc2 ho2
  obtain ⟨p0, p1, p2, p3, p4, p5, pf⟩ := six hA3
  obtain ⟨z0, z1, z2, z3, z4, z5, zf⟩ := six hB3
  obtain ⟨Y, hY⟩ : ∃ Y, Y = w3.setCell ⟨w.heap.size, 5, none⟩ (.slice A3 r.val.length c3') := ⟨_, rfl⟩
  have cY : Chg (fun b => b = w.heap.size) w3 Y := by rw [hY]; exact Chg.set (fun b => b = w.heap.size) w3 (p := ⟨w.heap.size, 5, none⟩) rfl _
  have HKY := AppP.chg HK3 cY (fun b _ h1 h2 => by omega)
  have HVY := AppP.chg HV cY (fun b _ h1 h2 => by omega)
  have bY : Below w.heap.size w Y := (BX.out.trans (c3.mono BX.out.size)).trans (cY.below (by omega) (fun i hi => by omega))
  have hsY := cY.size
  have HY := Lib.hid hY
  have HC : Copied w ((((((Y.setCell ⟨w.heap.size + 1, 0, none⟩ (.int .i64 r.off)).setCell ⟨w.heap.size + 1, 1, none⟩ (.int .i64 r.time)).setCell ⟨w.heap.size + 1, 2, none⟩ (.bool r.hk)).setCell ⟨w.heap.size + 1, 3, none⟩ (.slice A2 r.key.length c2)).setCell ⟨w.heap.size + 1, 4, none⟩ (.bool r.hv)).setCell ⟨w.heap.size + 1, 5, none⟩ (.slice A3 r.val.length c3')) r (.slice A2 r.key.length c2) (.slice A3 r.val.length c3') := by
    have cZ : Chg (fun b => b = w.heap.size + 1) Y ((((((Y.setCell ⟨w.heap.size + 1, 0, none⟩ (.int .i64 r.off)).setCell ⟨w.heap.size + 1, 1, none⟩ (.int .i64 r.time)).setCell ⟨w.heap.size + 1, 2, none⟩ (.bool r.hk)).setCell ⟨w.heap.size + 1, 3, none⟩ (.slice A2 r.key.length c2)).setCell ⟨w.heap.size + 1, 4, none⟩ (.bool r.hv)).setCell ⟨w.heap.size + 1, 5, none⟩ (.slice A3 r.val.length c3')) :=
      Chg.setCells (fun b => b = w.heap.size + 1) rfl [.int .i64 r.off, .int .i64 r.time, .bool r.hk, .slice A2 r.key.length c2, .bool r.hv, .slice A3 r.val.length c3'] 0 Y
    refine ⟨App.from (AppP.chg HKY cZ (fun b _ h1 h2 => by omega)) (by omega), App.from (AppP.chg HVY cZ (fun b _ h1 h2 => by omega)) (by omega), fun g h1 h2 => ?_, bY.trans (cZ.below (by omega) (fun i hi => by omega))⟩
    have := hKlt g h1
    have := hVge g h2
    omega
  have HCC := Lib.hid HC
  have hz : ∀ i u, w3.cell? ⟨w.heap.size + 1, i, none⟩ = some u → Y.cell? ⟨w.heap.size + 1, i, none⟩ = some u := fun i u h => by
    rw [hY, World.cell?_setCell_other _ _ _ _ (by simp)]
    exact h
  have HZ := Lib.hid hz
  clear hz hY cY HC HKY HVY bY HK3 HV c3 hA3 hB3 hAX' hBX HKX hKlt hVge h'X
  go_wp2
  rw [← HY.out]
  refine bodyPost_ret (v := .agg #[.int .i64 r.off, .int .i64 r.time, .bool r.hk, .slice A2 r.key.length c2, .bool r.hv, .slice A3 r.val.length c3']) ?_ rfl ⟨_, _, rfl, HCC.out⟩
  have y0 := HZ.out _ _ z0
  have y1 := HZ.out _ _ z1
  have y2 := HZ.out _ _ z2
  have y3 := HZ.out _ _ z3
  have y4 := HZ.out _ _ z4
  have y5 := HZ.out _ _ z5
  simp [results, Try.results64, go_sem, y0, y1, y2, y3, y4, y5]
end Go.Proofs.Ytlgcajjoimcdhaa
