/- Copies of records. Copies of records in the reference. Copies of batches. -/
import Derived.Test.YtfkhmmekdmochaaGa
import Derived.Test.YtfkhmmekdmochaaAx
namespace Go.Proofs.Ytfkhmmekdmochaa
set_option linter.unusedVariables false
set_option linter.unusedSimpArgs false
section
open Go.RowKit

set_option maxHeartbeats 1000000 in
theorem copyOf_any (r : Rec) (A A' : Option Addr) (c c' : Nat) (F : Nat → Prop) (w : World) (h : Ints w F A c r.key) (h' : Ints w F A' c' r.val) (hk : r.key.length ≤ 1048576) (hv : r.val.length ≤ 1048576) :
    Calls Try.prog 97 #[.agg #[.int .i64 r.off, .int .i64 r.time, .bool r.hk, .slice A r.key.length c, .bool r.hv, .slice A' r.val.length c']] w fun e w' =>
      ∃ vk vv, e = .returned (.agg #[.int .i64 r.off, .int .i64 r.time, .bool r.hk, vk, .bool r.hv, vv]) ∧ Copied w w' r vk vv := by
  go_enter Try.func97, Try.ntmps97
  go_wp2_with fail
  generalize hW : World.alloc _ _ = W
  obtain ⟨hA, hB, b1, hsW⟩ := alloc2 hW
  clear hW
  refine (Clone_any r.key A c _ _ (h.below b1) hk).mono ?_
  rintro e w2 ⟨vk, rfl, HK, hb2⟩
  obtain ⟨A2, c2, rfl, hrk⟩ := AppP.row HK
  have hA2 := blk_below hA hb2
  have hB2 := blk_below hB hb2
  obtain ⟨q0, q1, q2, q3, q4, q5, qf⟩ := six hA2
  obtain ⟨X, hX⟩ : ∃ X, X = w2.setCell ⟨w.heap.size, 3, none⟩ (.slice A2 r.key.length c2) := ⟨_, rfl⟩
  have hAX := blk_put hA2 3 (.slice A2 r.key.length c2)
  rw [← hX] at hAX
  have hBX : X.heap[w.heap.size + 1]? = some (.cells #[.int .i64 0, .int .i64 0, .bool false, .slice none 0 0, .bool false, .slice none 0 0] 79 (0, 0)) := by rw [hX]; exact blk_far hB2 (p := ⟨w.heap.size, 3, none⟩) (by simp) _
  have cX : Chg (fun b => b = w.heap.size) w2 X := by rw [hX]; exact Chg.set (fun b => b = w.heap.size) w2 (p := ⟨w.heap.size, 3, none⟩) rfl _
  have HKX := AppP.chg HK cX (fun b _ h1 h2 => by omega)
  have bX : Below w.heap.size w X := ((b1.trans (hb2.mono b1.size))).trans (cX.below (by have := hb2.size; omega) (fun i hi => by omega))
  have hzX : w.heap.size + 1 + 1 ≤ X.heap.size := by have := cX.size; have := hb2.size; omega
  have hAX' : X.heap[w.heap.size]? = some (.cells #[.int .i64 r.off, .int .i64 r.time, .bool r.hk, .slice A2 r.key.length c2, .bool r.hv, .slice A' r.val.length c'] 79 (0, 0)) := by simpa using hAX
  have h'X := h'.keep (w' := X) (fun b _ hlt => bX.block b hlt)
  have HX := Lib.hid hX
  have BX := Lib.hid bX
  have hKge := own_ge HK
  clear hAX hX bX cX hb2 hA hB hA2 hB2 b1 HK
  go_wp2_with fail
  rw [← HX.out]
  clear q0 q1 q2 q3 q4 q5 qf
  refine (Clone_any r.val A' c' _ _ h'X hv).mono ?_
  rintro e w3 ⟨vv, rfl, HV, hb3⟩
  obtain ⟨A3, c3, rfl, hrv⟩ := AppP.row HV
  have hA3 := blk_below hAX' hb3
  have hB3 := blk_below hBX hb3
  have HK3 := AppP.below HKX hb3
  have hVge := own_ge HV
  have hKlt : ∀ g, (Value.slice A2 r.key.length c2).ownBlock = some g → g < X.heap.size := fun g hg => AppP.own_lt HKX hg
  obtain ⟨Y, hY⟩ : ∃ Y, Y = w3.setCell ⟨w.heap.size, 5, none⟩ (.slice A3 r.val.length c3) := ⟨_, rfl⟩
  have hAY : Y.heap[w.heap.size]? = some (.cells #[.int .i64 r.off, .int .i64 r.time, .bool r.hk, .slice A2 r.key.length c2, .bool r.hv, .slice A3 r.val.length c3] 79 (0, 0)) := by
    rw [hY]
    have := blk_put hA3 5 (.slice A3 r.val.length c3)
    simpa using this
  have hBY : Y.heap[w.heap.size + 1]? = some (.cells #[.int .i64 0, .int .i64 0, .bool false, .slice none 0 0, .bool false, .slice none 0 0] 79 (0, 0)) := by rw [hY]; exact blk_far hB3 (p := ⟨w.heap.size, 5, none⟩) (by simp) _
  have cY : Chg (fun b => b = w.heap.size) w3 Y := by rw [hY]; exact Chg.set (fun b => b = w.heap.size) w3 (p := ⟨w.heap.size, 5, none⟩) rfl _
  have HKY := AppP.chg HK3 cY (fun b _ h1 h2 => by omega)
  have HVY := AppP.chg HV cY (fun b _ h1 h2 => by omega)
  have bY : Below w.heap.size w Y := (BX.out.trans (hb3.mono BX.out.size)).trans (cY.below (by have := hb3.size; omega) (fun i hi => by omega))
  obtain ⟨p0, p1, p2, p3, p4, p5, pf⟩ := six hA3
  obtain ⟨z0, z1, z2, z3, z4, z5, zf⟩ := six hB3
  have HY := Lib.hid hY
  have HC : Copied w (((((Y.setCell ⟨w.heap.size + 1, 0, none⟩ (.int .i64 r.off)).setCell ⟨w.heap.size + 1, 1, none⟩ (.int .i64 r.time)).setCell ⟨w.heap.size + 1, 2, none⟩ (.bool r.hk)).setCell ⟨w.heap.size + 1, 3, none⟩ (.slice A2 r.key.length c2)).setCell ⟨w.heap.size + 1, 4, none⟩ (.bool r.hv) |>.setCell ⟨w.heap.size + 1, 5, none⟩ (.slice A3 r.val.length c3)) r (.slice A2 r.key.length c2) (.slice A3 r.val.length c3) := by
    have cZ : Chg (fun b => b = w.heap.size + 1) Y ((((((Y.setCell ⟨w.heap.size + 1, 0, none⟩ (.int .i64 r.off)).setCell ⟨w.heap.size + 1, 1, none⟩ (.int .i64 r.time)).setCell ⟨w.heap.size + 1, 2, none⟩ (.bool r.hk)).setCell ⟨w.heap.size + 1, 3, none⟩ (.slice A2 r.key.length c2)).setCell ⟨w.heap.size + 1, 4, none⟩ (.bool r.hv)).setCell ⟨w.heap.size + 1, 5, none⟩ (.slice A3 r.val.length c3)) :=
      Chg.setCells (fun b => b = w.heap.size + 1) rfl [.int .i64 r.off, .int .i64 r.time, .bool r.hk, .slice A2 r.key.length c2, .bool r.hv, .slice A3 r.val.length c3] 0 Y
    refine ⟨App.from (AppP.chg HKY cZ (fun b _ h1 h2 => by omega)) (by omega), App.from (AppP.chg HVY cZ (fun b _ h1 h2 => by omega)) (by omega), fun g h1 h2 => ?_, bY.trans (cZ.below (by have := bY.size; omega) (fun i hi => by omega))⟩
    have := hKlt g h1
    have := hVge g h2
    omega
  have HCC := Lib.hid HC
  clear hY cY HC HKY HVY bY hAY hBY HK3 HV hb3 hA3 hB3 hAX' hBX HKX hKlt hVge hKge hrk hrv h'X
  go_wp2
  rw [← HY.out]
  refine bodyPost_ret (v := .agg #[.int .i64 r.off, .int .i64 r.time, .bool r.hk, .slice A2 r.key.length c2, .bool r.hv, .slice A3 r.val.length c3]) ?_ rfl ⟨_, _, rfl, HCC.out⟩
  have hz : ∀ i u, w3.cell? ⟨w.heap.size + 1, i, none⟩ = some u → Y.cell? ⟨w.heap.size + 1, i, none⟩ = some u := fun i u h => by
    rw [HY.out, World.cell?_setCell_other _ _ _ _ (by simp)]
    exact h
  have y0 := hz _ _ z0
  have y1 := hz _ _ z1
  have y2 := hz _ _ z2
  have y3 := hz _ _ z3
  have y4 := hz _ _ z4
  have y5 := hz _ _ z5
  simp [results, Try.results97, go_sem, y0, y1, y2, y3, y4, y5]
end

section
open Go.RowKit

set_option maxHeartbeats 2000000 in
theorem l12Copy_any (r : Rec) (A A' : Option Addr) (c c' : Nat) (F : Nat → Prop) (w : World) (h : Ints w F A c r.key) (h' : Ints w F A' c' r.val) (hk : r.key.length ≤ 1048576) (hv : r.val.length ≤ 1048576) :
    Calls Try.prog 77 #[.agg #[.int .i64 r.off, .int .i64 r.time, .bool r.hk, .slice A r.key.length c, .bool r.hv, .slice A' r.val.length c']] w fun e w' =>
      ∃ vk vv, e = .returned (.agg #[.int .i64 r.off, .int .i64 r.time, .bool r.hk, vk, .bool r.hv, vv]) ∧ Copied w w' r vk vv := by
  go_enter Try.func77, Try.ntmps77
  go_upto_region 1 with fail
  generalize hW : World.alloc _ _ = W
  obtain ⟨hA, hB, b1, hsW⟩ := alloc2 hW
  clear hW
  obtain ⟨q0, q1, q2, q3, q4, q5, qf⟩ := six hA
  have hL1 := App.lit (Kind.int .i64) 3 W W.heap.size (Nat.le_refl _)
  have hy1 := (h.below b1).below (bal W (.cells #[] 3))
  have hne1 : w.heap.size ≠ W.heap.size := by omega
  have hlt1 : w.heap.size < W.heap.size := by omega
  have hlt1' : w.heap.size + 1 < W.heap.size := by omega
  clear hsW
  go_wp2_with (at_builtin; go_loud (refine wpList_appF (Kind.int .i64) (xs := []) (ys := r.key) hL1 rfl _ _ 25 (.int .i64 0) 8 rfl Try.underlying25 (by kernel_rfl) rfl (bnd_int _) (onec_int _) (flat_int _) rfl rfl rfl hy1 (fun b hb => by simp at hb; omega) (by simp; omega) (by simp; omega) ?_))
  intro v1 w1 HA1 hc1 ho1
  have c1 : Below W.heap.size W w1 := (bal W (.cells #[] 3)).trans (hc1.below (by simp) (fun i hi => own_lit _ hi))
  try rw [List.nil_append] at HA1
  obtain ⟨A2, c2, rfl, _⟩ := AppP.row HA1
  have hA1 := blk_below hA c1
  have hB1 := blk_below hB c1
  clear q0 q1 q2 q3 q4 q5 qf hL1 hy1 hc1 ho1
  obtain ⟨q0, q1, q2, q3, q4, q5, qf⟩ := six hA1
  obtain ⟨X, hX⟩ : ∃ X, X = w1.setCell ⟨w.heap.size, 3, none⟩ (.slice A2 r.key.length c2) := ⟨_, rfl⟩
  have hAX := blk_put hA1 3 (.slice A2 r.key.length c2)
  rw [← hX] at hAX
  have hBX : X.heap[w.heap.size + 1]? = some (.cells #[.int .i64 0, .int .i64 0, .bool false, .slice none 0 0, .bool false, .slice none 0 0] 79 (0, 0)) := by rw [hX]; exact blk_far hB1 (p := ⟨w.heap.size, 3, none⟩) (by simp) _
  have cX : Chg (fun b => b = w.heap.size) w1 X := by rw [hX]; exact Chg.set (fun b => b = w.heap.size) w1 (p := ⟨w.heap.size, 3, none⟩) rfl _
  have HKX := AppP.chg HA1 cX (fun b _ h1 h2 => by omega)
  have hs1 := c1.size
  have bX : Below w.heap.size w X := (b1.trans (c1.mono b1.size)).trans (cX.below (by omega) (fun i hi => by omega))
  have hAX' : X.heap[w.heap.size]? = some (.cells #[.int .i64 r.off, .int .i64 r.time, .bool r.hk, .slice A2 r.key.length c2, .bool r.hv, .slice A' r.val.length c'] 79 (0, 0)) := by simpa using hAX
  have h'X := h'.keep (w' := X) (fun b _ hlt => bX.block b hlt)
  have hzX : W.heap.size ≤ X.heap.size := by have := cX.size; omega
  have HX := Lib.hid hX
  have BX := Lib.hid bX
  clear hAX hX bX cX hA hB hA1 hB1 HA1
  go_upto_region 2 with fail
  rw [← HX.out]
  clear q0 q1 q2 q3 q4 q5 qf
  obtain ⟨q0, q1, q2, q3, q4, q5, qf⟩ := six hAX'
  have hL2 := App.lit (Kind.int .i64) 3 X X.heap.size (Nat.le_refl _)
  have hy2 := h'X.below (bal X (.cells #[] 3))
  have hne2 : w.heap.size ≠ X.heap.size := by omega
  have hlt2 : w.heap.size < X.heap.size := by omega
  go_wp2_with (at_builtin; go_loud (refine wpList_appF (Kind.int .i64) (xs := []) (ys := r.val) hL2 rfl _ _ 25 (.int .i64 0) 8 rfl Try.underlying25 (by kernel_rfl) rfl (bnd_int _) (onec_int _) (flat_int _) rfl rfl rfl hy2 (fun b hb => by simp at hb; omega) (by simp; omega) (by simp; omega) ?_))
  intro v2 w3 HV hc2 ho2
  have c3 : Below X.heap.size X w3 := (bal X (.cells #[] 3)).trans (hc2.below (by simp) (fun i hi => own_lit _ hi))
  try rw [List.nil_append] at HV
  obtain ⟨A3, c3', rfl, _⟩ := AppP.row HV
  have hA3 := blk_below hAX' c3
  have hB3 := blk_below hBX c3
  have HK3 := AppP.below HKX c3
  have hVge := own_ge HV
  have hKlt : ∀ g, (Value.slice A2 r.key.length c2).ownBlock = some g → g < X.heap.size := fun g hg => AppP.own_lt HKX hg
  have hs3 := c3.size
  clear q0 q1 q2 q3 q4 q5 qf hL2 hy2 hc2 ho2
  obtain ⟨p0, p1, p2, p3, p4, p5, pf⟩ := six hA3
  obtain ⟨z0, z1, z2, z3, z4, z5, zf⟩ := six hB3
  obtain ⟨Y, hY⟩ : ∃ Y, Y = w3.setCell ⟨w.heap.size, 5, none⟩ (.slice A3 r.val.length c3') := ⟨_, rfl⟩
  have cY : Chg (fun b => b = w.heap.size) w3 Y := by rw [hY]; exact Chg.set (fun b => b = w.heap.size) w3 (p := ⟨w.heap.size, 5, none⟩) rfl _
  have HKY := AppP.chg HK3 cY (fun b _ h1 h2 => by omega)
  have HVY := AppP.chg HV cY (fun b _ h1 h2 => by omega)
  have bY : Below w.heap.size w Y := (BX.out.trans (c3.mono BX.out.size)).trans (cY.below (by omega) (fun i hi => by omega))
  have hsY := cY.size
  have HY := Lib.hid hY
  have HC : Copied w ((((((Y.setCell ⟨w.heap.size + 1, 0, none⟩ (.int .i64 r.off)).setCell ⟨w.heap.size + 1, 1, none⟩ (.int .i64 r.time)).setCell ⟨w.heap.size + 1, 2, none⟩ (.bool r.hk)).setCell ⟨w.heap.size + 1, 3, none⟩ (.slice A2 r.key.length c2)).setCell ⟨w.heap.size + 1, 4, none⟩ (.bool r.hv)).setCell ⟨w.heap.size + 1, 5, none⟩ (.slice A3 r.val.length c3')) r (.slice A2 r.key.length c2) (.slice A3 r.val.length c3') := by
    have cZ : Chg (fun b => b = w.heap.size + 1) Y ((((((Y.setCell ⟨w.heap.size + 1, 0, none⟩ (.int .i64 r.off)).setCell ⟨w.heap.size + 1, 1, none⟩ (.int .i64 r.time)).setCell ⟨w.heap.size + 1, 2, none⟩ (.bool r.hk)).setCell ⟨w.heap.size + 1, 3, none⟩ (.slice A2 r.key.length c2)).setCell ⟨w.heap.size + 1, 4, none⟩ (.bool r.hv)).setCell ⟨w.heap.size + 1, 5, none⟩ (.slice A3 r.val.length c3')) :=
      Chg.setCells (fun b => b = w.heap.size + 1) rfl [.int .i64 r.off, .int .i64 r.time, .bool r.hk, .slice A2 r.key.length c2, .bool r.hv, .slice A3 r.val.length c3'] 0 Y
    refine ⟨App.from (AppP.chg HKY cZ (fun b _ h1 h2 => by omega)) (by omega), App.from (AppP.chg HVY cZ (fun b _ h1 h2 => by omega)) (by omega), fun g h1 h2 => ?_, bY.trans (cZ.below (by omega) (fun i hi => by omega))⟩
    have := hKlt g h1
    have := hVge g h2
    omega
  have HCC := Lib.hid HC
  have hz : ∀ i u, w3.cell? ⟨w.heap.size + 1, i, none⟩ = some u → Y.cell? ⟨w.heap.size + 1, i, none⟩ = some u := fun i u h => by
    rw [hY, World.cell?_setCell_other _ _ _ _ (by simp)]
    exact h
  have HZ := Lib.hid hz
  clear hz hY cY HC HKY HVY bY HK3 HV c3 hA3 hB3 hAX' hBX HKX hKlt hVge h'X
  go_wp2
  rw [← HY.out]
  refine bodyPost_ret (v := .agg #[.int .i64 r.off, .int .i64 r.time, .bool r.hk, .slice A2 r.key.length c2, .bool r.hv, .slice A3 r.val.length c3']) ?_ rfl ⟨_, _, rfl, HCC.out⟩
  have y0 := HZ.out _ _ z0
  have y1 := HZ.out _ _ z1
  have y2 := HZ.out _ _ z2
  have y3 := HZ.out _ _ z3
  have y4 := HZ.out _ _ z4
  have y5 := HZ.out _ _ z5
  simp [results, Try.results77, go_sem, y0, y1, y2, y3, y4, y5]
end

section
open Go.RowKit

theorem info_recC : (Try.prog.info? 79).map (fun i => (i.zero, i.size, i.bytes)) = some (some (.agg #[.int .i64 0, .int .i64 0, .bool false, .slice none 0 0, .bool false, .slice none 0 0]), 6, 80) := by kernel_rfl
theorem info_batC : (Try.prog.info? 32).map (fun i => (i.zero, i.size, i.bytes)) = some (some (.agg #[.bool false, .bool false, .int .i64 0, .int .i64 0, .int .i64 0, .slice none 0 0]), 6, 56) := by kernel_rfl
/-- Parts that can be copied. -/
def Rec.short (r : Rec) : Prop := r.key.length ≤ 1048576 ∧ r.val.length ≤ 1048576

set_option maxHeartbeats 2000000 in
theorem copyRecords_any (rs : List Rec) (A : Option Addr) (c : Nat) (F : Nat → Prop) (w : World) (h : Recs w F A c rs) (hn : rs.length ≤ 1000) (hsm : ∀ r ∈ rs, r.short) :
    Calls Try.prog 76 #[.slice A rs.length c] w fun e w' => ∃ v B, e = .returned v ∧ AppX RX 79 w' (fun b => w.heap.size ≤ b) B v rs ∧ Below w.heap.size w w' := by
  have hl := h.1
  have hc := h.2.1
  have hbd := h.bound bnd_rec
  obtain ⟨cs, hcs, hmk⟩ := make_room (P := Try.prog) 30 79 _ 6 80 Try.underlying30 info_recC rs.length (by omega) (by omega)
  have hX := AppX.made RX 79 w (fun b => w.heap.size ≤ b) cs rs.length (by omega) hcs (Nat.le_refl _)
  have HB1 := Lib.hid (bal w (.cells cs 79))
  have HSM := Lib.hid hsm
  clear hcs hsm
  go_enter Try.func76, Try.ntmps76
  go_wp2_with fail
  go_loopw [3, 11] (fun v i wr => ∃ k : Nat, k ≤ rs.length ∧ i = .int .i64 k ∧ (∃ B, AppX RX 79 wr (fun b => w.heap.size ≤ b) B v (rs.take k)) ∧ Hid (Below w.heap.size w wr)) (fun _ i _ => rs.length - (intOf i).toNat)
  case atStart => exact ⟨0, Nat.zero_le _, rfl, ⟨_, hX⟩, HB1⟩
  case round =>
    obtain ⟨k, hk, rfl, ⟨B, HA⟩, HB⟩ := hrel
    clear hX HB1 hmk
    by_cases hlt : k < rs.length
    · obtain ⟨ad2, C1, d1, C2, d2, rfl, _, hi1, hi2, q0, q1, q2, q3, q4, q5⟩ := (hbd.below HB.out).rec_at hlt
      obtain ⟨A1, c1, rfl, hl1, hc1⟩ := HA.toP.slice_
      have HE := Lib.hid (List.take_succ_eq_append_getElem hlt)
      have hxl : (rs.take k).length = k := by rw [List.length_take]; omega
      obtain ⟨xs, hxs⟩ : ∃ xs, xs = rs.take k := ⟨_, rfl⟩
      rw [← hxs] at HA HE hl1 hxl
      rw [← hxs]
      clear hxs
      have hxk : xs.length ≤ 999 := by omega
      have HX := Lib.hid HA
      have hsm := HSM.out _ (List.getElem_mem hlt)
      unfold Rec.short at hsm
      have hge := HX.out.ge
      have HWS := Lib.hid HB.out.size
      clear HA hxl
      go_wp2_with fail
      generalize hW : World.alloc _ _ = W
      obtain ⟨_, b1, hzW⟩ := alloc1 hW
      clear hW
      refine (copyOf_any rs[k] C1 C2 d1 d2 _ _ (hi1.below b1) (hi2.below b1) (by omega) (by omega)).mono ?_
      rintro e w4 ⟨vk, vv, rfl, hCp⟩
      obtain ⟨Ak, ck, rfl, _⟩ := AppP.row hCp.key
      obtain ⟨Av, cv, rfl, _⟩ := AppP.row hCp.val
      have b4 := bthen b1 hCp.below
      have X4 := Lib.hid (HX.out.below b4)
      have XK := Lib.hid hCp.x
      have B4 := Lib.hid (bthen HB.out b4)
      clear q0 q1 q2 q3 q4 q5 hi1 hi2 b4 b1
      go_wp2_with (at_builtin; go_loud (refine wpList_appX RX X4.out rfl _ _ 30 (.agg #[.int .i64 0, .int .i64 0, .bool false, .slice none 0 0, .bool false, .slice none 0 0]) 80 rfl Try.underlying30 (by kernel_rfl) rfl (by decide) rs[k] _ _ rfl rfl XK.out (fun b hb => ⟨by have := HWS.out; omega, by have := HX.out.1; omega⟩) (by simp [Value.oneCell']) (fun b hb => by have := B4.out.size; omega) (by omega) (by omega) ?_))
      intro v1 w5 HA5 hc5 ho5
      have B5 := Lib.hid (B4.out.trans (hc5.below B4.out.size (fun i hi => (hge i hi).1)))
      rw [← HE.out] at HA5
      clear hc5 ho5 hge X4 XK hCp
      go_wp2
      go_roundw
      case rel => exact ⟨k + 1, by omega, by go_num, ⟨_, HA5⟩, B5⟩
      case measure => simp [intOf]; omega
    · have hk2 : k = rs.length := by omega
      subst hk2
      rw [List.take_length] at HA
      go_wp2
      go_ret
      exact ⟨_, _, rfl, HA, HB.out⟩

set_option maxHeartbeats 2000000 in
theorem copyOfB_any (b : Bat) (A : Option Addr) (c : Nat) (F : Nat → Prop) (w : World) (h : Recs w F A c b.recs) (hn : b.recs.length ≤ 1000) (hsm : ∀ r ∈ b.recs, r.short) :
    Calls Try.prog 51 #[.agg #[.bool b.packed, .bool b.mark, .int .i64 b.prod, .int .i64 b.epoch, .int .i64 b.seq, .slice A b.recs.length c]] w fun e w' =>
      ∃ B d, e = .returned (.agg #[.bool b.packed, .bool b.mark, .int .i64 b.prod, .int .i64 b.epoch, .int .i64 b.seq, .slice B b.recs.length d]) ∧ XRecs 3 79 w' (fun i => w.heap.size ≤ i) B d b.recs ∧ Below w.heap.size w w' := by
  go_enter Try.func51, Try.ntmps51
  go_wp2_with fail
  generalize hW : World.alloc _ _ = W
  obtain ⟨hA, hB, b1, hsW⟩ := alloc2 hW
  clear hW
  refine (copyRecords_any b.recs A c _ _ (h.below b1) hn hsm).mono ?_
  rintro e w2 ⟨v, Bd, rfl, HX, hb2⟩
  obtain ⟨A2, c2, rfl, hr⟩ := HX.row
  have hA2 := blk_below hA hb2
  have hB2 := blk_below hB hb2
  have b2 := bthen b1 hb2
  have hr := hr.bound
  obtain ⟨q0, q1, q2, q3, q4, q5, qf⟩ := six hA2
  obtain ⟨X, hX⟩ : ∃ X, X = w2.setCell ⟨w.heap.size, 5, none⟩ (.slice A2 b.recs.length c2) := ⟨_, rfl⟩
  have hAX := blk_put hA2 5 (.slice A2 b.recs.length c2)
  rw [← hX] at hAX
  have hBX : X.heap[w.heap.size + 1]? = some (.cells #[.bool false, .bool false, .int .i64 0, .int .i64 0, .int .i64 0, .slice none 0 0] 32 (0, 0)) := by rw [hX]; exact blk_far hB2 (p := ⟨w.heap.size, 5, none⟩) (by simp) _
  have cX : Chg (fun i => i = w.heap.size) w2 X := by rw [hX]; exact Chg.set (fun i => i = w.heap.size) w2 (p := ⟨w.heap.size, 5, none⟩) rfl _
  have hAX' : X.heap[w.heap.size]? = some (.cells #[.bool b.packed, .bool b.mark, .int .i64 b.prod, .int .i64 b.epoch, .int .i64 b.seq, .slice A2 b.recs.length c2] 32 (0, 0)) := by simpa using hAX
  have hs2 := hb2.size
  have hrX := hr.keep (w' := X) (cX.same (fun i _ h1 h2 => by have := h1.1; omega)) cX.size
  have bX : Below w.heap.size w X := b2.trans (cX.below b2.size (fun i hi => by omega))
  have hzX : w.heap.size + 1 < X.heap.size := by have := cX.size; omega
  have cZ : Chg (fun i => i = w.heap.size + 1) X ((((((X.setCell ⟨w.heap.size + 1, 0, none⟩ (.bool b.packed)).setCell ⟨w.heap.size + 1, 1, none⟩ (.bool b.mark)).setCell ⟨w.heap.size + 1, 2, none⟩ (.int .i64 b.prod)).setCell ⟨w.heap.size + 1, 3, none⟩ (.int .i64 b.epoch)).setCell ⟨w.heap.size + 1, 4, none⟩ (.int .i64 b.seq)).setCell ⟨w.heap.size + 1, 5, none⟩ (.slice A2 b.recs.length c2)) :=
    Chg.setCells (fun i => i = w.heap.size + 1) rfl [.bool b.packed, .bool b.mark, .int .i64 b.prod, .int .i64 b.epoch, .int .i64 b.seq, .slice A2 b.recs.length c2] 0 X
  have HZ := Lib.hid ((hrX.keep (cZ.same (fun i _ h1 h2 => by have := h1.1; omega)) cZ.size).mono (F' := fun i => w.heap.size ≤ i) (fun i hi => by have := hi.1; omega))
  have BZ := Lib.hid (bX.trans (cZ.below bX.size (fun i hi => by omega)))
  have HX2 := Lib.hid hX
  have HBX := Lib.hid hBX
  obtain ⟨u0, u1, u2, u3, u4, u5, uf⟩ := six hB2
  clear hX hAX hAX' hBX cX hrX bX cZ HX hr hA hB hA2 hB2 b1 b2 hb2
  go_wp2
  rw [← HX2.out]
  refine bodyPost_ret (v := .agg #[.bool b.packed, .bool b.mark, .int .i64 b.prod, .int .i64 b.epoch, .int .i64 b.seq, .slice A2 b.recs.length c2]) ?_ rfl ⟨_, _, rfl, HZ.out, BZ.out⟩
  obtain ⟨z0, z1, z2, z3, z4, z5, zf⟩ := six HBX.out
  simp [results, Try.results51, go_sem, z0, z1, z2, z3, z4, z5]

set_option maxHeartbeats 2000000 in
theorem l12Batch_any (b : Bat) (A : Option Addr) (c : Nat) (F : Nat → Prop) (w : World) (h : Recs w F A c b.recs) (hn : b.recs.length ≤ 1000) (hsm : ∀ r ∈ b.recs, r.short) :
    Calls Try.prog 53 #[.agg #[.bool b.packed, .bool b.mark, .int .i64 b.prod, .int .i64 b.epoch, .int .i64 b.seq, .slice A b.recs.length c]] w fun e w' =>
      ∃ B d, e = .returned (.agg #[.bool b.packed, .bool b.mark, .int .i64 b.prod, .int .i64 b.epoch, .int .i64 b.seq, .slice B b.recs.length d]) ∧ XRecs 3 79 w' (fun i => w.heap.size ≤ i) B d b.recs ∧ Below w.heap.size w w' := by
  have hl := h.1
  have hc := h.2.1
  have hbd := h.bound bnd_rec
  have HSM := Lib.hid hsm
  clear hsm
  go_enter Try.func53, Try.ntmps53
  go_wp2_with fail
  generalize hW : World.alloc _ _ = W
  obtain ⟨hA, hB, _, b1, hsW⟩ := alloc3 hW
  have hX : AppX RX 79 W (fun i => w.heap.size + 1 < i) (w.heap.size + 1 + 1 + 1) (.slice (some ⟨w.heap.size + 1 + 1, 0, none⟩) 0 0) [] := by
    rw [← hW]
    have := AppX.lit RX 79 ((w.alloc (.cells #[.bool b.packed, .bool b.mark, .int .i64 b.prod, .int .i64 b.epoch, .int .i64 b.seq, .slice A b.recs.length c] 32)).alloc (.cells #[.bool false, .bool false, .int .i64 0, .int .i64 0, .int .i64 0, .slice none 0 0] 32)) (fun i => w.heap.size + 1 < i) (by simp)
    simpa using this
  clear hW
  have HA0 := Lib.hid hA
  have HB0 := Lib.hid hB
  have HL0 := Lib.hid b1
  clear hA hB b1
  go_loopw [3, 4] (fun v i wr => ∃ k : Nat, k ≤ b.recs.length ∧ i = .int .i64 k ∧ (∃ B, AppX RX 79 wr (fun i => w.heap.size + 1 < i) B v (b.recs.take k)) ∧
    Hid (wr.heap[w.heap.size]? = some (.cells #[.bool b.packed, .bool b.mark, .int .i64 b.prod, .int .i64 b.epoch, .int .i64 b.seq, .slice A b.recs.length c] 32 (0, 0))) ∧
    Hid (wr.heap[w.heap.size + 1]? = some (.cells #[.bool false, .bool false, .int .i64 0, .int .i64 0, .int .i64 0, .slice none 0 0] 32 (0, 0))) ∧ Hid (Below w.heap.size w wr)) (fun _ i _ => b.recs.length - (intOf i).toNat)
  case atStart => exact ⟨0, Nat.zero_le _, rfl, ⟨_, hX⟩, HA0, HB0, HL0⟩
  case round =>
    obtain ⟨k, hk, rfl, ⟨B, HA⟩, HP, HQ, HB⟩ := hrel
    clear hX HA0 HB0 HL0
    obtain ⟨p0, p1, p2, p3, p4, p5, pf⟩ := six HP.out
    have HWS := Lib.hid (show w.heap.size + 1 < wr.heap.size from (Array.getElem?_eq_some_iff.1 HQ.out).1)
    by_cases hlt : k < b.recs.length
    · obtain ⟨ad2, C1, d1, C2, d2, rfl, _, hi1, hi2, q0, q1, q2, q3, q4, q5⟩ := (hbd.below HB.out).rec_at hlt
      obtain ⟨A1, c1, rfl, hl1, hc1⟩ := HA.toP.slice_
      have HE := Lib.hid (List.take_succ_eq_append_getElem hlt)
      have hxl : (b.recs.take k).length = k := by rw [List.length_take]; omega
      obtain ⟨xs, hxs⟩ : ∃ xs, xs = b.recs.take k := ⟨_, rfl⟩
      rw [← hxs] at HA HE hl1 hxl
      rw [← hxs]
      clear hxs
      have hxk : xs.length ≤ 999 := by omega
      have HX := Lib.hid HA
      have hsm := HSM.out _ (List.getElem_mem hlt)
      unfold Rec.short at hsm
      have hge := HX.out.ge
      clear HA hxl
      go_wp2_with fail
      refine (l12Copy_any b.recs[k] C1 C2 d1 d2 _ _ hi1 hi2 (by omega) (by omega)).mono ?_
      rintro e w4 ⟨vk, vv, rfl, hCp⟩
      obtain ⟨Ak, ck, rfl, _⟩ := AppP.row hCp.key
      obtain ⟨Av, cv, rfl, _⟩ := AppP.row hCp.val
      have X4 := Lib.hid (HX.out.below hCp.below)
      have XK := Lib.hid hCp.x
      have B4 := Lib.hid (bthen HB.out hCp.below)
      have HP4 := Lib.hid (blk_below HP.out hCp.below)
      have HQ4 := Lib.hid (blk_below HQ.out hCp.below)
      have HS4 := Lib.hid hCp.below.size
      clear q0 q1 q2 q3 q4 q5 p0 p1 p2 p3 p4 p5 pf hi1 hi2
      go_wp2_with (at_builtin; go_loud (refine wpList_appX RX X4.out rfl _ _ 30 (.agg #[.int .i64 0, .int .i64 0, .bool false, .slice none 0 0, .bool false, .slice none 0 0]) 80 rfl Try.underlying30 (by kernel_rfl) rfl (by decide) b.recs[k] _ _ rfl rfl XK.out (fun b hb => ⟨by have := HWS.out; omega, by have := HX.out.1; omega⟩) (by simp [Value.oneCell']) (fun b hb => by have := HS4.out; have := HWS.out; omega) (by omega) (by omega) ?_))
      intro v1 w5 HA5 hc5 ho5
      have B5 := Lib.hid (B4.out.trans (hc5.below B4.out.size (fun i hi => by have := (hge i hi).1; omega)))
      have HP5 := Lib.hid (hc5.blk HP4.out (fun e => by have := (hge _ e).1; omega))
      have HQ5 := Lib.hid (hc5.blk HQ4.out (fun e => by have := (hge _ e).1; omega))
      rw [← HE.out] at HA5
      clear hc5 ho5 hge X4 XK hCp
      go_wp2
      go_roundw
      case rel => exact ⟨k + 1, by omega, by go_num, ⟨_, HA5⟩, HP5, HQ5, B5⟩
      case measure => simp [intOf]; omega
    · have hk2 : k = b.recs.length := by omega
      subst hk2
      rw [List.take_length] at HA
      obtain ⟨A2, c2, rfl, hr⟩ := HA.row
      have hr := hr.bound
      have hAX := blk_put HP.out 5 (.slice A2 b.recs.length c2)
      obtain ⟨X, hX⟩ : ∃ X, X = wr.setCell ⟨w.heap.size, 5, none⟩ (.slice A2 b.recs.length c2) := ⟨_, rfl⟩
      rw [← hX] at hAX
      have hBX : X.heap[w.heap.size + 1]? = some (.cells #[.bool false, .bool false, .int .i64 0, .int .i64 0, .int .i64 0, .slice none 0 0] 32 (0, 0)) := by rw [hX]; exact blk_far HQ.out (p := ⟨w.heap.size, 5, none⟩) (by simp) _
      have cX : Chg (fun i => i = w.heap.size) wr X := by rw [hX]; exact Chg.set (fun i => i = w.heap.size) wr (p := ⟨w.heap.size, 5, none⟩) rfl _
      have hs2 := HWS.out
      have hrX := hr.keep (w' := X) (cX.same (fun i _ h1 h2 => by have := h1.1; omega)) cX.size
      have bX : Below w.heap.size w X := HB.out.trans (cX.below HB.out.size (fun i hi => by omega))
      have cZ : Chg (fun i => i = w.heap.size + 1) X ((((((X.setCell ⟨w.heap.size + 1, 0, none⟩ (.bool b.packed)).setCell ⟨w.heap.size + 1, 1, none⟩ (.bool b.mark)).setCell ⟨w.heap.size + 1, 2, none⟩ (.int .i64 b.prod)).setCell ⟨w.heap.size + 1, 3, none⟩ (.int .i64 b.epoch)).setCell ⟨w.heap.size + 1, 4, none⟩ (.int .i64 b.seq)).setCell ⟨w.heap.size + 1, 5, none⟩ (.slice A2 b.recs.length c2)) :=
        Chg.setCells (fun i => i = w.heap.size + 1) rfl [.bool b.packed, .bool b.mark, .int .i64 b.prod, .int .i64 b.epoch, .int .i64 b.seq, .slice A2 b.recs.length c2] 0 X
      have HZ := Lib.hid ((hrX.keep (cZ.same (fun i _ h1 h2 => by have := h1.1; omega)) cZ.size).mono (F' := fun i => w.heap.size ≤ i) (fun i hi => by have := hi.1; omega))
      have BZ := Lib.hid (bX.trans (cZ.below bX.size (fun i hi => by omega)))
      have HX2 := Lib.hid hX
      have HBX := Lib.hid hBX
      obtain ⟨u0, u1, u2, u3, u4, u5, uf⟩ := six HQ.out
      clear hX hAX hBX cX hrX bX cZ HA hr
      go_wp2
      rw [← HX2.out]
      refine bodyPost_ret (v := .agg #[.bool b.packed, .bool b.mark, .int .i64 b.prod, .int .i64 b.epoch, .int .i64 b.seq, .slice A2 b.recs.length c2]) ?_ rfl ⟨_, _, rfl, HZ.out, BZ.out⟩
      obtain ⟨z0, z1, z2, z3, z4, z5, zf⟩ := six HBX.out
      simp [results, Try.results53, go_sem, z0, z1, z2, z3, z4, z5]
end
end Go.Proofs.Ytfkhmmekdmochaa
