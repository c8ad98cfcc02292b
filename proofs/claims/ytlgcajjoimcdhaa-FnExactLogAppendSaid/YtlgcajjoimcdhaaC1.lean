/- Copies of records. -/
import Derived.Test.YtlgcajjoimcdhaaA3
namespace Go.Proofs.Ytlgcajjoimcdhaa
set_option linter.unusedVariables false
set_option linter.unusedSimpArgs false
open Go.RowKit

theorem eqNilInts (W : World) (a : Option Addr) (n c n' c' : Nat) : (binOp .eql 31 (.slice a n c) (.slice none n' c')).run Try.prog W = .ok (.bool a.isNone) W := Lib.run_eql_slice_nil W _ _ a n c n' c' Try.underlying31
theorem Clone_any (xs : List Int) (A : Option Addr) (c : Nat) (F : Nat → Prop) (w : World) (h : Ints w F A c xs) (hsm : xs.length ≤ 1048576) :
    Calls Try.prog 84 #[.slice A xs.length c] w fun e w' => ∃ v, e = .returned v ∧ App (Kind.int .i64) 3 w' w.heap.size v xs ∧ Below w.heap.size w w' := by
  have hq := eqNilInts
  cases A with
  | none =>
    have hnil : xs = [] := Classical.byContradiction fun hx => by
      obtain ⟨ad, e, _⟩ := h.2.2 hx
      cases e
    subst hnil
    go_enter Try.func84, Try.ntmps84
    go_wp2
    go_ret
    exact ⟨_, rfl, AppP.nil _ _ _ _, Below.refl _ _⟩
  | some ad =>
    go_enter Try.func84, Try.ntmps84
    have hL := App.lit (Kind.int .i64) 3 w w.heap.size (Nat.le_refl _)
    have hh := h.below (bal w (.cells #[] 3))
    go_wp2_with (at_builtin; go_loud (refine wpList_appF (Kind.int .i64) (xs := []) (ys := xs) hL rfl _ _ 31 (.int .i64 0) 8 rfl Try.underlying31 (by kernel_rfl) rfl (bnd_int _) (onec_int _) (flat_int _) rfl rfl rfl hh (fun b hb => by simp at hb; omega) (by simp; omega) (by simp; omega) ?_))
    intro v1 w1 HA hc1 ho1
    have HA1 := Lib.hid HA
    have HB := Lib.hid ((bal w (.cells #[] 3)).trans (hc1.below (by simp) (fun i hi => own_lit _ hi)))
    clear HA hc1 ho1 hL hh
    go_wp2
    go_ret
    exact ⟨v1, rfl, by have := HA1.out; simpa using this, HB.out⟩

/-- A record's copy: its parts are its own, and apart. -/
structure Copied (w w' : World) (r : Rec) (vk vv : Value) : Prop where
  key : App (Kind.int .i64) 3 w' w.heap.size vk r.key
  val : App (Kind.int .i64) 3 w' w.heap.size vv r.val
  apart : ∀ g, vk.ownBlock = some g → vv.ownBlock ≠ some g
  below : Below w.heap.size w w'
theorem own_ge {α : Type} {d : Kind α} {e : TypeId} {w : World} {base : Nat} {v : Value} {xs : List α} (h : App d e w base v xs) : ∀ g, v.ownBlock = some g → base ≤ g := fun _ hg => AppP.ne h hg
set_option maxHeartbeats 1000000 in
theorem copyOf_any (r : Rec) (A A' : Option Addr) (c c' : Nat) (F : Nat → Prop) (w : World) (h : Ints w F A c r.key) (h' : Ints w F A' c' r.val) (hk : r.key.length ≤ 1048576) (hv : r.val.length ≤ 1048576) :
    Calls Try.prog 70 #[.agg #[.int .i64 r.off, .int .i64 r.time, .bool r.hk, .slice A r.key.length c, .bool r.hv, .slice A' r.val.length c']] w fun e w' =>
      ∃ vk vv, e = .returned (.agg #[.int .i64 r.off, .int .i64 r.time, .bool r.hk, vk, .bool r.hv, vv]) ∧ Copied w w' r vk vv := by
  go_enter Try.func70, Try.ntmps70
  go_wp2_with fail
  generalize hW : World.alloc _ _ = W
  obtain ⟨hA, hB, b1, hsW⟩ := alloc2 hW
  clear hW
  refine (Clone_any r.key A c _ _ (h.below b1) hk).mono ?_
  rintro e w2 ⟨vk, rfl, HK, hb2⟩
  obtain ⟨A2, c2, rfl, hrk⟩ := AppP.row HK
  have hA2 := blk_below hA hb2
  have hB2 := blk_below hB hb2
  obtain ⟨q0, q1, q2, q3, q4, q5, qf⟩ := six hA2
  obtain ⟨X, hX⟩ : ∃ X, X = w2.setCell ⟨w.heap.size, 3, none⟩ (.slice A2 r.key.length c2) := ⟨_, rfl⟩
  have hAX := blk_put hA2 3 (.slice A2 r.key.length c2)
  rw [← hX] at hAX
  have hBX : X.heap[w.heap.size + 1]? = some (.cells #[.int .i64 0, .int .i64 0, .bool false, .slice none 0 0, .bool false, .slice none 0 0] 33 (0, 0)) := by rw [hX]; exact blk_far hB2 (p := ⟨w.heap.size, 3, none⟩) (by simp) _
  have cX : Chg (fun b => b = w.heap.size) w2 X := by rw [hX]; exact Chg.set (fun b => b = w.heap.size) w2 (p := ⟨w.heap.size, 3, none⟩) rfl _
  have HKX := AppP.chg HK cX (fun b _ h1 h2 => by omega)
  have bX : Below w.heap.size w X := ((b1.trans (hb2.mono b1.size))).trans (cX.below (by have := hb2.size; omega) (fun i hi => by omega))
  have hzX : w.heap.size + 1 + 1 ≤ X.heap.size := by have := cX.size; have := hb2.size; omega
  have hAX' : X.heap[w.heap.size]? = some (.cells #[.int .i64 r.off, .int .i64 r.time, .bool r.hk, .slice A2 r.key.length c2, .bool r.hv, .slice A' r.val.length c'] 33 (0, 0)) := by simpa using hAX
  have h'X := h'.keep (w' := X) (fun b _ hlt => bX.block b hlt)
  have HX := Lib.hid hX
  have BX := Lib.hid bX
  have hKge := own_ge HK
  clear hAX hX bX cX hb2 hA hB hA2 hB2 b1 HK
  go_wp2_with fail
  rw [← HX.out]
  clear q0 q1 q2 q3 q4 q5 qf
  refine (Clone_any r.val A' c' _ _ h'X hv).mono ?_
  rintro e w3 ⟨vv, rfl, HV, hb3⟩
  obtain ⟨A3, c3, rfl, hrv⟩ := AppP.row HV
  have hA3 := blk_below hAX' hb3
  have hB3 := blk_below hBX hb3
  have HK3 := AppP.below HKX hb3
  have hVge := own_ge HV
  have hKlt : ∀ g, (Value.slice A2 r.key.length c2).ownBlock = some g → g < X.heap.size := fun g hg => AppP.own_lt HKX hg
  obtain ⟨Y, hY⟩ : ∃ Y, Y = w3.setCell ⟨w.heap.size, 5, none⟩ (.slice A3 r.val.length c3) := ⟨_, rfl⟩
  have hAY : Y.heap[w.heap.size]? = some (.cells #[.int .i64 r.off, .int .i64 r.time, .bool r.hk, .slice A2 r.key.length c2, .bool r.hv, .slice A3 r.val.length c3] 33 (0, 0)) := by
    rw [hY]
    have := blk_put hA3 5 (.slice A3 r.val.length c3)
    simpa using this
  have hBY : Y.heap[w.heap.size + 1]? = some (.cells #[.int .i64 0, .int .i64 0, .bool false, .slice none 0 0, .bool false, .slice none 0 0] 33 (0, 0)) := by rw [hY]; exact blk_far hB3 (p := ⟨w.heap.size, 5, none⟩) (by simp) _
  have cY : Chg (fun b => b = w.heap.size) w3 Y := by rw [hY]; exact Chg.set (fun b => b = w.heap.size) w3 (p := ⟨w.heap.size, 5, none⟩) rfl _
  have HKY := AppP.chg HK3 cY (fun b _ h1 h2 => by omega)
  have HVY := AppP.chg HV cY (fun b _ h1 h2 => by omega)
  have bY : Below w.heap.size w Y := (BX.out.trans (hb3.mono BX.out.size)).trans (cY.below (by have := hb3.size; omega) (fun i hi => by omega))
  obtain ⟨p0, p1, p2, p3, p4, p5, pf⟩ := six hA3
  obtain ⟨z0, z1, z2, z3, z4, z5, zf⟩ := six hB3
  have HY := Lib.hid hY
  have HC : Copied w (((((Y.setCell ⟨w.heap.size + 1, 0, none⟩ (.int .i64 r.off)).setCell ⟨w.heap.size + 1, 1, none⟩ (.int .i64 r.time)).setCell ⟨w.heap.size + 1, 2, none⟩ (.bool r.hk)).setCell ⟨w.heap.size + 1, 3, none⟩ (.slice A2 r.key.length c2)).setCell ⟨w.heap.size + 1, 4, none⟩ (.bool r.hv) |>.setCell ⟨w.heap.size + 1, 5, none⟩ (.slice A3 r.val.length c3)) r (.slice A2 r.key.length c2) (.slice A3 r.val.length c3) := by
    have cZ : Chg (fun b => b = w.heap.size + 1) Y ((((((Y.setCell ⟨w.heap.size + 1, 0, none⟩ (.int .i64 r.off)).setCell ⟨w.heap.size + 1, 1, none⟩ (.int .i64 r.time)).setCell ⟨w.heap.size + 1, 2, none⟩ (.bool r.hk)).setCell ⟨w.heap.size + 1, 3, none⟩ (.slice A2 r.key.length c2)).setCell ⟨w.heap.size + 1, 4, none⟩ (.bool r.hv)).setCell ⟨w.heap.size + 1, 5, none⟩ (.slice A3 r.val.length c3)) :=
      Chg.setCells (fun b => b = w.heap.size + 1) rfl [.int .i64 r.off, .int .i64 r.time, .bool r.hk, .slice A2 r.key.length c2, .bool r.hv, .slice A3 r.val.length c3] 0 Y
    refine ⟨App.from (AppP.chg HKY cZ (fun b _ h1 h2 => by omega)) (by omega), App.from (AppP.chg HVY cZ (fun b _ h1 h2 => by omega)) (by omega), fun g h1 h2 => ?_, bY.trans (cZ.below (by have := bY.size; omega) (fun i hi => by omega))⟩
    have := hKlt g h1
    have := hVge g h2
    omega
  have HCC := Lib.hid HC
  clear hY cY HC HKY HVY bY hAY hBY HK3 HV hb3 hA3 hB3 hAX' hBX HKX hKlt hVge hKge hrk hrv h'X
  go_wp2
  rw [← HY.out]
  refine bodyPost_ret (v := .agg #[.int .i64 r.off, .int .i64 r.time, .bool r.hk, .slice A2 r.key.length c2, .bool r.hv, .slice A3 r.val.length c3]) ?_ rfl ⟨_, _, rfl, HCC.out⟩
  have hz : ∀ i u, w3.cell? ⟨w.heap.size + 1, i, none⟩ = some u → Y.cell? ⟨w.heap.size + 1, i, none⟩ = some u := fun i u h => by
    rw [HY.out, World.cell?_setCell_other _ _ _ _ (by simp)]
    exact h
  have y0 := hz _ _ z0
  have y1 := hz _ _ z1
  have y2 := hz _ _ z2
  have y3 := hz _ _ z3
  have y4 := hz _ _ z4
  have y5 := hz _ _ z5
  simp [results, Try.results70, go_sem, y0, y1, y2, y3, y4, y5]
end Go.Proofs.Ytlgcajjoimcdhaa
