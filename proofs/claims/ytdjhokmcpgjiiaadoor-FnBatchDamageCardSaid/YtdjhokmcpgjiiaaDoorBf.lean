/- BatchFrom of the program. -/
import Derived.Test.YtdjhokmcpgjiiaaDoorBi
import Derived.Test.YtdjhokmcpgjiiaaDoorAs
namespace Go.Proofs.YtdjhokmcpgjiiaaDoor
set_option linter.unusedVariables false
set_option linter.unusedSimpArgs false
open Go.RowKit

/-- The variable that errors.As reads. -/
def LaidC (w : World) : Prop := w.cell? ⟨0, 0, none⟩ = some (.iface 131 (.agg #[.pointer (some ⟨1, 51, none⟩)]))
theorem LaidC.below {w w' : World} (h : LaidC w) (hb : Below w.heap.size w w') : LaidC w' := below_cell hb h
theorem oneb {w : World} {g : Nat} {t : TypeId} {v0 : Value} (h : w.heap[g]? = some (.cells #[v0] t (0, 0))) : w.cell? ⟨g, 0, none⟩ = some v0 ∧ ∀ i, w.frozen? ⟨g, i, none⟩ = false := by
  refine ⟨?_, fun i => ?_⟩ <;> simp [World.cell?, World.frozen?, h]
set_option maxRecDepth 20000 in
set_option maxHeartbeats 1000000 in
theorem BatchFrom_bytes (l : List Int) (A : Option Addr) (c : Nat) (F : Nat → Prop) (i : Int) (w : World) (h : Ints w F A c l) (hb : bytesB l = false) :
    Calls Tryd.prog 11 #[.slice A l.length c, .int .i64 i] w fun e w' => e = .returned (.tuple #[BZ, .int .i64 0, .bool false]) ∧ Below w.heap.size w w' := by
  have HBY := Lib.hid hb
  clear hb
  go_enter Tryd.func11, Tryd.ntmps11
  go_wp2_with fail
  refine (allBytes_any l A c F _ (h.below (bal _ _))).mono ?_
  rintro e w' ⟨rfl, rfl⟩
  rw [HBY.out]
  go_wp2
  refine bodyPost_ret (v := .tuple #[BZ, .int .i64 0, .bool false]) (by simp [results, Tryd.results11, go_sem]) rfl ⟨rfl, ?_⟩
  exact bal _ _
set_option maxRecDepth 20000 in
set_option maxHeartbeats 1000000 in
theorem BatchFrom_none (l : List Int) (A : Option Addr) (c : Nat) (F : Nat → Prop) (i : Int) (w : World) (hg : LaidC w) (h : Ints w F A c l) (hb : bytesB l = true) (hn : l.length ≤ 4194304) (hr : rdAtI l i = none) :
    Calls Tryd.prog 11 #[.slice A l.length c, .int .i64 i] w fun e w' => e = .returned (.tuple #[BZ, .int .i64 0, .bool false]) ∧ Below w.heap.size w w' := by
  have HBY := Lib.hid hb
  have HR := Lib.hid hr
  have HG := Lib.hid hg
  clear hb hr hg
  go_enter Tryd.func11, Tryd.ntmps11
  go_wp2_with fail
  generalize hW : World.alloc _ _ = W0
  obtain ⟨hA0, b0, hz0⟩ := alloc1 hW
  clear hW
  refine (allBytes_any l A c F _ (h.below b0)).mono ?_
  rintro e w' ⟨rfl, rfl⟩
  rw [HBY.out]
  go_wp2_with fail
  refine (batchAt_none l A c F i _ (h.below b0) HBY.out hn HR.out).mono ?_
  rintro e w2 ⟨⟨v, rfl, g, rfl⟩, hb2⟩
  have hA2 := blk_below hA0 hb2
  have b2 := bthen b0 hb2
  have hlt2 := blk_lt hA2
  clear hA0 hz0 hb2 b0
  go_wp2_with fail
  generalize hW : World.alloc _ _ = W3
  obtain ⟨hB3, hN3, b3, hz3⟩ := alloc2 hW
  clear hW
  have hA3 := blk_below hA2 b3
  have HB3 := Lib.hid (bthen b2 b3)
  have HG3 := Lib.hid (HG.out.below HB3.out)
  obtain ⟨t0, tf⟩ := oneb hN3
  clear hA2 b2 b3 hB3 hN3 hz3
  refine (as_yes ⟨g, 0, none⟩ ⟨w2.heap.size + 1, 0, none⟩ _ _ HG3.out t0 (tf 0)).mono ?_
  rintro e w4 ⟨rfl, c4⟩
  have hA4 := c4.blk hA3 (by show ¬ w.heap.size = w2.heap.size + 1; omega)
  have HB4 := Lib.hid (HB3.out.trans (c4.below HB3.out.size (fun i (hi : i = w2.heap.size + 1) => by omega)))
  clear c4 hA3 t0 tf
  obtain ⟨x0, x1, x2, x3, x4, x5, xf⟩ := six hA4
  go_wp2
  refine bodyPost_ret (v := .tuple #[BZ, .int .i64 0, .bool false]) (by simp [results, Tryd.results11, go_sem, x0, x1, x2, x3, x4, x5]) rfl ⟨rfl, ?_⟩
  exact HB4.out.trans (zeroB.below HB4.out.size (fun i hi => by omega))
set_option maxRecDepth 20000 in
set_option maxHeartbeats 1000000 in
theorem BatchFrom_some (l : List Int) (A : Option Addr) (c : Nat) (F : Nat → Prop) (p : Nat) (w : World) (h : Ints w F A c l) (hb : bytesB l = true) (hn : l.length ≤ 4194304) {b : Bat} (hr : rdBat l p = some b) :
    Calls Tryd.prog 11 #[.slice A l.length c, .int .i64 (p : Int)] w fun e w' => ∃ A' c', e = .returned (.tuple #[BV b A' c', .int .i64 ((p + (batBytes b).length : Nat) : Int), .bool true]) ∧ XRecs 3 59 w' (fun g => w.heap.size ≤ g) A' c' b.recs ∧ Below w.heap.size w w' := by
  have HBY := Lib.hid hb
  have HR := Lib.hid hr
  clear hb hr
  go_enter Tryd.func11, Tryd.ntmps11
  go_wp2_with fail
  generalize hW : World.alloc _ _ = W0
  obtain ⟨hA0, b0, hz0⟩ := alloc1 hW
  clear hW
  refine (allBytes_any l A c F _ (h.below b0)).mono ?_
  rintro e w' ⟨rfl, rfl⟩
  rw [HBY.out]
  go_wp2_with fail
  refine (batchAt_some l A c F p _ (h.below b0) HBY.out hn HR.out).mono ?_
  rintro e w2 ⟨A', c', rfl, HX, hb2⟩
  obtain ⟨n, hn0⟩ : ∃ n, n = p + (batBytes b).length := ⟨_, rfl⟩
  rw [← hn0]
  have HN0 := Lib.hid hn0
  clear hn0
  have hA2 := blk_below hA0 hb2
  have b2 := bthen b0 hb2
  have hlt2 := blk_lt hA2
  have HX2 := Lib.hid HX.bound
  have hz2 := hb2.size
  clear hA0 hb2 b0 HX
  go_wp2_with fail
  generalize hW : World.alloc _ _ = W3
  obtain ⟨hB3, hN3, b3, hz3⟩ := alloc2 hW
  clear hW
  have hA3 := blk_below hA2 b3
  have HB3 := Lib.hid (bthen b2 b3)
  have HX3 := Lib.hid (HX2.out.below b3)
  clear hA2 b2 b3 hN3 hz3
  refine (as_nil _ _).mono ?_
  rintro e w4 ⟨rfl, rfl⟩
  obtain ⟨x0, x1, x2, x3, x4, x5, xf⟩ := six hA3
  obtain ⟨u0, u1, u2, u3, u4, u5, uf⟩ := six hB3
  go_wp2
  have cZ := Chg.setCells (fun b => b = w.heap.size) (g := w.heap.size) rfl [.bool b.packed, .bool b.mark, .int .i64 b.prod, .int .i64 b.epoch, .int .i64 b.seq, .slice A' b.recs.length c'] 0 w4
  refine bodyPost_ret (v := .tuple #[BV b A' c', .int .i64 (n : Int), .bool true]) (by simp [results, Tryd.results11, go_sem, x0, x1, x2, x3, x4, x5]) rfl ⟨A', c', by rw [HN0.out], ?_, ?_⟩
  · exact (HX3.out.keep (cZ.same (fun i _ h1 h2 => by have := h1.1; omega)) cZ.size).mono (fun i hi => by have := hi.1; omega)
  · exact HB3.out.trans (cZ.below HB3.out.size (fun i hi => by omega))
end Go.Proofs.YtdjhokmcpgjiiaaDoor
