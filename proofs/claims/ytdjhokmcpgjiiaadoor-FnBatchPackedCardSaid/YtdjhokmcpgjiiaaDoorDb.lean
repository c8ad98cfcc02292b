/- Draws: a batch. -/
import Derived.Test.YtdjhokmcpgjiiaaDoorD4
import Derived.Test.YtdjhokmcpgjiiaaDoorD3
namespace Go.Proofs.YtdjhokmcpgjiiaaDoor
set_option linter.unusedVariables false
set_option linter.unusedSimpArgs false
open Go.RowKit

theorem DrawBatchBytes_any (bs0 : List Int) (A : Option Addr) (c : Nat) (F : Nat → Prop) (w : World) (h : Kind.byte.Row w F A c bs0) :
    Calls Tryd.prog 7 #[.slice A bs0.length c] w fun e w' => ∃ (b : Bat) (A' : Option Addr) (c' : Nat), e = .returned (.agg #[.bool b.packed, .bool b.mark, .int .i64 b.prod, .int .i64 b.epoch, .int .i64 b.seq, .slice A' b.recs.length c']) ∧
      Recs w' (fun _ => True) A' c' b.recs ∧ Below w.heap.size w w' := by
  go_enter Tryd.func7, Tryd.ntmps7
  go_wp2_with fail
  generalize hW : World.alloc _ _ = W
  obtain ⟨hA, b1, hz⟩ := alloc1 hW
  clear hW
  refine (l6Open_any bs0 A c F _ (h.below b1)).mono ?_
  rintro e w1 ⟨g, rfl, hg, hR, hb1⟩
  have hA1 := blk_below hA hb1
  have b2 := bthen b1 hb1
  have r1 : RdN w1 g 0 := ⟨0, Nat.le_refl _, hR⟩
  have hgw : w.heap.size < g := by omega
  clear hR b1 hb1 hA
  go_wp2_with fail
  refine (pickN g _ 60 _ r1 (by omega) (by omega) (by omega)).mono ?_
  rintro e w3 ⟨o, rfl, a3, b3, r3, C3⟩
  have hA3 := C3.blk hA1 (fun e => by omega)
  have hlt3 : w.heap.size < w3.heap.size := (Array.getElem?_eq_some_iff.1 hA3).1
  have b4 := b2.trans (C3.below b2.size (fun i hi => by omega))
  clear r1 C3 hA1 b2
  go_wp2_with fail
  refine (l91Batch_any g _ o _ r3 (by omega)).mono ?_
  rintro e w5 ⟨b, A', c', rfl, h1, h5, ht, hR5, r5, C5⟩
  have hA5 := C5.blk hA3 (fun e => by omega)
  have b6 := b4.trans (C5.below b4.size (fun i hi => by omega))
  have hs4 := b4.size
  clear r3 C5 hA3 b4 r5
  obtain ⟨z0, z1, z2, z3, z4, z5, zf⟩ := six hA5
  go_wp2
  have k0 := blk_put hA5 0 (.bool b.packed)
  have k1 := blk_put k0 1 (.bool b.mark)
  have k2 := blk_put k1 2 (.int .i64 b.prod)
  have k3 := blk_put k2 3 (.int .i64 b.epoch)
  have k4 := blk_put k3 4 (.int .i64 b.seq)
  have k5 := blk_put k4 5 (.slice A' b.recs.length c')
  have cS : Chg (fun x => x = w.heap.size) w5 ((((((w5.setCell ⟨w.heap.size, 0, none⟩ (.bool b.packed)).setCell ⟨w.heap.size, 1, none⟩ (.bool b.mark)).setCell ⟨w.heap.size, 2, none⟩ (.int .i64 b.prod)).setCell ⟨w.heap.size, 3, none⟩ (.int .i64 b.epoch)).setCell ⟨w.heap.size, 4, none⟩ (.int .i64 b.seq)).setCell ⟨w.heap.size, 5, none⟩ (.slice A' b.recs.length c')) :=
    (((((Chg.refl _ w5).put.put).put).put).put).put
  generalize hW6 : World.setCell _ _ _ = W6 at k5 cS ⊢
  clear hW6 k0 k1 k2 k3 k4 z0 z1 z2 z3 z4 z5 zf
  have k6 : W6.heap[w.heap.size]? = some (.cells #[.bool b.packed, .bool b.mark, .int .i64 b.prod, .int .i64 b.epoch, .int .i64 b.seq, .slice A' b.recs.length c'] 25 (0, 0)) := by simpa using k5
  obtain ⟨z0, z1, z2, z3, z4, z5, zf⟩ := six k6
  refine bodyPost_ret (v := .agg #[.bool b.packed, .bool b.mark, .int .i64 b.prod, .int .i64 b.epoch, .int .i64 b.seq, .slice A' b.recs.length c']) (by simp [results, Tryd.f7, go_sem, z0, z1, z2, z3, z4, z5]) rfl ?_
  exact ⟨b, A', c', rfl, (hR5.keep (cS.same (fun i _ h1 h2 => by have h1 : w3.heap.size ≤ i := h1; have : i = w.heap.size := h2; omega))).mono (fun _ _ => trivial), b6.trans (cS.below b6.size (fun i hi => by have : i = w.heap.size := hi; omega))⟩
end Go.Proofs.YtdjhokmcpgjiiaaDoor
