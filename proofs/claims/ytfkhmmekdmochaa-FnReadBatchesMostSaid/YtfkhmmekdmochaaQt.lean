/- The queue of batches: taking. -/
import Derived.Test.YtfkhmmekdmochaaQu
namespace Go.Proofs.Ytfkhmmekdmochaa
set_option linter.unusedVariables false
set_option linter.unusedSimpArgs false
open Go.RowKit
set_option maxHeartbeats 2000000 in
theorem take_nil_any (g : Nat) (A : Option Addr) (c : Nat) (w : World) (hg : w.heap[g]? = some (.cells #[.slice A 0 c] 70 (0, 0))) :
    Calls Try.prog 50 #[.pointer (some ⟨g, 0, none⟩)] w fun e w' => e = .returned (.tuple #[.agg #[.bool false, .bool false, .int .i64 0, .int .i64 0, .int .i64 0, .slice none 0 0], .bool false]) ∧ Below w.heap.size w w' := by
  have b1 := bal w (.cells #[.bool false, .bool false, .int .i64 0, .int .i64 0, .int .i64 0, .slice none 0 0] 32)
  obtain ⟨z0, zf⟩ := oneC (blk_below hg b1)
  have HB := Lib.hid b1
  clear b1 hg
  go_enter Try.func50, Try.ntmps50
  go_wp2
  refine bodyPost_ret (v := .tuple #[.agg #[.bool false, .bool false, .int .i64 0, .int .i64 0, .int .i64 0, .slice none 0 0], .bool false]) ?_ rfl ⟨rfl, HB.out⟩
  simp [results, Try.results50, go_sem]

set_option maxHeartbeats 4000000 in
theorem take_any (ys : List Bat) (g : Nat) (A : Option Addr) (c : Nat) (F : Nat → Prop) (w : World) (h : Bats w F A c ys) (h0 : 0 < ys.length) (hg : w.heap[g]? = some (.cells #[.slice A ys.length c] 70 (0, 0))) (hF : ∀ b, F b → b ≠ g) :
    Calls Try.prog 50 #[.pointer (some ⟨g, 0, none⟩)] w fun e w' => ∃ (C : Option Addr) (d : Nat) (A' : Option Addr) (c' : Nat), e = .returned (.tuple #[.agg #[.bool ys[0].packed, .bool ys[0].mark, .int .i64 ys[0].prod, .int .i64 ys[0].epoch, .int .i64 ys[0].seq, .slice C ys[0].recs.length d], .bool true]) ∧
      Recs w' F C d ys[0].recs ∧ w'.heap[g]? = some (.cells #[.slice A' (ys.length - 1) c'] 70 (0, 0)) ∧ Bats w' F A' c' (ys.drop 1) ∧ Chg (fun b => b = g) w w' := by
  have hgl : g < w.heap.size := (Array.getElem?_eq_some_iff.1 hg).1
  have hl := h.1
  have hc := h.2.1
  obtain ⟨ad2, C1, d1, rfl, _, hi1, q0, q1, q2, q3, q4, q5⟩ := (h.bound bnd_bat).bat_at h0
  rw [show ad2.add (0 * 6) = ad2 from rfl] at q0 q1 q2 q3 q4 q5
  have hs1 : ∀ W : World, (Instr.slice 23 (.slice (some ad2) ys.length c) (some (.int .i64 1)) none none).run Try.prog W = .ok (.slice (cutAddr (some ad2) 1 c 6) (ys.length - 1) (c - 1)) W :=
    run_cut Try.underlying23 info_batR _ _ _ _ _ rfl (by omega)
  have b1 := bal w (.cells #[.bool false, .bool false, .int .i64 0, .int .i64 0, .int .i64 0, .slice none 0 0] 32)
  have p0 := below_cell b1 q0
  have p1 := below_cell b1 q1
  have p2 := below_cell b1 q2
  have p3 := below_cell b1 q3
  have p4 := below_cell b1 q4
  have p5 := below_cell b1 q5
  obtain ⟨z0, zf⟩ := oneC (blk_below hg b1)
  clear q0 q1 q2 q3 q4 q5 b1
  go_enter Try.func50, Try.ntmps50
  go_upto_region 4 with (fail)
  generalize hW : World.alloc _ _ = W
  obtain ⟨hA, hB, b2, hsW⟩ := alloc2 hW
  clear hW z0 zf p0 p1 p2 p3 p4 p5
  have hgW := blk_below hg b2
  obtain ⟨z0, zf⟩ := oneC hgW
  have hne : w.heap.size ≠ g := by omega
  have hne1 : w.heap.size + 1 ≠ g := by omega
  have hneA : w.heap.size ≠ g := by omega
  have hneB : w.heap.size + 1 ≠ g := by omega
  go_upto_region 5 with (fail)
  obtain ⟨X, hX⟩ : ∃ X, X = W.setCell ⟨g, 0, none⟩ (.slice (cutAddr (some ad2) 1 c 6) (ys.length - 1) (c - 1)) := ⟨_, rfl⟩
  have hgX := blk_put hgW 0 (.slice (cutAddr (some ad2) 1 c 6) (ys.length - 1) (c - 1))
  rw [← hX] at hgX
  have hAX : X.heap[w.heap.size]? = some (.cells #[.bool false, .bool false, .int .i64 0, .int .i64 0, .int .i64 0, .slice none 0 0] 32 (0, 0)) := by rw [hX]; exact blk_far hA (p := ⟨g, 0, none⟩) hneA _
  have hBX := blk_far hB (p := ⟨g, 0, none⟩) hneB (.slice (cutAddr (some ad2) 1 c 6) (ys.length - 1) (c - 1))
  rw [← hX] at hBX
  have cX : Chg (fun b => b = g) W X := by rw [hX]; exact Chg.set (fun b => b = g) W (p := ⟨g, 0, none⟩) rfl _
  have hrX : Bats X (fun b => F b ∧ b < w.heap.size) (cutAddr (some ad2) 1 c 6) (c - 1) (ys.drop 1) := (((h.bound bnd_bat).below b2).cut 1 (by omega)).keep (cX.same (fun i _ h1 h2 => hF i h1.1 h2))
  have hiX := (hi1.below b2).keep (w' := X) (cX.same (fun i _ h1 h2 => hF i h1.1 h2))
  have cZ : Chg (fun i => i = w.heap.size) X ((((((X.setCell ⟨w.heap.size, 0, none⟩ (.bool ys[0].packed)).setCell ⟨w.heap.size, 1, none⟩ (.bool ys[0].mark)).setCell ⟨w.heap.size, 2, none⟩ (.int .i64 ys[0].prod)).setCell ⟨w.heap.size, 3, none⟩ (.int .i64 ys[0].epoch)).setCell ⟨w.heap.size, 4, none⟩ (.int .i64 ys[0].seq)).setCell ⟨w.heap.size, 5, none⟩ (.slice C1 ys[0].recs.length d1)) :=
    Chg.setCells (fun i => i = w.heap.size) rfl [.bool ys[0].packed, .bool ys[0].mark, .int .i64 ys[0].prod, .int .i64 ys[0].epoch, .int .i64 ys[0].seq, .slice C1 ys[0].recs.length d1] 0 X
  have HZR := Lib.hid ((hiX.keep (cZ.same (fun i _ h1 h2 => by have := h1.2; omega))).mono (F' := F) (fun i hi => hi.1))
  have HZB := Lib.hid ((hrX.keep (cZ.same (fun i _ h1 h2 => by have := h1.2; omega))).mono (F' := F) (fun i hi => hi.1))
  have hgZ := cZ.blk hgX (fun e => by omega)
  have HGZ := Lib.hid (show (((((((X.setCell ⟨w.heap.size, 0, none⟩ (.bool ys[0].packed)).setCell ⟨w.heap.size, 1, none⟩ (.bool ys[0].mark)).setCell ⟨w.heap.size, 2, none⟩ (.int .i64 ys[0].prod)).setCell ⟨w.heap.size, 3, none⟩ (.int .i64 ys[0].epoch)).setCell ⟨w.heap.size, 4, none⟩ (.int .i64 ys[0].seq)).setCell ⟨w.heap.size, 5, none⟩ (.slice C1 ys[0].recs.length d1))).heap[g]? = some (.cells #[.slice (cutAddr (some ad2) 1 c 6) (ys.length - 1) (c - 1)] 70 (0, 0)) by simpa using hgZ)
  have HCZ := Lib.hid (((Chg.of_below (F := fun b => b = g) b2).trans cX).then cZ (fun i hi h => by omega))
  have HX := Lib.hid hX
  obtain ⟨u0, u1, u2, u3, u4, u5, uf⟩ := six hB
  obtain ⟨y0, y1, y2, y3, y4, y5, yf⟩ := six hBX
  have HAX := Lib.hid hAX
  rw [← hX]
  obtain ⟨v0, v1, v2, v3, v4, v5, vf⟩ := six HAX.out
  clear hX hgX hAX hBX cX hrX hiX cZ hgZ hgW hA hB b2 hi1 h hg z0 zf u0 u1 u2 u3 u4 u5 uf hs1 HX
  go_wp2
  refine bodyPost_ret (v := .tuple #[.agg #[.bool ys[0].packed, .bool ys[0].mark, .int .i64 ys[0].prod, .int .i64 ys[0].epoch, .int .i64 ys[0].seq, .slice C1 ys[0].recs.length d1], .bool true]) ?_ rfl ⟨C1, d1, _, _, rfl, HZR.out, HGZ.out, HZB.out, HCZ.out⟩
  simp [results, Try.results50, go_sem, v0, v1, v2, v3, v4, v5]
end Go.Proofs.Ytfkhmmekdmochaa
