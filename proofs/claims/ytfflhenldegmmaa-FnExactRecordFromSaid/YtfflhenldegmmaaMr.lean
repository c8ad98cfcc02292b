/- Marks: one record. -/
import Derived.Test.YtfflhenldegmmaaM1
import Derived.Test.YtfflhenldegmmaaGr
namespace Go.Proofs.Ytfflhenldegmmaa
set_option linter.unusedVariables false
set_option linter.unusedSimpArgs false
open Go.RowKit

theorem markRecord_any (r : Rec) (A1 A2 : Option Addr) (c1 c2 : Nat) (F1 F2 : Nat → Prop) (k : Int) (w : World) (h1 : XInts 3 w F1 A1 c1 r.key) (h2 : XInts 3 w F2 A2 c2 r.val) (hd : ∀ b, F1 b → ¬ F2 b) (hb : ∀ b, F1 b ∨ F2 b → b < w.heap.size)
    (hk : 0 ≤ k) (hk1 : k ≤ 1048576) (hn1 : r.key.length ≤ 1048576) (hn2 : r.val.length ≤ 1048576) :
    Calls Try.prog 21 #[.agg #[.int .i64 r.off, .int .i64 r.time, .bool r.hk, .slice A1 r.key.length c1, .bool r.hv, .slice A2 r.val.length c2], .int .i64 k] w fun e w' =>
      e = .returned (.int .i64 (k + r.key.length + r.val.length)) ∧ XInts 3 w' F1 A1 c1 (marksI r.key.length k) ∧ XInts 3 w' F2 A2 c2 (marksI r.val.length (k + r.key.length)) ∧ Chg (fun b => F1 b ∨ F2 b) w w' := by
  go_enter Try.func21, Try.ntmps21
  go_wp2_with fail
  generalize hW : World.alloc _ _ = W
  obtain ⟨hA, b1, hz⟩ := alloc1 hW
  clear hW
  have g1 := h1.below b1
  have g2 := h2.below b1
  have hn : ∀ b, F1 b ∨ F2 b → b ≠ w.heap.size := fun b h e => by have := hb b h; omega
  refine (markIntS_any r.key A1 c1 F1 k W g1 hk (by omega) (by omega)).mono ?_
  rintro e W2 ⟨rfl, Y1, C2⟩
  have hA2 := C2.blk hA (fun e => hn _ (.inl e) rfl)
  have g22 := g2.keep (w' := W2) (C2.same (fun b _ hb' e => hd b e hb')) C2.size
  obtain ⟨z0, z1, z2, z3, z4, z5, zf⟩ := six hA2
  go_wp2_with fail
  refine (markIntS_any r.val A2 c2 F2 (k + r.key.length) W2 g22 (by omega) (by omega) (by omega)).mono ?_
  rintro e W3 ⟨rfl, Y2, C3⟩
  have Y13 := Y1.keep (w' := W3) (C3.same (fun b _ hb' e => hd b hb' e)) C3.size
  have HC := Lib.hid (((Chg.of_below (F := fun b => F1 b ∨ F2 b) b1).trans (C2.mono (fun i _ h => .inl h))).trans (C3.mono (fun i _ h => .inr h)))
  have H1 := Lib.hid Y13
  have H2 := Lib.hid Y2
  clear Y1 Y2 Y13 C2 C3 g1 g2 g22 z0 z1 z2 z3 z4 z5 zf hA hA2
  go_wp2
  go_ret
  exact ⟨rfl, H1.out, H2.out, HC.out⟩
theorem heldRecord_any (nk nv : Nat) (o t : Int) (bk bv : Bool) (A1 A2 : Option Addr) (c1 c2 : Nat) (F1 F2 : Nat → Prop) (k : Int) (w : World) (h1 : Ints w F1 A1 c1 (marksI nk k)) (h2 : Ints w F2 A2 c2 (marksI nv (k + nk)))
    (hk : 0 ≤ k) (hk1 : k ≤ 1048576) (hn1 : nk ≤ 1048576) (hn2 : nv ≤ 1048576) :
    Calls Try.prog 22 #[.agg #[.int .i64 o, .int .i64 t, .bool bk, .slice A1 nk c1, .bool bv, .slice A2 nv c2], .int .i64 k] w fun e w' =>
      e = .returned (.int .i64 (k + nk + nv)) ∧ Below w.heap.size w w' := by
  go_enter Try.func22, Try.ntmps22
  go_wp2_with fail
  generalize hW : World.alloc _ _ = W
  obtain ⟨hA, b1, hz⟩ := alloc1 hW
  clear hW
  refine (heldIntS_any nk A1 c1 F1 k W (h1.below b1) hk (by omega) (by omega)).mono ?_
  rintro e W2 ⟨rfl, hb2⟩
  obtain ⟨z0, z1, z2, z3, z4, z5, zf⟩ := six (blk_below hA hb2)
  have b2 := bthen b1 hb2
  go_wp2_with fail
  refine (heldIntS_any nv A2 c2 F2 (k + nk) W2 (h2.below b2) (by omega) (by omega) (by omega)).mono ?_
  rintro e W3 ⟨rfl, hb3⟩
  have b3 := Lib.hid (bthen b2 hb3)
  clear b2 hb3 hb2 b1 hA z0 z1 z2 z3 z4 z5 zf
  go_wp2
  go_ret
  exact ⟨rfl, b3.out⟩
end Go.Proofs.Ytfflhenldegmmaa
