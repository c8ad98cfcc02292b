/- Marks: one batch. -/
import Derived.Test.YtfflhenldegmmaaM2
import Derived.Test.YtfflhenldegmmaaGr
namespace Go.Proofs.Ytfflhenldegmmaa
set_option linter.unusedVariables false
set_option linter.unusedSimpArgs false
open Go.RowKit

theorem endR_ge (rs : List Rec) (k : Int) (j : Nat) : k ≤ endR rs k j := by
  have := endR_mono rs k (Nat.zero_le j)
  exact this
theorem markBatch_any (b : Bat) (A : Option Addr) (c : Nat) (F : Nat → Prop) (k : Int) (w : World) (h : XRecs 3 25 w F A c b.recs) (hk : 0 ≤ k) (hk1 : endR b.recs k b.recs.length ≤ 1152921504606846976) :
    Calls Try.prog 32 #[.agg #[.bool b.packed, .bool b.mark, .int .i64 b.prod, .int .i64 b.epoch, .int .i64 b.seq, .slice A b.recs.length c], .int .i64 k] w fun e w' =>
      e = .returned (.int .i64 (endR b.recs k b.recs.length)) ∧ Chg F w w' := by
  go_enter Try.func32, Try.ntmps32
  go_wp2_with fail
  generalize hW : World.alloc _ _ = W
  obtain ⟨hA, b1, hz⟩ := alloc1 hW
  clear hW
  refine (markRecordS_any b.recs A c F k W (h.below b1) hk hk1).mono ?_
  rintro e W2 ⟨rfl, _, C2⟩
  have HC := Lib.hid ((Chg.of_below (F := F) b1).trans C2)
  clear C2 b1 hA
  go_wp2
  go_ret
  exact ⟨rfl, HC.out⟩
end Go.Proofs.Ytfflhenldegmmaa
