/- The laws FnBatch, FnBatchPacked: what was written is read. -/
import Derived.Test.YtomcjjehfocbmaaGreatDoorDb
import Derived.Test.YtomcjjehfocbmaaGreatDoorBt
import Derived.Test.YtomcjjehfocbmaaGreatDoorBv
import Derived.Test.YtomcjjehfocbmaaGreatDoorE3
import Derived.Test.YtomcjjehfocbmaaGreatDoorBf
namespace Go.Proofs.YtomcjjehfocbmaaGreatDoor
set_option linter.unusedVariables false
set_option linter.unusedSimpArgs false
open Go.RowKit

theorem BatchFrom_at (l : List Int) (A : Option Addr) (c : Nat) (F : Nat → Prop) (p : Nat) (P : Int) (w : World) (h : Ints w F A c l) (hb : bytesB l = true) (hn : l.length ≤ 4194304) {b : Bat} (hr : rdBat l p = some b) (hP : P = (p : Int)) (x : Int) (hx : ((p + (batBytes b).length : Nat) : Int) = x) :
    Calls Tryz.prog 9 #[.slice A l.length c, .int .i64 P] w fun e w' => ∃ A' c', e = .returned (.tuple #[BV b A' c', .int .i64 x, .bool true]) ∧ XRecs 3 41 w' (fun g => w.heap.size ≤ g) A' c' b.recs ∧ Below w.heap.size w w' := by
  subst hP hx
  exact BatchFrom_some l A c F p w h hb hn hr

end Go.Proofs.YtomcjjehfocbmaaGreatDoor
