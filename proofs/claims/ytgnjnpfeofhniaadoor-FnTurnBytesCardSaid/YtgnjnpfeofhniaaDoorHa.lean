/- The head of a batch: the program. -/
import Derived.Test.YtgnjnpfeofhniaaDoorSc
import Derived.Test.YtgnjnpfeofhniaaDoorB1
namespace Go.Proofs.YtgnjnpfeofhniaaDoor
set_option linter.unusedVariables false
set_option linter.unusedSimpArgs false
open Go.RowKit

theorem intAt2_at (l : List Int) (A : Option Addr) (c : Nat) (F : Nat → Prop) (i : Nat) (I : Int) (w : World) (h : Ints w F A c l) (hb : bytesB l = true) (hn : l.length ≤ 4194304) (hi : i + 2 ≤ l.length) (hI : I = (i : Int)) :
    Calls Tryd.prog 41 #[.slice A l.length c, .int .i64 I, .int .i64 2] w fun e w' => e = .returned (.tuple #[.int .i64 (num2 l i), .bool true]) ∧ w = w' := by
  subst hI; exact intAt2_any l A c F i w h hb hn hi
theorem intAt3_at (l : List Int) (A : Option Addr) (c : Nat) (F : Nat → Prop) (i : Nat) (I : Int) (w : World) (h : Ints w F A c l) (hb : bytesB l = true) (hn : l.length ≤ 4194304) (hi : i + 3 ≤ l.length) (hI : I = (i : Int)) :
    Calls Tryd.prog 41 #[.slice A l.length c, .int .i64 I, .int .i64 3] w fun e w' => e = .returned (.tuple #[.int .i64 (num3 l i), .bool true]) ∧ w = w' := by
  subst hI; exact intAt3_any l A c F i w h hb hn hi
set_option maxRecDepth 20000 in
set_option maxHeartbeats 1000000 in
theorem headAt_yes (l : List Int) (A : Option Addr) (c : Nat) (F : Nat → Prop) (p : Nat) (w : World) (h : Ints w F A c l) (hb : bytesB l = true) (hn : l.length ≤ 4194304) (hp : p + 18 ≤ l.length) :
    Calls Tryd.prog 40 #[.slice A l.length c, .int .i64 (p : Int)] w fun e w' => e = .returned (.tuple #[.agg #[.int .i64 (num3 l p), .int .i64 (num2 l (p + 3)), .int .i64 (num2 l (p + 5))], .nilIface]) ∧ Below w.heap.size w w' := by
  have hl := h.1
  have hc := h.2.1
  have hbd := h.bound (bnd_int .i64)
  have d1 : ¬ ((p : Int) < 0) := by omega
  have d2 : ¬ ((l.length : Int) - 18 < (p : Int)) := by omega
  go_enter Tryd.func40, Tryd.ntmps40
  go_wp2_with fail
  refine (intAt3_at l A c _ p _ _ (hbd.below (bthen (bal _ _) (bal _ _))) hb hn (by omega) rfl).mono ?_
  rintro e w' ⟨rfl, rfl⟩
  go_wp2_with fail
  refine (intAt2_at l A c _ (p + 3) _ _ (hbd.below (bthen (bal _ _) (bal _ _))) hb hn (by omega) (by simp)).mono ?_
  rintro e w' ⟨rfl, rfl⟩
  go_wp2_with fail
  refine (intAt2_at l A c _ (p + 5) _ _ (hbd.below (bthen (bal _ _) (bal _ _))) hb hn (by omega) (by simp)).mono ?_
  rintro e w' ⟨rfl, rfl⟩
  go_wp2
  refine bodyPost_ret (v := .tuple #[.agg #[.int .i64 (num3 l p), .int .i64 (num2 l (p + 3)), .int .i64 (num2 l (p + 5))], .nilIface]) (by simp [results, Tryd.results40, go_sem]) rfl ⟨rfl, ?_⟩
  exact bthen (bal _ _) (bal _ _)
/-- What tells that there is no batch. -/
def ErrV (v : Value) : Prop := ∃ g : Nat, v = .iface 57 (.pointer (some ⟨g, 0, none⟩))
set_option maxRecDepth 20000 in
set_option maxHeartbeats 1000000 in
theorem headAt_no (l : List Int) (A : Option Addr) (c : Nat) (F : Nat → Prop) (i : Int) (w : World) (h : Ints w F A c l) (hn : l.length ≤ 4194304) (hi : i < 0 ∨ (l.length : Int) - 18 < i) :
    Calls Tryd.prog 40 #[.slice A l.length c, .int .i64 i] w fun e w' => (∃ v, e = .returned (.tuple #[.agg #[.int .i64 0, .int .i64 0, .int .i64 0], v]) ∧ ErrV v) ∧ Below w.heap.size w w' := by
  have hl := h.1
  have hc := h.2.1
  by_cases h0 : i < 0
  · clear hi
    go_enter Tryd.func40, Tryd.ntmps40
    go_wp2
    refine bodyPost_ret (v := .tuple #[.agg #[.int .i64 0, .int .i64 0, .int .i64 0], .iface 57 (.pointer (some ⟨w.heap.size + 1, 0, none⟩))]) (by simp [results, Tryd.results40, go_sem]) rfl ⟨⟨_, rfl, _, rfl⟩, ?_⟩
    exact bthen (bal _ _) (bal _ _)
  · have h1 : (l.length : Int) - 18 < i := by omega
    clear hi
    go_enter Tryd.func40, Tryd.ntmps40
    go_wp2
    refine bodyPost_ret (v := .tuple #[.agg #[.int .i64 0, .int .i64 0, .int .i64 0], .iface 57 (.pointer (some ⟨w.heap.size + 1, 0, none⟩))]) (by simp [results, Tryd.results40, go_sem]) rfl ⟨⟨_, rfl, _, rfl⟩, ?_⟩
    exact bthen (bal _ _) (bal _ _)
end Go.Proofs.YtgnjnpfeofhniaaDoor
