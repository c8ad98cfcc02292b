/- The reader of the program. -/
import Derived.Test.YtomcjjehfocbmaaV3
import Derived.Test.YtomcjjehfocbmaaGa
namespace Go.Proofs.Ytomcjjehfocbmaa
set_option linter.unusedVariables false
set_option linter.unusedSimpArgs false
open Go.RowKit

theorem run_cutlh {P : Program} {t e : TypeId} {z : Value} {s b : Nat} (ht : P.underlying t = some (.slice e)) (hinfo : (P.info? e).map (fun i => (i.zero, i.size, i.bytes)) = some (some z, s, b)) (A : Option Addr) (n cap l h : Nat) (L H : Int) (hL : L = (l : Int)) (hH : H = (h : Int)) (hlh : l ≤ h) (hh : h ≤ cap) (w : World) :
    (Instr.slice t (.slice A n cap) (some (.int .i64 L)) (some (.int .i64 H)) none).run P w = .ok (.slice (cutAddr A l cap s) (h - l) (cap - l)) w := by
  subst hL hH
  obtain ⟨i, hi, _, hs, _⟩ := info_of hinfo
  have he : P.elem t = e := by simp [Program.elem, ht]
  rw [run_slice_lh (P := P) (w := w) t A n cap (by rw [he]; exact ht) .i64 .i64 (l : Int) (h : Int) (by omega) (by omega) (by omega)]
  rw [he]
  simp [sizeOf, typeInfo, hi, hs, sliced, cutAddr, Result.andThen]
theorem thr {w : World} {g : Nat} {t : TypeId} {v0 v1 v2 : Value} (h : w.heap[g]? = some (.cells #[v0, v1, v2] t (0, 0))) :
    w.cell? ⟨g, 0, none⟩ = some v0 ∧ w.cell? ⟨g, 1, none⟩ = some v1 ∧ w.cell? ⟨g, 2, none⟩ = some v2 ∧ ∀ i, w.frozen? ⟨g, i, none⟩ = false := by
  refine ⟨?_, ?_, ?_, fun i => ?_⟩ <;> simp [World.cell?, World.frozen?, h]
/-- The reader's block. -/
def RdB (w : World) (g : Nat) (A : Option Addr) (n c p : Nat) (bad : Bool) : Prop := w.heap[g]? = some (.cells #[.slice A n c, .int .i64 (p : Int), .bool bad] 129 (0, 0))
theorem RdB.below {w w' : World} {g n c p : Nat} {A : Option Addr} {bad : Bool} (h : RdB w g A n c p bad) (hb : Below w.heap.size w w') : RdB w' g A n c p bad := blk_below h hb
theorem RdB.lt {w : World} {g n c p : Nat} {A : Option Addr} {bad : Bool} (h : RdB w g A n c p bad) : g < w.heap.size := (Array.getElem?_eq_some_iff.1 h).1
theorem RdB.bad {w : World} {g n c p : Nat} {A : Option Addr} {bad : Bool} (h : RdB w g A n c p bad) (b : Bool) : RdB (w.setCell ⟨g, 2, none⟩ (.bool b)) g A n c p b := by
  have := blk_put h 2 (.bool b)
  simpa [RdB] using this
theorem RdB.at_ {w : World} {g n c p : Nat} {A : Option Addr} {bad : Bool} (h : RdB w g A n c p bad) (q : Nat) : RdB (w.setCell ⟨g, 1, none⟩ (.int .i64 (q : Int))) g A n c q bad := by
  have := blk_put h 1 (.int .i64 (q : Int))
  simpa [RdB] using this
def numStep (l : List Int) (i : Nat) (bad : Bool) : Int × Nat × Bool :=
  if bad then (0, i, true) else match rdV l i with
    | none => (0, i, true)
    | some (n, j) => (n, j, false)
theorem chg_drew (g : Nat) (w : World) : Chg (fun b => b = g) w w.drew := ⟨rfl, rfl, rfl, Nat.le_refl _, fun _ _ _ => rfl⟩
set_option maxRecDepth 10000 in
set_option maxHeartbeats 2000000 in
theorem number_any (l : List Int) (A : Option Addr) (c : Nat) (F : Nat → Prop) (i : Nat) (bad : Bool) (g : Nat) (w : World) (hR : RdB w g A l.length c i bad) (h : Ints w F A c l) (hb : bytesB l = true) (hn : l.length ≤ 4194304) (hi : i ≤ l.length) :
    Calls Try.prog 98 #[.pointer (some ⟨g, 0, none⟩)] w fun e w' =>
      e = .returned (.int .i64 (numStep l i bad).1) ∧ RdB w' g A l.length c (numStep l i bad).2.1 (numStep l i bad).2.2 ∧ Chg (fun b => b = g) w w' := by
  have bD : Below w.heap.size w w.drew := ⟨rfl, rfl, rfl, Nat.le_refl _, fun _ _ => rfl⟩
  have HFB := Lib.hid (show RdB (w.setCell ⟨g, 2, none⟩ (.bool true)).drew g A l.length c i true from hR.bad true)
  have HCB := Lib.hid (show Chg (fun b => b = g) w (w.setCell ⟨g, 2, none⟩ (.bool true)).drew from (Chg.set (fun b => b = g) w (p := ⟨g, 2, none⟩) rfl _).drew)
  have HB := Lib.hid hb
  have HH := Lib.hid (h.below bD)
  obtain ⟨q0, q1, q2, qf⟩ := thr hR
  cases hbad : bad
  · rw [hbad] at q2
    cases hv : rdV l i with
    | none =>
      have HN := Lib.hid (show numStep l i false = (0, i, true) by unfold numStep; rw [hv]; rfl)
      have HV := Lib.hid hv
      clear hv hb hR hbad
      go_enter Try.func98, Try.ntmps98
      go_wp2_with fail
      go_region_with (go_at_call 116; go_loud (refine (varAt_any l A c _ i _ HH.out HB.out (by omega)).mono ?_; rintro e w' ⟨rfl, rfl⟩; rw [HV.out]; dsimp only [rdVal]))
      all_goals
        go_wp2
        go_ret
        rw [HN.out]
        exact ⟨rfl, HFB.out, HCB.out⟩
    | some x =>
      obtain ⟨n, j⟩ := x
      have HFA := Lib.hid (show RdB (w.setCell ⟨g, 1, none⟩ (.int .i64 (j : Int))).drew g A l.length c j false from (hbad ▸ hR).at_ j)
      have HCA := Lib.hid (show Chg (fun b => b = g) w (w.setCell ⟨g, 1, none⟩ (.int .i64 (j : Int))).drew from (Chg.set (fun b => b = g) w (p := ⟨g, 1, none⟩) rfl _).drew)
      have HN := Lib.hid (show numStep l i false = (n, j, false) by unfold numStep; rw [hv]; rfl)
      have HV := Lib.hid hv
      clear hv hb hR hbad
      go_enter Try.func98, Try.ntmps98
      go_wp2_with fail
      go_region_with (go_at_call 116; go_loud (refine (varAt_any l A c _ i _ HH.out HB.out (by omega)).mono ?_; rintro e w' ⟨rfl, rfl⟩; rw [HV.out]; dsimp only [rdVal]))
      all_goals
        go_wp2
        go_ret
        rw [HN.out]
        exact ⟨rfl, HFA.out, HCA.out⟩
  · rw [hbad] at q2
    have HN := Lib.hid (show numStep l i true = (0, i, true) from rfl)
    obtain ⟨x, hx⟩ : ∃ x, x = rdV l i := ⟨_, rfl⟩
    have HX := Lib.hid hx
    clear hb hR hbad hx
    cases x with
    | none =>
      go_enter Try.func98, Try.ntmps98
      go_wp2_with fail
      go_region_with (go_at_call 116; go_loud (refine (varAt_any l A c _ i _ HH.out HB.out (by omega)).mono ?_; rintro e w' ⟨rfl, rfl⟩; rw [← HX.out]; dsimp only [rdVal]))
      all_goals
        go_wp2
        go_ret
        rw [HN.out]
        exact ⟨rfl, HFB.out, HCB.out⟩
    | some x =>
      obtain ⟨n, j⟩ := x
      go_enter Try.func98, Try.ntmps98
      go_wp2_with fail
      go_region_with (go_at_call 116; go_loud (refine (varAt_any l A c _ i _ HH.out HB.out (by omega)).mono ?_; rintro e w' ⟨rfl, rfl⟩; rw [← HX.out]; dsimp only [rdVal]))
      all_goals
        go_wp2
        go_ret
        rw [HN.out]
        exact ⟨rfl, HFB.out, HCB.out⟩
end Go.Proofs.Ytomcjjehfocbmaa
