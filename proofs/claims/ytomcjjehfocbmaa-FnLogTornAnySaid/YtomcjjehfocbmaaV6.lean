/- The reader's take and part. -/
import Derived.Test.YtomcjjehfocbmaaV5
namespace Go.Proofs.Ytomcjjehfocbmaa
set_option linter.unusedVariables false
set_option linter.unusedSimpArgs false
open Go.RowKit

def takeStep (l : List Int) (i : Nat) (bad : Bool) (n : Int) : List Int × Nat × Bool :=
  if bad = true ∨ n < 0 ∨ (l.length : Int) - i < n then ([], i, true) else ((l.drop i).take n.toNat, i + n.toNat, false)
theorem info_intV : (Try.prog.info? 3).map (fun i => (i.zero, i.size, i.bytes)) = some (some (.int .i64 0), 1, 8) := by kernel_rfl
set_option maxRecDepth 10000 in
set_option maxHeartbeats 2000000 in
theorem take_any (l : List Int) (A : Option Addr) (c : Nat) (F : Nat → Prop) (i : Nat) (bad : Bool) (n : Int) (g : Nat) (w : World) (hR : RdB w g A l.length c i bad) (h : Ints w F A c l) (hn : l.length ≤ 4194304) (hi : i ≤ l.length) (hnb : -1000000 ≤ n ∧ n ≤ 1000000) :
    Calls Try.prog 117 #[.pointer (some ⟨g, 0, none⟩), .int .i64 n] w fun e w' =>
      ∃ v, e = .returned v ∧ App (Kind.int .i64) 3 w' w.heap.size v (takeStep l i bad n).1 ∧ RdB w' g A l.length c (takeStep l i bad n).2.1 (takeStep l i bad n).2.2 ∧ Chg (fun b => b = g) w w' := by
  obtain ⟨hn0, hn1⟩ := hnb
  have hgl := hR.lt
  have HFQ := Lib.hid (fun k => show RdB ((w.drewN k).setCell ⟨g, 2, none⟩ (.bool true)) g A l.length c i true from hR.bad true)
  have HCQ := Lib.hid (fun k => show Chg (fun b => b = g) w ((w.drewN k).setCell ⟨g, 2, none⟩ (.bool true)) from (Chg.of_below (F := fun b => b = g) (below_drewN w k)).trans (Chg.set (fun b => b = g) (w.drewN k) (p := ⟨g, 2, none⟩) rfl _))
  obtain ⟨q0, q1, q2, qf⟩ := thr hR
  have hl := h.1
  have hc := h.2.1
  by_cases hbad : bad = true ∨ n < 0 ∨ (l.length : Int) - i < n
  · have HN := Lib.hid (show takeStep l i bad n = ([], i, true) from if_pos hbad)
    by_cases h1 : bad = true
    · rw [h1] at q2
      clear hbad hR
      go_enter Try.func117, Try.ntmps117
      go_wp2_with fail
      go_quiet (fail)
      go_wp2
      go_ret
      rw [HN.out]
      exact ⟨_, rfl, AppP.nil _ _ _ _, HFQ.out _, HCQ.out _⟩
    · have h1' : bad = false := by simpa using h1
      rw [h1'] at q2
      by_cases h2 : n < 0
      · have d1 : decide (n < 0) = true := by simp [h2]
        clear hbad hR h1
        go_enter Try.func117, Try.ntmps117
        go_wp2_with fail
        go_quiet (fail)
        go_wp2
        go_ret
        rw [HN.out]
        exact ⟨_, rfl, AppP.nil _ _ _ _, HFQ.out _, HCQ.out _⟩
      · have h3 : (l.length : Int) - i < n := by rcases hbad with h | h | h; exact absurd h h1; exact absurd h h2; exact h
        have d1 : decide (n < 0) = false := by simp; omega
        have d2 : decide ((l.length : Int) - (i : Int) < n) = true := by simp; omega
        clear hbad hR h1
        go_enter Try.func117, Try.ntmps117
        go_wp2_with fail
        go_quiet (fail)
        all_goals
          go_wp2
          go_ret
          rw [HN.out]
          exact ⟨_, rfl, AppP.nil _ _ _ _, HFQ.out _, HCQ.out _⟩
  · have h1' : bad = false := by simpa using fun e => hbad (.inl e)
    have h2 : ¬ n < 0 := fun e => hbad (.inr (.inl e))
    have h3 : ¬ (l.length : Int) - i < n := fun e => hbad (.inr (.inr e))
    obtain ⟨m, rfl⟩ := Int.eq_ofNat_of_zero_le (show 0 ≤ n by omega)
    have HN := Lib.hid (show takeStep l i bad m = ((l.drop i).take m, i + m, false) from by unfold takeStep; rw [if_neg hbad]; rfl)
    rw [h1'] at q2
    have him : i + m ≤ l.length := by omega
    have d1 : decide ((m : Int) < 0) = false := by simp
    have d2 : decide ((l.length : Int) - (i : Int) < (m : Int)) = false := by simp; omega
    clear hbad
    have s1 : ∀ W : World, (Instr.slice 22 (.slice A l.length c) (some (.int .i64 (i : Int))) (some (.int .i64 ((i : Int) + (m : Int)))) none).run Try.prog W = .ok (.slice (cutAddr A i c 1) m (c - i)) W := fun W => by
      have := run_cutlh Try.underlying22 info_intV A l.length c i (i + m) _ _ rfl (show ((i : Int) + (m : Int)) = ((i + m : Nat) : Int) by simp) (by omega) (by omega) W
      rw [show i + m - i = m by omega] at this
      exact this
    have hT := ((h.cut i hi).take m)
    have hTl : ((l.drop i).take m).length = m := by rw [List.length_take, List.length_drop]; omega
    obtain ⟨xs, hxs⟩ : ∃ xs, xs = (l.drop i).take m := ⟨_, rfl⟩
    rw [← hxs] at hT hTl HN
    have HCl := Lib.hid (fun W (hW : Below w.heap.size w W) => Clone_any xs (cutAddr A i c 1) (c - i) _ W ((hT).below (w' := W) hW) (by omega))
    rw [hTl] at HCl
    have HRW := Lib.hid (fun k => show RdB (w.drewN k) g A l.length c i false from h1' ▸ hR)
    have HQ0 := fun k => (thr (HRW.out k)).1
    have HQ1 := fun k => (thr (HRW.out k)).2.1
    have HQ2 := fun k => (thr (HRW.out k)).2.2.1
    clear hR hT hxs
    go_enter Try.func117, Try.ntmps117
    go_wp2_with fail
    go_quiet (fail)
    generalize hW : World.drewN w _ = W
    have hRW : RdB W g A l.length c i false := by rw [← hW]; exact HRW.out _
    have bW : Below w.heap.size w W := by rw [← hW]; exact below_drewN w _
    clear hW HQ0 HQ1 HQ2 q0 q1 q2 qf
    obtain ⟨q0, q1, q2, qf⟩ := thr hRW
    have bD : Below W.heap.size W W.drew := ⟨rfl, rfl, rfl, Nat.le_refl _, fun _ _ => rfl⟩
    have HRD := Lib.hid (hRW.below bD)
    have HWD := Lib.hid (bthen bW bD)
    clear hRW
    have hw1 : IntKind.i64.wrap ((i : Int) + (m : Int)) = (i : Int) + (m : Int) := by rw [IntKind.wrap_i64]; omega
    have hw2 : wrap64 ((i : Int) + (m : Int)) = (i : Int) + (m : Int) := by unfold wrap64; omega
    go_wp2_with fail
    go_region_with (go_at_call 128; go_loud (refine (HCl.out _ HWD.out).mono ?_; rintro e w1 ⟨v, rfl, HA, hb1⟩))
    all_goals
      have hR1 := HRD.out.below hb1
      have hA1 := App.from HA HWD.out.size
      clear q0 q1 q2 qf
      obtain ⟨q0, q1, q2, qf⟩ := thr hR1
      have HFA := Lib.hid (hR1.at_ (i + m))
      have c1 := (Chg.of_below (F := fun b => b = g) (bthen HWD.out hb1)).trans (Chg.set (fun b => b = g) w1 (p := ⟨g, 1, none⟩) rfl (.int .i64 ((i + m : Nat) : Int)))
      have HCA := Lib.hid c1
      have HAA := Lib.hid (AppP.chg hA1 (Chg.set (fun b => b = g) w1 (p := ⟨g, 1, none⟩) rfl (.int .i64 ((i + m : Nat) : Int))) (fun b _ h1 h2 => by omega))
      clear HA hA1 hb1 c1 hR1 s1
      go_wp2
      go_ret
      rw [HN.out]
      exact ⟨_, rfl, HAA.out, HFA.out, HCA.out⟩
end Go.Proofs.Ytomcjjehfocbmaa
