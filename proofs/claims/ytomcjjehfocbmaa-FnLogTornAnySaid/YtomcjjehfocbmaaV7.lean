/- The reader of the program. The reader's take and part. Records from bytes: the program. -/
import Derived.Test.YtomcjjehfocbmaaV3
import Derived.Test.YtomcjjehfocbmaaGa
import Derived.Test.YtomcjjehfocbmaaB1
namespace Go.Proofs.Ytomcjjehfocbmaa
set_option linter.unusedVariables false
set_option linter.unusedSimpArgs false
section
open Go.RowKit

theorem run_cutlh {P : Program} {t e : TypeId} {z : Value} {s b : Nat} (ht : P.underlying t = some (.slice e)) (hinfo : (P.info? e).map (fun i => (i.zero, i.size, i.bytes)) = some (some z, s, b)) (A : Option Addr) (n cap l h : Nat) (L H : Int) (hL : L = (l : Int)) (hH : H = (h : Int)) (hlh : l ≤ h) (hh : h ≤ cap) (w : World) :
    (Instr.slice t (.slice A n cap) (some (.int .i64 L)) (some (.int .i64 H)) none).run P w = .ok (.slice (cutAddr A l cap s) (h - l) (cap - l)) w := by
  subst hL hH
  obtain ⟨i, hi, _, hs, _⟩ := info_of hinfo
  have he : P.elem t = e := by simp [Program.elem, ht]
  rw [run_slice_lh (P := P) (w := w) t A n cap (by rw [he]; exact ht) .i64 .i64 (l : Int) (h : Int) (by omega) (by omega) (by omega)]
  rw [he]
  simp [sizeOf, typeInfo, hi, hs, sliced, cutAddr, Result.andThen]
theorem thr {w : World} {g : Nat} {t : TypeId} {v0 v1 v2 : Value} (h : w.heap[g]? = some (.cells #[v0, v1, v2] t (0, 0))) :
    w.cell? ⟨g, 0, none⟩ = some v0 ∧ w.cell? ⟨g, 1, none⟩ = some v1 ∧ w.cell? ⟨g, 2, none⟩ = some v2 ∧ ∀ i, w.frozen? ⟨g, i, none⟩ = false := by
  refine ⟨?_, ?_, ?_, fun i => ?_⟩ <;> simp [World.cell?, World.frozen?, h]
/-- The reader's block. -/
def RdB (w : World) (g : Nat) (A : Option Addr) (n c p : Nat) (bad : Bool) : Prop := w.heap[g]? = some (.cells #[.slice A n c, .int .i64 (p : Int), .bool bad] 129 (0, 0))
theorem RdB.below {w w' : World} {g n c p : Nat} {A : Option Addr} {bad : Bool} (h : RdB w g A n c p bad) (hb : Below w.heap.size w w') : RdB w' g A n c p bad := blk_below h hb
theorem RdB.lt {w : World} {g n c p : Nat} {A : Option Addr} {bad : Bool} (h : RdB w g A n c p bad) : g < w.heap.size := (Array.getElem?_eq_some_iff.1 h).1
theorem RdB.bad {w : World} {g n c p : Nat} {A : Option Addr} {bad : Bool} (h : RdB w g A n c p bad) (b : Bool) : RdB (w.setCell ⟨g, 2, none⟩ (.bool b)) g A n c p b := by
  have := blk_put h 2 (.bool b)
  simpa [RdB] using this
theorem RdB.at_ {w : World} {g n c p : Nat} {A : Option Addr} {bad : Bool} (h : RdB w g A n c p bad) (q : Nat) : RdB (w.setCell ⟨g, 1, none⟩ (.int .i64 (q : Int))) g A n c q bad := by
  have := blk_put h 1 (.int .i64 (q : Int))
  simpa [RdB] using this
def numStep (l : List Int) (i : Nat) (bad : Bool) : Int × Nat × Bool :=
  if bad then (0, i, true) else match rdV l i with
    | none => (0, i, true)
    | some (n, j) => (n, j, false)
theorem chg_drew (g : Nat) (w : World) : Chg (fun b => b = g) w w.drew := ⟨rfl, rfl, rfl, Nat.le_refl _, fun _ _ _ => rfl⟩
set_option maxRecDepth 10000 in
set_option maxHeartbeats 2000000 in
theorem number_any (l : List Int) (A : Option Addr) (c : Nat) (F : Nat → Prop) (i : Nat) (bad : Bool) (g : Nat) (w : World) (hR : RdB w g A l.length c i bad) (h : Ints w F A c l) (hb : bytesB l = true) (hn : l.length ≤ 4194304) (hi : i ≤ l.length) :
    Calls Try.prog 98 #[.pointer (some ⟨g, 0, none⟩)] w fun e w' =>
      e = .returned (.int .i64 (numStep l i bad).1) ∧ RdB w' g A l.length c (numStep l i bad).2.1 (numStep l i bad).2.2 ∧ Chg (fun b => b = g) w w' := by
  have bD : Below w.heap.size w w.drew := ⟨rfl, rfl, rfl, Nat.le_refl _, fun _ _ => rfl⟩
  have HFB := Lib.hid (show RdB (w.setCell ⟨g, 2, none⟩ (.bool true)).drew g A l.length c i true from hR.bad true)
  have HCB := Lib.hid (show Chg (fun b => b = g) w (w.setCell ⟨g, 2, none⟩ (.bool true)).drew from (Chg.set (fun b => b = g) w (p := ⟨g, 2, none⟩) rfl _).drew)
  have HB := Lib.hid hb
  have HH := Lib.hid (h.below bD)
  obtain ⟨q0, q1, q2, qf⟩ := thr hR
  cases hbad : bad
  · rw [hbad] at q2
    cases hv : rdV l i with
    | none =>
      have HN := Lib.hid (show numStep l i false = (0, i, true) by unfold numStep; rw [hv]; rfl)
      have HV := Lib.hid hv
      clear hv hb hR hbad
      go_enter Try.func98, Try.ntmps98
      go_wp2_with fail
      go_region_with (go_at_call 116; go_loud (refine (varAt_any l A c _ i _ HH.out HB.out (by omega)).mono ?_; rintro e w' ⟨rfl, rfl⟩; rw [HV.out]; dsimp only [rdVal]))
      all_goals
        go_wp2
        go_ret
        rw [HN.out]
        exact ⟨rfl, HFB.out, HCB.out⟩
    | some x =>
      obtain ⟨n, j⟩ := x
      have HFA := Lib.hid (show RdB (w.setCell ⟨g, 1, none⟩ (.int .i64 (j : Int))).drew g A l.length c j false from (hbad ▸ hR).at_ j)
      have HCA := Lib.hid (show Chg (fun b => b = g) w (w.setCell ⟨g, 1, none⟩ (.int .i64 (j : Int))).drew from (Chg.set (fun b => b = g) w (p := ⟨g, 1, none⟩) rfl _).drew)
      have HN := Lib.hid (show numStep l i false = (n, j, false) by unfold numStep; rw [hv]; rfl)
      have HV := Lib.hid hv
      clear hv hb hR hbad
      go_enter Try.func98, Try.ntmps98
      go_wp2_with fail
      go_region_with (go_at_call 116; go_loud (refine (varAt_any l A c _ i _ HH.out HB.out (by omega)).mono ?_; rintro e w' ⟨rfl, rfl⟩; rw [HV.out]; dsimp only [rdVal]))
      all_goals
        go_wp2
        go_ret
        rw [HN.out]
        exact ⟨rfl, HFA.out, HCA.out⟩
  · rw [hbad] at q2
    have HN := Lib.hid (show numStep l i true = (0, i, true) from rfl)
    obtain ⟨x, hx⟩ : ∃ x, x = rdV l i := ⟨_, rfl⟩
    have HX := Lib.hid hx
    clear hb hR hbad hx
    cases x with
    | none =>
      go_enter Try.func98, Try.ntmps98
      go_wp2_with fail
      go_region_with (go_at_call 116; go_loud (refine (varAt_any l A c _ i _ HH.out HB.out (by omega)).mono ?_; rintro e w' ⟨rfl, rfl⟩; rw [← HX.out]; dsimp only [rdVal]))
      all_goals
        go_wp2
        go_ret
        rw [HN.out]
        exact ⟨rfl, HFB.out, HCB.out⟩
    | some x =>
      obtain ⟨n, j⟩ := x
      go_enter Try.func98, Try.ntmps98
      go_wp2_with fail
      go_region_with (go_at_call 116; go_loud (refine (varAt_any l A c _ i _ HH.out HB.out (by omega)).mono ?_; rintro e w' ⟨rfl, rfl⟩; rw [← HX.out]; dsimp only [rdVal]))
      all_goals
        go_wp2
        go_ret
        rw [HN.out]
        exact ⟨rfl, HFB.out, HCB.out⟩
end

section
open Go.RowKit

def takeStep (l : List Int) (i : Nat) (bad : Bool) (n : Int) : List Int × Nat × Bool :=
  if bad = true ∨ n < 0 ∨ (l.length : Int) - i < n then ([], i, true) else ((l.drop i).take n.toNat, i + n.toNat, false)
theorem info_intV : (Try.prog.info? 3).map (fun i => (i.zero, i.size, i.bytes)) = some (some (.int .i64 0), 1, 8) := by kernel_rfl
set_option maxRecDepth 10000 in
set_option maxHeartbeats 2000000 in
theorem take_any (l : List Int) (A : Option Addr) (c : Nat) (F : Nat → Prop) (i : Nat) (bad : Bool) (n : Int) (g : Nat) (w : World) (hR : RdB w g A l.length c i bad) (h : Ints w F A c l) (hn : l.length ≤ 4194304) (hi : i ≤ l.length) (hnb : -1000000 ≤ n ∧ n ≤ 1000000) :
    Calls Try.prog 117 #[.pointer (some ⟨g, 0, none⟩), .int .i64 n] w fun e w' =>
      ∃ v, e = .returned v ∧ App (Kind.int .i64) 3 w' w.heap.size v (takeStep l i bad n).1 ∧ RdB w' g A l.length c (takeStep l i bad n).2.1 (takeStep l i bad n).2.2 ∧ Chg (fun b => b = g) w w' := by
  obtain ⟨hn0, hn1⟩ := hnb
  have hgl := hR.lt
  have HFQ := Lib.hid (fun k => show RdB ((w.drewN k).setCell ⟨g, 2, none⟩ (.bool true)) g A l.length c i true from hR.bad true)
  have HCQ := Lib.hid (fun k => show Chg (fun b => b = g) w ((w.drewN k).setCell ⟨g, 2, none⟩ (.bool true)) from (Chg.of_below (F := fun b => b = g) (below_drewN w k)).trans (Chg.set (fun b => b = g) (w.drewN k) (p := ⟨g, 2, none⟩) rfl _))
  obtain ⟨q0, q1, q2, qf⟩ := thr hR
  have hl := h.1
  have hc := h.2.1
  by_cases hbad : bad = true ∨ n < 0 ∨ (l.length : Int) - i < n
  · have HN := Lib.hid (show takeStep l i bad n = ([], i, true) from if_pos hbad)
    by_cases h1 : bad = true
    · rw [h1] at q2
      clear hbad hR
      go_enter Try.func117, Try.ntmps117
      go_wp2_with fail
      go_quiet (fail)
      go_wp2
      go_ret
      rw [HN.out]
      exact ⟨_, rfl, AppP.nil _ _ _ _, HFQ.out _, HCQ.out _⟩
    · have h1' : bad = false := by simpa using h1
      rw [h1'] at q2
      by_cases h2 : n < 0
      · have d1 : decide (n < 0) = true := by simp [h2]
        clear hbad hR h1
        go_enter Try.func117, Try.ntmps117
        go_wp2_with fail
        go_quiet (fail)
        go_wp2
        go_ret
        rw [HN.out]
        exact ⟨_, rfl, AppP.nil _ _ _ _, HFQ.out _, HCQ.out _⟩
      · have h3 : (l.length : Int) - i < n := by rcases hbad with h | h | h; exact absurd h h1; exact absurd h h2; exact h
        have d1 : decide (n < 0) = false := by simp; omega
        have d2 : decide ((l.length : Int) - (i : Int) < n) = true := by simp; omega
        clear hbad hR h1
        go_enter Try.func117, Try.ntmps117
        go_wp2_with fail
        go_quiet (fail)
        all_goals
          go_wp2
          go_ret
          rw [HN.out]
          exact ⟨_, rfl, AppP.nil _ _ _ _, HFQ.out _, HCQ.out _⟩
  · have h1' : bad = false := by simpa using fun e => hbad (.inl e)
    have h2 : ¬ n < 0 := fun e => hbad (.inr (.inl e))
    have h3 : ¬ (l.length : Int) - i < n := fun e => hbad (.inr (.inr e))
    obtain ⟨m, rfl⟩ := Int.eq_ofNat_of_zero_le (show 0 ≤ n by omega)
    have HN := Lib.hid (show takeStep l i bad m = ((l.drop i).take m, i + m, false) from by unfold takeStep; rw [if_neg hbad]; rfl)
    rw [h1'] at q2
    have him : i + m ≤ l.length := by omega
    have d1 : decide ((m : Int) < 0) = false := by simp
    have d2 : decide ((l.length : Int) - (i : Int) < (m : Int)) = false := by simp; omega
    clear hbad
    have s1 : ∀ W : World, (Instr.slice 22 (.slice A l.length c) (some (.int .i64 (i : Int))) (some (.int .i64 ((i : Int) + (m : Int)))) none).run Try.prog W = .ok (.slice (cutAddr A i c 1) m (c - i)) W := fun W => by
      have := run_cutlh Try.underlying22 info_intV A l.length c i (i + m) _ _ rfl (show ((i : Int) + (m : Int)) = ((i + m : Nat) : Int) by simp) (by omega) (by omega) W
      rw [show i + m - i = m by omega] at this
      exact this
    have hT := ((h.cut i hi).take m)
    have hTl : ((l.drop i).take m).length = m := by rw [List.length_take, List.length_drop]; omega
    obtain ⟨xs, hxs⟩ : ∃ xs, xs = (l.drop i).take m := ⟨_, rfl⟩
    rw [← hxs] at hT hTl HN
    have HCl := Lib.hid (fun W (hW : Below w.heap.size w W) => Clone_any xs (cutAddr A i c 1) (c - i) _ W ((hT).below (w' := W) hW) (by omega))
    rw [hTl] at HCl
    have HRW := Lib.hid (fun k => show RdB (w.drewN k) g A l.length c i false from h1' ▸ hR)
    have HQ0 := fun k => (thr (HRW.out k)).1
    have HQ1 := fun k => (thr (HRW.out k)).2.1
    have HQ2 := fun k => (thr (HRW.out k)).2.2.1
    clear hR hT hxs
    go_enter Try.func117, Try.ntmps117
    go_wp2_with fail
    go_quiet (fail)
    generalize hW : World.drewN w _ = W
    have hRW : RdB W g A l.length c i false := by rw [← hW]; exact HRW.out _
    have bW : Below w.heap.size w W := by rw [← hW]; exact below_drewN w _
    clear hW HQ0 HQ1 HQ2 q0 q1 q2 qf
    obtain ⟨q0, q1, q2, qf⟩ := thr hRW
    have bD : Below W.heap.size W W.drew := ⟨rfl, rfl, rfl, Nat.le_refl _, fun _ _ => rfl⟩
    have HRD := Lib.hid (hRW.below bD)
    have HWD := Lib.hid (bthen bW bD)
    clear hRW
    have hw1 : IntKind.i64.wrap ((i : Int) + (m : Int)) = (i : Int) + (m : Int) := by rw [IntKind.wrap_i64]; omega
    have hw2 : wrap64 ((i : Int) + (m : Int)) = (i : Int) + (m : Int) := by unfold wrap64; omega
    go_wp2_with fail
    go_region_with (go_at_call 128; go_loud (refine (HCl.out _ HWD.out).mono ?_; rintro e w1 ⟨v, rfl, HA, hb1⟩))
    all_goals
      have hR1 := HRD.out.below hb1
      have hA1 := App.from HA HWD.out.size
      clear q0 q1 q2 qf
      obtain ⟨q0, q1, q2, qf⟩ := thr hR1
      have HFA := Lib.hid (hR1.at_ (i + m))
      have c1 := (Chg.of_below (F := fun b => b = g) (bthen HWD.out hb1)).trans (Chg.set (fun b => b = g) w1 (p := ⟨g, 1, none⟩) rfl (.int .i64 ((i + m : Nat) : Int)))
      have HCA := Lib.hid c1
      have HAA := Lib.hid (AppP.chg hA1 (Chg.set (fun b => b = g) w1 (p := ⟨g, 1, none⟩) rfl (.int .i64 ((i + m : Nat) : Int))) (fun b _ h1 h2 => by omega))
      clear HA hA1 hb1 c1 hR1 s1
      go_wp2
      go_ret
      rw [HN.out]
      exact ⟨_, rfl, HAA.out, HFA.out, HCA.out⟩
end

section
open Go.RowKit

theorem numStep_ok {l : List Int} (hb : bytesB l = true) {i : Nat} (hi : i ≤ l.length) (bad : Bool) : (numStep l i bad).2.1 ≤ l.length ∧ (-1000000 ≤ (numStep l i bad).1 ∧ (numStep l i bad).1 ≤ 1000000) := by
  unfold numStep
  cases bad with
  | true => exact ⟨hi, by simp⟩
  | false =>
    cases hv : rdV l i with
    | none => exact ⟨hi, by simp⟩
    | some x =>
      obtain ⟨n, j⟩ := x
      exact ⟨(rdV_bound hv).2, (rdV_inv hb hv).2.2⟩
theorem takeStep_ok {l : List Int} {i : Nat} (hi : i ≤ l.length) (bad : Bool) (n : Int) : (takeStep l i bad n).2.1 ≤ l.length := by
  unfold takeStep
  split
  · exact hi
  · rename_i h
    show i + n.toNat ≤ l.length
    have h2 : ¬ n < 0 := fun e => h (.inr (.inl e))
    have h3 : ¬ (l.length : Int) - i < n := fun e => h (.inr (.inr e))
    omega
def partStep (l : List Int) (i : Nat) (bad : Bool) : Bool × List Int × Nat × Bool :=
  if (numStep l i bad).1 = -1 then (false, [], (numStep l i bad).2.1, (numStep l i bad).2.2)
  else (true, (takeStep l (numStep l i bad).2.1 (numStep l i bad).2.2 (numStep l i bad).1).1, (takeStep l (numStep l i bad).2.1 (numStep l i bad).2.2 (numStep l i bad).1).2.1, (takeStep l (numStep l i bad).2.1 (numStep l i bad).2.2 (numStep l i bad).1).2.2)
theorem partStep_ok {l : List Int} (hb : bytesB l = true) {i : Nat} (hi : i ≤ l.length) (bad : Bool) : (partStep l i bad).2.2.1 ≤ l.length := by
  have h1 := numStep_ok hb hi bad
  unfold partStep
  split
  · exact h1.1
  · exact takeStep_ok h1.1 _ _
theorem partStep_bad (l : List Int) (i : Nat) : partStep l i true = (true, [], i, true) := by
  have e : numStep l i true = (0, i, true) := rfl
  unfold partStep
  rw [e]
  simp [takeStep]
theorem partStep_none {l : List Int} {i : Nat} (h : rdPart l i = none) : (partStep l i false).2.2.2 = true := by
  unfold rdPart at h
  unfold partStep
  cases hv : rdV l i with
  | none =>
    have e : numStep l i false = (0, i, true) := by unfold numStep; rw [hv]; rfl
    rw [e]
    simp [takeStep]
  | some x =>
    obtain ⟨n, d⟩ := x
    have e : numStep l i false = (n, d, false) := by unfold numStep; rw [hv]; rfl
    have hbd := rdV_bound hv
    rw [hv] at h
    rw [e]
    dsimp only at h ⊢
    by_cases hm : n = -1
    · rw [if_pos hm] at h; cases h
    · rw [if_neg hm] at h ⊢
      by_cases h2 : 0 ≤ n ∧ d + n.toNat ≤ l.length
      · rw [if_pos h2] at h; cases h
      · show (takeStep l d false n).2.2 = true
        unfold takeStep
        rw [if_pos (by omega)]
theorem partStep_some {l : List Int} {i d : Nat} {hk : Bool} {k : List Int} (h : rdPart l i = some (hk, k, d)) : partStep l i false = (hk, k, d, false) := by
  unfold rdPart at h
  unfold partStep
  cases hv : rdV l i with
  | none => rw [hv] at h; cases h
  | some x =>
    obtain ⟨n, e0⟩ := x
    have e : numStep l i false = (n, e0, false) := by unfold numStep; rw [hv]; rfl
    have hbd := rdV_bound hv
    rw [hv] at h
    rw [e]
    dsimp only at h ⊢
    by_cases hm : n = -1
    · rw [if_pos hm] at h ⊢
      injection h with h; injection h with h1 h2; injection h2 with h2 h3
      subst h1 h2 h3
      rfl
    · rw [if_neg hm] at h ⊢
      by_cases h2 : 0 ≤ n ∧ e0 + n.toNat ≤ l.length
      · rw [if_pos h2] at h
        injection h with h; injection h with h1 h3; injection h3 with h3 h4
        subst h1 h3 h4
        unfold takeStep
        rw [if_neg (by rintro (h | h | h); cases h; omega; omega)]
      · rw [if_neg h2] at h; cases h
/-- The five steps tell what the reading of a record tells. -/
theorem five_rd {l : List Int} {i : Nat} {o t : Int} {m dt dk : Int} {a b c d e : Nat} {b1 b2 b3 b4 b5 hk hv : Bool} {key val : List Int} (h1 : (m, a, b1) = numStep l i false) (h2 : (dt, b, b2) = numStep l a b1) (h3 : (dk, c, b3) = numStep l b b2)
    (h4 : (hk, key, d, b4) = partStep l c b3) (h5 : (hv, val, e, b5) = partStep l d b4) :
    rdRec l i o t = if b5 = true ∨ (e : Int) - a ≠ m ∨ recB ⟨o + dk, t + dt, hk, key, hv, val⟩ = false then none else some (⟨o + dk, t + dt, hk, key, hv, val⟩, e) := by
  have key4 : ∀ (p : Nat), partStep l p true = (true, [], p, true) := partStep_bad l
  have key2 : ∀ (p : Nat), numStep l p true = (0, p, true) := fun _ => rfl
  have bad4 : b4 = true → b5 = true := fun hb => by
    rw [hb, key4] at h5
    injection h5 with _ h5; injection h5 with _ h5; injection h5 with _ h5
  have bad3 : b3 = true → b5 = true := fun hb => bad4 (by
    rw [hb, key4] at h4
    injection h4 with _ h4; injection h4 with _ h4; injection h4 with _ h4)
  have bad2 : b2 = true → b5 = true := fun hb => bad3 (by
    rw [hb, key2] at h3
    injection h3 with _ h3; injection h3 with _ h3)
  have bad1 : b1 = true → b5 = true := fun hb => bad2 (by
    rw [hb, key2] at h2
    injection h2 with _ h2; injection h2 with _ h2)
  have step : ∀ {p : Nat} {x : Int} {q : Nat} {f : Bool}, (x, q, f) = numStep l p false → (rdV l p = none ∧ f = true) ∨ (rdV l p = some (x, q) ∧ f = false) := by
    intro p x q f h
    unfold numStep at h
    cases hv : rdV l p with
    | none => rw [hv] at h; simp at h; exact .inl ⟨rfl, h.2.2⟩
    | some y => obtain ⟨y1, y2⟩ := y; rw [hv] at h; simp at h; exact .inr ⟨by rw [h.1, h.2.1], h.2.2⟩
  unfold rdRec
  rcases step h1 with ⟨r1, e1⟩ | ⟨r1, e1⟩
  · rw [r1, if_pos (.inl (bad1 e1))]
  rw [r1]
  dsimp only
  rw [e1] at h2
  rcases step h2 with ⟨r2, e2⟩ | ⟨r2, e2⟩
  · rw [r2, if_pos (.inl (bad2 e2))]
  rw [r2]
  dsimp only
  rw [e2] at h3
  rcases step h3 with ⟨r3, e3⟩ | ⟨r3, e3⟩
  · rw [r3, if_pos (.inl (bad3 e3))]
  rw [r3]
  dsimp only
  rw [e3] at h4
  cases r4 : rdPart l c with
  | none =>
    have := partStep_none r4
    rw [← h4] at this
    rw [if_pos (.inl (bad4 this))]
  | some x =>
    obtain ⟨hk', key', d'⟩ := x
    have := partStep_some r4
    rw [← h4] at this
    simp only [Prod.mk.injEq] at this
    obtain ⟨rfl, rfl, rfl, e4⟩ := this
    dsimp only
    rw [e4] at h5
    cases r5 : rdPart l d with
    | none =>
      have := partStep_none r5
      rw [← h5] at this
      rw [if_pos (.inl this)]
    | some x =>
      obtain ⟨hv', val', e'⟩ := x
      have := partStep_some r5
      rw [← h5] at this
      simp only [Prod.mk.injEq] at this
      obtain ⟨rfl, rfl, rfl, e5⟩ := this
      dsimp only
      by_cases hm : m = (e : Int) - a
      · cases hr : recB ⟨o + dk, t + dt, hk, key, hv, val⟩ with
        | true => rw [if_pos ⟨hm, rfl⟩, if_neg (by rintro (h | h | h); rw [e5] at h; cases h; exact h hm.symm; cases h)]
        | false => rw [if_neg (fun h => by cases h.2), if_pos (.inr (.inr rfl))]
      · rw [if_neg (fun h => hm h.1), if_pos (.inr (.inl (fun h => hm h.symm)))]

set_option maxRecDepth 10000 in
set_option maxHeartbeats 2000000 in
theorem part_any (l : List Int) (A : Option Addr) (c : Nat) (F : Nat → Prop) (i : Nat) (bad : Bool) (g : Nat) (w : World) (hR : RdB w g A l.length c i bad) (h : Ints w F A c l) (hFg : ∀ b, F b → b ≠ g) (hb : bytesB l = true) (hn : l.length ≤ 4194304) (hi : i ≤ l.length) :
    Calls Try.prog 99 #[.pointer (some ⟨g, 0, none⟩)] w fun e w' =>
      ∃ v, e = .returned (.tuple #[.bool (partStep l i bad).1, v]) ∧ App (Kind.int .i64) 3 w' w.heap.size v (partStep l i bad).2.1 ∧ RdB w' g A l.length c (partStep l i bad).2.2.1 (partStep l i bad).2.2.2 ∧ Chg (fun b => b = g) w w' := by
  have hok := numStep_ok hb hi bad
  have HP := Lib.hid (partStep.eq_1 l i bad)
  obtain ⟨s, hs⟩ : ∃ s, s = numStep l i bad := ⟨_, rfl⟩
  have HS := Lib.hid hs
  rw [← hs] at hok HP
  obtain ⟨n, j, f⟩ := s
  dsimp only at hok HP
  clear hs
  go_enter Try.func99, Try.ntmps99
  go_wp2_with fail
  refine (number_any l A c F i bad g w hR h hb hn hi).mono ?_
  rintro e w1 ⟨rfl, hR1, c1⟩
  rw [← HS.out] at hR1 ⊢
  dsimp only at hR1 ⊢
  have h1 := h.keep (w' := w1) (c1.same (fun b _ h1 h2 => hFg b h1 h2))
  by_cases hm : n = -1
  · have HQ := Lib.hid (show partStep l i bad = (false, [], j, f) by rw [HP.out, if_pos hm])
    subst hm
    have HC := Lib.hid c1
    have HR1 := Lib.hid hR1
    clear c1 hR1 hR
    go_wp2
    go_ret2
    rw [HQ.out]
    exact ⟨_, rfl, AppP.nil _ _ _ _, HR1.out, HC.out⟩
  · have HQ := Lib.hid (show partStep l i bad = (true, (takeStep l j f n).1, (takeStep l j f n).2.1, (takeStep l j f n).2.2) by rw [HP.out, if_neg hm])
    have hm' : (n == -1) = false := by simpa using hm
    have hs1 := c1.size
    clear hm
    go_wp2_with fail
    refine (take_any l A c F j f n g w1 hR1 h1 hn hok.1 hok.2).mono ?_
    rintro e w2 ⟨v, rfl, HA, hR2, c2⟩
    have HAA := Lib.hid (App.from HA hs1)
    have HR2 := Lib.hid hR2
    have HC := Lib.hid (c1.trans c2)
    obtain ⟨A2, d2, rfl, _⟩ := HA.slice_
    clear HA hR2 c1 c2 hR1 hR
    go_wp2
    go_ret2
    rw [HQ.out]
    exact ⟨_, rfl, HAA.out, HR2.out, HC.out⟩
end
end Go.Proofs.Ytomcjjehfocbmaa
