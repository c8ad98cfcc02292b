/- Records from bytes: the program. -/
import Derived.Test.YtomcjjehfocbmaaV6
import Derived.Test.YtomcjjehfocbmaaB1
namespace Go.Proofs.Ytomcjjehfocbmaa
set_option linter.unusedVariables false
set_option linter.unusedSimpArgs false
open Go.RowKit

theorem numStep_ok {l : List Int} (hb : bytesB l = true) {i : Nat} (hi : i ≤ l.length) (bad : Bool) : (numStep l i bad).2.1 ≤ l.length ∧ (-1000000 ≤ (numStep l i bad).1 ∧ (numStep l i bad).1 ≤ 1000000) := by
  unfold numStep
  cases bad with
  | true => exact ⟨hi, by simp⟩
  | false =>
    cases hv : rdV l i with
    | none => exact ⟨hi, by simp⟩
    | some x =>
      obtain ⟨n, j⟩ := x
      exact ⟨(rdV_bound hv).2, (rdV_inv hb hv).2.2⟩
theorem takeStep_ok {l : List Int} {i : Nat} (hi : i ≤ l.length) (bad : Bool) (n : Int) : (takeStep l i bad n).2.1 ≤ l.length := by
  unfold takeStep
  split
  · exact hi
  · rename_i h
    show i + n.toNat ≤ l.length
    have h2 : ¬ n < 0 := fun e => h (.inr (.inl e))
    have h3 : ¬ (l.length : Int) - i < n := fun e => h (.inr (.inr e))
    omega
def partStep (l : List Int) (i : Nat) (bad : Bool) : Bool × List Int × Nat × Bool :=
  if (numStep l i bad).1 = -1 then (false, [], (numStep l i bad).2.1, (numStep l i bad).2.2)
  else (true, (takeStep l (numStep l i bad).2.1 (numStep l i bad).2.2 (numStep l i bad).1).1, (takeStep l (numStep l i bad).2.1 (numStep l i bad).2.2 (numStep l i bad).1).2.1, (takeStep l (numStep l i bad).2.1 (numStep l i bad).2.2 (numStep l i bad).1).2.2)
theorem partStep_ok {l : List Int} (hb : bytesB l = true) {i : Nat} (hi : i ≤ l.length) (bad : Bool) : (partStep l i bad).2.2.1 ≤ l.length := by
  have h1 := numStep_ok hb hi bad
  unfold partStep
  split
  · exact h1.1
  · exact takeStep_ok h1.1 _ _
theorem partStep_bad (l : List Int) (i : Nat) : partStep l i true = (true, [], i, true) := by
  have e : numStep l i true = (0, i, true) := rfl
  unfold partStep
  rw [e]
  simp [takeStep]
theorem partStep_none {l : List Int} {i : Nat} (h : rdPart l i = none) : (partStep l i false).2.2.2 = true := by
  unfold rdPart at h
  unfold partStep
  cases hv : rdV l i with
  | none =>
    have e : numStep l i false = (0, i, true) := by unfold numStep; rw [hv]; rfl
    rw [e]
    simp [takeStep]
  | some x =>
    obtain ⟨n, d⟩ := x
    have e : numStep l i false = (n, d, false) := by unfold numStep; rw [hv]; rfl
    have hbd := rdV_bound hv
    rw [hv] at h
    rw [e]
    dsimp only at h ⊢
    by_cases hm : n = -1
    · rw [if_pos hm] at h; cases h
    · rw [if_neg hm] at h ⊢
      by_cases h2 : 0 ≤ n ∧ d + n.toNat ≤ l.length
      · rw [if_pos h2] at h; cases h
      · show (takeStep l d false n).2.2 = true
        unfold takeStep
        rw [if_pos (by omega)]
theorem partStep_some {l : List Int} {i d : Nat} {hk : Bool} {k : List Int} (h : rdPart l i = some (hk, k, d)) : partStep l i false = (hk, k, d, false) := by
  unfold rdPart at h
  unfold partStep
  cases hv : rdV l i with
  | none => rw [hv] at h; cases h
  | some x =>
    obtain ⟨n, e0⟩ := x
    have e : numStep l i false = (n, e0, false) := by unfold numStep; rw [hv]; rfl
    have hbd := rdV_bound hv
    rw [hv] at h
    rw [e]
    dsimp only at h ⊢
    by_cases hm : n = -1
    · rw [if_pos hm] at h ⊢
      injection h with h; injection h with h1 h2; injection h2 with h2 h3
      subst h1 h2 h3
      rfl
    · rw [if_neg hm] at h ⊢
      by_cases h2 : 0 ≤ n ∧ e0 + n.toNat ≤ l.length
      · rw [if_pos h2] at h
        injection h with h; injection h with h1 h3; injection h3 with h3 h4
        subst h1 h3 h4
        unfold takeStep
        rw [if_neg (by rintro (h | h | h); cases h; omega; omega)]
      · rw [if_neg h2] at h; cases h
/-- The five steps tell what the reading of a record tells. -/
theorem five_rd {l : List Int} {i : Nat} {o t : Int} {m dt dk : Int} {a b c d e : Nat} {b1 b2 b3 b4 b5 hk hv : Bool} {key val : List Int} (h1 : (m, a, b1) = numStep l i false) (h2 : (dt, b, b2) = numStep l a b1) (h3 : (dk, c, b3) = numStep l b b2)
    (h4 : (hk, key, d, b4) = partStep l c b3) (h5 : (hv, val, e, b5) = partStep l d b4) :
    rdRec l i o t = if b5 = true ∨ (e : Int) - a ≠ m ∨ recB ⟨o + dk, t + dt, hk, key, hv, val⟩ = false then none else some (⟨o + dk, t + dt, hk, key, hv, val⟩, e) := by
  have key4 : ∀ (p : Nat), partStep l p true = (true, [], p, true) := partStep_bad l
  have key2 : ∀ (p : Nat), numStep l p true = (0, p, true) := fun _ => rfl
  have bad4 : b4 = true → b5 = true := fun hb => by
    rw [hb, key4] at h5
    injection h5 with _ h5; injection h5 with _ h5; injection h5 with _ h5
  have bad3 : b3 = true → b5 = true := fun hb => bad4 (by
    rw [hb, key4] at h4
    injection h4 with _ h4; injection h4 with _ h4; injection h4 with _ h4)
  have bad2 : b2 = true → b5 = true := fun hb => bad3 (by
    rw [hb, key2] at h3
    injection h3 with _ h3; injection h3 with _ h3)
  have bad1 : b1 = true → b5 = true := fun hb => bad2 (by
    rw [hb, key2] at h2
    injection h2 with _ h2; injection h2 with _ h2)
  have step : ∀ {p : Nat} {x : Int} {q : Nat} {f : Bool}, (x, q, f) = numStep l p false → (rdV l p = none ∧ f = true) ∨ (rdV l p = some (x, q) ∧ f = false) := by
    intro p x q f h
    unfold numStep at h
    cases hv : rdV l p with
    | none => rw [hv] at h; simp at h; exact .inl ⟨rfl, h.2.2⟩
    | some y => obtain ⟨y1, y2⟩ := y; rw [hv] at h; simp at h; exact .inr ⟨by rw [h.1, h.2.1], h.2.2⟩
  unfold rdRec
  rcases step h1 with ⟨r1, e1⟩ | ⟨r1, e1⟩
  · rw [r1, if_pos (.inl (bad1 e1))]
  rw [r1]
  dsimp only
  rw [e1] at h2
  rcases step h2 with ⟨r2, e2⟩ | ⟨r2, e2⟩
  · rw [r2, if_pos (.inl (bad2 e2))]
  rw [r2]
  dsimp only
  rw [e2] at h3
  rcases step h3 with ⟨r3, e3⟩ | ⟨r3, e3⟩
  · rw [r3, if_pos (.inl (bad3 e3))]
  rw [r3]
  dsimp only
  rw [e3] at h4
  cases r4 : rdPart l c with
  | none =>
    have := partStep_none r4
    rw [← h4] at this
    rw [if_pos (.inl (bad4 this))]
  | some x =>
    obtain ⟨hk', key', d'⟩ := x
    have := partStep_some r4
    rw [← h4] at this
    simp only [Prod.mk.injEq] at this
    obtain ⟨rfl, rfl, rfl, e4⟩ := this
    dsimp only
    rw [e4] at h5
    cases r5 : rdPart l d with
    | none =>
      have := partStep_none r5
      rw [← h5] at this
      rw [if_pos (.inl this)]
    | some x =>
      obtain ⟨hv', val', e'⟩ := x
      have := partStep_some r5
      rw [← h5] at this
      simp only [Prod.mk.injEq] at this
      obtain ⟨rfl, rfl, rfl, e5⟩ := this
      dsimp only
      by_cases hm : m = (e : Int) - a
      · cases hr : recB ⟨o + dk, t + dt, hk, key, hv, val⟩ with
        | true => rw [if_pos ⟨hm, rfl⟩, if_neg (by rintro (h | h | h); rw [e5] at h; cases h; exact h hm.symm; cases h)]
        | false => rw [if_neg (fun h => by cases h.2), if_pos (.inr (.inr rfl))]
      · rw [if_neg (fun h => hm h.1), if_pos (.inr (.inl (fun h => hm h.symm)))]

set_option maxRecDepth 10000 in
set_option maxHeartbeats 2000000 in
theorem part_any (l : List Int) (A : Option Addr) (c : Nat) (F : Nat → Prop) (i : Nat) (bad : Bool) (g : Nat) (w : World) (hR : RdB w g A l.length c i bad) (h : Ints w F A c l) (hFg : ∀ b, F b → b ≠ g) (hb : bytesB l = true) (hn : l.length ≤ 4194304) (hi : i ≤ l.length) :
    Calls Try.prog 99 #[.pointer (some ⟨g, 0, none⟩)] w fun e w' =>
      ∃ v, e = .returned (.tuple #[.bool (partStep l i bad).1, v]) ∧ App (Kind.int .i64) 3 w' w.heap.size v (partStep l i bad).2.1 ∧ RdB w' g A l.length c (partStep l i bad).2.2.1 (partStep l i bad).2.2.2 ∧ Chg (fun b => b = g) w w' := by
  have hok := numStep_ok hb hi bad
  have HP := Lib.hid (partStep.eq_1 l i bad)
  obtain ⟨s, hs⟩ : ∃ s, s = numStep l i bad := ⟨_, rfl⟩
  have HS := Lib.hid hs
  rw [← hs] at hok HP
  obtain ⟨n, j, f⟩ := s
  dsimp only at hok HP
  clear hs
  go_enter Try.func99, Try.ntmps99
  go_wp2_with fail
  refine (number_any l A c F i bad g w hR h hb hn hi).mono ?_
  rintro e w1 ⟨rfl, hR1, c1⟩
  rw [← HS.out] at hR1 ⊢
  dsimp only at hR1 ⊢
  have h1 := h.keep (w' := w1) (c1.same (fun b _ h1 h2 => hFg b h1 h2))
  by_cases hm : n = -1
  · have HQ := Lib.hid (show partStep l i bad = (false, [], j, f) by rw [HP.out, if_pos hm])
    subst hm
    have HC := Lib.hid c1
    have HR1 := Lib.hid hR1
    clear c1 hR1 hR
    go_wp2
    go_ret2
    rw [HQ.out]
    exact ⟨_, rfl, AppP.nil _ _ _ _, HR1.out, HC.out⟩
  · have HQ := Lib.hid (show partStep l i bad = (true, (takeStep l j f n).1, (takeStep l j f n).2.1, (takeStep l j f n).2.2) by rw [HP.out, if_neg hm])
    have hm' : (n == -1) = false := by simpa using hm
    have hs1 := c1.size
    clear hm
    go_wp2_with fail
    refine (take_any l A c F j f n g w1 hR1 h1 hn hok.1 hok.2).mono ?_
    rintro e w2 ⟨v, rfl, HA, hR2, c2⟩
    have HAA := Lib.hid (App.from HA hs1)
    have HR2 := Lib.hid hR2
    have HC := Lib.hid (c1.trans c2)
    obtain ⟨A2, d2, rfl, _⟩ := HA.slice_
    clear HA hR2 c1 c2 hR1 hR
    go_wp2
    go_ret2
    rw [HQ.out]
    exact ⟨_, rfl, HAA.out, HR2.out, HC.out⟩
end Go.Proofs.Ytomcjjehfocbmaa
