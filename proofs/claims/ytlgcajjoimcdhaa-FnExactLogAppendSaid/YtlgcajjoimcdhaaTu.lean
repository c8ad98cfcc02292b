/- container/heap over a row of times: up, Push. -/
import Derived.Test.YtlgcajjoimcdhaaTh
namespace Go.Proofs.Ytlgcajjoimcdhaa
set_option linter.unusedVariables false
set_option linter.unusedSimpArgs false
open Go.RowKit

abbrev tPtr (g : Nat) : Value := .iface 87 (.pointer (some ⟨g, 0, none⟩))
theorem nil_Less (a : Addr) (w : World) : (nilAhead 157 87 (.pointer (some a)) "Less").run Try.prog w = .ok (some false) w := by kernel_rfl
theorem nil_Swap (a : Addr) (w : World) : (nilAhead 157 87 (.pointer (some a)) "Swap").run Try.prog w = .ok (some false) w := by kernel_rfl
theorem nil_Push (a : Addr) (w : World) : (nilAhead 157 87 (.pointer (some a)) "Push").run Try.prog w = .ok (some false) w := by kernel_rfl
theorem method_Push (a : Addr) (w : World) : (method 229 87 (.pointer (some a)) "Push").run Try.prog w = .ok (117, .pointer (some a)) w := by kernel_rfl

theorem method_Less (g : Nat) (A : Option Addr) (n c : Nat) (w : World) (h : w.cell? ⟨g, 0, none⟩ = some (.slice A n c)) : (method 229 87 (.pointer (some ⟨g, 0, none⟩)) "Less").run Try.prog w = .ok (116, .slice A n c) w := by
  have e : (method 229 87 (.pointer (some ⟨g, 0, none⟩)) "Less").run Try.prog w = ((loadVar 88 ⟨g, 0, none⟩) >>= fun v => (pure (116, v) : Sem (FuncId × Value))).run Try.prog w := by kernel_rfl
  rw [e]
  simp [go_sem, h]
theorem method_Swap (g : Nat) (A : Option Addr) (n c : Nat) (w : World) (h : w.cell? ⟨g, 0, none⟩ = some (.slice A n c)) : (method 229 87 (.pointer (some ⟨g, 0, none⟩)) "Swap").run Try.prog w = .ok (118, .slice A n c) w := by
  have e : (method 229 87 (.pointer (some ⟨g, 0, none⟩)) "Swap").run Try.prog w = ((loadVar 88 ⟨g, 0, none⟩) >>= fun v => (pure (118, v) : Sem (FuncId × Value))).run Try.prog w := by kernel_rfl
  rw [e]
  simp [go_sem, h]
theorem method_Len (g : Nat) (A : Option Addr) (n c : Nat) (w : World) (h : w.cell? ⟨g, 0, none⟩ = some (.slice A n c)) : (method 229 87 (.pointer (some ⟨g, 0, none⟩)) "Len").run Try.prog w = .ok (115, .slice A n c) w := by
  have e : (method 229 87 (.pointer (some ⟨g, 0, none⟩)) "Len").run Try.prog w = ((loadVar 88 ⟨g, 0, none⟩) >>= fun v => (pure (115, v) : Sem (FuncId × Value))).run Try.prog w := by kernel_rfl
  rw [e]
  simp [go_sem, h]

set_option maxRecDepth 100000 in
set_option maxHeartbeats 1000000 in
theorem up_any (P : Nat → Prop) (g : Nat) (hs : List Int) (j : Nat) (w : World) (h : HeapAt P g w hs) (hg : ¬ P g) (hu : HeapUp hs j) (hn : hs.length ≤ 1000) :
    Calls Try.prog 87 #[tPtr g, .int .i64 j] w fun e w' => (∃ v, e = .returned v) ∧ (∃ hs', HeapAt P g w' hs' ∧ HeapOk hs' ∧ hs'.length = hs.length ∧ (∀ y, y ∈ hs' ↔ y ∈ hs)) ∧ Chg (fun b => b = g ∨ P b) w w' := by
  go_enter Try.func87, Try.ntmps87
  go_wp2_with fail
  go_loopw [1] (fun i wr => ∃ (k : Nat) (xs : List Int), i = .int .i64 k ∧ xs.length = hs.length ∧ Hid (∀ y, y ∈ xs ↔ y ∈ hs) ∧ HeapAt P g wr xs ∧ HeapUp xs k ∧ Hid (Chg (fun b => b = g ∨ P b) w wr)) (fun i _ => (intOf i).toNat)
  case atStart => exact ⟨j, hs, rfl, rfl, Lib.hid (fun _ => Iff.rfl), h, hu, Lib.hid (Chg.refl _ _)⟩
  case round =>
    obtain ⟨k, xs, rfl, hl, HM, ⟨v, hd, HA⟩, hu', HC⟩ := hrel
    obtain ⟨A, c, rfl, _, _⟩ := HA.slice_
    have hlt := hu'.lt
    have hxn : xs.length ≤ 1000 := by omega
    have HL := Lib.hid hl
    clear hl
    obtain ⟨o0, of⟩ := one hd
    by_cases h0 : k = 0
    · subst h0
      go_wp2
      go_end0
      exact ⟨⟨_, rfl⟩, ⟨xs, ⟨_, hd, HA⟩, heapUp_stop hu' (fun h => absurd h (by omega)), HL.out, HM.out⟩, HC.out⟩
    · obtain ⟨k, rfl⟩ : ∃ q, k = q + 1 := ⟨k - 1, by omega⟩
      have n1 := nil_Less
      have n2 := nil_Swap
      have m1 := method_Less g A xs.length c wr o0
      have hr := (AppP.row HA)
      obtain ⟨A', c', e, hr⟩ := hr
      injection e with e1 e2 e3
      subst e1 e3
      have d1 : ((k : Int) / 2 == (k : Int) + 1) = false := by rw [beq_eq_false_iff_ne]; omega
      have hp : k / 2 < xs.length := by omega
      have hpk : k / 2 ≠ k + 1 := by omega
      go_wp2_with fail
      rw [show (k : Int) / 2 = ((k / 2 : Nat) : Int) by omega, show (k : Int) + 1 = ((k + 1 : Nat) : Int) by omega]
      refine (Less_any xs A c _ (k + 1) (k / 2) _ hr hlt hp).mono ?_
      rintro e w1 ⟨rfl, hb1⟩
      have HA1 := HA.below hb1
      have hd1 := blk_below hd hb1
      have HC1 := Lib.hid (HC.out.trans (Chg.of_below hb1))
      obtain ⟨o1, of1⟩ := one hd1
      have m2 := method_Swap g A xs.length c w1 o1
      clear m1 o0 of hd HA hb1 hr HC
      by_cases hgt : xs[k / 2] < xs[k + 1]
      · have d2 : decide (xs[k / 2] < xs[k + 1]) = true := by simp [hgt]
        have hu3 : HeapUp (swapL xs (k / 2) (k + 1)) (k / 2) := by
          have := heapUp_swap hu' (by omega) (by simpa only [Nat.add_sub_cancel] using hgt)
          simpa only [Nat.add_sub_cancel] using this
        have HMM := Lib.hid (show ∀ y, y ∈ swapL xs (k / 2) (k + 1) ↔ y ∈ hs from fun y => (swapL_mem xs (k / 2) (k + 1) hp hlt y).trans (HM.out y))
        have hown : ∀ b, (Value.slice A xs.length c).ownBlock = some b → P b := fun b hb => HA1.ne hb
        have HU3 := Lib.hid hu3
        have HLL := Lib.hid (show (swapL xs (k / 2) (k + 1)).length = hs.length by rw [swapL_len]; exact HL.out)
        clear hgt hu' hu3
        go_wp2_with fail
        rw [show (k : Int) / 2 = ((k / 2 : Nat) : Int) by omega, show (k : Int) + 1 = ((k + 1 : Nat) : Int) by omega]
        refine (Swap_any P xs (.slice A xs.length c) (k / 2) (k + 1) w1 HA1 hp hlt hpk).mono ?_
        rintro e w3 ⟨⟨v3, rfl⟩, HA3, hc3⟩
        have hd3 := hc3.blk hd1 (fun e => hg (hown _ e))
        have HC3 := Lib.hid (HC1.out.trans (hc3.mono (fun i _ h => .inr (hown i h))))
        have HA3' := Lib.hid HA3
        have HD3 := Lib.hid hd3
        clear HA3 hc3 hd3 hd1 o1 of1 m2 HA1
        go_wp2
        go_roundw
        case rel => exact ⟨k / 2, _, by go_num, HLL.out, HMM, ⟨_, HD3.out, HA3'.out⟩, HU3.out, HC3⟩
        case measure => simp [intOf]; omega
      · have d2 : decide (xs[k / 2] < xs[k + 1]) = false := by simp; omega
        have HOK := Lib.hid (heapUp_stop hu' (fun h => by simp only [Nat.add_sub_cancel]; omega))
        clear hgt
        go_wp2
        go_end0
        exact ⟨⟨_, rfl⟩, ⟨xs, ⟨_, hd1, HA1⟩, HOK.out, HL.out, HM.out⟩, HC1.out⟩
set_option maxRecDepth 100000 in
/-- heap.Push. -/
theorem heapPush_any (P : Nat → Prop) (g : Nat) (hs : List Int) (x : Int) (w : World) (h : HeapAt P g w hs) (hP : ∀ b, w.heap.size ≤ b → P b) (hg : ¬ P g) (hok : HeapOk hs) (hn : hs.length < 1000) :
    Calls Try.prog 76 #[tPtr g, .iface 3 (.int .i64 x)] w fun e w' => (∃ v, e = .returned v) ∧ (∃ hs', HeapAt P g w' hs' ∧ HeapOk hs' ∧ hs'.length = hs.length + 1 ∧ (∀ y, y ∈ hs' ↔ (y ∈ hs ∨ y = x))) ∧ Chg (fun b => b = g ∨ P b) w w' := by
  go_enter Try.func76, Try.ntmps76
  have n1 := nil_Push
  have n2 := nil_Len
  have m1 : ∀ (a : Addr) (w : World), (method 229 87 (.pointer (some a)) "Push").run Try.prog w = .ok (117, .pointer (some a)) w := method_Push
  go_wp2_with fail
  refine (timesPush_any P g hs x w h hP hg (by omega)).mono ?_
  rintro e w1 ⟨⟨v1, rfl⟩, ⟨v, hd, HA⟩, hc1⟩
  have hu := heapUp_start hok x
  have e1 : (hs ++ [x]).length = hs.length + 1 := by simp
  obtain ⟨ys, hys⟩ : ∃ ys, ys = hs ++ [x] := ⟨_, rfl⟩
  rw [← hys] at HA hu e1
  have HYS := Lib.hid hys
  clear hys
  obtain ⟨A, c, rfl, hl1, hcc⟩ := HA.slice_
  obtain ⟨o0, of⟩ := one hd
  have m2 := method_Len g A ys.length c w1 o0
  have HH := Lib.hid (up_any P g ys hs.length w1 ⟨_, hd, HA⟩ hg hu (by omega))
  have hyn : ys.length ≤ 1000 := by omega
  have E1 := Lib.hid e1
  clear m1 HA hd hu e1
  go_wp2_with fail
  refine (Len_any A ys.length c w1).mono ?_
  rintro e w' ⟨rfl, rfl⟩
  clear m2 o0 of
  go_wp2_with fail
  rw [show (ys.length : Int) - 1 = (hs.length : Int) by have := E1.out; omega]
  refine (HH.out).mono ?_
  rintro e w3 ⟨⟨v3, rfl⟩, ⟨hs', h1, h2, h3, h4⟩, hc3⟩
  have HC := Lib.hid (hc1.trans hc3)
  have H3 := Lib.hid h3
  have H4 := Lib.hid h4
  clear h3 h4 hc1 hc3
  go_wp2
  go_end0
  exact ⟨⟨_, rfl⟩, ⟨hs', h1, h2, by rw [H3.out, E1.out], fun y => (H4.out y).trans (by rw [HYS.out]; simp)⟩, HC.out⟩
theorem AppP.tight {e : TypeId} {w : World} {P : Nat → Prop} {v : Value} {xs : List Int} (h : AppP (Kind.int .i64) e w P v xs) : AppP (Kind.int .i64) e w (fun b => v.ownBlock = some b) v xs := by
  obtain ⟨F, inner, ho, hP, hF, hE⟩ := h
  exact ⟨fun _ => False, inner, ho, fun k hk => hk, fun b hb => hb.elim, fun j x hj => hE j x hj⟩
end Go.Proofs.Ytlgcajjoimcdhaa
