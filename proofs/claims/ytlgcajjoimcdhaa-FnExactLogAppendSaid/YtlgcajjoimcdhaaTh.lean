/- container/heap over a row of times: the methods of the row. -/
import Derived.Test.YtlgcajjoimcdhaaAx
import Derived.Test.YtlgcajjoimcdhaaPh
import Derived.Test.YtlgcajjoimcdhaaOw
import Derived.Test.YtlgcajjoimcdhaaB1
import Derived.Test.YtlgcajjoimcdhaaIt
namespace Go.Proofs.Ytlgcajjoimcdhaa
set_option linter.unusedVariables false
set_option linter.unusedSimpArgs false
open Go.RowKit

/-- A variable that holds a row of ints of one's own. -/
def HeapAt (P : Nat → Prop) (g : Nat) (W : World) (hs : List Int) : Prop := ∃ v, W.heap[g]? = some (.cells #[v] 88 (0, 0)) ∧ AppP (Kind.int .i64) 3 W P v hs

theorem nil_Len (a : Addr) (w : World) : (nilAhead 157 87 (.pointer (some a)) "Len").run Try.prog w = .ok (some false) w := by kernel_rfl
theorem Less_any (xs : List Int) (A : Option Addr) (c : Nat) (F : Nat → Prop) (i j : Nat) (w : World) (h : Ints w F A c xs) (hi : i < xs.length) (hj : j < xs.length) :
    Calls Try.prog 116 #[.slice A xs.length c, .int .i64 i, .int .i64 j] w fun e w' => e = .returned (.bool (decide (xs[j] < xs[i]))) ∧ Below w.heap.size w w' := by
  have hl := h.1
  have hc := h.2.1
  go_enter Try.func116, Try.ntmps116
  obtain ⟨ad, rfl, _, q0⟩ := h.int_at hi
  obtain ⟨ad', e, _, q1⟩ := h.int_at hj
  injection e with e
  subst e
  have HBD := fun n => Lib.hid (below_drewN w n)
  go_wp2_with fail
  go_quiet (fail)
  go_wp2
  go_ret
  exact ⟨rfl, (HBD _).out⟩
theorem Len_any (A : Option Addr) (n c : Nat) (w : World) :
    Calls Try.prog 115 #[.slice A n c] w fun e w' => e = .returned (.int .i64 n) ∧ w = w' := by
  go_enter Try.func115, Try.ntmps115
  go_wp2
  go_ret
  exact ⟨rfl, rfl⟩
theorem timesPush_any (P : Nat → Prop) (g : Nat) (hs : List Int) (x : Int) (w : World) (h : HeapAt P g w hs) (hP : ∀ b, w.heap.size ≤ b → P b) (hg : ¬ P g) (hn : hs.length ≤ 1000) :
    Calls Try.prog 117 #[.pointer (some ⟨g, 0, none⟩), .iface 3 (.int .i64 x)] w fun e w' => (∃ v, e = .returned v) ∧ HeapAt P g w' (hs ++ [x]) ∧ Chg (fun b => b = g ∨ P b) w w' := by
  obtain ⟨v, hd, HA⟩ := h
  obtain ⟨A, c, rfl, hl, hc⟩ := HA.slice_
  go_enter Try.func117, Try.ntmps117
  have bD : Below w.heap.size w w.drew := ⟨rfl, rfl, rfl, Nat.le_refl _, fun _ _ => rfl⟩
  have hdD := blk_below hd bD
  obtain ⟨o0, of⟩ := one hdD
  obtain ⟨o1, of1⟩ := one (blk_below hd (bal w (.cells #[.int .i64 x] 3)))
  have HAD := HA.below bD
  have HD := Lib.hid hdD
  have hne : ∀ b, (Value.slice A hs.length c).ownBlock = some b → b ≠ g := fun b hb e => hg (e ▸ HAD.ne hb)
  clear hd hdD
  have hta : ∀ W, (Instr.typeAssert (.iface 3 (.int .i64 x)) 20 3 false).run Try.prog W = .ok (.int .i64 x) W := fun _ => by kernel_rfl
  go_wp2_with fail
  go_region_law (refine step_appP (Kind.int .i64) HAD rfl _ _ 88 (.int .i64 0) 8 rfl Try.underlying88 (by kernel_rfl) rfl (by decide) x [.int .i64 x] (fun _ => False) rfl rfl rfl (fun _ h => h.elim) (by simp [Value.oneCell']) hP (by omega) (by omega) ?_; intro v1 w1 HA1 hc1; obtain ⟨A1, c1, rfl, hl1, hcc1⟩ := HA1.slice_; have hd1 := hc1.blk HD.out (fun e => hne _ e rfl); obtain ⟨z0, zf⟩ := one hd1; have HD1 := Lib.hid hd1; have HHA := Lib.hid HA1; clear hd1 HA1)
  all_goals
    have e1 : (hs ++ [x]).length = hs.length + 1 := by simp
    rw [e1] at HHA
    have HW := Lib.hid (((Chg.of_below (F := fun b => b = g ∨ P b) bD).trans (hc1.mono (fun i _ h => .inr (HAD.ne h)))).trans (Chg.set (fun b => b = g ∨ P b) w1 (p := ⟨g, 0, none⟩) (.inl rfl) (.slice A1 (hs.length + 1) c1)))
    clear hc1 hcc1 hl1 e1 z0 zf
    go_wp2
    go_end0
    refine ⟨⟨_, rfl⟩, ⟨.slice A1 (hs.length + 1) c1, ?_, HHA.out.chg (Chg.set (fun b => b = g) w1 (p := ⟨g, 0, none⟩) rfl _) (fun b _ hb e => hg (e ▸ hb))⟩, HW.out⟩
    have := blk_put HD1.out 0 (.slice A1 (hs.length + 1) c1)
    simpa using this
theorem AppP.setInt {e : TypeId} {w : World} {P : Nat → Prop} {xs : List Int} {gq n cap : Nat} (hn : n = xs.length) (h : AppP (Kind.int .i64) e w P (.slice (some ⟨gq, 0, none⟩) n cap) xs) (i : Nat) (hi : i < xs.length) (x : Int) :
    AppP (Kind.int .i64) e (w.setCell ⟨gq, i, none⟩ (.int .i64 x)) P (.slice (some ⟨gq, 0, none⟩) n cap) (xs.set i x) := by
  subst hn
  obtain ⟨F, inner, ho, hP, hF, hE⟩ := h
  have hlen := ho.1
  refine ⟨fun _ => False, inner.set i (.int .i64 x), by simpa using (ho.stored i (.int .i64 x)).1, hP, fun b hb => hb.elim, fun j y hj => ⟨[.int .i64 y], rfl, fun q u hu => ?_⟩⟩
  have hs : (Kind.int .i64).sz = 1 := rfl
  rw [hs] at hlen ⊢
  obtain ⟨rfl, rfl⟩ : q = 0 ∧ u = .int .i64 y := by
    cases q with
    | zero => exact ⟨rfl, by simpa using hu.symm⟩
    | succ q => simp at hu
  by_cases hji : i = j
  · subst hji
    have : y = x := by simpa [hi] using hj.symm
    subst this
    have : i < inner.length := by omega
    simp [this]
  · rw [List.getElem?_set_ne hji] at hj
    obtain ⟨cs, hK, hc⟩ := hE j y hj
    rw [Nat.mul_one, Nat.add_zero, List.getElem?_set_ne hji]
    have := hc 0 _ (by rw [hK]; rfl)
    rw [hs] at this
    simpa using this
theorem Swap_any (P : Nat → Prop) (hs : List Int) (v : Value) (i j : Nat) (w : World) (HA : AppP (Kind.int .i64) 3 w P v hs) (hi : i < hs.length) (hj : j < hs.length) (hij : i ≠ j) :
    Calls Try.prog 118 #[v, .int .i64 i, .int .i64 j] w fun e w' => (∃ v, e = .returned v) ∧ AppP (Kind.int .i64) 3 w' P v (swapL hs i j) ∧ Chg (fun b => v.ownBlock = some b) w w' := by
  have bD : Below w.heap.size w w.drew := ⟨rfl, rfl, rfl, Nat.le_refl _, fun _ _ => rfl⟩
  have HAD := HA.below bD
  obtain ⟨gq, cap, cur, rfl, hg, hb, hsz, hl, hc, hE⟩ := HAD.own (by omega)
  obtain ⟨csi, hKi, hci⟩ := hE i _ (List.getElem?_eq_getElem hi)
  obtain ⟨csj, hKj, hcj⟩ := hE j _ (List.getElem?_eq_getElem hj)
  have q0 := hci 0 _ (by rw [hKi]; rfl)
  have q1 := hcj 0 _ (by rw [hKj]; rfl)
  have s1 : (Kind.int .i64).sz = 1 := rfl
  rw [s1, Nat.mul_one, Nat.add_zero] at q0 q1
  have fz : ∀ k, w.drew.frozen? ⟨gq, k, none⟩ = false := fun k => by simp [World.frozen?, hb]
  have p0 : w.cell? ⟨gq, i, none⟩ = some (.int .i64 hs[i]) := q0
  have p1 : w.cell? ⟨gq, j, none⟩ = some (.int .i64 hs[j]) := q1
  have fz' : ∀ k, w.frozen? ⟨gq, k, none⟩ = false := fz
  have HE := Lib.hid hE
  have HB := Lib.hid hb
  clear hE hb hci hcj hKi hKj s1
  go_enter Try.func118, Try.ntmps118
  go_wp2_with fail
  go_region
  have HF := (AppP.setInt (by simp) (AppP.setInt rfl HA i hi (hs.getD j 0)) j (by simpa using hj) (hs.getD i 0)).chg (Chg.refl (fun _ => False) _).drew (fun _ _ _ h => h)
  have hwi : hs.getD i 0 = hs[i] := by simp [List.getD, hi]
  have hwj : hs.getD j 0 = hs[j] := by simp [List.getD, hj]
  rw [show (hs.set i (hs.getD j 0)).set j (hs.getD i 0) = swapL hs i j from rfl, hwi, hwj] at HF
  have HFF := Lib.hid HF
  have HC := Lib.hid (((Chg.set (fun b => b = gq) w (p := ⟨gq, i, none⟩) rfl (.int .i64 hs[j])).trans (Chg.set (fun b => b = gq) _ (p := ⟨gq, j, none⟩) rfl (.int .i64 hs[i]))).drew)
  clear HF hwi hwj q0 q1 p0 p1
  go_wp2
  go_end0
  exact ⟨⟨_, rfl⟩, HFF.out, HC.out.mono (fun b _ (hb : b = gq) => by rw [hb]; rfl)⟩
end Go.Proofs.Ytlgcajjoimcdhaa
