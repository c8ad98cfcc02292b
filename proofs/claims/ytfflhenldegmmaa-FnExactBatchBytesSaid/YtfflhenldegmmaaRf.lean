/- Loops over functions: what is kept; slices.Backward, slices.Chunk. -/
import Derived.RangeFuncNested
import Derived.RangeFuncBound
import Derived.RangeFuncCalls
import Derived.RangeFuncLeaves
import Derived.Shelf.Abstract
import Derived.Shelf.RegionOpen
import Derived.WalkKit
import Derived.OwnWalkIn
import Derived.TacticsInMore
import Derived.LoopNIn
import Derived.LoopIn
import Derived.Test.YtfflhenldegmmaaA3
import Derived.Test.YtfflhenldegmmaaP1
namespace Go.Proofs.Ytfflhenldegmmaa
set_option linter.unusedVariables false
set_option linter.unusedSimpArgs false
open Go.RowKit Go.Shelf
attribute [local go_sem] Oper.semAt_some

/-- What the body of a loop keeps: what lay below n₀, and one box. -/
def Kpb (n₀ Bs : Nat) (W W' : World) : Prop := Below n₀ W W' ∧ ∀ (T : TypeId) (cs : Array Value), W.heap[Bs]? = some (.cells cs T (0, 0)) → W'.heap[Bs]? = some (.cells cs T (0, 0))
theorem Kpb.trans {n₀ Bs : Nat} {A B C : World} (h : Kpb n₀ Bs A B) (k : Kpb n₀ Bs B C) : Kpb n₀ Bs A C := ⟨h.1.trans k.1, fun T cs hb => k.2 T cs (h.2 T cs hb)⟩
theorem Kpb.book {n₀ Bs : Nat} {w : World} (hn : n₀ ≤ w.heap.size) (W : World) (l : Nat) (o o' : Obj) (hl : w.heap.size ≤ l) (h : W.heap[l]? = some o) (hc : o.isCells = false) (hw : o.isWalk = false) : Kpb n₀ Bs W (W.putObj l o') := by
  refine ⟨belowK_b hn W l o o' hl h hc hw, fun T cs hb => ?_⟩
  refine ((grownBy_putObj' W l o').block Bs (Array.getElem?_eq_some_iff.1 hb).1 (fun e => ?_)).trans hb
  injection e with e
  subst e
  rw [h] at hb
  injection hb with hb
  rw [hb] at hc
  simp [Obj.isCells] at hc
theorem Kpb.chg {n₀ Bs : Nat} {G : Nat → Prop} {W W' : World} (hn : n₀ ≤ W.heap.size) (h : Chg G W W') (hG : ∀ b, G b → n₀ ≤ b ∧ b ≠ Bs) : Kpb n₀ Bs W W' :=
  ⟨h.below hn (fun b hb => (hG b hb).1), fun T cs hb => h.blk hb (fun hg => (hG Bs hg).2 rfl)⟩
theorem Kpb.below {n₀ Bs : Nat} {W W' : World} (hn : n₀ ≤ W.heap.size) (h : Below W.heap.size W W') : Kpb n₀ Bs W W' := ⟨h.mono hn, fun T cs hb => blk_below hb h⟩
theorem grownBy_newR (w : World) (o : Obj) : w.grownBy (w.alloc o) none := ⟨rfl, rfl, rfl, by simp, fun k hk _ => Below.heap_alloc w o k hk⟩
theorem ownBlkR {β : Type} (B g : Nat) (T : TypeId) (f : β → Array Value) : OwnFrom B (fun s W => W.heap[g]? = some (.cells (f s) T (0, 0))) :=
  fun _ _ _ _ hs hg hr => (grownBy_keeps_cells hg (fun r e => (hr r e).2) hs rfl).trans hs
theorem ownHbR {β : Type} {n B : Nat} {w : World} (hn : n ≤ w.heap.size) (hB : w.heap.size ≤ B) : OwnFrom B (fun (_ : β) W => Hid (Below n w W)) :=
  fun s X Y row hs hg hr => Lib.hid (ownFrom_below hn (Nat.le_trans hn hB) s X Y row hs.out hg hr)
def IsCellsR (w : World) (b : Nat) : Prop := ∃ o : Obj, w.heap[b]? = some o ∧ o.isCells = true
theorem keepsChgR {B : Nat} {G : Nat → Prop} {W W' : World} (h : Chg G W W') (hG : ∀ b, G b → IsCellsR W b) : KeepsFrom B W W' :=
  ⟨h.size, fun b _ _ ho hc => h.blk ho (fun hg => by
    obtain ⟨o', ho', hc'⟩ := hG b hg
    rw [ho] at ho'
    injection ho' with ho'
    subst ho'
    rw [hc] at hc'
    cases hc')⟩
theorem oneR {w : World} {g : Nat} {t : TypeId} {v : Value} (h : w.heap[g]? = some (.cells #[v] t (0, 0))) : w.cell? ⟨g, 0, none⟩ = some v ∧ ∀ i, w.frozen? ⟨g, i, none⟩ = false := by
  refine ⟨?_, fun i => ?_⟩ <;> simp [World.cell?, World.frozen?, h]

/-- Numbers from n down. -/
def downTo (n k : Nat) : List Nat := ((List.range n).reverse).take k
theorem downTo_zero (n : Nat) : downTo n 0 = [] := rfl
theorem downTo_succ {n k : Nat} (h : k < n) : downTo n (k + 1) = downTo n k ++ [n - 1 - k] := by
  unfold downTo
  rw [List.take_succ_eq_append_getElem (by simp; exact h)]
  simp
theorem downTo_all (n : Nat) : downTo n n = (List.range n).reverse := by
  unfold downTo
  rw [List.take_of_length_le (by simp)]
theorem downTo_prefix (n k : Nat) : downTo n k <+: (List.range n).reverse := List.take_prefix _ _
abbrev Ix (n : Nat) := { j : Nat // j < n }
theorem ix_snoc {n : Nat} {pre : List (Ix n)} {x : Ix n} : (pre ++ [x]).map (·.1) = pre.map (·.1) ++ [x.1] := by simp
def encIx (ps : List Int) (x : Ix ps.length) : Array Value := #[.int .i64 x.1, .int .i64 (ps.getD x.1 0)]

set_option maxRecDepth 100000 in
set_option maxHeartbeats 2000000 in
theorem backward1_in (F : Fence) (n : Nat) (hfn : F.fn 103) (hro : F.round = none) (hn : 1 ≤ n) (l Bs n₀ c : Nat) (A : Option Addr) (ps : List Int) (hbl : ps.length ≤ c) (hcl : c ≤ 9223372036854775807)
    (J Jx : List (Ix ps.length) → World → Prop) (W : World)
    (hY : ∀ pre x W1, J pre W1 → pre.length < ps.length → YieldAt F (n - 1) Try.prog l (encIx ps x) W1 fun e W' => (e = .returned (.bool true) ∧ J (pre ++ [x]) W' ∧ Kpb n₀ Bs W1 W') ∨ (e = .returned (.bool false) ∧ Jx (pre ++ [x]) W'))
    (hBs : W.heap[Bs]? = some (.cells #[.slice A ps.length c] 23 (0, 0))) (hL : Ints W (fun b => b < n₀) A c ps) (h0 : J [] W) :
    CallsIn F n Try.prog 103 #[.func (.yield l) #[] #[], .pointer (some ⟨Bs, 0, none⟩)] W fun e W' => (∃ v, e = .returned v) ∧
      ((∃ ys, ys.map (·.1) = (List.range ps.length).reverse ∧ J ys W') ∨ (∃ pre, pre.map (·.1) <+: (List.range ps.length).reverse ∧ Jx pre W')) := by
  obtain ⟨z0, zf⟩ := oneR hBs
  refine callsIn_of_wp Try.func103 rfl hfn ?_ hro
  simp only [Try.ntmps103, List.size_toArray, List.length_cons, List.length_nil, Nat.reduceAdd, Nat.reduceSub, Array.replicate_succ, Array.replicate_zero, List.push_toArray, List.append_toArray, List.nil_append, List.cons_append]
  gi_wp2
  gi_loopw [3] (fun i wr => ∃ k : Nat, k ≤ ps.length ∧ i = .int .i64 ((ps.length : Int) - 1 - k) ∧ (∃ pre, Hid (pre.map (·.1) = downTo ps.length k) ∧ J pre wr) ∧ Hid (Kpb n₀ Bs W wr)) (fun i _ => (intOf i + 1).toNat)
  case atStart => exact ⟨0, Nat.zero_le _, by simp, ⟨[], Lib.hid rfl, h0⟩, Lib.hid ⟨Below.refl _ _, fun _ _ h => h⟩⟩
  case round =>
    obtain ⟨k, hk, rfl, ⟨pre, hpre, hJs⟩, hkp⟩ := hrel
    obtain ⟨y0, yf⟩ := oneR (hkp.out.2 _ _ hBs)
    clear z0 zf
    by_cases hlt : k < ps.length
    · obtain ⟨j, hj⟩ : ∃ j, j = ps.length - 1 - k := ⟨_, rfl⟩
      have hjl : j < ps.length := by omega
      have hji : (ps.length : Int) - 1 - (k : Int) = (j : Int) := by omega
      rw [hji]
      obtain ⟨ad, rfl, _, hcell⟩ := (hL.keep (w' := wr) (fun b hb hlt => hkp.out.1.block b hb)).int_at hjl
      have hpl : pre.length < ps.length := by
        have := congrArg List.length hpre.out
        unfold downTo at this
        simp at this
        omega
      obtain ⟨fn, tmps, assign, body, hy, hR⟩ := hY pre ⟨j, hjl⟩ wr hJs hpl
      have hp3 : Hid ((pre ++ [(⟨j, hjl⟩ : Ix ps.length)]).map (·.1) = downTo ps.length (k + 1)) := Lib.hid (by rw [ix_snoc, hpre.out, downTo_succ hlt]; show downTo ps.length k ++ [j] = _; rw [hj])
      dsimp only [encIx] at hy
      rw [getD_at hjl] at hy
      have HJI := Lib.hid hji
      clear hj hji hpl
      gi_wp2
      refine hR.mono ?_
      rintro e W3 (⟨rfl, hJ3, hk3⟩ | ⟨rfl, hJx3⟩)
      · have hkp3 := Lib.hid (hkp.out.trans hk3)
        clear hy hR hk3 hcell y0 yf hkp
        gi_wp2
        go_roundw
        case rel => exact ⟨k + 1, by omega, by have := HJI.out; congr 1; omega, ⟨_, hp3, hJ3⟩, hkp3⟩
        case measure => simp [intOf]
      · have hpx : Hid ((pre ++ [(⟨j, hjl⟩ : Ix ps.length)]).map (·.1) <+: (List.range ps.length).reverse) := Lib.hid (by rw [hp3.out]; exact downTo_prefix _ _)
        clear hy hR
        gi_wp2
        refine bodyPost_ret (results_none rfl _ _ _) rfl ?_
        exact ⟨⟨_, rfl⟩, .inr ⟨_, hpx.out, hJx3⟩⟩
    · have hji : (ps.length : Int) - 1 - (k : Int) = -1 := by omega
      have hpe : Hid (pre.map (·.1) = (List.range ps.length).reverse) := Lib.hid (by rw [hpre.out, show k = ps.length by omega, downTo_all])
      rw [hji]
      clear hji
      gi_wp2
      go_end0
      exact ⟨⟨_, rfl⟩, .inl ⟨pre, hpe.out, hJs⟩⟩

/-- slices.Backward(s). -/
theorem backward_in (F : Fence) (n : Nat) (hfn : F.fn 101) (hro : F.round = none) (A : Option Addr) (m c : Nat) (w : World) :
    CallsIn F n Try.prog 101 #[.slice A m c] w fun e w' => e = .returned (.func (.func 103) #[] #[.pointer (some ⟨w.heap.size, 0, none⟩)]) ∧ w' = w.alloc (.cells #[.slice A m c] 23) := by
  refine callsIn_of_wp Try.func101 rfl hfn ?_ hro
  simp only [Try.ntmps101, List.size_toArray, List.length_cons, List.length_nil, Nat.reduceAdd, Nat.reduceSub, Array.replicate_succ, Array.replicate_zero, List.push_toArray, List.append_toArray, List.nil_append, List.cons_append]
  gi_wp2
  go_ret
  exact ⟨rfl, rfl⟩
theorem backward_stops (F : Fence) (n : Nat) (hfn : F.fn 103) (hro : F.round = none) (hn : 1 ≤ n) (Bs n₀ c : Nat) (A : Option Addr) (ps : List Int) (hbl : ps.length ≤ c) (hcl : c ≤ 9223372036854775807)
    (w : World) (hBs : w.heap[Bs]? = some (.cells #[.slice A ps.length c] 23 (0, 0))) (hn0 : n₀ ≤ w.heap.size) (hL : Ints w (fun b => b < n₀) A c ps) :
    SeqStopsK F n Try.prog 103 #[.pointer (some ⟨Bs, 0, none⟩)] (encIx ps) (Kpb n₀ Bs) (fun ys => ys.map (·.1) = (List.range ps.length).reverse) (fun pre => pre.map (·.1) <+: (List.range ps.length).reverse) ps.length w := fun l J Jx W hW _ _ hY h0 => by
  have hb : Below w.heap.size w W := hW
  exact backward1_in F n hfn hro hn l Bs n₀ c A ps hbl hcl J Jx W hY (blk_below hBs hb) (hL.keep (fun b hb' _ => hb.block b (Nat.lt_of_lt_of_le hb' hn0))) h0
end Go.Proofs.Ytfflhenldegmmaa
