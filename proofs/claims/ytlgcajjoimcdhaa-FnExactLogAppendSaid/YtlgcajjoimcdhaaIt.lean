/- The iterator over all records. -/
import Derived.RangeFuncNested
import Derived.RangeFuncBound
import Derived.RangeFuncCalls
import Derived.RangeFuncLeaves
import Derived.Shelf.Abstract
import Derived.Shelf.RegionOpen
import Derived.WalkKit
import Derived.OwnWalkIn
import Derived.TacticsInMore
import Derived.LoopNIn
import Derived.LoopIn
import Derived.Test.YtlgcajjoimcdhaaIp
import Derived.Test.YtlgcajjoimcdhaaHd
namespace Go.Proofs.Ytlgcajjoimcdhaa
set_option linter.unusedVariables false
set_option linter.unusedSimpArgs false
open Go.RowKit Go.Shelf
attribute [local go_sem] Oper.semAt_some

/-- What the body of a loop over records keeps: what lay below n₀, and the boxes of batches. -/
def Kpr (n₀ : Nat) (W W' : World) : Prop := Below n₀ W W' ∧ ∀ (b : Nat) (cs : Array Value), W.heap[b]? = some (.cells cs 30 (0, 0)) → W'.heap[b]? = some (.cells cs 30 (0, 0))
theorem Kpr.trans {n₀ : Nat} {A B C : World} (h : Kpr n₀ A B) (k : Kpr n₀ B C) : Kpr n₀ A C := ⟨h.1.trans k.1, fun b cs hb => k.2 b cs (h.2 b cs hb)⟩
theorem Kpr.book {n₀ : Nat} {w : World} (hn : n₀ ≤ w.heap.size) (W : World) (l : Nat) (o o' : Obj) (hl : w.heap.size ≤ l) (h : W.heap[l]? = some o) (hc : o.isCells = false) (hw : o.isWalk = false) : Kpr n₀ W (W.putObj l o') := by
  refine ⟨belowK_b hn W l o o' hl h hc hw, fun b cs hb => ?_⟩
  refine ((grownBy_putObj' W l o').block b (Array.getElem?_eq_some_iff.1 hb).1 (fun e => ?_)).trans hb
  injection e with e
  subst e
  rw [h] at hb
  injection hb with hb
  rw [hb] at hc
  simp [Obj.isCells] at hc
theorem Kpr.below {n₀ : Nat} {W W' : World} (hn : n₀ ≤ W.heap.size) (h : Below W.heap.size W W') : Kpr n₀ W W' := ⟨h.mono hn, fun b cs hb => blk_below hb h⟩

theorem grownBy_new (w : World) (o : Obj) : w.grownBy (w.alloc o) none := ⟨rfl, rfl, rfl, by simp, fun k hk _ => Below.heap_alloc w o k hk⟩
theorem own_blk {β : Type} (B g : Nat) (T : TypeId) (f : β → Array Value) : OwnFrom B (fun s W => W.heap[g]? = some (.cells (f s) T (0, 0))) :=
  fun _ _ _ _ hs hg hr => (grownBy_keeps_cells hg (fun r e => (hr r e).2) hs rfl).trans hs
theorem keeps_below {B : Nat} {W W' : World} (h : Below W.heap.size W W') : KeepsFrom B W W' := ⟨h.size, fun _ _ _ ho _ => blk_below ho h⟩
theorem keeps_set {B : Nat} (W : World) (a : Addr) (v : Value) : KeepsFrom B W (W.setCell a v) := (KeepsOthers.setCell W a v).from B
theorem one {w : World} {g : Nat} {t : TypeId} {v : Value} (h : w.heap[g]? = some (.cells #[v] t (0, 0))) : w.cell? ⟨g, 0, none⟩ = some v ∧ ∀ i, w.frozen? ⟨g, i, none⟩ = false := by
  refine ⟨?_, fun i => ?_⟩ <;> simp [World.cell?, World.frozen?, h]
theorem Kpr.set {n₀ g i : Nat} {W : World} {v : Value} {T : TypeId} {cs : Array Value} (hg : n₀ ≤ g) (h : W.heap[g]? = some (.cells cs T (0, 0))) (hT : T ≠ 30) : Kpr n₀ W (W.setCell ⟨g, i, none⟩ v) := by
  refine ⟨(Below.refl _ _).setCell (p := ⟨g, i, none⟩) hg _, fun b ds hb => ?_⟩
  refine (Below.heap_setCell W ⟨g, i, none⟩ v b (fun e => ?_)).trans hb
  have e' : b = g := e
  subst e'
  rw [h] at hb
  simp at hb
  exact hT hb.2
abbrev PrIn (L : List Pr) := { x : Pr // x ∈ L }
theorem map_snoc {L : List Pr} {pre : List (PrIn L)} {x : PrIn L} : (pre ++ [x]).map (·.1) = pre.map (·.1) ++ [x.1] := by simp

set_option maxRecDepth 100000 in
set_option maxHeartbeats 4000000 in
theorem records1_in (F : Fence) (n : Nat) (hfn : F.fn 83) (hro : F.round = none) (hn : 1 ≤ n) (l Bs n₀ c : Nat) (A : Option Addr) (bs : List Bat) (fB : Nat → Option Addr × Nat) (fR : Nat × Nat → Pl3) (hbl : bs.length ≤ c) (hcl : c ≤ 9223372036854775807)
    (hrl : ∀ k (hk : k < bs.length), bs[k].recs.length ≤ 9223372036854775807)
    (J Jx : List (PrIn (prs bs fB fR)) → World → Prop) (W : World) (hJ : AbidesFrom W.heap.size J)
    (hY : ∀ pre x W1, J pre W1 → pre.length < (prs bs fB fR).length → YieldAt F (n - 1) Try.prog l x.1.encs W1 fun e W' => (e = .returned (.bool true) ∧ J (pre ++ [x]) W' ∧ Kpr n₀ W1 W') ∨ (e = .returned (.bool false) ∧ Jx (pre ++ [x]) W'))
    (hBs : W.cell? ⟨Bs, 0, none⟩ = some (.slice A bs.length c)) (hn0 : n₀ ≤ W.heap.size) (hL : Lay W (fun b => b < n₀) A bs fB fR) (h0 : J [] W) :
    CallsIn F n Try.prog 83 #[.func (.yield l) #[] #[], .pointer (some ⟨Bs, 0, none⟩)] W fun e W' => (∃ v, e = .returned v) ∧
      ((∃ ys, ys.map (·.1) = prs bs fB fR ∧ J ys W') ∨ (∃ pre, pre.map (·.1) <+: prs bs fB fR ∧ Jx pre W')) := by
  have HRL := Lib.hid hrl
  clear hrl
  refine callsIn_of_wp Try.func83 rfl hfn ?_ hro
  simp only [Try.ntmps83, List.size_toArray, List.length_cons, List.length_nil, Nat.reduceAdd, Nat.reduceSub, Array.replicate_succ, Array.replicate_zero, List.push_toArray, List.append_toArray, List.nil_append, List.cons_append]
  gi_wp2
  gi_loopw [9] (fun i wr => ∃ k : Nat, k ≤ bs.length ∧ i = .int .i64 k ∧ (∃ pre, Hid (pre.map (·.1) = prsTo bs fB fR k) ∧ J pre wr) ∧ Hid (Below n₀ W wr) ∧ Hid (W.heap.size ≤ wr.heap.size)) (fun i _ => bs.length - (intOf i).toNat)
  case atStart => exact ⟨0, Nat.zero_le _, rfl, ⟨[], Lib.hid rfl, h0⟩, Lib.hid (Below.refl _ _), Lib.hid (Nat.le_refl _)⟩
  case round =>
    obtain ⟨k, hk, rfl, ⟨pre, hpre, hJs⟩, hnx, hsz⟩ := hrel
    obtain ⟨wo, rfl⟩ : ∃ wo : World, wo = wr := ⟨_, rfl⟩
    by_cases hlt : k < bs.length
    · have hLr := hL.keep (w' := wo) (fun b hb hlt => hnx.out.block b hb)
      obtain ⟨ad, rfl, had, hrecs, q0, q1, q2, q3, q4, q5⟩ := hLr.bat k hlt
      have hrl := HRL.out k hlt
      obtain ⟨B1, hB1⟩ : ∃ B1, (fB k).1 = B1 := ⟨_, rfl⟩
      rw [hB1] at q5
      have HB1 := Lib.hid hB1
      clear hB1
      gi_wp2
      generalize hW2 : World.alloc _ _ = W2
      obtain ⟨hbb, b2, hz2⟩ := alloc1 hW2
      have hJ2 : J pre W2 := by rw [← hW2]; exact hJ _ _ _ none hJs (grownBy_new wo _) (fun _ h => by cases h)
      have hn2 : n₀ ≤ wo.heap.size := by have := hsz.out; omega
      have hx2 := Lib.hid (hnx.out.trans (b2.mono hn2))
      have hsz2 := Lib.hid (show W.heap.size ≤ W2.heap.size by have := hsz.out; omega)
      have hpr2 : Hid (pre.map (·.1) = prsAt bs fB fR k 0) := Lib.hid (by rw [prsAt_zero]; exact hpre.out)
      clear hW2 q0 q1 q2 q3 q4 q5 hJs hrecs hLr
      gi_loopw [16] (fun i wr => ∃ j : Nat, j ≤ bs[k].recs.length ∧ i = .int .i64 j ∧ (∃ pre, Hid (pre.map (·.1) = prsAt bs fB fR k j) ∧ J pre wr) ∧ Hid (Below n₀ W wr) ∧ Hid (W.heap.size ≤ wr.heap.size) ∧
        Hid (wr.heap[wo.heap.size]? = some (.cells #[.bool bs[k].packed, .bool bs[k].mark, .int .i64 bs[k].prod, .int .i64 bs[k].epoch, .int .i64 bs[k].seq, .slice B1 bs[k].recs.length (fB k).2] 30 (0, 0)))) (fun i _ => bs[k].recs.length - (intOf i).toNat)
      case atStart => exact ⟨0, Nat.zero_le _, rfl, ⟨pre, hpr2, hJ2⟩, hx2, hsz2, Lib.hid hbb⟩
      case round =>
        obtain ⟨j, hj, rfl, ⟨pre', hpre', hJq⟩, hxq, hszq, hbq⟩ := hrel
        by_cases hjl : j < bs[k].recs.length
        · have hLq := hL.keep (w' := wr) (fun b hb hlt => hxq.out.block b hb)
          obtain ⟨ad', had', hadn, hK, hV, p0, p1, p2, p3, p4, p5⟩ := hLq.rec_ k hlt j hjl
          obtain rfl : B1 = some ad' := HB1.out.symm.trans had'
          obtain ⟨r0, r1, r2, r3, r4, r5, rf⟩ := six hbq.out
          have HAD := Lib.hid had'
          clear had'
          have hpl : pre'.length < (prs bs fB fR).length := by
            have h1 : (pre'.map (·.1)).length + 1 ≤ (prs bs fB fR).length := by
              rw [hpre'.out]
              have := (prsAt_prefix bs fB fR (k := k) (j := j + 1) hlt (by rw [batAt_eq hlt]; omega)).length_le
              rw [prsAt_succ] at this
              simpa using this
            rw [List.length_map] at h1
            exact h1
          have hnr : n₀ ≤ wr.heap.size := by have := hszq.out; omega
          generalize hX : wr.alloc (.cells #[.int .i64 bs[k].recs[j].off, .int .i64 bs[k].recs[j].time, .bool bs[k].recs[j].hk, .slice (fR (k, j)).1.1 bs[k].recs[j].key.length (fR (k, j)).1.2, .bool bs[k].recs[j].hv, .slice (fR (k, j)).2.1 bs[k].recs[j].val.length (fR (k, j)).2.2] 33) = X
          obtain ⟨hXb, bX, hzX⟩ := alloc1 hX
          have hJX : J pre' X := by rw [← hX]; exact hJ _ _ _ none hJq (grownBy_new wr _) (fun _ h => by cases h)
          have hmem : prAt bs fB fR k j ∈ prs bs fB fR := prAt_mem bs fB fR hlt (by rw [batAt_eq hlt]; exact hjl)
          obtain ⟨fn, tmps, assign, body, hy, hR⟩ := hY pre' ⟨prAt bs fB fR k j, hmem⟩ X hJX hpl
          have hrow := prAt_eq bs fB fR hlt hjl
          rw [show ((⟨prAt bs fB fR k j, hmem⟩ : PrIn (prs bs fB fR)).1) = _ from hrow] at hy
          dsimp only [Pr.encs] at hy
          rw [← hX] at hy
          rw [HAD.out] at hy
          have hXq := Lib.hid (hxq.out.trans (bX.mono hnr))
          have hXz := Lib.hid (show W.heap.size ≤ X.heap.size by have := hszq.out; omega)
          have hbX := Lib.hid (blk_below hbq.out bX)
          have hp3 : Hid ((pre' ++ [(⟨prAt bs fB fR k j, hmem⟩ : PrIn (prs bs fB fR))]).map (fun x => x.1) = prsAt bs fB fR k (j + 1)) := Lib.hid (by rw [map_snoc, hpre'.out, prsAt_succ])
          have hlt2 : wo.heap.size < wr.heap.size := (Array.getElem?_eq_some_iff.1 hbq.out).1
          have hne : wo.heap.size ≠ wr.heap.size := by omega
          have HX := Lib.hid hX
          clear hX hXb bX hzX hJX hrow
          gi_wp2
          rw [HX.out]
          refine hR.mono ?_
          rintro e W3 (⟨rfl, hJ3, hk3⟩ | ⟨rfl, hJx3⟩)
          · have hx3 := Lib.hid (hXq.out.trans hk3.1)
            have hb3 := Lib.hid (hk3.2 _ _ hbX.out)
            have hz3 : Hid (W.heap.size ≤ W3.heap.size) := Lib.hid (Nat.le_trans hXz.out hk3.1.size)
            clear hy hR hk3
            gi_wp2
            go_roundw
            case rel => exact ⟨j + 1, by omega, by go_num, ⟨_, hp3, hJ3⟩, hx3, hz3, hb3⟩
            case measure => simp [intOf]; omega
          · have hpx : Hid ((pre' ++ [(⟨prAt bs fB fR k j, hmem⟩ : PrIn (prs bs fB fR))]).map (fun x => x.1) <+: prs bs fB fR) := Lib.hid (by rw [hp3.out]; exact prsAt_prefix bs fB fR hlt (by rw [batAt_eq hlt]; exact hjl))
            clear hy hR
            gi_wp2
            refine bodyPost_ret (results_none rfl _ _ _) rfl ?_
            exact ⟨⟨_, rfl⟩, .inr ⟨_, hpx.out, hJx3⟩⟩
        · have hj2 : j = bs[k].recs.length := by omega
          have hpe : Hid (pre'.map (·.1) = prsTo bs fB fR (k + 1)) := Lib.hid (by rw [hpre'.out, hj2, ← prsAt_end, batAt_eq hlt])
          gi_wp2
          go_roundw
          case rel => exact ⟨k + 1, by omega, by go_num, ⟨pre', hpe, hJq⟩, hxq, hszq⟩
          case measure => simp [intOf]; omega
    · have hk2 : k = bs.length := by omega
      subst hk2
      gi_wp2
      go_end0
      exact ⟨⟨_, rfl⟩, .inl ⟨pre, hpre.out, hJs⟩⟩

/-- recordsOf(list). -/
theorem recordsOf_in (F : Fence) (n : Nat) (hfn : F.fn 69) (hro : F.round = none) (A : Option Addr) (m c : Nat) (w : World) :
    CallsIn F n Try.prog 69 #[.slice A m c] w fun e w' => e = .returned (.func (.func 83) #[] #[.pointer (some ⟨w.heap.size, 0, none⟩)]) ∧ w' = w.alloc (.cells #[.slice A m c] 23) := by
  refine callsIn_of_wp Try.func69 rfl hfn ?_ hro
  simp only [Try.ntmps69, List.size_toArray, List.length_cons, List.length_nil, Nat.reduceAdd, Nat.reduceSub, Array.replicate_succ, Array.replicate_zero, List.push_toArray, List.append_toArray, List.nil_append, List.cons_append]
  gi_wp2
  go_ret
  exact ⟨rfl, rfl⟩
theorem records_stops (F : Fence) (n : Nat) (hfn : F.fn 83) (hro : F.round = none) (hn : 1 ≤ n) (Bs n₀ c : Nat) (A : Option Addr) (bs : List Bat) (fB : Nat → Option Addr × Nat) (fR : Nat × Nat → Pl3) (hbl : bs.length ≤ c) (hcl : c ≤ 9223372036854775807)
    (w : World) (hBs : w.cell? ⟨Bs, 0, none⟩ = some (.slice A bs.length c)) (hn0 : n₀ ≤ w.heap.size) (hL : Lay w (fun b => b < n₀) A bs fB fR) :
    SeqStopsK F n Try.prog 83 #[.pointer (some ⟨Bs, 0, none⟩)] (fun x : PrIn (prs bs fB fR) => x.1.encs) (Kpr n₀) (fun ys => ys.map (·.1) = prs bs fB fR) (fun pre => pre.map (·.1) <+: prs bs fB fR) (prs bs fB fR).length w := fun l J Jx W hW hJ _ hY h0 => by
  have hb : Below w.heap.size w W := hW
  refine records1_in F n hfn hro hn l Bs n₀ c A bs fB fR hbl hcl (fun k hk => ?_) J Jx W hJ hY (below_cell hb hBs) (Nat.le_trans hn0 hb.size) (hL.keep (fun b hb' _ => hb.block b (Nat.lt_of_lt_of_le hb' hn0))) h0
  obtain ⟨_, _, _, hr, _⟩ := hL.bat k hk
  have := hr.1
  have := hr.2.1
  omega
end Go.Proofs.Ytlgcajjoimcdhaa
