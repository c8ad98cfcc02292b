/- The reference's matches. Loops over functions: what is kept; slices.Backward, slices.Chunk. Regions that draw their order and leave the world alone, inside a round of a loop over a function. -/
import Derived.Test.YtgnjnpfeofhniaaDoorPn
import Derived.Test.YtgnjnpfeofhniaaDoorGa
import Derived.RangeFuncNested
import Derived.RangeFuncBound
import Derived.RangeFuncCalls
import Derived.RangeFuncLeaves
import Derived.Shelf.Abstract
import Derived.Shelf.RegionOpen
import Derived.WalkKit
import Derived.OwnWalkIn
import Derived.TacticsInMore
import Derived.LoopNIn
import Derived.LoopIn
import Derived.OrdersIn
import Derived.Deep.QuietTactic
namespace Go.Proofs.YtgnjnpfeofhniaaDoor
set_option linter.unusedVariables false
set_option linter.unusedSimpArgs false
section
open Go.RowKit

theorem info_intP : (Tryd.prog.info? 3).map (fun i => (i.zero, i.size, i.bytes)) = some (some (.int .i64 0), 1, 8) := by kernel_rfl
/-- Reslicing from l to h. -/
theorem run_between {P : Program} {t e : TypeId} {z : Value} {s b : Nat} (ht : P.underlying t = some (.slice e)) (hinfo : (P.info? e).map (fun i => (i.zero, i.size, i.bytes)) = some (some z, s, b)) (A : Option Addr) (n cap l h : Nat) (L H : Int) (hL : L = (l : Int)) (hH : H = (h : Int)) (hlh : l ≤ h) (hh : h ≤ cap) (w : World) :
    (Instr.slice t (.slice A n cap) (some (.int .i64 L)) (some (.int .i64 H)) none).run P w = .ok (.slice (cutAddr A l cap s) (h - l) (cap - l)) w := by
  subst hL hH
  obtain ⟨i, hi, _, hs, _⟩ := info_of hinfo
  have he : P.elem t = e := by simp [Program.elem, ht]
  rw [run_slice_lh (P := P) (w := w) t A n cap (by rw [he]; exact ht) .i64 .i64 (l : Int) (h : Int) (by omega) (by omega) (by omega)]
  rw [he]
  simp [sizeOf, typeInfo, hi, hs, sliced, cutAddr, Result.andThen]
theorem getD_at {l : List Int} {k : Nat} (h : k < l.length) : l.getD k 0 = l[k] := by simp [List.getD_eq_getElem?_getD, h]
end

section
open Go.RowKit Go.Shelf
attribute [local go_sem] Oper.semAt_some

/-- What the body of a loop keeps: what lay below n₀, and one box. -/
def Kpb (n₀ Bs : Nat) (W W' : World) : Prop := Below n₀ W W' ∧ ∀ (T : TypeId) (cs : Array Value), W.heap[Bs]? = some (.cells cs T (0, 0)) → W'.heap[Bs]? = some (.cells cs T (0, 0))
theorem Kpb.trans {n₀ Bs : Nat} {A B C : World} (h : Kpb n₀ Bs A B) (k : Kpb n₀ Bs B C) : Kpb n₀ Bs A C := ⟨h.1.trans k.1, fun T cs hb => k.2 T cs (h.2 T cs hb)⟩
theorem Kpb.book {n₀ Bs : Nat} {w : World} (hn : n₀ ≤ w.heap.size) (W : World) (l : Nat) (o o' : Obj) (hl : w.heap.size ≤ l) (h : W.heap[l]? = some o) (hc : o.isCells = false) (hw : o.isWalk = false) : Kpb n₀ Bs W (W.putObj l o') := by
  refine ⟨belowK_b hn W l o o' hl h hc hw, fun T cs hb => ?_⟩
  refine ((grownBy_putObj' W l o').block Bs (Array.getElem?_eq_some_iff.1 hb).1 (fun e => ?_)).trans hb
  injection e with e
  subst e
  rw [h] at hb
  injection hb with hb
  rw [hb] at hc
  simp [Obj.isCells] at hc
theorem Kpb.chg {n₀ Bs : Nat} {G : Nat → Prop} {W W' : World} (hn : n₀ ≤ W.heap.size) (h : Chg G W W') (hG : ∀ b, G b → n₀ ≤ b ∧ b ≠ Bs) : Kpb n₀ Bs W W' :=
  ⟨h.below hn (fun b hb => (hG b hb).1), fun T cs hb => h.blk hb (fun hg => (hG Bs hg).2 rfl)⟩
theorem Kpb.below {n₀ Bs : Nat} {W W' : World} (hn : n₀ ≤ W.heap.size) (h : Below W.heap.size W W') : Kpb n₀ Bs W W' := ⟨h.mono hn, fun T cs hb => blk_below hb h⟩
theorem grownBy_newR (w : World) (o : Obj) : w.grownBy (w.alloc o) none := ⟨rfl, rfl, rfl, by simp, fun k hk _ => Below.heap_alloc w o k hk⟩
theorem ownBlkR {β : Type} (B g : Nat) (T : TypeId) (f : β → Array Value) : OwnFrom B (fun s W => W.heap[g]? = some (.cells (f s) T (0, 0))) :=
  fun _ _ _ _ hs hg hr => (grownBy_keeps_cells hg (fun r e => (hr r e).2) hs rfl).trans hs
theorem ownHbR {β : Type} {n B : Nat} {w : World} (hn : n ≤ w.heap.size) (hB : w.heap.size ≤ B) : OwnFrom B (fun (_ : β) W => Hid (Below n w W)) :=
  fun s X Y row hs hg hr => Lib.hid (ownFrom_below hn (Nat.le_trans hn hB) s X Y row hs.out hg hr)
def IsCellsR (w : World) (b : Nat) : Prop := ∃ o : Obj, w.heap[b]? = some o ∧ o.isCells = true
theorem keepsChgR {B : Nat} {G : Nat → Prop} {W W' : World} (h : Chg G W W') (hG : ∀ b, G b → IsCellsR W b) : KeepsFrom B W W' :=
  ⟨h.size, fun b _ _ ho hc => h.blk ho (fun hg => by
    obtain ⟨o', ho', hc'⟩ := hG b hg
    rw [ho] at ho'
    injection ho' with ho'
    subst ho'
    rw [hc] at hc'
    cases hc')⟩
theorem oneR {w : World} {g : Nat} {t : TypeId} {v : Value} (h : w.heap[g]? = some (.cells #[v] t (0, 0))) : w.cell? ⟨g, 0, none⟩ = some v ∧ ∀ i, w.frozen? ⟨g, i, none⟩ = false := by
  refine ⟨?_, fun i => ?_⟩ <;> simp [World.cell?, World.frozen?, h]

/-- Numbers from n down. -/
def downTo (n k : Nat) : List Nat := ((List.range n).reverse).take k
theorem downTo_zero (n : Nat) : downTo n 0 = [] := rfl
theorem downTo_succ {n k : Nat} (h : k < n) : downTo n (k + 1) = downTo n k ++ [n - 1 - k] := by
  unfold downTo
  rw [List.take_succ_eq_append_getElem (by simp; exact h)]
  simp
theorem downTo_all (n : Nat) : downTo n n = (List.range n).reverse := by
  unfold downTo
  rw [List.take_of_length_le (by simp)]
theorem downTo_prefix (n k : Nat) : downTo n k <+: (List.range n).reverse := List.take_prefix _ _
abbrev Ix (n : Nat) := { j : Nat // j < n }
theorem ix_snoc {n : Nat} {pre : List (Ix n)} {x : Ix n} : (pre ++ [x]).map (·.1) = pre.map (·.1) ++ [x.1] := by simp
def encIx (ps : List Int) (x : Ix ps.length) : Array Value := #[.int .i64 x.1, .int .i64 (ps.getD x.1 0)]

set_option maxRecDepth 100000 in
set_option maxHeartbeats 2000000 in
theorem backward1_in (F : Fence) (n : Nat) (hfn : F.fn 72) (hro : F.round = none) (hn : 1 ≤ n) (l Bs n₀ c : Nat) (A : Option Addr) (ps : List Int) (hbl : ps.length ≤ c) (hcl : c ≤ 9223372036854775807)
    (J Jx : List (Ix ps.length) → World → Prop) (W : World)
    (hY : ∀ pre x W1, J pre W1 → pre.length < ps.length → YieldAt F (n - 1) Tryd.prog l (encIx ps x) W1 fun e W' => (e = .returned (.bool true) ∧ J (pre ++ [x]) W' ∧ Kpb n₀ Bs W1 W') ∨ (e = .returned (.bool false) ∧ Jx (pre ++ [x]) W'))
    (hBs : W.heap[Bs]? = some (.cells #[.slice A ps.length c] 32 (0, 0))) (hL : Ints W (fun b => b < n₀) A c ps) (h0 : J [] W) :
    CallsIn F n Tryd.prog 72 #[.func (.yield l) #[] #[], .pointer (some ⟨Bs, 0, none⟩)] W fun e W' => (∃ v, e = .returned v) ∧
      ((∃ ys, ys.map (·.1) = (List.range ps.length).reverse ∧ J ys W') ∨ (∃ pre, pre.map (·.1) <+: (List.range ps.length).reverse ∧ Jx pre W')) := by
  obtain ⟨z0, zf⟩ := oneR hBs
  refine callsIn_of_wp Tryd.func72 rfl hfn ?_ hro
  simp only [Tryd.ntmps72, List.size_toArray, List.length_cons, List.length_nil, Nat.reduceAdd, Nat.reduceSub, Array.replicate_succ, Array.replicate_zero, List.push_toArray, List.append_toArray, List.nil_append, List.cons_append]
  gi_wp2
  gi_loopw [3] (fun i wr => ∃ k : Nat, k ≤ ps.length ∧ i = .int .i64 ((ps.length : Int) - 1 - k) ∧ (∃ pre, Hid (pre.map (·.1) = downTo ps.length k) ∧ J pre wr) ∧ Hid (Kpb n₀ Bs W wr)) (fun i _ => (intOf i + 1).toNat)
  case atStart => exact ⟨0, Nat.zero_le _, by simp, ⟨[], Lib.hid rfl, h0⟩, Lib.hid ⟨Below.refl _ _, fun _ _ h => h⟩⟩
  case round =>
    obtain ⟨k, hk, rfl, ⟨pre, hpre, hJs⟩, hkp⟩ := hrel
    obtain ⟨y0, yf⟩ := oneR (hkp.out.2 _ _ hBs)
    clear z0 zf
    by_cases hlt : k < ps.length
    · obtain ⟨j, hj⟩ : ∃ j, j = ps.length - 1 - k := ⟨_, rfl⟩
      have hjl : j < ps.length := by omega
      have hji : (ps.length : Int) - 1 - (k : Int) = (j : Int) := by omega
      rw [hji]
      obtain ⟨ad, rfl, _, hcell⟩ := (hL.keep (w' := wr) (fun b hb hlt => hkp.out.1.block b hb)).int_at hjl
      have hpl : pre.length < ps.length := by
        have := congrArg List.length hpre.out
        unfold downTo at this
        simp at this
        omega
      obtain ⟨fn, tmps, assign, body, hy, hR⟩ := hY pre ⟨j, hjl⟩ wr hJs hpl
      have hp3 : Hid ((pre ++ [(⟨j, hjl⟩ : Ix ps.length)]).map (·.1) = downTo ps.length (k + 1)) := Lib.hid (by rw [ix_snoc, hpre.out, downTo_succ hlt]; show downTo ps.length k ++ [j] = _; rw [hj])
      dsimp only [encIx] at hy
      rw [getD_at hjl] at hy
      have HJI := Lib.hid hji
      clear hj hji hpl
      gi_wp2
      refine hR.mono ?_
      rintro e W3 (⟨rfl, hJ3, hk3⟩ | ⟨rfl, hJx3⟩)
      · have hkp3 := Lib.hid (hkp.out.trans hk3)
        clear hy hR hk3 hcell y0 yf hkp
        gi_wp2
        go_roundw
        case rel => exact ⟨k + 1, by omega, by have := HJI.out; congr 1; omega, ⟨_, hp3, hJ3⟩, hkp3⟩
        case measure => simp [intOf]
      · have hpx : Hid ((pre ++ [(⟨j, hjl⟩ : Ix ps.length)]).map (·.1) <+: (List.range ps.length).reverse) := Lib.hid (by rw [hp3.out]; exact downTo_prefix _ _)
        clear hy hR
        gi_wp2
        refine bodyPost_ret (results_none rfl _ _ _) rfl ?_
        exact ⟨⟨_, rfl⟩, .inr ⟨_, hpx.out, hJx3⟩⟩
    · have hji : (ps.length : Int) - 1 - (k : Int) = -1 := by omega
      have hpe : Hid (pre.map (·.1) = (List.range ps.length).reverse) := Lib.hid (by rw [hpre.out, show k = ps.length by omega, downTo_all])
      rw [hji]
      clear hji
      gi_wp2
      go_end0
      exact ⟨⟨_, rfl⟩, .inl ⟨pre, hpe.out, hJs⟩⟩

/-- slices.Backward(s). -/
theorem backward_in (F : Fence) (n : Nat) (hfn : F.fn 69) (hro : F.round = none) (A : Option Addr) (m c : Nat) (w : World) :
    CallsIn F n Tryd.prog 69 #[.slice A m c] w fun e w' => e = .returned (.func (.func 72) #[] #[.pointer (some ⟨w.heap.size, 0, none⟩)]) ∧ w' = w.alloc (.cells #[.slice A m c] 32) := by
  refine callsIn_of_wp Tryd.func69 rfl hfn ?_ hro
  simp only [Tryd.ntmps69, List.size_toArray, List.length_cons, List.length_nil, Nat.reduceAdd, Nat.reduceSub, Array.replicate_succ, Array.replicate_zero, List.push_toArray, List.append_toArray, List.nil_append, List.cons_append]
  gi_wp2
  go_ret
  exact ⟨rfl, rfl⟩
theorem backward_stops (F : Fence) (n : Nat) (hfn : F.fn 72) (hro : F.round = none) (hn : 1 ≤ n) (Bs n₀ c : Nat) (A : Option Addr) (ps : List Int) (hbl : ps.length ≤ c) (hcl : c ≤ 9223372036854775807)
    (w : World) (hBs : w.heap[Bs]? = some (.cells #[.slice A ps.length c] 32 (0, 0))) (hn0 : n₀ ≤ w.heap.size) (hL : Ints w (fun b => b < n₀) A c ps) :
    SeqStopsK F n Tryd.prog 72 #[.pointer (some ⟨Bs, 0, none⟩)] (encIx ps) (Kpb n₀ Bs) (fun ys => ys.map (·.1) = (List.range ps.length).reverse) (fun pre => pre.map (·.1) <+: (List.range ps.length).reverse) ps.length w := fun l J Jx W hW _ _ hY h0 => by
  have hb : Below w.heap.size w W := hW
  exact backward1_in F n hfn hro hn l Bs n₀ c A ps hbl hcl J Jx W hY (blk_below hBs hb) (hL.keep (fun b hb' _ => hb.block b (Nat.lt_of_lt_of_le hb' hn0))) h0
end

section
open Go.RowKit

def noDefer (o : Oper) : Bool := match o.op with | .defer _ => false | _ => true
theorem noDefer_ne {o : Oper} (h : noDefer o = true) : ∀ c, o.op ≠ .defer c := by
  intro c e
  unfold noDefer at h
  rw [e] at h
  cases h
section
variable {P : Program} {ops : Array Oper} {md : Region.Mode} {C : World → Prop} {n l : Nat}
theorem wpIn_of_quiet_r {o : Oper} {a : Act} {K : Act → Prop} {K' : Act → World → Prop} {Q' : Exit → Act → World → Prop} {w : World} (hnd : noDefer o = true) (hw : C w) (h : ∀ a w', C w' → K a → K' a w')
    (hh : o.quiet P a C K) : o.wpIn (Fence.wide.inRound l) n P a w K' Q' := by
  obtain ⟨v, h1, h2⟩ := hh
  have h3 := h1 w hw
  unfold Oper.quietAt at h3
  refine ⟨fun _ _ => trivial, ?_⟩
  rw [Oper.semAt_eq _ _ _ (noDefer_ne hnd)]
  revert h3
  generalize (execOp a.eval o).run P w = r
  intro h3
  match r, h3 with
  | .ok (.value u) w', h3 =>
    obtain ⟨e1, e2⟩ := h3
    subst e1 e2
    exact h _ _ hw h2
  | .ok .skip w', h3 =>
    obtain ⟨e1, e2⟩ := h3
    subst e1
    rw [e2] at h2
    exact h _ _ hw h2
  | .ok (.enter f args) w', h3 =>
    obtain ⟨e1, hc⟩ := h3
    subst e1
    refine ⟨fun e => (by cases e), ?_⟩
    have hc' : CallsIn Fence.wide (n - 1) P f args w' _ := callsIn_wide.2 hc
    exact CallsIn.mono (F := Fence.wide.inRound l) hc' fun e w'' he => by
      obtain ⟨rfl, hw''⟩ := he
      exact h _ _ hw'' h2
theorem wpOpIn_of_quiet_r (hnd : ops.toList.all noDefer = true) {i : Nat} {a : Act} {K : Act → Prop} {K' : Act → World → Prop} {Q' : Exit → Act → World → Prop} {w : World} (hC : C w) (h : ∀ a w', C w' → K a → K' a w') (hh : qOp P ops C i K a) :
    wpOpIn (Fence.wide.inRound l) n P ops Q' i K' a w := by
  unfold qOp at hh
  unfold wpOpIn
  cases ho : ops[i]? with
  | none => rw [ho] at hh; exact h _ _ hC hh
  | some o =>
    rw [ho] at hh
    have hmem : noDefer o = true := List.all_eq_true.1 hnd o (by
      have : ops.toList[i]? = some o := by simpa using ho
      exact List.mem_of_getElem? this)
    by_cases hw : Region.wanted o (yielded ops a.tmps) = true
    · simp only [hw, if_true] at hh ⊢
      exact wpIn_of_quiet_r hmem hC h hh
    · simp only [hw, if_false, Bool.false_eq_true] at hh ⊢
      exact ⟨fun _ _ => trivial, h _ _ hC hh⟩
theorem wpAnyIn_of_quiet_r (hnd : ops.toList.all noDefer = true) {Q : Act → Prop} {Q' : Exit → Act → World → Prop} (hQ : ∀ a w, C w → Q a → Q' .normal a w) (fuel : Nat) : ∀ (listed : Array Bool) (a : Act) (w : World), C w →
    wpAnyQ P md ops C Q fuel listed a → wpAnyIn (Fence.wide.inRound l) n P md ops Q' fuel listed a w := by
  induction fuel with
  | zero => exact fun _ _ _ hw h => ⟨h.1, hQ _ _ hw h.2⟩
  | succ fuel ih => exact fun _ _ _ hw h => ⟨fun h0 => hQ _ _ hw (h.1 h0), fun i hi => wpOpIn_of_quiet_r hnd hw (fun a' w' hw' => ih _ a' w' hw') (h.2 i hi)⟩
/-- One walk in the text's order, inside a round. -/
theorem wpIn_region_drew_r {id : Nat} {Q : Exit → Act → World → Prop} {a : Act} {w : World} {L : List Oper} (hnd : L.all noDefer = true) (hm : P.follows .mixedOrders = true) (hB : Region.lexB .any L.toArray = true)
    (h : wpQuiet P L.toArray (fun w' => ∃ k, w' = w.drewN k) (fun a' => ∀ w', (∃ k, w' = w.drewN k) → Q .normal a' w') L a) : (Code.region id L.toArray true).wpIn (Fence.wide.inRound l) n P Q a w := by
  have hB' := hB
  simp only [Region.lexB, Bool.and_eq_true] at hB'
  refine wpIn_region_any hm (wpAnyIn_of_quiet_r (C := fun w' => ∃ k, w' = w.drewN k) (by simpa using hnd) (Q := fun a' => ∀ w', (∃ k, w' = w.drewN k) → Q .normal a' w') (fun _ w' hw' h => h w' hw') _ _ _ _ ⟨1, rfl⟩ ?_)
  have := wpAnyQ_lex (C := fun w' => ∃ k, w' = w.drewN k) (md := .any) hB'.1 L 0 (Array.replicate L.toArray.size false) a (by simp) (by simpa using hB'.2) h
  simpa using this
end
end
end Go.Proofs.YtgnjnpfeofhniaaDoor
