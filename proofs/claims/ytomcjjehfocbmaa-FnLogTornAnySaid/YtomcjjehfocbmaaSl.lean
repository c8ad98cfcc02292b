/- A range over an iterator that lays new memory between two rounds, and tells at its end what it wrote: the law for a body that never leaves early. No program in sight. Scanning a segment: the iterator of the program. Scanning a segment: the program's LogScan. -/
import Derived.RangeFuncNested
import Derived.RangeFuncCalls
import Derived.RangeFuncLeaves
import Derived.Test.YtomcjjehfocbmaaIt
import Derived.Test.YtomcjjehfocbmaaBi
import Derived.Test.YtomcjjehfocbmaaPj
import Derived.Test.YtomcjjehfocbmaaAx
import Derived.Sort.QuietIn
namespace Go.Proofs.Ytomcjjehfocbmaa
set_option linter.unusedVariables false
set_option linter.unusedSimpArgs false
section
open Go.RowKit

/-- The contract of an iterator: at each yield it tells the last world of the body (W0) and the present one (W1), which has grown out of it; Fr: what is told of the element there; Kp: what the body keeps; S: what is told behind the last round. -/
def SeqNew {α : Type} (F : Fence) (n : Nat) (P : Program) (g : Nat) (lb : Array Value) (encs : α → Array Value) (Fr : List α → α → World → World → Prop) (Kp : World → World → Prop) (S : List α → World → World → Prop) (w : World) : Prop :=
  ∀ (l : Nat) (J : List α → World → Prop) (W : World), Below w.heap.size w W →
    (∀ pre x W0 W1, J pre W0 → Below W0.heap.size W0 W1 → Fr pre x W0 W1 → YieldAt F (n - 1) P l (encs x) W1 fun e W' => e = .returned (.bool true) ∧ J (pre ++ [x]) W' ∧ Kp W1 W') →
    J [] W →
    CallsIn F n P g (#[.func (.yield l) #[] #[]] ++ lb) W fun e W' => (∃ v, e = .returned v) ∧ ∃ xs W0, J xs W0 ∧ S xs W0 W'

variable {F : Fence} {n : Nat} {P : Program}
/-- How a body that goes on is left. -/
def onlyOn (R : World → Prop) : Exit → Act → World → Prop
  | .normal, _, W' => R W'
  | _, _, _ => False

theorem wpIn_rangeFunc_new {α : Type} {g : Operand} {ps : Array Tmp} {assign body : Code} {Q : Exit → Act → World → Prop} {a : Act} {w : World}
    (hro : F.round = none) (h1 : 1 ≤ n) {gf : Nat} {lb : Array Value} (hg : a.eval g = .func (.func gf) #[] lb) (hFg : F.fn gf) (eg : ∀ args w, (callFunc gf args).run P w = .ok (.enter gf args) w)
    {encs : α → Array Value} {Fr : List α → α → World → World → Prop} {Kp : World → World → Prop} {S : List α → World → World → Prop} {w0 : World} (hseq : SeqNew F (n - 1) P gf lb encs Fr Kp S w0)
    (hKt : ∀ {A B C : World}, Kp A B → Kp B C → Kp A C) (hKb : ∀ (W : World) (l : Nat) (o o' : Obj), w.heap.size ≤ l → W.heap[l]? = some o → o.isCells = false → o.isWalk = false → Kp W (W.putObj l o')) (hb0 : Below w0.heap.size w0 w) (hps : ∀ x, (encs x).size = ps.size)
    (I : List α → World → Prop) (hI : OwnFrom w.heap.size I) (h0 : I [] w) (M : List α → α → Act → World → Prop) (hM : ∀ pre x a', OwnFrom w.heap.size (fun (_ : Unit) W => M pre x a' W))
    (hS : ∀ xs W0 W', S xs W0 W' → KeepsFrom w.heap.size W0 W')
    (hassign : ∀ (l : Nat) (pre : List α) (x : α) (W0 W : World) (K : Act → World → Prop), I pre W0 → Below W0.heap.size W0 W → Fr pre x W0 W → (∀ a' W', KeepsFrom w.heap.size W W' → Kp W W' → M pre x a' W' → K a' W') →
      assign.wpIn (F.inRound l) (n - 1 - 1) P (Exit.then K (fun _ _ _ => False)) { tmps := (ps.zip (encs x)).foldl (fun t (p, v) => t.setIfInBounds p v) a.tmps, defers := [] } W)
    (hbody : ∀ (l : Nat) (pre : List α) (x : α) (a' : Act) (W : World), w.heap.size ≤ l → (∃ r, W.heap[l]? = some (.loop r)) → M pre x a' W →
      body.wpIn (F.inRound l) (n - 1 - 1) P (onlyOn fun W' => KeepsFrom w.heap.size W W' ∧ Kp W W' ∧ I (pre ++ [x]) W') a' W)
    (hdone : ∀ (D l : Nat) (xs : List α) (W0 W : World) (o : Obj), w.heap.size ≤ D → w.heap.size ≤ l → D ≠ l → I xs W0 → S xs W0 W → W.heap[D]? = some (.deferred (some [])) → (∃ o1, W.heap[l]? = some o1 ∧ o1.isCells = false) →
      Q .normal { a with defers := { target := .collected D, args := #[] } :: a.defers } (W.putObj l o)) :
    (Code.rangeFunc g ps assign body).wpIn F n P Q a w := by
  refine wpIn_rangeFunc fun fn hfn => ?_
  rw [hro]
  obtain ⟨rec, hrec⟩ : ∃ rec : LoopState → Option Code → Loop, rec = fun st pe => { state := st, pending := pe, fn, tmps := a.tmps, params := ps, assign, body, defers := w.heap.size } := ⟨_, rfl⟩
  obtain ⟨W1, hW1⟩ : ∃ W1, (w.alloc (.deferred (some []))).alloc (.loop (rec .ready none)) = W1 := ⟨_, rfl⟩
  have hL1 : W1.heap[w.heap.size + 1]? = some (.loop (rec .ready none)) := by
    have := World.alloc_heap_new (w.alloc (.deferred (some []))) (.loop (rec .ready none))
    rw [World.size_alloc] at this
    rw [← hW1]
    exact this
  have hD1 : W1.heap[w.heap.size]? = some (.deferred (some [])) := by
    rw [← hW1]
    exact (Below.heap_alloc _ _ _ (by simp)).trans (World.alloc_heap_new w _)
  have hI1 : I [] W1 := by
    rw [← hW1]
    exact hI.alloc _ (hI.alloc _ h0)
  have hb1 : Below w0.heap.size w0 W1 := by
    rw [← hW1]
    exact hb0.trans ((((Below.refl _ w).alloc (Nat.le_refl _) _).alloc (by simp) _).mono hb0.size)
  refine ⟨w.heap.size + 1, [{ target := .collected w.heap.size, args := #[] }], W1, { target := .fn (.func gf) lb, args := #[.func (.yield (w.heap.size + 1)) #[] #[]] }, W1, gf, #[.func (.yield (w.heap.size + 1)) #[] #[]] ++ lb, W1, ?_, ?_, ?_, ?_, fun _ => h1, ?_⟩
  · rw [← hW1, hrec]
    exact run_enterLoop_outer _ _ _ _ _
  · simp only [resolve, hg]
    simp [go_sem]
  · intro f' hf'
    simp [Target.leads] at hf'
    subst hf'
    exact hFg
  · simp [invoke, go_sem, eg]
  refine (hseq (w.heap.size + 1) (fun pre W => I pre W ∧ W.heap[w.heap.size + 1]? = some (.loop (rec .ready none)) ∧ W.heap[w.heap.size]? = some (.deferred (some []))) W1 hb1 ?_ ⟨hI1, hL1, hD1⟩).mono ?_
  · rintro pre x W0 W ⟨hi, hl0, hd0⟩ hbW hfr
    have hl : W.heap[w.heap.size + 1]? = some (.loop (rec .ready none)) := (hbW.block _ (Array.getElem?_eq_some_iff.1 hl0).1).trans hl0
    have hd : W.heap[w.heap.size]? = some (.deferred (some [])) := (hbW.block _ (Array.getElem?_eq_some_iff.1 hd0).1).trans hd0
    have hy := run_yield (P := P) (args := encs x) hl (by rw [hrec]; exact hps x)
    rw [hrec] at hy
    refine ⟨fn, _, assign, body, hy, roundIn_of_wpIn hfn (hassign _ pre x W0 W _ hi hbW hfr ?_)⟩
    clear hy
    intro a' Wa hka hpa hma
    have hla := hka.same _ _ (by omega) hl rfl
    have hda := hka.same _ _ (Nat.le_refl _) hd rfl
    have hsa : w.heap.size + 1 < Wa.heap.size := (Array.getElem?_eq_some_iff.1 hla).1
    refine ⟨_, run_beginRound hla (by rw [hrec]), ?_⟩
    obtain ⟨Wb, hWb⟩ : ∃ Wb, Wb = Wa.putObj (w.heap.size + 1) (.loop { rec .ready none with state := .busy }) := ⟨_, rfl⟩
    have hlb : Wb.heap[w.heap.size + 1]? = some (.loop { rec .ready none with state := .busy }) := by rw [hWb]; exact World.putObj_heap_same hsa
    have hdb : Wb.heap[w.heap.size]? = some (.deferred (some [])) := by rw [hWb]; exact (World.putObj_heap_other (by omega)).trans hda
    have hpb : Kp Wa Wb := by rw [hWb]; exact hKb _ _ _ _ (by omega) hla rfl rfl
    have hmb : M pre x a' Wb := by rw [hWb]; exact (hM pre x a').putObj (s := ()) _ hma (by omega) hla rfl
    rw [show Wa.putObj (w.heap.size + 1) (.loop { rec .ready none with state := .busy }) = Wb from hWb.symm]
    refine wpIn_mono (hbody _ pre x a' Wb (by omega) ⟨_, hlb⟩ hmb) ?_
    intro e a3 W3 hp
    cases e with
    | normal =>
      obtain ⟨hk3, hp3, hi3⟩ := hp
      have hl3 := hk3.same _ _ (by omega) hlb rfl
      have hd3 := hk3.same _ _ (Nat.le_refl _) hdb rfl
      have hr := run_endRound (P := P) none hl3
      rw [hrec] at hr
      refine ⟨_, _, hr, rfl, ⟨?_, ?_, ?_⟩, ?_⟩
      · exact hI.putObj _ hi3 (by omega) hl3 rfl
      · rw [hrec]; exact World.putObj_heap_same (Array.getElem?_eq_some_iff.1 hl3).1
      · exact (World.putObj_heap_other (by omega)).trans hd3
      · exact hKt hpa (hKt hpb (hKt hp3 (hKb _ _ _ _ (by omega) hl3 rfl rfl)))
    | _ => exact hp.elim
  · rintro e W2 ⟨⟨v, rfl⟩, xs, W0, ⟨hi, hl0, hd0⟩, hs⟩
    have hk := hS _ _ _ hs
    have hl := hk.same _ _ (by omega) hl0 rfl
    have hd := hk.same _ _ (Nat.le_refl _) hd0 rfl
    have hr := run_endLoop (P := P) hl (by rw [hrec]; simp)
    rw [hrec] at hr
    exact ⟨none, _, hr, hdone _ _ xs W0 _ _ (Nat.le_refl _) (by omega) (by omega) hi hs hd ⟨_, hl, rfl⟩⟩
end

section
open Go.RowKit Go.Shelf
attribute [local go_sem] Oper.semAt_some

/-- What the iterator yields: a batch, where its records lie, the place behind it. -/
structure SB where
  b : Bat
  A : Option Addr
  c : Nat
  nx : Nat
def SB.encs (x : SB) : Array Value := #[.agg #[.bool x.b.packed, .bool x.b.mark, .int .i64 x.b.prod, .int .i64 x.b.epoch, .int .i64 x.b.seq, .slice x.A x.b.recs.length x.c], .int .i64 (x.nx : Int)]
def sbats (xs : List SB) : List Bat := xs.map (·.b)
def splace (xs : List SB) : Nat := match xs.getLast? with | none => 0 | some x => x.nx
theorem sbats_snoc (xs : List SB) (x : SB) : sbats (xs ++ [x]) = sbats xs ++ [x.b] := by simp [sbats]
theorem sbats_len (xs : List SB) : (sbats xs).length = xs.length := by simp [sbats]
theorem splace_snoc (xs : List SB) (x : SB) : splace (xs ++ [x]) = x.nx := by simp [splace]
/-- What the body keeps. -/
def Kps (n₀ bx px wy : Nat) (W W' : World) : Prop := Below n₀ W W' ∧ W'.heap[bx]? = W.heap[bx]? ∧ W'.heap[px]? = W.heap[px]? ∧ W'.heap[wy]? = W.heap[wy]?
theorem Kps.refl (n₀ bx px wy : Nat) (W : World) : Kps n₀ bx px wy W W := ⟨Below.refl _ _, rfl, rfl, rfl⟩
theorem Kps.trans {n₀ bx px wy : Nat} {A B C : World} (h : Kps n₀ bx px wy A B) (k : Kps n₀ bx px wy B C) : Kps n₀ bx px wy A C := ⟨h.1.trans k.1, k.2.1.trans h.2.1, k.2.2.1.trans h.2.2.1, k.2.2.2.trans h.2.2.2⟩
theorem Kps.below {n₀ bx px wy : Nat} {W W' : World} (h : Below W.heap.size W W') (h0 : n₀ ≤ W.heap.size) (h1 : bx < W.heap.size) (h2 : px < W.heap.size) (h3 : wy < W.heap.size) : Kps n₀ bx px wy W W' :=
  ⟨h.mono h0, h.block _ h1, h.block _ h2, h.block _ h3⟩
theorem Kps.book {n₀ bx px wy : Nat} {w : World} (h0 : n₀ ≤ w.heap.size) (h1 : bx < w.heap.size) (h2 : px < w.heap.size) (h3 : wy < w.heap.size) (W : World) (l : Nat) (o o' : Obj) (hl : w.heap.size ≤ l) (h : W.heap[l]? = some o) (hc : o.isCells = false) (hw : o.isWalk = false) : Kps n₀ bx px wy W (W.putObj l o') :=
  ⟨belowK_b h0 W l o o' hl h hc hw, World.putObj_heap_other (by omega), World.putObj_heap_other (by omega), World.putObj_heap_other (by omega)⟩
/-- What is told of an element, and behind the last one. -/
def ScFr (l : List Int) (pre : List SB) (x : SB) (W0 W1 : World) : Prop :=
  rdBat l (splace pre) = some x.b ∧ x.nx = splace pre + (batBytes x.b).length ∧ pre.length < 8 ∧ XRecs 3 85 W1 (fun g => W0.heap.size ≤ g) x.A x.c x.b.recs
def ScS (l : List Int) (wy : Nat) (xs : List SB) (W0 W' : World) : Prop :=
  ∃ (W1 W2 : World) (code : Int), Below W0.heap.size W0 W1 ∧ W2 = W1.setCell ⟨wy, 0, none⟩ (.int .i64 code) ∧ Below W2.heap.size W2 W' ∧ scanGo l 8 0 [] = (sbats xs, splace xs, code)

set_option maxRecDepth 100000 in
set_option maxHeartbeats 4000000 in
theorem scan1_new (l : List Int) (A : Option Addr) (c : Nat) (hb : bytesB l = true) (hn : l.length ≤ 4194304) (n : Nat) (hn1 : 1 ≤ n) (bx px wy n₀ : Nat) (w : World)
    (hbx : w.heap[bx]? = some (.cells #[.slice A l.length c] 22 (0, 0))) (hpx : w.heap[px]? = some (.cells #[.pointer (some ⟨wy, 0, none⟩)] 80 (0, 0))) (hwy : w.heap[wy]? = some (.cells #[.int .i64 0] 3 (0, 0)))
    (hL : Ints w (fun b => b < n₀) A c l) (hn0 : n₀ ≤ w.heap.size) :
    SeqNew Fence.wide n Try.prog 89 #[.pointer (some ⟨bx, 0, none⟩), .pointer (some ⟨px, 0, none⟩)] SB.encs (ScFr l) (Kps n₀ bx px wy) (ScS l wy) w := by
  intro lp J W hW hY h0
  have HB := Lib.hid hb
  have hlc := hL.1
  have hcc := hL.2.1
  have hbxW := blk_below hbx hW
  have hpxW := blk_below hpx hW
  have hwyW := blk_below hwy hW
  have hLW : Ints W (fun b => b < n₀) A c l := hL.below hW
  have hnW : n₀ ≤ W.heap.size := Nat.le_trans hn0 hW.size
  have hbl := (Array.getElem?_eq_some_iff.1 hbxW).1
  have hpl := (Array.getElem?_eq_some_iff.1 hpxW).1
  have hwl := (Array.getElem?_eq_some_iff.1 hwyW).1
  clear hbx hpx hwy hL hn0 hW hb
  have HY := Lib.hid hY
  clear hY
  refine callsIn_of_wp Try.func89 rfl trivial ?_ rfl
  simp only [Try.ntmps89, List.size_toArray, List.length_cons, List.length_nil, Nat.reduceAdd, Nat.reduceSub, Array.replicate_succ, Array.replicate_zero, List.push_toArray, List.append_toArray, List.nil_append, List.cons_append]
  gi_wp2
  gi_loopw [4, 5, 10] (fun a b i wr => ∃ (pre : List SB) (W0 : World) (p k : Nat) (la : Int), a = .int .i64 (p : Int) ∧ b = .int .i64 la ∧ i = .int .i64 (k : Int) ∧ k ≤ 8 ∧ p ≤ l.length ∧ Hid (splace pre = p ∧ lastOf (sbats pre) = la ∧ pre.length = k ∧ scanGo l 8 0 [] = scanGo l (8 - k) p (sbats pre)) ∧
    Hid (J pre W0 ∧ Below W0.heap.size W0 wr ∧ Kps n₀ bx px wy W wr ∧ W.heap.size ≤ wr.heap.size)) (fun _ _ i _ => 8 - (intOf i).toNat)
  case atStart => exact ⟨[], W, 0, 0, -1, rfl, rfl, rfl, by omega, by omega, Lib.hid ⟨rfl, rfl, rfl, rfl⟩, Lib.hid ⟨h0, Below.refl _ _, Kps.refl _ _ _ _ _, Nat.le_refl _⟩⟩
  case round =>
    obtain ⟨pre, W0, p, k, la, rfl, rfl, rfl, hk8, hple, HE, HJ⟩ := hrel
    have hK := HJ.out.2.2.1
    have hsz := HJ.out.2.2.2
    obtain ⟨x0, xf⟩ := one (hK.2.1.trans hbxW)
    obtain ⟨y0, yf⟩ := one (hK.2.2.1.trans hpxW)
    obtain ⟨z0, zf⟩ := one (hK.2.2.2.trans hwyW)
    have hLr : Ints wr (fun b => b < n₀) A c l := hLW.keep (fun b hb _ => hK.1.block b hb)
    have hbr : bx < wr.heap.size := by omega
    have hpr : px < wr.heap.size := by omega
    have hwr : wy < wr.heap.size := by omega
    have hnr : n₀ ≤ wr.heap.size := by omega
    clear hK h0
    by_cases hlt : k < 8
    · by_cases hp : p = l.length
      · have hz : ((p : Int) == (l.length : Int)) = true := by simp [hp]
        have HP := Lib.hid hp
        clear hp
        gi_wp2
        go_end0
        exact ⟨⟨_, rfl⟩, pre, W0, HJ.out.1, _, _, 0, HJ.out.2.1, rfl, Below.refl _ _, by rw [HE.out.2.2.2, scanGo_end HP.out, HE.out.1]⟩
      · have hz : ((p : Int) == (l.length : Int)) = false := by simp; omega
        have HP := Lib.hid hp
        clear hp
        have HK8 := Lib.hid (show 8 - k = (8 - k - 1) + 1 by omega)
        by_cases h18 : p + 18 ≤ l.length
        · gi_wp2_with fail
          refine ⟨trivial, (callsIn_wide.2 (headAt_yes l A c _ p wr hLr HB.out hn h18)).mono ?_⟩
          rintro e w1 ⟨rfl, hb1⟩
          obtain ⟨m2, hm2⟩ : ∃ m, m = num2 l (p + 3) := ⟨_, rfl⟩
          obtain ⟨m3, hm3⟩ : ∃ m, m = num3 l p := ⟨_, rfl⟩
          obtain ⟨m5, hm5⟩ : ∃ m, m = num2 l (p + 5) := ⟨_, rfl⟩
          rw [← hm2, ← hm3, ← hm5]
          have HM2 := Lib.hid hm2
          clear hm2 hm3 hm5
          have X0 := below_cell hb1 x0
          have Y0 := below_cell hb1 y0
          have hz1 := blk_below (HJ.out.2.2.1.2.2.2.trans hwyW) hb1
          have hb1s := hb1.size
          have hbw1 : bx < w1.heap.size := by omega
          have hbnw1 : bx ≠ w1.heap.size := by omega
          have hpw1 : px < w1.heap.size := by omega
          have hpnw1 : px ≠ w1.heap.size := by omega
          have hww1 : wy < w1.heap.size := by omega
          have hwnw1 : wy ≠ w1.heap.size := by omega
          have hJ1 := Lib.hid (bthen HJ.out.2.1 hb1)
          have HB1 := Lib.hid hb1
          by_cases ht : (l.length : Int) - (p : Int) - 7 < m2
          · have dt : decide ((l.length : Int) - (p : Int) - 7 < m2) = true := by simp [ht]
            have HT : Hid (tornB l p = true) := Lib.hid (by unfold tornB; rw [← HM2.out]; simp only [Bool.or_eq_true, decide_eq_true_eq]; right; omega)
            obtain ⟨Z0, Zf⟩ := one hz1
            clear ht
            gi_wp2
            refine bodyPost_ret (results_none rfl _ _ _) rfl ?_
            exact ⟨⟨_, rfl⟩, pre, W0, HJ.out.1, _, _, 1, hJ1.out, rfl, bal _ _, by rw [HE.out.2.2.2, HK8.out, scanGo_torn HP.out HT.out, HE.out.1]⟩
          · have dt : decide ((l.length : Int) - (p : Int) - 7 < m2) = false := by simp; omega
            have HT : Hid (tornB l p = false) := Lib.hid (by unfold tornB; rw [← HM2.out]; simp only [Bool.or_eq_false_iff, decide_eq_false_iff_not]; omega)
            clear ht
            gi_wp2_with fail
            generalize hW2 : World.alloc _ _ = W2
            obtain ⟨hA2, b2, hz2⟩ := alloc1 hW2
            clear hW2
            have hb12 := bthen hb1 b2
            have HB2 := Lib.hid hb12
            have hJ2 := Lib.hid (bthen hJ1.out b2)
            have hs2 := hb12.size
            have X2 := below_cell b2 X0
            have Y2 := below_cell b2 Y0
            have hz2' := blk_below hz1 b2
            clear X0 Y0 hz1
            cases hr : rdBat l p with
            | none =>
              refine ⟨trivial, (callsIn_wide.2 (batchAt_none l A c _ (p : Int) W2 (hLr.below hb12) HB.out hn (by rw [rdAtI_nat]; exact hr))).mono ?_⟩
              rintro e w3 ⟨⟨v, rfl, g, rfl⟩, hb3⟩
              have HR := Lib.hid hr
              obtain ⟨Z0, Zf⟩ := one (blk_below hz2' hb3)
              have X3 := below_cell hb3 X2
              have Y3 := below_cell hb3 Y2
              have hJ3 := Lib.hid (bthen hJ2.out hb3)
              have hs3 := hb3.size
              have hbw3 : bx < w3.heap.size := by omega
              have hbnw3 : bx ≠ w3.heap.size := by omega
              have hpw3 : px < w3.heap.size := by omega
              have hpnw3 : px ≠ w3.heap.size := by omega
              have hww3 : wy < w3.heap.size := by omega
              have hwnw3 : wy ≠ w3.heap.size := by omega
              clear hr X2 Y2
              gi_wp2
              refine bodyPost_ret (results_none rfl _ _ _) rfl ?_
              exact ⟨⟨_, rfl⟩, pre, W0, HJ.out.1, _, _, 2, hJ3.out, rfl, bal _ _, by rw [HE.out.2.2.2, HK8.out, scanGo_bad HP.out HT.out HR.out, HE.out.1]⟩
            | some b =>
              have hv := (rdBat_at hr).1
              have hrl := (batB_parts hv).2.1
              have hnx : p + (batBytes b).length ≤ l.length := (rdBat_at hr).len
              refine ⟨trivial, (callsIn_wide.2 (batchAt_some l A c _ p W2 (hLr.below hb12) HB.out hn hr)).mono ?_⟩
              rintro e w3 ⟨A3, c3, rfl, hX3, hb3⟩
              have HR := Lib.hid hr
              have X3 := below_cell hb3 X2
              have Y3 := below_cell hb3 Y2
              have hz3 := blk_below hz2' hb3
              have hJ3 := Lib.hid (bthen hJ2.out hb3)
              have hs3 := hb3.size
              obtain ⟨q, hq⟩ : ∃ q, q = p + (batBytes b).length := ⟨_, rfl⟩
              rw [← hq] at hnx ⊢
              have HQ := Lib.hid hq
              clear hr X2 Y2 hv hq hb12 hz2'
              gi_wp2_with fail
              generalize hW4 : World.alloc _ _ = W4
              obtain ⟨hA4, b4, hz4⟩ := alloc1 hW4
              clear hW4
              have X4 := below_cell b4 X3
              have Y4 := below_cell b4 Y3
              have hzz4 := blk_below hz3 b4
              have hX4 := hX3.below b4
              have hJ4 := Lib.hid (bthen hJ3.out b4)
              clear X3 Y3 hz3 hX3
              refine ⟨trivial, (callsIn_wide.2 (first_any b A3 c3 _ W4 hX4.toK (by omega))).mono ?_⟩
              rintro e w5 ⟨rfl, hb5⟩
              have X5 := below_cell hb5 X4
              have Y5 := below_cell hb5 Y4
              have hz5 := blk_below hzz4 hb5
              have hA5 := blk_below hA4 hb5
              have hX5 := hX4.below hb5
              have hJ5 := Lib.hid (bthen hJ4.out hb5)
              have hs5 := hb5.size
              clear X4 Y4 hzz4 hX4 hA4
              obtain ⟨u0, u1, u2, u3, u4, u5, uf⟩ := six hA5
              by_cases ho : b.first ≤ la
              · have d1 : decide (b.first ≤ la) = true := by simp [ho]
                have HO : Hid (b.first ≤ lastOf (sbats pre)) := Lib.hid (by rw [HE.out.2.1]; exact ho)
                obtain ⟨Z0, Zf⟩ := one hz5
                clear ho
                gi_wp2
                refine bodyPost_ret (results_none rfl _ _ _) rfl ?_
                exact ⟨⟨_, rfl⟩, pre, W0, HJ.out.1, _, _, 3, hJ5.out, rfl, Below.refl _ _, by rw [HE.out.2.2.2, HK8.out, scanGo_order HP.out HT.out HR.out HO.out, HE.out.1]⟩
              · have d1 : decide (b.first ≤ la) = false := by simp; omega
                have HO : Hid (¬ b.first ≤ lastOf (sbats pre)) := Lib.hid (by rw [HE.out.2.1]; exact ho)
                clear ho
                gi_wp2_with fail
                refine ⟨trivial, (callsIn_wide.2 (last_any b A3 c3 _ _ hX5.toK (by omega))).mono ?_⟩
                rintro e w6 ⟨rfl, hb6⟩
                have X6 := below_cell hb6 X5
                have Y6 := below_cell hb6 Y5
                have hz6 := blk_below hz5 hb6
                have hA6 := blk_below hA5 hb6
                have hX6 := hX5.below hb6
                have hJ6 := Lib.hid (bthen hJ5.out hb6)
                have hs6 := hb6.size
                clear X5 Y5 hz5 hX5 hA5 u0 u1 u2 u3 u4 u5 uf
                obtain ⟨u0, u1, u2, u3, u4, u5, uf⟩ := six hA6
                obtain ⟨fn, tmps, assign, body, hy, hR⟩ := HY.out pre ⟨b, A3, c3, q⟩ W0 w6 HJ.out.1 hJ6.out ⟨by rw [HE.out.1]; exact HR.out, by rw [HE.out.1]; exact HQ.out, by rw [HE.out.2.2.1]; omega, hX6.mono (fun g hg => by have := hJ2.out.size; omega)⟩
                dsimp only [SB.encs] at hy
                gi_wp2
                refine hR.mono ?_
                rintro e w7 ⟨rfl, hJ7, hK7⟩
                have HK7 := Lib.hid hK7
                have HJ7 := Lib.hid hJ7
                have hs7 := hK7.1.size
                have hlast : Hid (lastOf (sbats (pre ++ [⟨b, A3, c3, q⟩])) = b.last) := Lib.hid (by rw [sbats_snoc, lastOf_snoc])
                have hcont : Hid (scanGo l 8 0 [] = scanGo l (8 - (k + 1)) q (sbats (pre ++ [⟨b, A3, c3, q⟩]))) := Lib.hid (by
                  rw [HE.out.2.2.2, HK8.out, scanGo_more (bs := sbats pre) HP.out HT.out HR.out (by have := HO.out; omega), sbats_snoc, HQ.out, show 8 - k - 1 = 8 - (k + 1) by omega])
                have hwr6 : Hid (Below wr.heap.size wr w6) := Lib.hid (bthen (bthen (bthen (bthen HB2.out hb3) b4) hb5) hb6)
                have hKw : Hid (Kps n₀ bx px wy W w7) := Lib.hid ((HJ.out.2.2.1.trans (Kps.below hwr6.out hnr hbr hpr hwr)).trans HK7.out)
                clear hy hR hJ7 hK7 hX6 hb3 b4 hb5 hb6
                gi_wp2
                go_roundw
                case rel => exact ⟨pre ++ [⟨b, A3, c3, q⟩], w7, q, k + 1, b.last, rfl, rfl, by go_num, by omega, hnx, Lib.hid ⟨splace_snoc _ _, hlast.out, by rw [List.length_append, HE.out.2.2.1]; rfl, hcont.out⟩, Lib.hid ⟨HJ7.out, Below.refl _ _, hKw.out, by omega⟩⟩
                case measure => simp [intOf]; omega
        · gi_wp2_with fail
          refine ⟨trivial, (callsIn_wide.2 (headAt_no l A c _ (p : Int) wr hLr hn (by omega))).mono ?_⟩
          rintro e w1 ⟨⟨v, rfl, g, rfl⟩, hb1⟩
          have X0 := below_cell hb1 x0
          have Y0 := below_cell hb1 y0
          have hb1s := hb1.size
          have hbw1 : bx < w1.heap.size := by omega
          have hbnw1 : bx ≠ w1.heap.size := by omega
          have hpw1 : px < w1.heap.size := by omega
          have hpnw1 : px ≠ w1.heap.size := by omega
          have hww1 : wy < w1.heap.size := by omega
          have hwnw1 : wy ≠ w1.heap.size := by omega
          obtain ⟨Z0, Zf⟩ := one (blk_below (HJ.out.2.2.1.2.2.2.trans hwyW) hb1)
          have hJ1 := Lib.hid (bthen HJ.out.2.1 hb1)
          have HT : Hid (tornB l p = true) := Lib.hid (by unfold tornB; simp only [Bool.or_eq_true, decide_eq_true_eq]; left; omega)
          gi_wp2
          refine bodyPost_ret (results_none rfl _ _ _) rfl ?_
          exact ⟨⟨_, rfl⟩, pre, W0, HJ.out.1, _, _, 1, hJ1.out, rfl, bal _ _, by rw [HE.out.2.2.2, HK8.out, scanGo_torn HP.out HT.out, HE.out.1]⟩
    · have hk2 : k = 8 := by omega
      gi_wp2
      go_end0
      exact ⟨⟨_, rfl⟩, pre, W0, HJ.out.1, _, _, 0, HJ.out.2.1, rfl, Below.refl _ _, by rw [HE.out.2.2.2, hk2, HE.out.1]; rfl⟩
end

section
open Go.RowKit Go.Shelf
attribute [local go_sem] Oper.semAt_some

section
variable {F : Fence} {nF : Nat} {P : Program} {ops : Array Oper} {rest : List Oper} {o : Oper} {a : Act} {Q : Exit → Act → World → Prop} {α : Type}
theorem wpListIn_appX (k : XKind α) {e : TypeId} {W : World} {R : Nat → Prop} {B : Nat} {v : Value} {xs : List α} (HO : AppX k e W R B v xs) (hgd : o.guard = none) (s x : Operand) (t : TypeId) (z : Value) (bytes : Nat)
    (ho : o.op = .call { callee := .builtin .append, args := #[s, x], argTypes := #[t, t] })
    (ht : P.underlying t = some (.slice e)) (hinfo : (P.info? e).map (fun i => (i.zero, i.size, i.bytes)) = some (some z, k.d.sz, bytes)) (hz : z.cells.size = k.d.sz) (hs0 : 0 < k.d.sz)
    (p : α) (cs : List Value) (G : Nat → Prop) (hs : a.eval s = v) (hx : a.eval x = .slice (some ⟨W.heap.size, 0, none⟩) 1 1)
    (hp : k.X W G p cs) (hG : ∀ b, G b → R b ∧ B ≤ b) (h1 : ∀ u ∈ cs, u.oneCell' = true)
    (hnew : ∀ b, W.heap.size ≤ b → R b) (h63 : xs.length + 1 ≤ 1099511627776) (hl : (xs.length + 1) * bytes ≤ 140737488355328)
    (h : ∀ v1 w1, AppX k e w1 R w1.heap.size v1 (xs ++ [p]) → Chg (fun b => v.ownBlock = some b) W w1 → (v1.ownBlock = v.ownBlock ∨ ∃ b, v1.ownBlock = some b ∧ W.heap.size ≤ b) → wpListIn F nF P ops Q rest (a.put o.dst v1) w1) :
    wpListIn F nF P ops Q (o :: rest) a (W.alloc (.cells cs.toArray e)) := by
  obtain ⟨v1, w1, hrun, h2, h3, h4⟩ := run_appX (P := P) k HO t o.type z bytes ht hinfo hz hs0 p cs G hp hG h1 hnew h63 hl
  refine wpListIn_plain hgd fun K hK => ?_
  unfold Oper.wpIn
  refine ⟨by simp [Oper.about, ho, resolve, Target.leads, Sem.run_pure], ?_⟩
  rw [Oper.semAt_plain F _ _ (by rw [ho]; intro c hc'; cases hc')]
  simp [execOp, ho, resolve, invoke, builtin, hs, hx, hrun, Result.andThen]
  exact hK _ _ (h v1 w1 h2 h3 h4)
end
theorem XKind.Row.grown {α : Type} {k : XKind α} (hk : k.Solid) {e : TypeId} {w w' : World} {F : Nat → Prop} {A : Option Addr} {c : Nat} {xs : List α} (h : k.Row e w F A c xs) {row : Option Nat} (hg : w.grownBy w' row) (hr : ∀ r, row = some r → ∃ o : Obj, w.heap[r]? = some o ∧ o.isCells = false) : k.Row e w' F A c xs :=
  ((h.solid hk).keep (fun b hb _ => by obtain ⟨_, o, ho, hc⟩ := hb; exact grownBy_keeps_cells hg hr ho hc) hg.size).mono (fun _ hb => hb.1)
theorem alloc4s {w W : World} {a b c d : Obj} (h : (((w.alloc a).alloc b).alloc c).alloc d = W) :
    W.heap[w.heap.size]? = some a ∧ W.heap[w.heap.size + 1]? = some b ∧ W.heap[w.heap.size + 1 + 1]? = some c ∧ W.heap[w.heap.size + 1 + 1 + 1]? = some d ∧ Below w.heap.size w W ∧ W.heap.size = w.heap.size + 1 + 1 + 1 + 1 := by
  generalize hX : ((w.alloc a).alloc b).alloc c = X at h
  obtain ⟨h1, h2, h3, h4, h5⟩ := alloc3 hX
  obtain ⟨k1, k2, k3⟩ := alloc1 h
  rw [h5] at k1 k3
  exact ⟨blk_below h1 k2, blk_below h2 k2, blk_below h3 k2, k1, bthen h4 k2, k3⟩
theorem keeps_chg2 {B : Nat} {G : Nat → Prop} {W W' : World} (h : Chg G W W') (hG : ∀ b, G b → IsCells W b) : KeepsFrom B W W' :=
  ⟨h.size, fun b _ _ ho hc => h.blk ho (fun hg => by
    obtain ⟨o', ho', hc'⟩ := hG b hg
    rw [ho] at ho'
    injection ho' with ho'
    subst ho'
    rw [hc] at hc'
    cases hc')⟩
/-- The blocks that the own row may take: none of the boxes. -/
abbrev RS (n₀ s b : Nat) : Prop := n₀ ≤ b ∧ b ≠ s + 1 ∧ b ≠ s + 1 + 1 ∧ b ≠ s + 1 + 1 + 1 ∧ b ≠ s + 1 + 1 + 1 + 1 ∧ b ≠ s + 1 + 1 + 1 + 1 + 1
/-- scan(bytes, &why). -/
theorem scan1_within (n : Nat) (A : Option Addr) (m c wy : Nat) (w : World) :
    CallsIn Fence.wide n Try.prog 56 #[.slice A m c, .pointer (some ⟨wy, 0, none⟩)] w fun e w' => e = .returned (.func (.func 89) #[] #[.pointer (some ⟨w.heap.size, 0, none⟩), .pointer (some ⟨w.heap.size + 1, 0, none⟩)]) ∧
      w' = (w.alloc (.cells #[.slice A m c] 22)).alloc (.cells #[.pointer (some ⟨wy, 0, none⟩)] 80) := by
  refine callsIn_of_wp Try.func56 rfl trivial ?_ rfl
  simp only [Try.ntmps56, List.size_toArray, List.length_cons, List.length_nil, Nat.reduceAdd, Nat.reduceSub, Array.replicate_succ, Array.replicate_zero, List.push_toArray, List.append_toArray, List.nil_append, List.cons_append]
  gi_wp2
  go_ret
  exact ⟨rfl, rfl⟩
/-- The batches that were found so far. -/
def ScI (s : Nat) (w : World) (pre : List SB) (W : World) : Prop :=
  ∃ v B, W.heap[s + 1]? = some (.cells #[v] 41 (0, 0)) ∧ AppX BX 27 W (RS w.heap.size s) B v (sbats pre) ∧ W.heap[s + 1 + 1]? = some (.cells #[.int .i64 (splace pre : Int)] 3 (0, 0)) ∧ W.heap[s + 1 + 1 + 1]? = some (.cells #[.int .i64 0] 3 (0, 0)) ∧ pre.length ≤ 8 ∧ Hid (Below w.heap.size w W) ∧ s + 6 ≤ W.heap.size
theorem ScI.own (s B : Nat) (w : World) (hB : w.heap.size ≤ B) : OwnFrom B (ScI s w) := by
  rintro pre X Y row ⟨v, b, h1, h2, h3, h3w, h4, h5, h6⟩ hg hr
  exact ⟨v, b, (grownBy_keeps_cells hg (fun r e => (hr r e).2) h1 rfl).trans h1, h2.grown solid_bat hg (fun r e => (hr r e).2), (grownBy_keeps_cells hg (fun r e => (hr r e).2) h3 rfl).trans h3, (grownBy_keeps_cells hg (fun r e => (hr r e).2) h3w rfl).trans h3w, h4,
    Lib.hid (h5.out.grown hg h5.out.size (fun k e => by have := (hr k e).1; omega)), Nat.le_trans h6 hg.size⟩
/-- .. and one more, about to be put behind them. -/
def ScM (s : Nat) (w : World) (f : Nat → Act) (pre : List SB) (x : SB) (a' : Act) (W : World) : Prop :=
  ∃ v B Bx, W.heap[s + 1]? = some (.cells #[v] 41 (0, 0)) ∧ AppX BX 27 W (RS w.heap.size s) B v (sbats pre) ∧ W.heap[s + 1 + 1]? = some (.cells #[.int .i64 (splace pre : Int)] 3 (0, 0)) ∧ W.heap[s + 1 + 1 + 1]? = some (.cells #[.int .i64 0] 3 (0, 0)) ∧
    XRecs 3 85 W (fun g => B ≤ g ∧ RS w.heap.size s g) x.A x.c x.b.recs ∧ W.heap[Bx]? = some (.cells #[.bool x.b.packed, .bool x.b.mark, .int .i64 x.b.prod, .int .i64 x.b.epoch, .int .i64 x.b.seq, .slice x.A x.b.recs.length x.c] 27 (0, 0)) ∧
    a' = f Bx ∧ pre.length < 8 ∧ Hid (Below w.heap.size w W) ∧ s + 6 ≤ W.heap.size
theorem ScM.own (s B : Nat) (w : World) (hB : w.heap.size ≤ B) (f : Nat → Act) (pre : List SB) (x : SB) (a' : Act) : OwnFrom B (fun (_ : Unit) W => ScM s w f pre x a' W) := by
  rintro _ X Y row ⟨v, b, Bx, h1, h2, h3, h3w, h4, h5, h6, h7, h8, h9⟩ hg hr
  exact ⟨v, b, Bx, (grownBy_keeps_cells hg (fun r e => (hr r e).2) h1 rfl).trans h1, h2.grown solid_bat hg (fun r e => (hr r e).2), (grownBy_keeps_cells hg (fun r e => (hr r e).2) h3 rfl).trans h3, (grownBy_keeps_cells hg (fun r e => (hr r e).2) h3w rfl).trans h3w, h4.grown solid_rec hg (fun r e => (hr r e).2),
    (grownBy_keeps_cells hg (fun r e => (hr r e).2) h5 rfl).trans h5, h6, h7, Lib.hid (h8.out.grown hg h8.out.size (fun k e => by have := (hr k e).1; omega)), Nat.le_trans h9 hg.size⟩
theorem keepsS {l : List Int} {wy B : Nat} {xs : List SB} {W0 W' : World} (h : ScS l wy xs W0 W') : KeepsFrom B W0 W' := by
  obtain ⟨W1, W2, code, h1, h2, h3, _⟩ := h
  exact ((keeps_below h1).trans (by rw [h2]; exact keeps_set _ _ _)).trans (keeps_below h3)
theorem Kps.chg {n₀ bx px wy : Nat} {G : Nat → Prop} {W W' : World} (h : Chg G W W') (h0 : n₀ ≤ W.heap.size) (hg : ∀ b, G b → n₀ ≤ b ∧ b ≠ bx ∧ b ≠ px ∧ b ≠ wy) (h1 : bx < W.heap.size) (h2 : px < W.heap.size) (h3 : wy < W.heap.size) : Kps n₀ bx px wy W W' :=
  ⟨h.below h0 (fun b hb => (hg b hb).1), h.block _ h1 (fun e => (hg _ e).2.1 rfl), h.block _ h2 (fun e => (hg _ e).2.2.1 rfl), h.block _ h3 (fun e => (hg _ e).2.2.2 rfl)⟩
theorem info_batS : (Try.prog.info? 27).map (fun i => (i.zero, i.size, i.bytes)) = some (some (.agg #[.bool false, .bool false, .int .i64 0, .int .i64 0, .int .i64 0, .slice none 0 0]), 6, 56) := by kernel_rfl

set_option maxRecDepth 100000 in
set_option maxHeartbeats 4000000 in
theorem LogScan_any (l : List Int) (A : Option Addr) (c : Nat) (F : Nat → Prop) (w : World) (h : Ints w F A c l) (hn : l.length ≤ 4194304) :
    Calls Try.prog 27 #[.slice A l.length c] w fun e w' => ∃ A' c', e = .returned (.tuple #[.slice A' (scanOf l).1.length c', .int .i64 ((scanOf l).2.1 : Int), .int .i64 (scanOf l).2.2]) ∧
      XBats 3 85 27 w' (fun g => w.heap.size ≤ g) A' c' (scanOf l).1 ∧ Below w.heap.size w w' := by
  have hl := h.1
  have hc := h.2.1
  cases hv : bytesB l
  · have e1 : scanOf l = ([], 0, 2) := by unfold scanOf; rw [hv]; rfl
    have HV := Lib.hid hv
    rw [e1]
    clear hv e1
    go_enter Try.func27, Try.ntmps27
    go_wp2_with fail
    refine (allBytes_any l A c _ _ h).mono ?_
    rintro e w2 ⟨rfl, rfl⟩
    rw [HV.out]
    go_wp2
    refine bodyPost_ret (v := .tuple #[.slice none 0 0, .int .i64 0, .int .i64 2]) (by simp [results, Try.results27, go_sem]) rfl ⟨none, 0, rfl, XKind.Row.nil _ _ (by omega), Below.refl _ _⟩
  · have e1 : scanOf l = scanGo l 8 0 [] := by unfold scanOf; rw [hv]; rfl
    have HV := Lib.hid hv
    rw [e1]
    clear hv e1
    refine (callsIn_wide (n := 8)).1 ?_
    refine callsIn_of_wp_marks Try.func27 rfl trivial ?_ rfl
    simp only [Try.ntmps27, List.size_toArray, List.length_cons, List.length_nil, Nat.reduceAdd, Nat.reduceSub, Array.replicate_succ, Array.replicate_zero, List.push_toArray, List.append_toArray, List.nil_append, List.cons_append]
    gi_wp2_with fail
    refine ⟨trivial, (callsIn_wide.2 (allBytes_any l A c _ _ h)).mono ?_⟩
    rintro e w' ⟨rfl, rfl⟩
    rw [HV.out]
    obtain ⟨w1, hw1⟩ : ∃ w1, w1 = w := ⟨_, rfl⟩
    have b1 : Below w.heap.size w w1 := by rw [hw1]; exact Below.refl _ _
    rw [← hw1]
    have s1 := b1.size
    clear hw1
    gi_wp2_with fail
    generalize hW : World.alloc _ _ = W
    obtain ⟨hA, hB, hC, hD, bW, hsW⟩ := alloc4s hW
    have hX : AppX BX 27 W (RS w.heap.size w1.heap.size) (w1.heap.size + 1) (.slice (some ⟨w1.heap.size, 0, none⟩) 0 0) [] := by
      rw [← hW]
      have b3 := bthen (bthen (bal (w1.alloc (.cells #[] 27)) (.cells #[.slice (some ⟨w1.heap.size, 0, none⟩) 0 0] 41)) (bal _ (.cells #[.int .i64 0] 3))) (bal _ (.cells #[.int .i64 0] 3))
      exact (AppX.lit BX 27 w1 (RS w.heap.size w1.heap.size) (by refine ⟨by omega, by omega, by omega, by omega, by omega, by omega⟩)).below b3
    clear hW
    have bb := bthen b1 bW
    clear b1 bW
    refine ⟨trivial, (scan1_within _ _ _ _ _ _).mono ?_⟩
    rintro e w3 ⟨rfl, hw3⟩
    obtain ⟨hE3, hF3, b3, hz3⟩ := alloc2 hw3.symm
    rw [hsW] at hE3 hF3 ⊢
    have hB3 := blk_below hB b3
    have hC3 := blk_below hC b3
    have hD3 := blk_below hD b3
    have hX3 := hX.below b3
    have bb3 := bthen bb b3
    have hL3 : Ints w3 (fun b => b < w.heap.size) A c l := ((h.bound (bnd_int .i64)).mono (fun b hb => hb.2)).below bb3
    have hs3 : w1.heap.size + 6 ≤ w3.heap.size := by omega
    clear hw3 hA hB hC hD hX
    gi_wp2_with fail
    refine wpIn_rangeFunc_new rfl (by omega) (gf := 89) (lb := #[.pointer (some ⟨w1.heap.size + 1 + 1 + 1 + 1, 0, none⟩), .pointer (some ⟨w1.heap.size + 1 + 1 + 1 + 1 + 1, 0, none⟩)]) rfl trivial (enters_of Try.func89 (by kernel_rfl) rfl)
      (scan1_new l A c HV.out hn _ (by omega) (w1.heap.size + 1 + 1 + 1 + 1) (w1.heap.size + 1 + 1 + 1 + 1 + 1) (w1.heap.size + 1 + 1 + 1) w.heap.size w3 hE3 hF3 hD3 hL3 bb3.size) Kps.trans (Kps.book bb3.size (by omega) (by omega) (by omega)) (Below.refl _ _) (fun _ => rfl)
      (ScI w1.heap.size w) (ScI.own _ _ _ bb3.size) ⟨_, _, hB3, hX3, hC3, hD3, by simp, Lib.hid bb3, hs3⟩
      (fun pre x a' W => ScM w1.heap.size w (fun Bx => { tmps := #[.slice A l.length c, undef, .slice none 0 0, .int .i64 0, .int .i64 0, .pointer (some ⟨w1.heap.size + 1, 0, none⟩), .pointer (some ⟨w1.heap.size + 1 + 1, 0, none⟩), .pointer (some ⟨w1.heap.size + 1 + 1 + 1, 0, none⟩), .pointer (some ⟨Bx, 0, none⟩), .int .i64 (x.nx : Int), .slice A l.length c, .bool true, .bool false, .slice (some ⟨w1.heap.size, 0, none⟩) 0 0, .slice A l.length c,
        .func (.func 89) #[] #[.pointer (some ⟨w1.heap.size + 1 + 1 + 1 + 1, 0, none⟩), .pointer (some ⟨w1.heap.size + 1 + 1 + 1 + 1 + 1, 0, none⟩)], .agg #[.bool x.b.packed, .bool x.b.mark, .int .i64 x.b.prod, .int .i64 x.b.epoch, .int .i64 x.b.seq, .slice x.A x.b.recs.length x.c], .int .i64 (x.nx : Int), undef, undef, undef, undef, undef, undef, undef, undef], defers := [] }) pre x a' W)
      (fun pre x a' => ScM.own _ _ _ bb3.size _ pre x a') (fun xs W0 W' hS => keepsS hS) ?assign ?body ?done
    case assign =>
      rintro lp pre x W0 W K hI hbW ⟨-, -, f3, f4⟩ hK
      obtain ⟨v, B, i1, i2, i3, i3w, i4, i5, i6⟩ := hI
      have hBs := i2.1
      have j1 := blk_below i1 hbW
      have j2 := i2.below hbW
      have j3 := blk_below i3 hbW
      have j3w := blk_below i3w hbW
      have j5 := i5.out.trans (hbW.mono i5.out.size)
      have hsW0 := hbW.size
      dsimp only [SB.encs] at hK ⊢
      gi_wp2
      generalize hW1 : World.alloc _ _ = W1
      obtain ⟨hN, bN, hzN⟩ := alloc1 hW1
      clear hW1
      exact hK _ _ (keeps_below bN) (Kps.below bN j5.size (by omega) (by omega) (by omega)) ⟨v, B, W.heap.size, blk_below j1 bN, j2.below bN, blk_below j3 bN, blk_below j3w bN, (f4.mono (fun g hg => ⟨by omega, by refine ⟨by have := i5.out.size; omega, by omega, by omega, by omega, by omega, by omega⟩⟩)).below bN, hN, rfl, f3, Lib.hid (j5.trans (bN.mono j5.size)), by have := bN.size; omega⟩
    case body =>
      rintro lp pre x a' W hlW ⟨r, hr⟩ ⟨v, B, Bx, i1, i2, i3, i3w, i4, i5, rfl, i7, i8, i9⟩
      obtain ⟨A1, c1, rfl, hl1, hc1⟩ := i2.toP.slice_
      obtain ⟨xs, hxs⟩ : ∃ xs, xs = sbats pre := ⟨_, rfl⟩
      have hxl : xs.length ≤ 8 := by rw [hxs, sbats_len]; omega
      rw [← hxs] at i1 i2 hl1
      have HXS := Lib.hid hxs
      obtain ⟨o0, of⟩ := one i1
      obtain ⟨y0, yf⟩ := one i3
      obtain ⟨q0, q1, q2, q3, q4, q5, qf⟩ := six i5
      have hge := i2.ge
      have hBs := i2.1
      have I1 := Lib.hid i1
      have I2 := Lib.hid i2
      have I3 := Lib.hid i3
      have I3w := Lib.hid i3w
      have I4 := Lib.hid i4
      have HGE := Lib.hid hge
      have hnW := i8.out.size
      clear i1 i2 i3 i3w i4 i5 hr hxs hge
      gi_wp2_with (gi_at_builtin; go_loud (refine wpListIn_appX BX I2.out rfl _ _ 41 (.agg #[.bool false, .bool false, .int .i64 0, .int .i64 0, .int .i64 0, .slice none 0 0]) 56 rfl Try.underlying41 info_batS rfl (by decide) x.b _ _ rfl rfl ⟨_, _, rfl, I4.out⟩ (fun b hb => ⟨hb.2, hb.1⟩) (by simp [Value.oneCell']) (fun b hb => by refine ⟨by omega, by omega, by omega, by omega, by omega, by omega⟩) (by omega) (by omega) ?_))
      intro v1 w5 HA5 hc5 ho5
      obtain ⟨zs, hzs⟩ : ∃ zs, zs = xs ++ [x.b] := ⟨_, rfl⟩
      rw [← hzs] at HA5
      obtain ⟨A5, c5, rfl, _, _⟩ := HA5.toP.slice_
      have HZS : Hid (zs = sbats (pre ++ [x])) := Lib.hid (by rw [sbats_snoc, hzs, HXS.out])
      have hD5 := hc5.blk I1.out (fun e => (HGE.out _ e).1.2.1 rfl)
      have hC5 := hc5.blk I3.out (fun e => (HGE.out _ e).1.2.2.1 rfl)
      have hY5 := hc5.blk I3w.out (fun e => (HGE.out _ e).1.2.2.2.1 rfl)
      have hs5 := hc5.size
      have KW : KeepsFrom w3.heap.size W w5 := keeps_chg2 hc5 (fun b hb => by obtain ⟨cs, hcs⟩ := AppP.cells I2.out.toP hb; exact ⟨_, hcs, rfl⟩)
      have KP : Kps w.heap.size (w1.heap.size + 1 + 1 + 1 + 1) (w1.heap.size + 1 + 1 + 1 + 1 + 1) (w1.heap.size + 1 + 1 + 1) W w5 := Kps.chg hc5 hnW (fun b hb => by have := (HGE.out _ hb).1; exact ⟨this.1, this.2.2.2.2.1, this.2.2.2.2.2, this.2.2.2.1⟩) (by omega) (by omega) (by omega)
      have b5 : Below w.heap.size w w5 := i8.out.trans (hc5.below hnW (fun i hi => (HGE.out _ hi).1.1))
      obtain ⟨e0, ef⟩ := one hD5
      obtain ⟨f0, ff⟩ := one hC5
      obtain ⟨W6, hW6⟩ : ∃ W6, W6 = w5.setCell ⟨w1.heap.size + 1, 0, none⟩ (.slice A5 zs.length c5) := ⟨_, rfl⟩
      have cg6 : Chg (fun b => b = w1.heap.size + 1) w5 W6 := by rw [hW6]; exact Chg.set (fun b => b = w1.heap.size + 1) w5 (p := ⟨w1.heap.size + 1, 0, none⟩) rfl _
      have hD6 : W6.heap[w1.heap.size + 1]? = some (.cells #[.slice A5 zs.length c5] 41 (0, 0)) := by
        rw [hW6]
        have := blk_put hD5 0 (.slice A5 zs.length c5)
        simpa using this
      have hC6 := cg6.blk hC5 (by omega)
      have hY6 := cg6.blk hY5 (by omega)
      have hX6 := HA5.chg cg6 (fun b _ hb e => hb.2.1 e)
      obtain ⟨W7, hW7⟩ : ∃ W7, W7 = W6.setCell ⟨w1.heap.size + 1 + 1, 0, none⟩ (.int .i64 (x.nx : Int)) := ⟨_, rfl⟩
      have cg7 : Chg (fun b => b = w1.heap.size + 1 + 1) W6 W7 := by rw [hW7]; exact Chg.set (fun b => b = w1.heap.size + 1 + 1) W6 (p := ⟨w1.heap.size + 1 + 1, 0, none⟩) rfl _
      have hC7 : W7.heap[w1.heap.size + 1 + 1]? = some (.cells #[.int .i64 (x.nx : Int)] 3 (0, 0)) := by
        rw [hW7]
        have := blk_put hC6 0 (.int .i64 (x.nx : Int))
        simpa using this
      have hD7 := cg7.blk hD6 (by omega)
      have hY7 := cg7.blk hY6 (by omega)
      have hX7 := hX6.chg cg7 (fun b _ hb e => hb.2.2.1 e)
      have hs6 := cg6.size
      have hs7 := cg7.size
      have kk6 : KeepsFrom w3.heap.size w5 W6 := by rw [hW6]; exact keeps_set _ _ _
      have kk7 : KeepsFrom w3.heap.size W6 W7 := by rw [hW7]; exact keeps_set _ _ _
      have KW7 : KeepsFrom w3.heap.size W W7 := (KW.trans kk6).trans kk7
      have KP7 : Kps w.heap.size (w1.heap.size + 1 + 1 + 1 + 1) (w1.heap.size + 1 + 1 + 1 + 1 + 1) (w1.heap.size + 1 + 1 + 1) W W7 :=
        (KP.trans (Kps.chg cg6 (by omega) (fun b hb => by subst hb; exact ⟨by omega, by omega, by omega, by omega⟩) (by omega) (by omega) (by omega))).trans (Kps.chg cg7 (by omega) (fun b hb => by subst hb; exact ⟨by omega, by omega, by omega, by omega⟩) (by omega) (by omega) (by omega))
      have b7 : Below w.heap.size w W7 := (b5.trans (cg6.below b5.size (fun i hi => by subst hi; omega))).trans (cg7.below (by have := b5.size; omega) (fun i hi => by subst hi; omega))
      have HFIN := Lib.hid (And.intro KW7 (And.intro KP7 (show ScI w1.heap.size w (pre ++ [x]) W7 from ⟨_, _, hD7, by rw [← HZS.out]; exact hX7, by rw [splace_snoc]; exact hC7, hY7, by rw [List.length_append]; simp; omega, Lib.hid b7, by omega⟩)))
      have HW := Lib.hid (show (w5.setCell ⟨w1.heap.size + 1, 0, none⟩ (.slice A5 zs.length c5)).setCell ⟨w1.heap.size + 1 + 1, 0, none⟩ (.int .i64 (x.nx : Int)) = W7 by rw [hW7, hW6])
      clear hzs HA5 hD5 hC5 hY5 KW KP b5 hW6 cg6 hD6 hC6 hY6 hX6 hW7 cg7 hC7 hD7 hY7 hX7 KW7 KP7 b7 hc5 ho5 kk6 kk7
      gi_wp2
      rw [HW.out]
      exact HFIN.out
    case done =>
      rintro D lr xs W0 W o hD hlr hDl ⟨v, B, i1, i2, i3, i3w, i4, i5, i6⟩ ⟨V1, V2, code, k1, k2, k3, k4⟩ hd ⟨o1, ho1, hc1⟩
      obtain ⟨X, hX⟩ : ∃ X, X = W.putObj lr o := ⟨_, rfl⟩
      have hs1 := k1.size
      have cg2 : Chg (fun b => b = w1.heap.size + 1 + 1 + 1) V1 V2 := by rw [k2]; exact Chg.set (fun b => b = w1.heap.size + 1 + 1 + 1) V1 (p := ⟨w1.heap.size + 1 + 1 + 1, 0, none⟩) rfl _
      have hs2 := cg2.size
      have hs3 := k3.size
      have y1 := blk_below i3w k1
      have y2 : V2.heap[w1.heap.size + 1 + 1 + 1]? = some (.cells #[.int .i64 code] 3 (0, 0)) := by
        rw [k2]
        have := blk_put y1 0 (.int .i64 code)
        simpa using this
      have hgX : W.grownBy X (some lr) := by rw [hX]; exact grownBy_putObj' _ _ _
      have hrX : ∀ r, some lr = some r → ∃ o : Obj, W.heap[r]? = some o ∧ o.isCells = false := fun r e => by cases e; exact ⟨_, ho1, hc1⟩
      have g3 : X.heap[w1.heap.size + 1 + 1 + 1]? = some (.cells #[.int .i64 code] 3 (0, 0)) := by rw [hX, World.putObj_heap_other (by omega)]; exact blk_below y2 k3
      have g2 : X.heap[w1.heap.size + 1 + 1]? = some (.cells #[.int .i64 (splace xs : Int)] 3 (0, 0)) := by rw [hX, World.putObj_heap_other (by omega)]; exact blk_below (cg2.blk (blk_below i3 k1) (by omega)) k3
      have g1 : X.heap[w1.heap.size + 1]? = some (.cells #[v] 41 (0, 0)) := by rw [hX, World.putObj_heap_other (by omega)]; exact blk_below (cg2.blk (blk_below i1 k1) (by omega)) k3
      have gX : AppX BX 27 X (RS w.heap.size w1.heap.size) B v (sbats xs) := (((i2.below k1).chg cg2 (fun b _ hb e => hb.2.2.2.1 e)).below k3).grown solid_bat hgX hrX
      have gD : X.heap[D]? = some (.deferred (some [])) := by rw [hX, World.putObj_heap_other hDl]; exact hd
      have gb : Below w.heap.size w X := (((i5.out.trans (k1.mono i5.out.size)).trans (cg2.below (by have := i5.out.size; omega) (fun i hi => by subst hi; omega))).trans (k3.mono (by have := i5.out.size; omega))).grown hgX (by have := i5.out.size; omega) (fun k e => by cases e; have := bb3.size; omega)
      rw [← hX]
      obtain ⟨A1, c1, rfl, hl1, _⟩ := gX.toP.slice_
      have HSC := Lib.hid k4
      have GX := Lib.hid gX
      have GB := Lib.hid gb
      have GD := Lib.hid gD
      obtain ⟨a0, af⟩ := one g1
      obtain ⟨b0, bf⟩ := one g2
      obtain ⟨c0, cf⟩ := one g3
      obtain ⟨ts, hts⟩ : ∃ ts, ts = sbats xs := ⟨_, rfl⟩
      obtain ⟨pl, hpl⟩ : ∃ p, p = splace xs := ⟨_, rfl⟩
      rw [← hts] at GX HSC a0 hl1
      rw [← hpl] at HSC b0
      clear hX i1 i2 i3 i3w i5 k1 k2 k3 k4 cg2 y1 y2 hgX hrX g1 g2 g3 gX gD gb hd ho1 hts hpl
      gi_wp2_with fail
      gi_quiet (fail)
      gi_wp2
      have GD2 : (X.drewN nq).heap[D]? = some (.deferred (some [])) := GD.out
      refine ⟨by simp, .inl ⟨_, _, rfl, run_takeDeferred GD2, ?_⟩⟩
      have GX2 := (GX.out.below (below_drewN X nq)).grown solid_bat (grownBy_putObj' _ D (.deferred none)) (fun r e => by cases e; exact ⟨_, GD2, rfl⟩)
      obtain ⟨A9, c9, hv9, hr9⟩ := GX2.row
      injection hv9 with e1 e2 e3
      subst e1 e3
      rw [HSC.out]
      refine ⟨.tuple #[.slice A1 ts.length c1, .int .i64 (pl : Int), .int .i64 code], by simp [results, Try.f27, go_sem], A1, c1, rfl, hr9.mono (fun b hb => hb.1), ?_⟩
      have bD := GB.out.trans ((below_drewN X nq).mono GB.out.size)
      exact bD.trans (belowK_b (w := w) (Nat.le_refl _) _ D _ _ (by have := bb3.size; omega) GD2 rfl rfl)
end
end Go.Proofs.Ytomcjjehfocbmaa
