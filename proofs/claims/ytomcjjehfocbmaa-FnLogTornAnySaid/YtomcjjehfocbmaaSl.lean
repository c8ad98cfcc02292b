/- Scanning a segment: the program's LogScan. -/
import Derived.Test.YtomcjjehfocbmaaSi
import Derived.Test.YtomcjjehfocbmaaAx
import Derived.Sort.QuietIn
namespace Go.Proofs.Ytomcjjehfocbmaa
set_option linter.unusedVariables false
set_option linter.unusedSimpArgs false
open Go.RowKit Go.Shelf
attribute [local go_sem] Oper.semAt_some

section
variable {F : Fence} {nF : Nat} {P : Program} {ops : Array Oper} {rest : List Oper} {o : Oper} {a : Act} {Q : Exit → Act → World → Prop} {α : Type}
theorem wpListIn_appX (k : XKind α) {e : TypeId} {W : World} {R : Nat → Prop} {B : Nat} {v : Value} {xs : List α} (HO : AppX k e W R B v xs) (hgd : o.guard = none) (s x : Operand) (t : TypeId) (z : Value) (bytes : Nat)
    (ho : o.op = .call { callee := .builtin .append, args := #[s, x], argTypes := #[t, t] })
    (ht : P.underlying t = some (.slice e)) (hinfo : (P.info? e).map (fun i => (i.zero, i.size, i.bytes)) = some (some z, k.d.sz, bytes)) (hz : z.cells.size = k.d.sz) (hs0 : 0 < k.d.sz)
    (p : α) (cs : List Value) (G : Nat → Prop) (hs : a.eval s = v) (hx : a.eval x = .slice (some ⟨W.heap.size, 0, none⟩) 1 1)
    (hp : k.X W G p cs) (hG : ∀ b, G b → R b ∧ B ≤ b) (h1 : ∀ u ∈ cs, u.oneCell' = true)
    (hnew : ∀ b, W.heap.size ≤ b → R b) (h63 : xs.length + 1 ≤ 1099511627776) (hl : (xs.length + 1) * bytes ≤ 140737488355328)
    (h : ∀ v1 w1, AppX k e w1 R w1.heap.size v1 (xs ++ [p]) → Chg (fun b => v.ownBlock = some b) W w1 → (v1.ownBlock = v.ownBlock ∨ ∃ b, v1.ownBlock = some b ∧ W.heap.size ≤ b) → wpListIn F nF P ops Q rest (a.put o.dst v1) w1) :
    wpListIn F nF P ops Q (o :: rest) a (W.alloc (.cells cs.toArray e)) := by
  obtain ⟨v1, w1, hrun, h2, h3, h4⟩ := run_appX (P := P) k HO t o.type z bytes ht hinfo hz hs0 p cs G hp hG h1 hnew h63 hl
  refine wpListIn_plain hgd fun K hK => ?_
  unfold Oper.wpIn
  refine ⟨by simp [Oper.about, ho, resolve, Target.leads, Sem.run_pure], ?_⟩
  rw [Oper.semAt_plain F _ _ (by rw [ho]; intro c hc'; cases hc')]
  simp [execOp, ho, resolve, invoke, builtin, hs, hx, hrun, Result.andThen]
  exact hK _ _ (h v1 w1 h2 h3 h4)
end
theorem XKind.Row.grown {α : Type} {k : XKind α} (hk : k.Solid) {e : TypeId} {w w' : World} {F : Nat → Prop} {A : Option Addr} {c : Nat} {xs : List α} (h : k.Row e w F A c xs) {row : Option Nat} (hg : w.grownBy w' row) (hr : ∀ r, row = some r → ∃ o : Obj, w.heap[r]? = some o ∧ o.isCells = false) : k.Row e w' F A c xs :=
  ((h.solid hk).keep (fun b hb _ => by obtain ⟨_, o, ho, hc⟩ := hb; exact grownBy_keeps_cells hg hr ho hc) hg.size).mono (fun _ hb => hb.1)
theorem alloc4s {w W : World} {a b c d : Obj} (h : (((w.alloc a).alloc b).alloc c).alloc d = W) :
    W.heap[w.heap.size]? = some a ∧ W.heap[w.heap.size + 1]? = some b ∧ W.heap[w.heap.size + 1 + 1]? = some c ∧ W.heap[w.heap.size + 1 + 1 + 1]? = some d ∧ Below w.heap.size w W ∧ W.heap.size = w.heap.size + 1 + 1 + 1 + 1 := by
  generalize hX : ((w.alloc a).alloc b).alloc c = X at h
  obtain ⟨h1, h2, h3, h4, h5⟩ := alloc3 hX
  obtain ⟨k1, k2, k3⟩ := alloc1 h
  rw [h5] at k1 k3
  exact ⟨blk_below h1 k2, blk_below h2 k2, blk_below h3 k2, k1, bthen h4 k2, k3⟩
theorem keeps_chg2 {B : Nat} {G : Nat → Prop} {W W' : World} (h : Chg G W W') (hG : ∀ b, G b → IsCells W b) : KeepsFrom B W W' :=
  ⟨h.size, fun b _ _ ho hc => h.blk ho (fun hg => by
    obtain ⟨o', ho', hc'⟩ := hG b hg
    rw [ho] at ho'
    injection ho' with ho'
    subst ho'
    rw [hc] at hc'
    cases hc')⟩
/-- The blocks that the own row may take: none of the boxes. -/
abbrev RS (n₀ s b : Nat) : Prop := n₀ ≤ b ∧ b ≠ s + 1 ∧ b ≠ s + 1 + 1 ∧ b ≠ s + 1 + 1 + 1 ∧ b ≠ s + 1 + 1 + 1 + 1 ∧ b ≠ s + 1 + 1 + 1 + 1 + 1
/-- scan(bytes, &why). -/
theorem scan_in (n : Nat) (A : Option Addr) (m c wy : Nat) (w : World) :
    CallsIn Fence.wide n Try.prog 56 #[.slice A m c, .pointer (some ⟨wy, 0, none⟩)] w fun e w' => e = .returned (.func (.func 89) #[] #[.pointer (some ⟨w.heap.size, 0, none⟩), .pointer (some ⟨w.heap.size + 1, 0, none⟩)]) ∧
      w' = (w.alloc (.cells #[.slice A m c] 22)).alloc (.cells #[.pointer (some ⟨wy, 0, none⟩)] 80) := by
  refine callsIn_of_wp Try.func56 rfl trivial ?_ rfl
  simp only [Try.ntmps56, List.size_toArray, List.length_cons, List.length_nil, Nat.reduceAdd, Nat.reduceSub, Array.replicate_succ, Array.replicate_zero, List.push_toArray, List.append_toArray, List.nil_append, List.cons_append]
  gi_wp2
  go_ret
  exact ⟨rfl, rfl⟩
/-- The batches that were found so far. -/
def ScI (s : Nat) (w : World) (pre : List SB) (W : World) : Prop :=
  ∃ v B, W.heap[s + 1]? = some (.cells #[v] 41 (0, 0)) ∧ AppX BX 27 W (RS w.heap.size s) B v (sbats pre) ∧ W.heap[s + 1 + 1]? = some (.cells #[.int .i64 (splace pre : Int)] 3 (0, 0)) ∧ W.heap[s + 1 + 1 + 1]? = some (.cells #[.int .i64 0] 3 (0, 0)) ∧ pre.length ≤ 8 ∧ Hid (Below w.heap.size w W) ∧ s + 6 ≤ W.heap.size
theorem ScI.own (s B : Nat) (w : World) (hB : w.heap.size ≤ B) : OwnFrom B (ScI s w) := by
  rintro pre X Y row ⟨v, b, h1, h2, h3, h3w, h4, h5, h6⟩ hg hr
  exact ⟨v, b, (grownBy_keeps_cells hg (fun r e => (hr r e).2) h1 rfl).trans h1, h2.grown solid_bat hg (fun r e => (hr r e).2), (grownBy_keeps_cells hg (fun r e => (hr r e).2) h3 rfl).trans h3, (grownBy_keeps_cells hg (fun r e => (hr r e).2) h3w rfl).trans h3w, h4,
    Lib.hid (h5.out.grown hg h5.out.size (fun k e => by have := (hr k e).1; omega)), Nat.le_trans h6 hg.size⟩
/-- .. and one more, about to be put behind them. -/
def ScM (s : Nat) (w : World) (f : Nat → Act) (pre : List SB) (x : SB) (a' : Act) (W : World) : Prop :=
  ∃ v B Bx, W.heap[s + 1]? = some (.cells #[v] 41 (0, 0)) ∧ AppX BX 27 W (RS w.heap.size s) B v (sbats pre) ∧ W.heap[s + 1 + 1]? = some (.cells #[.int .i64 (splace pre : Int)] 3 (0, 0)) ∧ W.heap[s + 1 + 1 + 1]? = some (.cells #[.int .i64 0] 3 (0, 0)) ∧
    XRecs 3 85 W (fun g => B ≤ g ∧ RS w.heap.size s g) x.A x.c x.b.recs ∧ W.heap[Bx]? = some (.cells #[.bool x.b.packed, .bool x.b.mark, .int .i64 x.b.prod, .int .i64 x.b.epoch, .int .i64 x.b.seq, .slice x.A x.b.recs.length x.c] 27 (0, 0)) ∧
    a' = f Bx ∧ pre.length < 8 ∧ Hid (Below w.heap.size w W) ∧ s + 6 ≤ W.heap.size
theorem ScM.own (s B : Nat) (w : World) (hB : w.heap.size ≤ B) (f : Nat → Act) (pre : List SB) (x : SB) (a' : Act) : OwnFrom B (fun (_ : Unit) W => ScM s w f pre x a' W) := by
  rintro _ X Y row ⟨v, b, Bx, h1, h2, h3, h3w, h4, h5, h6, h7, h8, h9⟩ hg hr
  exact ⟨v, b, Bx, (grownBy_keeps_cells hg (fun r e => (hr r e).2) h1 rfl).trans h1, h2.grown solid_bat hg (fun r e => (hr r e).2), (grownBy_keeps_cells hg (fun r e => (hr r e).2) h3 rfl).trans h3, (grownBy_keeps_cells hg (fun r e => (hr r e).2) h3w rfl).trans h3w, h4.grown solid_rec hg (fun r e => (hr r e).2),
    (grownBy_keeps_cells hg (fun r e => (hr r e).2) h5 rfl).trans h5, h6, h7, Lib.hid (h8.out.grown hg h8.out.size (fun k e => by have := (hr k e).1; omega)), Nat.le_trans h9 hg.size⟩
theorem keepsS {l : List Int} {wy B : Nat} {xs : List SB} {W0 W' : World} (h : ScS l wy xs W0 W') : KeepsFrom B W0 W' := by
  obtain ⟨W1, W2, code, h1, h2, h3, _⟩ := h
  exact ((keeps_below h1).trans (by rw [h2]; exact keeps_set _ _ _)).trans (keeps_below h3)
theorem Kps.chg {n₀ bx px wy : Nat} {G : Nat → Prop} {W W' : World} (h : Chg G W W') (h0 : n₀ ≤ W.heap.size) (hg : ∀ b, G b → n₀ ≤ b ∧ b ≠ bx ∧ b ≠ px ∧ b ≠ wy) (h1 : bx < W.heap.size) (h2 : px < W.heap.size) (h3 : wy < W.heap.size) : Kps n₀ bx px wy W W' :=
  ⟨h.below h0 (fun b hb => (hg b hb).1), h.block _ h1 (fun e => (hg _ e).2.1 rfl), h.block _ h2 (fun e => (hg _ e).2.2.1 rfl), h.block _ h3 (fun e => (hg _ e).2.2.2 rfl)⟩
theorem info_batS : (Try.prog.info? 27).map (fun i => (i.zero, i.size, i.bytes)) = some (some (.agg #[.bool false, .bool false, .int .i64 0, .int .i64 0, .int .i64 0, .slice none 0 0]), 6, 56) := by kernel_rfl

set_option maxRecDepth 100000 in
set_option maxHeartbeats 4000000 in
theorem LogScan_any (l : List Int) (A : Option Addr) (c : Nat) (F : Nat → Prop) (w : World) (h : Ints w F A c l) (hn : l.length ≤ 4194304) :
    Calls Try.prog 27 #[.slice A l.length c] w fun e w' => ∃ A' c', e = .returned (.tuple #[.slice A' (scanOf l).1.length c', .int .i64 ((scanOf l).2.1 : Int), .int .i64 (scanOf l).2.2]) ∧
      XBats 3 85 27 w' (fun g => w.heap.size ≤ g) A' c' (scanOf l).1 ∧ Below w.heap.size w w' := by
  have hl := h.1
  have hc := h.2.1
  cases hv : bytesB l
  · have e1 : scanOf l = ([], 0, 2) := by unfold scanOf; rw [hv]; rfl
    have HV := Lib.hid hv
    rw [e1]
    clear hv e1
    go_enter Try.func27, Try.ntmps27
    go_wp2_with fail
    refine (allBytes_any l A c _ _ h).mono ?_
    rintro e w2 ⟨rfl, rfl⟩
    rw [HV.out]
    go_wp2
    refine bodyPost_ret (v := .tuple #[.slice none 0 0, .int .i64 0, .int .i64 2]) (by simp [results, Try.results27, go_sem]) rfl ⟨none, 0, rfl, XKind.Row.nil _ _ (by omega), Below.refl _ _⟩
  · have e1 : scanOf l = scanGo l 8 0 [] := by unfold scanOf; rw [hv]; rfl
    have HV := Lib.hid hv
    rw [e1]
    clear hv e1
    refine (callsIn_wide (n := 8)).1 ?_
    refine callsIn_of_wp_marks Try.func27 rfl trivial ?_ rfl
    simp only [Try.ntmps27, List.size_toArray, List.length_cons, List.length_nil, Nat.reduceAdd, Nat.reduceSub, Array.replicate_succ, Array.replicate_zero, List.push_toArray, List.append_toArray, List.nil_append, List.cons_append]
    gi_wp2_with fail
    refine ⟨trivial, (callsIn_wide.2 (allBytes_any l A c _ _ h)).mono ?_⟩
    rintro e w' ⟨rfl, rfl⟩
    rw [HV.out]
    obtain ⟨w1, hw1⟩ : ∃ w1, w1 = w := ⟨_, rfl⟩
    have b1 : Below w.heap.size w w1 := by rw [hw1]; exact Below.refl _ _
    rw [← hw1]
    have s1 := b1.size
    clear hw1
    gi_wp2_with fail
    generalize hW : World.alloc _ _ = W
    obtain ⟨hA, hB, hC, hD, bW, hsW⟩ := alloc4s hW
    have hX : AppX BX 27 W (RS w.heap.size w1.heap.size) (w1.heap.size + 1) (.slice (some ⟨w1.heap.size, 0, none⟩) 0 0) [] := by
      rw [← hW]
      have b3 := bthen (bthen (bal (w1.alloc (.cells #[] 27)) (.cells #[.slice (some ⟨w1.heap.size, 0, none⟩) 0 0] 41)) (bal _ (.cells #[.int .i64 0] 3))) (bal _ (.cells #[.int .i64 0] 3))
      exact (AppX.lit BX 27 w1 (RS w.heap.size w1.heap.size) (by refine ⟨by omega, by omega, by omega, by omega, by omega, by omega⟩)).below b3
    clear hW
    have bb := bthen b1 bW
    clear b1 bW
    refine ⟨trivial, (scan_in _ _ _ _ _ _).mono ?_⟩
    rintro e w3 ⟨rfl, hw3⟩
    obtain ⟨hE3, hF3, b3, hz3⟩ := alloc2 hw3.symm
    rw [hsW] at hE3 hF3 ⊢
    have hB3 := blk_below hB b3
    have hC3 := blk_below hC b3
    have hD3 := blk_below hD b3
    have hX3 := hX.below b3
    have bb3 := bthen bb b3
    have hL3 : Ints w3 (fun b => b < w.heap.size) A c l := ((h.bound (bnd_int .i64)).mono (fun b hb => hb.2)).below bb3
    have hs3 : w1.heap.size + 6 ≤ w3.heap.size := by omega
    clear hw3 hA hB hC hD hX
    gi_wp2_with fail
    refine wpIn_rangeFunc_new rfl (by omega) (gf := 89) (lb := #[.pointer (some ⟨w1.heap.size + 1 + 1 + 1 + 1, 0, none⟩), .pointer (some ⟨w1.heap.size + 1 + 1 + 1 + 1 + 1, 0, none⟩)]) rfl trivial (enters_of Try.func89 (by kernel_rfl) rfl)
      (scan1_new l A c HV.out hn _ (by omega) (w1.heap.size + 1 + 1 + 1 + 1) (w1.heap.size + 1 + 1 + 1 + 1 + 1) (w1.heap.size + 1 + 1 + 1) w.heap.size w3 hE3 hF3 hD3 hL3 bb3.size) Kps.trans (Kps.book bb3.size (by omega) (by omega) (by omega)) (Below.refl _ _) (fun _ => rfl)
      (ScI w1.heap.size w) (ScI.own _ _ _ bb3.size) ⟨_, _, hB3, hX3, hC3, hD3, by simp, Lib.hid bb3, hs3⟩
      (fun pre x a' W => ScM w1.heap.size w (fun Bx => { tmps := #[.slice A l.length c, undef, .slice none 0 0, .int .i64 0, .int .i64 0, .pointer (some ⟨w1.heap.size + 1, 0, none⟩), .pointer (some ⟨w1.heap.size + 1 + 1, 0, none⟩), .pointer (some ⟨w1.heap.size + 1 + 1 + 1, 0, none⟩), .pointer (some ⟨Bx, 0, none⟩), .int .i64 (x.nx : Int), .slice A l.length c, .bool true, .bool false, .slice (some ⟨w1.heap.size, 0, none⟩) 0 0, .slice A l.length c,
        .func (.func 89) #[] #[.pointer (some ⟨w1.heap.size + 1 + 1 + 1 + 1, 0, none⟩), .pointer (some ⟨w1.heap.size + 1 + 1 + 1 + 1 + 1, 0, none⟩)], .agg #[.bool x.b.packed, .bool x.b.mark, .int .i64 x.b.prod, .int .i64 x.b.epoch, .int .i64 x.b.seq, .slice x.A x.b.recs.length x.c], .int .i64 (x.nx : Int), undef, undef, undef, undef, undef, undef, undef, undef], defers := [] }) pre x a' W)
      (fun pre x a' => ScM.own _ _ _ bb3.size _ pre x a') (fun xs W0 W' hS => keepsS hS) ?assign ?body ?done
    case assign =>
      rintro lp pre x W0 W K hI hbW ⟨-, -, f3, f4⟩ hK
      obtain ⟨v, B, i1, i2, i3, i3w, i4, i5, i6⟩ := hI
      have hBs := i2.1
      have j1 := blk_below i1 hbW
      have j2 := i2.below hbW
      have j3 := blk_below i3 hbW
      have j3w := blk_below i3w hbW
      have j5 := i5.out.trans (hbW.mono i5.out.size)
      have hsW0 := hbW.size
      dsimp only [SB.encs] at hK ⊢
      gi_wp2
      generalize hW1 : World.alloc _ _ = W1
      obtain ⟨hN, bN, hzN⟩ := alloc1 hW1
      clear hW1
      exact hK _ _ (keeps_below bN) (Kps.below bN j5.size (by omega) (by omega) (by omega)) ⟨v, B, W.heap.size, blk_below j1 bN, j2.below bN, blk_below j3 bN, blk_below j3w bN, (f4.mono (fun g hg => ⟨by omega, by refine ⟨by have := i5.out.size; omega, by omega, by omega, by omega, by omega, by omega⟩⟩)).below bN, hN, rfl, f3, Lib.hid (j5.trans (bN.mono j5.size)), by have := bN.size; omega⟩
    case body =>
      rintro lp pre x a' W hlW ⟨r, hr⟩ ⟨v, B, Bx, i1, i2, i3, i3w, i4, i5, rfl, i7, i8, i9⟩
      obtain ⟨A1, c1, rfl, hl1, hc1⟩ := i2.toP.slice_
      obtain ⟨xs, hxs⟩ : ∃ xs, xs = sbats pre := ⟨_, rfl⟩
      have hxl : xs.length ≤ 8 := by rw [hxs, sbats_len]; omega
      rw [← hxs] at i1 i2 hl1
      have HXS := Lib.hid hxs
      obtain ⟨o0, of⟩ := one i1
      obtain ⟨y0, yf⟩ := one i3
      obtain ⟨q0, q1, q2, q3, q4, q5, qf⟩ := six i5
      have hge := i2.ge
      have hBs := i2.1
      have I1 := Lib.hid i1
      have I2 := Lib.hid i2
      have I3 := Lib.hid i3
      have I3w := Lib.hid i3w
      have I4 := Lib.hid i4
      have HGE := Lib.hid hge
      have hnW := i8.out.size
      clear i1 i2 i3 i3w i4 i5 hr hxs hge
      gi_wp2_with (gi_at_builtin; go_loud (refine wpListIn_appX BX I2.out rfl _ _ 41 (.agg #[.bool false, .bool false, .int .i64 0, .int .i64 0, .int .i64 0, .slice none 0 0]) 56 rfl Try.underlying41 info_batS rfl (by decide) x.b _ _ rfl rfl ⟨_, _, rfl, I4.out⟩ (fun b hb => ⟨hb.2, hb.1⟩) (by simp [Value.oneCell']) (fun b hb => by refine ⟨by omega, by omega, by omega, by omega, by omega, by omega⟩) (by omega) (by omega) ?_))
      intro v1 w5 HA5 hc5 ho5
      obtain ⟨zs, hzs⟩ : ∃ zs, zs = xs ++ [x.b] := ⟨_, rfl⟩
      rw [← hzs] at HA5
      obtain ⟨A5, c5, rfl, _, _⟩ := HA5.toP.slice_
      have HZS : Hid (zs = sbats (pre ++ [x])) := Lib.hid (by rw [sbats_snoc, hzs, HXS.out])
      have hD5 := hc5.blk I1.out (fun e => (HGE.out _ e).1.2.1 rfl)
      have hC5 := hc5.blk I3.out (fun e => (HGE.out _ e).1.2.2.1 rfl)
      have hY5 := hc5.blk I3w.out (fun e => (HGE.out _ e).1.2.2.2.1 rfl)
      have hs5 := hc5.size
      have KW : KeepsFrom w3.heap.size W w5 := keeps_chg2 hc5 (fun b hb => by obtain ⟨cs, hcs⟩ := AppP.cells I2.out.toP hb; exact ⟨_, hcs, rfl⟩)
      have KP : Kps w.heap.size (w1.heap.size + 1 + 1 + 1 + 1) (w1.heap.size + 1 + 1 + 1 + 1 + 1) (w1.heap.size + 1 + 1 + 1) W w5 := Kps.chg hc5 hnW (fun b hb => by have := (HGE.out _ hb).1; exact ⟨this.1, this.2.2.2.2.1, this.2.2.2.2.2, this.2.2.2.1⟩) (by omega) (by omega) (by omega)
      have b5 : Below w.heap.size w w5 := i8.out.trans (hc5.below hnW (fun i hi => (HGE.out _ hi).1.1))
      obtain ⟨e0, ef⟩ := one hD5
      obtain ⟨f0, ff⟩ := one hC5
      obtain ⟨W6, hW6⟩ : ∃ W6, W6 = w5.setCell ⟨w1.heap.size + 1, 0, none⟩ (.slice A5 zs.length c5) := ⟨_, rfl⟩
      have cg6 : Chg (fun b => b = w1.heap.size + 1) w5 W6 := by rw [hW6]; exact Chg.set (fun b => b = w1.heap.size + 1) w5 (p := ⟨w1.heap.size + 1, 0, none⟩) rfl _
      have hD6 : W6.heap[w1.heap.size + 1]? = some (.cells #[.slice A5 zs.length c5] 41 (0, 0)) := by
        rw [hW6]
        have := blk_put hD5 0 (.slice A5 zs.length c5)
        simpa using this
      have hC6 := cg6.blk hC5 (by omega)
      have hY6 := cg6.blk hY5 (by omega)
      have hX6 := HA5.chg cg6 (fun b _ hb e => hb.2.1 e)
      obtain ⟨W7, hW7⟩ : ∃ W7, W7 = W6.setCell ⟨w1.heap.size + 1 + 1, 0, none⟩ (.int .i64 (x.nx : Int)) := ⟨_, rfl⟩
      have cg7 : Chg (fun b => b = w1.heap.size + 1 + 1) W6 W7 := by rw [hW7]; exact Chg.set (fun b => b = w1.heap.size + 1 + 1) W6 (p := ⟨w1.heap.size + 1 + 1, 0, none⟩) rfl _
      have hC7 : W7.heap[w1.heap.size + 1 + 1]? = some (.cells #[.int .i64 (x.nx : Int)] 3 (0, 0)) := by
        rw [hW7]
        have := blk_put hC6 0 (.int .i64 (x.nx : Int))
        simpa using this
      have hD7 := cg7.blk hD6 (by omega)
      have hY7 := cg7.blk hY6 (by omega)
      have hX7 := hX6.chg cg7 (fun b _ hb e => hb.2.2.1 e)
      have hs6 := cg6.size
      have hs7 := cg7.size
      have kk6 : KeepsFrom w3.heap.size w5 W6 := by rw [hW6]; exact keeps_set _ _ _
      have kk7 : KeepsFrom w3.heap.size W6 W7 := by rw [hW7]; exact keeps_set _ _ _
      have KW7 : KeepsFrom w3.heap.size W W7 := (KW.trans kk6).trans kk7
      have KP7 : Kps w.heap.size (w1.heap.size + 1 + 1 + 1 + 1) (w1.heap.size + 1 + 1 + 1 + 1 + 1) (w1.heap.size + 1 + 1 + 1) W W7 :=
        (KP.trans (Kps.chg cg6 (by omega) (fun b hb => by subst hb; exact ⟨by omega, by omega, by omega, by omega⟩) (by omega) (by omega) (by omega))).trans (Kps.chg cg7 (by omega) (fun b hb => by subst hb; exact ⟨by omega, by omega, by omega, by omega⟩) (by omega) (by omega) (by omega))
      have b7 : Below w.heap.size w W7 := (b5.trans (cg6.below b5.size (fun i hi => by subst hi; omega))).trans (cg7.below (by have := b5.size; omega) (fun i hi => by subst hi; omega))
      have HFIN := Lib.hid (And.intro KW7 (And.intro KP7 (show ScI w1.heap.size w (pre ++ [x]) W7 from ⟨_, _, hD7, by rw [← HZS.out]; exact hX7, by rw [splace_snoc]; exact hC7, hY7, by rw [List.length_append]; simp; omega, Lib.hid b7, by omega⟩)))
      have HW := Lib.hid (show (w5.setCell ⟨w1.heap.size + 1, 0, none⟩ (.slice A5 zs.length c5)).setCell ⟨w1.heap.size + 1 + 1, 0, none⟩ (.int .i64 (x.nx : Int)) = W7 by rw [hW7, hW6])
      clear hzs HA5 hD5 hC5 hY5 KW KP b5 hW6 cg6 hD6 hC6 hY6 hX6 hW7 cg7 hC7 hD7 hY7 hX7 KW7 KP7 b7 hc5 ho5 kk6 kk7
      gi_wp2
      rw [HW.out]
      exact HFIN.out
    case done =>
      rintro D lr xs W0 W o hD hlr hDl ⟨v, B, i1, i2, i3, i3w, i4, i5, i6⟩ ⟨V1, V2, code, k1, k2, k3, k4⟩ hd ⟨o1, ho1, hc1⟩
      obtain ⟨X, hX⟩ : ∃ X, X = W.putObj lr o := ⟨_, rfl⟩
      have hs1 := k1.size
      have cg2 : Chg (fun b => b = w1.heap.size + 1 + 1 + 1) V1 V2 := by rw [k2]; exact Chg.set (fun b => b = w1.heap.size + 1 + 1 + 1) V1 (p := ⟨w1.heap.size + 1 + 1 + 1, 0, none⟩) rfl _
      have hs2 := cg2.size
      have hs3 := k3.size
      have y1 := blk_below i3w k1
      have y2 : V2.heap[w1.heap.size + 1 + 1 + 1]? = some (.cells #[.int .i64 code] 3 (0, 0)) := by
        rw [k2]
        have := blk_put y1 0 (.int .i64 code)
        simpa using this
      have hgX : W.grownBy X (some lr) := by rw [hX]; exact grownBy_putObj' _ _ _
      have hrX : ∀ r, some lr = some r → ∃ o : Obj, W.heap[r]? = some o ∧ o.isCells = false := fun r e => by cases e; exact ⟨_, ho1, hc1⟩
      have g3 : X.heap[w1.heap.size + 1 + 1 + 1]? = some (.cells #[.int .i64 code] 3 (0, 0)) := by rw [hX, World.putObj_heap_other (by omega)]; exact blk_below y2 k3
      have g2 : X.heap[w1.heap.size + 1 + 1]? = some (.cells #[.int .i64 (splace xs : Int)] 3 (0, 0)) := by rw [hX, World.putObj_heap_other (by omega)]; exact blk_below (cg2.blk (blk_below i3 k1) (by omega)) k3
      have g1 : X.heap[w1.heap.size + 1]? = some (.cells #[v] 41 (0, 0)) := by rw [hX, World.putObj_heap_other (by omega)]; exact blk_below (cg2.blk (blk_below i1 k1) (by omega)) k3
      have gX : AppX BX 27 X (RS w.heap.size w1.heap.size) B v (sbats xs) := (((i2.below k1).chg cg2 (fun b _ hb e => hb.2.2.2.1 e)).below k3).grown solid_bat hgX hrX
      have gD : X.heap[D]? = some (.deferred (some [])) := by rw [hX, World.putObj_heap_other hDl]; exact hd
      have gb : Below w.heap.size w X := (((i5.out.trans (k1.mono i5.out.size)).trans (cg2.below (by have := i5.out.size; omega) (fun i hi => by subst hi; omega))).trans (k3.mono (by have := i5.out.size; omega))).grown hgX (by have := i5.out.size; omega) (fun k e => by cases e; have := bb3.size; omega)
      rw [← hX]
      obtain ⟨A1, c1, rfl, hl1, _⟩ := gX.toP.slice_
      have HSC := Lib.hid k4
      have GX := Lib.hid gX
      have GB := Lib.hid gb
      have GD := Lib.hid gD
      obtain ⟨a0, af⟩ := one g1
      obtain ⟨b0, bf⟩ := one g2
      obtain ⟨c0, cf⟩ := one g3
      obtain ⟨ts, hts⟩ : ∃ ts, ts = sbats xs := ⟨_, rfl⟩
      obtain ⟨pl, hpl⟩ : ∃ p, p = splace xs := ⟨_, rfl⟩
      rw [← hts] at GX HSC a0 hl1
      rw [← hpl] at HSC b0
      clear hX i1 i2 i3 i3w i5 k1 k2 k3 k4 cg2 y1 y2 hgX hrX g1 g2 g3 gX gD gb hd ho1 hts hpl
      gi_wp2_with fail
      gi_quiet (fail)
      gi_wp2
      have GD2 : (X.drewN nq).heap[D]? = some (.deferred (some [])) := GD.out
      refine ⟨by simp, .inl ⟨_, _, rfl, run_takeDeferred GD2, ?_⟩⟩
      have GX2 := (GX.out.below (below_drewN X nq)).grown solid_bat (grownBy_putObj' _ D (.deferred none)) (fun r e => by cases e; exact ⟨_, GD2, rfl⟩)
      obtain ⟨A9, c9, hv9, hr9⟩ := GX2.row
      injection hv9 with e1 e2 e3
      subst e1 e3
      rw [HSC.out]
      refine ⟨.tuple #[.slice A1 ts.length c1, .int .i64 (pl : Int), .int .i64 code], by simp [results, Try.f27, go_sem], A1, c1, rfl, hr9.mono (fun b hb => hb.1), ?_⟩
      have bD := GB.out.trans ((below_drewN X nq).mono GB.out.size)
      exact bD.trans (belowK_b (w := w) (Nat.le_refl _) _ D _ _ (by have := bb3.size; omega) GD2 rfl rfl)
end Go.Proofs.Ytomcjjehfocbmaa
