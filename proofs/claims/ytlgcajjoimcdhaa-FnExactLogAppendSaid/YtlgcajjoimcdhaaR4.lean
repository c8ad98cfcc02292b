/- ReadRecords of the program. -/
import Derived.Test.YtlgcajjoimcdhaaR3
import Derived.Test.YtlgcajjoimcdhaaAx
import Derived.Stop.RegionWithIn
import Derived.OrdersIn
namespace Go.Proofs.Ytlgcajjoimcdhaa
set_option linter.unusedVariables false
set_option linter.unusedSimpArgs false
open Go.RowKit Go.Shelf
attribute [local go_sem] Oper.semAt_some

def selB (o : Int) (p : Bat × Rec) : Bool := !p.1.mark && onB o p.2
def pickOn (o : Int) (ps : List (Bat × Rec)) : List Rec := (ps.filter (selB o)).map (·.2)
theorem pickOn_append (o : Int) (a b : List (Bat × Rec)) : pickOn o (a ++ b) = pickOn o a ++ pickOn o b := by simp [pickOn]
theorem pickOn_snoc (o : Int) (a : List (Bat × Rec)) (p : Bat × Rec) : pickOn o (a ++ [p]) = pickOn o a ++ if selB o p then [p.2] else [] := by
  rw [pickOn_append]
  cases h : selB o p <;> simp [pickOn, h]
theorem pickOn_bat (o : Int) (b : Bat) (rs : List Rec) : pickOn o (rs.map (fun r => (b, r))) = if b.mark then [] else rs.filter (onB o) := by
  induction rs with
  | nil => cases b.mark <;> rfl
  | cons r t ih =>
    rw [List.map_cons, show (b, r) :: t.map (fun r => (b, r)) = [(b, r)] ++ t.map (fun r => (b, r)) from rfl, pickOn_append, ih]
    cases hm : b.mark <;> cases hr : onB o r <;> simp [pickOn, selB, hm, hr]
theorem pickOn_all (o : Int) (bs : List Bat) : pickOn o (pairsOf bs) = recsOn bs o := by
  induction bs with
  | nil => rfl
  | cons b t ih =>
    have e : pairsOf (b :: t) = b.recs.map (fun r => (b, r)) ++ pairsOf t := by simp [pairsOf]
    rw [e, pickOn_append, ih, pickOn_bat]
    cases hm : b.mark <;> simp [recsOn, unmarked, allRecs, hm]
def pairsAt {L : List Pr} (pre : List (PrIn L)) : List (Bat × Rec) := pre.map (fun x => (x.1.b, x.1.r))
theorem pairsAt_snoc {L : List Pr} (pre : List (PrIn L)) (x : PrIn L) : pairsAt (pre ++ [x]) = pairsAt pre ++ [(x.1.b, x.1.r)] := by simp [pairsAt]
theorem pairsAt_all {bs : List Bat} {fB : Nat → Option Addr × Nat} {fR : Nat × Nat → Pl3} {ys : List (PrIn (prs bs fB fR))} (h : ys.map (·.1) = prs bs fB fR) : pairsAt ys = pairsOf bs := by
  have e : pairsAt ys = (ys.map (·.1)).map (fun x => (x.b, x.r)) := by simp [pairsAt]
  rw [e, h, prs_pairs]
theorem pairsAt_pre {bs : List Bat} {fB : Nat → Option Addr × Nat} {fR : Nat × Nat → Pl3} {pre : List (PrIn (prs bs fB fR))} (h : pre.map (·.1) <+: prs bs fB fR) : pairsAt pre <+: pairsOf bs := by
  have e : pairsAt pre = (pre.map (·.1)).map (fun x => (x.b, x.r)) := by simp [pairsAt]
  rw [e, ← prs_pairs bs fB fR]
  exact h.map _
theorem readRecords_yes {bs : List Bat} {o m : Int} (h : logB bs = true) (hm : inB m 0 99 = true) : readRecords bs o m = (recsOn bs o).take m.toNat := by unfold readRecords; rw [h, hm]; rfl
/-- All are read. -/
theorem read_done {bs : List Bat} {fB : Nat → Option Addr × Nat} {fR : Nat × Nat → Pl3} {ys : List (PrIn (prs bs fB fR))} {o m : Int} (hv : logB bs = true) (hm : inB m 0 99 = true) (h : ys.map (·.1) = prs bs fB fR)
    (hl : ((pickOn o (pairsAt ys)).length : Int) ≤ m) : readRecords bs o m = pickOn o (pairsAt ys) := by
  rw [readRecords_yes hv hm, pairsAt_all h] at *
  rw [pickOn_all] at *
  rw [List.take_of_length_le (by omega)]
/-- There are enough. -/
theorem read_stop {bs : List Bat} {fB : Nat → Option Addr × Nat} {fR : Nat × Nat → Pl3} {ini : List (PrIn (prs bs fB fR))} {last : PrIn (prs bs fB fR)} {o m : Int} (hv : logB bs = true) (hm : inB m 0 99 = true) (h : (ini ++ [last]).map (·.1) <+: prs bs fB fR)
    (hl : ((pickOn o (pairsAt ini)).length : Int) = m) : readRecords bs o m = pickOn o (pairsAt ini) := by
  rw [readRecords_yes hv hm, ← pickOn_all]
  obtain ⟨t, ht⟩ := pairsAt_pre h
  rw [← ht, pairsAt_snoc, List.append_assoc, pickOn_append, List.take_append_of_le_length (by omega), List.take_of_length_le (by omega)]

theorem alloc4 {w W : World} {a b c d : Obj} (h : (((w.alloc a).alloc b).alloc c).alloc d = W) :
    W.heap[w.heap.size]? = some a ∧ W.heap[w.heap.size + 1]? = some b ∧ W.heap[w.heap.size + 1 + 1]? = some c ∧ W.heap[w.heap.size + 1 + 1 + 1]? = some d ∧ Below w.heap.size w W ∧ W.heap.size = w.heap.size + 1 + 1 + 1 + 1 := by
  generalize hX : ((w.alloc a).alloc b).alloc c = X at h
  obtain ⟨h1, h2, h3, h4, h5⟩ := alloc3 hX
  obtain ⟨k1, k2, k3⟩ := alloc1 h
  rw [h5] at k1 k3
  exact ⟨blk_below h1 k2, blk_below h2 k2, blk_below h3 k2, k1, bthen h4 k2, k3⟩
/-- A variable that holds an own row. -/
def OutAt {α : Type} (k : XKind α) (T e : TypeId) (P : Nat → Prop) (g : Nat) (W : World) (xs : List α) : Prop := ∃ v B, W.heap[g]? = some (.cells #[v] T (0, 0)) ∧ AppX k e W P B v xs
theorem OutAt.own {α β : Type} {k : XKind α} (hk : k.Solid) (T e : TypeId) (P : Nat → Prop) (g B : Nat) (f : β → List α) : OwnFrom B (fun s W => OutAt k T e P g W (f s)) := by
  rintro s X Y row ⟨v, b, h1, h2⟩ hg hr
  exact ⟨v, b, (grownBy_keeps_cells hg (fun r e => (hr r e).2) h1 rfl).trans h1, h2.grown hk hg (fun r e => (hr r e).2)⟩
theorem OutAt.below {α : Type} {k : XKind α} {T e : TypeId} {P : Nat → Prop} {g : Nat} {W W' : World} {xs : List α} (h : OutAt k T e P g W xs) (hb : Below W.heap.size W W') : OutAt k T e P g W' xs := by
  obtain ⟨v, b, h1, h2⟩ := h
  exact ⟨v, b, blk_below h1 hb, h2.below hb⟩

abbrev RR (w : World) (b : Nat) : Prop := w.heap.size + 1 < b ∧ b ≠ w.heap.size + 1 + 1 + 1

theorem keeps_chg {B : Nat} {G : Nat → Prop} {W W' : World} (h : Chg G W W') (hG : ∀ b, G b → IsCells W b) : KeepsFrom B W W' :=
  ⟨h.size, fun b _ _ ho hc => h.blk ho (fun hg => by
    obtain ⟨o', ho', hc'⟩ := hG b hg
    rw [ho] at ho'
    injection ho' with ho'
    subst ho'
    rw [hc] at hc'
    cases hc')⟩
theorem Kpr.chg {n₀ : Nat} {G : Nat → Prop} {W W' : World} {T : TypeId} (hn : n₀ ≤ W.heap.size) (h : Chg G W W') (hT : T ≠ 30) (hG : ∀ b, G b → n₀ ≤ b ∧ ∃ cs, W.heap[b]? = some (.cells cs T (0, 0))) : Kpr n₀ W W' := by
  refine ⟨h.below hn (fun b hb => (hG b hb).1), fun b cs hb => h.blk hb (fun hg => ?_)⟩
  obtain ⟨_, ds, hd⟩ := hG b hg
  rw [hb] at hd
  simp at hd
  exact hT hd.2.symm

set_option maxRecDepth 100000 in
set_option maxHeartbeats 4000000 in
theorem ReadRecords_any (bs : List Bat) (A : Option Addr) (c : Nat) (F : Nat → Prop) (o m : Int) (w : World) (h : Bats w F A c bs) :
    Calls Try.prog 40 #[.slice A bs.length c, .int .i64 o, .int .i64 m] w fun e w' => ∃ v B, e = .returned v ∧ AppX RX 33 w' (fun b => w.heap.size ≤ b) B v (readRecords bs o m) ∧ Below w.heap.size w w' := by
  have hl := h.1
  have hc := h.2.1
  cases hv : logB bs
  · have e1 : readRecords bs o m = [] := by unfold readRecords; rw [hv]; rfl
    have HV := Lib.hid hv
    rw [e1]
    clear hv e1
    go_enter Try.func40, Try.ntmps40
    go_wp2_with fail
    generalize hW : World.alloc _ _ = W
    obtain ⟨hA, hB, hC, hD, b1, hsW⟩ := alloc4 hW
    have hX : AppX RX 33 W (fun b => w.heap.size ≤ b) (w.heap.size + 1 + 1 + 1) (.slice (some ⟨w.heap.size + 1 + 1, 0, none⟩) 0 0) [] := by
      rw [← hW]
      have := (AppX.lit RX 33 ((w.alloc (.cells #[.int .i64 o] 3)).alloc (.cells #[.int .i64 m] 3)) (fun b => w.heap.size ≤ b) (by simp; omega)).below (bal _ (.cells #[.slice (some ⟨w.heap.size + 1 + 1, 0, none⟩) 0 0] 28))
      simpa using this
    clear hW
    refine (LogValid_any bs A c _ _ (h.below b1)).mono ?_
    rintro e w2 ⟨rfl, hb2⟩
    rw [HV.out]
    have HX := Lib.hid (hX.below hb2)
    obtain ⟨z0, zf⟩ := one (blk_below hD hb2)
    have HB := Lib.hid (bthen b1 hb2)
    clear hb2 b1 hA hB hC hD hX
    go_wp2
    go_ret
    exact ⟨_, _, rfl, HX.out, HB.out⟩
  · cases hm : inB m 0 99
    · have e1 : readRecords bs o m = [] := by unfold readRecords; rw [hv, hm]; rfl
      have HV := Lib.hid hv
      have HM := Lib.hid hm
      rw [e1]
      clear hv e1 hm
      go_enter Try.func40, Try.ntmps40
      go_wp2_with fail
      generalize hW : World.alloc _ _ = W
      obtain ⟨hA, hB, hC, hD, b1, hsW⟩ := alloc4 hW
      have hX : AppX RX 33 W (fun b => w.heap.size ≤ b) (w.heap.size + 1 + 1 + 1) (.slice (some ⟨w.heap.size + 1 + 1, 0, none⟩) 0 0) [] := by
        rw [← hW]
        have := (AppX.lit RX 33 ((w.alloc (.cells #[.int .i64 o] 3)).alloc (.cells #[.int .i64 m] 3)) (fun b => w.heap.size ≤ b) (by simp; omega)).below (bal _ (.cells #[.slice (some ⟨w.heap.size + 1 + 1, 0, none⟩) 0 0] 28))
        simpa using this
      clear hW
      refine (LogValid_any bs A c _ _ (h.below b1)).mono ?_
      rintro e w2 ⟨rfl, hb2⟩
      rw [HV.out]
      have HX := Lib.hid (hX.below hb2)
      obtain ⟨z0, zf⟩ := one (blk_below hD hb2)
      obtain ⟨y0, yf⟩ := one (blk_below hB hb2)
      have HB := Lib.hid (bthen b1 hb2)
      clear hb2 b1 hA hB hC hD hX
      go_wp2_with (go_at_call 74; refine (within_any _ _ _ _).mono ?_; rintro e w' ⟨rfl, rfl⟩; rw [HM.out])
      go_ret
      exact ⟨_, _, rfl, HX.out, HB.out⟩
    · have HSM := Lib.hid (fun r (hr : r ∈ allRecs bs) => recB_small (allRecs_recB hv r hr))
      have HV := Lib.hid hv
      have HM := Lib.hid hm
      have hm99 : 0 ≤ m ∧ m ≤ 99 := by simpa [inB] using hm
      clear hv hm
      obtain ⟨fB, fR, hL⟩ := Lay.of ((h.bound bnd_bat).mono (F' := fun b => b < w.heap.size) (fun b hb => hb.2))
      have HLay := Lib.hid hL
      refine (callsIn_wide (n := 8)).1 ?_
      refine callsIn_of_wp_marks Try.func40 rfl trivial ?_ rfl
      simp only [Try.ntmps40, List.size_toArray, List.length_cons, List.length_nil, Nat.reduceAdd, Nat.reduceSub, Array.replicate_succ, Array.replicate_zero, List.push_toArray, List.append_toArray, List.nil_append, List.cons_append]
      gi_wp2_with fail
      generalize hW : World.alloc _ _ = W
      obtain ⟨hA, hB, hC, hD, b1, hsW⟩ := alloc4 hW
      have hX : AppX RX 33 W (RR w) (w.heap.size + 1 + 1 + 1) (.slice (some ⟨w.heap.size + 1 + 1, 0, none⟩) 0 0) [] := by
        rw [← hW]
        have := (AppX.lit RX 33 ((w.alloc (.cells #[.int .i64 o] 3)).alloc (.cells #[.int .i64 m] 3)) (RR w) (by simp [RR])).below (bal _ (.cells #[.slice (some ⟨w.heap.size + 1 + 1, 0, none⟩) 0 0] 28))
        simpa using this
      clear hW
      have hz4 : w.heap.size + 1 + 1 + 1 + 1 ≤ W.heap.size := by omega
      clear hsW
      refine ⟨trivial, (callsIn_wide.2 (LogValid_any bs A c _ _ (h.below b1))).mono ?_⟩
      rintro e w2 ⟨rfl, hb2⟩
      rw [HV.out]
      have hA2 := blk_below hA hb2
      have hB2 := blk_below hB hb2
      have hD2 := blk_below hD hb2
      have hX2 := hX.below hb2
      have b2 := bthen b1 hb2
      have hs2 : w.heap.size + 1 + 1 + 1 + 1 ≤ w2.heap.size := by have := hb2.size; omega
      obtain ⟨y0, yf⟩ := one hB2
      clear hb2 b1 hA hB hC hD hX hz4
      gi_wp2_with fail
      refine ⟨trivial, (callsIn_wide.2 (within_any _ _ _ _)).mono ?_⟩
      rintro e w' ⟨rfl, rfl⟩
      rw [HM.out]
      gi_wp2_with fail
      refine ⟨trivial, (recordsOf_in Fence.wide _ trivial rfl _ _ _ _).mono ?_⟩
      rintro e w3 ⟨rfl, hw3⟩
      obtain ⟨hC3, b3, hz3⟩ := alloc1 hw3.symm
      have hA3 := blk_below hA2 b3
      have hB3 := blk_below hB2 b3
      have hD3 := blk_below hD2 b3
      have hX3 := hX2.below b3
      have bb := bthen b2 b3
      have hC0 := (one hC3).1
      have hL3 := hL.keep (w' := w3) (fun b hb _ => bb.block b hb)
      clear hw3 y0 yf hA2 hB2 hD2 hX2
      gi_wp2_with fail
      refine wpIn_rangeFunc_ownH rfl (by omega) (gf := 83) (lb := #[.pointer (some ⟨w2.heap.size, 0, none⟩)]) rfl trivial (enters_of Try.func83 (by kernel_rfl) rfl)
        (records_stops Fence.wide _ trivial rfl (by omega) w2.heap.size w.heap.size c A bs fB fR hl hc w3 hC0 bb.size hL3) Kpr.trans (Kpr.book bb.size) (Below.refl _ _) (fun _ => rfl)
        (fun pre W => W.heap[w.heap.size]? = some (.cells #[.int .i64 o] 3 (0, 0)) ∧ W.heap[w.heap.size + 1]? = some (.cells #[.int .i64 m] 3 (0, 0)) ∧
          OutAt RX 28 33 (RR w) (w.heap.size + 1 + 1 + 1) W (pickOn o (pairsAt pre)) ∧ Hid (((pickOn o (pairsAt pre)).length : Int) ≤ m) ∧ Hid (Below w.heap.size w W))
        (fun c pre W => c = .exit 0 ∧ ∃ ini last, pre = ini ++ [last] ∧ Hid (((pickOn o (pairsAt ini)).length : Int) = m) ∧ OutAt RX 28 33 (RR w) (w.heap.size + 1 + 1 + 1) W (pickOn o (pairsAt ini)) ∧ Hid (Below w.heap.size w W))
        (OwnFrom.and (own_blk _ _ _ _) (OwnFrom.and (own_blk _ _ _ _) (OwnFrom.and (OutAt.own solid_rec _ _ _ _ _ _) (OwnFrom.and (ownFrom_pure _ _) (ownFrom_hb (Nat.le_refl _) bb.size)))))
        (fun c s X Y row hs hg hr => by
          obtain ⟨e, ini, last, e1, e2, e3, e4⟩ := hs
          exact ⟨e, ini, last, e1, e2, OutAt.own solid_rec _ _ _ _ w3.heap.size (fun _ : Unit => _) () X Y row e3 hg hr, ownFrom_hb (Nat.le_refl _) bb.size () X Y row e4 hg hr⟩)
        ⟨hA3, hB3, ⟨_, _, hD3, hX3⟩, Lib.hid (by simp [pairsAt, pickOn]; omega), Lib.hid bb⟩
        (fun x a' W => ∃ Bb Bx, W.heap[Bb]? = some (.cells #[.bool x.1.b.packed, .bool x.1.b.mark, .int .i64 x.1.b.prod, .int .i64 x.1.b.epoch, .int .i64 x.1.b.seq, .slice x.1.A x.1.b.recs.length x.1.c] 30 (0, 0)) ∧ W.heap[Bx]? = some (.cells #[.int .i64 x.1.r.off, .int .i64 x.1.r.time, .bool x.1.r.hk, .slice x.1.K x.1.r.key.length x.1.k, .bool x.1.r.hv, .slice x.1.V x.1.r.val.length x.1.v] 33 (0, 0)) ∧
          a' = { tmps := #[.slice A bs.length c, .int .i64 o, .int .i64 m, undef, .pointer (some ⟨w.heap.size, 0, none⟩), .pointer (some ⟨w.heap.size + 1, 0, none⟩), .slice none 0 0, .pointer (some ⟨w.heap.size + 1 + 1 + 1, 0, none⟩), .pointer (some ⟨Bb, 0, none⟩), .pointer (some ⟨Bx, 0, none⟩), .slice (some ⟨w.heap.size + 1 + 1, 0, none⟩) 0 0, .slice A bs.length c, .bool true, .bool false, .bool false, .int .i64 m, .bool true, .bool false, .bool false, undef, .slice A bs.length c, .func (.func 83) #[] #[.pointer (some ⟨w2.heap.size, 0, none⟩)], .agg #[.bool x.1.b.packed, .bool x.1.b.mark, .int .i64 x.1.b.prod, .int .i64 x.1.b.epoch, .int .i64 x.1.b.seq, .slice x.1.A x.1.b.recs.length x.1.c], .agg #[.int .i64 x.1.r.off, .int .i64 x.1.r.time, .bool x.1.r.hk, .slice x.1.K x.1.r.key.length x.1.k, .bool x.1.r.hv, .slice x.1.V x.1.r.val.length x.1.v], undef, undef, undef, undef, undef, undef, undef, undef, undef, undef, undef, undef, undef, undef, undef, undef, undef, undef, undef], defers := [] })
        (fun x a' s X Y row hs hg hr => by
          obtain ⟨Bb, Bx, h1, h2, h3⟩ := hs
          exact ⟨Bb, Bx, own_blk w3.heap.size _ _ (fun _ : Unit => _) () X Y row h1 hg hr, own_blk w3.heap.size _ _ (fun _ : Unit => _) () X Y row h2 hg hr, h3⟩) ?assign ?body ?done ?stop
      case assign =>
        rintro l pre x W K ⟨i1, i2, i3, i4, i5⟩ hK
        dsimp only [Pr.encs] at hK ⊢
        gi_wp2
        generalize hW : World.alloc _ _ = W1
        obtain ⟨hp, hq, hbW, hzW⟩ := alloc2 hW
        clear hW
        exact hK _ _ (keeps_below hbW) (Kpr.below i5.out.size hbW) ⟨blk_below i1 hbW, blk_below i2 hbW, i3.below hbW, i4, Lib.hid (i5.out.trans (hbW.mono i5.out.size))⟩ ⟨W.heap.size, W.heap.size + 1, hp, hq, rfl⟩
      case body =>
        rintro l pre x a' W hlW ⟨r, hr⟩ ⟨i1, i2, i3, i4, i5⟩ ⟨Bb, Bx, hbb, hbx, rfl⟩ hlt
        obtain ⟨v, B, hd, hX⟩ := i3
        obtain ⟨A1, c1, rfl, hl1, hc1⟩ := hX.toP.slice_
        have HXS := Lib.hid (pairsAt_snoc pre x)
        obtain ⟨xs, hxs⟩ : ∃ xs, xs = pickOn o (pairsAt pre) := ⟨_, rfl⟩
        rw [← hxs] at hd hX hl1 i4
        have HXE := Lib.hid hxs
        clear hxs
        have hn99 := i4.out
        obtain ⟨x0, xf⟩ := one i1
        obtain ⟨y0, yf⟩ := one i2
        obtain ⟨o0, of⟩ := one hd
        obtain ⟨p0, p1, p2, p3, p4, p5, pf⟩ := six hbb
        obtain ⟨q0, q1, q2, q3, q4, q5, qf⟩ := six hbx
        have I1 := Lib.hid i1
        have I2 := Lib.hid i2
        have HD := Lib.hid hd
        have HX := Lib.hid hX
        clear i1 i2 hd hX hbb hr
        by_cases hm : (xs.length : Int) = m
        · have hm' : ((xs.length : Int) == m) = true := by simpa using hm
          gi_wp2
          exact ⟨KeepsFrom.refl _ _, rfl, pre, x, rfl, Lib.hid (by rw [← HXE.out]; exact hm), ⟨_, _, HD.out, by rw [← HXE.out]; exact HX.out⟩, i5⟩
        · have hm' : ((xs.length : Int) == m) = false := by simpa using hm
          have hno : selB o (x.1.b, x.1.r) = false → pickOn o (pairsAt (pre ++ [x])) = xs := by
            intro hs
            rw [HXS.out, pickOn_snoc, hs, ← HXE.out]
            simp
          cases hmk : x.1.b.mark
          · by_cases ho : o ≤ x.1.r.off
            · have ho' : decide (o ≤ x.1.r.off) = true := by simp [ho]
              have HYES : Hid (pickOn o (pairsAt (pre ++ [x])) = xs ++ [x.1.r]) := Lib.hid (by rw [HXS.out, pickOn_snoc, ← HXE.out]; simp [selB, hmk, onB, ho])
              have hLW := HLay.out.keep (w' := W) (fun b hb _ => i5.out.block b hb)
              obtain ⟨hk1, hk2⟩ := hLW.ints x.2
              have hsm := HSM.out _ (prs_rec x.2)
              have HLT : Hid ((xs.length : Int) < m ∧ m ≤ 99) := Lib.hid (by have := i4.out; omega)
              clear hno hLW hm99
              gi_wp2
              refine wpIn_region_any (by kernel_rfl) ?_
              change wpAnyIn _ _ _ _ _ _ _ _ _ (World.drew W)
              generalize hV : W.drew = V
              have bD : Below W.heap.size W V := by rw [← hV]; exact ⟨rfl, rfl, rfl, Nat.le_refl _, fun _ _ => rfl⟩
              clear hV
              have hk1 := hk1.below bD
              have hk2 := hk2.below bD
              have hD := blk_below HD.out bD
              have hX := HX.out.below bD
              have i1 := blk_below I1.out bD
              have i2 := blk_below I2.out bD
              have hbx := blk_below hbx bD
              have HBW := Lib.hid (i5.out.trans (bD.mono i5.out.size))
              have hgx : w.heap.size + 1 + 1 + 1 < V.heap.size := (Array.getElem?_eq_some_iff.1 hD).1
              have KW := keeps_below (B := w3.heap.size) bD
              have KP := Kpr.below i5.out.size bD
              clear o0 of p0 p1 p2 p3 p4 p5 pf q0 q1 q2 q3 q4 q5 qf bD x0 xf y0 yf I1 I2 HD HX
              obtain ⟨o0, of⟩ := one hD
              obtain ⟨q0, q1, q2, q3, q4, q5, qf⟩ := six hbx
              have I1 := Lib.hid i1
              have I2 := Lib.hid i2
              have HD := Lib.hid hD
              have HX := Lib.hid hX
              clear i1 i2 hD hX hbx
              refine wpAnyIn_ready (rs := [0, 1]) (by kernel_rfl) (by simp) (AllReadyIn.cons rfl (fun K hK => ?_) (AllReadyIn.cons rfl (fun K hK => ?_) AllReadyIn.nil))
              · go_simp
                refine hK _ _ ?_
                clear hK K
                refine wpAnyIn_ready (rs := [1]) (by kernel_rfl) (by simp) (AllReadyIn.cons rfl (fun K hK => ?_) AllReadyIn.nil)
                go_simp
                refine hK _ _ ?_
                clear hK K
                refine wpAnyIn_ready (rs := [2]) (by kernel_rfl) (by simp) (AllReadyIn.cons rfl (fun K hK => ?_) AllReadyIn.nil)
                go_simp
                refine ⟨trivial, (CallsIn.inRound l (callsIn_wide.2 (copyOf_any x.1.r x.1.K x.1.V x.1.k x.1.v _ _ hk1 hk2 (by omega) (by omega)))).mono ?_⟩
                rintro e w4 ⟨vk, vv, rfl, hCp⟩
                obtain ⟨Ak, ck, rfl, _⟩ := AppP.row hCp.key
                obtain ⟨Av, cv, rfl, _⟩ := AppP.row hCp.val
                dsimp only
                refine hK _ _ ?_
                clear hK K
                have hD4 := blk_below HD.out hCp.below
                obtain ⟨o4, of4⟩ := one hD4
                have X4 := Lib.hid (HX.out.below hCp.below)
                have XK := Lib.hid hCp.x
                have HD4 := Lib.hid hD4
                clear hD4
                refine wpAnyIn_ready (rs := [3]) (by kernel_rfl) (by simp) (AllReadyIn.cons rfl (fun K hK => ?_) AllReadyIn.nil)
                go_simp
                refine hK _ _ ?_
                clear hK K
                refine wpAnyIn_ready (rs := [4]) (by kernel_rfl) (by simp) (AllReadyIn.cons rfl (fun K hK => ?_) AllReadyIn.nil)
                refine stepIn_appX RX X4.out rfl _ _ 28 (.agg #[.int .i64 0, .int .i64 0, .bool false, .slice none 0 0, .bool false, .slice none 0 0]) 80 rfl Try.underlying28 (by kernel_rfl) rfl (by decide) x.1.r _ _ rfl rfl XK.out (fun b hb => ⟨⟨by omega, by omega⟩, by have := HX.out.1; omega⟩) (by simp [Value.oneCell']) (fun b hb => ⟨by have := hCp.below.size; omega, by have := hCp.below.size; omega⟩) (by have := HLT.out; omega) (by have := HLT.out; omega) ?_
                intro v1 w5 HA5 hc5 ho5
                obtain ⟨A5, c5, rfl, _⟩ := HA5.toP.slice_
                refine hK _ _ ?_
                clear hK K
                have hge := X4.out.ge
                have hD5 := hc5.blk HD4.out (fun e => by have := (hge _ e).1.2; omega)
                obtain ⟨o5, of5⟩ := one hD5
                have HD5 := Lib.hid hD5
                have HA5 := Lib.hid HA5
                clear hD5
                refine wpAnyIn_ready (rs := [5]) (by kernel_rfl) (by simp) (AllReadyIn.cons rfl (fun K hK => ?_) AllReadyIn.nil)
                go_simp
                refine hK _ _ ?_
                clear hK K
                refine wpAnyIn_done (by kernel_rfl) ?_ _
                have hown : ∀ b, (Value.slice A1 xs.length c1).ownBlock = some b → w.heap.size + 1 < b ∧ ∃ cs, w4.heap[b]? = some (.cells cs 33 (0, 0)) := fun b hb => ⟨(hge b hb).1.1, AppP.cells X4.out.toP hb⟩
                have hsV := hCp.below.size
                have j1 := hc5.blk (blk_below I1.out hCp.below) (fun e => by have := (hown _ e).1; omega)
                have j2 := hc5.blk (blk_below I2.out hCp.below) (fun e => by have := (hown _ e).1; omega)
                have bV := bthen HBW.out hCp.below
                have b5 := bV.trans (hc5.below bV.size (fun i hi => by have := (hown i hi).1; omega))
                refine ⟨((KW.trans (keeps_below hCp.below)).trans (keeps_chg hc5 (fun b hb => by obtain ⟨_, cs, hcs⟩ := hown b hb; exact ⟨_, hcs, rfl⟩))).trans (keeps_set _ _ _), ?_, blk_far j1 (by simp; omega) _, blk_far j2 (by simp) _, ⟨.slice A5 (xs ++ [x.1.r]).length c5, w5.heap.size, ?_, ?_⟩, ?_, Lib.hid (b5.setCell (p := ⟨w.heap.size + 1 + 1 + 1, 0, none⟩) (by simp; omega) _)⟩
                · exact ((KP.trans (Kpr.below HBW.out.size hCp.below)).trans (Kpr.chg bV.size hc5 (T := 33) (by decide) (fun b hb => ⟨by have := (hown b hb).1; omega, (hown b hb).2⟩))).trans (Kpr.set (by omega) HD5.out (by decide))
                · have := blk_put HD5.out 0 (.slice A5 (xs ++ [x.1.r]).length c5)
                  simpa using this
                · rw [HYES.out]
                  exact HA5.out.chg (Chg.set (fun b => b = w.heap.size + 1 + 1 + 1) w5 (p := ⟨w.heap.size + 1 + 1 + 1, 0, none⟩) rfl _) (fun b _ hb e => hb.2 e)
                · rw [HYES.out]
                  exact Lib.hid (by have := HLT.out; simp; omega)
              · go_simp
                refine hK _ _ ?_
                clear hK K
                refine wpAnyIn_ready (rs := [0, 2]) (by kernel_rfl) (by simp) (AllReadyIn.cons rfl (fun K hK => ?_) (AllReadyIn.cons rfl (fun K hK => ?_) AllReadyIn.nil))
                · go_simp
                  refine hK _ _ ?_
                  clear hK K
                  refine wpAnyIn_ready (rs := [2]) (by kernel_rfl) (by simp) (AllReadyIn.cons rfl (fun K hK => ?_) AllReadyIn.nil)
                  go_simp
                  refine ⟨trivial, (CallsIn.inRound l (callsIn_wide.2 (copyOf_any x.1.r x.1.K x.1.V x.1.k x.1.v _ _ hk1 hk2 (by omega) (by omega)))).mono ?_⟩
                  rintro e w4 ⟨vk, vv, rfl, hCp⟩
                  obtain ⟨Ak, ck, rfl, _⟩ := AppP.row hCp.key
                  obtain ⟨Av, cv, rfl, _⟩ := AppP.row hCp.val
                  dsimp only
                  refine hK _ _ ?_
                  clear hK K
                  have hD4 := blk_below HD.out hCp.below
                  obtain ⟨o4, of4⟩ := one hD4
                  have X4 := Lib.hid (HX.out.below hCp.below)
                  have XK := Lib.hid hCp.x
                  have HD4 := Lib.hid hD4
                  clear hD4
                  refine wpAnyIn_ready (rs := [3]) (by kernel_rfl) (by simp) (AllReadyIn.cons rfl (fun K hK => ?_) AllReadyIn.nil)
                  go_simp
                  refine hK _ _ ?_
                  clear hK K
                  refine wpAnyIn_ready (rs := [4]) (by kernel_rfl) (by simp) (AllReadyIn.cons rfl (fun K hK => ?_) AllReadyIn.nil)
                  refine stepIn_appX RX X4.out rfl _ _ 28 (.agg #[.int .i64 0, .int .i64 0, .bool false, .slice none 0 0, .bool false, .slice none 0 0]) 80 rfl Try.underlying28 (by kernel_rfl) rfl (by decide) x.1.r _ _ rfl rfl XK.out (fun b hb => ⟨⟨by omega, by omega⟩, by have := HX.out.1; omega⟩) (by simp [Value.oneCell']) (fun b hb => ⟨by have := hCp.below.size; omega, by have := hCp.below.size; omega⟩) (by have := HLT.out; omega) (by have := HLT.out; omega) ?_
                  intro v1 w5 HA5 hc5 ho5
                  obtain ⟨A5, c5, rfl, _⟩ := HA5.toP.slice_
                  refine hK _ _ ?_
                  clear hK K
                  have hge := X4.out.ge
                  have hD5 := hc5.blk HD4.out (fun e => by have := (hge _ e).1.2; omega)
                  obtain ⟨o5, of5⟩ := one hD5
                  have HD5 := Lib.hid hD5
                  have HA5 := Lib.hid HA5
                  clear hD5
                  refine wpAnyIn_ready (rs := [5]) (by kernel_rfl) (by simp) (AllReadyIn.cons rfl (fun K hK => ?_) AllReadyIn.nil)
                  go_simp
                  refine hK _ _ ?_
                  clear hK K
                  refine wpAnyIn_done (by kernel_rfl) ?_ _
                  have hown : ∀ b, (Value.slice A1 xs.length c1).ownBlock = some b → w.heap.size + 1 < b ∧ ∃ cs, w4.heap[b]? = some (.cells cs 33 (0, 0)) := fun b hb => ⟨(hge b hb).1.1, AppP.cells X4.out.toP hb⟩
                  have hsV := hCp.below.size
                  have j1 := hc5.blk (blk_below I1.out hCp.below) (fun e => by have := (hown _ e).1; omega)
                  have j2 := hc5.blk (blk_below I2.out hCp.below) (fun e => by have := (hown _ e).1; omega)
                  have bV := bthen HBW.out hCp.below
                  have b5 := bV.trans (hc5.below bV.size (fun i hi => by have := (hown i hi).1; omega))
                  refine ⟨((KW.trans (keeps_below hCp.below)).trans (keeps_chg hc5 (fun b hb => by obtain ⟨_, cs, hcs⟩ := hown b hb; exact ⟨_, hcs, rfl⟩))).trans (keeps_set _ _ _), ?_, blk_far j1 (by simp; omega) _, blk_far j2 (by simp) _, ⟨.slice A5 (xs ++ [x.1.r]).length c5, w5.heap.size, ?_, ?_⟩, ?_, Lib.hid (b5.setCell (p := ⟨w.heap.size + 1 + 1 + 1, 0, none⟩) (by simp; omega) _)⟩
                  · exact ((KP.trans (Kpr.below HBW.out.size hCp.below)).trans (Kpr.chg bV.size hc5 (T := 33) (by decide) (fun b hb => ⟨by have := (hown b hb).1; omega, (hown b hb).2⟩))).trans (Kpr.set (by omega) HD5.out (by decide))
                  · have := blk_put HD5.out 0 (.slice A5 (xs ++ [x.1.r]).length c5)
                    simpa using this
                  · rw [HYES.out]
                    exact HA5.out.chg (Chg.set (fun b => b = w.heap.size + 1 + 1 + 1) w5 (p := ⟨w.heap.size + 1 + 1 + 1, 0, none⟩) rfl _) (fun b _ hb e => hb.2 e)
                  · rw [HYES.out]
                    exact Lib.hid (by have := HLT.out; simp; omega)
                · go_simp
                  refine ⟨trivial, (CallsIn.inRound l (callsIn_wide.2 (copyOf_any x.1.r x.1.K x.1.V x.1.k x.1.v _ _ hk1 hk2 (by omega) (by omega)))).mono ?_⟩
                  rintro e w4 ⟨vk, vv, rfl, hCp⟩
                  obtain ⟨Ak, ck, rfl, _⟩ := AppP.row hCp.key
                  obtain ⟨Av, cv, rfl, _⟩ := AppP.row hCp.val
                  dsimp only
                  refine hK _ _ ?_
                  clear hK K
                  have hD4 := blk_below HD.out hCp.below
                  obtain ⟨o4, of4⟩ := one hD4
                  have X4 := Lib.hid (HX.out.below hCp.below)
                  have XK := Lib.hid hCp.x
                  have HD4 := Lib.hid hD4
                  clear hD4
                  refine wpAnyIn_ready (rs := [0, 3]) (by kernel_rfl) (by simp) (AllReadyIn.cons rfl (fun K hK => ?_) (AllReadyIn.cons rfl (fun K hK => ?_) AllReadyIn.nil))
                  · go_simp
                    refine hK _ _ ?_
                    clear hK K
                    refine wpAnyIn_ready (rs := [3]) (by kernel_rfl) (by simp) (AllReadyIn.cons rfl (fun K hK => ?_) AllReadyIn.nil)
                    go_simp
                    refine hK _ _ ?_
                    clear hK K
                    refine wpAnyIn_ready (rs := [4]) (by kernel_rfl) (by simp) (AllReadyIn.cons rfl (fun K hK => ?_) AllReadyIn.nil)
                    refine stepIn_appX RX X4.out rfl _ _ 28 (.agg #[.int .i64 0, .int .i64 0, .bool false, .slice none 0 0, .bool false, .slice none 0 0]) 80 rfl Try.underlying28 (by kernel_rfl) rfl (by decide) x.1.r _ _ rfl rfl XK.out (fun b hb => ⟨⟨by omega, by omega⟩, by have := HX.out.1; omega⟩) (by simp [Value.oneCell']) (fun b hb => ⟨by have := hCp.below.size; omega, by have := hCp.below.size; omega⟩) (by have := HLT.out; omega) (by have := HLT.out; omega) ?_
                    intro v1 w5 HA5 hc5 ho5
                    obtain ⟨A5, c5, rfl, _⟩ := HA5.toP.slice_
                    refine hK _ _ ?_
                    clear hK K
                    have hge := X4.out.ge
                    have hD5 := hc5.blk HD4.out (fun e => by have := (hge _ e).1.2; omega)
                    obtain ⟨o5, of5⟩ := one hD5
                    have HD5 := Lib.hid hD5
                    have HA5 := Lib.hid HA5
                    clear hD5
                    refine wpAnyIn_ready (rs := [5]) (by kernel_rfl) (by simp) (AllReadyIn.cons rfl (fun K hK => ?_) AllReadyIn.nil)
                    go_simp
                    refine hK _ _ ?_
                    clear hK K
                    refine wpAnyIn_done (by kernel_rfl) ?_ _
                    have hown : ∀ b, (Value.slice A1 xs.length c1).ownBlock = some b → w.heap.size + 1 < b ∧ ∃ cs, w4.heap[b]? = some (.cells cs 33 (0, 0)) := fun b hb => ⟨(hge b hb).1.1, AppP.cells X4.out.toP hb⟩
                    have hsV := hCp.below.size
                    have j1 := hc5.blk (blk_below I1.out hCp.below) (fun e => by have := (hown _ e).1; omega)
                    have j2 := hc5.blk (blk_below I2.out hCp.below) (fun e => by have := (hown _ e).1; omega)
                    have bV := bthen HBW.out hCp.below
                    have b5 := bV.trans (hc5.below bV.size (fun i hi => by have := (hown i hi).1; omega))
                    refine ⟨((KW.trans (keeps_below hCp.below)).trans (keeps_chg hc5 (fun b hb => by obtain ⟨_, cs, hcs⟩ := hown b hb; exact ⟨_, hcs, rfl⟩))).trans (keeps_set _ _ _), ?_, blk_far j1 (by simp; omega) _, blk_far j2 (by simp) _, ⟨.slice A5 (xs ++ [x.1.r]).length c5, w5.heap.size, ?_, ?_⟩, ?_, Lib.hid (b5.setCell (p := ⟨w.heap.size + 1 + 1 + 1, 0, none⟩) (by simp; omega) _)⟩
                    · exact ((KP.trans (Kpr.below HBW.out.size hCp.below)).trans (Kpr.chg bV.size hc5 (T := 33) (by decide) (fun b hb => ⟨by have := (hown b hb).1; omega, (hown b hb).2⟩))).trans (Kpr.set (by omega) HD5.out (by decide))
                    · have := blk_put HD5.out 0 (.slice A5 (xs ++ [x.1.r]).length c5)
                      simpa using this
                    · rw [HYES.out]
                      exact HA5.out.chg (Chg.set (fun b => b = w.heap.size + 1 + 1 + 1) w5 (p := ⟨w.heap.size + 1 + 1 + 1, 0, none⟩) rfl _) (fun b _ hb e => hb.2 e)
                    · rw [HYES.out]
                      exact Lib.hid (by have := HLT.out; simp; omega)
                  · go_simp
                    refine hK _ _ ?_
                    clear hK K
                    obtain ⟨o6, of6⟩ := one (blk_below HD4.out (bal w4 (.cells #[.int .i64 x.1.r.off, .int .i64 x.1.r.time, .bool x.1.r.hk, .slice Ak x.1.r.key.length ck, .bool x.1.r.hv, .slice Av x.1.r.val.length cv] 33)))
                    refine wpAnyIn_ready (rs := [0]) (by kernel_rfl) (by simp) (AllReadyIn.cons rfl (fun K hK => ?_) AllReadyIn.nil)
                    go_simp
                    refine hK _ _ ?_
                    clear hK K
                    refine wpAnyIn_ready (rs := [4]) (by kernel_rfl) (by simp) (AllReadyIn.cons rfl (fun K hK => ?_) AllReadyIn.nil)
                    refine stepIn_appX RX X4.out rfl _ _ 28 (.agg #[.int .i64 0, .int .i64 0, .bool false, .slice none 0 0, .bool false, .slice none 0 0]) 80 rfl Try.underlying28 (by kernel_rfl) rfl (by decide) x.1.r _ _ rfl rfl XK.out (fun b hb => ⟨⟨by omega, by omega⟩, by have := HX.out.1; omega⟩) (by simp [Value.oneCell']) (fun b hb => ⟨by have := hCp.below.size; omega, by have := hCp.below.size; omega⟩) (by have := HLT.out; omega) (by have := HLT.out; omega) ?_
                    intro v1 w5 HA5 hc5 ho5
                    obtain ⟨A5, c5, rfl, _⟩ := HA5.toP.slice_
                    refine hK _ _ ?_
                    clear hK K
                    have hge := X4.out.ge
                    have hD5 := hc5.blk HD4.out (fun e => by have := (hge _ e).1.2; omega)
                    obtain ⟨o5, of5⟩ := one hD5
                    have HD5 := Lib.hid hD5
                    have HA5 := Lib.hid HA5
                    clear hD5
                    refine wpAnyIn_ready (rs := [5]) (by kernel_rfl) (by simp) (AllReadyIn.cons rfl (fun K hK => ?_) AllReadyIn.nil)
                    go_simp
                    refine hK _ _ ?_
                    clear hK K
                    refine wpAnyIn_done (by kernel_rfl) ?_ _
                    have hown : ∀ b, (Value.slice A1 xs.length c1).ownBlock = some b → w.heap.size + 1 < b ∧ ∃ cs, w4.heap[b]? = some (.cells cs 33 (0, 0)) := fun b hb => ⟨(hge b hb).1.1, AppP.cells X4.out.toP hb⟩
                    have hsV := hCp.below.size
                    have j1 := hc5.blk (blk_below I1.out hCp.below) (fun e => by have := (hown _ e).1; omega)
                    have j2 := hc5.blk (blk_below I2.out hCp.below) (fun e => by have := (hown _ e).1; omega)
                    have bV := bthen HBW.out hCp.below
                    have b5 := bV.trans (hc5.below bV.size (fun i hi => by have := (hown i hi).1; omega))
                    refine ⟨((KW.trans (keeps_below hCp.below)).trans (keeps_chg hc5 (fun b hb => by obtain ⟨_, cs, hcs⟩ := hown b hb; exact ⟨_, hcs, rfl⟩))).trans (keeps_set _ _ _), ?_, blk_far j1 (by simp; omega) _, blk_far j2 (by simp) _, ⟨.slice A5 (xs ++ [x.1.r]).length c5, w5.heap.size, ?_, ?_⟩, ?_, Lib.hid (b5.setCell (p := ⟨w.heap.size + 1 + 1 + 1, 0, none⟩) (by simp; omega) _)⟩
                    · exact ((KP.trans (Kpr.below HBW.out.size hCp.below)).trans (Kpr.chg bV.size hc5 (T := 33) (by decide) (fun b hb => ⟨by have := (hown b hb).1; omega, (hown b hb).2⟩))).trans (Kpr.set (by omega) HD5.out (by decide))
                    · have := blk_put HD5.out 0 (.slice A5 (xs ++ [x.1.r]).length c5)
                      simpa using this
                    · rw [HYES.out]
                      exact HA5.out.chg (Chg.set (fun b => b = w.heap.size + 1 + 1 + 1) w5 (p := ⟨w.heap.size + 1 + 1 + 1, 0, none⟩) rfl _) (fun b _ hb e => hb.2 e)
                    · rw [HYES.out]
                      exact Lib.hid (by have := HLT.out; simp; omega)
            · have ho' : decide (o ≤ x.1.r.off) = false := by simp [ho]
              have HNO := Lib.hid (hno (by simp [selB, onB, ho]))
              clear hno
              gi_wp2
              exact ⟨KeepsFrom.refl _ _, Kpr.below i5.out.size (Below.refl _ _), I1.out, I2.out, ⟨_, _, HD.out, by rw [HNO.out]; exact HX.out⟩, by rw [HNO.out]; exact i4, i5⟩
          · have HNO := Lib.hid (hno (by simp [selB, hmk]))
            clear hno
            gi_wp2
            exact ⟨KeepsFrom.refl _ _, Kpr.below i5.out.size (Below.refl _ _), I1.out, I2.out, ⟨_, _, HD.out, by rw [HNO.out]; exact HX.out⟩, by rw [HNO.out]; exact i4, i5⟩
      case done =>
        rintro D ys W hD hS ⟨i1, i2, ⟨v, B, hd, hX⟩, i4, i5⟩ hK
        have HE := Lib.hid (read_done HV.out HM.out hS i4.out)
        obtain ⟨o0, of⟩ := one hd
        have HX := Lib.hid hX
        clear hX hS i1 i2 hd
        gi_wp2
        refine ⟨by simp, .inl ⟨_, _, rfl, run_takeDeferred hK, ?_⟩⟩
        refine ⟨_, results_tmp rfl _ _ _, v, B, rfl, ?_, i5.out.trans (belowK_b (w := w) (Nat.le_refl _) W D _ _ (by have := bb.size; omega) hK rfl rfl)⟩
        rw [HE.out]
        exact (HX.out.grown solid_rec (grownBy_putObj' _ D (.deferred none)) (fun r e => by cases e; exact ⟨_, hK, rfl⟩)).mono (fun b hb => by have := hb.1; omega)
      case stop =>
        rintro D c pre W hD hSp ⟨rfl, ini, last, rfl, e2, ⟨v, B, hd, hX⟩, e4⟩ hK
        have HE := Lib.hid (read_stop HV.out HM.out hSp e2.out)
        obtain ⟨o0, of⟩ := one hd
        have HX := Lib.hid hX
        clear hX hSp hd
        gi_wp2
        refine ⟨by simp, .inl ⟨_, _, rfl, run_takeDeferred hK, ?_⟩⟩
        refine ⟨_, results_tmp rfl _ _ _, v, B, rfl, ?_, e4.out.trans (belowK_b (w := w) (Nat.le_refl _) W D _ _ (by have := bb.size; omega) hK rfl rfl)⟩
        rw [HE.out]
        exact (HX.out.grown solid_rec (grownBy_putObj' _ D (.deferred none)) (fun r e => by cases e; exact ⟨_, hK, rfl⟩)).mono (fun b hb => by have := hb.1; omega)
end Go.Proofs.Ytlgcajjoimcdhaa
