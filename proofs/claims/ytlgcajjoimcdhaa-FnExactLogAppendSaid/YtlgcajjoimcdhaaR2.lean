/- TimesCount of the program. -/
import Derived.Test.YtlgcajjoimcdhaaR1
namespace Go.Proofs.Ytlgcajjoimcdhaa
set_option linter.unusedVariables false
set_option linter.unusedSimpArgs false
open Go.RowKit Go.Shelf
attribute [local go_sem] Oper.semAt_some

theorem prs_len (bs : List Bat) (fB : Nat → Option Addr × Nat) (fR : Nat × Nat → Pl3) : (prs bs fB fR).length = (allRecs bs).length := by rw [← prs_recs bs fB fR, List.length_map]
def recsOf {L : List Pr} (pre : List (PrIn L)) : List Rec := pre.map (fun x => x.1.r)
theorem recsOf_snoc {L : List Pr} (pre : List (PrIn L)) (x : PrIn L) : recsOf (pre ++ [x]) = recsOf pre ++ [x.1.r] := by simp [recsOf]
theorem recsOf_all {bs : List Bat} {fB : Nat → Option Addr × Nat} {fR : Nat × Nat → Pl3} {ys : List (PrIn (prs bs fB fR))} (h : ys.map (·.1) = prs bs fB fR) : recsOf ys = allRecs bs := by
  have e : recsOf ys = (ys.map (·.1)).map (·.r) := by simp [recsOf]
  rw [e, h, prs_recs]
theorem recsOf_len {L : List Pr} (pre : List (PrIn L)) : (recsOf pre).length = pre.length := by simp [recsOf]
theorem cntT_snoc (rs : List Rec) (r : Rec) (f t : Int) : cntT (rs ++ [r]) f t = cntT rs f t + if spanB f t r then 1 else 0 := by
  unfold cntT
  rw [List.filter_append, List.length_append]
  cases h : spanB f t r <;> simp [h]

set_option maxRecDepth 100000 in
set_option maxHeartbeats 4000000 in
theorem TimesCount_any (bs : List Bat) (A : Option Addr) (c : Nat) (F : Nat → Prop) (f t : Int) (w : World) (h : Bats w F A c bs) :
    Calls Try.prog 52 #[.slice A bs.length c, .int .i64 f, .int .i64 t] w fun e w' => e = .returned (.int .i64 (timesCount bs f t)) ∧ Below w.heap.size w w' := by
  have hl := h.1
  have hc := h.2.1
  cases hv : logB bs
  · have e1 : timesCount bs f t = -1 := by unfold timesCount; rw [hv]; rfl
    have HV := Lib.hid hv
    rw [e1]
    clear hv e1
    go_enter Try.func52, Try.ntmps52
    go_wp2_with fail
    generalize hW : World.alloc _ _ = W
    obtain ⟨hA, hB, b1, hsW⟩ := alloc2 hW
    clear hW
    refine (LogValid_any bs A c _ _ (h.below b1)).mono ?_
    rintro e w2 ⟨rfl, hb2⟩
    rw [HV.out]
    have HB := Lib.hid (bthen b1 hb2)
    clear hb2 b1 hA hB
    go_wp2
    go_ret
    exact ⟨rfl, HB.out⟩
  · have e1 : timesCount bs f t = cntT (allRecs bs) f t := by unfold timesCount; rw [hv]; rfl
    have hlen := allRecs_len hv
    have HV := Lib.hid hv
    rw [e1]
    clear hv e1
    obtain ⟨fB, fR, hL⟩ := Lay.of ((h.bound bnd_bat).mono (F' := fun b => b < w.heap.size) (fun b hb => hb.2))
    rw [← prs_len bs fB fR] at hlen
    refine (callsIn_wide (n := 8)).1 ?_
    refine callsIn_of_wp_marks Try.func52 rfl trivial ?_ rfl
    simp only [Try.ntmps52, List.size_toArray, List.length_cons, List.length_nil, Nat.reduceAdd, Nat.reduceSub, Array.replicate_succ, Array.replicate_zero, List.push_toArray, List.append_toArray, List.nil_append, List.cons_append]
    gi_wp2_with fail
    generalize hW : World.alloc _ _ = W
    obtain ⟨hA, hB, b1, hsW⟩ := alloc2 hW
    clear hW
    refine ⟨trivial, (callsIn_wide.2 (LogValid_any bs A c _ _ (h.below b1))).mono ?_⟩
    rintro e w2 ⟨rfl, hb2⟩
    rw [HV.out]
    have hA2 := blk_below hA hb2
    have hB2 := blk_below hB hb2
    have b2 := bthen b1 hb2
    have hs12 : w.heap.size + 1 + 1 ≤ w2.heap.size := by have := hb2.size; omega
    clear hb2 b1 hA hB
    gi_wp2_with fail
    generalize hW : World.alloc _ _ = W1
    obtain ⟨hD, bD, hzD⟩ := alloc1 hW
    have hA2 := blk_below hA2 bD
    have hB2 := blk_below hB2 bD
    have b2 := bthen b2 bD
    clear hW
    refine ⟨trivial, (recordsOf_in Fence.wide _ trivial rfl _ _ _ _).mono ?_⟩
    rintro e w3 ⟨rfl, hw3⟩
    obtain ⟨hC3, b3, hz3⟩ := alloc1 hw3.symm
    have hA3 := blk_below hA2 b3
    have hB3 := blk_below hB2 b3
    have hD3 := blk_below hD b3
    have bb := bthen b2 b3
    rw [hzD] at hC3
    have hC0 := (one hC3).1
    have hs2 := b2.size
    have hL3 := hL.keep (w' := w3) (fun b hb _ => bb.block b hb)
    clear hw3
    gi_wp2_with fail
    refine wpIn_rangeFunc_ownH rfl (by omega) (gf := 83) (lb := #[.pointer (some ⟨w2.heap.size + 1, 0, none⟩)]) rfl trivial (enters_of Try.func83 (by kernel_rfl) rfl)
      (records_stops Fence.wide _ trivial rfl (by omega) (w2.heap.size + 1) w.heap.size c A bs fB fR hl hc w3 hC0 bb.size hL3) Kpr.trans (Kpr.book bb.size) (Below.refl _ _) (fun _ => rfl)
      (fun pre W => W.heap[w.heap.size]? = some (.cells #[.int .i64 f] 3 (0, 0)) ∧ W.heap[w.heap.size + 1]? = some (.cells #[.int .i64 t] 3 (0, 0)) ∧ W.heap[w2.heap.size]? = some (.cells #[.int .i64 (cntT (recsOf pre) f t)] 3 (0, 0)) ∧ Hid (Below w.heap.size w W))
      (fun _ _ _ => False)
      (OwnFrom.and (own_blk _ _ _ _) (OwnFrom.and (own_blk _ _ _ _) (OwnFrom.and (own_blk _ _ _ _) (ownFrom_hb (Nat.le_refl _) bb.size))))
      (fun _ _ _ _ _ hs _ _ => hs)
      ⟨hA3, hB3, hD3, Lib.hid bb⟩
      (fun x a' W => ∃ Bx, W.heap[Bx]? = some (.cells #[.int .i64 x.1.r.off, .int .i64 x.1.r.time, .bool x.1.r.hk, .slice x.1.K x.1.r.key.length x.1.k, .bool x.1.r.hv, .slice x.1.V x.1.r.val.length x.1.v] 33 (0, 0)) ∧
        a' = { tmps := #[.slice A bs.length c, .int .i64 f, .int .i64 t, undef, .pointer (some ⟨w.heap.size, 0, none⟩), .pointer (some ⟨w.heap.size + 1, 0, none⟩), .int .i64 0, .pointer (some ⟨w2.heap.size, 0, none⟩), undef, .pointer (some ⟨Bx, 0, none⟩), .slice A bs.length c, .bool true, .bool false, .slice A bs.length c, .func (.func 83) #[] #[.pointer (some ⟨w2.heap.size + 1, 0, none⟩)], .agg #[.bool x.1.b.packed, .bool x.1.b.mark, .int .i64 x.1.b.prod, .int .i64 x.1.b.epoch, .int .i64 x.1.b.seq, .slice x.1.A x.1.b.recs.length x.1.c], .agg #[.int .i64 x.1.r.off, .int .i64 x.1.r.time, .bool x.1.r.hk, .slice x.1.K x.1.r.key.length x.1.k, .bool x.1.r.hv, .slice x.1.V x.1.r.val.length x.1.v], undef, undef, undef, undef, undef, undef, undef, undef, undef, undef, undef, undef, undef], defers := [] })
      (fun x a' s X Y row hs hg hr => by
        obtain ⟨Bx, h1, h2⟩ := hs
        exact ⟨Bx, own_blk w3.heap.size _ _ (fun _ : Unit => _) () X Y row h1 hg hr, h2⟩) ?assign ?body ?done ?stop
    case assign =>
      rintro l pre x W K ⟨i1, i2, i3, i4⟩ hK
      dsimp only [Pr.encs] at hK ⊢
      gi_wp2
      exact hK _ _ (keeps_below (bal _ _)) (Kpr.below i4.out.size (bal _ _)) ⟨blk_below i1 (bal _ _), blk_below i2 (bal _ _), blk_below i3 (bal _ _), Lib.hid (i4.out.trans ((bal _ _).mono i4.out.size))⟩ ⟨W.heap.size, heap_alloc_new W _, rfl⟩
    case body =>
      rintro l pre x a' W hl ⟨r, hr⟩ ⟨i1, i2, i3, i4⟩ ⟨Bx, hbx, rfl⟩ hlt
      obtain ⟨y0, yf⟩ := one i1
      obtain ⟨z0, zf⟩ := one i2
      have hcn := cntT_le (recsOf pre) f t
      rw [recsOf_len] at hcn
      have HS := Lib.hid (cntT_snoc (recsOf pre) x.1.r f t)
      have HR := Lib.hid (recsOf_snoc pre x)
      obtain ⟨q, hq⟩ : ∃ q, q = cntT (recsOf pre) f t := ⟨_, rfl⟩
      rw [← hq] at i3 hcn
      have HQ := Lib.hid hq
      clear hq
      obtain ⟨o0, of⟩ := one i3
      obtain ⟨q0, q1, q2, q3, q4, q5, qf⟩ := six hbx
      have I1 := Lib.hid i1
      have I2 := Lib.hid i2
      have I3 := Lib.hid i3
      clear i1 i2 i3 hbx hr
      by_cases hx : f ≤ x.1.r.time
      · have d1 : decide (f ≤ x.1.r.time) = true := by simp [hx]
        by_cases hy : x.1.r.time < t
        · have d2 : decide (x.1.r.time < t) = true := by simp [hy]
          have HE := Lib.hid (show ((q : Int) + 1) = ((cntT (recsOf (pre ++ [x])) f t : Nat) : Int) by rw [HR.out, HS.out, ← HQ.out]; simp [spanB, hx, hy])
          have hgW : w.heap.size ≤ w2.heap.size := by omega
          have hn1 : w.heap.size ≠ w2.heap.size := by omega
          have hn2 : w.heap.size + 1 ≠ w2.heap.size := by omega
          gi_wp2
          refine ⟨keeps_set _ _ _, Kpr.set hgW I3.out (by decide), blk_far I1.out (p := ⟨w2.heap.size, 0, none⟩) hn1 _, blk_far I2.out (p := ⟨w2.heap.size, 0, none⟩) hn2 _, ?_, Lib.hid (i4.out.setCell (p := ⟨w2.heap.size, 0, none⟩) hgW _)⟩
          rw [← HE.out]
          have := blk_put I3.out 0 (.int .i64 ((q : Int) + 1))
          simpa using this
        · have d2 : decide (x.1.r.time < t) = false := by simp; omega
          have HE := Lib.hid (show q = cntT (recsOf (pre ++ [x])) f t by rw [HR.out, HS.out, ← HQ.out]; simp [spanB, hy])
          gi_wp2
          exact ⟨KeepsFrom.refl _ _, Kpr.below i4.out.size (Below.refl _ _), I1.out, I2.out, by rw [← HE.out]; exact I3.out, i4⟩
      · have d1 : decide (f ≤ x.1.r.time) = false := by simp; omega
        have HE := Lib.hid (show q = cntT (recsOf (pre ++ [x])) f t by rw [HR.out, HS.out, ← HQ.out]; simp [spanB, hx])
        gi_wp2
        exact ⟨KeepsFrom.refl _ _, Kpr.below i4.out.size (Below.refl _ _), I1.out, I2.out, by rw [← HE.out]; exact I3.out, i4⟩
    case done =>
      rintro D ys W hD hS ⟨i1, i2, i3, i4⟩ hK
      rw [recsOf_all hS] at i3
      obtain ⟨z0, zf⟩ := one i3
      have HS := Lib.hid hS
      clear hS i1 i2 i3
      gi_wp2
      refine ⟨by simp, .inl ⟨_, _, rfl, run_takeDeferred hK, ?_⟩⟩
      exact ⟨_, results_tmp rfl _ _ _, rfl, i4.out.trans (belowK_b (w := w) (Nat.le_refl _) W D _ _ (by have := bb.size; omega) hK rfl rfl)⟩
    case stop =>
      rintro D c pre W _ _ h _
      exact h.elim
end Go.Proofs.Ytlgcajjoimcdhaa
