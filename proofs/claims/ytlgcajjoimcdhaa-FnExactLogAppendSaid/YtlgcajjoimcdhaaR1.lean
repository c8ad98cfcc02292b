/- TimesFind of the program. -/
import Derived.Test.YtlgcajjoimcdhaaIt
import Derived.Test.YtlgcajjoimcdhaaA2
import Derived.Test.YtlgcajjoimcdhaaB3
namespace Go.Proofs.Ytlgcajjoimcdhaa
set_option linter.unusedVariables false
set_option linter.unusedSimpArgs false
open Go.RowKit Go.Shelf
attribute [local go_sem] Oper.semAt_some

/-- None that came is one of p. -/
def NoneP {L : List Pr} (p : Rec → Bool) (pre : List (PrIn L)) : Prop := ∀ x ∈ pre, p x.1.r = false
theorem find_none {L : List Pr} {ys : List (PrIn L)} (h : ys.map (·.1) = L) {p : Rec → Bool} (h1 : ∀ x ∈ ys, p x.1.r = false) : (L.map (·.r)).find? p = none := by
  rw [List.find?_eq_none]
  intro r hr
  obtain ⟨x, hx, rfl⟩ := List.mem_map.1 hr
  rw [← h] at hx
  obtain ⟨y, hy, rfl⟩ := List.mem_map.1 hx
  rw [h1 y hy]; simp
theorem find_pre {L : List Pr} {ini : List (PrIn L)} {last : PrIn L} (hp : (ini ++ [last]).map (·.1) <+: L) {p : Rec → Bool} (h1 : ∀ x ∈ ini, p x.1.r = false) (h2 : p last.1.r = true) :
    (L.map (·.r)).find? p = some last.1.r := by
  obtain ⟨rest, hr⟩ := hp
  have e : L.map (·.r) = ini.map (fun x => x.1.r) ++ last.1.r :: rest.map (·.r) := by
    conv => lhs; rw [← hr]
    simp
  rw [e, List.find?_append]
  have h0 : (ini.map (fun x => x.1.r)).find? p = none := by
    rw [List.find?_eq_none]
    intro r hr
    obtain ⟨x, hx, rfl⟩ := List.mem_map.1 hr
    rw [h1 x hx]; simp
  rw [h0]
  simp [h2]
theorem ownFrom_hb {β : Type} {n B : Nat} {w : World} (hn : n ≤ w.heap.size) (hB : w.heap.size ≤ B) : OwnFrom B (fun (_ : β) W => Hid (Below n w W)) :=
  fun s X Y row hs hg hr => Lib.hid (ownFrom_below hn (Nat.le_trans hn hB) s X Y row hs.out hg hr)
set_option maxRecDepth 100000 in
set_option maxHeartbeats 4000000 in
theorem TimesFind_any (bs : List Bat) (A : Option Addr) (c : Nat) (F : Nat → Prop) (t : Int) (w : World) (h : Bats w F A c bs) :
    Calls Try.prog 50 #[.slice A bs.length c, .int .i64 t] w fun e w' => e = .returned (.int .i64 (timesFind bs t)) ∧ Below w.heap.size w w' := by
  have hl := h.1
  have hc := h.2.1
  cases hv : logB bs
  · have e1 : timesFind bs t = -1 := by unfold timesFind; rw [hv]; rfl
    have HV := Lib.hid hv
    rw [e1]
    clear hv e1
    go_enter Try.func50, Try.ntmps50
    go_wp2_with fail
    generalize hW : World.alloc _ _ = W
    obtain ⟨hA, hB, b1, hsW⟩ := alloc2 hW
    clear hW
    refine (LogValid_any bs A c _ _ (h.below b1)).mono ?_
    rintro e w2 ⟨rfl, hb2⟩
    rw [HV.out]
    obtain ⟨z0, zf⟩ := one (blk_below hB hb2)
    have HB := Lib.hid (bthen b1 hb2)
    clear hb2 b1 hA hB
    go_wp2
    refine bodyPost_ret (v := .int .i64 (-1)) (by simp [results, Try.results50, go_sem, z0]) rfl ⟨rfl, ?_⟩
    exact HB.out.setCell (p := ⟨w.heap.size + 1, 0, none⟩) (by simp) _
  · have e1 : timesFind bs t = findT (allRecs bs) t := by unfold timesFind; rw [hv]; rfl
    have HV := Lib.hid hv
    rw [e1]
    clear hv e1
    obtain ⟨fB, fR, hL⟩ := Lay.of ((h.bound bnd_bat).mono (F' := fun b => b < w.heap.size) (fun b hb => hb.2))
    refine (callsIn_wide (n := 8)).1 ?_
    refine callsIn_of_wp_marks Try.func50 rfl trivial ?_ rfl
    simp only [Try.ntmps50, List.size_toArray, List.length_cons, List.length_nil, Nat.reduceAdd, Nat.reduceSub, Array.replicate_succ, Array.replicate_zero, List.push_toArray, List.append_toArray, List.nil_append, List.cons_append]
    gi_wp2_with fail
    generalize hW : World.alloc _ _ = W
    obtain ⟨hA, hB, b1, hsW⟩ := alloc2 hW
    clear hW
    refine ⟨trivial, (callsIn_wide.2 (LogValid_any bs A c _ _ (h.below b1))).mono ?_⟩
    rintro e w2 ⟨rfl, hb2⟩
    rw [HV.out]
    have hA2 := blk_below hA hb2
    have hB2 := blk_below hB hb2
    have b2 := bthen b1 hb2
    obtain ⟨y0, yf⟩ := one hA2
    obtain ⟨z0, zf⟩ := one hB2
    clear hb2 b1 hA hB
    gi_wp2_with fail
    refine ⟨trivial, (recordsOf_in Fence.wide _ trivial rfl _ _ _ _).mono ?_⟩
    rintro e w3 ⟨rfl, hw3⟩
    obtain ⟨hC3, b3, hz3⟩ := alloc1 hw3.symm
    have hA3 := blk_below hA2 b3
    have hB3 := blk_below hB2 b3
    have bb := bthen b2 b3
    have hC0 := (one hC3).1
    have hs2 := b2.size
    have hL3 := hL.keep (w' := w3) (fun b hb _ => bb.block b hb)
    clear hw3 y0 yf z0 zf
    gi_wp2_with fail
    refine wpIn_rangeFunc_ownH rfl (by omega) (gf := 83) (lb := #[.pointer (some ⟨w2.heap.size, 0, none⟩)]) rfl trivial (enters_of Try.func83 (by kernel_rfl) rfl)
      (records_stops Fence.wide _ trivial rfl (by omega) w2.heap.size w.heap.size c A bs fB fR hl hc w3 hC0 bb.size hL3) Kpr.trans (Kpr.book bb.size) (Below.refl _ _) (fun _ => rfl)
      (fun pre W => W.heap[w.heap.size]? = some (.cells #[.int .i64 t] 3 (0, 0)) ∧ W.heap[w.heap.size + 1]? = some (.cells #[.int .i64 0] 3 (0, 0)) ∧ NoneP (timeB t) pre ∧ Hid (Below w.heap.size w W))
      (fun c pre W => (c = .ret ∧ ∃ ini last, pre = ini ++ [last] ∧ NoneP (timeB t) ini ∧ timeB t last.1.r = true ∧ W.heap[w.heap.size + 1]? = some (.cells #[.int .i64 last.1.r.off] 3 (0, 0))) ∧ Hid (Below w.heap.size w W))
      (OwnFrom.and (own_blk _ _ _ _) (OwnFrom.and (own_blk _ _ _ _) (OwnFrom.and (ownFrom_pure _ _) (ownFrom_hb (Nat.le_refl _) bb.size))))
      (fun c => OwnFrom.and (fun s X Y row hs hg hr => by
        obtain ⟨e, ini, last, e1, e2, e3, e4⟩ := hs
        exact ⟨e, ini, last, e1, e2, e3, own_blk w3.heap.size _ _ (fun _ : Unit => _) () X Y row e4 hg hr⟩) (ownFrom_hb (Nat.le_refl _) bb.size))
      ⟨hA3, hB3, (fun _ h => by cases h), Lib.hid bb⟩
      (fun x a' W => ∃ Bx, W.heap[Bx]? = some (.cells #[.int .i64 x.1.r.off, .int .i64 x.1.r.time, .bool x.1.r.hk, .slice x.1.K x.1.r.key.length x.1.k, .bool x.1.r.hv, .slice x.1.V x.1.r.val.length x.1.v] 33 (0, 0)) ∧
        a' = { tmps := #[.slice A bs.length c, .int .i64 t, undef, .pointer (some ⟨w.heap.size, 0, none⟩), .pointer (some ⟨w.heap.size + 1, 0, none⟩), undef, .pointer (some ⟨Bx, 0, none⟩), .slice A bs.length c, .bool true, .bool false, .slice A bs.length c,
          .func (.func 83) #[] #[.pointer (some ⟨w2.heap.size, 0, none⟩)], .agg #[.bool x.1.b.packed, .bool x.1.b.mark, .int .i64 x.1.b.prod, .int .i64 x.1.b.epoch, .int .i64 x.1.b.seq, .slice x.1.A x.1.b.recs.length x.1.c], .agg #[.int .i64 x.1.r.off, .int .i64 x.1.r.time, .bool x.1.r.hk, .slice x.1.K x.1.r.key.length x.1.k, .bool x.1.r.hv, .slice x.1.V x.1.r.val.length x.1.v], undef, undef, undef, undef, undef, undef], defers := [] })
      (fun x a' s X Y row hs hg hr => by
        obtain ⟨Bx, h1, h2⟩ := hs
        exact ⟨Bx, own_blk w3.heap.size _ _ (fun _ : Unit => _) () X Y row h1 hg hr, h2⟩) ?assign ?body ?done ?stop
    case assign =>
      rintro l pre x W K ⟨i1, i2, i3, i4⟩ hK
      dsimp only [Pr.encs] at hK ⊢
      gi_wp2
      exact hK _ _ (keeps_below (bal _ _)) (Kpr.below i4.out.size (bal _ _)) ⟨blk_below i1 (bal _ _), blk_below i2 (bal _ _), i3, Lib.hid (i4.out.trans ((bal _ _).mono i4.out.size))⟩ ⟨W.heap.size, heap_alloc_new W _, rfl⟩
    case body =>
      rintro l pre x a' W hl ⟨r, hr⟩ ⟨i1, i2, i3, i4⟩ ⟨Bx, hbx, rfl⟩ hlt
      obtain ⟨y0, yf⟩ := one i1
      obtain ⟨z0, zf⟩ := one i2
      obtain ⟨q0, q1, q2, q3, q4, q5, qf⟩ := six hbx
      by_cases hx : t ≤ x.1.r.time
      · have I2 := Lib.hid i2
        have HX := Lib.hid hx
        clear i1 i2 hbx hr
        gi_wp2
        exact ⟨keeps_set _ _ _, ⟨rfl, pre, x, rfl, i3, by have := HX.out; simp [timeB, this], by have := blk_put I2.out 0 (.int .i64 x.1.r.off); simpa using this⟩, Lib.hid (i4.out.setCell (p := ⟨w.heap.size + 1, 0, none⟩) (by simp) _)⟩
      · have I1 := Lib.hid i1
        have I2 := Lib.hid i2
        have HN : NoneP (timeB t) (pre ++ [x]) := (by
          intro p hp
          rcases List.mem_append.1 hp with hp | hp
          · exact i3 p hp
          · simp at hp; subst hp; simp [timeB]; omega)
        clear i1 i2 hbx hr
        gi_wp2
        exact ⟨KeepsFrom.refl _ _, Kpr.below i4.out.size (Below.refl _ _), I1.out, I2.out, HN, i4⟩
    case done =>
      rintro D ys W hD hS ⟨i1, i2, i3, i4⟩ hK
      obtain ⟨z0, zf⟩ := one i2
      have hfin : findT (allRecs bs) t = -1 := by
        unfold findT
        rw [← prs_recs bs fB fR, find_none hS i3]
        rfl
      have HF := Lib.hid hfin
      have HS := Lib.hid hS
      have I2 := Lib.hid i2
      clear hfin hS i1 i2
      gi_wp2
      have hK' := (KeepsOthers.setCell W ⟨w.heap.size + 1, 0, none⟩ (.int .i64 (-1))).same D _ hK rfl
      refine ⟨by simp, .inl ⟨_, _, rfl, run_takeDeferred hK', ?_⟩⟩
      have hc5 := cell_kept (World.cell?_setCell_same' W ⟨w.heap.size + 1, 0, none⟩ (.int .i64 (-1)) (by rw [z0]; rfl)) (grownBy_putObj' _ D (.deferred none)) (fun r e => by cases e; exact ⟨_, hK', rfl⟩)
      refine ⟨.int .i64 (-1), ?_, ?_, (i4.out.setCell (p := ⟨w.heap.size + 1, 0, none⟩) (by simp) _).trans (belowK_b (w := w) (Nat.le_refl _) _ D _ _ (by have := bb.size; omega) hK' rfl rfl)⟩
      · simp [results, Try.f50, go_sem, hc5]
      · rw [HF.out]
    case stop =>
      rintro D c pre W hD hSp ⟨⟨rfl, ini, last, rfl, e2, e3, e4⟩, i4⟩ hK
      have hfin : findT (allRecs bs) t = last.1.r.off := by
        unfold findT
        rw [← prs_recs bs fB fR, find_pre hSp e2 e3]
        rfl
      have HF := Lib.hid hfin
      have z0 := (one e4).1
      clear hfin hSp e2 e3 e4
      gi_wp2
      refine ⟨by simp, .inl ⟨_, _, rfl, run_takeDeferred hK, ?_⟩⟩
      have hc5 := cell_kept z0 (grownBy_putObj' _ D (.deferred none)) (fun r e => by cases e; exact ⟨_, hK, rfl⟩)
      refine ⟨.int .i64 last.1.r.off, ?_, by rw [HF.out], i4.out.trans (belowK_b (w := w) (Nat.le_refl _) W D _ _ (by have := bb.size; omega) hK rfl rfl)⟩
      simp [results, Try.f50, go_sem, hc5]
end Go.Proofs.Ytlgcajjoimcdhaa
