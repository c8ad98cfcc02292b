/- ReadOne of the program. -/
import Derived.Test.YtlgcajjoimcdhaaR2
import Derived.Test.YtlgcajjoimcdhaaC1
import Derived.Test.YtlgcajjoimcdhaaPr
namespace Go.Proofs.Ytlgcajjoimcdhaa
set_option linter.unusedVariables false
set_option linter.unusedSimpArgs false
open Go.RowKit Go.Shelf
attribute [local go_sem] Oper.semAt_some

theorem recB_small {r : Rec} (h : recB r = true) : r.key.length ≤ 12 ∧ r.val.length ≤ 12 := by
  simp only [recB, Bool.and_eq_true] at h
  have hp : ∀ (has : Bool) (l : List Int), partB has l = true → l.length ≤ 12 := by
    intro has l hl
    unfold partB at hl
    cases has
    · simp at hl; simp [hl]
    · simp at hl; exact hl.1
  exact ⟨hp _ _ h.1.2, hp _ _ h.2⟩
theorem Lay.ints {w : World} {F : Nat → Prop} {A : Option Addr} {bs : List Bat} {fB : Nat → Option Addr × Nat} {fR : Nat × Nat → Pl3} (h : Lay w F A bs fB fR) {x : Pr} (hx : x ∈ prs bs fB fR) :
    Ints w F x.K x.k x.r.key ∧ Ints w F x.V x.v x.r.val := by
  obtain ⟨k, j, hk, hj, e⟩ := mem_prs bs fB fR hx
  rw [prAt_eq bs fB fR hk hj] at e
  subst e
  obtain ⟨_, _, _, h1, h2, _⟩ := h.rec_ k hk j hj
  exact ⟨h1, h2⟩
theorem prs_rec {bs : List Bat} {fB : Nat → Option Addr × Nat} {fR : Nat × Nat → Pl3} {x : Pr} (hx : x ∈ prs bs fB fR) : x.r ∈ allRecs bs := by
  rw [← prs_recs bs fB fR]
  exact List.mem_map_of_mem hx
theorem AppP.keepOwn {α : Type} {d : Kind α} {e : TypeId} {w w' : World} {P : Nat → Prop} {v : Value} {xs : List α} (hfl : d.Flat) (h : AppP d e w P v xs) (hm : ∀ k, v.ownBlock = some k → w'.heap[k]? = w.heap[k]?) : AppP d e w' P v xs := by
  obtain ⟨F, inner, ho, hP, hF, hE⟩ := h
  refine ⟨fun _ => False, inner, own_moved ho hm, hP, fun b hb => hb.elim, fun j x hj => ?_⟩
  obtain ⟨cs, hK, hc⟩ := hE j x hj
  exact ⟨cs, d.keep (w := w) (w' := w') (F := fun _ => False) (fun b hb _ => hb.elim) (hfl _ _ _ _ _ hK), hc⟩
/-- The block of an own row holds cells. -/
theorem AppP.cells {α : Type} {d : Kind α} {e : TypeId} {w : World} {P : Nat → Prop} {v : Value} {xs : List α} (h : AppP d e w P v xs) {k : Nat} (hk : v.ownBlock = some k) : ∃ cs, w.heap[k]? = some (.cells cs e (0, 0)) := by
  obtain ⟨F, inner, ho, _, _, _⟩ := h
  rcases ho.2 with ⟨rfl, _⟩ | ⟨g, cap, cur, rfl, _, hh, _⟩
  · simp [Value.ownBlock] at hk
  · simp [Value.ownBlock] at hk
    subst hk
    exact ⟨cur, hh⟩
theorem App.grownFrom {e : TypeId} {base B : Nat} {X Y : World} {row : Option Nat} {v : Value} {xs : List Int} (h : App (Kind.int .i64) e X base v xs) (hg : X.grownBy Y row) (hr : ∀ r, row = some r → B ≤ r ∧ ∃ o : Obj, X.heap[r]? = some o ∧ o.isCells = false) : App (Kind.int .i64) e Y base v xs :=
  AppP.keepOwn (flat_int _) h (fun k hk => by
    obtain ⟨cs, hc⟩ := AppP.cells h hk
    exact grownBy_keeps_cells hg (fun r e => (hr r e).2) hc rfl)
theorem Copied.own {w : World} {r : Rec} {vk vv : Value} {B : Nat} (hB : w.heap.size ≤ B) {X Y : World} {row : Option Nat} (h : Copied w X r vk vv) (hg : X.grownBy Y row) (hr : ∀ r, row = some r → B ≤ r ∧ ∃ o : Obj, X.heap[r]? = some o ∧ o.isCells = false) : Copied w Y r vk vv :=
  ⟨App.grownFrom h.key hg hr, App.grownFrom h.val hg hr, h.apart, ownFrom_below (Nat.le_refl _) hB () X Y row h.below hg hr⟩
theorem Copied.from {w w1 w' : World} {r : Rec} {vk vv : Value} (h : Copied w1 w' r vk vv) (hb : Below w.heap.size w w1) : Copied w w' r vk vv :=
  ⟨App.from h.key hb.size, App.from h.val hb.size, h.apart, bthen hb h.below⟩
theorem Copied.chg {w a b : World} {r : Rec} {vk vv : Value} {g : Nat} (h : Copied w a r vk vv) (hc : Chg (fun i => i = g) a b) (hg : w.heap.size ≤ g) (hk : vk.ownBlock ≠ some g) (hv : vv.ownBlock ≠ some g) : Copied w b r vk vv :=
  ⟨AppP.keepOwn (flat_int _) h.key (fun k hk' => hc.block k (AppP.own_lt h.key hk') (fun (e : k = g) => hk (e ▸ hk'))), AppP.keepOwn (flat_int _) h.val (fun k hk' => hc.block k (AppP.own_lt h.val hk') (fun (e : k = g) => hv (e ▸ hk'))), h.apart, h.below.trans (hc.below h.below.size (fun i (hi : i = g) => by omega))⟩

theorem keeps_sets {B : Nat} (g : Nat) : ∀ (vs : List Value) (o : Nat) (w : World), KeepsFrom B w (w.setCells g o vs)
  | [], _, w => KeepsFrom.refl _ _
  | v :: r, o, w => (keeps_set w ⟨g, o, none⟩ v).trans (keeps_sets g r (o + 1) _)
def recOr (o : Option Rec) : Rec := o.getD Rec.zero
abbrev Rec.vals (r : Rec) (vk vv : Value) : Array Value := #[.int .i64 r.off, .int .i64 r.time, .bool r.hk, vk, .bool r.hv, vv]
theorem Copied.zero {w w' : World} (h : Below w.heap.size w w') : Copied w w' Rec.zero (.slice none 0 0) (.slice none 0 0) :=
  ⟨AppP.nil _ _ _ _, AppP.nil _ _ _ _, fun _ h => by simp [Value.ownBlock] at h, h⟩

set_option maxRecDepth 100000 in
set_option maxHeartbeats 4000000 in
theorem ReadOne_any (bs : List Bat) (A : Option Addr) (c : Nat) (F : Nat → Prop) (o : Int) (w : World) (h : Bats w F A c bs) :
    Calls Try.prog 28 #[.slice A bs.length c, .int .i64 o] w fun e w' => ∃ vk vv, e = .returned (.tuple #[.agg ((recOr (readOne bs o)).vals vk vv), .bool (readOne bs o).isSome]) ∧ Copied w w' (recOr (readOne bs o)) vk vv := by
  have hl := h.1
  have hc := h.2.1
  cases hv : logB bs
  · have e1 : readOne bs o = none := by unfold readOne; rw [hv]; rfl
    have HV := Lib.hid hv
    rw [e1]
    clear hv e1
    go_enter Try.func28, Try.ntmps28
    go_wp2_with fail
    generalize hW : World.alloc _ _ = W
    obtain ⟨hA, hB, hC, b1, hsW⟩ := alloc3 hW
    clear hW
    refine (LogValid_any bs A c _ _ (h.below b1)).mono ?_
    rintro e w2 ⟨rfl, hb2⟩
    rw [HV.out]
    obtain ⟨z0, z1, z2, z3, z4, z5, zf⟩ := six (blk_below hB hb2)
    obtain ⟨y0, yf⟩ := one (blk_below hC hb2)
    have HB := Lib.hid (bthen b1 hb2)
    clear hb2 b1 hA hB hC
    go_wp2
    refine bodyPost_ret (v := .tuple #[.agg #[.int .i64 0, .int .i64 0, .bool false, .slice none 0 0, .bool false, .slice none 0 0], .bool false]) (by simp [results, Try.results28, go_sem, z0, z1, z2, z3, z4, z5, y0]) rfl ⟨_, _, rfl, Copied.zero ?_⟩
    have cZ := Chg.setCells (fun b => b = w.heap.size + 1) (g := w.heap.size + 1) rfl [.int .i64 0, .int .i64 0, .bool false, .slice none 0 0, .bool false, .slice none 0 0] 0 w2
    exact (HB.out.trans (cZ.below HB.out.size (fun i (hi : i = _) => by omega))).setCell (p := ⟨w.heap.size + 1 + 1, 0, none⟩) (by simp; omega) _
  · have e1 : readOne bs o = (allRecs bs).find? (offB o) := by unfold readOne; rw [hv]; rfl
    have HSM := Lib.hid (fun r (hr : r ∈ allRecs bs) => recB_small (allRecs_recB hv r hr))
    have HV := Lib.hid hv
    rw [e1]
    clear hv e1
    obtain ⟨fB, fR, hL⟩ := Lay.of ((h.bound bnd_bat).mono (F' := fun b => b < w.heap.size) (fun b hb => hb.2))
    have HLay := Lib.hid hL
    refine (callsIn_wide (n := 8)).1 ?_
    refine callsIn_of_wp_marks Try.func28 rfl trivial ?_ rfl
    simp only [Try.ntmps28, List.size_toArray, List.length_cons, List.length_nil, Nat.reduceAdd, Nat.reduceSub, Array.replicate_succ, Array.replicate_zero, List.push_toArray, List.append_toArray, List.nil_append, List.cons_append]
    gi_wp2_with fail
    generalize hW : World.alloc _ _ = W
    obtain ⟨hA, hB, hC, b1, hsW⟩ := alloc3 hW
    clear hW
    refine ⟨trivial, (callsIn_wide.2 (LogValid_any bs A c _ _ (h.below b1))).mono ?_⟩
    rintro e w2 ⟨rfl, hb2⟩
    rw [HV.out]
    have hA2 := blk_below hA hb2
    have hB2 := blk_below hB hb2
    have hC2 := blk_below hC hb2
    have b2 := bthen b1 hb2
    have hs2 : w.heap.size + 1 + 1 < w2.heap.size := by have := hb2.size; omega
    clear hb2 b1 hA hB hC hsW
    gi_wp2_with fail
    refine ⟨trivial, (recordsOf_in Fence.wide _ trivial rfl _ _ _ _).mono ?_⟩
    rintro e w3 ⟨rfl, hw3⟩
    obtain ⟨hD3, b3, hz3⟩ := alloc1 hw3.symm
    have hA3 := blk_below hA2 b3
    have hB3 := blk_below hB2 b3
    have hC3 := blk_below hC2 b3
    have bb := bthen b2 b3
    have hD0 := (one hD3).1
    have hL3 := hL.keep (w' := w3) (fun b hb _ => bb.block b hb)
    clear hw3
    gi_wp2_with fail
    refine wpIn_rangeFunc_ownH rfl (by omega) (gf := 83) (lb := #[.pointer (some ⟨w2.heap.size, 0, none⟩)]) rfl trivial (enters_of Try.func83 (by kernel_rfl) rfl)
      (records_stops Fence.wide _ trivial rfl (by omega) w2.heap.size w.heap.size c A bs fB fR hl hc w3 hD0 bb.size hL3) Kpr.trans (Kpr.book bb.size) (Below.refl _ _) (fun _ => rfl)
      (fun pre W => W.heap[w.heap.size]? = some (.cells #[.int .i64 o] 3 (0, 0)) ∧ W.heap[w.heap.size + 1]? = some (.cells #[.int .i64 0, .int .i64 0, .bool false, .slice none 0 0, .bool false, .slice none 0 0] 33 (0, 0)) ∧
        W.heap[w.heap.size + 1 + 1]? = some (.cells #[.bool false] 4 (0, 0)) ∧ NoneP (offB o) pre ∧ Hid (Below w.heap.size w W))
      (fun c pre W => c = .ret ∧ ∃ ini last vk vv, pre = ini ++ [last] ∧ NoneP (offB o) ini ∧ offB o last.1.r = true ∧ W.heap[w.heap.size + 1]? = some (.cells (last.1.r.vals vk vv) 33 (0, 0)) ∧
        W.heap[w.heap.size + 1 + 1]? = some (.cells #[.bool true] 4 (0, 0)) ∧ Copied w W last.1.r vk vv)
      (OwnFrom.and (own_blk _ _ _ _) (OwnFrom.and (own_blk _ _ _ _) (OwnFrom.and (own_blk _ _ _ _) (OwnFrom.and (ownFrom_pure _ _) (ownFrom_hb (Nat.le_refl _) bb.size)))))
      (fun c s X Y row hs hg hr => by
        obtain ⟨e, ini, last, vk, vv, e1, e2, e3, e4, e5, e6⟩ := hs
        exact ⟨e, ini, last, vk, vv, e1, e2, e3, own_blk w3.heap.size _ _ (fun _ : Unit => _) () X Y row e4 hg hr, own_blk w3.heap.size _ _ (fun _ : Unit => _) () X Y row e5 hg hr, e6.own bb.size hg hr⟩)
      ⟨hA3, hB3, hC3, (fun _ h => by cases h), Lib.hid bb⟩
      (fun x a' W => ∃ Bx, W.heap[Bx]? = some (.cells #[.int .i64 x.1.r.off, .int .i64 x.1.r.time, .bool x.1.r.hk, .slice x.1.K x.1.r.key.length x.1.k, .bool x.1.r.hv, .slice x.1.V x.1.r.val.length x.1.v] 33 (0, 0)) ∧
        a' = { tmps := #[.slice A bs.length c, .int .i64 o, undef, .pointer (some ⟨w.heap.size, 0, none⟩), .pointer (some ⟨w.heap.size + 1, 0, none⟩), .pointer (some ⟨w.heap.size + 1 + 1, 0, none⟩), undef, .pointer (some ⟨Bx, 0, none⟩), .slice A bs.length c, .bool true, .bool false, undef, .slice A bs.length c,
          .func (.func 83) #[] #[.pointer (some ⟨w2.heap.size, 0, none⟩)], .agg #[.bool x.1.b.packed, .bool x.1.b.mark, .int .i64 x.1.b.prod, .int .i64 x.1.b.epoch, .int .i64 x.1.b.seq, .slice x.1.A x.1.b.recs.length x.1.c], .agg #[.int .i64 x.1.r.off, .int .i64 x.1.r.time, .bool x.1.r.hk, .slice x.1.K x.1.r.key.length x.1.k, .bool x.1.r.hv, .slice x.1.V x.1.r.val.length x.1.v], undef, undef, undef, undef, undef, undef, undef], defers := [] })
      (fun x a' s X Y row hs hg hr => by
        obtain ⟨Bx, h1, h2⟩ := hs
        exact ⟨Bx, own_blk w3.heap.size _ _ (fun _ : Unit => _) () X Y row h1 hg hr, h2⟩) ?assign ?body ?done ?stop
    case assign =>
      rintro l pre x W K ⟨i1, i2, i3, i4, i5⟩ hK
      dsimp only [Pr.encs] at hK ⊢
      gi_wp2
      exact hK _ _ (keeps_below (bal _ _)) (Kpr.below i5.out.size (bal _ _)) ⟨blk_below i1 (bal _ _), blk_below i2 (bal _ _), blk_below i3 (bal _ _), i4, Lib.hid (i5.out.trans ((bal _ _).mono i5.out.size))⟩ ⟨W.heap.size, heap_alloc_new W _, rfl⟩
    case body =>
      rintro l pre x a' W hlW ⟨r, hr⟩ ⟨i1, i2, i3, i4, i5⟩ ⟨Bx, hbx, rfl⟩ hlt
      obtain ⟨y0, yf⟩ := one i1
      obtain ⟨q0, q1, q2, q3, q4, q5, qf⟩ := six hbx
      by_cases hx : x.1.r.off = o
      · have hx' : (x.1.r.off == o) = true := by simpa using hx
        have hxo : Hid (offB o x.1.r = true) := Lib.hid (by unfold offB; exact hx')
        have hLW := HLay.out.keep (w' := W) (fun b hb _ => i5.out.block b hb)
        obtain ⟨hk1, hk2⟩ := hLW.ints x.2
        have hsm := HSM.out _ (prs_rec x.2)
        have I1 := Lib.hid i1
        have I2 := Lib.hid i2
        have I3 := Lib.hid i3
        have hn1 : 1 ≤ 8 - 1 - 1 := by omega
        have HLW := Lib.hid hLW
        clear i1 i2 i3 hbx hr hLW hx
        have hW2 : w.heap.size + 1 + 1 < W.heap.size := (Array.getElem?_eq_some_iff.1 I3.out).1
        gi_wp2_with fail
        refine ⟨trivial, (CallsIn.inRound l (callsIn_wide.2 (copyOf_any x.1.r x.1.K x.1.V x.1.k x.1.v _ _ hk1 hk2 (by omega) (by omega)))).mono ?_⟩
        rintro e w4 ⟨vk, vv, rfl, hCp⟩
        obtain ⟨Ak, ck, rfl, _⟩ := AppP.row hCp.key
        obtain ⟨Av, cv, rfl, _⟩ := AppP.row hCp.val
        have j2 := blk_below I2.out hCp.below
        have j3 := blk_below I3.out hCp.below
        obtain ⟨z0, z1, z2, z3, z4, z5, zf⟩ := six j2
        obtain ⟨t0, tf⟩ := one j3
        obtain ⟨Z, hZ⟩ : ∃ Z, Z = w4.setCells (w.heap.size + 1) 0 [.int .i64 x.1.r.off, .int .i64 x.1.r.time, .bool x.1.r.hk, .slice Ak x.1.r.key.length ck, .bool x.1.r.hv, .slice Av x.1.r.val.length cv] := ⟨_, rfl⟩
        have cZ : Chg (fun i => i = w.heap.size + 1) w4 Z := by rw [hZ]; exact Chg.setCells (fun i => i = w.heap.size + 1) rfl _ 0 w4
        have bZ : Z.heap[w.heap.size + 1]? = some (.cells (x.1.r.vals (.slice Ak x.1.r.key.length ck) (.slice Av x.1.r.val.length cv)) 33 (0, 0)) := by
          rw [hZ]
          have := blk_put (blk_put (blk_put (blk_put (blk_put (blk_put j2 0 (.int .i64 x.1.r.off)) 1 (.int .i64 x.1.r.time)) 2 (.bool x.1.r.hk)) 3 (.slice Ak x.1.r.key.length ck)) 4 (.bool x.1.r.hv)) 5 (.slice Av x.1.r.val.length cv)
          simpa [World.setCells] using this
        have kZ : KeepsFrom w3.heap.size w4 Z := by rw [hZ]; exact keeps_sets _ _ _ _
        have bZ3 : Z.heap[w.heap.size + 1 + 1]? = some (.cells #[.bool false] 4 (0, 0)) := cZ.blk j3 (by omega)
        have eZ : Z = (((((w4.setCell ⟨w.heap.size + 1, 0, none⟩ (.int .i64 x.1.r.off)).setCell ⟨w.heap.size + 1, 1, none⟩ (.int .i64 x.1.r.time)).setCell ⟨w.heap.size + 1, 2, none⟩ (.bool x.1.r.hk)).setCell ⟨w.heap.size + 1, 3, none⟩ (.slice Ak x.1.r.key.length ck)).setCell ⟨w.heap.size + 1, 4, none⟩ (.bool x.1.r.hv)).setCell ⟨w.heap.size + 1, 5, none⟩ (.slice Av x.1.r.val.length cv) := hZ
        have hgk := own_ge hCp.key
        have hgv := own_ge hCp.val
        have CP := Lib.hid ((((hCp.from i5.out).chg cZ (by omega) (fun e => by have := hgk _ e; omega) (fun e => by have := hgv _ e; omega))).chg (Chg.set (fun i => i = w.heap.size + 1 + 1) Z (p := ⟨w.heap.size + 1 + 1, 0, none⟩) rfl (.bool true)) (by omega) (fun e => by have := hgk _ e; omega) (fun e => by have := hgv _ e; omega))
        have KZ := Lib.hid ((keeps_below hCp.below).trans kZ)
        have EZ := Lib.hid eZ
        have BZ := Lib.hid bZ
        have BZ3 := Lib.hid bZ3
        clear hZ cZ bZ kZ bZ3 eZ hgk hgv hCp j2 j3
        gi_wp2
        rw [← EZ.out]
        refine ⟨KZ.out.trans (keeps_set _ _ _), rfl, pre, x, _, _, rfl, i4, hxo.out, blk_far BZ.out (p := ⟨w.heap.size + 1 + 1, 0, none⟩) (by simp) _, ?_, CP.out⟩
        have := blk_put BZ3.out 0 (.bool true)
        simpa using this
      · have hx' : (x.1.r.off == o) = false := by simpa using hx
        have I1 := Lib.hid i1
        have I2 := Lib.hid i2
        have I3 := Lib.hid i3
        have HN : NoneP (offB o) (pre ++ [x]) := by
          intro p hp
          rcases List.mem_append.1 hp with hp | hp
          · exact i4 p hp
          · simp at hp; subst hp; unfold offB; exact hx'
        clear i1 i2 i3 hbx hr
        gi_wp2
        exact ⟨KeepsFrom.refl _ _, Kpr.below i5.out.size (Below.refl _ _), I1.out, I2.out, I3.out, HN, i5⟩
    case done =>
      rintro D ys W hD hS ⟨i1, i2, i3, i4, i5⟩ hK
      obtain ⟨z0, z1, z2, z3, z4, z5, zf⟩ := six i2
      obtain ⟨t0, tf⟩ := one i3
      have hfin : (allRecs bs).find? (offB o) = none := by rw [← prs_recs bs fB fR, find_none hS i4]
      have HF := Lib.hid hfin
      obtain ⟨Z, hZ⟩ : ∃ Z, Z = W.setCells (w.heap.size + 1) 0 [.int .i64 0, .int .i64 0, .bool false, .slice none 0 0, .bool false, .slice none 0 0] := ⟨_, rfl⟩
      have cZ : Chg (fun i => i = w.heap.size + 1) W Z := by rw [hZ]; exact Chg.setCells (fun i => i = w.heap.size + 1) rfl _ 0 W
      have bZ : Z.heap[w.heap.size + 1]? = some (.cells #[.int .i64 0, .int .i64 0, .bool false, .slice none 0 0, .bool false, .slice none 0 0] 33 (0, 0)) := by
        rw [hZ]
        have := blk_put (blk_put (blk_put (blk_put (blk_put (blk_put i2 0 (.int .i64 0)) 1 (.int .i64 0)) 2 (.bool false)) 3 (.slice none 0 0)) 4 (.bool false)) 5 (.slice none 0 0)
        simpa [World.setCells] using this
      have kZ : KeepsFrom 0 W Z := by rw [hZ]; exact keeps_sets _ _ _ _
      have bZ3 : Z.heap[w.heap.size + 1 + 1]? = some (.cells #[.bool false] 4 (0, 0)) := cZ.blk i3 (by omega)
      have eZ : Z = (((((W.setCell ⟨w.heap.size + 1, 0, none⟩ (.int .i64 0)).setCell ⟨w.heap.size + 1, 1, none⟩ (.int .i64 0)).setCell ⟨w.heap.size + 1, 2, none⟩ (.bool false)).setCell ⟨w.heap.size + 1, 3, none⟩ (.slice none 0 0)).setCell ⟨w.heap.size + 1, 4, none⟩ (.bool false)).setCell ⟨w.heap.size + 1, 5, none⟩ (.slice none 0 0) := hZ
      have bV := i5.out.trans (cZ.below i5.out.size (fun i (hi : i = _) => by omega))
      have EZ := Lib.hid eZ
      have HS := Lib.hid hS
      clear hfin hS i1 i2 hZ cZ eZ
      gi_wp2
      rw [← EZ.out]
      have bY := bV.setCell (p := ⟨w.heap.size + 1 + 1, 0, none⟩) (by simp; omega) (.bool false)
      have bY2 := blk_far bZ (p := ⟨w.heap.size + 1 + 1, 0, none⟩) (by simp) (.bool false)
      have bY3 : (Z.setCell ⟨w.heap.size + 1 + 1, 0, none⟩ (.bool false)).heap[w.heap.size + 1 + 1]? = some (.cells #[.bool false] 4 (0, 0)) := by
        have := blk_put bZ3 0 (.bool false)
        simpa using this
      have hK' := (kZ.trans (keeps_set Z ⟨w.heap.size + 1 + 1, 0, none⟩ (.bool false))).same D _ (Nat.zero_le _) hK rfl
      have hrow : ∀ r, some D = some r → ∃ o : Obj, (Z.setCell ⟨w.heap.size + 1 + 1, 0, none⟩ (.bool false)).heap[r]? = some o ∧ o.isCells = false := fun r e => by cases e; exact ⟨_, hK', rfl⟩
      obtain ⟨c0, c1, c2, c3, c4, c5, _⟩ := six ((grownBy_keeps_cells (grownBy_putObj' _ D (.deferred none)) hrow bY2 rfl).trans bY2)
      obtain ⟨d0, _⟩ := one ((grownBy_keeps_cells (grownBy_putObj' _ D (.deferred none)) hrow bY3 rfl).trans bY3)
      refine ⟨by simp, .inl ⟨_, _, rfl, run_takeDeferred hK', ?_⟩⟩
      refine ⟨.tuple #[.agg #[.int .i64 0, .int .i64 0, .bool false, .slice none 0 0, .bool false, .slice none 0 0], .bool false], ?_, .slice none 0 0, .slice none 0 0, ?_, ?_⟩
      · simp [results, Try.f28, go_sem, c0, c1, c2, c3, c4, c5, d0]
      · rw [HF.out]; rfl
      · rw [HF.out]; exact Copied.zero (bY.trans (belowK_b (w := w) (Nat.le_refl _) _ D _ _ (by have := bb.size; omega) hK' rfl rfl))
    case stop =>
      rintro D c pre W hD hSp ⟨rfl, ini, last, vk, vv, rfl, e2, e3, e4, e5, e6⟩ hK
      have hfin : (allRecs bs).find? (offB o) = some last.1.r := by rw [← prs_recs bs fB fR, find_pre hSp e2 e3]
      have HF := Lib.hid hfin
      have hrow : ∀ r, some D = some r → w3.heap.size ≤ r ∧ ∃ o : Obj, W.heap[r]? = some o ∧ o.isCells = false := fun r e => by cases e; exact ⟨hD, _, hK, rfl⟩
      have hrow' : ∀ r, some D = some r → ∃ o : Obj, W.heap[r]? = some o ∧ o.isCells = false := fun r e => (hrow r e).2
      obtain ⟨c0, c1, c2, c3, c4, c5, _⟩ := six ((grownBy_keeps_cells (grownBy_putObj' _ D (.deferred none)) hrow' e4 rfl).trans e4)
      obtain ⟨d0, _⟩ := one ((grownBy_keeps_cells (grownBy_putObj' _ D (.deferred none)) hrow' e5 rfl).trans e5)
      have E6 := Lib.hid (e6.own bb.size (grownBy_putObj' _ D (.deferred none)) hrow)
      clear hfin hSp e2 e3 e4 e5 e6
      gi_wp2
      refine ⟨by simp, .inl ⟨_, _, rfl, run_takeDeferred hK, ?_⟩⟩
      refine ⟨.tuple #[.agg #[.int .i64 last.1.r.off, .int .i64 last.1.r.time, .bool last.1.r.hk, vk, .bool last.1.r.hv, vv], .bool true], ?_, vk, vv, ?_, ?_⟩
      · simp [results, Try.f28, go_sem, c0, c1, c2, c3, c4, c5, d0]
      · rw [HF.out]; rfl
      · rw [HF.out]; exact E6.out
end Go.Proofs.Ytlgcajjoimcdhaa
