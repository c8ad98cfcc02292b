/- The tree of entries. -/
import Derived.Test.YtomcjjehfocbmaaI2
import Derived.Test.YtomcjjehfocbmaaGa
import Derived.Test.YtomcjjehfocbmaaPn
namespace Go.Proofs.Ytomcjjehfocbmaa
set_option linter.unusedVariables false
set_option linter.unusedSimpArgs false
open Go.RowKit

/-- p leads to a tree whose entries, in order, are es. -/
inductive Tree (w : World) : Option Addr → List Ent → Prop
  | leaf : Tree w none []
  | node (g : Nat) (l r : Option Addr) (a b : List Ent) (m : Ent)
      (hg : w.heap[g]? = some (.cells #[.int .i64 m.off, .int .i64 m.place, .pointer l, .pointer r] 123 (0, 0)))
      (hl : Tree w l a) (hr : Tree w r b) : Tree w (some ⟨g, 0, none⟩) (a ++ m :: b)
theorem Tree.lower {w w' : World} {p : Option Addr} {es : List Ent} (h : Tree w p es) (hb : Below w.heap.size w w') : Tree w' p es := by
  induction h with
  | leaf => exact .leaf
  | node g l r a b m hg _ _ ih1 ih2 => exact .node g l r a b m (blk_below hg hb) ih1 ih2
theorem four {w : World} {g : Nat} {t : TypeId} {v0 v1 v2 v3 : Value} (h : w.heap[g]? = some (.cells #[v0, v1, v2, v3] t (0, 0))) :
    w.cell? ⟨g, 0, none⟩ = some v0 ∧ w.cell? ⟨g, 1, none⟩ = some v1 ∧ w.cell? ⟨g, 2, none⟩ = some v2 ∧ w.cell? ⟨g, 3, none⟩ = some v3 ∧ ∀ i, w.frozen? ⟨g, i, none⟩ = false := by
  refine ⟨?_, ?_, ?_, ?_, fun i => ?_⟩ <;> simp [World.cell?, World.frozen?, h]

set_option maxHeartbeats 2000000 in
theorem treeOf_any (n : Nat) : ∀ (es : List Ent) (A : Option Addr) (c : Nat) (F : Nat → Prop) (w : World), es.length ≤ n → Ents w F A c es →
    Calls Try.prog 67 #[.slice A es.length c] w fun e w' => ∃ p, e = .returned (.pointer p) ∧ Tree w' p es ∧ Below w.heap.size w w' := by
  induction n with
  | zero =>
    intro es A c F w hn h
    have h0 : es.length = 0 := by omega
    have he := List.eq_nil_of_length_eq_zero h0
    subst he
    go_enter Try.func67, Try.ntmps67
    go_wp2_with fail
    go_ret
    exact ⟨none, rfl, .leaf, Below.refl _ _⟩
  | succ n ih =>
    intro es A c F w hn h
    by_cases h0 : es.length = 0
    · have he := List.eq_nil_of_length_eq_zero h0
      subst he
      go_enter Try.func67, Try.ntmps67
      go_wp2_with fail
      go_ret
      exact ⟨none, rfl, .leaf, Below.refl _ _⟩
    · have hpos : 0 < es.length := by omega
      have hl := h.1
      have hc := h.2.1
      obtain ⟨k, hk⟩ : ∃ k, k = es.length / 2 := ⟨_, rfl⟩
      have hkl : k < es.length := by omega
      have hki : (es.length : Int) / 2 = (k : Int) := by rw [hk]; rfl
      have hz : ((es.length : Int) == 0) = false := by simpa using h0
      obtain ⟨ad, rfl, _, q0, q1⟩ := h.ent_at hkl
      have hR1 := h.take k
      have hR2 := h.cut (k + 1) (by omega)
      have HIH := Lib.hid ih
      have HK := Lib.hid hk
      clear ih hk
      go_enter Try.func67, Try.ntmps67
      go_wp2_with fail
      have l1 : (es.take k).length = k := by simp; omega
      have l2 : (es.drop (k + 1)).length = es.length - (k + 1) := by simp
      have C1 : Hid (∀ W, Below w.heap.size w W → Calls Try.prog 67 #[.slice (some ad) k c] W fun e w' => ∃ p, e = .returned (.pointer p) ∧ Tree w' p (es.take k) ∧ Below W.heap.size W w') := Lib.hid (fun W hW => by
        have := HIH.out (es.take k) (some ad) c F W (by omega) (hR1.below hW)
        rwa [l1] at this)
      have C2 : Hid (∀ W, Below w.heap.size w W → Calls Try.prog 67 #[.slice (cutAddr (some ad) (k + 1) c 2) (es.length - (k + 1)) (c - (k + 1))] W fun e w' => ∃ p, e = .returned (.pointer p) ∧ Tree w' p (es.drop (k + 1)) ∧ Below W.heap.size W w') := Lib.hid (fun W hW => by
        have := HIH.out (es.drop (k + 1)) (cutAddr (some ad) (k + 1) c 2) (c - (k + 1)) F W (by omega) (hR2.below hW)
        rwa [l2] at this)
      have s1 : ∀ W : World, (Instr.slice 31 (.slice (some ad) es.length c) (some (.int .i64 (IntKind.i64.wrap ((k : Int) + 1)))) none none).run Try.prog W = .ok (.slice (cutAddr (some ad) (k + 1) c 2) (es.length - (k + 1)) (c - (k + 1))) W :=
        run_cut Try.underlying31 info_ent _ _ _ _ _ (by rw [IntWalk.i64_in _ (by omega)]; rfl) (by omega)
      have k3 : k ≤ c := by omega
      have k4 : (0 : Int) ≤ (k : Int) := by omega
      have k5 : (k : Int) < (es.length : Int) := by omega
      have k6 : (k : Int) ≤ (c : Int) := by omega
      clear l1 l2 hki hR1 hR2 h
      go_region_held3 (fun W => W.cell? (ad.add (k * 2)) = some (.int .i64 es[k].off) ∧ W.cell? ⟨(ad.add (k * 2)).block, (ad.add (k * 2)).off + 1, none⟩ = some (.int .i64 es[k].place))
        (first | (exact ⟨below_cell HB2 q0, below_cell HB2 q1⟩) | (exact ⟨below_cell HB1 q0, below_cell HB1 q1⟩) | go_keep)
        (first
          | (go_at_call 67; (with_reducible refine (C1.out _ (by first | exact Below.refl _ _ | exact (Below.refl _ _).drew)).mono ?_); rintro e w1 ⟨p1, rfl, t1, hbx1⟩; have HB1 : Below w.heap.size w w1 := by first | exact hbx1 | exact bthen (Below.refl _ _).drew hbx1)
          | (go_at_call 67; (with_reducible refine (C2.out _ (by first | exact HB1 | exact HB1.drew)).mono ?_); rintro e w2 ⟨p2, rfl, t2, hbx2⟩; have HB2 : Below w.heap.size w w2 := by first | exact bthen HB1 hbx2 | exact bthen HB1.drew hbx2))
      have hes : es.take k ++ es[k] :: es.drop (k + 1) = es := by rw [← List.drop_eq_getElem_cons hkl, List.take_append_drop]
      have t1' := t1.lower (bthen hbx2 (bal w2 (.cells #[.int .i64 es[k].off, .int .i64 es[k].place, .pointer p1, .pointer p2] 123)))
      have t2' := t2.lower (bal w2 (.cells #[.int .i64 es[k].off, .int .i64 es[k].place, .pointer p1, .pointer p2] 123))
      have T := Lib.hid (Tree.node w2.heap.size p1 p2 _ _ es[k] (heap_alloc_new w2 _) t1' t2')
      have HES := Lib.hid hes
      have HB := Lib.hid (bthen HB2 (bal w2 (.cells #[.int .i64 es[k].off, .int .i64 es[k].place, .pointer p1, .pointer p2] 123)))
      clear hes t1' t2' t1 t2 HB1 HB2 hbx1 hbx2 C1 C2 s1 HIH
      go_wp2
      go_ret
      exact ⟨_, rfl, by have := T.out; rwa [HES.out] at this, HB.out⟩

theorem two2 {w : World} {g : Nat} {t : TypeId} {v0 v1 : Value} (h : w.heap[g]? = some (.cells #[v0, v1] t (0, 0))) :
    w.cell? ⟨g, 0, none⟩ = some v0 ∧ w.cell? ⟨g, 1, none⟩ = some v1 ∧ ∀ i, w.frozen? ⟨g, i, none⟩ = false := by
  refine ⟨?_, ?_, fun i => ?_⟩ <;> simp [World.cell?, World.frozen?, h]
def cmpI (x y : Int) : Int := if x < y then -1 else if y < x then 1 else 0
theorem isNaN_any (x : Int) (w : World) : Calls Try.prog 115 #[.int .i64 x] w fun e w' => e = .returned (.bool false) ∧ w = w' := by
  have h : (x != x) = false := by simp
  go_enter Try.func115, Try.ntmps115
  go_wp2
  go_ret
  exact ⟨rfl, rfl⟩
theorem Compare_any (x y : Int) (w : World) : Calls Try.prog 96 #[.int .i64 x, .int .i64 y] w fun e w' => e = .returned (.int .i64 (cmpI x y)) ∧ w = w' := by
  go_enter Try.func96, Try.ntmps96
  go_wp2_with (go_at_call 115; refine (isNaN_any _ _).mono ?_; rintro e w' ⟨rfl, rfl⟩)
  all_goals (go_ret; refine ⟨ret_int ?_, rfl⟩; unfold cmpI; first | (rw [if_pos (by assumption)]; done) | (rw [if_neg (by omega), if_pos (by omega)]; done) | (rw [if_neg (by omega), if_neg (by omega)]))
theorem cmpI_le {x y : Int} (h : x ≤ y) : decide (cmpI x y ≤ 0) = true := by
  unfold cmpI; split
  · rfl
  · rw [if_neg (by omega)]; rfl
theorem cmpI_gt {x y : Int} (h : y < x) : decide (cmpI x y ≤ 0) = false := by
  unfold cmpI; rw [if_neg (by omega), if_pos h]; rfl

/-- What (*node).upTo hands back. -/
def entOr (o : Option Ent) : Ent := o.getD Ent.zero
def Best (w : World) (b : Value) (pre : List Ent) : Prop :=
  (b = .pointer none ∧ pre = []) ∨ ∃ g m, b = .pointer (some ⟨g, 0, none⟩) ∧ pre.getLast? = some m ∧ w.cell? ⟨g, 0, none⟩ = some (.int .i64 m.off) ∧ w.cell? ⟨g, 1, none⟩ = some (.int .i64 m.place)
theorem Best.lower {w w' : World} {b : Value} {pre : List Ent} (h : Best w b pre) (hb : Below w.heap.size w w') : Best w' b pre := by
  rcases h with h | ⟨g, m, h1, h2, h3, h4⟩
  · exact .inl h
  · exact .inr ⟨g, m, h1, h2, below_cell hb h3, below_cell hb h4⟩
theorem up_right {pre a b post : List Ent} {m : Ent} {es : List Ent} {o : Int} (he : es = pre ++ (a ++ m :: b) ++ post) (hs : es.Pairwise Ent.lt) (h1 : ∀ e ∈ pre, e.off ≤ o) (hm : m.off ≤ o) :
    es = (pre ++ a ++ [m]) ++ b ++ post ∧ ∀ e ∈ pre ++ a ++ [m], e.off ≤ o := by
  refine ⟨by rw [he]; simp, fun e hm' => ?_⟩
  rcases List.mem_append.1 hm' with h | h
  · rcases List.mem_append.1 h with h | h
    · exact h1 e h
    · rw [he] at hs
      have h2 : (a ++ m :: b).Pairwise Ent.lt := (List.pairwise_append.1 (List.pairwise_append.1 hs).1).2.1
      have := (List.pairwise_append.1 h2).2.2 e h m (by simp)
      have := this.1
      omega
  · simp at h; subst h; exact hm
theorem up_left {pre a b post : List Ent} {m : Ent} {es : List Ent} {o : Int} (he : es = pre ++ (a ++ m :: b) ++ post) (hs : es.Pairwise Ent.lt) (h2 : ∀ e ∈ post, o < e.off) (hm : o < m.off) :
    es = pre ++ a ++ (m :: b ++ post) ∧ ∀ e ∈ m :: b ++ post, o < e.off := by
  refine ⟨by rw [he]; simp, fun e hm' => ?_⟩
  rcases List.mem_append.1 hm' with h | h
  · rcases List.mem_cons.1 h with rfl | h
    · exact hm
    · rw [he] at hs
      have h3 : (a ++ m :: b).Pairwise Ent.lt := (List.pairwise_append.1 (List.pairwise_append.1 hs).1).2.1
      have := (List.pairwise_cons.1 (List.pairwise_append.1 h3).2.1).1 e h
      have := this.1
      omega
  · exact h2 e h
set_option maxHeartbeats 2000000 in
theorem upTo_any (es : List Ent) (p : Option Addr) (o : Int) (w : World) (h : Tree w p es) (hs : es.Pairwise Ent.lt) :
    Calls Try.prog 68 #[.pointer p, .int .i64 o] w fun e w' => e = .returned (.tuple #[.agg #[.int .i64 (entOr (findE es o)).off, .int .i64 (entOr (findE es o)).place], .bool (findE es o).isSome]) ∧ Below w.heap.size w w' := by
  go_enter Try.func68, Try.ntmps68
  go_wp2_with fail
  generalize hW : World.alloc _ _ = W
  obtain ⟨hres, hbW, hsW⟩ := alloc1 hW
  have hT := h.lower hbW
  have HS := Lib.hid hs
  clear hW hs h
  go_loopg [0, 6] es.length (fun gk p b wr => ∃ (q : Option Addr) (pre cur post : List Ent), p = .pointer q ∧ gk = cur.length ∧ Tree wr q cur ∧ Hid (es = pre ++ cur ++ post) ∧ Hid (∀ e ∈ pre, e.off ≤ o) ∧ Hid (∀ e ∈ post, o < e.off) ∧ Best wr b pre ∧ Hid (Below W.heap.size W wr))
  case atStart => exact ⟨p, [], es, [], rfl, rfl, hT, Lib.hid (by simp), Lib.hid (by simp), Lib.hid (by simp), .inl ⟨rfl, rfl⟩, Lib.hid (Below.refl _ _)⟩
  case round =>
    obtain ⟨q, pre, cur, post, rfl, hgk, hTr, hE, h1, h2, hB, hb⟩ := hrel
    cases hTr with
    | leaf =>
      have hresr := blk_below hres hb.out
      obtain ⟨z0, z1, zf⟩ := two2 hresr
      have hf : Hid (findE es o = pre.getLast?) := Lib.hid (by rw [hE.out, List.append_nil]; exact findE_split pre post o h1.out h2.out)
      have hbb := Lib.hid (hbW.trans (hb.out.mono hbW.size))
      clear hresr hT hres
      rcases hB with ⟨rfl, rfl⟩ | ⟨g, m, rfl, hl, c0, c1⟩
      · go_wp2
        refine bodyPost_ret (v := .tuple #[.agg #[.int .i64 0, .int .i64 0], .bool false]) (by simp [results, Try.results68, go_sem, z0, z1]) rfl ⟨?_, ?_⟩
        · rw [hf.out]; rfl
        · exact (hbb.out.setCell (p := ⟨w.heap.size, 0, none⟩) (Nat.le_refl _) _).setCell (p := ⟨w.heap.size, 1, none⟩) (Nat.le_refl _) _
      · have HL := Lib.hid hl
        clear hl
        go_wp2
        refine bodyPost_ret (v := .tuple #[.agg #[.int .i64 m.off, .int .i64 m.place], .bool true]) (by simp [results, Try.results68, go_sem, z0, z1]) rfl ⟨?_, ?_⟩
        · rw [hf.out, HL.out]; rfl
        · exact (hbb.out.setCell (p := ⟨w.heap.size, 0, none⟩) (Nat.le_refl _) _).setCell (p := ⟨w.heap.size, 1, none⟩) (Nat.le_refl _) _
    | node g l r a b' m hg hl hr =>
      obtain ⟨q0, q1, q2, q3, _⟩ := four hg
      by_cases hm : m.off ≤ o
      · have d := cmpI_le hm
        have HM := Lib.hid hm
        clear hm hg
        go_wp2_with (go_at_call 96; refine (Compare_any _ _ _).mono ?_; rintro e w' ⟨rfl, rfl⟩)
        go_quiet (fail)
        go_wp2
        go_roundg b'.length
        case rel => exact ⟨r, pre ++ a ++ [m], b', post, rfl, rfl, Tree.lower hr (below_drewN _ _), Lib.hid (up_right hE.out HS.out h1.out HM.out).1, Lib.hid (up_right hE.out HS.out h1.out HM.out).2, h2, .inr ⟨g, m, rfl, by simp, q0, q1⟩, Lib.hid (bthen hb.out (below_drewN _ _))⟩
        case measure => rw [hgk]; simp; omega
      · have d := cmpI_gt (show o < m.off by omega)
        have HM := Lib.hid hm
        clear hm hg
        go_wp2_with (go_at_call 96; refine (Compare_any _ _ _).mono ?_; rintro e w' ⟨rfl, rfl⟩)
        go_wp2
        go_roundg a.length
        case rel => exact ⟨l, pre, a, m :: b' ++ post, rfl, rfl, hl, Lib.hid (up_left hE.out HS.out h2.out (by have := HM.out; omega)).1, h1, Lib.hid (up_left hE.out HS.out h2.out (by have := HM.out; omega)).2, hB, hb⟩
        case measure => rw [hgk]; simp

/-- What IndexFind hands back. -/
def findI (es : List Ent) (o : Int) : Option Ent := if entsB es then findE es o else none
theorem IndexFind_any (es : List Ent) (A : Option Addr) (c : Nat) (F : Nat → Prop) (o : Int) (w : World) (h : Ents w F A c es) :
    Calls Try.prog 44 #[.slice A es.length c, .int .i64 o] w fun e w' => e = .returned (.tuple #[.agg #[.int .i64 (entOr (findI es o)).off, .int .i64 (entOr (findI es o)).place], .bool (findI es o).isSome]) ∧ Below w.heap.size w w' := by
  cases hv : entsB es
  · have e1 : findI es o = none := by unfold findI; rw [hv]; rfl
    have HV := Lib.hid hv
    rw [e1]
    clear hv e1
    go_enter Try.func44, Try.ntmps44
    go_wp2_with fail
    generalize hW : World.alloc _ _ = W
    obtain ⟨hres, b1, hsW⟩ := alloc1 hW
    clear hW
    refine (IndexValid_any es A c _ _ (h.below b1)).mono ?_
    rintro e w2 ⟨rfl, hb2⟩
    rw [HV.out]
    obtain ⟨z0, z1, zf⟩ := two2 (blk_below hres hb2)
    have HB := Lib.hid (bthen b1 hb2)
    clear hres hb2 b1
    go_wp2
    refine bodyPost_ret (v := .tuple #[.agg #[.int .i64 0, .int .i64 0], .bool false]) (by simp [results, Try.results44, go_sem, z0, z1]) rfl ⟨rfl, ?_⟩
    exact (HB.out.setCell (p := ⟨w.heap.size, 0, none⟩) (Nat.le_refl _) _).setCell (p := ⟨w.heap.size, 1, none⟩) (Nat.le_refl _) _
  · have e1 : findI es o = findE es o := by unfold findI; rw [hv]; rfl
    have hs := ((entsB_iff es).1 hv).2.2
    have HV := Lib.hid hv
    have HS := Lib.hid hs
    rw [e1]
    clear hv e1 hs
    go_enter Try.func44, Try.ntmps44
    go_wp2_with fail
    generalize hW : World.alloc _ _ = W
    obtain ⟨hres, b1, hsW⟩ := alloc1 hW
    clear hW
    refine (IndexValid_any es A c _ _ (h.below b1)).mono ?_
    rintro e w2 ⟨rfl, hb2⟩
    rw [HV.out]
    go_wp2_with fail
    refine (treeOf_any _ es A c _ _ (Nat.le_refl _) (h.below (bthen b1 hb2))).mono ?_
    rintro e w3 ⟨p, rfl, T, hb3⟩
    go_wp2_with fail
    refine (upTo_any es p o _ T HS.out).mono ?_
    rintro e w4 ⟨rfl, hb4⟩
    obtain ⟨z0, z1, zf⟩ := two2 (blk_below (blk_below (blk_below hres hb2) hb3) hb4)
    have HB := Lib.hid (bthen (bthen (bthen b1 hb2) hb3) hb4)
    obtain ⟨r, hr⟩ : ∃ r, r = findE es o := ⟨_, rfl⟩
    rw [← hr]
    have HR := Lib.hid hr
    clear hr hres hb2 hb3 hb4 b1 T h
    go_wp2
    refine bodyPost_ret (v := .tuple #[.agg #[.int .i64 (entOr r).off, .int .i64 (entOr r).place], .bool r.isSome]) (by simp [results, Try.results44, go_sem, z0, z1]) rfl ⟨by rw [HR.out], ?_⟩
    exact (HB.out.setCell (p := ⟨w.heap.size, 0, none⟩) (Nat.le_refl _) _).setCell (p := ⟨w.heap.size, 1, none⟩) (Nat.le_refl _) _

/-! the reference's -/
theorem takeFind {es : List Ent} {k : Nat} (h : k < es.length) (o : Int) : findE (es.take (k + 1)) o = if es[k].off ≤ o then some es[k] else findE (es.take k) o := by
  rw [List.take_succ_eq_append_getElem h]
  split
  · rename_i hc; exact findE_snoc_yes _ _ _ hc
  · exact findE_snoc_no _ _ _ (by omega)
set_option maxHeartbeats 2000000 in
theorem l13Find_any (es : List Ent) (A : Option Addr) (c : Nat) (F : Nat → Prop) (o : Int) (w : World) (h : Ents w F A c es) :
    Calls Try.prog 38 #[.slice A es.length c, .int .i64 o] w fun e w' => e = .returned (.tuple #[.agg #[.int .i64 (entOr (findE es o)).off, .int .i64 (entOr (findE es o)).place], .bool (findE es o).isSome]) ∧ Below w.heap.size w w' := by
  have hl := h.1
  have hc := h.2.1
  go_enter Try.func38, Try.ntmps38
  go_wp2_with fail
  generalize hW : World.alloc _ _ = W
  obtain ⟨hA, hB, b1, hsW⟩ := alloc2 hW
  have hr := h.below b1
  clear hW
  go_loopw [7, 8] (fun s i wr => ∃ (k : Nat) (r : Option Ent), k ≤ es.length ∧ i = .int .i64 k ∧ s = .bool r.isSome ∧ Hid (r = findE (es.take k) o) ∧ Hid (wr.heap[w.heap.size]? = some (.cells #[.int .i64 0, .int .i64 0] 57 (0, 0))) ∧
    Hid (wr.heap[w.heap.size + 1]? = some (.cells #[.int .i64 (entOr r).off, .int .i64 (entOr r).place] 57 (0, 0))) ∧ Hid (Below w.heap.size w wr)) (fun _ i _ => es.length - (intOf i).toNat)
  case atStart => exact ⟨0, none, Nat.zero_le _, rfl, rfl, Lib.hid rfl, Lib.hid hA, Lib.hid hB, Lib.hid b1⟩
  case round =>
    obtain ⟨k, r, hk, rfl, rfl, HR, H0, H1, HB⟩ := hrel
    obtain ⟨y0, y1, yf⟩ := two2 H0.out
    obtain ⟨z0, z1, zf⟩ := two2 H1.out
    by_cases hlt : k < es.length
    · obtain ⟨ad, rfl, _, q0, q1⟩ := (h.below HB.out).ent_at hlt
      by_cases hle : es[k].off ≤ o
      · have HL := Lib.hid (show some es[k] = findE (es.take (k + 1)) o by rw [takeFind hlt, if_pos hle])
        have hadb : ad.block < w.heap.size := by
          obtain ⟨ad', e', _, p0, _⟩ := h.ent_at hlt
          injection e' with e'
          subst e'
          have := cell_lt p0
          rwa [add_block] at this
        generalize hX : (wr.setCell ⟨w.heap.size + 1, 0, none⟩ (.int .i64 es[k].off)).setCell ⟨w.heap.size + 1, 1, none⟩ (.int .i64 es[k].place) = X
        have x1 : X.heap[w.heap.size + 1]? = some (.cells #[.int .i64 es[k].off, .int .i64 es[k].place] 57 (0, 0)) := by
          rw [← hX]
          have := blk_put (blk_put H1.out 0 (.int .i64 es[k].off)) 1 (.int .i64 es[k].place)
          simpa using this
        have x0 : X.heap[w.heap.size]? = some (.cells #[.int .i64 0, .int .i64 0] 57 (0, 0)) := by
          rw [← hX]
          exact blk_far (blk_far H0.out (p := ⟨w.heap.size + 1, 0, none⟩) (by simp) _) (p := ⟨w.heap.size + 1, 1, none⟩) (by simp) _
        have xb : Below w.heap.size w X := by
          rw [← hX]
          exact (HB.out.setCell (p := ⟨w.heap.size + 1, 0, none⟩) (by simp) _).setCell (p := ⟨w.heap.size + 1, 1, none⟩) (by simp) _
        have X0 := Lib.hid x0
        have X1 := Lib.hid x1
        have XB := Lib.hid xb
        have HX := Lib.hid hX
        clear x0 x1 xb hX
        go_wp2
        rw [HX.out]
        go_roundw
        case rel => exact ⟨k + 1, some es[k], by omega, by go_num, rfl, HL, X0, X1, XB⟩
        case measure => simp [intOf]; omega
      · have HL := Lib.hid (show r = findE (es.take (k + 1)) o by rw [takeFind hlt, if_neg hle]; exact HR.out)
        go_wp2
        go_roundw
        case rel => exact ⟨k + 1, r, by omega, by go_num, rfl, HL, H0, H1, HB⟩
        case measure => simp [intOf]; omega
    · have HE := Lib.hid (show r = findE es o by rw [HR.out, List.take_of_length_le (by omega)])
      go_wp2
      refine bodyPost_ret (v := .tuple #[.agg #[.int .i64 (entOr r).off, .int .i64 (entOr r).place], .bool r.isSome]) (by simp [results, Try.results38, go_sem, y0, y1]) rfl ⟨by rw [HE.out], ?_⟩
      exact (HB.out.setCell (p := ⟨w.heap.size, 0, none⟩) (Nat.le_refl _) _).setCell (p := ⟨w.heap.size, 1, none⟩) (Nat.le_refl _) _
end Go.Proofs.Ytomcjjehfocbmaa
