/- Draws: messages of the old form. -/
import Derived.Test.YtgnjnpfeofhniaaDoorOl
import Derived.Test.YtgnjnpfeofhniaaDoorD3
namespace Go.Proofs.YtgnjnpfeofhniaaDoor
set_option linter.unusedVariables false
set_option linter.unusedSimpArgs false
open Go.RowKit

theorem box4o {X W : World} {B : Nat} {t : TypeId} {a b c d e f g p q u v : Value} (hb : X.heap[B]? = some (.cells #[a, b, c, d, e, f, g] t (0, 0))) (hW : (((X.setCell ⟨B, 5, none⟩ p).setCell ⟨B, 3, none⟩ q).setCell ⟨B, 6, none⟩ u).setCell ⟨B, 4, none⟩ v = W) :
    W.heap[B]? = some (.cells #[a, b, c, q, v, p, u] t (0, 0)) ∧ Chg (fun b => b = B) X W := by
  subst hW
  exact ⟨by simpa using blk_put (blk_put (blk_put (blk_put hb 5 p) 3 q) 6 u) 4 v, (Chg.refl _ X).put.put.put.put⟩
def OldOut (g N : Nat) (w : World) (e : Ending) (w' : World) : Prop :=
  ∃ (m : Old') (Ak Av : Option Addr) (ck cv : Nat), e = .returned (OV m Ak ck Av cv) ∧ m.key.length ≤ 12 ∧ m.val.length ≤ 12 ∧
    Ints w' (fun b => w.heap.size ≤ b) Ak ck m.key ∧ Ints w' (fun b => w.heap.size ≤ b) Av cv m.val ∧ RdN w' g N ∧ Chg (fun b => b = g) w w'
theorem fin_o {X W' w : World} {g M N : Nat} (m : Old') (Ak Av : Option Addr) (ck cv : Nat) (cF : Chg (fun x => x = w.heap.size) X W') (h1 : m.key.length ≤ 12) (h2 : m.val.length ≤ 12)
    (hk : Ints X (fun b => w.heap.size < b) Ak ck m.key) (hv : Ints X (fun b => w.heap.size < b) Av cv m.val) (hr : RdN X g M) (hM : M ≤ N) (hc : Chg (fun b => b = g) w X) (hg : g < w.heap.size) :
    OldOut g N w (.returned (.agg #[.int .i64 m.off, .bool m.timed, .int .i64 m.time, .slice Ak m.key.length ck, .slice Av m.val.length cv, .bool m.hk, .bool m.miss])) W' :=
  ⟨m, Ak, Av, ck, cv, rfl, h1, h2, (hk.keep (cF.same (fun i _ h1 h2 => by omega))).mono (fun b hb => Nat.le_of_lt hb), (hv.keep (cF.same (fun i _ h1 h2 => by omega))).mono (fun b hb => Nat.le_of_lt hb),
    (hr.chg cF (fun b hb => by omega)).le hM, hc.then cF (fun i hi hb => by omega)⟩
theorem lit_in {w : World} {g : Nat} {t : TypeId} (xs : List Int) (h : w.heap[g]? = some (.cells (xs.map (Value.int .i64)).toArray t (0, 0))) {v : Int} (h0 : 0 ≤ v) (h1 : v < xs.length) :
    ∃ x, x ∈ xs ∧ w.cell? ⟨g, v.toNat, none⟩ = some (.int .i64 x) := by
  have hl : v.toNat < xs.length := by omega
  exact ⟨xs[v.toNat], List.getElem_mem hl, by simp [World.cell?, h, hl]⟩
def Old'.tiny (m : Old') : Prop := m.key.length ≤ 12 ∧ m.val.length ≤ 12
theorem otiny_add {rs : List Old'} {r : Old'} (h : ∀ x ∈ rs, x.tiny) (hr : r.tiny) : ∀ x ∈ rs ++ [r], x.tiny := by
  intro x hx
  rcases List.mem_append.1 hx with hx | hx
  · exact h x hx
  · simp at hx; subst hx; exact hr
set_option maxRecDepth 20000 in
set_option maxHeartbeats 4000000 in
theorem l91Old_any (g N : Nat) (off : Int) (w : World) (h : RdN w g N) (hN : N ≤ 800000) :
    Calls Tryd.prog 12 #[.pointer (some ⟨g, 0, none⟩), .int .i64 off] w (OldOut g (N + 60) w) := by
  have hg0 := h.lt
  go_enter Tryd.func12, Tryd.ntmps12
  go_wp2_with fail
  generalize hW0 : w.alloc _ = W0
  obtain ⟨hb0, hbl0, hs0⟩ := alloc1 hW0
  clear hW0
  have cA := Chg.of_below (F := fun b => b = g) hbl0
  refine (pickN g N 2 _ (h.below hbl0) (by omega) (by omega) (by omega)).mono ?_
  rintro e w1 ⟨v1, rfl, a1, b1, r1, c1⟩
  have hbR := c1.blk hb0 (by omega)
  have cA1 := cA.same_g c1
  have hz1 := c1.size
  have hg1 := r1.lt
  clear hb0 hbl0 cA c1
  cases ht1 : (v1 == 0)
  · go_wp2_with fail
    generalize hX0 : w1.alloc _ = X0
    obtain ⟨hx0, bx0, hsx0⟩ := alloc1 hX0
    clear hX0
    obtain ⟨tt, hx0⟩ : ∃ tt, X0.heap[w1.heap.size]? = some (.cells #[.int .i64 off, .bool false, .int .i64 tt, .slice none 0 0, .slice none 0 0, .bool false, .bool false] 42 (0, 0)) := ⟨_, hx0⟩
    have hR0 := blk_below hbR bx0
    have cX0 := cA1.then (Chg.of_below (F := fun _ => False) bx0) (fun _ _ h => h.elim)
    have rX0 := r1.below bx0
    clear hbR cA1 r1 bx0
    refine (l91Part_any g _ _ rX0 (by omega)).mono ?_
    rintro e w5 ⟨has1, xs1, kv1, rfl, hl1, K1, r5, c5⟩
    have hb5 := c5.blk hx0 (by omega)
    have hR5 := c5.blk hR0 (by omega)
    have cX5 := cX0.same_g c5
    have hs5 := c5.size
    clear hx0 hR0 cX0 rX0 c5
    go_wp2_with fail
    refine (l91Part_any g _ _ r5 (by omega)).mono ?_
    rintro e w6 ⟨has2, xs2, kv2, rfl, hl2, K2, r6, c6⟩
    have hb6 := c6.blk hb5 (by omega)
    have hR6 := c6.blk hR5 (by omega)
    have cX6 := cX5.same_g c6
    have hs6 := c6.size
    obtain ⟨B1, d1, rfl, J1⟩ := K1.row
    have J1 := (Kind.Row.lts lts_int (by decide) J1).keep (c6.same (fun i _ h1 h2 => by have := h1.1; omega))
    have HL := Lib.hid (show xs1.length ≤ 12 ∧ xs2.length ≤ 12 from ⟨hl1, hl2⟩)
    clear hb5 hR5 cX5 r5 c6 K1 hl1 hl2
    obtain ⟨B2, d2, rfl, J2⟩ := K2.row
    have Hb6 := Lib.hid hb6
    obtain ⟨q0, q1, q2, q3, q4, q5, q6, qf⟩ := sev hb6
    clear hb6 K2
    go_wp2_with fail
    generalize hX : World.setCell _ _ _ = X
    obtain ⟨hbX, cX⟩ := box4o Hb6.out hX
    have hRX := cX.blk hR6 (by omega)
    have cX7 := cX6.then cX (fun i hi hb => by omega)
    have J1 := J1.keep (cX.same (fun i _ h1 h2 => by have := h1.1; omega))
    have J2 := J2.keep (cX.same (fun i _ h1 h2 => by omega))
    have rX := r6.chg cX (fun b hb => by omega)
    have hsX := cX.size
    clear cX cX6 hR6 Hb6 r6 hX q0 q1 q2 q3 q4 q5 q6 qf
    refine (pickN g _ 40 _ rX (by omega) (by omega) (by omega)).mono ?_
    rintro e Y ⟨vy, rfl, ay, by_, rY, cY⟩
    have hbY := cY.blk hbX (by omega)
    have hRY := cY.blk hRX (by omega)
    have cXY := cX7.same_g cY
    have J1 := J1.keep (cY.same (fun i _ h1 h2 => by have := h1.1; omega))
    have J2 := J2.keep (cY.same (fun i _ h1 h2 => by omega))
    have hsY := cY.size
    have hwY : w.heap.size < Y.heap.size := by omega
    clear cY cX7 hRX hbX rX
    obtain ⟨x0, x1, x2, x3, x4, x5, x6, xf⟩ := sev hbY
    have HbY := Lib.hid hbY
    clear hbY
    cases hta : (vy == 0)
    · cases htb : (vy == 1)
      · have hbZ := HbY.out
        have HRZ0 := Lib.hid hRY
        have KZ := J1
        have VZ := J2
        have rZ := rY
        have cZ := cXY
        clear J1 J2 cXY hRY rY x0 x1 x2 x3 x4 x5 x6 xf
        obtain ⟨Z, rfl⟩ : ∃ Z, Z = Y := ⟨_, rfl⟩
        have hRZ := HRZ0.out
        obtain ⟨p0, p1, p2, p3, p4, p5, p6, pf⟩ := sev hbZ
        obtain ⟨a0, a1, a2, a3, a4, a5, a6, af⟩ := sev hRZ
        have HKZ := Lib.hid KZ
        have HVZ := Lib.hid VZ
        have HCZ := Lib.hid cZ
        have hltr := blk_lt2 hRZ
        clear KZ VZ cZ hbZ hRZ HRZ0
        go_wp2
        all_goals
          refine bodyPost_ret (v := .agg #[.int .i64 off, .bool false, .int .i64 tt, .slice B1 xs1.length d1, .slice B2 xs2.length d2, .bool has1, .bool (!has2)]) (by simp [results, Tryd.results12, go_sem, a0, a1, a2, a3, a4, a5, a6, hltr]) rfl ?_
          refine fin_o (X := Z) ⟨off, false, tt, xs1, xs2, has1, (!has2)⟩ B1 B2 d1 d2 ?_ HL.out.1 HL.out.2 (HKZ.out.mono (fun b hb => by have := hb.1; omega)) (HVZ.out.mono (fun b hb => by omega)) rZ (by omega) HCZ.out hg0
          exact (Chg.refl _ Z).put.put.put.put.put.put.put
      · have hbl := bal Y (.cells #[.int .i64 (-1), .int .i64 99999, .int .i64 100000] 3)
        have hb9 := blk_below HbY.out hbl
        have hR9 := blk_below hRY hbl
        go_wp2_with fail
        refine (pickN g _ 3 _ (rY.below hbl) (by omega) (by omega) (by omega)).mono ?_
        rintro e wb ⟨vb, rfl, ab, bb, rb, cb⟩
        have hne : ¬ (Y.heap.size = g) := by have := rY.lt; omega
        have hlit := cb.blk (heap_alloc_new Y (.cells #[.int .i64 (-1), .int .i64 99999, .int .i64 100000] 3)) hne
        obtain ⟨x, hx⟩ := lit_at [-1, 99999, 100000] hlit ab bb
        have hbb := cb.blk hb9 (by omega)
        have hRb := cb.blk hR9 (by omega)
        have hsb := cb.size
        have Kb := (J1.below hbl).keep (cb.same (fun i _ h1 h2 => by have := h1.1; omega))
        have Vb := (J2.below hbl).keep (cb.same (fun i _ h1 h2 => by omega))
        have cXb := (cXY.alloc (.cells #[.int .i64 (-1), .int .i64 99999, .int .i64 100000] 3)).same_g cb
        clear hlit hb9 hR9 hbl cb J1 J2 cXY rY HbY hRY x0 x1 x2 x3 x4 x5 x6 xf
        have J1 := Kb
        have J2 := Vb
        have cXY := cXb
        have rY := rb
        have hRY := hRb
        obtain ⟨x0, x1, x2, x3, x4, x5, x6, xf⟩ := sev hbb
        have HbY := Lib.hid hbb
        clear hbb Kb Vb cXb rb hRb
        generalize hZ : wb.setCell ⟨w1.heap.size, 0, none⟩ (.int .i64 x) = Z
        obtain ⟨hbZ', cz⟩ := box1 HbY.out hZ
        have hbZ : Z.heap[w1.heap.size]? = some (.cells #[.int .i64 x, .bool false, .int .i64 tt, .slice B1 xs1.length d1, .slice B2 xs2.length d2, .bool has1, .bool (!has2)] 42 (0, 0)) := by simpa using hbZ'
        have HRZ0 := Lib.hid (cz.blk hRY (by omega))
        have KZ := J1.keep (cz.same (fun i _ h1 h2 => by have := h1.1; omega))
        have VZ := J2.keep (cz.same (fun i hi h1 h2 => by omega))
        have cZ := cXY.then cz (fun i hi hb => by omega)
        have rZ := rY.chg cz (fun b hb => by omega)
        clear cz hbZ' hRY J1 J2 cXY rY
        have hRZ := HRZ0.out
        obtain ⟨p0, p1, p2, p3, p4, p5, p6, pf⟩ := sev hbZ
        obtain ⟨a0, a1, a2, a3, a4, a5, a6, af⟩ := sev hRZ
        have HKZ := Lib.hid KZ
        have HVZ := Lib.hid VZ
        have HCZ := Lib.hid cZ
        have hltr := blk_lt2 hRZ
        clear KZ VZ cZ hbZ hRZ HRZ0
        go_wp2
        all_goals
          refine bodyPost_ret (v := .agg #[.int .i64 x, .bool false, .int .i64 tt, .slice B1 xs1.length d1, .slice B2 xs2.length d2, .bool has1, .bool (!has2)]) (by simp [results, Tryd.results12, go_sem, a0, a1, a2, a3, a4, a5, a6, hltr]) rfl ?_
          refine fin_o (X := Z) ⟨x, false, tt, xs1, xs2, has1, (!has2)⟩ B1 B2 d1 d2 ?_ HL.out.1 HL.out.2 (HKZ.out.mono (fun b hb => by have := hb.1; omega)) (HVZ.out.mono (fun b hb => by omega)) rZ (by omega) HCZ.out hg0
          exact (Chg.refl _ Z).put.put.put.put.put.put.put
    · generalize hZ : Y.setCell ⟨w1.heap.size, 1, none⟩ (.bool true) = Z
      obtain ⟨hbZ', cz⟩ := box1 HbY.out hZ
      have hbZ : Z.heap[w1.heap.size]? = some (.cells #[.int .i64 off, .bool true, .int .i64 tt, .slice B1 xs1.length d1, .slice B2 xs2.length d2, .bool has1, .bool (!has2)] 42 (0, 0)) := by simpa using hbZ'
      have HRZ0 := Lib.hid (cz.blk hRY (by omega))
      have KZ := J1.keep (cz.same (fun i _ h1 h2 => by have := h1.1; omega))
      have VZ := J2.keep (cz.same (fun i hi h1 h2 => by omega))
      have cZ := cXY.then cz (fun i hi hb => by omega)
      have rZ := rY.chg cz (fun b hb => by omega)
      clear cz hbZ' hRY J1 J2 cXY rY
      have hRZ := HRZ0.out
      obtain ⟨p0, p1, p2, p3, p4, p5, p6, pf⟩ := sev hbZ
      obtain ⟨a0, a1, a2, a3, a4, a5, a6, af⟩ := sev hRZ
      have HKZ := Lib.hid KZ
      have HVZ := Lib.hid VZ
      have HCZ := Lib.hid cZ
      have hltr := blk_lt2 hRZ
      clear KZ VZ cZ hbZ hRZ HRZ0
      go_wp2
      all_goals
        refine bodyPost_ret (v := .agg #[.int .i64 off, .bool true, .int .i64 tt, .slice B1 xs1.length d1, .slice B2 xs2.length d2, .bool has1, .bool (!has2)]) (by simp [results, Tryd.results12, go_sem, a0, a1, a2, a3, a4, a5, a6, hltr]) rfl ?_
        refine fin_o (X := Z) ⟨off, true, tt, xs1, xs2, has1, (!has2)⟩ B1 B2 d1 d2 ?_ HL.out.1 HL.out.2 (HKZ.out.mono (fun b hb => by have := hb.1; omega)) (HVZ.out.mono (fun b hb => by omega)) rZ (by omega) HCZ.out hg0
        exact (Chg.refl _ Z).put.put.put.put.put.put.put
  · go_wp2_with fail
    generalize hX0 : w1.alloc _ = X1
    obtain ⟨hx0, bx0, hsx0⟩ := alloc1 hX0
    clear hX0
    have hR0 := blk_below hbR bx0
    have cX0 := cA1.then (Chg.of_below (F := fun _ => False) bx0) (fun _ _ h => h.elim)
    have rX0 := r1.below bx0
    clear hbR cA1 r1 bx0
    refine (pickN g _ 250 _ rX0 (by omega) (by omega) (by omega)).mono ?_
    rintro e w2 ⟨v2, rfl, a2, b2, r2, c2⟩
    go_wp2_with fail
    refine (pickN g _ 2 _ r2 (by omega) (by omega) (by omega)).mono ?_
    rintro e w3 ⟨v3, rfl, a3, b3, r3, c3⟩
    have hx3 := c3.blk (c2.blk hx0 (by omega)) (by omega)
    have hR3 := c3.blk (c2.blk hR0 (by omega)) (by omega)
    have cX3 := (cX0.same_g c2).same_g c3
    have hs2 := c2.size
    have hs3 := c3.size
    clear hx0 hR0 cX0 rX0 r2 c2 c3
    obtain ⟨q0, q1, q2, q3, q4, q5, q6, qf⟩ := sev hx3
    have HX3 := Lib.hid hx3
    clear hx3
    go_wp2_with fail
    generalize hX0 : World.setCell _ _ _ = X0
    obtain ⟨hx0, bx0⟩ := box1 HX3.out hX0
    clear hX0
    obtain ⟨tt, hx0⟩ : ∃ tt, X0.heap[w1.heap.size]? = some (.cells #[.int .i64 off, .bool true, .int .i64 tt, .slice none 0 0, .slice none 0 0, .bool false, .bool false] 42 (0, 0)) := ⟨_, by simpa using hx0⟩
    have hR0 := bx0.blk hR3 (by omega)
    have cX0 := cX3.then bx0 (fun i hi hb => by omega)
    have rX0 := r3.chg bx0 (fun b hb => by omega)
    have hsx1 := bx0.size
    clear hR3 cX3 r3 bx0 HX3 q0 q1 q2 q3 q4 q5 q6 qf
    refine (l91Part_any g _ _ rX0 (by omega)).mono ?_
    rintro e w5 ⟨has1, xs1, kv1, rfl, hl1, K1, r5, c5⟩
    have hb5 := c5.blk hx0 (by omega)
    have hR5 := c5.blk hR0 (by omega)
    have cX5 := cX0.same_g c5
    have hs5 := c5.size
    clear hx0 hR0 cX0 rX0 c5
    go_wp2_with fail
    refine (l91Part_any g _ _ r5 (by omega)).mono ?_
    rintro e w6 ⟨has2, xs2, kv2, rfl, hl2, K2, r6, c6⟩
    have hb6 := c6.blk hb5 (by omega)
    have hR6 := c6.blk hR5 (by omega)
    have cX6 := cX5.same_g c6
    have hs6 := c6.size
    obtain ⟨B1, d1, rfl, J1⟩ := K1.row
    have J1 := (Kind.Row.lts lts_int (by decide) J1).keep (c6.same (fun i _ h1 h2 => by have := h1.1; omega))
    have HL := Lib.hid (show xs1.length ≤ 12 ∧ xs2.length ≤ 12 from ⟨hl1, hl2⟩)
    clear hb5 hR5 cX5 r5 c6 K1 hl1 hl2
    obtain ⟨B2, d2, rfl, J2⟩ := K2.row
    have Hb6 := Lib.hid hb6
    obtain ⟨q0, q1, q2, q3, q4, q5, q6, qf⟩ := sev hb6
    clear hb6 K2
    go_wp2_with fail
    generalize hX : World.setCell _ _ _ = X
    obtain ⟨hbX, cX⟩ := box4o Hb6.out hX
    have hRX := cX.blk hR6 (by omega)
    have cX7 := cX6.then cX (fun i hi hb => by omega)
    have J1 := J1.keep (cX.same (fun i _ h1 h2 => by have := h1.1; omega))
    have J2 := J2.keep (cX.same (fun i _ h1 h2 => by omega))
    have rX := r6.chg cX (fun b hb => by omega)
    have hsX := cX.size
    clear cX cX6 hR6 Hb6 r6 hX q0 q1 q2 q3 q4 q5 q6 qf
    refine (pickN g _ 40 _ rX (by omega) (by omega) (by omega)).mono ?_
    rintro e Y ⟨vy, rfl, ay, by_, rY, cY⟩
    have hbY := cY.blk hbX (by omega)
    have hRY := cY.blk hRX (by omega)
    have cXY := cX7.same_g cY
    have J1 := J1.keep (cY.same (fun i _ h1 h2 => by have := h1.1; omega))
    have J2 := J2.keep (cY.same (fun i _ h1 h2 => by omega))
    have hsY := cY.size
    have hwY : w.heap.size < Y.heap.size := by omega
    clear cY cX7 hRX hbX rX
    obtain ⟨x0, x1, x2, x3, x4, x5, x6, xf⟩ := sev hbY
    have HbY := Lib.hid hbY
    clear hbY
    cases hta : (vy == 0)
    · cases htb : (vy == 1)
      · have hbZ := HbY.out
        have HRZ0 := Lib.hid hRY
        have KZ := J1
        have VZ := J2
        have rZ := rY
        have cZ := cXY
        clear J1 J2 cXY hRY rY x0 x1 x2 x3 x4 x5 x6 xf
        obtain ⟨Z, rfl⟩ : ∃ Z, Z = Y := ⟨_, rfl⟩
        have hRZ := HRZ0.out
        obtain ⟨p0, p1, p2, p3, p4, p5, p6, pf⟩ := sev hbZ
        obtain ⟨a0, a1, a2, a3, a4, a5, a6, af⟩ := sev hRZ
        have HKZ := Lib.hid KZ
        have HVZ := Lib.hid VZ
        have HCZ := Lib.hid cZ
        have hltr := blk_lt2 hRZ
        clear KZ VZ cZ hbZ hRZ HRZ0
        go_wp2
        all_goals
          refine bodyPost_ret (v := .agg #[.int .i64 off, .bool true, .int .i64 tt, .slice B1 xs1.length d1, .slice B2 xs2.length d2, .bool has1, .bool (!has2)]) (by simp [results, Tryd.results12, go_sem, a0, a1, a2, a3, a4, a5, a6, hltr]) rfl ?_
          refine fin_o (X := Z) ⟨off, true, tt, xs1, xs2, has1, (!has2)⟩ B1 B2 d1 d2 ?_ HL.out.1 HL.out.2 (HKZ.out.mono (fun b hb => by have := hb.1; omega)) (HVZ.out.mono (fun b hb => by omega)) rZ (by omega) HCZ.out hg0
          exact (Chg.refl _ Z).put.put.put.put.put.put.put
      · have hbl := bal Y (.cells #[.int .i64 (-1), .int .i64 99999, .int .i64 100000] 3)
        have hb9 := blk_below HbY.out hbl
        have hR9 := blk_below hRY hbl
        go_wp2_with fail
        refine (pickN g _ 3 _ (rY.below hbl) (by omega) (by omega) (by omega)).mono ?_
        rintro e wb ⟨vb, rfl, ab, bb, rb, cb⟩
        have hne : ¬ (Y.heap.size = g) := by have := rY.lt; omega
        have hlit := cb.blk (heap_alloc_new Y (.cells #[.int .i64 (-1), .int .i64 99999, .int .i64 100000] 3)) hne
        obtain ⟨x, hx⟩ := lit_at [-1, 99999, 100000] hlit ab bb
        have hbb := cb.blk hb9 (by omega)
        have hRb := cb.blk hR9 (by omega)
        have hsb := cb.size
        have Kb := (J1.below hbl).keep (cb.same (fun i _ h1 h2 => by have := h1.1; omega))
        have Vb := (J2.below hbl).keep (cb.same (fun i _ h1 h2 => by omega))
        have cXb := (cXY.alloc (.cells #[.int .i64 (-1), .int .i64 99999, .int .i64 100000] 3)).same_g cb
        clear hlit hb9 hR9 hbl cb J1 J2 cXY rY HbY hRY x0 x1 x2 x3 x4 x5 x6 xf
        have J1 := Kb
        have J2 := Vb
        have cXY := cXb
        have rY := rb
        have hRY := hRb
        obtain ⟨x0, x1, x2, x3, x4, x5, x6, xf⟩ := sev hbb
        have HbY := Lib.hid hbb
        clear hbb Kb Vb cXb rb hRb
        generalize hZ : wb.setCell ⟨w1.heap.size, 0, none⟩ (.int .i64 x) = Z
        obtain ⟨hbZ', cz⟩ := box1 HbY.out hZ
        have hbZ : Z.heap[w1.heap.size]? = some (.cells #[.int .i64 x, .bool true, .int .i64 tt, .slice B1 xs1.length d1, .slice B2 xs2.length d2, .bool has1, .bool (!has2)] 42 (0, 0)) := by simpa using hbZ'
        have HRZ0 := Lib.hid (cz.blk hRY (by omega))
        have KZ := J1.keep (cz.same (fun i _ h1 h2 => by have := h1.1; omega))
        have VZ := J2.keep (cz.same (fun i hi h1 h2 => by omega))
        have cZ := cXY.then cz (fun i hi hb => by omega)
        have rZ := rY.chg cz (fun b hb => by omega)
        clear cz hbZ' hRY J1 J2 cXY rY
        have hRZ := HRZ0.out
        obtain ⟨p0, p1, p2, p3, p4, p5, p6, pf⟩ := sev hbZ
        obtain ⟨a0, a1, a2, a3, a4, a5, a6, af⟩ := sev hRZ
        have HKZ := Lib.hid KZ
        have HVZ := Lib.hid VZ
        have HCZ := Lib.hid cZ
        have hltr := blk_lt2 hRZ
        clear KZ VZ cZ hbZ hRZ HRZ0
        go_wp2
        all_goals
          refine bodyPost_ret (v := .agg #[.int .i64 x, .bool true, .int .i64 tt, .slice B1 xs1.length d1, .slice B2 xs2.length d2, .bool has1, .bool (!has2)]) (by simp [results, Tryd.results12, go_sem, a0, a1, a2, a3, a4, a5, a6, hltr]) rfl ?_
          refine fin_o (X := Z) ⟨x, true, tt, xs1, xs2, has1, (!has2)⟩ B1 B2 d1 d2 ?_ HL.out.1 HL.out.2 (HKZ.out.mono (fun b hb => by have := hb.1; omega)) (HVZ.out.mono (fun b hb => by omega)) rZ (by omega) HCZ.out hg0
          exact (Chg.refl _ Z).put.put.put.put.put.put.put
    · generalize hZ : Y.setCell ⟨w1.heap.size, 1, none⟩ (.bool false) = Z
      obtain ⟨hbZ', cz⟩ := box1 HbY.out hZ
      have hbZ : Z.heap[w1.heap.size]? = some (.cells #[.int .i64 off, .bool false, .int .i64 tt, .slice B1 xs1.length d1, .slice B2 xs2.length d2, .bool has1, .bool (!has2)] 42 (0, 0)) := by simpa using hbZ'
      have HRZ0 := Lib.hid (cz.blk hRY (by omega))
      have KZ := J1.keep (cz.same (fun i _ h1 h2 => by have := h1.1; omega))
      have VZ := J2.keep (cz.same (fun i hi h1 h2 => by omega))
      have cZ := cXY.then cz (fun i hi hb => by omega)
      have rZ := rY.chg cz (fun b hb => by omega)
      clear cz hbZ' hRY J1 J2 cXY rY
      have hRZ := HRZ0.out
      obtain ⟨p0, p1, p2, p3, p4, p5, p6, pf⟩ := sev hbZ
      obtain ⟨a0, a1, a2, a3, a4, a5, a6, af⟩ := sev hRZ
      have HKZ := Lib.hid KZ
      have HVZ := Lib.hid VZ
      have HCZ := Lib.hid cZ
      have hltr := blk_lt2 hRZ
      clear KZ VZ cZ hbZ hRZ HRZ0
      go_wp2
      all_goals
        refine bodyPost_ret (v := .agg #[.int .i64 off, .bool false, .int .i64 tt, .slice B1 xs1.length d1, .slice B2 xs2.length d2, .bool has1, .bool (!has2)]) (by simp [results, Tryd.results12, go_sem, a0, a1, a2, a3, a4, a5, a6, hltr]) rfl ?_
        refine fin_o (X := Z) ⟨off, false, tt, xs1, xs2, has1, (!has2)⟩ B1 B2 d1 d2 ?_ HL.out.1 HL.out.2 (HKZ.out.mono (fun b hb => by have := hb.1; omega)) (HVZ.out.mono (fun b hb => by omega)) rZ (by omega) HCZ.out hg0
        exact (Chg.refl _ Z).put.put.put.put.put.put.put
set_option maxRecDepth 20000 in
set_option maxHeartbeats 4000000 in
theorem DrawOldTurn_any (bs0 : List Int) (A : Option Addr) (c : Nat) (F : Nat → Prop) (w : World) (h : Kind.byte.Row w F A c bs0) :
    Calls Tryd.prog 4 #[.slice A bs0.length c] w fun e w' => ∃ (ms : List Old') (A' : Option Addr) (c' : Nat) (pk : Bool), e = .returned (.tuple #[.slice A' ms.length c', .bool pk]) ∧
      (∀ m ∈ ms, m.tiny) ∧ Olds w' (fun b => w.heap.size ≤ b) A' c' ms ∧ Below w.heap.size w w' := by
  go_enter Tryd.func4, Tryd.ntmps4
  go_wp2_with fail
  refine (l6Open_any bs0 A c F _ h).mono ?_
  rintro e w1 ⟨g, rfl, hg, hR, hb1⟩
  have r1 : RdN w1 g 0 := ⟨0, Nat.le_refl _, hR⟩
  have hg1 := r1.lt
  clear hR
  go_wp2_with fail
  have A1 := App.lit Kind.old 42 w1 w1.heap.size (Nat.le_refl _)
  have C1 := (Chg.refl (fun b => b = g) w1).alloc (.cells #[] 42)
  refine (pickN g _ 5 _ (r1.below (bal _ _)) (by omega) (by omega) (by omega)).mono ?_
  rintro e w2 ⟨v2, rfl, a2, b2, r2, c2⟩
  have A2 := AppP.chg A1 c2 (fun b _ h1 h2 => by omega)
  have C2 := C1.same_g c2
  clear A1 C1 c2 r1
  go_wp2_with fail
  refine (pickN g _ 20 _ r2 (by omega) (by omega) (by omega)).mono ?_
  rintro e w3 ⟨v3, rfl, a3, b3, r3, c3⟩
  have A3 := AppP.chg A2 c3 (fun b _ h1 h2 => by omega)
  have C3 := C2.same_g c3
  clear A2 C2 c3 r2
  generalize hv0 : Value.slice (some ⟨w1.heap.size, 0, none⟩) 0 0 = v0 at A3
  cases ht3 : (v3 == 0)
  · obtain ⟨n, hn, hn7⟩ : ∃ n : Nat, 1 + v2 = (n : Int) ∧ n ≤ 7 := ⟨(1 + v2).toNat, by omega, by omega⟩
    go_wp2_with fail
    refine (pickN g _ 30 _ r3 (by omega) (by omega) (by omega)).mono ?_
    rintro e w5 ⟨v5, rfl, a5, b5, r5, c5⟩
    have A5 := AppP.chg A3 c5 (fun b _ h1 h2 => by omega)
    have C5 := Lib.hid (C3.same_g c5)
    clear A3 C3 c5 r3
    go_wp2_with fail
    try rw [hn]
    clear hv0
    go_loopw [5, 7, 8] (fun v o i wr => ∃ (k : Nat) (ms : List Old') (oo : Int), o = .int .i64 oo ∧ k ≤ n ∧ i = .int .i64 (k : Int) ∧ ms.length = k ∧ Hid (∀ m ∈ ms, m.tiny) ∧ App Kind.old 42 wr w1.heap.size v ms ∧ RdN wr g (4 + 62 * k) ∧ Hid (Chg (fun b => b = g) w1 wr)) (fun _ _ i _ => n - (intOf i).toNat)
    case atStart => exact ⟨0, [], v5, rfl, Nat.zero_le _, rfl, rfl, Lib.hid (fun _ h => by simp at h), A5, r5.le (by omega), C5⟩
    case round =>
      obtain ⟨k, ms, oo, rfl, hk, rfl, hml, HT, HA, HR, HC⟩ := hrel
      have hgr := HR.lt
      have hsz := HC.out.size
      clear A5 r5 C5
      by_cases hlt : k < n
      · go_wp2_with fail
        refine (l91Old_any g _ oo _ HR (by omega)).mono ?_
        rintro e w6 ⟨m, Ak, Av, ck, cv, rfl, m1, m2, hmk, hmv, r6, c6⟩
        have hs6 := c6.size
        have HA6 := HA.chg c6 (fun b _ h1 h2 => by omega)
        have HC6 := Lib.hid (HC.out.same_g c6)
        have hol := Lib.hid (fun b (hb : Value.ownBlock _ = some b) => HA.own_lt hb)
        have HKK := Lib.hid (show Kind.old.K w6 (fun b => wr.heap.size ≤ b ∧ b < w6.heap.size) m [.int .i64 m.off, .bool m.timed, .int .i64 m.time, .slice Ak m.key.length ck, .slice Av m.val.length cv, .bool m.hk, .bool m.miss] from ⟨_, _, _, _, rfl, Kind.Row.lts lts_int (by decide) hmk, Kind.Row.lts lts_int (by decide) hmv⟩)
        clear HA HR HC c6 hmk hmv
        go_wp2_with (at_builtin; go_loud (refine wpList_app Kind.old HA6 rfl _ _ 23 (.agg #[.int .i64 0, .bool false, .int .i64 0, .slice none 0 0, .slice none 0 0, .bool false, .bool false]) 80 rfl Tryd.underlying23 (by kernel_rfl) rfl (by decide) m _ _ rfl rfl HKK.out ?_ ?_ ?_ ?_ ?_ ?_))
        · exact fun b hb => ⟨by omega, hb.2, fun h => by have := hol.out b h; omega⟩
        · simp [Value.oneCell']
        · omega
        · omega
        · omega
        intro u1 W1 HA3 hc7
        have hc8 := Lib.hid (HC6.out.then hc7 (fun i hi hb => absurd (HA6.ne hb) (by omega)))
        have r7 := (r6.chg hc7 (fun b hb => Nat.lt_of_lt_of_le hg1 (HA6.ne hb)))
        clear hc7 HC6 HA6 HKK hol r6
        go_wp2_with fail
        refine (pickN g _ 3 _ r7 (by omega) (by omega) (by omega)).mono ?_
        rintro e w8 ⟨v8, rfl, a8, b8, r8, c8⟩
        go_wp2_with fail
        refine (pickN g _ 20 _ r8 (by omega) (by omega) (by omega)).mono ?_
        rintro e w9 ⟨v9, rfl, a9, b9, r9, c9⟩
        have HA9 := (HA3.chg c8 (fun b _ h1 h2 => by omega)).chg c9 (fun b _ h1 h2 => by omega)
        have HC9 := Lib.hid ((hc8.out.same_g c8).same_g c9)
        have HT9 := Lib.hid (otiny_add HT.out (show m.tiny from ⟨m1, m2⟩))
        clear c8 c9 HA3 hc8
        go_wp2
        go_roundw
        case rel => exact ⟨k + 1, _, _, rfl, by omega, by go_num, by simp [hml], HT9, HA9, r9.le (by omega), HC9⟩
        case measure => simp [intOf]; omega
      · subst hml
        go_wp2_with fail
        refine (pickN g _ 2 _ HR (by omega) (by omega) (by omega)).mono ?_
        rintro e w9 ⟨v9, rfl, a9, b9, r9, c9⟩
        have HA9 := HA.chg c9 (fun b _ h1 h2 => by omega)
        have hc9 := HC.out.same_g c9
        have HB := Lib.hid (hb1.trans (hc9.below hb1.size (fun i hi => by omega)))
        have hs1 := hb1.size
        obtain ⟨Ao, co, rfl, ro⟩ := AppP.row HA9
        have HRO := Lib.hid (ro.mono (F' := fun b => w.heap.size ≤ b) (fun b (hb : w1.heap.size ≤ b) => by omega))
        clear ro HA9 hc9 c9 HA HC
        go_wp2
        exact bodyPost_ret (v := .tuple #[.slice Ao ms.length co, .bool (v9 == 0)]) (by simp [results, Tryd.results4, go_sem]) rfl ⟨ms, Ao, co, v9 == 0, rfl, HT.out, HRO.out, HB.out⟩
  · go_wp2_with fail
    have C4 := C3.alloc (.cells #[.int .i64 0, .int .i64 6, .int .i64 7] 3)
    have A4 := AppP.below A3 (bal w3 (.cells #[.int .i64 0, .int .i64 6, .int .i64 7] 3))
    refine (pickN g _ 3 _ (r3.below (bal _ _)) (by omega) (by omega) (by omega)).mono ?_
    rintro e w4 ⟨v4, rfl, a4, b4, r4, c4⟩
    have hne : ¬ (w3.heap.size = g) := by have := r3.lt; omega
    have hlit := c4.blk (heap_alloc_new w3 (.cells #[.int .i64 0, .int .i64 6, .int .i64 7] 3)) hne
    obtain ⟨x, hxm, hx⟩ := lit_in [0, 6, 7] hlit a4 b4
    obtain ⟨n, hn, hn7⟩ : ∃ n : Nat, x = (n : Int) ∧ n ≤ 7 := by
      simp at hxm
      exact ⟨x.toNat, by omega, by omega⟩
    subst hn
    have A4 := AppP.chg A4 c4 (fun b _ h1 h2 => by omega)
    have C4 := C4.same_g c4
    clear hlit c4 A3 C3 r3 hxm
    go_wp2_with fail
    refine (pickN g _ 30 _ r4 (by omega) (by omega) (by omega)).mono ?_
    rintro e w5 ⟨v5, rfl, a5, b5, r5, c5⟩
    have A5 := AppP.chg A4 c5 (fun b _ h1 h2 => by omega)
    have C5 := Lib.hid (C4.same_g c5)
    clear A4 C4 c5 r4
    go_wp2_with fail
    clear hv0
    go_loopw [5, 7, 8] (fun v o i wr => ∃ (k : Nat) (ms : List Old') (oo : Int), o = .int .i64 oo ∧ k ≤ n ∧ i = .int .i64 (k : Int) ∧ ms.length = k ∧ Hid (∀ m ∈ ms, m.tiny) ∧ App Kind.old 42 wr w1.heap.size v ms ∧ RdN wr g (4 + 62 * k) ∧ Hid (Chg (fun b => b = g) w1 wr)) (fun _ _ i _ => n - (intOf i).toNat)
    case atStart => exact ⟨0, [], v5, rfl, Nat.zero_le _, rfl, rfl, Lib.hid (fun _ h => by simp at h), A5, r5.le (by omega), C5⟩
    case round =>
      obtain ⟨k, ms, oo, rfl, hk, rfl, hml, HT, HA, HR, HC⟩ := hrel
      have hgr := HR.lt
      have hsz := HC.out.size
      clear A5 r5 C5
      by_cases hlt : k < n
      · go_wp2_with fail
        refine (l91Old_any g _ oo _ HR (by omega)).mono ?_
        rintro e w6 ⟨m, Ak, Av, ck, cv, rfl, m1, m2, hmk, hmv, r6, c6⟩
        have hs6 := c6.size
        have HA6 := HA.chg c6 (fun b _ h1 h2 => by omega)
        have HC6 := Lib.hid (HC.out.same_g c6)
        have hol := Lib.hid (fun b (hb : Value.ownBlock _ = some b) => HA.own_lt hb)
        have HKK := Lib.hid (show Kind.old.K w6 (fun b => wr.heap.size ≤ b ∧ b < w6.heap.size) m [.int .i64 m.off, .bool m.timed, .int .i64 m.time, .slice Ak m.key.length ck, .slice Av m.val.length cv, .bool m.hk, .bool m.miss] from ⟨_, _, _, _, rfl, Kind.Row.lts lts_int (by decide) hmk, Kind.Row.lts lts_int (by decide) hmv⟩)
        clear HA HR HC c6 hmk hmv
        go_wp2_with (at_builtin; go_loud (refine wpList_app Kind.old HA6 rfl _ _ 23 (.agg #[.int .i64 0, .bool false, .int .i64 0, .slice none 0 0, .slice none 0 0, .bool false, .bool false]) 80 rfl Tryd.underlying23 (by kernel_rfl) rfl (by decide) m _ _ rfl rfl HKK.out ?_ ?_ ?_ ?_ ?_ ?_))
        · exact fun b hb => ⟨by omega, hb.2, fun h => by have := hol.out b h; omega⟩
        · simp [Value.oneCell']
        · omega
        · omega
        · omega
        intro u1 W1 HA3 hc7
        have hc8 := Lib.hid (HC6.out.then hc7 (fun i hi hb => absurd (HA6.ne hb) (by omega)))
        have r7 := (r6.chg hc7 (fun b hb => Nat.lt_of_lt_of_le hg1 (HA6.ne hb)))
        clear hc7 HC6 HA6 HKK hol r6
        go_wp2_with fail
        refine (pickN g _ 3 _ r7 (by omega) (by omega) (by omega)).mono ?_
        rintro e w8 ⟨v8, rfl, a8, b8, r8, c8⟩
        go_wp2_with fail
        refine (pickN g _ 20 _ r8 (by omega) (by omega) (by omega)).mono ?_
        rintro e w9 ⟨v9, rfl, a9, b9, r9, c9⟩
        have HA9 := (HA3.chg c8 (fun b _ h1 h2 => by omega)).chg c9 (fun b _ h1 h2 => by omega)
        have HC9 := Lib.hid ((hc8.out.same_g c8).same_g c9)
        have HT9 := Lib.hid (otiny_add HT.out (show m.tiny from ⟨m1, m2⟩))
        clear c8 c9 HA3 hc8
        go_wp2
        go_roundw
        case rel => exact ⟨k + 1, _, _, rfl, by omega, by go_num, by simp [hml], HT9, HA9, r9.le (by omega), HC9⟩
        case measure => simp [intOf]; omega
      · subst hml
        go_wp2_with fail
        refine (pickN g _ 2 _ HR (by omega) (by omega) (by omega)).mono ?_
        rintro e w9 ⟨v9, rfl, a9, b9, r9, c9⟩
        have HA9 := HA.chg c9 (fun b _ h1 h2 => by omega)
        have hc9 := HC.out.same_g c9
        have HB := Lib.hid (hb1.trans (hc9.below hb1.size (fun i hi => by omega)))
        have hs1 := hb1.size
        obtain ⟨Ao, co, rfl, ro⟩ := AppP.row HA9
        have HRO := Lib.hid (ro.mono (F' := fun b => w.heap.size ≤ b) (fun b (hb : w1.heap.size ≤ b) => by omega))
        clear ro HA9 hc9 c9 HA HC
        go_wp2
        exact bodyPost_ret (v := .tuple #[.slice Ao ms.length co, .bool (v9 == 0)]) (by simp [results, Tryd.results4, go_sem]) rfl ⟨ms, Ao, co, v9 == 0, rfl, HT.out, HRO.out, HB.out⟩
end Go.Proofs.YtgnjnpfeofhniaaDoor
