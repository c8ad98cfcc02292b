/- Draws: one record. -/
import Derived.Test.YtgnjnpfeofhniaaD3
namespace Go.Proofs.Ytgnjnpfeofhniaa
set_option linter.unusedVariables false
set_option linter.unusedSimpArgs false
open Go.RowKit

theorem boxes4 {X W : World} {B : Nat} {t : TypeId} {a b c d e f p q u v : Value} (hb : X.heap[B]? = some (.cells #[a, b, c, d, e, f] t (0, 0))) (hW : (((X.setCell ⟨B, 2, none⟩ p).setCell ⟨B, 3, none⟩ q).setCell ⟨B, 4, none⟩ u).setCell ⟨B, 5, none⟩ v = W) :
    W.heap[B]? = some (.cells #[a, b, p, q, u, v] t (0, 0)) ∧ Chg (fun b => b = B) X W := by
  subst hW
  exact ⟨by simpa using blk_put (blk_put (blk_put (blk_put hb 2 p) 3 q) 4 u) 5 v, (((Chg.set (fun b => b = B) X (p := ⟨B, 2, none⟩) rfl _).trans (Chg.set (fun b => b = B) _ (p := ⟨B, 3, none⟩) rfl _)).trans (Chg.set (fun b => b = B) _ (p := ⟨B, 4, none⟩) rfl _)).trans (Chg.set (fun b => b = B) _ (p := ⟨B, 5, none⟩) rfl _)⟩

theorem Chg.put_ {B i : Nat} {u : Value} {a b : World} (h : Chg (fun x => x = B) a b) : Chg (fun x => x = B) a (b.setCell ⟨B, i, none⟩ u) := h.trans (Chg.set (fun x => x = B) b (p := ⟨B, i, none⟩) rfl u)
theorem box_at {X W : World} {B i : Nat} {t : TypeId} {cs : Array Value} {u : Value} (hb : X.heap[B]? = some (.cells cs t (0, 0))) (hW : X.setCell ⟨B, i, none⟩ u = W) :
    W.heap[B]? = some (.cells (cs.setIfInBounds i u) t (0, 0)) ∧ Chg (fun b => b = B) X W := by
  subst hW
  exact ⟨blk_put hb i u, (Chg.refl _ X).put_⟩
theorem ints_lts {w : World} {F : Nat → Prop} {A : Option Addr} {c : Nat} {xs : List Int} (h : Ints w F A c xs) : Ints w (fun b => F b ∧ b < w.heap.size) A c xs := by
  refine ⟨h.1, h.2.1, fun hx => ?_⟩
  obtain ⟨ad, e, hF, hc⟩ := h.2.2 hx
  refine ⟨ad, e, ⟨hF, ?_⟩, hc⟩
  match xs, hx with
  | x :: t, _ =>
    obtain ⟨cs, hK, hcell⟩ := hc 0 x rfl
    have hl := (Kind.int .i64).len hK
    have hs : 0 < (Kind.int .i64).sz := by decide
    have hg : cs[0]? = some cs[0] := List.getElem?_eq_getElem (by omega)
    have := cell_lt (hcell 0 _ hg)
    rw [add_block] at this
    exact this

theorem fin_r {X W' w : World} {g M N : Nat} (r : Rec) (Ak Av : Option Addr) (ck cv : Nat) (cF : Chg (fun x => x = w.heap.size) X W') (h1 : r.key.length ≤ 12) (h2 : r.val.length ≤ 13)
    (hk : Ints X (fun b => w.heap.size < b) Ak ck r.key) (hv : Ints X (fun b => w.heap.size < b) Av cv r.val) (hr : RdN X g M) (hM : M ≤ N) (hc : Chg (fun b => b = g) w X) (hg : g < w.heap.size) :
    ∃ (r' : Rec) (Ak' Av' : Option Addr) (ck' cv' : Nat), Ending.returned (.agg #[.int .i64 r.off, .int .i64 r.time, .bool r.hk, .slice Ak r.key.length ck, .bool r.hv, .slice Av r.val.length cv]) =
        Ending.returned (.agg #[.int .i64 r'.off, .int .i64 r'.time, .bool r'.hk, .slice Ak' r'.key.length ck', .bool r'.hv, .slice Av' r'.val.length cv']) ∧ r'.key.length ≤ 12 ∧ r'.val.length ≤ 13 ∧
      Ints W' (fun b => w.heap.size ≤ b) Ak' ck' r'.key ∧ Ints W' (fun b => w.heap.size ≤ b) Av' cv' r'.val ∧ RdN W' g N ∧ Chg (fun b => b = g) w W' :=
  ⟨r, Ak, Av, ck, cv, rfl, h1, h2, (hk.keep (cF.same (fun i _ h1 h2 => by omega))).mono (fun b hb => Nat.le_of_lt hb), (hv.keep (cF.same (fun i _ h1 h2 => by omega))).mono (fun b hb => Nat.le_of_lt hb),
    (hr.chg cF (fun b hb => by omega)).le hM, hc.then cF (fun i hi hb => by omega)⟩

theorem l91Record_any (g N : Nat) (w : World) (h : RdN w g N) (hN : N ≤ 800000) :
    Calls Try.prog 11 #[.pointer (some ⟨g, 0, none⟩)] w fun e w' => ∃ (r : Rec) (Ak Av : Option Addr) (ck cv : Nat),
      e = .returned (.agg #[.int .i64 r.off, .int .i64 r.time, .bool r.hk, .slice Ak r.key.length ck, .bool r.hv, .slice Av r.val.length cv]) ∧ r.key.length ≤ 12 ∧ r.val.length ≤ 13 ∧
      Ints w' (fun b => w.heap.size ≤ b) Ak ck r.key ∧ Ints w' (fun b => w.heap.size ≤ b) Av cv r.val ∧ RdN w' g (N + 62) ∧ Chg (fun b => b = g) w w' := by
  have hg0 := h.lt
  go_enter Try.func11, Try.ntmps11
  go_wp2_with fail
  generalize hW0 : w.alloc _ = W0
  obtain ⟨hb0, hbl0, hs0⟩ := alloc1 hW0
  clear hW0
  have cA := Chg.of_below (F := fun b => b = g) hbl0
  refine (pickN g N 60 _ (h.below hbl0) (by omega) (by omega) (by omega)).mono ?_
  rintro e w1 ⟨v1, rfl, a1, b1, r1, c1⟩
  go_wp2_with fail
  refine (pickN g _ 250 _ r1 (by omega) (by omega) (by omega)).mono ?_
  rintro e w2 ⟨v2, rfl, a2, b2, r2, c2⟩
  go_wp2_with fail
  refine (pickN g _ 2 _ r2 (by omega) (by omega) (by omega)).mono ?_
  rintro e w3 ⟨v3, rfl, a3, b3, r3, c3⟩
  go_wp2_with fail
  refine (pickN g _ 100 _ r3 (by omega) (by omega) (by omega)).mono ?_
  rintro e w4 ⟨v4, rfl, a4, b4, r4, c4⟩
  have hb4 := c4.blk (c3.blk (c2.blk (c1.blk hb0 (by omega)) (by omega)) (by omega)) (by omega)
  have cA4 := (((cA.same_g c1).same_g c2).same_g c3).same_g c4
  have hs4 := cA4.size
  have hz4 := c4.size
  have hz3 := c3.size
  have hz2 := c2.size
  have hz1 := c1.size
  clear hb0 hbl0 cA c1 c2 c3 c4 r1 r2 r3
  go_wp2_with fail
  generalize hX0 : w4.alloc _ = X0
  obtain ⟨hx0, bx0, hsx0⟩ := alloc1 hX0
  clear hX0
  obtain ⟨tt, hx0⟩ : ∃ tt, X0.heap[w4.heap.size]? = some (.cells #[.int .i64 v1, .int .i64 tt, .bool false, .slice none 0 0, .bool false, .slice none 0 0] 25 (0, 0)) := ⟨_, hx0⟩
  have hR0 := blk_below hb4 bx0
  have cX0 := cA4.then (Chg.of_below (F := fun _ => False) bx0) (fun _ _ h => h.elim)
  have rX0 := r4.below bx0
  have hg4 := r4.lt
  clear hb4 cA4 r4 bx0
  refine (l91Part_any g _ _ rX0 (by omega)).mono ?_
  rintro e w5 ⟨has1, xs1, kv1, rfl, hl1, K1, r5, c5⟩
  have hb5 := c5.blk hx0 (by omega)
  have hR5 := c5.blk hR0 (by omega)
  have cX5 := cX0.same_g c5
  have hs5 := c5.size
  clear hx0 hR0 cX0 rX0 c5
  go_wp2_with fail
  refine (l91Part_any g _ _ r5 (by omega)).mono ?_
  rintro e w6 ⟨has2, xs2, kv2, rfl, hl2, K2, r6, c6⟩
  have hb6 := c6.blk hb5 (by omega)
  have hR6 := c6.blk hR5 (by omega)
  have cX6 := cX5.same_g c6
  have hs6 := c6.size
  obtain ⟨B1, d1, rfl, J1⟩ := K1.row
  have J1 := (ints_lts J1).keep (c6.same (fun i _ h1 h2 => by have := h1.1; omega))
  have HL := Lib.hid (show xs1.length ≤ 12 ∧ xs2.length ≤ 12 from ⟨hl1, hl2⟩)
  clear hb5 hR5 cX5 r5 c6 K1 hl1 hl2
  obtain ⟨B2, d2, rfl, _, _⟩ := K2.slice_
  have Hb6 := Lib.hid hb6
  obtain ⟨q0, q1, q2, q3, q4, q5, qf⟩ := six hb6
  clear hb6
  go_wp2_with fail
  generalize hX : World.setCell _ _ _ = X
  obtain ⟨hbX, cX⟩ := boxes4 Hb6.out hX
  have hRX := cX.blk hR6 (by omega)
  have cX7 := cX6.then cX (fun i hi hb => by omega)
  have J1 := J1.keep (cX.same (fun i _ h1 h2 => by have := h1.1; omega))
  have K2 := AppP.chg K2 cX (fun b _ h1 h2 => by omega)
  have rX := r6.chg cX (fun b hb => by omega)
  have hsX := cX.size
  clear cX cX6 hR6 Hb6 r6 hX q0 q1 q2 q3 q4 q5 qf
  refine (pickN g _ 40 _ rX (by omega) (by omega) (by omega)).mono ?_
  rintro e Y ⟨vy, rfl, ay, by_, rY, cY⟩
  have hbY := cY.blk hbX (by omega)
  have hRY := cY.blk hRX (by omega)
  have cXY := cX7.same_g cY
  have J1 := J1.keep (cY.same (fun i _ h1 h2 => by have := h1.1; omega))
  have K2 := AppP.chg K2 cY (fun b _ h1 h2 => by omega)
  have hsY := cY.size
  have hwY : w.heap.size < Y.heap.size := by omega
  clear cY cX7 hRX hbX rX
  obtain ⟨A2, e2, hae, J2⟩ := K2.row
  obtain ⟨rfl, rfl⟩ : B2 = A2 ∧ d2 = e2 := by injection hae with e1 e2 e3; exact ⟨e1, e3⟩
  clear hae
  obtain ⟨x0, x1, x2, x3, x4, x5, xf⟩ := six hbY
  have HbY := Lib.hid hbY
  clear hbY
  cases hta : (vy == 0)
  · cases htb : (vy == 1)
    · cases htc : (vy == 2)
      · have hbZ := HbY.out
        have hRZ := hRY
        have KZ := J1
        have VZ := J2
        have rZ := rY
        have cZ := cXY
        have HLZ := Lib.hid (show xs2.length ≤ 13 by have := HL.out.2; omega)
        clear K2 J1 J2 cXY hRY rY x0 x1 x2 x3 x4 x5 xf
        obtain ⟨Z, rfl⟩ : ∃ Z, Z = Y := ⟨_, rfl⟩
        obtain ⟨p0, p1, p2, p3, p4, p5, pf⟩ := six hbZ
        obtain ⟨a0, a1, a2, a3, a4, a5, af⟩ := six hRZ
        have HKZ := Lib.hid KZ
        have HVZ := Lib.hid VZ
        have HCZ := Lib.hid cZ
        clear KZ VZ cZ hbZ hRZ
        go_wp2
        all_goals
          refine bodyPost_ret (v := .agg #[.int .i64 v1, .int .i64 tt, .bool has1, .slice B1 xs1.length d1, .bool has2, .slice B2 xs2.length d2]) (by simp [results, Try.results11, go_sem, a0, a1, a2, a3, a4, a5]) rfl ?_
          refine fin_r (X := Z) ⟨v1, tt, has1, xs1, has2, xs2⟩ B1 B2 d1 d2 ?_ HL.out.1 HLZ.out (HKZ.out.mono (fun b hb => by have := hb.1; omega)) (HVZ.out.mono (fun b hb => by omega)) rZ (by omega) HCZ.out hg0
          exact (Chg.refl _ Z).put_.put_.put_.put_.put_.put_
      · have hv2 := HL.out.2
        go_wp2_with (at_builtin; go_loud (refine wpList_app (Kind.int .i64) K2 rfl _ _ 23 (.int .i64 0) 8 rfl Try.underlying23 (by kernel_rfl) rfl (by decide) 256 [.int .i64 256] (fun _ => False) rfl rfl rfl ?_ ?_ ?_ ?_ ?_ ?_))
        · exact fun _ h => h.elim
        · simp [Value.oneCell']
        · omega
        · omega
        · omega
        intro u1 W1 HA3 hc7
        obtain ⟨A3, d3, rfl, J3⟩ := AppP.row HA3
        have hb7 := hc7.blk HbY.out (fun hb => by have := AppP.ne K2 hb; omega)
        have hR7 := hc7.blk hRY (fun hb => by have := AppP.ne K2 hb; omega)
        have c7 := cXY.then hc7 (fun i hi hb => absurd (AppP.ne K2 hb) (by omega))
        have r7 := rY.chg hc7 (fun b hb => by have := AppP.ne K2 hb; omega)
        have KZ := J1.keep (hc7.same (fun i _ h1 h2 => by have := AppP.ne K2 h2; have := h1.2; omega))
        have hs7 := hc7.size
        have HLZ := Lib.hid (show (xs2 ++ [256]).length ≤ 13 by simp; omega)
        generalize hys : xs2 ++ [256] = ys at J3 HLZ
        clear hc7 cXY hRY rY K2 HA3 J2 J1 x0 x1 x2 x3 x4 x5 xf hv2
        have Hb7 := Lib.hid hb7
        obtain ⟨x0, x1, x2, x3, x4, x5, xf⟩ := six hb7
        clear hb7
        generalize hZ : W1.setCell ⟨w4.heap.size, 5, none⟩ (.slice A3 ys.length d3) = Z
        obtain ⟨hbZ', cz⟩ := box_at Hb7.out hZ
        have hbZ : Z.heap[w4.heap.size]? = some (.cells #[.int .i64 v1, .int .i64 tt, .bool has1, .slice B1 xs1.length d1, .bool has2, .slice A3 ys.length d3] 25 (0, 0)) := by simpa using hbZ'
        have hRZ := cz.blk hR7 (by omega)
        have KZ := KZ.keep (cz.same (fun i _ h1 h2 => by have := h1.1; omega))
        have VZ := J3.keep (cz.same (fun i hi h1 h2 => by omega))
        have cZ := c7.then cz (fun i hi hb => by omega)
        have rZ := r7.chg cz (fun b hb => by omega)
        clear cz hbZ' hR7 c7 r7 J3
        obtain ⟨p0, p1, p2, p3, p4, p5, pf⟩ := six hbZ
        obtain ⟨a0, a1, a2, a3, a4, a5, af⟩ := six hRZ
        have HKZ := Lib.hid KZ
        have HVZ := Lib.hid VZ
        have HCZ := Lib.hid cZ
        clear KZ VZ cZ hbZ hRZ
        go_wp2
        all_goals
          refine bodyPost_ret (v := .agg #[.int .i64 v1, .int .i64 tt, .bool has1, .slice B1 xs1.length d1, .bool has2, .slice A3 ys.length d3]) (by simp [results, Try.results11, go_sem, a0, a1, a2, a3, a4, a5]) rfl ?_
          refine fin_r (X := Z) ⟨v1, tt, has1, xs1, has2, ys⟩ B1 A3 d1 d3 ?_ HL.out.1 HLZ.out (HKZ.out.mono (fun b hb => by have := hb.1; omega)) (HVZ.out.mono (fun b hb => by omega)) rZ (by omega) HCZ.out hg0
          exact (Chg.refl _ Z).put_.put_.put_.put_.put_.put_
    · obtain ⟨Z, hZ⟩ : ∃ Z, Z = Y.setCell ⟨w4.heap.size, 2, none⟩ (.bool (!has1)) := ⟨_, rfl⟩
      obtain ⟨hbZ', cz⟩ := box_at HbY.out hZ.symm
      have hbZ : Z.heap[w4.heap.size]? = some (.cells #[.int .i64 v1, .int .i64 tt, .bool (!has1), .slice B1 xs1.length d1, .bool has2, .slice B2 xs2.length d2] 25 (0, 0)) := by simpa using hbZ'
      have hRZ := cz.blk hRY (by omega)
      have KZ := J1.keep (cz.same (fun i _ h1 h2 => by have := h1.1; omega))
      have VZ := J2.keep (cz.same (fun i hi h1 h2 => by omega))
      have cZ := cXY.then cz (fun i hi hb => by omega)
      have rZ := rY.chg cz (fun b hb => by omega)
      have HLZ := Lib.hid (show xs2.length ≤ 13 by have := HL.out.2; omega)
      generalize hZ' : Y.setCell ⟨w4.heap.size, 2, none⟩ (.bool (!has1)) = Z' at hZ
      subst hZ
      clear cz hbZ' hRY J1 J2 K2 cXY rY
      obtain ⟨p0, p1, p2, p3, p4, p5, pf⟩ := six hbZ
      obtain ⟨a0, a1, a2, a3, a4, a5, af⟩ := six hRZ
      have HKZ := Lib.hid KZ
      have HVZ := Lib.hid VZ
      have HCZ := Lib.hid cZ
      clear KZ VZ cZ hbZ hRZ
      go_wp2
      all_goals
        refine bodyPost_ret (v := .agg #[.int .i64 v1, .int .i64 tt, .bool (!has1), .slice B1 xs1.length d1, .bool has2, .slice B2 xs2.length d2]) (by simp [results, Try.results11, go_sem, a0, a1, a2, a3, a4, a5]) rfl ?_
        refine fin_r (X := Z) ⟨v1, tt, (!has1), xs1, has2, xs2⟩ B1 B2 d1 d2 ?_ HL.out.1 HLZ.out (HKZ.out.mono (fun b hb => by have := hb.1; omega)) (HVZ.out.mono (fun b hb => by omega)) rZ (by omega) HCZ.out hg0
        exact (Chg.refl _ Z).put_.put_.put_.put_.put_.put_
  · have hbl := bal Y (.cells #[.int .i64 (-1), .int .i64 99999, .int .i64 100000] 3)
    have hb9 := blk_below HbY.out hbl
    have hR9 := blk_below hRY hbl
    go_wp2_with fail
    refine (pickN g _ 3 _ (rY.below hbl) (by omega) (by omega) (by omega)).mono ?_
    rintro e wb ⟨vb, rfl, ab, bb, rb, cb⟩
    have hne : ¬ (Y.heap.size = g) := by have := rY.lt; omega
    have hlit := cb.blk (heap_alloc_new Y (.cells #[.int .i64 (-1), .int .i64 99999, .int .i64 100000] 3)) hne
    obtain ⟨x, hx⟩ := lit_at [-1, 99999, 100000] hlit ab bb
    have hbb := cb.blk hb9 (by omega)
    have hRb := cb.blk hR9 (by omega)
    have hsb := cb.size
    have Kb := (J1.below hbl).keep (cb.same (fun i _ h1 h2 => by have := h1.1; omega))
    have Vb := (J2.below hbl).keep (cb.same (fun i _ h1 h2 => by omega))
    have cXb := (cXY.alloc (.cells #[.int .i64 (-1), .int .i64 99999, .int .i64 100000] 3)).same_g cb
    clear hlit hb9 hR9 hbl cb J1 J2 K2 cXY rY HbY hRY x0 x1 x2 x3 x4 x5 xf
    obtain ⟨x0, x1, x2, x3, x4, x5, xf⟩ := six hbb
    have Hbb := Lib.hid hbb
    clear hbb
    generalize hZ : wb.setCell ⟨w4.heap.size, 0, none⟩ (.int .i64 x) = Z
    obtain ⟨hbZ', cz⟩ := box_at Hbb.out hZ
    have hbZ : Z.heap[w4.heap.size]? = some (.cells #[.int .i64 x, .int .i64 tt, .bool has1, .slice B1 xs1.length d1, .bool has2, .slice B2 xs2.length d2] 25 (0, 0)) := by simpa using hbZ'
    have hRZ := cz.blk hRb (by omega)
    have KZ := Kb.keep (cz.same (fun i _ h1 h2 => by have := h1.1; omega))
    have VZ := Vb.keep (cz.same (fun i hi h1 h2 => by omega))
    have cZ := cXb.then cz (fun i hi hb => by omega)
    have rZ := rb.chg cz (fun b hb => by omega)
    have HLZ := Lib.hid (show xs2.length ≤ 13 by have := HL.out.2; omega)
    clear cz hbZ' hRb Kb Vb cXb rb
    obtain ⟨p0, p1, p2, p3, p4, p5, pf⟩ := six hbZ
    obtain ⟨a0, a1, a2, a3, a4, a5, af⟩ := six hRZ
    have HKZ := Lib.hid KZ
    have HVZ := Lib.hid VZ
    have HCZ := Lib.hid cZ
    clear KZ VZ cZ hbZ hRZ
    go_wp2
    all_goals
      refine bodyPost_ret (v := .agg #[.int .i64 x, .int .i64 tt, .bool has1, .slice B1 xs1.length d1, .bool has2, .slice B2 xs2.length d2]) (by simp [results, Try.results11, go_sem, a0, a1, a2, a3, a4, a5]) rfl ?_
      refine fin_r (X := Z) ⟨x, tt, has1, xs1, has2, xs2⟩ B1 B2 d1 d2 ?_ HL.out.1 HLZ.out (HKZ.out.mono (fun b hb => by have := hb.1; omega)) (HVZ.out.mono (fun b hb => by omega)) rZ (by omega) HCZ.out hg0
      exact (Chg.refl _ Z).put_.put_.put_.put_.put_.put_
end Go.Proofs.Ytgnjnpfeofhniaa
