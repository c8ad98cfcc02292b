/- Draws: batches. -/
import Derived.Test.YtdjhokmcpgjiiaaDoorD3
namespace Go.Proofs.YtdjhokmcpgjiiaaDoor
set_option linter.unusedVariables false
set_option linter.unusedSimpArgs false
open Go.RowKit

theorem Chg.put {B i : Nat} {u : Value} {a b : World} (h : Chg (fun x => x = B) a b) : Chg (fun x => x = B) a (b.setCell ⟨B, i, none⟩ u) := h.trans (Chg.set (fun x => x = B) b (p := ⟨B, i, none⟩) rfl u)
theorem box1 {X W : World} {B i : Nat} {t : TypeId} {cs : Array Value} {u : Value} (hb : X.heap[B]? = some (.cells cs t (0, 0))) (hW : X.setCell ⟨B, i, none⟩ u = W) :
    W.heap[B]? = some (.cells (cs.setIfInBounds i u) t (0, 0)) ∧ Chg (fun b => b = B) X W := by
  subst hW
  exact ⟨blk_put hb i u, (Chg.refl _ X).put⟩
theorem fin_b {X W' w : World} {g M N B : Nat} (b : Bat) (A : Option Addr) (c : Nat) (cF : Chg (fun x => x = w.heap.size) X W') (h1 : 1 ≤ b.recs.length) (h2 : b.recs.length ≤ 5) (ht : ∀ r ∈ b.recs, r.tiny)
    (hJ : Recs X (fun b => w.heap.size < b ∧ b ≠ B) A c b.recs) (hr : RdN X g M) (hM : M ≤ N) (hc : Chg (fun b => b = g) w X) (hg : g < w.heap.size) :
    ∃ (b' : Bat) (A' : Option Addr) (c' : Nat), Ending.returned (.agg #[.bool b.packed, .bool b.mark, .int .i64 b.prod, .int .i64 b.epoch, .int .i64 b.seq, .slice A b.recs.length c]) =
        Ending.returned (.agg #[.bool b'.packed, .bool b'.mark, .int .i64 b'.prod, .int .i64 b'.epoch, .int .i64 b'.seq, .slice A' b'.recs.length c']) ∧
      1 ≤ b'.recs.length ∧ b'.recs.length ≤ 5 ∧ (∀ r ∈ b'.recs, r.tiny) ∧ Recs W' (fun b => w.heap.size ≤ b) A' c' b'.recs ∧ RdN W' g N ∧ Chg (fun b => b = g) w W' :=
  ⟨b, A, c, rfl, h1, h2, ht, (hJ.keep (cF.same (fun i _ h1 h2 => by have := h1.1; omega))).mono (fun b hb => Nat.le_of_lt hb.1), (hr.chg cF (fun b hb => by omega)).le hM, hc.then cF (fun i hi hb => by omega)⟩
set_option maxHeartbeats 8000000 in
theorem l91Batch_any (g N : Nat) (off : Int) (w : World) (h : RdN w g N) (hN : N ≤ 700000) :
    Calls Tryd.prog 18 #[.pointer (some ⟨g, 0, none⟩), .int .i64 off] w fun e w' => ∃ (b : Bat) (A : Option Addr) (c : Nat),
      e = .returned (.agg #[.bool b.packed, .bool b.mark, .int .i64 b.prod, .int .i64 b.epoch, .int .i64 b.seq, .slice A b.recs.length c]) ∧ 1 ≤ b.recs.length ∧ b.recs.length ≤ 5 ∧ (∀ r ∈ b.recs, r.tiny) ∧
      Recs w' (fun b => w.heap.size ≤ b) A c b.recs ∧ RdN w' g (N + 260) ∧ Chg (fun b => b = g) w w' := by
  have hg0 := h.lt
  go_enter Tryd.func18, Tryd.ntmps18
  go_wp2_with fail
  generalize hW0 : w.alloc _ = W0
  obtain ⟨hb0, hbl0, hs0⟩ := alloc1 hW0
  have cA := Chg.of_below (F := fun b => b = g) hbl0
  refine (pickN g N 2 _ (h.below hbl0) (by omega) (by omega) (by omega)).mono ?_
  rintro e w1 ⟨v1, rfl, a1, b1, r1, c1⟩
  go_wp2_with fail
  refine (l91Records_any g _ off 4 _ r1 (by omega) (by omega) (by omega)).mono ?_
  rintro e w2 ⟨rs, kv, rfl, hl1, hl4, htiny, HA, r2, c2⟩
  have HT := Lib.hid htiny
  obtain ⟨A1, d1, rfl, hd1, hd2⟩ := HA.slice_
  have hb2 := c2.blk (c1.blk hb0 (by omega)) (by omega)
  have cA2 := (cA.same_g c1).same_g c2
  have hs1 := c1.size
  have hs2 := c2.size
  obtain ⟨q0, q1, q2, q3, q4, q5, qf⟩ := six hb2
  have Hb2 := Lib.hid hb2
  have HW0 := Lib.hid hW0
  clear htiny hb0 hb2 c1 c2 cA r1 hbl0 hW0
  go_wp2_with fail
  generalize hW3 : w2.alloc _ = W3
  obtain ⟨hb3, hbl3, hs3⟩ := alloc1 hW3
  have hR3 := blk_below Hb2.out hbl3
  have cA3 := cA2.then (Chg.of_below (F := fun _ => False) hbl3) (fun _ _ h => h.elim)
  have HA3 := AppP.below (AppP.mono (P' := fun b => w.heap.size < b ∧ b ≠ w2.heap.size) HA (fun b h1 h2 => ⟨by omega, by omega⟩)) hbl3
  have HW3 := Lib.hid hW3
  refine (pickN g _ 3 _ (r2.below hbl3) (by omega) (by omega) (by omega)).mono ?_
  rintro e X ⟨v3, rfl, a3, b3, rX, c3⟩
  have hbX := c3.blk hb3 (by omega)
  have hRX := c3.blk hR3 (by omega)
  have HAX := HA3.chg c3 (fun b _ h1 h2 => by omega)
  have cX := cA3.same_g c3
  have hsX := c3.size
  clear hW3 hb3 hR3 HA3 cA3 c3 HA Hb2 cA2 r2 q0 q1 q2 q3 q4 q5 qf hbl3
  cases ht3 : (v3 == 0)
  · have hapX := HAX.row
    obtain ⟨x0, x1, x2, x3, x4, x5, xf⟩ := six hbX
    have HbX := Lib.hid hbX
    clear hbX
    go_wp2_with fail
    refine (pickN g _ 40 _ rX (by omega) (by omega) (by omega)).mono ?_
    rintro e wa ⟨va, rfl, aa, ba, ra, ca⟩
    have hba := ca.blk HbX.out (by omega)
    have hRa := ca.blk hRX (by omega)
    have HAa := HAX.chg ca (fun b _ h1 h2 => by omega)
    have cXa := cX.same_g ca
    have hsa := ca.size
    clear HbX hRX HAX cX ca rX x0 x1 x2 x3 x4 x5 xf
    obtain ⟨A', d', hAd, Ja⟩ := HAa.row
    obtain ⟨rfl, rfl⟩ : A1 = A' ∧ d1 = d' := by injection hAd with e1 e2 e3; exact ⟨e1, e3⟩
    obtain ⟨x0, x1, x2, x3, x4, x5, xf⟩ := six hba
    have Hba := Lib.hid hba
    clear hba
    cases hta : (va == 0)
    · cases htb : (va == 1)
      · cases htc : (va == 2)
        · have hbZ := Hba.out
          have hRZ := hRa
          have JZ := Ja
          have cZ := cXa
          have rZ := ra
          clear Hba hRa Ja cXa ra HAa x0 x1 x2 x3 x4 x5 xf
          obtain ⟨p0, p1, p2, p3, p4, p5, pf⟩ := six hbZ
          obtain ⟨a0, a1, a2, a3, a4, a5, af⟩ := six hRZ
          have HJZ := Lib.hid JZ
          have HCZ := Lib.hid cZ
          clear JZ cZ hbZ hRZ
          go_wp2
          all_goals
            refine bodyPost_ret (v := .agg #[.bool (v1 == 0), .bool false, .int .i64 255, .int .i64 0, .int .i64 0, .slice A1 (rs).length d1]) (by simp [results, Tryd.results18, go_sem, a0, a1, a2, a3, a4, a5]) rfl ?_
            refine fin_b (X := wa) ⟨(v1 == 0), false, 255, 0, 0, rs⟩ A1 d1 ?_ hl1 (by show rs.length ≤ 5; omega) HT.out HJZ.out rZ (by omega) HCZ.out hg0
            exact (Chg.refl _ wa).put.put.put.put.put.put
        · generalize hZ : wa.setCell ⟨w2.heap.size, 1, none⟩ (.bool true) = Z
          obtain ⟨hbZ', cz⟩ := box1 Hba.out hZ
          have hbZ : Z.heap[w2.heap.size]? = some (.cells #[.bool (v1 == 0), .bool true, .int .i64 255, .int .i64 0, .int .i64 0, .slice A1 (rs).length d1] 25 (0, 0)) := by simpa using hbZ'
          have hRZ := cz.blk hRa (by omega)
          have JZ := Ja.keep (cz.same (fun i hi h1 h2 => h1.2 h2))
          have cZ := cXa.then cz (fun i hi hb => by omega)
          have rZ := ra.chg cz (fun b hb => by omega)
          clear cz hbZ' hRa Ja cXa ra HAa
          obtain ⟨p0, p1, p2, p3, p4, p5, pf⟩ := six hbZ
          obtain ⟨a0, a1, a2, a3, a4, a5, af⟩ := six hRZ
          have HJZ := Lib.hid JZ
          have HCZ := Lib.hid cZ
          clear JZ cZ hbZ hRZ
          go_wp2
          all_goals
            refine bodyPost_ret (v := .agg #[.bool (v1 == 0), .bool true, .int .i64 255, .int .i64 0, .int .i64 0, .slice A1 (rs).length d1]) (by simp [results, Tryd.results18, go_sem, a0, a1, a2, a3, a4, a5]) rfl ?_
            refine fin_b (X := Z) ⟨(v1 == 0), true, 255, 0, 0, rs⟩ A1 d1 ?_ hl1 (by show rs.length ≤ 5; omega) HT.out HJZ.out rZ (by omega) HCZ.out hg0
            exact (Chg.refl _ Z).put.put.put.put.put.put
      · obtain ⟨ad, cc, cs, hv9, hK, hcell⟩ := HAa.get (j := 0) hl1
        obtain ⟨E1, e1, E2, e2, rfl, hk9, hv8⟩ := hK
        obtain ⟨hA9, hd9⟩ : A1 = some ad ∧ d1 = cc := by injection hv9 with e1 e2 e3; exact ⟨e1, e3⟩
        subst hA9
        subst hd9
        have f0 : wa.cell? ad = some (.int .i64 (rs)[0].off) := hcell 0 _ rfl
        have f1 : wa.cell? ⟨ad.block, ad.off + 1, none⟩ = some (.int .i64 (rs)[0].time) := hcell 1 _ rfl
        have f2 : wa.cell? ⟨ad.block, ad.off + 2, none⟩ = some (.bool (rs)[0].hk) := hcell 2 _ rfl
        have f3 : wa.cell? ⟨ad.block, ad.off + 3, none⟩ = some (.slice E1 (rs)[0].key.length e1) := hcell 3 _ rfl
        have f4 : wa.cell? ⟨ad.block, ad.off + 4, none⟩ = some (.bool (rs)[0].hv) := hcell 4 _ rfl
        have f5 : wa.cell? ⟨ad.block, ad.off + 5, none⟩ = some (.slice E2 (rs)[0].val.length e2) := hcell 5 _ rfl
        have HKK := Lib.hid (show Kind.rec_.K wa (fun b => (w.heap.size < b ∧ b ≠ w2.heap.size) ∧ b < wa.heap.size ∧ (Value.slice (some ad) (rs).length d1).ownBlock ≠ some b) (rs)[0] [.int .i64 (rs)[0].off, .int .i64 (rs)[0].time, .bool (rs)[0].hk, .slice E1 (rs)[0].key.length e1, .bool (rs)[0].hv, .slice E2 (rs)[0].val.length e2] from
          ⟨E1, e1, E2, e2, rfl, hk9, hv8⟩)
        have htn := HT.out _ (List.getElem_mem hl1)
        have HTN := Lib.hid htn
        clear hcell hk9 hv8 hv9 Ja htn
        have HAd := AppP.below HAa ((Below.refl _ wa).drew)
        have HG : Hid (∀ b, (w.heap.size < b ∧ b ≠ w2.heap.size) ∧ b < wa.heap.size ∧ (Value.slice (some ad) (rs).length d1).ownBlock ≠ some b → (w.heap.size < b ∧ b ≠ w2.heap.size) ∧ b < wa.drew.heap.size ∧ (Value.slice (some ad) (rs).length d1).ownBlock ≠ some b) := Lib.hid (fun b hb => hb)
        have H1 : Hid (∀ u ∈ [Value.int .i64 (rs)[0].off, .int .i64 (rs)[0].time, .bool (rs)[0].hk, .slice E1 (rs)[0].key.length e1, .bool (rs)[0].hv, .slice E2 (rs)[0].val.length e2], u.oneCell' = true) := Lib.hid (by simp [Value.oneCell'])
        have HN : Hid (∀ b, wa.drew.heap.size ≤ b → w.heap.size < b ∧ b ≠ w2.heap.size) := Lib.hid (fun b hb => by have : wa.heap.size ≤ b := hb; exact ⟨by omega, by omega⟩)
        have H6 : Hid ((rs).length + 1 ≤ 1099511627776) := Lib.hid (by omega)
        have H8 : Hid (((rs).length + 1) * 80 ≤ 140737488355328) := Lib.hid (by omega)
        have HKD := Lib.hid (Kind.rec_.keep (Same.of_below ((Below.refl _ wa).drew)) HKK.out)
        have CXD := Lib.hid ((cXa.drew))
        have RD := Lib.hid (ra.below ((Below.refl _ wa).drew))
        have HRD := Lib.hid (show wa.drew.heap[w.heap.size]? = _ from hRa)
        have HBD := Lib.hid (show wa.drew.heap[w2.heap.size]? = _ from Hba.out)
        have hlz : (0 : Int) < ((rs).length : Int) := by omega
        have hlz1 : 0 < (rs).length := by omega
        have y5 := below_cell (bal wa (.cells #[.int .i64 (rs)[0].off, .int .i64 (rs)[0].time, .bool (rs)[0].hk, .slice E1 (rs)[0].key.length e1, .bool (rs)[0].hv, .slice E2 (rs)[0].val.length e2] 59)) x5
        clear hRa cXa ra HKK
        go_wp2
        go_region_law (refine step_appP Kind.rec_ HAd rfl _ _ 23 (.agg #[.int .i64 0, .int .i64 0, .bool false, .slice none 0 0, .bool false, .slice none 0 0]) 80 rfl Tryd.underlying23 (by kernel_rfl) rfl (by decide) (rs)[0] _ _ rfl rfl HKD.out HG.out H1.out HN.out H6.out H8.out ?_; intro u1 W1 HA3 hc7; obtain ⟨rs5, hrs5⟩ : ∃ l, l = (rs) ++ [(rs)[0]] := ⟨_, rfl⟩; rw [← hrs5] at HA3; have HRS5 := Lib.hid hrs5; clear hrs5; obtain ⟨A5, d5, rfl, J5⟩ := AppP.row HA3; have HJ5 := Lib.hid J5; clear J5; have hb7 := hc7.blk HBD.out (fun hb => (AppP.ne HAd hb).2 rfl); obtain ⟨z0, z1, z2, z3, z4, z5, zf⟩ := six hb7; have HB7 := Lib.hid hb7; have HC7 := Lib.hid hc7; clear hb7 hc7)
        all_goals
          have hc7 := HC7.out
          have hrs5 := HRS5.out
          have HL5 := Lib.hid (show rs5.length = (rs).length + 1 by rw [hrs5]; simp)
          have HT5 := Lib.hid (show ∀ r ∈ rs5, r.tiny by rw [hrs5]; exact tiny_add HT.out HTN.out)
          have hR7 := hc7.blk HRD.out (fun hb => Nat.lt_irrefl _ (AppP.ne HAd hb).1)
          have cX7 := CXD.out.then hc7 (fun i hi hb => absurd (AppP.ne HAd hb).1 (by omega))
          have r7 := RD.out.chg hc7 (fun b hb => by have := (AppP.ne HAd hb).1; omega)
          have hs7 : wa.heap.size ≤ W1.heap.size := hc7.size
          clear hc7 hrs5
          generalize hZ : W1.setCell ⟨w2.heap.size, 5, none⟩ (.slice A5 rs5.length d5) = Z
          obtain ⟨hbZ', cz⟩ := box1 HB7.out hZ
          have hbZ : Z.heap[w2.heap.size]? = some (.cells #[.bool (v1 == 0), .bool false, .int .i64 255, .int .i64 0, .int .i64 0, .slice A5 rs5.length d5] 25 (0, 0)) := by simpa using hbZ'
          have hRZ := cz.blk hR7 (by omega)
          have JZ := HJ5.out.keep (cz.same (fun i hi h1 h2 => h1.2 h2))
          have cZ := cX7.then cz (fun i hi hb => by omega)
          have rZ := r7.chg cz (fun b hb => by omega)
          clear cz hbZ' hR7 cX7 r7
          obtain ⟨p0, p1, p2, p3, p4, p5, pf⟩ := six hbZ
          obtain ⟨a0, a1, a2, a3, a4, a5, af⟩ := six hRZ
          have HJZ := Lib.hid JZ
          have HCZ := Lib.hid cZ
          clear JZ cZ hbZ hRZ
          go_wp2
          all_goals
            refine bodyPost_ret (v := .agg #[.bool (v1 == 0), .bool false, .int .i64 255, .int .i64 0, .int .i64 0, .slice A5 (rs5).length d5]) (by simp [results, Tryd.results18, go_sem, a0, a1, a2, a3, a4, a5]) rfl ?_
            refine fin_b (X := Z) ⟨(v1 == 0), false, 255, 0, 0, rs5⟩ A5 d5 ?_ (by show 1 ≤ rs5.length; have := HL5.out; omega) (by show rs5.length ≤ 5; have := HL5.out; omega) HT5.out HJZ.out rZ (by omega) HCZ.out hg0
            exact (Chg.refl _ Z).put.put.put.put.put.put
    · go_wp2_with fail
      have hb9 := blk_below Hba.out (bal wa (.cells #[.int .i64 (-1), .int .i64 1, .int .i64 100] 3))
      have hR9 := blk_below hRa (bal wa (.cells #[.int .i64 (-1), .int .i64 1, .int .i64 100] 3))
      refine (pickN g _ 3 _ (ra.below (bal _ _)) (by omega) (by omega) (by omega)).mono ?_
      rintro e wb ⟨vb, rfl, ab, bb, rb, cb⟩
      have hne : ¬ (wa.heap.size = g) := by have := ra.lt; omega
      have hlit := cb.blk (heap_alloc_new wa (.cells #[.int .i64 (-1), .int .i64 1, .int .i64 100] 3)) hne
      obtain ⟨x, hx⟩ := lit_at [-1, 1, 100] hlit ab bb
      have hbb := cb.blk hb9 (by omega)
      have hRb := cb.blk hR9 (by omega)
      have hsb := cb.size
      have hsb2 := bal wa (.cells #[.int .i64 (-1), .int .i64 1, .int .i64 100] 3)
      have Jb := (Ja.below hsb2).keep (cb.same (fun i _ h1 h2 => by have := h1.1; omega))
      have cXb := (cXa.alloc (.cells #[.int .i64 (-1), .int .i64 1, .int .i64 100] 3)).same_g cb
      clear hlit hb9 hR9 hsb2 cb Ja cXa ra HAa Hba hRa x0 x1 x2 x3 x4 x5 xf
      obtain ⟨x0, x1, x2, x3, x4, x5, xf⟩ := six hbb
      have Hbb := Lib.hid hbb
      clear hbb
      generalize hZ : wb.setCell ⟨w2.heap.size, 3, none⟩ (.int .i64 x) = Z
      obtain ⟨hbZ', cz⟩ := box1 Hbb.out hZ
      have hbZ : Z.heap[w2.heap.size]? = some (.cells #[.bool (v1 == 0), .bool false, .int .i64 255, .int .i64 x, .int .i64 0, .slice A1 (rs).length d1] 25 (0, 0)) := by simpa using hbZ'
      have hRZ := cz.blk hRb (by omega)
      have JZ := Jb.keep (cz.same (fun i hi h1 h2 => h1.2 h2))
      have cZ := cXb.then cz (fun i hi hb => by omega)
      have rZ := rb.chg cz (fun b hb => by omega)
      clear cz hbZ' hRb Jb cXb rb
      obtain ⟨p0, p1, p2, p3, p4, p5, pf⟩ := six hbZ
      obtain ⟨a0, a1, a2, a3, a4, a5, af⟩ := six hRZ
      have HJZ := Lib.hid JZ
      have HCZ := Lib.hid cZ
      clear JZ cZ hbZ hRZ
      go_wp2
      all_goals
        refine bodyPost_ret (v := .agg #[.bool (v1 == 0), .bool false, .int .i64 255, .int .i64 x, .int .i64 0, .slice A1 (rs).length d1]) (by simp [results, Tryd.results18, go_sem, a0, a1, a2, a3, a4, a5]) rfl ?_
        refine fin_b (X := Z) ⟨(v1 == 0), false, 255, x, 0, rs⟩ A1 d1 ?_ hl1 (by show rs.length ≤ 5; omega) HT.out HJZ.out rZ (by omega) HCZ.out hg0
        exact (Chg.refl _ Z).put.put.put.put.put.put
  · go_wp2_with fail
    refine (pickN g _ 3 _ rX (by omega) (by omega) (by omega)).mono ?_
    rintro e Y2 ⟨v4, rfl, av4, bv4, rY, cY⟩
    have hbY := cY.blk hbX (by omega)
    have hRY := cY.blk hRX (by omega)
    have HAY := HAX.chg cY (fun b _ h1 h2 => by omega)
    have cXY := cX.same_g cY
    have hsY2 := cY.size
    clear hbX hRX HAX cX rX cY
    obtain ⟨y0, y1, y2, y3, y4, y5, yf⟩ := six hbY
    have HbY := Lib.hid hbY
    clear hbY
    generalize hZ2 : Y2.setCell ⟨w2.heap.size, 2, none⟩ (.int .i64 v4) = Z2
    obtain ⟨hbX', cz⟩ := box1 HbY.out hZ2
    have hbX : Z2.heap[w2.heap.size]? = some (.cells #[.bool (v1 == 0), .bool false, .int .i64 v4, .int .i64 0, .int .i64 0, .slice A1 rs.length d1] 25 (0, 0)) := by simpa using hbX'
    have hRX := cz.blk hRY (by omega)
    have HAX := HAY.chg cz (fun b _ h1 h2 => h1.2 h2)
    have cX := cXY.then cz (fun i hi hb => by omega)
    have rX := rY.chg cz (fun b hb => by omega)
    have hsZ2 := cz.size
    clear cz hbX' hRY HAY cXY rY
    go_wp2_with fail
    refine (pickN g _ 3 _ rX (by omega) (by omega) (by omega)).mono ?_
    rintro e Y3 ⟨v5, rfl, av5, bv5, rY, cY⟩
    clear HbY y0 y1 y2 y3 y4 y5 yf
    have hbY := cY.blk hbX (by omega)
    have hRY := cY.blk hRX (by omega)
    have HAY := HAX.chg cY (fun b _ h1 h2 => by omega)
    have cXY := cX.same_g cY
    have hsY3 := cY.size
    clear hbX hRX HAX cX rX cY
    obtain ⟨y0, y1, y2, y3, y4, y5, yf⟩ := six hbY
    have HbY := Lib.hid hbY
    clear hbY
    generalize hZ3 : Y3.setCell ⟨w2.heap.size, 3, none⟩ (.int .i64 v5) = Z3
    obtain ⟨hbX', cz⟩ := box1 HbY.out hZ3
    have hbX : Z3.heap[w2.heap.size]? = some (.cells #[.bool (v1 == 0), .bool false, .int .i64 v4, .int .i64 v5, .int .i64 0, .slice A1 rs.length d1] 25 (0, 0)) := by simpa using hbX'
    have hRX := cz.blk hRY (by omega)
    have HAX := HAY.chg cz (fun b _ h1 h2 => h1.2 h2)
    have cX := cXY.then cz (fun i hi hb => by omega)
    have rX := rY.chg cz (fun b hb => by omega)
    have hsZ3 := cz.size
    clear cz hbX' hRY HAY cXY rY
    go_wp2_with fail
    refine (pickN g _ 5 _ rX (by omega) (by omega) (by omega)).mono ?_
    rintro e Y4 ⟨v6, rfl, av6, bv6, rY, cY⟩
    clear HbY y0 y1 y2 y3 y4 y5 yf
    have hbY := cY.blk hbX (by omega)
    have hRY := cY.blk hRX (by omega)
    have HAY := HAX.chg cY (fun b _ h1 h2 => by omega)
    have cXY := cX.same_g cY
    have hsY4 := cY.size
    clear hbX hRX HAX cX rX cY
    obtain ⟨y0, y1, y2, y3, y4, y5, yf⟩ := six hbY
    have HbY := Lib.hid hbY
    clear hbY
    generalize hZ4 : Y4.setCell ⟨w2.heap.size, 4, none⟩ (.int .i64 v6) = Z4
    obtain ⟨hbX', cz⟩ := box1 HbY.out hZ4
    have hbX : Z4.heap[w2.heap.size]? = some (.cells #[.bool (v1 == 0), .bool false, .int .i64 v4, .int .i64 v5, .int .i64 v6, .slice A1 rs.length d1] 25 (0, 0)) := by simpa using hbX'
    have hRX := cz.blk hRY (by omega)
    have HAX := HAY.chg cz (fun b _ h1 h2 => h1.2 h2)
    have cX := cXY.then cz (fun i hi hb => by omega)
    have rX := rY.chg cz (fun b hb => by omega)
    have hsZ4 := cz.size
    clear cz hbX' hRY HAY cXY rY
    go_wp2_with fail
    refine (pickN g _ 3 _ rX (by omega) (by omega) (by omega)).mono ?_
    rintro e X7 ⟨v7, rfl, a7, b7, rY, cY⟩
    clear HbY y0 y1 y2 y3 y4 y5 yf
    have hbY := cY.blk hbX (by omega)
    have hRY := cY.blk hRX (by omega)
    have HAY := HAX.chg cY (fun b _ h1 h2 => by omega)
    have cXY := cX.same_g cY
    have hsY7 := cY.size
    clear hbX hRX HAX cX rX cY
    cases ht7 : (v7 == 0)
    · have hbX := hbY
      have hRX := hRY
      have HAX := HAY
      have cX := cXY
      have rX := rY
      clear hbY hRY HAY cXY rY
      have hapX := HAX.row
      obtain ⟨x0, x1, x2, x3, x4, x5, xf⟩ := six hbX
      have HbX := Lib.hid hbX
      clear hbX
      go_wp2_with fail
      refine (pickN g _ 40 _ rX (by omega) (by omega) (by omega)).mono ?_
      rintro e wa ⟨va, rfl, aa, ba, ra, ca⟩
      have hba := ca.blk HbX.out (by omega)
      have hRa := ca.blk hRX (by omega)
      have HAa := HAX.chg ca (fun b _ h1 h2 => by omega)
      have cXa := cX.same_g ca
      have hsa := ca.size
      clear HbX hRX HAX cX ca rX x0 x1 x2 x3 x4 x5 xf
      obtain ⟨A', d', hAd, Ja⟩ := HAa.row
      obtain ⟨rfl, rfl⟩ : A1 = A' ∧ d1 = d' := by injection hAd with e1 e2 e3; exact ⟨e1, e3⟩
      obtain ⟨x0, x1, x2, x3, x4, x5, xf⟩ := six hba
      have Hba := Lib.hid hba
      clear hba
      cases hta : (va == 0)
      · cases htb : (va == 1)
        · cases htc : (va == 2)
          · have hbZ := Hba.out
            have hRZ := hRa
            have JZ := Ja
            have cZ := cXa
            have rZ := ra
            clear Hba hRa Ja cXa ra HAa x0 x1 x2 x3 x4 x5 xf
            obtain ⟨p0, p1, p2, p3, p4, p5, pf⟩ := six hbZ
            obtain ⟨a0, a1, a2, a3, a4, a5, af⟩ := six hRZ
            have HJZ := Lib.hid JZ
            have HCZ := Lib.hid cZ
            clear JZ cZ hbZ hRZ
            go_wp2
            all_goals
              refine bodyPost_ret (v := .agg #[.bool (v1 == 0), .bool false, .int .i64 v4, .int .i64 v5, .int .i64 v6, .slice A1 (rs).length d1]) (by simp [results, Tryd.results18, go_sem, a0, a1, a2, a3, a4, a5]) rfl ?_
              refine fin_b (X := wa) ⟨(v1 == 0), false, v4, v5, v6, rs⟩ A1 d1 ?_ hl1 (by show rs.length ≤ 5; omega) HT.out HJZ.out rZ (by omega) HCZ.out hg0
              exact (Chg.refl _ wa).put.put.put.put.put.put
          · generalize hZ : wa.setCell ⟨w2.heap.size, 1, none⟩ (.bool true) = Z
            obtain ⟨hbZ', cz⟩ := box1 Hba.out hZ
            have hbZ : Z.heap[w2.heap.size]? = some (.cells #[.bool (v1 == 0), .bool true, .int .i64 v4, .int .i64 v5, .int .i64 v6, .slice A1 (rs).length d1] 25 (0, 0)) := by simpa using hbZ'
            have hRZ := cz.blk hRa (by omega)
            have JZ := Ja.keep (cz.same (fun i hi h1 h2 => h1.2 h2))
            have cZ := cXa.then cz (fun i hi hb => by omega)
            have rZ := ra.chg cz (fun b hb => by omega)
            clear cz hbZ' hRa Ja cXa ra HAa
            obtain ⟨p0, p1, p2, p3, p4, p5, pf⟩ := six hbZ
            obtain ⟨a0, a1, a2, a3, a4, a5, af⟩ := six hRZ
            have HJZ := Lib.hid JZ
            have HCZ := Lib.hid cZ
            clear JZ cZ hbZ hRZ
            go_wp2
            all_goals
              refine bodyPost_ret (v := .agg #[.bool (v1 == 0), .bool true, .int .i64 v4, .int .i64 v5, .int .i64 v6, .slice A1 (rs).length d1]) (by simp [results, Tryd.results18, go_sem, a0, a1, a2, a3, a4, a5]) rfl ?_
              refine fin_b (X := Z) ⟨(v1 == 0), true, v4, v5, v6, rs⟩ A1 d1 ?_ hl1 (by show rs.length ≤ 5; omega) HT.out HJZ.out rZ (by omega) HCZ.out hg0
              exact (Chg.refl _ Z).put.put.put.put.put.put
        · obtain ⟨ad, cc, cs, hv9, hK, hcell⟩ := HAa.get (j := 0) hl1
          obtain ⟨E1, e1, E2, e2, rfl, hk9, hv8⟩ := hK
          obtain ⟨hA9, hd9⟩ : A1 = some ad ∧ d1 = cc := by injection hv9 with e1 e2 e3; exact ⟨e1, e3⟩
          subst hA9
          subst hd9
          have f0 : wa.cell? ad = some (.int .i64 (rs)[0].off) := hcell 0 _ rfl
          have f1 : wa.cell? ⟨ad.block, ad.off + 1, none⟩ = some (.int .i64 (rs)[0].time) := hcell 1 _ rfl
          have f2 : wa.cell? ⟨ad.block, ad.off + 2, none⟩ = some (.bool (rs)[0].hk) := hcell 2 _ rfl
          have f3 : wa.cell? ⟨ad.block, ad.off + 3, none⟩ = some (.slice E1 (rs)[0].key.length e1) := hcell 3 _ rfl
          have f4 : wa.cell? ⟨ad.block, ad.off + 4, none⟩ = some (.bool (rs)[0].hv) := hcell 4 _ rfl
          have f5 : wa.cell? ⟨ad.block, ad.off + 5, none⟩ = some (.slice E2 (rs)[0].val.length e2) := hcell 5 _ rfl
          have HKK := Lib.hid (show Kind.rec_.K wa (fun b => (w.heap.size < b ∧ b ≠ w2.heap.size) ∧ b < wa.heap.size ∧ (Value.slice (some ad) (rs).length d1).ownBlock ≠ some b) (rs)[0] [.int .i64 (rs)[0].off, .int .i64 (rs)[0].time, .bool (rs)[0].hk, .slice E1 (rs)[0].key.length e1, .bool (rs)[0].hv, .slice E2 (rs)[0].val.length e2] from
            ⟨E1, e1, E2, e2, rfl, hk9, hv8⟩)
          have htn := HT.out _ (List.getElem_mem hl1)
          have HTN := Lib.hid htn
          clear hcell hk9 hv8 hv9 Ja htn
          have HAd := AppP.below HAa ((Below.refl _ wa).drew)
          have HG : Hid (∀ b, (w.heap.size < b ∧ b ≠ w2.heap.size) ∧ b < wa.heap.size ∧ (Value.slice (some ad) (rs).length d1).ownBlock ≠ some b → (w.heap.size < b ∧ b ≠ w2.heap.size) ∧ b < wa.drew.heap.size ∧ (Value.slice (some ad) (rs).length d1).ownBlock ≠ some b) := Lib.hid (fun b hb => hb)
          have H1 : Hid (∀ u ∈ [Value.int .i64 (rs)[0].off, .int .i64 (rs)[0].time, .bool (rs)[0].hk, .slice E1 (rs)[0].key.length e1, .bool (rs)[0].hv, .slice E2 (rs)[0].val.length e2], u.oneCell' = true) := Lib.hid (by simp [Value.oneCell'])
          have HN : Hid (∀ b, wa.drew.heap.size ≤ b → w.heap.size < b ∧ b ≠ w2.heap.size) := Lib.hid (fun b hb => by have : wa.heap.size ≤ b := hb; exact ⟨by omega, by omega⟩)
          have H6 : Hid ((rs).length + 1 ≤ 1099511627776) := Lib.hid (by omega)
          have H8 : Hid (((rs).length + 1) * 80 ≤ 140737488355328) := Lib.hid (by omega)
          have HKD := Lib.hid (Kind.rec_.keep (Same.of_below ((Below.refl _ wa).drew)) HKK.out)
          have CXD := Lib.hid ((cXa.drew))
          have RD := Lib.hid (ra.below ((Below.refl _ wa).drew))
          have HRD := Lib.hid (show wa.drew.heap[w.heap.size]? = _ from hRa)
          have HBD := Lib.hid (show wa.drew.heap[w2.heap.size]? = _ from Hba.out)
          have hlz : (0 : Int) < ((rs).length : Int) := by omega
          have hlz1 : 0 < (rs).length := by omega
          have y5 := below_cell (bal wa (.cells #[.int .i64 (rs)[0].off, .int .i64 (rs)[0].time, .bool (rs)[0].hk, .slice E1 (rs)[0].key.length e1, .bool (rs)[0].hv, .slice E2 (rs)[0].val.length e2] 59)) x5
          clear hRa cXa ra HKK
          go_wp2
          go_region_law (refine step_appP Kind.rec_ HAd rfl _ _ 23 (.agg #[.int .i64 0, .int .i64 0, .bool false, .slice none 0 0, .bool false, .slice none 0 0]) 80 rfl Tryd.underlying23 (by kernel_rfl) rfl (by decide) (rs)[0] _ _ rfl rfl HKD.out HG.out H1.out HN.out H6.out H8.out ?_; intro u1 W1 HA3 hc7; obtain ⟨rs5, hrs5⟩ : ∃ l, l = (rs) ++ [(rs)[0]] := ⟨_, rfl⟩; rw [← hrs5] at HA3; have HRS5 := Lib.hid hrs5; clear hrs5; obtain ⟨A5, d5, rfl, J5⟩ := AppP.row HA3; have HJ5 := Lib.hid J5; clear J5; have hb7 := hc7.blk HBD.out (fun hb => (AppP.ne HAd hb).2 rfl); obtain ⟨z0, z1, z2, z3, z4, z5, zf⟩ := six hb7; have HB7 := Lib.hid hb7; have HC7 := Lib.hid hc7; clear hb7 hc7)
          all_goals
            have hc7 := HC7.out
            have hrs5 := HRS5.out
            have HL5 := Lib.hid (show rs5.length = (rs).length + 1 by rw [hrs5]; simp)
            have HT5 := Lib.hid (show ∀ r ∈ rs5, r.tiny by rw [hrs5]; exact tiny_add HT.out HTN.out)
            have hR7 := hc7.blk HRD.out (fun hb => Nat.lt_irrefl _ (AppP.ne HAd hb).1)
            have cX7 := CXD.out.then hc7 (fun i hi hb => absurd (AppP.ne HAd hb).1 (by omega))
            have r7 := RD.out.chg hc7 (fun b hb => by have := (AppP.ne HAd hb).1; omega)
            have hs7 : wa.heap.size ≤ W1.heap.size := hc7.size
            clear hc7 hrs5
            generalize hZ : W1.setCell ⟨w2.heap.size, 5, none⟩ (.slice A5 rs5.length d5) = Z
            obtain ⟨hbZ', cz⟩ := box1 HB7.out hZ
            have hbZ : Z.heap[w2.heap.size]? = some (.cells #[.bool (v1 == 0), .bool false, .int .i64 v4, .int .i64 v5, .int .i64 v6, .slice A5 rs5.length d5] 25 (0, 0)) := by simpa using hbZ'
            have hRZ := cz.blk hR7 (by omega)
            have JZ := HJ5.out.keep (cz.same (fun i hi h1 h2 => h1.2 h2))
            have cZ := cX7.then cz (fun i hi hb => by omega)
            have rZ := r7.chg cz (fun b hb => by omega)
            clear cz hbZ' hR7 cX7 r7
            obtain ⟨p0, p1, p2, p3, p4, p5, pf⟩ := six hbZ
            obtain ⟨a0, a1, a2, a3, a4, a5, af⟩ := six hRZ
            have HJZ := Lib.hid JZ
            have HCZ := Lib.hid cZ
            clear JZ cZ hbZ hRZ
            go_wp2
            all_goals
              refine bodyPost_ret (v := .agg #[.bool (v1 == 0), .bool false, .int .i64 v4, .int .i64 v5, .int .i64 v6, .slice A5 (rs5).length d5]) (by simp [results, Tryd.results18, go_sem, a0, a1, a2, a3, a4, a5]) rfl ?_
              refine fin_b (X := Z) ⟨(v1 == 0), false, v4, v5, v6, rs5⟩ A5 d5 ?_ (by show 1 ≤ rs5.length; have := HL5.out; omega) (by show rs5.length ≤ 5; have := HL5.out; omega) HT5.out HJZ.out rZ (by omega) HCZ.out hg0
              exact (Chg.refl _ Z).put.put.put.put.put.put
      · go_wp2_with fail
        have hb9 := blk_below Hba.out (bal wa (.cells #[.int .i64 (-1), .int .i64 1, .int .i64 100] 3))
        have hR9 := blk_below hRa (bal wa (.cells #[.int .i64 (-1), .int .i64 1, .int .i64 100] 3))
        refine (pickN g _ 3 _ (ra.below (bal _ _)) (by omega) (by omega) (by omega)).mono ?_
        rintro e wb ⟨vb, rfl, ab, bb, rb, cb⟩
        have hne : ¬ (wa.heap.size = g) := by have := ra.lt; omega
        have hlit := cb.blk (heap_alloc_new wa (.cells #[.int .i64 (-1), .int .i64 1, .int .i64 100] 3)) hne
        obtain ⟨x, hx⟩ := lit_at [-1, 1, 100] hlit ab bb
        have hbb := cb.blk hb9 (by omega)
        have hRb := cb.blk hR9 (by omega)
        have hsb := cb.size
        have hsb2 := bal wa (.cells #[.int .i64 (-1), .int .i64 1, .int .i64 100] 3)
        have Jb := (Ja.below hsb2).keep (cb.same (fun i _ h1 h2 => by have := h1.1; omega))
        have cXb := (cXa.alloc (.cells #[.int .i64 (-1), .int .i64 1, .int .i64 100] 3)).same_g cb
        clear hlit hb9 hR9 hsb2 cb Ja cXa ra HAa Hba hRa x0 x1 x2 x3 x4 x5 xf
        obtain ⟨x0, x1, x2, x3, x4, x5, xf⟩ := six hbb
        have Hbb := Lib.hid hbb
        clear hbb
        generalize hZ : wb.setCell ⟨w2.heap.size, 3, none⟩ (.int .i64 x) = Z
        obtain ⟨hbZ', cz⟩ := box1 Hbb.out hZ
        have hbZ : Z.heap[w2.heap.size]? = some (.cells #[.bool (v1 == 0), .bool false, .int .i64 v4, .int .i64 x, .int .i64 v6, .slice A1 (rs).length d1] 25 (0, 0)) := by simpa using hbZ'
        have hRZ := cz.blk hRb (by omega)
        have JZ := Jb.keep (cz.same (fun i hi h1 h2 => h1.2 h2))
        have cZ := cXb.then cz (fun i hi hb => by omega)
        have rZ := rb.chg cz (fun b hb => by omega)
        clear cz hbZ' hRb Jb cXb rb
        obtain ⟨p0, p1, p2, p3, p4, p5, pf⟩ := six hbZ
        obtain ⟨a0, a1, a2, a3, a4, a5, af⟩ := six hRZ
        have HJZ := Lib.hid JZ
        have HCZ := Lib.hid cZ
        clear JZ cZ hbZ hRZ
        go_wp2
        all_goals
          refine bodyPost_ret (v := .agg #[.bool (v1 == 0), .bool false, .int .i64 v4, .int .i64 x, .int .i64 v6, .slice A1 (rs).length d1]) (by simp [results, Tryd.results18, go_sem, a0, a1, a2, a3, a4, a5]) rfl ?_
          refine fin_b (X := Z) ⟨(v1 == 0), false, v4, x, v6, rs⟩ A1 d1 ?_ hl1 (by show rs.length ≤ 5; omega) HT.out HJZ.out rZ (by omega) HCZ.out hg0
          exact (Chg.refl _ Z).put.put.put.put.put.put
    · obtain ⟨y0, y1, y2, y3, y4, y5, yf⟩ := six hbY
      have HbY := Lib.hid hbY
      clear hbY
      generalize hZ7 : X7.setCell ⟨w2.heap.size, 1, none⟩ (.bool true) = Z7
      obtain ⟨hbX', cz⟩ := box1 HbY.out hZ7
      have hbX : Z7.heap[w2.heap.size]? = some (.cells #[.bool (v1 == 0), .bool true, .int .i64 v4, .int .i64 v5, .int .i64 v6, .slice A1 rs.length d1] 25 (0, 0)) := by simpa using hbX'
      have hRX := cz.blk hRY (by omega)
      have HAX := HAY.chg cz (fun b _ h1 h2 => h1.2 h2)
      have cX := cXY.then cz (fun i hi hb => by omega)
      have rX := rY.chg cz (fun b hb => by omega)
      have hsZ7 := cz.size
      clear cz hbX' hRY HAY cXY rY
      clear HAX
      go_wp2_with fail
      refine (pickN g _ 200 _ rX (by omega) (by omega) (by omega)).mono ?_
      rintro e w8 ⟨v8, rfl, a8, b8, rY, cY⟩
      clear HbY y0 y1 y2 y3 y4 y5 yf
      have hbY := blk_below (cY.blk hbX (by omega)) (bal w8 (.cells #[] 3))
      have hRY := blk_below (cY.blk hRX (by omega)) (bal w8 (.cells #[] 3))
      have cXY := (cX.same_g cY).alloc (.cells #[] 3)
      have hs8 := cY.size
      clear hbX hRX cX rX cY
      go_wp2_with fail
      refine (pickN g _ 2 _ (rY.below (bal _ _)) (by omega) (by omega) (by omega)).mono ?_
      rintro e w9 ⟨v9, rfl, a9, b9, r9, c9⟩
      have hs9 := c9.size
      have hs89 : (w8.alloc (.cells #[] 3)).heap.size = w8.heap.size + 1 := by simp
      have hU : (w9.alloc (.cells #[.int .i64 v9] 3)).heap.size = w9.heap.size + 1 := by simp
      have hJ9 : Ints (w9.alloc (.cells #[.int .i64 v9] 3)) (fun b => w9.heap.size = b) (some ⟨w9.heap.size, 0, none⟩) 1 [v9] := one_int w9 v9
      have hp9 : Kind.rec_.K (w9.alloc (.cells #[.int .i64 v9] 3)) (fun b => w9.heap.size = b) ⟨off, v8, false, [], true, [v9]⟩ [.int .i64 off, .int .i64 v8, .bool false, .slice (some ⟨w8.heap.size, 0, none⟩) 0 0, .bool true, .slice (some ⟨w9.heap.size, 0, none⟩) 1 1] :=
        ⟨_, _, _, _, rfl, Kind.Row.nil _ _ (by omega), hJ9⟩
      have HA9 : AppP Kind.rec_ 59 _ (fun b => w.heap.size < b ∧ b ≠ w2.heap.size) _ [⟨off, v8, false, [], true, [v9]⟩] := AppP.one (e := 59) hp9 (fun b (hb : w9.heap.size = b) => ⟨⟨by omega, by omega⟩, by omega⟩) ⟨by omega, by omega⟩
      rw [hU] at HA9
      have hbl := (bal w9 (.cells #[.int .i64 v9] 3)).alloc (Nat.le_trans (Nat.le_succ _) (Nat.le_of_eq hU.symm)) (.cells [.int .i64 off, .int .i64 v8, .bool false, .slice (some ⟨w8.heap.size, 0, none⟩) 0 0, .bool true, .slice (some ⟨w9.heap.size, 0, none⟩) 1 1].toArray 59)
      have hbV := blk_below (c9.blk hbY (by omega)) hbl
      have hRV := blk_below (c9.blk hRY (by omega)) hbl
      have rV := r9.below hbl
      have cV := ((cXY.same_g c9).alloc (.cells #[.int .i64 v9] 3)).alloc (.cells [.int .i64 off, .int .i64 v8, .bool false, .slice (some ⟨w8.heap.size, 0, none⟩) 0 0, .bool true, .slice (some ⟨w9.heap.size, 0, none⟩) 1 1].toArray 59)
      obtain ⟨y0, y1, y2, y3, y4, y5, yf⟩ := six hbV
      have HbV := Lib.hid hbV
      have hsV := hbl.size
      clear hbV hbl hJ9 hp9 hbY hRY cXY rY r9 c9
      generalize hX9 : ((w9.alloc (.cells #[.int .i64 v9] 3)).alloc (.cells #[.int .i64 off, .int .i64 v8, .bool false, .slice (some ⟨w8.heap.size, 0, none⟩) 0 0, .bool true, .slice (some ⟨w9.heap.size, 0, none⟩) 1 1] 59)).setCell ⟨w2.heap.size, 5, none⟩ (.slice (some ⟨w9.heap.size + 1, 0, none⟩) 1 1) = X9
      obtain ⟨hbX', cz⟩ := box1 HbV.out hX9
      obtain ⟨A9, rs9, hrs9, hA9⟩ : ∃ (A9 : Option Addr) (rs9 : List Rec), rs9 = [⟨off, v8, false, [], true, [v9]⟩] ∧ A9 = some ⟨w9.heap.size + 1, 0, none⟩ := ⟨_, _, rfl, rfl⟩
      have hln : rs9.length = 1 := by rw [hrs9]; rfl
      have hl9 : 1 ≤ rs9.length := Nat.le_of_eq hln.symm
      have hl94 : rs9.length ≤ 4 := by omega
      have HT9 := Lib.hid (show ∀ r ∈ rs9, r.tiny by rw [hrs9]; intro r hr; simp at hr; subst hr; exact ⟨by simp, by simp⟩)
      have hbX : X9.heap[w2.heap.size]? = some (.cells #[.bool (v1 == 0), .bool true, .int .i64 v4, .int .i64 v5, .int .i64 v6, .slice A9 rs9.length 1] 25 (0, 0)) := by
        rw [hln, hA9]
        simpa using hbX'
      have hRX := cz.blk hRV (by omega)
      have HAX : AppP Kind.rec_ 59 X9 (fun b => w.heap.size < b ∧ b ≠ w2.heap.size) (.slice A9 rs9.length 1) rs9 := by
        rw [hln, hA9, hrs9]
        exact HA9.chg cz (fun b _ h1 h2 => h1.2 h2)
      have cX := cV.then cz (fun i hi hb => by omega)
      have rX := rV.chg cz (fun b hb => by omega)
      have hsX9 := cz.size
      clear cz hbX' hRV HA9 cV rV hln hA9 hrs9 HbV
      have hapX := HAX.row
      obtain ⟨x0, x1, x2, x3, x4, x5, xf⟩ := six hbX
      have HbX := Lib.hid hbX
      clear hbX
      go_wp2_with fail
      refine (pickN g _ 40 _ rX (by omega) (by omega) (by omega)).mono ?_
      rintro e wa ⟨va, rfl, aa, ba, ra, ca⟩
      have hba := ca.blk HbX.out (by omega)
      have hRa := ca.blk hRX (by omega)
      have HAa := HAX.chg ca (fun b _ h1 h2 => by omega)
      have cXa := cX.same_g ca
      have hsa := ca.size
      clear HbX hRX HAX cX ca rX x0 x1 x2 x3 x4 x5 xf
      obtain ⟨A', d', hAd, Ja⟩ := HAa.row
      obtain ⟨rfl, rfl⟩ : A9 = A' ∧ 1 = d' := by injection hAd with e1 e2 e3; exact ⟨e1, e3⟩
      obtain ⟨x0, x1, x2, x3, x4, x5, xf⟩ := six hba
      have Hba := Lib.hid hba
      clear hba
      cases hta : (va == 0)
      · cases htb : (va == 1)
        · cases htc : (va == 2)
          · have hbZ := Hba.out
            have hRZ := hRa
            have JZ := Ja
            have cZ := cXa
            have rZ := ra
            clear Hba hRa Ja cXa ra HAa x0 x1 x2 x3 x4 x5 xf
            obtain ⟨p0, p1, p2, p3, p4, p5, pf⟩ := six hbZ
            obtain ⟨a0, a1, a2, a3, a4, a5, af⟩ := six hRZ
            have HJZ := Lib.hid JZ
            have HCZ := Lib.hid cZ
            clear JZ cZ hbZ hRZ
            go_wp2
            all_goals
              refine bodyPost_ret (v := .agg #[.bool (v1 == 0), .bool true, .int .i64 v4, .int .i64 v5, .int .i64 v6, .slice A9 (rs9).length 1]) (by simp [results, Tryd.results18, go_sem, a0, a1, a2, a3, a4, a5]) rfl ?_
              refine fin_b (X := wa) ⟨(v1 == 0), true, v4, v5, v6, rs9⟩ A9 1 ?_ hl9 (by show rs9.length ≤ 5; omega) HT9.out HJZ.out rZ (by omega) HCZ.out hg0
              exact (Chg.refl _ wa).put.put.put.put.put.put
          · generalize hZ : wa.setCell ⟨w2.heap.size, 1, none⟩ (.bool false) = Z
            obtain ⟨hbZ', cz⟩ := box1 Hba.out hZ
            have hbZ : Z.heap[w2.heap.size]? = some (.cells #[.bool (v1 == 0), .bool false, .int .i64 v4, .int .i64 v5, .int .i64 v6, .slice A9 (rs9).length 1] 25 (0, 0)) := by simpa using hbZ'
            have hRZ := cz.blk hRa (by omega)
            have JZ := Ja.keep (cz.same (fun i hi h1 h2 => h1.2 h2))
            have cZ := cXa.then cz (fun i hi hb => by omega)
            have rZ := ra.chg cz (fun b hb => by omega)
            clear cz hbZ' hRa Ja cXa ra HAa
            obtain ⟨p0, p1, p2, p3, p4, p5, pf⟩ := six hbZ
            obtain ⟨a0, a1, a2, a3, a4, a5, af⟩ := six hRZ
            have HJZ := Lib.hid JZ
            have HCZ := Lib.hid cZ
            clear JZ cZ hbZ hRZ
            go_wp2
            all_goals
              refine bodyPost_ret (v := .agg #[.bool (v1 == 0), .bool false, .int .i64 v4, .int .i64 v5, .int .i64 v6, .slice A9 (rs9).length 1]) (by simp [results, Tryd.results18, go_sem, a0, a1, a2, a3, a4, a5]) rfl ?_
              refine fin_b (X := Z) ⟨(v1 == 0), false, v4, v5, v6, rs9⟩ A9 1 ?_ hl9 (by show rs9.length ≤ 5; omega) HT9.out HJZ.out rZ (by omega) HCZ.out hg0
              exact (Chg.refl _ Z).put.put.put.put.put.put
        · obtain ⟨ad, cc, cs, hv9, hK, hcell⟩ := HAa.get (j := 0) hl9
          obtain ⟨E1, e1, E2, e2, rfl, hk9, hv8⟩ := hK
          obtain ⟨hA9, hd9⟩ : A9 = some ad ∧ 1 = cc := by injection hv9 with e1 e2 e3; exact ⟨e1, e3⟩
          subst hA9
          subst hd9
          have f0 : wa.cell? ad = some (.int .i64 (rs9)[0].off) := hcell 0 _ rfl
          have f1 : wa.cell? ⟨ad.block, ad.off + 1, none⟩ = some (.int .i64 (rs9)[0].time) := hcell 1 _ rfl
          have f2 : wa.cell? ⟨ad.block, ad.off + 2, none⟩ = some (.bool (rs9)[0].hk) := hcell 2 _ rfl
          have f3 : wa.cell? ⟨ad.block, ad.off + 3, none⟩ = some (.slice E1 (rs9)[0].key.length e1) := hcell 3 _ rfl
          have f4 : wa.cell? ⟨ad.block, ad.off + 4, none⟩ = some (.bool (rs9)[0].hv) := hcell 4 _ rfl
          have f5 : wa.cell? ⟨ad.block, ad.off + 5, none⟩ = some (.slice E2 (rs9)[0].val.length e2) := hcell 5 _ rfl
          have HKK := Lib.hid (show Kind.rec_.K wa (fun b => (w.heap.size < b ∧ b ≠ w2.heap.size) ∧ b < wa.heap.size ∧ (Value.slice (some ad) (rs9).length 1).ownBlock ≠ some b) (rs9)[0] [.int .i64 (rs9)[0].off, .int .i64 (rs9)[0].time, .bool (rs9)[0].hk, .slice E1 (rs9)[0].key.length e1, .bool (rs9)[0].hv, .slice E2 (rs9)[0].val.length e2] from
            ⟨E1, e1, E2, e2, rfl, hk9, hv8⟩)
          have htn := HT9.out _ (List.getElem_mem hl9)
          have HTN := Lib.hid htn
          clear hcell hk9 hv8 hv9 Ja htn
          have HAd := AppP.below HAa ((Below.refl _ wa).drew)
          have HG : Hid (∀ b, (w.heap.size < b ∧ b ≠ w2.heap.size) ∧ b < wa.heap.size ∧ (Value.slice (some ad) (rs9).length 1).ownBlock ≠ some b → (w.heap.size < b ∧ b ≠ w2.heap.size) ∧ b < wa.drew.heap.size ∧ (Value.slice (some ad) (rs9).length 1).ownBlock ≠ some b) := Lib.hid (fun b hb => hb)
          have H1 : Hid (∀ u ∈ [Value.int .i64 (rs9)[0].off, .int .i64 (rs9)[0].time, .bool (rs9)[0].hk, .slice E1 (rs9)[0].key.length e1, .bool (rs9)[0].hv, .slice E2 (rs9)[0].val.length e2], u.oneCell' = true) := Lib.hid (by simp [Value.oneCell'])
          have HN : Hid (∀ b, wa.drew.heap.size ≤ b → w.heap.size < b ∧ b ≠ w2.heap.size) := Lib.hid (fun b hb => by have : wa.heap.size ≤ b := hb; exact ⟨by omega, by omega⟩)
          have H6 : Hid ((rs9).length + 1 ≤ 1099511627776) := Lib.hid (by omega)
          have H8 : Hid (((rs9).length + 1) * 80 ≤ 140737488355328) := Lib.hid (by omega)
          have HKD := Lib.hid (Kind.rec_.keep (Same.of_below ((Below.refl _ wa).drew)) HKK.out)
          have CXD := Lib.hid ((cXa.drew))
          have RD := Lib.hid (ra.below ((Below.refl _ wa).drew))
          have HRD := Lib.hid (show wa.drew.heap[w.heap.size]? = _ from hRa)
          have HBD := Lib.hid (show wa.drew.heap[w2.heap.size]? = _ from Hba.out)
          have hlz : (0 : Int) < ((rs9).length : Int) := by omega
          have hlz1 : 0 < (rs9).length := by omega
          have y5 := below_cell (bal wa (.cells #[.int .i64 (rs9)[0].off, .int .i64 (rs9)[0].time, .bool (rs9)[0].hk, .slice E1 (rs9)[0].key.length e1, .bool (rs9)[0].hv, .slice E2 (rs9)[0].val.length e2] 59)) x5
          clear hRa cXa ra HKK
          go_wp2
          go_region_law (refine step_appP Kind.rec_ HAd rfl _ _ 23 (.agg #[.int .i64 0, .int .i64 0, .bool false, .slice none 0 0, .bool false, .slice none 0 0]) 80 rfl Tryd.underlying23 (by kernel_rfl) rfl (by decide) (rs9)[0] _ _ rfl rfl HKD.out HG.out H1.out HN.out H6.out H8.out ?_; intro u1 W1 HA3 hc7; obtain ⟨rs5, hrs5⟩ : ∃ l, l = (rs9) ++ [(rs9)[0]] := ⟨_, rfl⟩; rw [← hrs5] at HA3; have HRS5 := Lib.hid hrs5; clear hrs5; obtain ⟨A5, d5, rfl, J5⟩ := AppP.row HA3; have HJ5 := Lib.hid J5; clear J5; have hb7 := hc7.blk HBD.out (fun hb => (AppP.ne HAd hb).2 rfl); obtain ⟨z0, z1, z2, z3, z4, z5, zf⟩ := six hb7; have HB7 := Lib.hid hb7; have HC7 := Lib.hid hc7; clear hb7 hc7)
          all_goals
            have hc7 := HC7.out
            have hrs5 := HRS5.out
            have HL5 := Lib.hid (show rs5.length = (rs9).length + 1 by rw [hrs5]; simp)
            have HT5 := Lib.hid (show ∀ r ∈ rs5, r.tiny by rw [hrs5]; exact tiny_add HT9.out HTN.out)
            have hR7 := hc7.blk HRD.out (fun hb => Nat.lt_irrefl _ (AppP.ne HAd hb).1)
            have cX7 := CXD.out.then hc7 (fun i hi hb => absurd (AppP.ne HAd hb).1 (by omega))
            have r7 := RD.out.chg hc7 (fun b hb => by have := (AppP.ne HAd hb).1; omega)
            have hs7 : wa.heap.size ≤ W1.heap.size := hc7.size
            clear hc7 hrs5
            generalize hZ : W1.setCell ⟨w2.heap.size, 5, none⟩ (.slice A5 rs5.length d5) = Z
            obtain ⟨hbZ', cz⟩ := box1 HB7.out hZ
            have hbZ : Z.heap[w2.heap.size]? = some (.cells #[.bool (v1 == 0), .bool true, .int .i64 v4, .int .i64 v5, .int .i64 v6, .slice A5 rs5.length d5] 25 (0, 0)) := by simpa using hbZ'
            have hRZ := cz.blk hR7 (by omega)
            have JZ := HJ5.out.keep (cz.same (fun i hi h1 h2 => h1.2 h2))
            have cZ := cX7.then cz (fun i hi hb => by omega)
            have rZ := r7.chg cz (fun b hb => by omega)
            clear cz hbZ' hR7 cX7 r7
            obtain ⟨p0, p1, p2, p3, p4, p5, pf⟩ := six hbZ
            obtain ⟨a0, a1, a2, a3, a4, a5, af⟩ := six hRZ
            have HJZ := Lib.hid JZ
            have HCZ := Lib.hid cZ
            clear JZ cZ hbZ hRZ
            go_wp2
            all_goals
              refine bodyPost_ret (v := .agg #[.bool (v1 == 0), .bool true, .int .i64 v4, .int .i64 v5, .int .i64 v6, .slice A5 (rs5).length d5]) (by simp [results, Tryd.results18, go_sem, a0, a1, a2, a3, a4, a5]) rfl ?_
              refine fin_b (X := Z) ⟨(v1 == 0), true, v4, v5, v6, rs5⟩ A5 d5 ?_ (by show 1 ≤ rs5.length; have := HL5.out; omega) (by show rs5.length ≤ 5; have := HL5.out; omega) HT5.out HJZ.out rZ (by omega) HCZ.out hg0
              exact (Chg.refl _ Z).put.put.put.put.put.put
      · go_wp2_with fail
        have hb9 := blk_below Hba.out (bal wa (.cells #[.int .i64 (-1), .int .i64 1, .int .i64 100] 3))
        have hR9 := blk_below hRa (bal wa (.cells #[.int .i64 (-1), .int .i64 1, .int .i64 100] 3))
        refine (pickN g _ 3 _ (ra.below (bal _ _)) (by omega) (by omega) (by omega)).mono ?_
        rintro e wb ⟨vb, rfl, ab, bb, rb, cb⟩
        have hne : ¬ (wa.heap.size = g) := by have := ra.lt; omega
        have hlit := cb.blk (heap_alloc_new wa (.cells #[.int .i64 (-1), .int .i64 1, .int .i64 100] 3)) hne
        obtain ⟨x, hx⟩ := lit_at [-1, 1, 100] hlit ab bb
        have hbb := cb.blk hb9 (by omega)
        have hRb := cb.blk hR9 (by omega)
        have hsb := cb.size
        have hsb2 := bal wa (.cells #[.int .i64 (-1), .int .i64 1, .int .i64 100] 3)
        have Jb := (Ja.below hsb2).keep (cb.same (fun i _ h1 h2 => by have := h1.1; omega))
        have cXb := (cXa.alloc (.cells #[.int .i64 (-1), .int .i64 1, .int .i64 100] 3)).same_g cb
        clear hlit hb9 hR9 hsb2 cb Ja cXa ra HAa Hba hRa x0 x1 x2 x3 x4 x5 xf
        obtain ⟨x0, x1, x2, x3, x4, x5, xf⟩ := six hbb
        have Hbb := Lib.hid hbb
        clear hbb
        generalize hZ : wb.setCell ⟨w2.heap.size, 3, none⟩ (.int .i64 x) = Z
        obtain ⟨hbZ', cz⟩ := box1 Hbb.out hZ
        have hbZ : Z.heap[w2.heap.size]? = some (.cells #[.bool (v1 == 0), .bool true, .int .i64 v4, .int .i64 x, .int .i64 v6, .slice A9 (rs9).length 1] 25 (0, 0)) := by simpa using hbZ'
        have hRZ := cz.blk hRb (by omega)
        have JZ := Jb.keep (cz.same (fun i hi h1 h2 => h1.2 h2))
        have cZ := cXb.then cz (fun i hi hb => by omega)
        have rZ := rb.chg cz (fun b hb => by omega)
        clear cz hbZ' hRb Jb cXb rb
        obtain ⟨p0, p1, p2, p3, p4, p5, pf⟩ := six hbZ
        obtain ⟨a0, a1, a2, a3, a4, a5, af⟩ := six hRZ
        have HJZ := Lib.hid JZ
        have HCZ := Lib.hid cZ
        clear JZ cZ hbZ hRZ
        go_wp2
        all_goals
          refine bodyPost_ret (v := .agg #[.bool (v1 == 0), .bool true, .int .i64 v4, .int .i64 x, .int .i64 v6, .slice A9 (rs9).length 1]) (by simp [results, Tryd.results18, go_sem, a0, a1, a2, a3, a4, a5]) rfl ?_
          refine fin_b (X := Z) ⟨(v1 == 0), true, v4, x, v6, rs9⟩ A9 1 ?_ hl9 (by show rs9.length ≤ 5; omega) HT9.out HJZ.out rZ (by omega) HCZ.out hg0
          exact (Chg.refl _ Z).put.put.put.put.put.put
end Go.Proofs.YtdjhokmcpgjiiaaDoor
