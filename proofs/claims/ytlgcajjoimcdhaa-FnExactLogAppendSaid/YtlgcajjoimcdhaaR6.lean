/- LogAppend of the program. -/
import Derived.Test.YtlgcajjoimcdhaaS8
import Derived.Test.YtlgcajjoimcdhaaM2
namespace Go.Proofs.Ytlgcajjoimcdhaa
set_option linter.unusedVariables false
set_option linter.unusedSimpArgs false
open Go.RowKit

theorem blk_put6 {w : World} {g : Nat} {e : TypeId} {a0 a1 a2 a3 a4 a5 : Value} (h : w.heap[g]? = some (.cells #[a0, a1, a2, a3, a4, a5] e (0, 0))) (b0 b1 b2 b3 b4 b5 : Value) :
    ((((((w.setCell ⟨g, 0, none⟩ b0).setCell ⟨g, 1, none⟩ b1).setCell ⟨g, 2, none⟩ b2).setCell ⟨g, 3, none⟩ b3).setCell ⟨g, 4, none⟩ b4).setCell ⟨g, 5, none⟩ b5).heap[g]? = some (.cells #[b0, b1, b2, b3, b4, b5] e (0, 0)) := by
  have h0 := blk_put h 0 b0
  have h1 := blk_put h0 1 b1
  have h2 := blk_put h1 2 b2
  have h3 := blk_put h2 3 b3
  have h4 := blk_put h3 4 b4
  have h5 := blk_put h4 5 b5
  simpa using h5

set_option maxRecDepth 100000 in
set_option maxHeartbeats 4000000 in
theorem LogAppend_any (bs : List Bat) (b : Bat) (A A' : Option Addr) (c c' : Nat) (F F' : Nat → Prop) (w : World) (h : Bats w F A c bs) (hr : Recs w F' A' c' b.recs) :
    Calls Try.prog 18 #[.slice A bs.length c, .agg #[.bool b.packed, .bool b.mark, .int .i64 b.prod, .int .i64 b.epoch, .int .i64 b.seq, .slice A' b.recs.length c']] w fun e w' =>
      ∃ v B, e = .returned (.tuple #[v, .bool (appB bs b)]) ∧ AppX BX 30 w' (fun i => w.heap.size ≤ i) B v (logAppend bs b) ∧ Below w.heap.size w w' := by
  have hl := h.1
  have hc := h.2.1
  have hbd := h.bound bnd_bat
  have hrbd := hr.bound bnd_rec
  cases hv : logB bs
  · have e0 : appB bs b = false := by unfold appB; rw [hv]; rfl
    rw [logAppend_no e0, e0]
    have HV := Lib.hid hv
    clear hv e0
    go_enter Try.func18, Try.ntmps18
    go_wp2_with fail
    generalize hW : World.alloc _ _ = W
    obtain ⟨hA, b1, hsW⟩ := alloc1 hW
    clear hW
    refine (LogValid_any bs A c _ _ (h.below b1)).mono ?_
    rintro e w2 ⟨rfl, hb2⟩
    rw [HV.out]
    have b2 := bthen b1 hb2
    have HX := Lib.hid ((AppX.nil BX 30 w2 (fun i => w.heap.size ≤ i)))
    have HB := Lib.hid b2
    clear hb2 b1 b2 hA
    go_wp2
    go_ret2
    exact ⟨_, _, rfl, HX.out, HB.out⟩
  cases hvb : batB b
  · have e0 : appB bs b = false := by unfold appB; rw [hv, hvb]; rfl
    rw [logAppend_no e0, e0]
    have HV := Lib.hid hv
    have HVB := Lib.hid hvb
    clear hv hvb e0
    go_enter Try.func18, Try.ntmps18
    go_wp2_with fail
    generalize hW : World.alloc _ _ = W
    obtain ⟨hA, b1, hsW⟩ := alloc1 hW
    clear hW
    refine (LogValid_any bs A c _ _ (h.below b1)).mono ?_
    rintro e w2 ⟨rfl, hb2⟩
    rw [HV.out]
    have b2 := bthen b1 hb2
    obtain ⟨p0, p1, p2, p3, p4, p5, pf⟩ := six (blk_below hA hb2)
    have hr2 := hr.below b2
    go_wp2_with fail
    refine (BatchValid_any b A' c' _ _ hr2).mono ?_
    rintro e w3 ⟨rfl, hb3⟩
    rw [HVB.out]
    have b3 := bthen b2 hb3
    have HX := Lib.hid ((AppX.nil BX 30 w3 (fun i => w.heap.size ≤ i)))
    have HB := Lib.hid b3
    clear hb2 b1 b2 b3 hA hb3 p0 p1 p2 p3 p4 p5 pf
    go_wp2
    go_ret2
    exact ⟨_, _, rfl, HX.out, HB.out⟩
  have hn8 := ((logB_iff _).1 hv).1
  have hn6 := (batB_len hvb).2
  have hen := endOf_nonneg hv
  have hre : readEnd bs = endOf bs := by unfold readEnd; rw [hv]; rfl
  rw [← hre] at hen
  have HSM := Lib.hid (fun r (hr : r ∈ b.recs) => show r.short from by
    have := recB_small (((recsB_iff _).1 (batB_recs hvb)).1 r hr)
    exact ⟨by omega, by omega⟩)
  have HLN := Lib.hid (fun x (hx : x ∈ bs) => show x.recs.length ≤ 1000 from by have := (batB_len (((logB_iff _).1 hv).2.1 x hx)).2; omega)
  have HSL := Lib.hid (fun x (hx : x ∈ bs) r (hr : r ∈ x.recs) => show r.short from by
    have := recB_small (((recsB_iff _).1 (batB_recs (((logB_iff _).1 hv).2.1 x hx))).1 r hr)
    exact ⟨by omega, by omega⟩)
  have HV := Lib.hid hv
  have HVB := Lib.hid hvb
  clear hv hvb hre
  go_enter Try.func18, Try.ntmps18
  go_wp2_with fail
  generalize hW : World.alloc _ _ = W
  obtain ⟨hA, b1, hsW⟩ := alloc1 hW
  clear hW
  refine (LogValid_any bs A c _ _ (h.below b1)).mono ?_
  rintro e w2 ⟨rfl, hb2⟩
  rw [HV.out]
  have b2 := bthen b1 hb2
  have hA2 := blk_below hA hb2
  obtain ⟨p0, p1, p2, p3, p4, p5, pf⟩ := six hA2
  have hr2 := hr.below b2
  go_wp2_with fail
  refine (BatchValid_any b A' c' _ _ hr2).mono ?_
  rintro e w3 ⟨rfl, hb3⟩
  rw [HVB.out]
  have b3 := bthen b2 hb3
  have hA3 := blk_below hA2 hb3
  clear hb2 b1 b2 hA hA2 hb3 p0 p1 p2 p3 p4 p5 pf hsW hr2
  go_wp2_with fail
  refine (ReadEnd_any bs A c _ _ (h.below b3)).mono ?_
  rintro e w4 ⟨rfl, hb4⟩
  have b4 := bthen b3 hb4
  have hA4 := blk_below hA3 hb4
  obtain ⟨n, hn⟩ : ∃ n, n = readEnd bs := ⟨_, rfl⟩
  rw [← hn] at hen ⊢
  have HN := Lib.hid hn
  obtain ⟨hn0, hn1⟩ := hen
  obtain ⟨p0, p1, p2, p3, p4, p5, pf⟩ := six hA4
  clear hn b3 hA3 hb4
  go_wp2_with fail
  refine (copyOfB_any b A' c' _ _ (hr.below b4) (by omega) HSM.out).mono ?_
  rintro e w5 ⟨B2, d2, rfl, hX5, hb5⟩
  have b5 := bthen b4 hb5
  have hA5 := blk_below hA4 hb5
  have hX5 := hX5.bound
  have hs4 := (Array.getElem?_eq_some_iff.1 hA4).1
  have cZ : Chg (fun i => i = w.heap.size) w5 ((((((w5.setCell ⟨w.heap.size, 0, none⟩ (.bool b.packed)).setCell ⟨w.heap.size, 1, none⟩ (.bool b.mark)).setCell ⟨w.heap.size, 2, none⟩ (.int .i64 b.prod)).setCell ⟨w.heap.size, 3, none⟩ (.int .i64 b.epoch)).setCell ⟨w.heap.size, 4, none⟩ (.int .i64 b.seq)).setCell ⟨w.heap.size, 5, none⟩ (.slice B2 b.recs.length d2)) :=
    Chg.setCells (fun i => i = w.heap.size) rfl [.bool b.packed, .bool b.mark, .int .i64 b.prod, .int .i64 b.epoch, .int .i64 b.seq, .slice B2 b.recs.length d2] 0 w5
  have hPX := blk_put6 hA5 (.bool b.packed) (.bool b.mark) (.int .i64 b.prod) (.int .i64 b.epoch) (.int .i64 b.seq) (.slice B2 b.recs.length d2)
  obtain ⟨X, hX⟩ : ∃ X, X = (((((w5.setCell ⟨w.heap.size, 0, none⟩ (.bool b.packed)).setCell ⟨w.heap.size, 1, none⟩ (.bool b.mark)).setCell ⟨w.heap.size, 2, none⟩ (.int .i64 b.prod)).setCell ⟨w.heap.size, 3, none⟩ (.int .i64 b.epoch)).setCell ⟨w.heap.size, 4, none⟩ (.int .i64 b.seq)).setCell ⟨w.heap.size, 5, none⟩ (.slice B2 b.recs.length d2) := ⟨_, rfl⟩
  rw [← hX] at cZ hPX
  have HX := Lib.hid hX
  have hRX := hX5.keep (w' := X) (cZ.same (fun i _ h1 h2 => by have := h1.1; omega)) cZ.size
  have HRX := Lib.hid (hRX.mono (F' := fun i => w.heap.size < i ∧ i < X.heap.size) (fun i hi => ⟨by have := hi.1; omega, by have := hi.2; have := cZ.size; omega⟩))
  have HBX := Lib.hid (b5.trans (cZ.below b5.size (fun i hi => by omega)))
  have HPX := Lib.hid hPX
  have hrl := hX5.1
  have hrc := hX5.2.1
  clear p0 p1 p2 p3 p4 p5 pf
  obtain ⟨p0, p1, p2, p3, p4, p5, pf⟩ := six hA5
  clear hX hPX cZ hRX hX5 hA5 hb5 b5 hA4 b4 hs4
  go_wp2_with fail
  rw [← HX.out]
  clear p0 p1 p2 p3 p4 p5 pf HX
  go_loopw [24] (fun i wr => ∃ k : Nat, k ≤ b.recs.length ∧ i = .int .i64 k ∧ Hid (XRecs 3 33 wr (fun i => w.heap.size < i ∧ i < X.heap.size) B2 d2 (renUp b.recs n k)) ∧
    Hid (wr.heap[w.heap.size]? = some (.cells #[.bool b.packed, .bool b.mark, .int .i64 b.prod, .int .i64 b.epoch, .int .i64 b.seq, .slice B2 b.recs.length d2] 30 (0, 0))) ∧ Hid (Below w.heap.size w wr) ∧ Hid (X.heap.size = wr.heap.size)) (fun i _ => b.recs.length - (intOf i).toNat)
  case atStart => exact ⟨0, Nat.zero_le _, rfl, HRX, HPX, HBX, Lib.hid rfl⟩
  case round =>
    obtain ⟨k, hk, rfl, HR, HP, HB, HZ⟩ := hrel
    clear HRX HPX
    obtain ⟨p0, p1, p2, p3, p4, p5, pf⟩ := six HP.out
    by_cases hlt : k < b.recs.length
    · obtain ⟨hju, hel, hnx⟩ := renUp_next b.recs n k hlt
      obtain ⟨g, m, Fi, cs, rfl, hF, hBk, hroom, hFi, hXe, hcell, hput⟩ := HR.out.focus hju
      rw [hel] at hXe
      obtain ⟨A1, c1, A2, c2, rfl, rest⟩ := hXe
      have s6 : (XKind.rec_ 3).d.sz = 6 := rfl
      rw [s6] at hcell hroom hput
      have q0 := hcell 0 _ rfl
      rw [Nat.add_zero] at q0
      have fz : ∀ i, wr.frozen? ⟨g, i, none⟩ = false := fun i => hBk.frozen i
      obtain ⟨B3, k0, c3, r3⟩ := blkPut hBk (o := k * 6) (by omega) (.int .i64 (n + (k : Int)))
      have hXn : (XKind.rec_ 3).X (wr.setCell ⟨g, k * 6, none⟩ (.int .i64 (n + (k : Int)))) Fi (b.recs[k].onto (n + (k : Int))) [.int .i64 (n + (k : Int)), .int .i64 b.recs[k].time, .bool b.recs[k].hk, .slice A1 b.recs[k].key.length c1, .bool b.recs[k].hv, .slice A2 b.recs[k].val.length c2] := by
        have hq : (XKind.rec_ 3).X wr Fi (b.recs[k].onto (n + (k : Int))) [.int .i64 (n + (k : Int)), .int .i64 b.recs[k].time, .bool b.recs[k].hk, .slice A1 b.recs[k].key.length c1, .bool b.recs[k].hv, .slice A2 b.recs[k].val.length c2] := ⟨A1, c1, A2, c2, rfl, rest⟩
        exact (XKind.rec_ 3).keep (c3.same (fun i _ h1 h2 => (hFi i h1).2.1 h2)) c3.size hq
      have hfin := hput _ _ _ (c3.mono (F' := fun i => i = g ∨ Fi i) (fun i _ h => .inl h)) B3 hXn (fun q u hu => by
        match q, hu with
        | 0, hu => simp at hu; subst hu; exact k0
        | 1, hu => rw [r3 _ (by omega)]; exact hcell 1 _ hu
        | 2, hu => rw [r3 _ (by omega)]; exact hcell 2 _ hu
        | 3, hu => rw [r3 _ (by omega)]; exact hcell 3 _ hu
        | 4, hu => rw [r3 _ (by omega)]; exact hcell 4 _ hu
        | 5, hu => rw [r3 _ (by omega)]; exact hcell 5 _ hu
        | q + 6, hu => simp at hu) (fun p hp => r3 p (by omega))
      rw [← hnx] at hfin
      have HR2 := Lib.hid hfin
      have HP2 := Lib.hid (c3.blk HP.out (fun e => by have := hF.1; omega))
      have HB2 := Lib.hid (HB.out.trans (c3.below HB.out.size (fun i hi => by have := hF.1; omega)))
      have HZ2 := Lib.hid (show X.heap.size = (wr.setCell ⟨g, k * 6, none⟩ (.int .i64 (n + (k : Int)))).heap.size by rw [HZ.out]; simp)
      clear hfin hXn hput hcell rest c3 r3 k0 B3 hBk hel hnx
      go_wp2
      go_roundw
      case rel => exact ⟨k + 1, by omega, by go_num, HR2, HP2, HB2, HZ2⟩
      case measure => simp [intOf]; omega
    · have hk2 : k = b.recs.length := by omega
      subst hk2
      obtain ⟨rs, hrs⟩ : ∃ rs, rs = renUp b.recs n b.recs.length := ⟨_, rfl⟩
      have hrlen : rs.length = b.recs.length := by rw [hrs, renUp_len]
      have HRS : Hid (b.holding rs = b.holding (renum b.recs (readEnd bs))) := Lib.hid (by rw [hrs, renUp_all, HN.out])
      have hR := HR.out
      rw [← hrs] at hR
      have bD : Below wr.heap.size wr wr.drew := ⟨rfl, rfl, rfl, Nat.le_refl _, fun _ _ => rfl⟩
      have XK := Lib.hid (show BX.X wr.drew (fun i => w.heap.size < i ∧ i < X.heap.size) (b.holding rs) [.bool b.packed, .bool b.mark, .int .i64 b.prod, .int .i64 b.epoch, .int .i64 b.seq, .slice B2 b.recs.length d2] from ⟨B2, d2, by simp [Bat.holding, hrlen], hR.below bD⟩)
      have BV := Lib.hid (bthen HB.out bD)
      have HBV := Lib.hid (hbd.below BV.out)
      have HLW := Lib.hid (show w.heap.size < wr.heap.size from (Array.getElem?_eq_some_iff.1 HP.out).1)
      have HDW := Lib.hid (show wr.drew.heap.size = wr.heap.size from rfl)
      have HDW2 := Lib.hid (show (wr.drew.alloc (.cells [.bool b.packed, .bool b.mark, .int .i64 b.prod, .int .i64 b.epoch, .int .i64 b.seq, .slice B2 b.recs.length d2].toArray 30)).heap.size = wr.heap.size + 1 by simp)
      have HPV := Lib.hid (show wr.drew.heap[w.heap.size]? = _ from HP.out)
      clear hrs hR bD HBX hrlen
      go_wp2_with fail
      go_region_law (first
        | (go_simp; refine (copyBatches_any bs A c _ wr.drew HBV.out (by omega) HLN.out HSL.out).mono ?_; rintro e w6 ⟨v6, B6, rfl, hX6, hb6⟩; obtain ⟨r0, r1, r2, r3, r4, r5, rf⟩ := six (blk_below HPV.out hb6))
        | (go_simp; refine (copyBatches_any bs A c _ (wr.drew.alloc (.cells [.bool b.packed, .bool b.mark, .int .i64 b.prod, .int .i64 b.epoch, .int .i64 b.seq, .slice B2 b.recs.length d2].toArray 30)) (HBV.out.below (bal _ _)) (by omega) HLN.out HSL.out).mono ?_; rintro e w6 ⟨v6, B6, rfl, hX6, hb6⟩)
        | (refine step_appX3 BX (R' := fun i => w.heap.size ≤ i) (hX6.below (bal w6 (.cells [.bool b.packed, .bool b.mark, .int .i64 b.prod, .int .i64 b.epoch, .int .i64 b.seq, .slice B2 b.recs.length d2].toArray 30))) (fun i hi => by have := BV.out.size; have := HDW.out; (try simp at hi); omega) rfl _ _ 23 (.agg #[.bool false, .bool false, .int .i64 0, .int .i64 0, .int .i64 0, .slice none 0 0]) 56 rfl Try.underlying23 (by kernel_rfl) rfl (by decide) (b.holding rs) [.bool b.packed, .bool b.mark, .int .i64 b.prod, .int .i64 b.epoch, .int .i64 b.seq, .slice B2 b.recs.length d2] _ w6.heap.size rfl rfl (cells_at (heap_alloc_new w6 (.cells [.bool b.packed, .bool b.mark, .int .i64 b.prod, .int .i64 b.epoch, .int .i64 b.seq, .slice B2 b.recs.length d2].toArray 30))) (XKind.below XK.out (bthen hb6 (bal w6 (.cells [.bool b.packed, .bool b.mark, .int .i64 b.prod, .int .i64 b.epoch, .int .i64 b.seq, .slice B2 b.recs.length d2].toArray 30)))) (fun i hi => ⟨by have := hi.1; omega, fun hn => by have := hi.2; have := HZ.out; have := HDW.out; (try simp at hn); omega⟩) (by simp [Value.oneCell']) (fun i hi => by have := BV.out.size; have := HDW.out; have := hb6.size; (try simp at *); omega) (by omega) (by omega) ?_; intro v7 w7 HA7 hc7 ho7; have B7 := Lib.hid ((bthen BV.out (bthen hb6 (bal w6 (.cells [.bool b.packed, .bool b.mark, .int .i64 b.prod, .int .i64 b.epoch, .int .i64 b.seq, .slice B2 b.recs.length d2].toArray 30)))).trans (hc7.below (bthen BV.out (bthen hb6 (bal w6 (.cells [.bool b.packed, .bool b.mark, .int .i64 b.prod, .int .i64 b.epoch, .int .i64 b.seq, .slice B2 b.recs.length d2].toArray 30)))).size (fun i hi => by have := (hX6.ge i hi).1; have := HDW2.out; have := BV.out.size; have := HDW.out; omega))))
        | (refine step_appX3 BX (R' := fun i => w.heap.size ≤ i) hX6 (fun i hi => by have := BV.out.size; have := HDW.out; (try simp at hi); omega) rfl _ _ 23 (.agg #[.bool false, .bool false, .int .i64 0, .int .i64 0, .int .i64 0, .slice none 0 0]) 56 rfl Try.underlying23 (by kernel_rfl) rfl (by decide) (b.holding rs) [.bool b.packed, .bool b.mark, .int .i64 b.prod, .int .i64 b.epoch, .int .i64 b.seq, .slice B2 b.recs.length d2] _ wr.heap.size rfl rfl (cells_at (blk_below (heap_alloc_new wr.drew (.cells [.bool b.packed, .bool b.mark, .int .i64 b.prod, .int .i64 b.epoch, .int .i64 b.seq, .slice B2 b.recs.length d2].toArray 30)) hb6)) (XKind.below XK.out (bthen (bal wr.drew (.cells [.bool b.packed, .bool b.mark, .int .i64 b.prod, .int .i64 b.epoch, .int .i64 b.seq, .slice B2 b.recs.length d2].toArray 30)) hb6)) (fun i hi => ⟨by have := hi.1; omega, fun hn => by have := hi.2; have := HZ.out; have := HDW.out; (try simp at hn); omega⟩) (by simp [Value.oneCell']) (fun i hi => by have := BV.out.size; have := HDW.out; have := hb6.size; (try simp at *); omega) (by omega) (by omega) ?_; intro v7 w7 HA7 hc7 ho7; have B7 := Lib.hid ((bthen BV.out (bthen (bal wr.drew (.cells [.bool b.packed, .bool b.mark, .int .i64 b.prod, .int .i64 b.epoch, .int .i64 b.seq, .slice B2 b.recs.length d2].toArray 30)) hb6)).trans (hc7.below (bthen BV.out (bthen (bal wr.drew (.cells [.bool b.packed, .bool b.mark, .int .i64 b.prod, .int .i64 b.epoch, .int .i64 b.seq, .slice B2 b.recs.length d2].toArray 30)) hb6)).size (fun i hi => by have := (hX6.ge i hi).1; have := HDW2.out; have := BV.out.size; have := HDW.out; omega)))))
      all_goals
        rw [HRS.out] at HA7
        obtain ⟨out, hout⟩ : ∃ out, out = appd bs b := ⟨_, rfl⟩
        rw [show bs ++ [b.holding (renum b.recs (readEnd bs))] = out from hout.symm] at HA7
        have HOUT := Lib.hid hout
        clear hout hc7 ho7 hX6 hb6 HPV HBV HDW HDW2 XK HLW p0 p1 p2 p3 p4 p5 pf
        obtain ⟨A5, c5, rfl, hJ⟩ := HA7.row
        go_wp2_with fail
        refine (LogValid_any out A5 c5 _ _ hJ.toK).mono ?_
        rintro e w8 ⟨rfl, hb8⟩
        have HA8 := Lib.hid (HA7.below hb8)
        have B8 := Lib.hid (bthen B7.out hb8)
        have HL := Lib.hid (AppX.nil BX 30 w8 (fun i => w.heap.size ≤ i))
        have HAB := Lib.hid (show appB bs b = logB out by unfold appB; rw [HV.out, HVB.out, HOUT.out]; rfl)
        clear hJ HA7 hb8 B7
        cases hq : logB out
        · rw [hq] at HAB
          go_wp2
          go_ret2
          exact ⟨_, _, (by rw [HAB.out]; rfl), (by rw [logAppend_no HAB.out]; exact HL.out), B8.out⟩
        · rw [hq] at HAB
          go_wp2
          go_ret2
          exact ⟨_, _, (by rw [HAB.out]; rfl), (by rw [logAppend_yes HAB.out, ← HOUT.out]; exact HA8.out), B8.out⟩
end Go.Proofs.Ytlgcajjoimcdhaa
