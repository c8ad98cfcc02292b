/- LogAppend of the reference. -/
import Derived.Test.YtlgcajjoimcdhaaC3
import Derived.Test.YtlgcajjoimcdhaaS4
import Derived.Test.YtlgcajjoimcdhaaPa
import Derived.Test.YtlgcajjoimcdhaaR3
namespace Go.Proofs.Ytlgcajjoimcdhaa
set_option linter.unusedVariables false
set_option linter.unusedSimpArgs false
open Go.RowKit

theorem Copied.onto {w w' W : World} {r : Rec} {vk vv : Value} (h : Copied w w' r vk vv) (o : Int) (hc : Chg (fun i => i = w'.heap.size) w' W) :
    RX.X W (fun b => w.heap.size ≤ b ∧ b < w'.heap.size) (r.onto o) [.int .i64 o, .int .i64 r.time, .bool r.hk, vk, .bool r.hv, vv] := by
  obtain ⟨A, c, A', c', e, rest⟩ := RX.keep (w' := W) (hc.same (fun b _ h1 h2 => by have := h1.2; omega)) hc.size h.x
  refine ⟨A, c, A', c', ?_, rest⟩
  simp [Rec.onto] at e ⊢
  exact e

set_option maxHeartbeats 4000000 in
theorem LogAppendS_any (bs : List Bat) (b : Bat) (A A' : Option Addr) (c c' : Nat) (F F' : Nat → Prop) (w : World) (h : Bats w F A c bs) (hr : Recs w F' A' c' b.recs) :
    Calls Try.prog 20 #[.slice A bs.length c, .agg #[.bool b.packed, .bool b.mark, .int .i64 b.prod, .int .i64 b.epoch, .int .i64 b.seq, .slice A' b.recs.length c']] w fun e w' =>
      ∃ v B, e = .returned (.tuple #[v, .bool (appB bs b)]) ∧ AppX BX 30 w' (fun i => w.heap.size ≤ i) B v (logAppend bs b) ∧ Below w.heap.size w w' := by
  have hl := h.1
  have hc := h.2.1
  have hbd := h.bound bnd_bat
  have hrbd := hr.bound bnd_rec
  cases hv : logB bs
  · have e0 : appB bs b = false := by unfold appB; rw [hv]; rfl
    rw [logAppend_no e0, e0]
    have HV := Lib.hid hv
    clear hv e0
    go_enter Try.func20, Try.ntmps20
    go_wp2_with fail
    generalize hW : World.alloc _ _ = W
    obtain ⟨hA, b1, hsW⟩ := alloc1 hW
    clear hW
    refine (LogValidS_any bs A c _ _ (h.below b1)).mono ?_
    rintro e w2 ⟨rfl, hb2⟩
    rw [HV.out]
    have b2 := bthen b1 hb2
    have HX := Lib.hid (AppX.lit BX 30 w2 (fun i => w.heap.size ≤ i) b2.size)
    have HB := Lib.hid (bthen b2 (bal w2 (.cells #[] 30)))
    clear hb2 b1 b2 hA
    go_wp2
    go_ret2
    exact ⟨_, _, rfl, HX.out, HB.out⟩
  cases hvb : batB b
  · have e0 : appB bs b = false := by unfold appB; rw [hv, hvb]; rfl
    rw [logAppend_no e0, e0]
    have HV := Lib.hid hv
    have HVB := Lib.hid hvb
    clear hv hvb e0
    go_enter Try.func20, Try.ntmps20
    go_wp2_with fail
    generalize hW : World.alloc _ _ = W
    obtain ⟨hA, b1, hsW⟩ := alloc1 hW
    clear hW
    refine (LogValidS_any bs A c _ _ (h.below b1)).mono ?_
    rintro e w2 ⟨rfl, hb2⟩
    rw [HV.out]
    have b2 := bthen b1 hb2
    obtain ⟨p0, p1, p2, p3, p4, p5, pf⟩ := six (blk_below hA hb2)
    have hr2 := hr.below b2
    go_wp2_with fail
    refine (BatchValidS_any b A' c' _ _ hr2).mono ?_
    rintro e w3 ⟨rfl, hb3⟩
    rw [HVB.out]
    have b3 := bthen b2 hb3
    have HX := Lib.hid (AppX.lit BX 30 w3 (fun i => w.heap.size ≤ i) b3.size)
    have HB := Lib.hid (bthen b3 (bal w3 (.cells #[] 30)))
    clear hb2 b1 b2 b3 hA hb3 p0 p1 p2 p3 p4 p5 pf
    go_wp2
    go_ret2
    exact ⟨_, _, rfl, HX.out, HB.out⟩
  have hn8 := ((logB_iff _).1 hv).1
  have hn6 := batB_len hvb
  have hn6 := hn6.2
  have hen := endOf_nonneg hv
  have hre : readEnd bs = endOf bs := by unfold readEnd; rw [hv]; rfl
  have HSM := Lib.hid (fun r (hr : r ∈ b.recs) => recB_small (((recsB_iff _).1 (batB_recs hvb)).1 r hr))
  have HLN := Lib.hid (fun x (hx : x ∈ bs) => show x.recs.length ≤ 1000 from by have := (batB_len (((logB_iff _).1 hv).2.1 x hx)).2; omega)
  have HSL := Lib.hid (fun x (hx : x ∈ bs) r (hr : r ∈ x.recs) => show r.short from by
    have := recB_small (((recsB_iff _).1 (batB_recs (((logB_iff _).1 hv).2.1 x hx))).1 r hr)
    exact ⟨by omega, by omega⟩)
  by_cases h0 : 0 < bs.length
  · have e2 := endOf_last hv h0
    have hvl := ((logB_iff _).1 hv).2.1 _ (List.getElem_mem (l := bs) (n := bs.length - 1) (by omega))
    have hbp := Lib.hid (batB_pos hvl)
    have hk1 : bs.length - 1 < bs.length := by omega
    have HN := Lib.hid (show bs[bs.length - 1].last + 1 = readEnd bs by rw [hre, e2])
    rw [e2] at hen
    have hl0 := hen.1
    have hl1 := hen.2
    have HV := Lib.hid hv
    have HVB := Lib.hid hvb
    clear hv hvb e2 hvl hre hen
    go_enter Try.func20, Try.ntmps20
    go_wp2_with fail
    generalize hW : World.alloc _ _ = W
    obtain ⟨hA, b1, hsW⟩ := alloc1 hW
    clear hW
    refine (LogValidS_any bs A c _ _ (h.below b1)).mono ?_
    rintro e w2 ⟨rfl, hb2⟩
    rw [HV.out]
    have b2 := bthen b1 hb2
    have hA2 := blk_below hA hb2
    obtain ⟨p0, p1, p2, p3, p4, p5, pf⟩ := six hA2
    have hr2 := hr.below b2
    go_wp2_with fail
    refine (BatchValidS_any b A' c' _ _ hr2).mono ?_
    rintro e w3 ⟨rfl, hb3⟩
    rw [HVB.out]
    have hPq := blk_below hA2 hb3
    have hBq := bthen b2 hb3
    clear hb2 b1 b2 hA hA2 hb3 p0 p1 p2 p3 p4 p5 pf hsW hr2
    obtain ⟨ad, B0, b0, rfl, _, hrl, q0, q1, q2, q3, q4, q5⟩ := (h.below hBq).bat_at hk1
    go_wp2_with fail
    refine (l12Last_any bs[bs.length - 1] B0 b0 _ _ hrl hbp.out).mono ?_
    rintro e w4 ⟨rfl, hb4⟩
    have hPq := blk_below hPq hb4
    have hBq := bthen hBq hb4
    clear hb4 q0 q1 q2 q3 q4 q5 hrl hbp
    obtain ⟨n, hn⟩ : ∃ n, n = bs[bs.length - 1].last := ⟨_, rfl⟩
    rw [← hn] at HN hl0 hl1 ⊢
    clear hn
    have hX := AppX.lit RX 33 w4 (fun i => w.heap.size < i) (by have := (Array.getElem?_eq_some_iff.1 hPq).1; omega)
    have bl := bal w4 (.cells #[] 33)
    have HP0 := Lib.hid (blk_below hPq bl)
    have HB0 := Lib.hid (bthen hBq bl)
    clear bl hPq hBq
    go_wp2_with fail
    try clear h0
    go_loopw [7, 8] (fun v i wr => ∃ k : Nat, k ≤ b.recs.length ∧ i = .int .i64 k ∧ (∃ B, AppX RX 33 wr (fun i => w.heap.size < i) B v (renTo b.recs (readEnd bs) k)) ∧
      Hid (wr.heap[w.heap.size]? = some (.cells #[.bool b.packed, .bool b.mark, .int .i64 b.prod, .int .i64 b.epoch, .int .i64 b.seq, .slice A' b.recs.length c'] 30 (0, 0))) ∧ Hid (Below w.heap.size w wr)) (fun _ i _ => b.recs.length - (intOf i).toNat)
    case atStart => exact ⟨0, Nat.zero_le _, rfl, ⟨_, hX⟩, HP0, HB0⟩
    case round =>
      obtain ⟨k, hk, rfl, ⟨B, HA⟩, HP, HB⟩ := hrel
      clear hX HP0 HB0
      obtain ⟨p0, p1, p2, p3, p4, p5, pf⟩ := six HP.out
      have HWS := Lib.hid (show w.heap.size < wr.heap.size from (Array.getElem?_eq_some_iff.1 HP.out).1)
      by_cases hlt : k < b.recs.length
      · obtain ⟨ad2, C1, d1, C2, d2, rfl, _, hi1, hi2, q0, q1, q2, q3, q4, q5⟩ := (hrbd.below HB.out).rec_at hlt
        obtain ⟨A1, c1, rfl, hl1, hc1⟩ := HA.toP.slice_
        have HE := Lib.hid (show renTo b.recs (readEnd bs) (k + 1) = renTo b.recs (readEnd bs) k ++ [b.recs[k].onto (n + 1 + (k : Int))] by rw [renTo_succ b.recs (readEnd bs) k hlt, show readEnd bs + (k : Int) = n + 1 + (k : Int) by have := HN.out; omega])
        have hxl := renTo_len b.recs (readEnd bs) k
        obtain ⟨xs, hxs⟩ : ∃ xs, xs = renTo b.recs (readEnd bs) k := ⟨_, rfl⟩
        rw [← hxs] at HA HE hl1 hxl
        rw [← hxs]
        clear hxs
        have hxk : xs.length ≤ 5 := by omega
        have HX := Lib.hid HA
        have hsm := HSM.out _ (List.getElem_mem hlt)
        have hge := HX.out.ge
        clear HA hxl
        go_wp2_with fail
        refine (l12Copy_any b.recs[k] C1 C2 d1 d2 _ _ hi1 hi2 (by omega) (by omega)).mono ?_
        rintro e w4 ⟨vk, vv, rfl, hCp⟩
        obtain ⟨Ak, ck, rfl, _⟩ := AppP.row hCp.key
        obtain ⟨Av, cv, rfl, _⟩ := AppP.row hCp.val
        have X4 := HX.out.below hCp.below
        have B4 := bthen HB.out hCp.below
        have HP4 := blk_below HP.out hCp.below
        have HS4 := hCp.below.size
        have c5 : Chg (fun i => i = w4.heap.size) w4 (w4.alloc (.cells #[.int .i64 (n + 1 + (k : Int)), .int .i64 b.recs[k].time, .bool b.recs[k].hk, .slice Ak b.recs[k].key.length ck, .bool b.recs[k].hv, .slice Av b.recs[k].val.length cv] 33)) := Chg.of_below (bal w4 _)
        have hs5 := c5.size
        have XK := Lib.hid (hCp.onto (n + 1 + (k : Int)) c5)
        have X5 := Lib.hid (X4.chg c5 (fun i h1 _ h2 => by omega))
        have HP5 := Lib.hid (c5.blk HP4 (by have := (Array.getElem?_eq_some_iff.1 HP4).1; omega))
        have B5 := Lib.hid (B4.trans (c5.below B4.size (fun i hi => by have := B4.size; omega)))
        have HS5 := Lib.hid (Nat.le_trans HS4 hs5)
        clear q0 q1 q2 q3 q4 q5 p0 p1 p2 p3 p4 p5 pf hi1 hi2 X4 B4 HP4 c5 hs5 HS4 hCp
        go_wp2_with (at_builtin; go_loud (refine wpList_appX RX X5.out rfl _ _ 28 (.agg #[.int .i64 0, .int .i64 0, .bool false, .slice none 0 0, .bool false, .slice none 0 0]) 80 rfl Try.underlying28 (by kernel_rfl) rfl (by decide) (b.recs[k].onto (n + 1 + (k : Int))) _ _ rfl (by show Value.slice (some ⟨w4.heap.size + 1, 0, none⟩) 1 1 = _; simp) XK.out (fun i hi => ⟨by have := HWS.out; omega, by have := HX.out.1; omega⟩) (by simp [Value.oneCell']) (fun i hi => by have := HS5.out; have := HWS.out; omega) (by omega) (by omega) ?_))
        intro v1 w6 HA6 hc6 ho6
        have B6 := Lib.hid (B5.out.trans (hc6.below B5.out.size (fun i hi => by have := (hge i hi).1; omega)))
        have HP6 := Lib.hid (hc6.blk HP5.out (fun e => by have := (hge _ e).1; omega))
        rw [← HE.out] at HA6
        clear hc6 ho6 hge X5 XK
        go_wp2
        go_roundw
        case rel => exact ⟨k + 1, by omega, by go_num, ⟨_, HA6⟩, HP6, B6⟩
        case measure => simp [intOf]; omega
      · have hk2 : k = b.recs.length := by omega
        subst hk2
        obtain ⟨rs, hrs⟩ : ∃ rs, rs = renTo b.recs (readEnd bs) b.recs.length := ⟨_, rfl⟩
        rw [← hrs] at HA
        have HRS : Hid (b.holding rs = b.holding (renum b.recs (readEnd bs))) := Lib.hid (by rw [hrs]; rfl)
        clear hrs
        obtain ⟨A2, c2, rfl, hr2⟩ := HA.row
        have hr2 := hr2.bound
        have hAX := blk_put HP.out 5 (.slice A2 rs.length c2)
        obtain ⟨X, hX⟩ : ∃ X, X = wr.setCell ⟨w.heap.size, 5, none⟩ (.slice A2 rs.length c2) := ⟨_, rfl⟩
        rw [← hX] at hAX
        have hAX' : X.heap[w.heap.size]? = some (.cells #[.bool b.packed, .bool b.mark, .int .i64 b.prod, .int .i64 b.epoch, .int .i64 b.seq, .slice A2 rs.length c2] 30 (0, 0)) := by simpa using hAX
        have cX : Chg (fun i => i = w.heap.size) wr X := by rw [hX]; exact Chg.set (fun i => i = w.heap.size) wr (p := ⟨w.heap.size, 5, none⟩) rfl _
        have hs2 := HWS.out
        have hsX := cX.size
        have HRX := Lib.hid ((hr2.keep (w' := X) (cX.same (fun i _ h1 h2 => by have := h1.1; omega)) cX.size).mono (F' := fun i => w.heap.size < i ∧ i < X.heap.size) (fun i hi => ⟨hi.1, by have := hi.2; omega⟩))
        have HBX := Lib.hid (HB.out.trans (cX.below HB.out.size (fun i hi => by omega)))
        have HLX := Lib.hid (show w.heap.size < X.heap.size by omega)
        have hL := AppX.lit BX 30 X (fun i => X.heap.size ≤ i) (Nat.le_refl _)
        have bl := bal X (.cells #[] 30)
        have HP0 := Lib.hid (blk_below hAX' bl)
        have HB0 := Lib.hid bl
        have HX := Lib.hid hX
        have HLL := Lib.hid hL
        have HZZ := Lib.hid (show wr.heap.size = X.heap.size by rw [hX]; simp)
        clear hX hAX hAX' cX hr2 HA bl hL hs2 hsX
        go_wp2_with fail
        rw [← HX.out]
        go_loopw [10, 11] (fun v i wr => ∃ k : Nat, k ≤ bs.length ∧ i = .int .i64 k ∧ (∃ B, AppX BX 30 wr (fun i => X.heap.size ≤ i) B v (bs.take k)) ∧
          Hid (wr.heap[w.heap.size]? = some (.cells #[.bool b.packed, .bool b.mark, .int .i64 b.prod, .int .i64 b.epoch, .int .i64 b.seq, .slice A2 rs.length c2] 30 (0, 0))) ∧ Hid (Below X.heap.size X wr)) (fun _ i _ => bs.length - (intOf i).toNat)
        case atStart => exact ⟨0, Nat.zero_le _, rfl, ⟨X.heap.size + 1, by rw [HZZ.out]; exact HLL.out⟩, HP0, HB0⟩
        case round =>
          obtain ⟨k, hk, rfl, ⟨B, HA⟩, HP2, HB2⟩ := hrel
          clear p0 p1 p2 p3 p4 p5 pf HP0 HB0 HLL HX
          by_cases hlt : k < bs.length
          · obtain ⟨ad2, C1, d1, hAe, _, hi1, q0, q1, q2, q3, q4, q5⟩ := (hbd.below (bthen HBX.out HB2.out)).bat_at hlt
            first | (injection hAe with hAe; subst hAe) | subst hAe
            obtain ⟨A1, c1, rfl, hl1, hc1⟩ := HA.toP.slice_
            have HE := Lib.hid (List.take_succ_eq_append_getElem hlt)
            have hxl : (bs.take k).length = k := by rw [List.length_take]; omega
            obtain ⟨xs, hxs⟩ : ∃ xs, xs = bs.take k := ⟨_, rfl⟩
            rw [← hxs] at HA HE hl1 hxl
            rw [← hxs]
            clear hxs
            have hxk : xs.length ≤ 7 := by omega
            have HX := Lib.hid HA
            have hge := HX.out.ge
            have HW2 := Lib.hid HB2.out.size
            clear HA hxl
            go_wp2_with fail
            refine (l12Batch_any bs[k] C1 d1 _ _ hi1 (HLN.out _ (List.getElem_mem hlt)) (HSL.out _ (List.getElem_mem hlt))).mono ?_
            rintro e w4 ⟨Bk, dk, rfl, hCp, hb4⟩
            have X4 := Lib.hid (HX.out.below hb4)
            have XK := Lib.hid (show BX.X w4 (fun i => wr.heap.size ≤ i) bs[k] [.bool bs[k].packed, .bool bs[k].mark, .int .i64 bs[k].prod, .int .i64 bs[k].epoch, .int .i64 bs[k].seq, .slice Bk bs[k].recs.length dk] from ⟨Bk, dk, rfl, hCp⟩)
            have B4 := Lib.hid (bthen HB2.out hb4)
            have HP4 := Lib.hid (blk_below HP2.out hb4)
            clear q0 q1 q2 q3 q4 q5 hi1 hb4 hCp
            go_wp2_with (at_builtin; go_loud (refine wpList_appX BX X4.out rfl _ _ 23 (.agg #[.bool false, .bool false, .int .i64 0, .int .i64 0, .int .i64 0, .slice none 0 0]) 56 rfl Try.underlying23 (by kernel_rfl) rfl (by decide) bs[k] _ _ rfl rfl XK.out (fun i hi => ⟨by have := HW2.out; omega, by have := HX.out.1; omega⟩) (by simp [Value.oneCell']) (fun i hi => by have := B4.out.size; omega) (by omega) (by omega) ?_))
            intro v1 w5 HA5 hc5 ho5
            have B5 := Lib.hid (B4.out.trans (hc5.below B4.out.size (fun i hi => (hge i hi).1)))
            have HP5 := Lib.hid (hc5.blk HP4.out (fun e => by have := (hge _ e).1; have := HLX.out; omega))
            rw [← HE.out] at HA5
            clear hc5 ho5 hge X4 XK
            go_wp2
            go_roundw
            case rel => exact ⟨k + 1, by omega, by go_num, ⟨_, HA5⟩, HP5, B5⟩
            case measure => simp [intOf]; omega
          · have hk2 : k = bs.length := by omega
            subst hk2
            rw [List.take_length] at HA
            obtain ⟨A1, c1, rfl, hl1, hc1⟩ := HA.toP.slice_
            obtain ⟨p0, p1, p2, p3, p4, p5, pf⟩ := six HP2.out
            have XK := Lib.hid (show BX.X wr (fun i => w.heap.size < i ∧ i < X.heap.size) (b.holding rs) [.bool b.packed, .bool b.mark, .int .i64 b.prod, .int .i64 b.epoch, .int .i64 b.seq, .slice A2 rs.length c2] from ⟨A2, c2, rfl, HRX.out.below HB2.out⟩)
            have hge := HA.ge
            have HX := Lib.hid HA
            have BW := Lib.hid (bthen HBX.out HB2.out)
            clear HA
            go_wp2_with (at_builtin; go_loud (refine wpList_appX2 BX HX.out (R' := fun i => w.heap.size ≤ i) (fun i hi => by have := HLX.out; omega) rfl _ _ 23 (.agg #[.bool false, .bool false, .int .i64 0, .int .i64 0, .int .i64 0, .slice none 0 0]) 56 rfl Try.underlying23 (by kernel_rfl) rfl (by decide) (b.holding rs) _ _ rfl rfl XK.out (fun i hi => ⟨by omega, by have := hi.2; omega⟩) (by simp [Value.oneCell']) (fun i hi => by have := BW.out.size; omega) (by omega) (by omega) ?_))
            intro v1 w5 HA5 hc5 ho5
            have B5 := BW.out.trans (hc5.below BW.out.size (fun i hi => by have := (hge i hi).1; have := HLX.out; omega))
            rw [HRS.out] at HA5
            obtain ⟨out, hout⟩ : ∃ out, out = appd bs b := ⟨_, rfl⟩
            rw [show bs ++ [b.holding (renum b.recs (readEnd bs))] = out from hout.symm] at HA5
            have HOUT := Lib.hid hout
            clear hout hc5 ho5 hge XK p0 p1 p2 p3 p4 p5 pf HX
            obtain ⟨A5, c5, rfl, hJ⟩ := HA5.row
            go_wp2_with fail
            refine (LogValidS_any out A5 c5 _ _ hJ.toK).mono ?_
            rintro e w7 ⟨rfl, hb7⟩
            have HA7 := Lib.hid (HA5.below hb7)
            have B7 := Lib.hid (bthen B5 hb7)
            have HL := AppX.lit BX 30 w7 (fun i => w.heap.size ≤ i) B7.out.size
            have HLB := Lib.hid (bthen B7.out (bal w7 (.cells #[] 30)))
            have HL := Lib.hid HL
            clear hJ HA5 B5 hb7
            have HAB := Lib.hid (show appB bs b = logB out by unfold appB; rw [HV.out, HVB.out, HOUT.out]; rfl)
            cases hq : logB out
            · rw [hq] at HAB
              go_wp2
              go_ret2
              exact ⟨_, _, (by rw [HAB.out]; rfl), (by rw [logAppend_no HAB.out]; exact HL.out), HLB.out⟩
            · rw [hq] at HAB
              go_wp2
              go_ret2
              exact ⟨_, _, (by rw [HAB.out]; rfl), (by rw [logAppend_yes HAB.out, ← HOUT.out]; exact HA7.out), B7.out⟩
  · have e2 : endOf bs = 0 := by unfold endOf; rw [if_pos (by omega)]
    have HN := Lib.hid (show (0 : Int) = readEnd bs by rw [hre, e2])
    have HV := Lib.hid hv
    have HVB := Lib.hid hvb
    clear hv hvb e2 hre hen
    go_enter Try.func20, Try.ntmps20
    go_wp2_with fail
    generalize hW : World.alloc _ _ = W
    obtain ⟨hA, b1, hsW⟩ := alloc1 hW
    clear hW
    refine (LogValidS_any bs A c _ _ (h.below b1)).mono ?_
    rintro e w2 ⟨rfl, hb2⟩
    rw [HV.out]
    have b2 := bthen b1 hb2
    have hA2 := blk_below hA hb2
    obtain ⟨p0, p1, p2, p3, p4, p5, pf⟩ := six hA2
    have hr2 := hr.below b2
    go_wp2_with fail
    refine (BatchValidS_any b A' c' _ _ hr2).mono ?_
    rintro e w3 ⟨rfl, hb3⟩
    rw [HVB.out]
    have hPq := blk_below hA2 hb3
    have hBq := bthen b2 hb3
    clear hb2 b1 b2 hA hA2 hb3 p0 p1 p2 p3 p4 p5 pf hsW hr2
    have hX := AppX.lit RX 33 w3 (fun i => w.heap.size < i) (by have := (Array.getElem?_eq_some_iff.1 hPq).1; omega)
    have bl := bal w3 (.cells #[] 33)
    have HP0 := Lib.hid (blk_below hPq bl)
    have HB0 := Lib.hid (bthen hBq bl)
    clear bl hPq hBq
    go_wp2_with fail
    try clear h0
    go_loopw [7, 8] (fun v i wr => ∃ k : Nat, k ≤ b.recs.length ∧ i = .int .i64 k ∧ (∃ B, AppX RX 33 wr (fun i => w.heap.size < i) B v (renTo b.recs (readEnd bs) k)) ∧
      Hid (wr.heap[w.heap.size]? = some (.cells #[.bool b.packed, .bool b.mark, .int .i64 b.prod, .int .i64 b.epoch, .int .i64 b.seq, .slice A' b.recs.length c'] 30 (0, 0))) ∧ Hid (Below w.heap.size w wr)) (fun _ i _ => b.recs.length - (intOf i).toNat)
    case atStart => exact ⟨0, Nat.zero_le _, rfl, ⟨_, hX⟩, HP0, HB0⟩
    case round =>
      obtain ⟨k, hk, rfl, ⟨B, HA⟩, HP, HB⟩ := hrel
      clear hX HP0 HB0
      obtain ⟨p0, p1, p2, p3, p4, p5, pf⟩ := six HP.out
      have HWS := Lib.hid (show w.heap.size < wr.heap.size from (Array.getElem?_eq_some_iff.1 HP.out).1)
      by_cases hlt : k < b.recs.length
      · obtain ⟨ad2, C1, d1, C2, d2, rfl, _, hi1, hi2, q0, q1, q2, q3, q4, q5⟩ := (hrbd.below HB.out).rec_at hlt
        obtain ⟨A1, c1, rfl, hl1, hc1⟩ := HA.toP.slice_
        have HE := Lib.hid (show renTo b.recs (readEnd bs) (k + 1) = renTo b.recs (readEnd bs) k ++ [b.recs[k].onto ((k : Int))] by rw [renTo_succ b.recs (readEnd bs) k hlt, show readEnd bs + (k : Int) = (k : Int) by have := HN.out; omega])
        have hxl := renTo_len b.recs (readEnd bs) k
        obtain ⟨xs, hxs⟩ : ∃ xs, xs = renTo b.recs (readEnd bs) k := ⟨_, rfl⟩
        rw [← hxs] at HA HE hl1 hxl
        rw [← hxs]
        clear hxs
        have hxk : xs.length ≤ 5 := by omega
        have HX := Lib.hid HA
        have hsm := HSM.out _ (List.getElem_mem hlt)
        have hge := HX.out.ge
        clear HA hxl
        go_wp2_with fail
        refine (l12Copy_any b.recs[k] C1 C2 d1 d2 _ _ hi1 hi2 (by omega) (by omega)).mono ?_
        rintro e w4 ⟨vk, vv, rfl, hCp⟩
        obtain ⟨Ak, ck, rfl, _⟩ := AppP.row hCp.key
        obtain ⟨Av, cv, rfl, _⟩ := AppP.row hCp.val
        have X4 := HX.out.below hCp.below
        have B4 := bthen HB.out hCp.below
        have HP4 := blk_below HP.out hCp.below
        have HS4 := hCp.below.size
        have c5 : Chg (fun i => i = w4.heap.size) w4 (w4.alloc (.cells #[.int .i64 ((k : Int)), .int .i64 b.recs[k].time, .bool b.recs[k].hk, .slice Ak b.recs[k].key.length ck, .bool b.recs[k].hv, .slice Av b.recs[k].val.length cv] 33)) := Chg.of_below (bal w4 _)
        have hs5 := c5.size
        have XK := Lib.hid (hCp.onto ((k : Int)) c5)
        have X5 := Lib.hid (X4.chg c5 (fun i h1 _ h2 => by omega))
        have HP5 := Lib.hid (c5.blk HP4 (by have := (Array.getElem?_eq_some_iff.1 HP4).1; omega))
        have B5 := Lib.hid (B4.trans (c5.below B4.size (fun i hi => by have := B4.size; omega)))
        have HS5 := Lib.hid (Nat.le_trans HS4 hs5)
        clear q0 q1 q2 q3 q4 q5 p0 p1 p2 p3 p4 p5 pf hi1 hi2 X4 B4 HP4 c5 hs5 HS4 hCp
        go_wp2_with (at_builtin; go_loud (refine wpList_appX RX X5.out rfl _ _ 28 (.agg #[.int .i64 0, .int .i64 0, .bool false, .slice none 0 0, .bool false, .slice none 0 0]) 80 rfl Try.underlying28 (by kernel_rfl) rfl (by decide) (b.recs[k].onto ((k : Int))) _ _ rfl (by show Value.slice (some ⟨w4.heap.size + 1, 0, none⟩) 1 1 = _; simp) XK.out (fun i hi => ⟨by have := HWS.out; omega, by have := HX.out.1; omega⟩) (by simp [Value.oneCell']) (fun i hi => by have := HS5.out; have := HWS.out; omega) (by omega) (by omega) ?_))
        intro v1 w6 HA6 hc6 ho6
        have B6 := Lib.hid (B5.out.trans (hc6.below B5.out.size (fun i hi => by have := (hge i hi).1; omega)))
        have HP6 := Lib.hid (hc6.blk HP5.out (fun e => by have := (hge _ e).1; omega))
        rw [← HE.out] at HA6
        clear hc6 ho6 hge X5 XK
        go_wp2
        go_roundw
        case rel => exact ⟨k + 1, by omega, by go_num, ⟨_, HA6⟩, HP6, B6⟩
        case measure => simp [intOf]; omega
      · have hk2 : k = b.recs.length := by omega
        subst hk2
        obtain ⟨rs, hrs⟩ : ∃ rs, rs = renTo b.recs (readEnd bs) b.recs.length := ⟨_, rfl⟩
        rw [← hrs] at HA
        have HRS : Hid (b.holding rs = b.holding (renum b.recs (readEnd bs))) := Lib.hid (by rw [hrs]; rfl)
        clear hrs
        obtain ⟨A2, c2, rfl, hr2⟩ := HA.row
        have hr2 := hr2.bound
        have hAX := blk_put HP.out 5 (.slice A2 rs.length c2)
        obtain ⟨X, hX⟩ : ∃ X, X = wr.setCell ⟨w.heap.size, 5, none⟩ (.slice A2 rs.length c2) := ⟨_, rfl⟩
        rw [← hX] at hAX
        have hAX' : X.heap[w.heap.size]? = some (.cells #[.bool b.packed, .bool b.mark, .int .i64 b.prod, .int .i64 b.epoch, .int .i64 b.seq, .slice A2 rs.length c2] 30 (0, 0)) := by simpa using hAX
        have cX : Chg (fun i => i = w.heap.size) wr X := by rw [hX]; exact Chg.set (fun i => i = w.heap.size) wr (p := ⟨w.heap.size, 5, none⟩) rfl _
        have hs2 := HWS.out
        have hsX := cX.size
        have HRX := Lib.hid ((hr2.keep (w' := X) (cX.same (fun i _ h1 h2 => by have := h1.1; omega)) cX.size).mono (F' := fun i => w.heap.size < i ∧ i < X.heap.size) (fun i hi => ⟨hi.1, by have := hi.2; omega⟩))
        have HBX := Lib.hid (HB.out.trans (cX.below HB.out.size (fun i hi => by omega)))
        have HLX := Lib.hid (show w.heap.size < X.heap.size by omega)
        have hL := AppX.lit BX 30 X (fun i => X.heap.size ≤ i) (Nat.le_refl _)
        have bl := bal X (.cells #[] 30)
        have HP0 := Lib.hid (blk_below hAX' bl)
        have HB0 := Lib.hid bl
        have HX := Lib.hid hX
        have HLL := Lib.hid hL
        have HZZ := Lib.hid (show wr.heap.size = X.heap.size by rw [hX]; simp)
        clear hX hAX hAX' cX hr2 HA bl hL hs2 hsX
        go_wp2_with fail
        rw [← HX.out]
        go_loopw [10, 11] (fun v i wr => ∃ k : Nat, k ≤ bs.length ∧ i = .int .i64 k ∧ (∃ B, AppX BX 30 wr (fun i => X.heap.size ≤ i) B v (bs.take k)) ∧
          Hid (wr.heap[w.heap.size]? = some (.cells #[.bool b.packed, .bool b.mark, .int .i64 b.prod, .int .i64 b.epoch, .int .i64 b.seq, .slice A2 rs.length c2] 30 (0, 0))) ∧ Hid (Below X.heap.size X wr)) (fun _ i _ => bs.length - (intOf i).toNat)
        case atStart => exact ⟨0, Nat.zero_le _, rfl, ⟨X.heap.size + 1, by rw [HZZ.out]; exact HLL.out⟩, HP0, HB0⟩
        case round =>
          obtain ⟨k, hk, rfl, ⟨B, HA⟩, HP2, HB2⟩ := hrel
          clear p0 p1 p2 p3 p4 p5 pf HP0 HB0 HLL HX
          by_cases hlt : k < bs.length
          · obtain ⟨ad2, C1, d1, hAe, _, hi1, q0, q1, q2, q3, q4, q5⟩ := (hbd.below (bthen HBX.out HB2.out)).bat_at hlt
            first | (injection hAe with hAe; subst hAe) | subst hAe
            obtain ⟨A1, c1, rfl, hl1, hc1⟩ := HA.toP.slice_
            have HE := Lib.hid (List.take_succ_eq_append_getElem hlt)
            have hxl : (bs.take k).length = k := by rw [List.length_take]; omega
            obtain ⟨xs, hxs⟩ : ∃ xs, xs = bs.take k := ⟨_, rfl⟩
            rw [← hxs] at HA HE hl1 hxl
            rw [← hxs]
            clear hxs
            have hxk : xs.length ≤ 7 := by omega
            have HX := Lib.hid HA
            have hge := HX.out.ge
            have HW2 := Lib.hid HB2.out.size
            clear HA hxl
            go_wp2_with fail
            refine (l12Batch_any bs[k] C1 d1 _ _ hi1 (HLN.out _ (List.getElem_mem hlt)) (HSL.out _ (List.getElem_mem hlt))).mono ?_
            rintro e w4 ⟨Bk, dk, rfl, hCp, hb4⟩
            have X4 := Lib.hid (HX.out.below hb4)
            have XK := Lib.hid (show BX.X w4 (fun i => wr.heap.size ≤ i) bs[k] [.bool bs[k].packed, .bool bs[k].mark, .int .i64 bs[k].prod, .int .i64 bs[k].epoch, .int .i64 bs[k].seq, .slice Bk bs[k].recs.length dk] from ⟨Bk, dk, rfl, hCp⟩)
            have B4 := Lib.hid (bthen HB2.out hb4)
            have HP4 := Lib.hid (blk_below HP2.out hb4)
            clear q0 q1 q2 q3 q4 q5 hi1 hb4 hCp
            go_wp2_with (at_builtin; go_loud (refine wpList_appX BX X4.out rfl _ _ 23 (.agg #[.bool false, .bool false, .int .i64 0, .int .i64 0, .int .i64 0, .slice none 0 0]) 56 rfl Try.underlying23 (by kernel_rfl) rfl (by decide) bs[k] _ _ rfl rfl XK.out (fun i hi => ⟨by have := HW2.out; omega, by have := HX.out.1; omega⟩) (by simp [Value.oneCell']) (fun i hi => by have := B4.out.size; omega) (by omega) (by omega) ?_))
            intro v1 w5 HA5 hc5 ho5
            have B5 := Lib.hid (B4.out.trans (hc5.below B4.out.size (fun i hi => (hge i hi).1)))
            have HP5 := Lib.hid (hc5.blk HP4.out (fun e => by have := (hge _ e).1; have := HLX.out; omega))
            rw [← HE.out] at HA5
            clear hc5 ho5 hge X4 XK
            go_wp2
            go_roundw
            case rel => exact ⟨k + 1, by omega, by go_num, ⟨_, HA5⟩, HP5, B5⟩
            case measure => simp [intOf]; omega
          · have hk2 : k = bs.length := by omega
            subst hk2
            rw [List.take_length] at HA
            obtain ⟨A1, c1, rfl, hl1, hc1⟩ := HA.toP.slice_
            obtain ⟨p0, p1, p2, p3, p4, p5, pf⟩ := six HP2.out
            have XK := Lib.hid (show BX.X wr (fun i => w.heap.size < i ∧ i < X.heap.size) (b.holding rs) [.bool b.packed, .bool b.mark, .int .i64 b.prod, .int .i64 b.epoch, .int .i64 b.seq, .slice A2 rs.length c2] from ⟨A2, c2, rfl, HRX.out.below HB2.out⟩)
            have hge := HA.ge
            have HX := Lib.hid HA
            have BW := Lib.hid (bthen HBX.out HB2.out)
            clear HA
            go_wp2_with (at_builtin; go_loud (refine wpList_appX2 BX HX.out (R' := fun i => w.heap.size ≤ i) (fun i hi => by have := HLX.out; omega) rfl _ _ 23 (.agg #[.bool false, .bool false, .int .i64 0, .int .i64 0, .int .i64 0, .slice none 0 0]) 56 rfl Try.underlying23 (by kernel_rfl) rfl (by decide) (b.holding rs) _ _ rfl rfl XK.out (fun i hi => ⟨by omega, by have := hi.2; omega⟩) (by simp [Value.oneCell']) (fun i hi => by have := BW.out.size; omega) (by omega) (by omega) ?_))
            intro v1 w5 HA5 hc5 ho5
            have B5 := BW.out.trans (hc5.below BW.out.size (fun i hi => by have := (hge i hi).1; have := HLX.out; omega))
            rw [HRS.out] at HA5
            obtain ⟨out, hout⟩ : ∃ out, out = appd bs b := ⟨_, rfl⟩
            rw [show bs ++ [b.holding (renum b.recs (readEnd bs))] = out from hout.symm] at HA5
            have HOUT := Lib.hid hout
            clear hout hc5 ho5 hge XK p0 p1 p2 p3 p4 p5 pf HX
            obtain ⟨A5, c5, rfl, hJ⟩ := HA5.row
            go_wp2_with fail
            refine (LogValidS_any out A5 c5 _ _ hJ.toK).mono ?_
            rintro e w7 ⟨rfl, hb7⟩
            have HA7 := Lib.hid (HA5.below hb7)
            have B7 := Lib.hid (bthen B5 hb7)
            have HL := AppX.lit BX 30 w7 (fun i => w.heap.size ≤ i) B7.out.size
            have HLB := Lib.hid (bthen B7.out (bal w7 (.cells #[] 30)))
            have HL := Lib.hid HL
            clear hJ HA5 B5 hb7
            have HAB := Lib.hid (show appB bs b = logB out by unfold appB; rw [HV.out, HVB.out, HOUT.out]; rfl)
            cases hq : logB out
            · rw [hq] at HAB
              go_wp2
              go_ret2
              exact ⟨_, _, (by rw [HAB.out]; rfl), (by rw [logAppend_no HAB.out]; exact HL.out), HLB.out⟩
            · rw [hq] at HAB
              go_wp2
              go_ret2
              exact ⟨_, _, (by rw [HAB.out]; rfl), (by rw [logAppend_yes HAB.out, ← HOUT.out]; exact HA7.out), B7.out⟩
end Go.Proofs.Ytlgcajjoimcdhaa
