/- A record at a place of bytes: the reference. -/
import Derived.Test.YtomcjjehfocbmaaV10
import Derived.Test.YtomcjjehfocbmaaW10
namespace Go.Proofs.Ytomcjjehfocbmaa
set_option linter.unusedVariables false
set_option linter.unusedSimpArgs false
open Go.RowKit

def nn (q : Option (Int × Nat)) : Int := match q with | none => 0 | some x => x.1
def nx (q : Option (Int × Nat)) : Nat := match q with | none => 0 | some x => x.2
theorem rdVal_eq (q : Option (Int × Nat)) : rdVal q = .tuple #[.int .i64 (nn q), .int .i64 (nx q : Nat), .bool q.isSome] := by cases q <;> rfl
theorem nx_le {l : List Int} {i : Nat} : nx (rdV l i) ≤ l.length := by
  cases hv : rdV l i with
  | none => exact Nat.zero_le _
  | some x => obtain ⟨n, j⟩ := x; exact (rdV_bound hv).2
theorem l1From_far (l : List Int) (A : Option Addr) (c : Nat) (F : Nat → Prop) (i : Int) (w : World) (h : Ints w F A c l) (hi : (l.length : Int) ≤ i) :
    Calls Try.prog 125 #[.slice A l.length c, .int .i64 i] w fun e w' => e = .returned (rdVal none) ∧ w = w' := by
  have hc := h.2.1
  go_enter Try.func125, Try.ntmps125
  go_wp2_with fail
  go_loopw [7, 8, 9] (fun f q a wr => f = .int .i64 0 ∧ q = .int .i64 1 ∧ a = .int .i64 i ∧ wr = w) (fun _ _ _ _ => 0)
  case atStart => exact ⟨rfl, rfl, rfl, rfl⟩
  case round =>
    obtain ⟨rfl, rfl, rfl, rfl⟩ := hrel
    go_wp2
    exact bodyPost_ret (v := rdVal none) (by simp [results, Try.results125, go_sem, rdVal]) rfl ⟨rfl, rfl⟩
theorem get12_some {l : List Int} {i d : Nat} {hk : Bool} {k : List Int} (h : get12 l i = some (hk, k, d)) : rdPart l i = some (hk, k, d) ∧ k.length ≤ 12 := by
  unfold get12 at h
  split at h
  · cases h
  · rename_i a b e hr
    split at h
    · rename_i hl
      injection h with h; injection h with h1 h2; injection h2 with h2 h3
      subst h1 h2 h3
      exact ⟨hr, hl⟩
    · cases h
theorem get12_none {l : List Int} {i : Nat} (h : get12 l i = none) : rdPart l i = none ∨ ∃ hk k d, rdPart l i = some (hk, k, d) ∧ partB hk k = false := by
  unfold get12 at h
  split at h
  · rename_i hr; exact .inl hr
  · rename_i a b e hr
    split at h
    · cases h
    · rename_i hl
      refine .inr ⟨a, b, e, hr, ?_⟩
      cases hp : partB a b with
      | false => rfl
      | true => exact absurd (partB_len hp).1 hl
theorem recB_key {r : Rec} (h : partB r.hk r.key = false) : recB r = false := by unfold recB; rw [h]; simp
theorem recB_val {r : Rec} (h : partB r.hv r.val = false) : recB r = false := by unfold recB; rw [h]; simp
theorem rdRec_first {l : List Int} {i : Nat} {o t : Int} (h : rdV l i = none) : rdRec l i o t = none := by unfold rdRec; rw [h]
theorem rdRec_second {l : List Int} {i a : Nat} {m o t : Int} (h : rdV l i = some (m, a)) (h2 : rdV l a = none) : rdRec l i o t = none := by unfold rdRec; rw [h]; dsimp only; rw [h2]
theorem rdRec_third {l : List Int} {i a b : Nat} {m dt o t : Int} (h : rdV l i = some (m, a)) (h2 : rdV l a = some (dt, b)) (h3 : rdV l b = none) : rdRec l i o t = none := by unfold rdRec; rw [h]; dsimp only; rw [h2]; dsimp only; rw [h3]
theorem rdRec_key {l : List Int} {i a b c : Nat} {m dt dk o t : Int} (h : rdV l i = some (m, a)) (h2 : rdV l a = some (dt, b)) (h3 : rdV l b = some (dk, c)) (h4 : get12 l c = none) : rdRec l i o t = none := by
  unfold rdRec
  rw [h]
  dsimp only
  rw [h2]
  dsimp only
  rw [h3]
  dsimp only
  rcases get12_none h4 with h | ⟨hk, k, d, h, hp⟩
  · rw [h]
  · rw [h]
    dsimp only
    split
    · rfl
    · rename_i hv' val' e' _
      rw [if_neg (fun h => by have := recB_key (r := ⟨o + dk, t + dt, hk, k, hv', val'⟩) hp; rw [this] at h; cases h.2)]
theorem rdRec_val {l : List Int} {i a b c d : Nat} {m dt dk o t : Int} {hk : Bool} {key : List Int} (h : rdV l i = some (m, a)) (h2 : rdV l a = some (dt, b)) (h3 : rdV l b = some (dk, c)) (h4 : rdPart l c = some (hk, key, d)) (h5 : get12 l d = none) : rdRec l i o t = none := by
  unfold rdRec
  rw [h]
  dsimp only
  rw [h2]
  dsimp only
  rw [h3]
  dsimp only
  rw [h4]
  dsimp only
  rcases get12_none h5 with h | ⟨hv, k, e, h, hp⟩
  · rw [h]
  · rw [h]
    dsimp only
    rw [if_neg (fun h => by have := recB_val (r := ⟨o + dk, t + dt, hk, key, hv, k⟩) hp; rw [this] at h; cases h.2)]

set_option maxRecDepth 100000 in
set_option maxHeartbeats 1500000 in
theorem l3From_gen (l : List Int) (A : Option Addr) (c : Nat) (F : Nat → Prop) (i o t : Int) (q1 : Option (Int × Nat)) (w : World) (h : Ints w F A c l) (hb : bytesB l = true) (hn : l.length ≤ 4194304) (ho : 0 ≤ o ∧ o ≤ 16777215) (ht : 0 ≤ t ∧ t ≤ 16777215)
    (hq1 : ∀ U, Below w.heap.size w U → Calls Try.prog 125 #[.slice A l.length c, .int .i64 i] U fun e w' => e = .returned (rdVal q1) ∧ U = w')
    (hqa : q1 = none → rdAt l i o t = none) (hqb : ∀ x, q1 = some x → ∃ p : Nat, i = (p : Int) ∧ p ≤ l.length ∧ rdV l p = some x) (hnx : nx q1 ≤ l.length) :
    Calls Try.prog 114 #[.slice A l.length c, .int .i64 i, .int .i64 o, .int .i64 t] w fun e w' =>
      ∃ vk vv, e = .returned (.tuple #[.agg ((recQ (rdAt l i o t)).vals vk vv), .int .i64 (nextOf (rdAt l i o t) : Nat), .bool (rdAt l i o t).isSome]) ∧ Copied w w' (recQ (rdAt l i o t)) vk vv := by
  obtain ⟨ho0, ho1⟩ := ho
  obtain ⟨ht0, ht1⟩ := ht
  have hfail : ∀ (W : World), Below w.heap.size w W → rdAt l i o t = none → ∃ vk vv, Ending.returned (Value.tuple #[.agg ZREC, .int .i64 0, .bool false]) = .returned (.tuple #[.agg ((recQ (rdAt l i o t)).vals vk vv), .int .i64 (nextOf (rdAt l i o t) : Nat), .bool (rdAt l i o t).isSome]) ∧ Copied w ((((((W.setCell ⟨w.heap.size, 0, none⟩ (.int .i64 0)).setCell ⟨w.heap.size, 1, none⟩ (.int .i64 0)).setCell ⟨w.heap.size, 2, none⟩ (.bool false)).setCell ⟨w.heap.size, 3, none⟩ (.slice none 0 0)).setCell ⟨w.heap.size, 4, none⟩ (.bool false)).setCell ⟨w.heap.size, 5, none⟩ (.slice none 0 0)) (recQ (rdAt l i o t)) vk vv := by
    intro W hW e
    rw [e]
    exact ⟨.slice none 0 0, .slice none 0 0, rfl, Copied.zero (hW.trans (zero6.below hW.size (fun i hi => by omega)))⟩
  have HFAIL := Lib.hid hfail
  have HBY := Lib.hid hb
  have HQA := Lib.hid hqa
  have HQB := Lib.hid hqb
  have HQ1 := Lib.hid hq1
  clear hfail hb hqa hqb hq1
  obtain ⟨q2, hq2⟩ : ∃ q, q = rdV l (nx q1) := ⟨_, rfl⟩
  obtain ⟨q3, hq3⟩ : ∃ q, q = rdV l (nx q2) := ⟨_, rfl⟩
  have hnx2 : nx q2 ≤ l.length := by rw [hq2]; exact nx_le
  have hnx3 : nx q3 ≤ l.length := by rw [hq3]; exact nx_le
  have HQ2 := Lib.hid hq2
  have HQ3 := Lib.hid hq3
  clear hq2 hq3
  have hr1 : ∀ x, q1 = some x → (-1000000 ≤ x.1 ∧ x.1 ≤ 1000000) := fun x hx => by
    obtain ⟨p, _, _, h⟩ := HQB.out x hx
    exact (rdV_inv HBY.out h).2.2
  have hr2 : ∀ x, q2 = some x → (-1000000 ≤ x.1 ∧ x.1 ≤ 1000000) := fun x hx => by
    rw [HQ2.out] at hx
    exact (rdV_inv HBY.out hx).2.2
  have hr3 : ∀ x, q3 = some x → (-1000000 ≤ x.1 ∧ x.1 ≤ 1000000) := fun x hx => by
    rw [HQ3.out] at hx
    exact (rdV_inv HBY.out hx).2.2
  have HR2 := Lib.hid hr2
  have HR3 := Lib.hid hr3
  clear hr1 hr2 hr3
  go_enter Try.func114, Try.ntmps114
  go_wp2_with fail
  generalize hW : World.alloc _ _ = W
  obtain ⟨hA, b1, hsW⟩ := alloc1 hW
  clear hW
  have hlW := h.below b1
  refine (HQ1.out W b1).mono ?_
  rintro e w' ⟨rfl, rfl⟩
  rw [rdVal_eq]
  go_wp2_with fail
  refine (l1From_any l A c _ (nx q1) W hlW HBY.out (by omega)).mono ?_
  rintro e w' ⟨rfl, rfl⟩
  rw [← HQ2.out, rdVal_eq]
  go_wp2_with fail
  refine (l1From_any l A c _ (nx q2) W hlW HBY.out (by omega)).mono ?_
  rintro e w' ⟨rfl, rfl⟩
  rw [← HQ3.out, rdVal_eq]
  obtain ⟨x0, x1, x2, x3, x4, x5, xf⟩ := six hA
  cases e1 : q1.isSome
  · have HX := Lib.hid (HFAIL.out W b1 (HQA.out (by cases q1 with | none => rfl | some _ => cases e1)))
    go_wp2
    exact bodyPost_ret (v := .tuple #[.agg ZREC, .int .i64 0, .bool false]) (by simp [results, Try.results114, go_sem, x0, x1, x2, x3, x4, x5]) rfl HX.out
  obtain ⟨⟨m, a⟩, rfl⟩ := Option.isSome_iff_exists.1 e1
  obtain ⟨p, hpi, hpl, hp1⟩ := HQB.out _ rfl
  have hrp : rdAt l i o t = rdRec l p o t := by unfold rdAt; rw [if_neg (by omega), hpi]; rfl
  have HRP := Lib.hid hrp
  have HP1 := Lib.hid hp1
  clear hrp hp1 e1
  cases e2 : q2.isSome
  · have HX := Lib.hid (HFAIL.out W b1 (by rw [HRP.out]; exact rdRec_second HP1.out (by have := HQ2.out; cases q2 with | none => exact this.symm | some _ => cases e2)))
    go_wp2
    exact bodyPost_ret (v := .tuple #[.agg ZREC, .int .i64 0, .bool false]) (by simp [results, Try.results114, go_sem, x0, x1, x2, x3, x4, x5]) rfl HX.out
  obtain ⟨⟨dt, a2⟩, rfl⟩ := Option.isSome_iff_exists.1 e2
  have hd := HR2.out _ rfl
  clear e2
  cases e3 : q3.isSome
  · have HX := Lib.hid (HFAIL.out W b1 (by rw [HRP.out]; exact rdRec_third HP1.out HQ2.out.symm (by have := HQ3.out; cases q3 with | none => exact this.symm | some _ => cases e3)))
    go_wp2
    exact bodyPost_ret (v := .tuple #[.agg ZREC, .int .i64 0, .bool false]) (by simp [results, Try.results114, go_sem, x0, x1, x2, x3, x4, x5]) rfl HX.out
  obtain ⟨⟨dk, a3⟩, rfl⟩ := Option.isSome_iff_exists.1 e3
  have he := HR3.out _ rfl
  clear e3
  dsimp only [nn, nx] at hd he hnx hnx2 hnx3 ⊢
  obtain ⟨hd0, hd1⟩ := hd
  obtain ⟨he0, he1⟩ := he
  obtain ⟨g1, hg1⟩ : ∃ g, g = get12 l a3 := ⟨_, rfl⟩
  have HG1 := Lib.hid hg1
  clear hg1
  go_wp2_with fail
  refine (l3Get_any l A c _ a3 W hlW HBY.out hn (by omega)).mono ?_
  rintro e w4 ⟨vk, rfl, HK, hb4⟩
  rw [← HG1.out] at HK ⊢
  have b4 := bthen b1 hb4
  have hA4 := blk_below hA hb4
  obtain ⟨Ak, ck, rfl, _, _⟩ := HK.slice_
  clear x0 x1 x2 x3 x4 x5 xf
  obtain ⟨x0, x1, x2, x3, x4, x5, xf⟩ := six hA4
  cases e4 : g1.isSome
  · have HX := Lib.hid (HFAIL.out w4 b4 (by rw [HRP.out]; exact rdRec_key HP1.out HQ2.out.symm HQ3.out.symm (by have := HG1.out; cases g1 with | none => exact this.symm | some _ => cases e4)))
    clear HK
    go_wp2
    exact bodyPost_ret (v := .tuple #[.agg ZREC, .int .i64 0, .bool false]) (by simp [results, Try.results114, go_sem, x0, x1, x2, x3, x4, x5]) rfl HX.out
  obtain ⟨⟨hk, key, a4⟩, rfl⟩ := Option.isSome_iff_exists.1 e4
  obtain ⟨hk4, hkl⟩ := get12_some HG1.out.symm
  have hd4 := (rdPart_bound hk4).2
  have HK4 := Lib.hid hk4
  clear e4 hk4
  dsimp only [gHas, gKey, gNext] at HK ⊢
  obtain ⟨g2, hg2⟩ : ∃ g, g = get12 l a4 := ⟨_, rfl⟩
  have HG2 := Lib.hid hg2
  clear hg2
  go_wp2_with fail
  refine (l3Get_any l A c _ a4 w4 (h.below b4) HBY.out hn (by omega)).mono ?_
  rintro e w5 ⟨vv, rfl, HV, hb5⟩
  rw [← HG2.out] at HV ⊢
  have b5 := bthen b4 hb5
  have hA5 := blk_below hA4 hb5
  have HK5 := AppP.below HK hb5
  have hko : ∀ g, (Value.slice Ak key.length ck).ownBlock = some g → g < w4.heap.size := fun g hg => AppP.own_lt HK hg
  have hvo : ∀ g, vv.ownBlock = some g → w4.heap.size ≤ g := fun g hg => AppP.ne HV hg
  obtain ⟨Av, cv, rfl, _, _⟩ := HV.slice_
  clear x0 x1 x2 x3 x4 x5 xf HK
  obtain ⟨x0, x1, x2, x3, x4, x5, xf⟩ := six hA5
  cases e5 : g2.isSome
  · have HX := Lib.hid (show rdAt l i o t = none by rw [HRP.out]; exact rdRec_val HP1.out HQ2.out.symm HQ3.out.symm HK4.out (by have := HG2.out; cases g2 with | none => exact this.symm | some _ => cases e5))
    have HB5 := Lib.hid b5
    have hlt5 : w.heap.size < w5.heap.size := (Array.getElem?_eq_some_iff.1 hA5).1
    have hne5 : w.heap.size ≠ w5.heap.size := by omega
    clear HV b5
    go_wp2
    refine bodyPost_ret (v := .tuple #[.agg ZREC, .int .i64 0, .bool false]) (by simp [results, Try.results114, go_sem, x0, x1, x2, x3, x4, x5, hne5, hlt5]) rfl ?_
    rw [HX.out]
    exact ⟨.slice none 0 0, .slice none 0 0, rfl, Copied.zero (bthen (HB5.out.trans (zero6.below HB5.out.size (fun i hi => by omega))) (bal _ _))⟩
  obtain ⟨⟨hv, val, a5⟩, rfl⟩ := Option.isSome_iff_exists.1 e5
  obtain ⟨hv5, hvl⟩ := get12_some HG2.out.symm
  have R5 : Read5 l p o t m ⟨o + dk, t + dt, hk, key, hv, val⟩ a a5 := ⟨a2, a3, a4, dt, dk, HP1.out, HQ2.out.symm, HQ3.out.symm, HK4.out, hv5, rfl, rfl⟩
  have HR5 := Lib.hid R5
  clear e5 hv5 R5
  dsimp only [gHas, gKey, gNext] at HV hvo ⊢
  go_wp2_with fail
  generalize hW6 : World.alloc _ _ = W6
  obtain ⟨hC6, c6, hz6⟩ := alloc1 hW6
  clear hW6
  have b6 := bthen b5 c6
  have hA6 := blk_below hA5 c6
  have HK6 := AppP.below HK5 c6
  have HV6 := AppP.below HV c6
  have hkI := l3Put_row HK6
  have hvI := l3Put_row HV6
  clear x0 x1 x2 x3 x4 x5 xf HK5 HV
  refine (RecordValidS_any ⟨o + dk, t + dt, hk, key, hv, val⟩ Ak Av ck cv (fun _ => True) W6 (hkI.mono (fun _ _ => trivial)) (hvI.mono (fun _ _ => trivial))).mono ?_
  rintro e w7 ⟨rfl, hb7⟩
  have b7 := bthen b6 hb7
  have hA7 := blk_below hA6 hb7
  have hC7 := blk_below hC6 hb7
  obtain ⟨x0, x1, x2, x3, x4, x5, xf⟩ := six hA7
  obtain ⟨y0, y1, y2, y3, y4, y5, yf⟩ := six hC7
  cases hrb : recB ⟨o + dk, t + dt, hk, key, hv, val⟩
  · have HX := Lib.hid (HFAIL.out w7 b7 (by rw [HRP.out, HR5.out.rd, if_neg (fun h => by rw [hrb] at h; cases h.2)]))
    clear hrb
    go_wp2
    exact bodyPost_ret (v := .tuple #[.agg ZREC, .int .i64 0, .bool false]) (by simp [results, Try.results114, go_sem, x0, x1, x2, x3, x4, x5]) rfl HX.out
  have HRB := Lib.hid hrb
  clear hrb
  go_wp2_with fail
  refine (l3Bytes_gen ⟨o + dk, t + dt, hk, key, hv, val⟩ Ak Av ck cv (fun _ => True) o t w7 ((hkI.below hb7).mono (fun _ _ => trivial)) ((hvI.below hb7).mono (fun _ _ => trivial)) HRB.out ⟨ho0, ho1, by show -1000000 ≤ o + dk - o; omega, by show o + dk - o ≤ 1000000; omega⟩ ⟨ht0, ht1, by show -1000000 ≤ t + dt - t; omega, by show t + dt - t ≤ 1000000; omega⟩).mono ?_
  rintro e w8 ⟨v8, rfl, HY, hb8⟩
  have b8 := bthen b7 hb8
  have hA8 := blk_below hA7 hb8
  have hC8 := blk_below hC7 hb8
  have hyl : (recBytes ⟨o + dk, t + dt, hk, key, hv, val⟩ o t).length ≤ 40 := by
    have := bodyB_len (o := o) (t := t) HRB.out
    have h2 := (varB_len ((bodyB ⟨o + dk, t + dt, hk, key, hv, val⟩ o t).length : Int)).2
    unfold recBytes
    rw [List.length_append]
    omega
  have HSM := Lib.hid (HR5.out.same HBY.out HRB.out)
  obtain ⟨ys, hys⟩ : ∃ ys, ys = recBytes ⟨o + dk, t + dt, hk, key, hv, val⟩ o t := ⟨_, rfl⟩
  rw [← hys] at HY hyl HSM
  obtain ⟨A8, c8, rfl, _, _⟩ := HY.slice_
  have hyI := l3Put_row HY
  clear x0 x1 x2 x3 x4 x5 xf y0 y1 y2 y3 y4 y5 yf hys HY
  go_wp2_with fail
  subst hpi
  refine (l3Same_any l ys A A8 c c8 _ _ p w8 (h.below b8) hyI hn hpl (by omega)).mono ?_
  rintro e w9 ⟨rfl, hb9⟩
  rw [HSM.out]
  have b9 := bthen b8 hb9
  have hA9 := blk_below hA8 hb9
  have hC9 := blk_below hC8 hb9
  have HK9 := AppP.below HK6 (bthen (bthen hb7 hb8) hb9)
  have HV9 := AppP.below HV6 (bthen (bthen hb7 hb8) hb9)
  obtain ⟨x0, x1, x2, x3, x4, x5, xf⟩ := six hA9
  obtain ⟨y0, y1, y2, y3, y4, y5, yf⟩ := six hC9
  have hs1 := b1.size
  have hs4 := hb4.size
  by_cases hme : m = (a5 : Int) - a
  · rw [decide_eq_true hme]
    have HQ := Lib.hid (show rdAt l (p : Int) o t = some (⟨o + dk, t + dt, hk, key, hv, val⟩, a5) by rw [HRP.out, HR5.out.rd, if_pos ⟨hme, HRB.out⟩])
    have cZ := (Chg.setCells (fun b => b = w.heap.size) (g := w.heap.size) rfl [.int .i64 (o + dk), .int .i64 (t + dt), .bool hk, .slice Ak key.length ck, .bool hv, .slice Av val.length cv] 0 w9)
    have HC := Lib.hid (show Copied w _ ⟨o + dk, t + dt, hk, key, hv, val⟩ (.slice Ak key.length ck) (.slice Av val.length cv) from
      ⟨App.from (AppP.chg HK9 cZ (fun b _ h1 h2 => by omega)) (by omega), App.from (AppP.chg HV9 cZ (fun b _ h1 h2 => by omega)) (by omega), fun g h1 h2 => by have := hko g h1; have := hvo g h2; omega, b9.trans (cZ.below b9.size (fun i hi => by omega))⟩)
    clear hme cZ HK9 HV9 HK6 HV6 hkI hvI hyI hko hvo
    go_wp2
    exact bodyPost_ret (v := .tuple #[.agg #[.int .i64 (o + dk), .int .i64 (t + dt), .bool hk, .slice Ak key.length ck, .bool hv, .slice Av val.length cv], .int .i64 (a5 : Int), .bool true]) (by simp [results, Try.results114, go_sem, x0, x1, x2, x3, x4, x5]) rfl ⟨.slice Ak key.length ck, .slice Av val.length cv, by rw [HQ.out]; rfl, by rw [HQ.out]; exact HC.out⟩
  · rw [decide_eq_false hme]
    have HX := Lib.hid (HFAIL.out w9 b9 (by rw [HRP.out, HR5.out.rd, if_neg (fun h => hme h.1)]))
    clear hme HK9 HV9 HK6 HV6 hkI hvI hyI hko hvo
    go_wp2
    exact bodyPost_ret (v := .tuple #[.agg ZREC, .int .i64 0, .bool false]) (by simp [results, Try.results114, go_sem, x0, x1, x2, x3, x4, x5]) rfl HX.out
end Go.Proofs.Ytomcjjehfocbmaa
