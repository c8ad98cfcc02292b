/- Reading batches: the program, the reference. -/
import Derived.Test.YtfkhmmekdmochaaLb
import Derived.Test.YtfkhmmekdmochaaQt
namespace Go.Proofs.Ytfkhmmekdmochaa
set_option linter.unusedVariables false
set_option linter.unusedSimpArgs false
open Go.RowKit

theorem batB_copy {b : Bat} (h : batB b = true) : b.recs.length ≤ 1000 ∧ ∀ r ∈ b.recs, r.short := by
  refine ⟨by have := (batB_len h).2; omega, fun r hr => ?_⟩
  have := recB_small (((recsB_iff _).1 (batB_recs h)).1 r hr)
  exact ⟨by omega, by omega⟩
theorem RB.stop {m : Int} {l : List Bat} {k : Nat} (hk : k < l.length) (h0 : 0 < k) (ho : okM m (l.take k)) (hm : m < ((logCat (l.take (k + 1))).length : Int)) : RB m l (l.take k) := by
  refine ⟨l.drop k, (List.take_append_drop k l).symm, ho, .inr ⟨?_, l[k], l.drop (k + 1), List.drop_eq_getElem_cons hk, ?_⟩⟩
  · intro e
    have := congrArg List.length e
    rw [List.length_take, List.length_nil] at this
    omega
  · rw [← List.take_succ_eq_append_getElem hk]; exact hm
theorem RB.full {m : Int} {l : List Bat} (ho : okM m l) : RB m l l := ⟨[], by simp, ho, .inl rfl⟩
theorem okM_zero {m : Int} {l : List Bat} : okM m (l.take 0) := fun h => by simp at h
theorem okM_next {m : Int} {l : List Bat} {k : Nat} (h : 0 < k → ((logCat (l.take (k + 1))).length : Int) ≤ m) : okM m (l.take (k + 1)) := by
  intro h2
  rw [List.length_take] at h2
  exact h (by omega)
theorem rbOut_of {bs l xs : List Bat} {o m : Int} (hk : rbOk bs m = true) (hl : l = rdL bs o) (h : RB m l xs) : RBOut bs o m xs := by
  unfold RBOut
  rw [if_pos hk, ← hl]
  exact h
theorem rbOut_no {bs : List Bat} {o m : Int} (hk : rbOk bs m = false) : RBOut bs o m [] := by
  unfold RBOut
  rw [if_neg (by simp [hk])]

set_option maxRecDepth 20000 in
set_option maxHeartbeats 8000000 in
theorem ReadBatches_any (bs : List Bat) (A : Option Addr) (c : Nat) (F : Nat → Prop) (o m : Int) (w : World) (h : Bats w F A c bs) :
    Calls Try.prog 22 #[.slice A bs.length c, .int .i64 o, .int .i64 m] w fun e w' => ∃ v B xs, e = .returned v ∧ RBOut bs o m xs ∧ AppX BX 32 w' (fun b => w.heap.size ≤ b) B v xs ∧ Below w.heap.size w w' := by
  have hl := h.1
  have hc := h.2.1
  have hbd := h.bound bnd_bat
  have HLIT := Lib.hid (AppX.lit BX 32 w (fun b => w.heap.size ≤ b ∧ b ≠ w.heap.size + 1) ⟨Nat.le_refl _, by omega⟩)
  cases hv : logB bs
  · have e0 : rbOk bs m = false := by unfold rbOk; rw [hv]; rfl
    have HV := Lib.hid hv
    have HE := Lib.hid (rbOut_no (o := o) e0)
    clear hv e0
    go_enter Try.func22, Try.ntmps22
    go_wp2_with fail
    have hX := HLIT.out
    generalize hW : World.alloc _ _ = W at hX ⊢
    obtain ⟨hA, b1, hsW⟩ := alloc1 hW
    clear hW
    refine (LogValid_any bs A c _ _ (h.below b1)).mono ?_
    rintro e w2 ⟨rfl, hb2⟩
    rw [HV.out]
    have HX := Lib.hid ((hX.below hb2).mono (P' := fun b => w.heap.size ≤ b) (fun b hb => hb.1))
    have HB := Lib.hid (bthen b1 hb2)
    clear hb2 b1 hA hX
    go_wp2
    go_ret
    exact ⟨_, _, _, rfl, HE.out, HX.out, HB.out⟩
  cases hm : inB m 0 99999
  · have e0 : rbOk bs m = false := by unfold rbOk; rw [hv, hm]; rfl
    have HV := Lib.hid hv
    have HM := Lib.hid hm
    have HE := Lib.hid (rbOut_no (o := o) e0)
    clear hv e0 hm
    go_enter Try.func22, Try.ntmps22
    go_wp2_with fail
    have hX := HLIT.out
    generalize hW : World.alloc _ _ = W at hX ⊢
    obtain ⟨hA, b1, hsW⟩ := alloc1 hW
    clear hW
    refine (LogValid_any bs A c _ _ (h.below b1)).mono ?_
    rintro e w2 ⟨rfl, hb2⟩
    rw [HV.out]
    have HX := Lib.hid ((hX.below hb2).mono (P' := fun b => w.heap.size ≤ b) (fun b hb => hb.1))
    have HB := Lib.hid (bthen b1 hb2)
    clear hb2 b1 hA hX
    go_wp2_with (go_at_call 45; refine (within_any _ _ _ _).mono ?_; rintro e w' ⟨rfl, rfl⟩; rw [HM.out])
    go_ret
    exact ⟨_, _, _, rfl, HE.out, HX.out, HB.out⟩
  have HRK := Lib.hid (show rbOk bs m = true by unfold rbOk; rw [hv, hm]; rfl)
  have hm1 : 0 ≤ m ∧ m ≤ 99999 := by simpa [inB] using hm
  have HV := Lib.hid hv
  have HM := Lib.hid hm
  have HALL := Lib.hid (logB_all hv).2
  have HN := Lib.hid (logB_all hv).1
  have HPOS := Lib.hid (fun b (hb : b ∈ bs) => batB_pos ((logB_all hv).2 b hb))
  clear hv hm
  go_enter Try.func22, Try.ntmps22
  go_wp2_with fail
  have HLIT2 := Lib.hid (AppX.lit BX 32 w (fun b => w.heap.size ≤ b) (Nat.le_refl _))
  have hX := HLIT2.out
  generalize hW : World.alloc _ _ = W at hX ⊢
  obtain ⟨hA, b1, hsW⟩ := alloc1 hW
  clear hW
  refine (LogValid_any bs A c _ _ (h.below b1)).mono ?_
  rintro e w2 ⟨rfl, hb2⟩
  rw [HV.out]
  have hX2 := (hX.below hb2)
  have b2 := bthen b1 hb2
  go_wp2_with fail
  refine (within_any _ _ _ _).mono ?_
  rintro e w' ⟨rfl, rfl⟩
  rw [HM.out]
  have hs2 := hb2.size
  clear hb2 b1 hA hX
  go_wp2_with fail
  generalize hW : World.alloc _ _ = W3
  obtain ⟨hA3, b3, hz3⟩ := alloc1 hW
  clear hW
  obtain ⟨g, hg⟩ : ∃ g, g = w2.heap.size := ⟨_, rfl⟩
  rw [← hg] at hA3 hz3
  rw [← hg]
  have hgw : w.heap.size < g := by omega
  have hX3 : AppX BX 32 W3 (fun b => w.heap.size ≤ b ∧ b ≠ g) (w.heap.size + 1) (.slice (some ⟨w.heap.size, 0, none⟩) 0 0) [] := by
    have hx := hX2.below b3
    obtain ⟨h0, Fs, inner, ho, hgo, hd, hF, hE⟩ := hx
    exact ⟨h0, Fs, inner, ho, fun q hq => ⟨⟨(hgo q hq).1, by have := (hgo q hq).2; omega⟩, (hgo q hq).2⟩, hd, fun i b hb => ⟨⟨(hF i b hb).1, by have := (hF i b hb).2.1; omega⟩, (hF i b hb).2⟩, hE⟩
  have HX3 := Lib.hid hX3
  have b03 := bthen b2 b3
  clear hX3 hX2 hs2
  refine (skip_any bs A c _ g o W3 (hbd.below b03) HPOS.out hA3 (fun b hb => by have := hb.2; omega)).mono ?_
  rintro e w4 ⟨⟨v4, rfl⟩, n, A4, c4, hnl, hbef, haft, hg4, hr4, hC4⟩
  have hrd : rdL bs o = bs.drop n := rdL_drop HV.out n hnl (fun i hi => by have := (hbef i hi).2; rwa [batAt_eq (by omega)] at this) haft
  obtain ⟨l, hl0⟩ : ∃ l, l = bs.drop n := ⟨_, rfl⟩
  rw [← hl0] at hrd hg4 hr4
  have HRD := Lib.hid hrd.symm
  have HLA := Lib.hid (fun b (hb : b ∈ l) => HALL.out b (List.mem_of_mem_drop (by rw [← hl0]; exact hb)))
  have hlen : l.length ≤ 8 := by have := HN.out; rw [hl0, List.length_drop]; omega
  have HVL := Lib.hid (show ∀ k, (logCat (l.take k)).length ≤ 3312 from fun k => by
    have h1 := logCat_len (bs := l.take k) (fun b hb => HLA.out b (List.mem_of_mem_take hb))
    have h2 : (l.take k).length ≤ 8 := by rw [List.length_take]; omega
    omega)
  have HX4 := Lib.hid (HX3.out.chg hC4 (fun b _ h1 h2 => h1.2 h2))
  have HG4 := Lib.hid hg4
  have HB4 := Lib.hid (b03.trans (hC4.below b03.size (fun i hi => by omega)))
  clear hl0 hrd hbef haft hnl hg4 hC4 b03 b3 b2 hA3 hz3 HX3 hg
  go_wp2_with fail
  go_loopg [7, 9] l.length (fun j v s wr => ∃ (k : Nat) (A' : Option Addr) (c' : Nat), k + j = l.length ∧ s = .int .i64 ((logCat (l.take k)).length : Int) ∧ (∃ B, AppX BX 32 wr (fun b => w.heap.size ≤ b ∧ b ≠ g) B v (l.take k)) ∧
    Hid (wr.heap[g]? = some (.cells #[.slice A' (l.drop k).length c'] 70 (0, 0))) ∧ Bats wr (fun b => F b ∧ b < w.heap.size) A' c' (l.drop k) ∧ Hid (okM m (l.take k)) ∧ Hid (Below w.heap.size w wr))
  case atStart => exact ⟨0, A4, c4, by omega, rfl, ⟨_, HX4.out⟩, HG4, hr4, Lib.hid okM_zero, HB4⟩
  case round =>
    obtain ⟨k, A', c', hkj, rfl, ⟨B, HX⟩, HG, hr, HO, HB⟩ := hrel
    clear HX4 HG4 hr4 HB4
    have hgl : g < wr.heap.size := (Array.getElem?_eq_some_iff.1 HG.out).1
    obtain ⟨A1, c1, rfl, hl1, hc1⟩ := HX.toP.slice_
    by_cases hlt : k < l.length
    · have HG' := Lib.hid HG.out
      obtain ⟨ys, hys⟩ : ∃ ys, ys = l.drop k := ⟨_, rfl⟩
      have hyl : ys.length = l.length - k := by rw [hys, List.length_drop]
      have hy0 : 0 < ys.length := by omega
      have e0 : ys[0] = l[k] := by simp only [hys, List.getElem_drop, Nat.add_zero]
      rw [← hys] at hr HG
      obtain ⟨b, hb⟩ : ∃ b, b = ys[0] := ⟨_, rfl⟩
      have hbk := HLA.out _ (List.getElem_mem hlt)
      rw [← e0, ← hb] at hbk
      have HBK := Lib.hid hbk
      have HTK := Lib.hid (show logCat (l.take (k + 1)) = logCat (l.take k) ++ batBytes b by rw [hb, e0]; exact logCat_take hlt)
      have HTS := Lib.hid (show l.take (k + 1) = l.take k ++ [b] by rw [hb, e0]; exact List.take_succ_eq_append_getElem hlt)
      have hbl := batBytes_le hbk
      have hsz := HVL.out k
      have htl : (l.take k).length = k := by rw [List.length_take]; omega
      obtain ⟨xs, hxs⟩ : ∃ xs, xs = l.take k := ⟨_, rfl⟩
      obtain ⟨sz, hszz⟩ : ∃ sz, sz = (logCat (l.take k)).length := ⟨_, rfl⟩
      obtain ⟨yl, hyll⟩ : ∃ yl, yl = (batBytes b).length := ⟨_, rfl⟩
      have HSZ := Lib.hid (show ((logCat (l.take (k + 1))).length) = sz + yl by rw [HTK.out, List.length_append, hszz, hyll])
      rw [← hszz] at hsz
      rw [← hszz]
      rw [← hxs] at HX htl HTS hl1
      rw [← hyll] at hbl
      rw [← hxs]
      have HYS := Lib.hid hys
      have HYL := Lib.hid hyl
      have HXS := Lib.hid hxs
      have HYB := Lib.hid hyll
      have HXh := Lib.hid HX
      have HXB := Lib.hid HX.1
      have HTL := Lib.hid htl
      have hge := HX.ge
      have HDL := Lib.hid (show (l.drop (k + 1)).length = ys.length - 1 by rw [List.length_drop]; omega)
      have hxl8 : xs.length ≤ 8 := by omega
      have HBE := Lib.hid hb
      clear hys hyl hbk hxs hszz hyll htl HX hb e0 HG'
      go_wp2_with fail
      refine (take_any ys g A' c' _ wr hr hy0 HG.out (fun b hb => by have := hb.2; omega)).mono ?_
      rintro e w5 ⟨C5, d5, A5, c5, rfl, hi5, hg5, hr5, hC5⟩
      rw [← HBE.out] at hi5
      rw [← HBE.out]
      have hX5 := HXh.out.chg hC5 (fun b _ h1 h2 => h1.2 h2)
      have b5 := HB.out.trans (hC5.below HB.out.size (fun i hi => by omega))
      have HR5 := Lib.hid (show Bats w5 (fun b => F b ∧ b < w.heap.size) A5 c5 (l.drop (k + 1)) by
        have := hr5; rw [HYS.out, List.drop_drop] at this; exact this)
      have hsz5 := hC5.size
      clear hC5 hr5 hr
      go_wp2_with fail
      generalize hW : World.alloc _ _ = W6
      obtain ⟨hA6, b6, hz6⟩ := alloc1 hW
      clear hW
      have hX6 := hX5.below b6
      have hi6 := hi5.below b6
      have hg6 := blk_below hg5 b6
      have b06 := bthen b5 b6
      clear hX5 hi5 hg5 b5
      refine (bytesOf_any b C5 d5 _ _ hi6 HBK.out).mono ?_
      rintro e w7 ⟨v7, rfl, HV7, hb7⟩
      obtain ⟨A7, c7, rfl, hl7, hc7⟩ := HV7.slice_
      rw [← HYB.out] at hl7
      rw [← HYB.out]
      have hX7 := hX6.below hb7
      have hi7 := hi6.below hb7
      have hg7 := blk_below hg6 hb7
      have b07 := bthen b06 hb7
      have hR7 := (HR5.out.below b6).below hb7
      have hA7 := blk_below hA6 hb7
      clear HV7 hX6 hi6 hg6 b06 hb7 b6 hA6
      by_cases hst : 0 < xs.length ∧ m < ((sz + yl : Nat) : Int)
      · obtain ⟨hst1, hst2⟩ := hst
        have HRB := Lib.hid (show RB m l (l.take k) from RB.stop hlt (by have := HTL.out; omega) HO.out (by rw [HSZ.out]; exact hst2))
        have HX7 := Lib.hid (hX7.mono (P' := fun b => w.heap.size ≤ b) (fun b hb => hb.1))
        have HB7 := Lib.hid b07
        have hst3 : m < (sz : Int) + (yl : Int) := by omega
        clear hX7 b07 hi7 hg7 hR7 hA7 hst2
        go_wp2
        go_ret
        refine ⟨_, _, xs, rfl, ?_, HX7.out, HB7.out⟩
        rw [HXS.out]
        exact rbOut_of HRK.out HRD.out HRB.out
      · have HOK := Lib.hid (show okM m (l.take (k + 1)) from okM_next (fun h0 => by rw [HSZ.out]; have := HTL.out; omega))
        obtain ⟨u0, u1, u2, u3, u4, u5, uf⟩ := six hA7
        have hcp := batB_copy HBK.out
        have hgo7 : g < w7.heap.size := (Array.getElem?_eq_some_iff.1 hg7).1
        have step : ∀ (Q : Prop), Q → Q := fun _ h => h
        have hst' : xs.length = 0 ∨ (0 < xs.length ∧ (sz : Int) + (yl : Int) ≤ m) := by omega
        clear hst
        rcases hst' with h00 | ⟨h01, h02⟩
        · obtain rfl : xs = [] := List.eq_nil_of_length_eq_zero h00
          clear h00
          go_wp2_with fail
          refine (copyOfB_any b C5 d5 _ w7 hi7 hcp.1 hcp.2).mono ?_
          rintro e w8 ⟨B8, d8, rfl, hCp, hb8⟩
          have X8 := Lib.hid (hX7.below hb8)
          have XK := Lib.hid (show BX.X w8 (fun i => w7.heap.size ≤ i) b [.bool b.packed, .bool b.mark, .int .i64 b.prod, .int .i64 b.epoch, .int .i64 b.seq, .slice B8 b.recs.length d8] from ⟨B8, d8, rfl, hCp⟩)
          have B8' := Lib.hid (bthen b07 hb8)
          have hg8 := blk_below hg7 hb8
          have hR8 := hR7.below hb8
          have hs07 := b07.size
          have hs78 := hb8.size
          have HX7 := Lib.hid hX7.1
          have hge7 := hX7.ge
          clear hX7 b07 hi7 hg7 hR7 hA7 hcp hCp hb8 u0 u1 u2 u3 u4 u5 uf
          go_wp2_with (at_builtin; go_loud (refine wpList_appX BX X8.out rfl _ _ 23 (.agg #[.bool false, .bool false, .int .i64 0, .int .i64 0, .int .i64 0, .slice none 0 0]) 56 rfl Try.underlying23 info_batR rfl (by decide) b _ _ rfl rfl XK.out (fun i hi => ⟨⟨by omega, by omega⟩, by have := HX7.out; omega⟩) (by simp [Value.oneCell']) (fun i hi => ⟨by omega, by omega⟩) (by omega) (by omega) ?_))
          intro v9 w9 HA9 hc9 ho9
          have e9 := HTS.out
          rw [List.nil_append] at e9
          rw [← e9] at HA9
          clear e9
          have B9 := Lib.hid (B8'.out.trans (hc9.below B8'.out.size (fun i hi => (hge7 i hi).1.1)))
          have G9 := Lib.hid (hc9.blk hg8 (fun e => (hge7 g e).1.2 rfl))
          have R9 := Lib.hid (hR8.keep (w' := w9) (hc9.same (fun i _ h1 h2 => by have := (hge7 i h2).1.1; have := h1.2; omega)))
          have HA9' := Lib.hid HA9
          clear hc9 ho9 X8 XK hg8 hR8 HA9
          go_wp2
          go_roundg (l.length - (k + 1))
          case measure => omega
          case rel => exact ⟨k + 1, A5, c5, by omega, by rw [HSZ.out]; simp, ⟨_, HA9'.out⟩, Lib.hid (by rw [HDL.out]; exact G9.out), R9.out, HOK, B9⟩
        · go_wp2_with fail
          refine (copyOfB_any b C5 d5 _ w7 hi7 hcp.1 hcp.2).mono ?_
          rintro e w8 ⟨B8, d8, rfl, hCp, hb8⟩
          have X8 := Lib.hid (hX7.below hb8)
          have XK := Lib.hid (show BX.X w8 (fun i => w7.heap.size ≤ i) b [.bool b.packed, .bool b.mark, .int .i64 b.prod, .int .i64 b.epoch, .int .i64 b.seq, .slice B8 b.recs.length d8] from ⟨B8, d8, rfl, hCp⟩)
          have B8' := Lib.hid (bthen b07 hb8)
          have hg8 := blk_below hg7 hb8
          have hR8 := hR7.below hb8
          have hs07 := b07.size
          have hs78 := hb8.size
          have HX7 := Lib.hid hX7.1
          have hge7 := hX7.ge
          clear hX7 b07 hi7 hg7 hR7 hA7 hcp hCp hb8 u0 u1 u2 u3 u4 u5 uf
          go_wp2_with (at_builtin; go_loud (refine wpList_appX BX X8.out rfl _ _ 23 (.agg #[.bool false, .bool false, .int .i64 0, .int .i64 0, .int .i64 0, .slice none 0 0]) 56 rfl Try.underlying23 info_batR rfl (by decide) b _ _ rfl rfl XK.out (fun i hi => ⟨⟨by omega, by omega⟩, by have := HX7.out; omega⟩) (by simp [Value.oneCell']) (fun i hi => ⟨by omega, by omega⟩) (by omega) (by omega) ?_))
          intro v9 w9 HA9 hc9 ho9
          rw [← HTS.out] at HA9
          have B9 := Lib.hid (B8'.out.trans (hc9.below B8'.out.size (fun i hi => (hge7 i hi).1.1)))
          have G9 := Lib.hid (hc9.blk hg8 (fun e => (hge7 g e).1.2 rfl))
          have R9 := Lib.hid (hR8.keep (w' := w9) (hc9.same (fun i _ h1 h2 => by have := (hge7 i h2).1.1; have := h1.2; omega)))
          have HA9' := Lib.hid HA9
          clear hc9 ho9 X8 XK hg8 hR8 HA9
          go_wp2
          go_roundg (l.length - (k + 1))
          case measure => omega
          case rel => exact ⟨k + 1, A5, c5, by omega, by rw [HSZ.out]; simp, ⟨_, HA9'.out⟩, Lib.hid (by rw [HDL.out]; exact G9.out), R9.out, HOK, B9⟩
    · have hk2 : k = l.length := by omega
      have hd0 : l.drop k = [] := List.drop_of_length_le (by omega)
      have ht0 : l.take k = l := List.take_of_length_le (by omega)
      have hg0 : wr.heap[g]? = some (.cells #[.slice A' 0 c'] 70 (0, 0)) := by have := HG.out; rw [hd0] at this; exact this
      have HRB := Lib.hid (show RB m l l from RB.full (by have := HO.out; rw [ht0] at this; exact this))
      rw [ht0] at HX hl1
      rw [ht0]
      have HXh := Lib.hid HX
      clear hd0 ht0 hk2 HX hr
      go_wp2_with fail
      refine (take_nil_any g A' c' wr hg0).mono ?_
      rintro e w5 ⟨rfl, hb5⟩
      have HX5 := Lib.hid (((HXh.out.below hb5).below (bal w5 (.cells #[.bool false, .bool false, .int .i64 0, .int .i64 0, .int .i64 0, .slice none 0 0] 32))).mono (P' := fun b => w.heap.size ≤ b) (fun b hb => hb.1))
      have HB5 := Lib.hid (bthen (bthen HB.out hb5) (bal w5 (.cells #[.bool false, .bool false, .int .i64 0, .int .i64 0, .int .i64 0, .slice none 0 0] 32)))
      clear hb5 hg0
      go_wp2
      go_ret
      exact ⟨_, _, l, rfl, rbOut_of HRK.out HRD.out HRB.out, HX5.out, HB5.out⟩

theorem rdL_next (bs : List Bat) (o : Int) {k : Nat} (hk : k < bs.length) : ∃ r, rdL bs o = (if o ≤ bs[k].last then rdL (bs.take k) o ++ [bs[k]] else rdL (bs.take k) o) ++ r := by
  refine ⟨rdL (bs.drop (k + 1)) o, ?_⟩
  rw [← rdL_take_succ hk, ← rdL_split]
set_option maxRecDepth 20000 in
set_option maxHeartbeats 8000000 in
theorem ReadBatchesS_any (bs : List Bat) (A : Option Addr) (c : Nat) (F : Nat → Prop) (o m : Int) (w : World) (h : Bats w F A c bs) :
    Calls Try.prog 23 #[.slice A bs.length c, .int .i64 o, .int .i64 m] w fun e w' => ∃ v B xs, e = .returned v ∧ RBOut bs o m xs ∧ AppX BX 32 w' (fun b => w.heap.size ≤ b) B v xs ∧ Below w.heap.size w w' := by
  have hl := h.1
  have hc := h.2.1
  have hbd := h.bound bnd_bat
  have HLIT := Lib.hid (AppX.lit BX 32 w (fun b => w.heap.size ≤ b) (Nat.le_refl _))
  cases hv : logB bs
  · have e0 : rbOk bs m = false := by unfold rbOk; rw [hv]; rfl
    have HV := Lib.hid hv
    have HE := Lib.hid (rbOut_no (o := o) e0)
    clear hv e0
    go_enter Try.func23, Try.ntmps23
    go_wp2_with fail
    have hX := HLIT.out
    generalize hW : World.alloc _ _ = W at hX ⊢
    obtain ⟨hA, b1, hsW⟩ := alloc1 hW
    clear hW
    refine (LogValidS_any bs A c _ _ (h.below b1)).mono ?_
    rintro e w2 ⟨rfl, hb2⟩
    rw [HV.out]
    have HX := Lib.hid (hX.below hb2)
    have HB := Lib.hid (bthen b1 hb2)
    clear hb2 b1 hA hX
    go_wp2
    go_ret
    exact ⟨_, _, _, rfl, HE.out, HX.out, HB.out⟩
  cases hm : inB m 0 99999
  · have e0 : rbOk bs m = false := by unfold rbOk; rw [hv, hm]; rfl
    have HV := Lib.hid hv
    have HM := Lib.hid hm
    have HE := Lib.hid (rbOut_no (o := o) e0)
    clear hv e0 hm
    go_enter Try.func23, Try.ntmps23
    go_wp2_with fail
    have hX := HLIT.out
    generalize hW : World.alloc _ _ = W at hX ⊢
    obtain ⟨hA, b1, hsW⟩ := alloc1 hW
    clear hW
    refine (LogValidS_any bs A c _ _ (h.below b1)).mono ?_
    rintro e w2 ⟨rfl, hb2⟩
    rw [HV.out]
    have HX := Lib.hid (hX.below hb2)
    have HB := Lib.hid (bthen b1 hb2)
    clear hb2 b1 hA hX
    go_wp2_with (go_at_call 47; refine (l6In_any _ _ _ _).mono ?_; rintro e w' ⟨rfl, rfl⟩; rw [HM.out])
    go_ret
    exact ⟨_, _, _, rfl, HE.out, HX.out, HB.out⟩
  have HRK := Lib.hid (show rbOk bs m = true by unfold rbOk; rw [hv, hm]; rfl)
  have hm1 : 0 ≤ m ∧ m ≤ 99999 := by simpa [inB] using hm
  have HV := Lib.hid hv
  have HM := Lib.hid hm
  have HALL := Lib.hid (logB_all hv).2
  have HN := Lib.hid (logB_all hv).1
  have HVL := Lib.hid (show ∀ k, (logCat (rdL (bs.take k) o)).length ≤ 3312 ∧ (rdL (bs.take k) o).length ≤ k from fun k => by
    have h1 := logCat_len (bs := rdL (bs.take k) o) (fun b hb => (logB_all hv).2 b (List.mem_of_mem_take (rdL_mem hb)))
    have h2 := rdL_len (bs.take k) o
    have h3 : (bs.take k).length ≤ k := by rw [List.length_take]; omega
    have h4 : (bs.take k).length ≤ 8 := by have := (logB_all hv).1; rw [List.length_take]; omega
    omega)
  clear hv hm
  go_enter Try.func23, Try.ntmps23
  go_wp2_with fail
  have hX := HLIT.out
  generalize hW : World.alloc _ _ = W at hX ⊢
  obtain ⟨hA, b1, hsW⟩ := alloc1 hW
  clear hW
  refine (LogValidS_any bs A c _ _ (h.below b1)).mono ?_
  rintro e w2 ⟨rfl, hb2⟩
  rw [HV.out]
  have HX4 := Lib.hid (hX.below hb2)
  have HB4 := Lib.hid (bthen b1 hb2)
  clear hb2 b1 hA hX
  go_wp2_with fail
  refine (l6In_any _ _ _ _).mono ?_
  rintro e w' ⟨rfl, rfl⟩
  rw [HM.out]
  go_wp2_with fail
  go_loopw [7, 8, 9] (fun v s i wr => ∃ k : Nat, k ≤ bs.length ∧ i = .int .i64 k ∧ s = .int .i64 ((logCat (rdL (bs.take k) o)).length : Int) ∧ (∃ B, AppX BX 32 wr (fun b => w.heap.size ≤ b) B v (rdL (bs.take k) o)) ∧ Hid (okM m (rdL (bs.take k) o)) ∧ Hid (Below w.heap.size w wr)) (fun _ _ i _ => bs.length - (intOf i).toNat)
  case atStart => exact ⟨0, Nat.zero_le _, rfl, by simp [rdL, logCat], ⟨_, HX4.out⟩, Lib.hid (fun h => by simp [rdL] at h), HB4⟩
  case round =>
    obtain ⟨k, hk, rfl, rfl, ⟨B, HX⟩, HO, HB⟩ := hrel
    clear HX4 HB4
    obtain ⟨A1, c1, rfl, hl1, hc1⟩ := HX.toP.slice_
    by_cases hlt : k < bs.length
    · obtain ⟨ad2, C1, d1, rfl, _, hi1, q0, q1, q2, q3, q4, q5⟩ := (hbd.below HB.out).bat_at hlt
      have hbk := HALL.out _ (List.getElem_mem hlt)
      have HBK := Lib.hid hbk
      have hpos := batB_pos hbk
      have hbl := batBytes_le hbk
      have hsz := HVL.out k
      have hk8 := HN.out
      have HNX := Lib.hid (rdL_next bs o hlt)
      have HTS := Lib.hid (rdL_take_succ (o := o) hlt)
      have HLC := Lib.hid (logCat_append (rdL (bs.take k) o) [bs[k]])
      have HL1 := Lib.hid (logCat_one bs[k])
      obtain ⟨xs, hxs⟩ : ∃ xs, xs = rdL (bs.take k) o := ⟨_, rfl⟩
      obtain ⟨sz, hszz⟩ : ∃ sz, sz = (logCat (rdL (bs.take k) o)).length := ⟨_, rfl⟩
      obtain ⟨yl, hyll⟩ : ∃ yl, yl = (batBytes bs[k]).length := ⟨_, rfl⟩
      obtain ⟨la, hla⟩ : ∃ la, la = bs[k].last := ⟨_, rfl⟩
      rw [← hszz, ← hxs] at hsz
      rw [← hszz]
      rw [← hxs] at HX HTS hl1 HNX HO HLC
      rw [← hyll] at hbl
      rw [← hxs]
      rw [← hla] at HTS HNX
      have HSZ := Lib.hid (show ((logCat (xs ++ [bs[k]])).length) = sz + yl by rw [HLC.out, HL1.out, List.length_append, hxs, hszz, hyll])
      have HYB := Lib.hid hyll
      have HLA := Lib.hid hla
      have HXh := Lib.hid HX
      have hge := HX.ge
      have HSX := Lib.hid (show sz = (logCat xs).length by rw [hxs]; exact hszz)
      clear hbk hxs hszz hyll hla HX HLC HL1
      go_wp2_with fail
      refine (l12Last_any bs[k] C1 d1 _ _ hi1 hpos).mono ?_
      rintro e w5 ⟨rfl, hb5⟩
      rw [← HLA.out]
      have hX5 := HXh.out.below hb5
      have b5 := bthen HB.out hb5
      clear hb5 q0 q1 q2 q3 q4 q5 hi1 HXh
      by_cases hlo : la < o
      · have HT2 := Lib.hid (show rdL (bs.take (k + 1)) o = xs by rw [HTS.out, if_neg (by omega)])
        have HX5 := Lib.hid hX5
        have HB5 := Lib.hid b5
        clear hX5 b5
        go_wp2
        go_roundw
        case rel => exact ⟨k + 1, by omega, by go_num, by rw [HT2.out, HSX.out], ⟨_, by rw [HT2.out]; exact HX5.out⟩, Lib.hid (by rw [HT2.out]; exact HO.out), HB5⟩
        case measure => simp [intOf]; omega
      · have HT2 := Lib.hid (show rdL (bs.take (k + 1)) o = xs ++ [bs[k]] by rw [HTS.out, if_pos (by omega)])
        have HNX2 := Lib.hid (show ∃ r, rdL bs o = xs ++ bs[k] :: r by
          obtain ⟨r, hr⟩ := HNX.out
          rw [if_pos (by omega)] at hr
          exact ⟨r, by rw [hr]; simp⟩)
        obtain ⟨ad3, C2, d2, ea, _, hi2, q0, q1, q2, q3, q4, q5⟩ := (hbd.below b5).bat_at hlt
        injection ea with ea
        subst ea
        go_wp2_with fail
        refine (l5Bytes_any bs[k] C2 d2 _ _ hi2 HBK.out).mono ?_
        rintro e w7 ⟨v7, rfl, HV7, hb7⟩
        obtain ⟨A7, c7, rfl, hl7, hc7⟩ := HV7.slice_
        rw [← HYB.out] at hl7
        rw [← HYB.out]
        have hX7 := hX5.below hb7
        have b07 := bthen b5 hb7
        clear HV7 hb7 b5 hX5 hi2 q0 q1 q2 q3 q4 q5
        by_cases hst : 0 < xs.length ∧ m < ((sz + yl : Nat) : Int)
        · obtain ⟨hst1, hst2⟩ := hst
          have HRB := Lib.hid (show RB m (rdL bs o) xs by
            obtain ⟨r, hr⟩ := HNX2.out
            exact ⟨bs[k] :: r, hr, HO.out, .inr ⟨fun e => by rw [e] at hst1; simp at hst1, bs[k], r, rfl, by rw [HSZ.out]; exact hst2⟩⟩)
          have HX7 := Lib.hid hX7
          have HB7 := Lib.hid b07
          have hst3 : m < (sz : Int) + (yl : Int) := by omega
          clear hX7 b07 hst2
          go_wp2
          go_ret
          exact ⟨_, _, xs, rfl, rbOut_of HRK.out rfl HRB.out, HX7.out, HB7.out⟩
        · have HOK := Lib.hid (show okM m (xs ++ [bs[k]]) from fun h2 => by
            rw [HSZ.out]
            simp only [List.length_append, List.length_cons, List.length_nil] at h2
            omega)
          have hcp := batB_copy HBK.out
          obtain ⟨ad4, C3, d3, ea, _, hi3, q0, q1, q2, q3, q4, q5⟩ := (hbd.below b07).bat_at hlt
          injection ea with ea
          subst ea
          have hst' : xs.length = 0 ∨ (0 < xs.length ∧ (sz : Int) + (yl : Int) ≤ m) := by omega
          clear hst
          rcases hst' with h00 | ⟨h01, h02⟩
          · obtain rfl : xs = [] := List.eq_nil_of_length_eq_zero h00
            clear h00
            go_wp2_with fail
            refine (l12Batch_any bs[k] C3 d3 _ w7 hi3 hcp.1 hcp.2).mono ?_
            rintro e w8 ⟨B8, d8, rfl, hCp, hb8⟩
            have X8 := Lib.hid (hX7.below hb8)
            have XK := Lib.hid (show BX.X w8 (fun i => w7.heap.size ≤ i) bs[k] [.bool bs[k].packed, .bool bs[k].mark, .int .i64 bs[k].prod, .int .i64 bs[k].epoch, .int .i64 bs[k].seq, .slice B8 bs[k].recs.length d8] from ⟨B8, d8, rfl, hCp⟩)
            have B8' := Lib.hid (bthen b07 hb8)
            have hs07 := b07.size
            have hs78 := hb8.size
            have HX7 := Lib.hid hX7.1
            have hge7 := hX7.ge
            clear hX7 b07 hi3 hcp hCp hb8 q0 q1 q2 q3 q4 q5
            go_wp2_with (at_builtin; go_loud (refine wpList_appX BX X8.out rfl _ _ 23 (.agg #[.bool false, .bool false, .int .i64 0, .int .i64 0, .int .i64 0, .slice none 0 0]) 56 rfl Try.underlying23 info_batR rfl (by decide) bs[k] _ _ rfl rfl XK.out (fun i hi => ⟨by omega, by have := HX7.out; omega⟩) (by simp [Value.oneCell']) (fun i hi => by omega) (by omega) (by omega) ?_))
            intro v9 w9 HA9 hc9 ho9
            have B9 := Lib.hid (B8'.out.trans (hc9.below B8'.out.size (fun i hi => (hge7 i hi).1)))
            have e9 := HT2.out
            rw [List.nil_append] at e9
            rw [← e9] at HA9
            have HA9' := Lib.hid HA9
            clear hc9 ho9 X8 XK HA9 e9
            go_wp2
            go_roundw
            case rel => exact ⟨k + 1, by omega, by go_num, by rw [HT2.out, HSZ.out]; simp, ⟨_, HA9'.out⟩, Lib.hid (by rw [HT2.out]; exact HOK.out), B9⟩
            case measure => simp [intOf]; omega
          · go_wp2_with fail
            refine (l12Batch_any bs[k] C3 d3 _ w7 hi3 hcp.1 hcp.2).mono ?_
            rintro e w8 ⟨B8, d8, rfl, hCp, hb8⟩
            have X8 := Lib.hid (hX7.below hb8)
            have XK := Lib.hid (show BX.X w8 (fun i => w7.heap.size ≤ i) bs[k] [.bool bs[k].packed, .bool bs[k].mark, .int .i64 bs[k].prod, .int .i64 bs[k].epoch, .int .i64 bs[k].seq, .slice B8 bs[k].recs.length d8] from ⟨B8, d8, rfl, hCp⟩)
            have B8' := Lib.hid (bthen b07 hb8)
            have hs07 := b07.size
            have hs78 := hb8.size
            have HX7 := Lib.hid hX7.1
            have hge7 := hX7.ge
            clear hX7 b07 hi3 hcp hCp hb8 q0 q1 q2 q3 q4 q5
            go_wp2_with (at_builtin; go_loud (refine wpList_appX BX X8.out rfl _ _ 23 (.agg #[.bool false, .bool false, .int .i64 0, .int .i64 0, .int .i64 0, .slice none 0 0]) 56 rfl Try.underlying23 info_batR rfl (by decide) bs[k] _ _ rfl rfl XK.out (fun i hi => ⟨by omega, by have := HX7.out; omega⟩) (by simp [Value.oneCell']) (fun i hi => by omega) (by omega) (by omega) ?_))
            intro v9 w9 HA9 hc9 ho9
            have B9 := Lib.hid (B8'.out.trans (hc9.below B8'.out.size (fun i hi => (hge7 i hi).1)))
            have e9 := HT2.out
            rw [← e9] at HA9
            have HA9' := Lib.hid HA9
            clear hc9 ho9 X8 XK HA9 e9
            go_wp2
            go_roundw
            case rel => exact ⟨k + 1, by omega, by go_num, by rw [HT2.out, HSZ.out]; simp, ⟨_, HA9'.out⟩, Lib.hid (by rw [HT2.out]; exact HOK.out), B9⟩
            case measure => simp [intOf]; omega
    · have hk2 : k = bs.length := by omega
      subst hk2
      rw [List.take_length] at HX HO
      rw [List.take_length]
      have HRB := Lib.hid (show RB m (rdL bs o) (rdL bs o) from RB.full HO.out)
      have HXh := Lib.hid HX
      clear HX
      go_wp2
      go_ret
      exact ⟨_, _, _, rfl, rbOut_of HRK.out rfl HRB.out, HXh.out, HB.out⟩
end Go.Proofs.Ytfkhmmekdmochaa
