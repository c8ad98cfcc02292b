/- Scanning a segment: the reference. -/
import Derived.Test.YtomcjjehfocbmaaPj
import Derived.Test.YtomcjjehfocbmaaBg
import Derived.Test.YtomcjjehfocbmaaS2
namespace Go.Proofs.Ytomcjjehfocbmaa
set_option linter.unusedVariables false
set_option linter.unusedSimpArgs false
open Go.RowKit

set_option maxHeartbeats 1000000 in
theorem l12Torn_any (l : List Int) (A : Option Addr) (c : Nat) (F : Nat → Prop) (p : Nat) (w : World) (h : Ints w F A c l) (hb : bytesB l = true) (hn : l.length ≤ 4194304) (hp : p ≤ l.length) :
    Calls Try.prog 60 #[.slice A l.length c, .int .i64 (p : Int)] w fun e w' => e = .returned (.bool (tornB l p)) ∧ Below w.heap.size w w' := by
  have hl := h.1
  have hc := h.2.1
  by_cases h18 : l.length < p + 18
  · have ht : Hid (tornB l p = true) := Lib.hid (by unfold tornB; simp only [Bool.or_eq_true, decide_eq_true_eq]; exact .inl h18)
    have d1 : decide ((l.length : Int) < (p : Int) + 18) = true := by simp; omega
    clear h18
    go_enter Try.func60, Try.ntmps60
    go_wp2
    go_ret
    exact ⟨by rw [ht.out]; rfl, Below.refl _ _⟩
  · have d1 : decide ((l.length : Int) < (p : Int) + 18) = false := by simp; omega
    have hm := num2_range hb (p + 3)
    obtain ⟨m, hmm⟩ : ∃ m, m = num2 l (p + 3) := ⟨_, rfl⟩
    rw [← hmm] at hm
    have HM := Lib.hid hmm
    have ht : Hid (tornB l p = decide ((l.length : Int) < (p : Int) + 7 + m)) := Lib.hid (by unfold tornB; rw [← hmm, decide_eq_false (by omega), Bool.false_or])
    clear hmm
    by_cases hx : (l.length : Int) < (p : Int) + 7 + m
    · have d2 : decide ((l.length : Int) < (p : Int) + 7 + m) = true := by simp [hx]
      have HT : Hid (tornB l p = true) := Lib.hid (by rw [ht.out, d2])
      clear hx ht
      go_enter Try.func60, Try.ntmps60
      go_wp2_with fail
      refine (l2From2_any l A c _ (p + 3) ((p : Int) + 3) _ h hb hn (by omega) (by simp)).mono ?_
      rintro e w' ⟨rfl, rfl⟩
      rw [← HM.out]
      go_wp2
      go_ret
      exact ⟨by rw [HT.out]; rfl, Below.refl _ _⟩
    · have d2 : decide ((l.length : Int) < (p : Int) + 7 + m) = false := by simp; omega
      have HT : Hid (tornB l p = false) := Lib.hid (by rw [ht.out, d2])
      clear hx ht
      go_enter Try.func60, Try.ntmps60
      go_wp2_with fail
      refine (l2From2_any l A c _ (p + 3) ((p : Int) + 3) _ h hb hn (by omega) (by simp)).mono ?_
      rintro e w' ⟨rfl, rfl⟩
      rw [← HM.out]
      go_wp2
      go_ret
      exact ⟨by rw [HT.out]; rfl, Below.refl _ _⟩
theorem info_batR : (Try.prog.info? 27).map (fun i => (i.zero, i.size, i.bytes)) = some (some (.agg #[.bool false, .bool false, .int .i64 0, .int .i64 0, .int .i64 0, .slice none 0 0]), 6, 56) := by kernel_rfl
/-- One step of the reference's loop, at a batch. -/
theorem BatchFromS_is (l : List Int) (A : Option Addr) (c : Nat) (F : Nat → Prop) (p : Nat) (w : World) (h : Ints w F A c l) (hb : bytesB l = true) (hn : l.length ≤ 4194304) {b : Bat} (hr : rdBat l p = some b) (q : Nat) (hq : q = p + (batBytes b).length) :
    Calls Try.prog 39 #[.slice A l.length c, .int .i64 (p : Int)] w fun e w' => ∃ A' c', e = .returned (.tuple #[BV b A' c', .int .i64 (q : Int), .bool true]) ∧ XRecs 3 85 w' (fun g => w.heap.size ≤ g) A' c' b.recs ∧ Below w.heap.size w w' := by
  refine (BatchFromS_all l A c F (p : Int) w h hn).mono ?_
  rintro e w' ⟨A', c', he, hX, hB⟩
  rw [bfQ_at hb, rdAtI_nat, hr] at he hX
  exact ⟨A', c', by rw [he, hq]; simp [bfB, bfN], hX, hB⟩
theorem BatchFromS_no (l : List Int) (A : Option Addr) (c : Nat) (F : Nat → Prop) (p : Nat) (w : World) (h : Ints w F A c l) (hb : bytesB l = true) (hn : l.length ≤ 4194304) (hr : rdBat l p = none) :
    Calls Try.prog 39 #[.slice A l.length c, .int .i64 (p : Int)] w fun e w' => ∃ A' c', e = .returned (.tuple #[.agg #[.bool false, .bool false, .int .i64 0, .int .i64 0, .int .i64 0, .slice A' 0 c'], .int .i64 0, .bool false]) ∧ Below w.heap.size w w' := by
  refine (BatchFromS_all l A c F (p : Int) w h hn).mono ?_
  rintro e w' ⟨A', c', he, hX, hB⟩
  rw [bfQ_at hb, rdAtI_nat, hr] at he hX
  exact ⟨A', c', by rw [he]; simp [bfB, bfN, Bat.zero], hB⟩

set_option maxRecDepth 100000 in
set_option maxHeartbeats 4000000 in
theorem LogScanS_any (l : List Int) (A : Option Addr) (c : Nat) (F : Nat → Prop) (w : World) (h : Ints w F A c l) (hn : l.length ≤ 4194304) :
    Calls Try.prog 31 #[.slice A l.length c] w fun e w' => ∃ A' c', e = .returned (.tuple #[.slice A' (scanOf l).1.length c', .int .i64 ((scanOf l).2.1 : Int), .int .i64 (scanOf l).2.2]) ∧
      XBats 3 85 27 w' (fun g => w.heap.size ≤ g) A' c' (scanOf l).1 ∧ Below w.heap.size w w' := by
  have hl := h.1
  have hc := h.2.1
  cases hv : bytesB l
  · have e1 : scanOf l = ([], 0, 2) := by unfold scanOf; rw [hv]; rfl
    have HV := Lib.hid hv
    rw [e1]
    clear hv e1
    go_enter Try.func31, Try.ntmps31
    go_wp2_with fail
    generalize hW : World.alloc _ _ = W
    obtain ⟨hA, b1, hz⟩ := alloc1 hW
    clear hW
    refine (l1Ok_any l A c _ _ (h.below b1)).mono ?_
    rintro e w2 ⟨rfl, hww⟩
    rw [HV.out]
    have hb2 : Below W.heap.size W w2 := by rw [← hww]; exact Below.refl _ _
    clear hww
    have HB := Lib.hid (bthen b1 hb2)
    clear hb2 b1
    go_wp2
    refine bodyPost_ret (v := .tuple #[.slice (some ⟨w.heap.size, 0, none⟩) 0 0, .int .i64 0, .int .i64 2]) (by simp [results, Try.results31, go_sem]) rfl ⟨_, 0, rfl, XKind.Row.nil _ _ (by omega), HB.out⟩
  · have e1 : scanOf l = scanGo l 8 0 [] := by unfold scanOf; rw [hv]; rfl
    have HV := Lib.hid hv
    rw [e1]
    clear hv e1
    go_enter Try.func31, Try.ntmps31
    go_wp2_with fail
    generalize hW : World.alloc _ _ = W
    have hX : AppX BX 27 W (fun b => w.heap.size ≤ b) (w.heap.size + 1) (.slice (some ⟨w.heap.size, 0, none⟩) 0 0) [] := by
      rw [← hW]; exact AppX.lit BX 27 w (fun b => w.heap.size ≤ b) (Nat.le_refl _)
    obtain ⟨hA, b1, hz⟩ := alloc1 hW
    clear hW
    refine (l1Ok_any l A c _ _ (h.below b1)).mono ?_
    rintro e w2 ⟨rfl, hww⟩
    rw [HV.out]
    have hb2 : Below W.heap.size W w2 := by rw [← hww]; exact Below.refl _ _
    have HX2 := Lib.hid (hX.below hb2)
    have HB2 := Lib.hid (bthen b1 hb2)
    have hh := h.bound (bnd_int .i64)
    clear hb2 b1 hX hA hz hww
    go_wp2_with fail
    go_loopw [5, 6] (fun v i wr => ∃ (bs : List Bat) (p B : Nat), i = .int .i64 (p : Int) ∧ p ≤ l.length ∧ AppX BX 27 wr (fun b => w.heap.size ≤ b) B v bs ∧ bs.length ≤ 8 ∧ Hid (scanGo l 8 0 [] = scanGo l (8 - bs.length) p bs ∧ ∀ b ∈ bs, batB b = true) ∧ Hid (Below w.heap.size w wr)) (fun _ i _ => l.length - (intOf i).toNat)
    case atStart => exact ⟨[], 0, _, rfl, Nat.zero_le _, HX2.out, by simp, Lib.hid ⟨rfl, by simp⟩, HB2⟩
    case round =>
      obtain ⟨bs, p, B, rfl, hp, HX, h8, HE, HB⟩ := hrel
      obtain ⟨Ao, co, rfl, hlo, hco⟩ := HX.toP.slice_
      have HX := Lib.hid HX
      have hbw := HB
      clear HX2
      by_cases hpl : p < l.length
      · have dp : decide ((p : Int) < (l.length : Int)) = true := by simp [hpl]
        by_cases hb8 : bs.length < 8
        · have d8 : decide ((bs.length : Int) < 8) = true := by simp; omega
          have hne : Hid (p ≠ l.length) := Lib.hid (by omega)
          have HK8 := Lib.hid (show 8 - bs.length = (8 - bs.length - 1) + 1 by omega)
          go_wp2_with fail
          refine (l12Torn_any l A c _ p wr (hh.below HB.out) HV.out hn (by omega)).mono ?_
          rintro e w3 ⟨rfl, hb3⟩
          cases ht : tornB l p
          · have HT := Lib.hid ht
            have b3 := HB.out.trans (hb3.mono HB.out.size)
            have HX3 := Lib.hid (HX.out.below hb3)
            have HB3 := Lib.hid (hbw.out.trans (hb3.mono hbw.out.size))
            have hh3 := hh.below b3
            have B3 := Lib.hid b3
            clear ht hb3 b3
            cases hr : rdBat l p with
            | none =>
              have HR := Lib.hid hr
              go_wp2_with fail
              refine (BatchFromS_no l A c _ p _ hh3 HV.out hn hr).mono ?_
              rintro e w4 ⟨A4, c4, rfl, hb4⟩
              have HX4 := Lib.hid (HX3.out.below hb4)
              have HB4 := Lib.hid (HB3.out.trans (hb4.mono HB3.out.size))
              clear hb4 hr
              go_wp2
              obtain ⟨A9, c9, hv9, hr9⟩ := (HX4.out.below (bal w4 (.cells #[.bool false, .bool false, .int .i64 0, .int .i64 0, .int .i64 0, .slice A4 0 c4] 27))).row
              injection hv9 with e1 e2 e3
              subst e1 e3
              refine bodyPost_ret (v := .tuple #[.slice Ao bs.length co, .int .i64 (p : Int), .int .i64 2]) (by simp [results, Try.results31, go_sem]) rfl ⟨Ao, co, ?_, ?_, HB4.out.trans ((bal _ _).mono HB4.out.size)⟩
              · rw [HE.out.1, HK8.out, scanGo_bad hne.out HT.out HR.out]
              · rw [HE.out.1, HK8.out, scanGo_bad hne.out HT.out HR.out]; exact hr9
            | some b =>
              have HR := Lib.hid hr
              have hbv := (rdBat_at hr).1
              have hrl := (batB_parts hbv).2.1
              have hf0 := (batB_base hbv).1
              have hnx : p + (batBytes b).length ≤ l.length := (rdBat_at hr).len
              have hn18 := batBytes_18 b
              have HBV := Lib.hid hbv
              obtain ⟨q, hq⟩ : ∃ q, q = p + (batBytes b).length := ⟨_, rfl⟩
              rw [← hq] at hnx
              have hpq : p < q := by omega
              have HQ := Lib.hid hq
              go_wp2_with fail
              refine (BatchFromS_is l A c _ p _ hh3 HV.out hn hr q hq).mono ?_
              rintro e w4 ⟨A4, c4, rfl, hX4, hb4⟩
              have HX4 := Lib.hid (HX3.out.below hb4)
              have HB4 := Lib.hid (HB3.out.trans (hb4.mono HB3.out.size))
              have hs4 := hb4.size
              clear hb4 hr hq hbv hn18
              go_wp2_with fail
              generalize hW5 : World.alloc _ _ = W5
              obtain ⟨hA5, b5, hz5⟩ := alloc1 hW5
              clear hW5
              have hX5 := hX4.below b5
              have HX5 := Lib.hid (HX4.out.below b5)
              have HB5 := Lib.hid (HB4.out.trans (b5.mono HB4.out.size))
              obtain ⟨u0, u1, u2, u3, u4, u5, uf⟩ := six hA5
              have HA5 := Lib.hid hA5
              have hX5K := hX5.toK
              obtain ⟨adr, R1, r1, R2, r2, rfl, _, _, _, p0, _⟩ := hX5K.rec_at (show 0 < b.recs.length by omega)
              rw [show adr.add (0 * 6) = adr from rfl] at p0
              have P0 := grow_cell p0
              have U0 := grow_cell u0
              have U1 := grow_cell u1
              have U2 := grow_cell u2
              have U3 := grow_cell u3
              have U4 := grow_cell u4
              have U5 := grow_cell u5
              have hrl0 : (0 : Int) < b.recs.length := by omega
              have hf : Hid (b.first = b.recs[0].off) := Lib.hid (by unfold Bat.first; rw [recAt_eq (by omega)])
              clear p0 u0 u1 u2 u3 u4 u5 hX5K
              by_cases h0 : bs.length = 0
              · have d0 : decide (0 < bs.length) = false := by simp [h0]
                have d1 : decide ((0 : Int) < (bs.length : Int)) = false := by simp [h0]
                have HO : Hid (¬ b.first ≤ lastOf bs) := Lib.hid (by rw [List.length_eq_zero_iff.1 h0, lastOf_nil]; omega)
                clear h0
                refine wp_region_grow_lit (by kernel_rfl) (by kernel_rfl) ?_
                repeat (go_big_quiet_step (fail))
                refine wpQuiet_nil ?_
                rintro _ ⟨g, rfl⟩
                have hb6 := grow_below W5 g
                generalize grow W5 g = W6 at hb6 ⊢
                clear P0 U0 U1 U2 U3 U4 U5
                have HX6 := Lib.hid (HX5.out.below hb6)
                have HB6 := Lib.hid (HB5.out.trans (hb6.mono HB5.out.size))
                have hA6 := blk_below HA5.out hb6
                have hX6 := Lib.hid (hX5.below hb6)
                have hs6 := hb6.size
                clear hX5 hb6 hX4
                obtain ⟨v0, v1, v2, v3, v4, v5, vf⟩ := six hA6
                go_wp2_with (at_builtin; go_loud (refine wpList_appX BX HX6.out rfl _ _ 41 (.agg #[.bool false, .bool false, .int .i64 0, .int .i64 0, .int .i64 0, .slice none 0 0]) 56 rfl Try.underlying41 info_batR rfl (by decide) b _ _ rfl rfl ⟨_, _, rfl, hX6.out⟩ (fun x hx => ⟨by have := HB4.out.size; have := HB3.out.size; omega, by have := HX3.out.1; omega⟩) (by simp [Value.oneCell']) (fun x hx => by have := HB6.out.size; omega) (by omega) (by omega) ?_))
                intro v7 w7 HX7 hc7 _
                have hge := HX6.out.ge
                have HB7 := Lib.hid (HB6.out.trans (hc7.below HB6.out.size (fun i hi => (hge _ hi).1)))
                have HBS : Hid (∀ x ∈ bs ++ [b], batB x = true) := Lib.hid (fun x hx => by rcases List.mem_append.1 hx with hx | hx; exact HE.out.2 x hx; simp at hx; subst hx; exact HBV.out)
                have hl7 : (bs ++ [b]).length ≤ 8 := by rw [List.length_append, List.length_singleton]; omega
                have HSG : Hid (scanGo l 8 0 [] = scanGo l (8 - (bs ++ [b]).length) q (bs ++ [b])) := Lib.hid (by rw [HE.out.1, HK8.out, scanGo_more (bs := bs) hne.out HT.out HR.out (by have := HO.out; omega), HQ.out, List.length_append, List.length_singleton, show 8 - bs.length - 1 = 8 - (bs.length + 1) by omega])
                obtain ⟨cs, hcs⟩ : ∃ cs, cs = bs ++ [b] := ⟨_, rfl⟩
                rw [← hcs] at HX7 HBS hl7 HSG
                clear hcs hge hc7
                go_wp2
                go_roundw
                case rel => exact ⟨cs, q, _, rfl, hnx, HX7, hl7, Lib.hid ⟨HSG.out, HBS.out⟩, HB7⟩
                case measure => simp [intOf]; omega
              · have hk1 : bs.length - 1 < bs.length := by omega
                obtain ⟨Aq, cq, hvq, hrq⟩ := HX5.out.row
                injection hvq with eq1 _ eq2
                subst eq1 eq2
                obtain ⟨ad', B2, b2, rfl, _, hi2, q0, q1, q2, q3, q4, q5⟩ := hrq.toK.bat_at hk1
                have G0 := grow_cell q0
                have G1 := grow_cell q1
                have G2 := grow_cell q2
                have G3 := grow_cell q3
                have G4 := grow_cell q4
                have G5 := grow_cell q5
                clear q0 q1 q2 q3 q4 q5 hrq
                have hpos1 : 0 < bs[bs.length - 1].recs.length := batB_pos (HE.out.2 _ (List.getElem_mem hk1))
                have hlast : ∀ g, Calls Try.prog 40 #[.agg #[.bool bs[bs.length - 1].packed, .bool bs[bs.length - 1].mark, .int .i64 bs[bs.length - 1].prod, .int .i64 bs[bs.length - 1].epoch, .int .i64 bs[bs.length - 1].seq, .slice B2 bs[bs.length - 1].recs.length b2]] (grow W5 g) fun e w'' => e = .returned (.int .i64 bs[bs.length - 1].last) ∧ ∃ g', w'' = grow W5 g' := fun g =>
                  Calls.grow_of (l12Last_any bs[bs.length - 1] B2 b2 _ _ (hi2.below (grow_below _ _)) hpos1)
                have d0 : decide (0 < bs.length) = true := by simp; omega
                have d1 : decide ((0 : Int) < (bs.length : Int)) = true := by simp; omega
                have hlo2 : Hid (lastOf bs = bs[bs.length - 1].last) := Lib.hid (lastOf_at (by omega))
                by_cases hcmp : b.recs[0].off ≤ bs[bs.length - 1].last
                · have d2 : decide (b.recs[0].off ≤ bs[bs.length - 1].last) = true := by simp [hcmp]
                  have HO : Hid (b.first ≤ lastOf bs) := Lib.hid (by rw [hlo2.out, hf.out]; exact hcmp)
                  clear hcmp
                  refine wp_region_grow_lit (by kernel_rfl) (by kernel_rfl) ?_
                  repeat (go_big_quiet_step (exact hlast _))
                  refine wpQuiet_nil ?_
                  rintro _ ⟨g, rfl⟩
                  have hb6 := grow_below W5 g
                  generalize grow W5 g = W6 at hb6 ⊢
                  have HX6 := Lib.hid (HX5.out.below hb6)
                  have HB6 := Lib.hid (HB5.out.trans (hb6.mono HB5.out.size))
                  clear P0 U0 U1 U2 U3 U4 U5 G0 G1 G2 G3 G4 G5 hlast hi2 hX5 hb6 hX4
                  go_wp2
                  obtain ⟨A9, c9, hv9, hr9⟩ := HX6.out.row
                  injection hv9 with e1 e2 e3
                  subst e1 e3
                  refine bodyPost_ret (v := .tuple #[.slice (some ad') bs.length co, .int .i64 (p : Int), .int .i64 3]) (by simp [results, Try.results31, go_sem]) rfl ⟨some ad', co, ?_, ?_, HB6.out⟩
                  · rw [HE.out.1, HK8.out, scanGo_order hne.out HT.out HR.out HO.out]
                  · rw [HE.out.1, HK8.out, scanGo_order hne.out HT.out HR.out HO.out]; exact hr9
                · have d2 : decide (b.recs[0].off ≤ bs[bs.length - 1].last) = false := by simp; omega
                  have HO : Hid (¬ b.first ≤ lastOf bs) := Lib.hid (by rw [hlo2.out, hf.out]; exact hcmp)
                  clear hcmp
                  refine wp_region_grow_lit (by kernel_rfl) (by kernel_rfl) ?_
                  repeat (go_big_quiet_step (exact hlast _))
                  refine wpQuiet_nil ?_
                  rintro _ ⟨g, rfl⟩
                  have hb6 := grow_below W5 g
                  generalize grow W5 g = W6 at hb6 ⊢
                  clear P0 U0 U1 U2 U3 U4 U5 G0 G1 G2 G3 G4 G5 hlast hi2
                  have HX6 := Lib.hid (HX5.out.below hb6)
                  have HB6 := Lib.hid (HB5.out.trans (hb6.mono HB5.out.size))
                  have hA6 := blk_below HA5.out hb6
                  have hX6 := Lib.hid (hX5.below hb6)
                  have hs6 := hb6.size
                  clear hX5 hb6 hX4
                  obtain ⟨v0, v1, v2, v3, v4, v5, vf⟩ := six hA6
                  go_wp2_with (at_builtin; go_loud (refine wpList_appX BX HX6.out rfl _ _ 41 (.agg #[.bool false, .bool false, .int .i64 0, .int .i64 0, .int .i64 0, .slice none 0 0]) 56 rfl Try.underlying41 info_batR rfl (by decide) b _ _ rfl rfl ⟨_, _, rfl, hX6.out⟩ (fun x hx => ⟨by have := HB4.out.size; have := HB3.out.size; omega, by have := HX3.out.1; omega⟩) (by simp [Value.oneCell']) (fun x hx => by have := HB6.out.size; omega) (by omega) (by omega) ?_))
                  intro v7 w7 HX7 hc7 _
                  have hge := HX6.out.ge
                  have HB7 := Lib.hid (HB6.out.trans (hc7.below HB6.out.size (fun i hi => (hge _ hi).1)))
                  have HBS : Hid (∀ x ∈ bs ++ [b], batB x = true) := Lib.hid (fun x hx => by rcases List.mem_append.1 hx with hx | hx; exact HE.out.2 x hx; simp at hx; subst hx; exact HBV.out)
                  have hl7 : (bs ++ [b]).length ≤ 8 := by rw [List.length_append, List.length_singleton]; omega
                  have HSG : Hid (scanGo l 8 0 [] = scanGo l (8 - (bs ++ [b]).length) q (bs ++ [b])) := Lib.hid (by rw [HE.out.1, HK8.out, scanGo_more (bs := bs) hne.out HT.out HR.out (by have := HO.out; omega), HQ.out, List.length_append, List.length_singleton, show 8 - bs.length - 1 = 8 - (bs.length + 1) by omega])
                  obtain ⟨cs, hcs⟩ : ∃ cs, cs = bs ++ [b] := ⟨_, rfl⟩
                  rw [← hcs] at HX7 HBS hl7 HSG
                  clear hcs hge hc7
                  go_wp2
                  go_roundw
                  case rel => exact ⟨cs, q, _, rfl, hnx, HX7, hl7, Lib.hid ⟨HSG.out, HBS.out⟩, HB7⟩
                  case measure => simp [intOf]; omega
          · have HT := Lib.hid ht
            have HX3 := Lib.hid (HX.out.below hb3)
            have HB3 := Lib.hid (hbw.out.trans (hb3.mono hbw.out.size))
            clear ht hb3
            go_wp2
            obtain ⟨A9, c9, hv9, hr9⟩ := HX3.out.row
            injection hv9 with e1 e2 e3
            subst e1 e3
            refine bodyPost_ret (v := .tuple #[.slice Ao bs.length co, .int .i64 (p : Int), .int .i64 1]) (by simp [results, Try.results31, go_sem]) rfl ⟨Ao, co, ?_, ?_, HB3.out⟩
            · rw [HE.out.1, HK8.out, scanGo_torn hne.out HT.out]
            · rw [HE.out.1, HK8.out, scanGo_torn hne.out HT.out]; exact hr9
        · have d8 : decide ((bs.length : Int) < 8) = false := by simp; omega
          have HEND : Hid (scanGo l (8 - bs.length) p bs = (bs, p, 0)) := Lib.hid (by rw [show 8 - bs.length = 0 by omega]; rfl)
          go_wp2
          obtain ⟨A9, c9, hv9, hr9⟩ := HX.out.row
          injection hv9 with e1 e2 e3
          subst e1 e3
          refine bodyPost_ret (v := .tuple #[.slice Ao bs.length co, .int .i64 (p : Int), .int .i64 0]) (by simp [results, Try.results31, go_sem]) rfl ⟨Ao, co, ?_, ?_, hbw.out⟩
          · rw [HE.out.1, HEND.out]
          · rw [HE.out.1, HEND.out]; exact hr9
      · have dp : decide ((p : Int) < (l.length : Int)) = false := by simp; omega
        have HEND : Hid (scanGo l (8 - bs.length) p bs = (bs, p, 0)) := Lib.hid (scanGo_end (by omega))
        go_wp2
        obtain ⟨A9, c9, hv9, hr9⟩ := HX.out.row
        injection hv9 with e1 e2 e3
        subst e1 e3
        refine bodyPost_ret (v := .tuple #[.slice Ao bs.length co, .int .i64 (p : Int), .int .i64 0]) (by simp [results, Try.results31, go_sem]) rfl ⟨Ao, co, ?_, ?_, hbw.out⟩
        · rw [HE.out.1, HEND.out]
        · rw [HE.out.1, HEND.out]; exact hr9
end Go.Proofs.Ytomcjjehfocbmaa
