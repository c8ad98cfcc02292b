/- Seeking by an index: the program's and the reference's IndexSeek. -/
import Derived.Test.YtomcjjehfocbmaaSs
import Derived.Test.YtomcjjehfocbmaaI1
import Derived.Test.YtomcjjehfocbmaaI5
namespace Go.Proofs.Ytomcjjehfocbmaa
set_option linter.unusedVariables false
set_option linter.unusedSimpArgs false
open Go.RowKit

/-- What IndexSeek finds: a batch, and how many were looked at. -/
noncomputable def seekQ (l : List Int) (es : List Ent) (o : Int) : Option (Bat × Nat) := if entsB es = true ∧ bytesB l = true then seekGo l o 8 (entOr (findE es o)).place.toNat 1 else none
def skB (q : Option (Bat × Nat)) : Bat := match q with | none => Bat.zero | some x => x.1
def skN (q : Option (Bat × Nat)) : Int := match q with | none => 0 | some x => (x.2 : Int)
def SkOut (q : Option (Bat × Nat)) (w : World) (e : Ending) (w' : World) : Prop :=
  ∃ A c, e = .returned (.tuple #[BV (skB q) A c, .int .i64 (skN q), .bool q.isSome]) ∧ XRecs 3 85 w' (fun g => w.heap.size ≤ g) A c (skB q).recs ∧ Below w.heap.size w w'
theorem SkOut.none_ {q : Option (Bat × Nat)} {w w' : World} {e : Ending} (hq : q = none) (he : e = .returned (.tuple #[BZ, .int .i64 0, .bool false])) (hb : Below w.heap.size w w') : SkOut q w e w' := by
  subst hq he
  exact ⟨none, 0, rfl, XKind.Row.nil _ _ (by omega), hb⟩
theorem seek_place {es : List Ent} (h : entsB es = true) (o : Int) : 0 ≤ (entOr (findE es o)).place ∧ (entOr (findE es o)).place ≤ 99999 := by
  cases hf : findE es o with
  | none => simp [entOr, Ent.zero]
  | some e =>
    have h1 := ((entsB_iff es).1 h).2.1 e (findE_mem hf).1
    simp only [entB, inB, Bool.and_eq_true, decide_eq_true_eq] at h1
    simp only [entOr]
    show 0 ≤ e.place ∧ e.place ≤ 99999
    omega
theorem seekQ_no1 {l : List Int} {es : List Ent} {o : Int} (h : entsB es = false) : seekQ l es o = none := by unfold seekQ; rw [if_neg (by simp [h])]
theorem seekQ_no2 {l : List Int} {es : List Ent} {o : Int} (h : bytesB l = false) : seekQ l es o = none := by unfold seekQ; rw [if_neg (by simp [h])]
theorem seekQ_yes {l : List Int} {es : List Ent} {o : Int} (h1 : entsB es = true) (h2 : bytesB l = true) : seekQ l es o = seekGo l o 8 (entOr (findE es o)).place.toNat 1 := by unfold seekQ; rw [if_pos ⟨h1, h2⟩]
theorem zeroW {w w2 : World} (hb : Below w.heap.size w w2) : Below w.heap.size w ((((((w2.setCell ⟨w.heap.size, 0, none⟩ (.bool false)).setCell ⟨w.heap.size, 1, none⟩ (.bool false)).setCell ⟨w.heap.size, 2, none⟩ (.int .i64 0)).setCell ⟨w.heap.size, 3, none⟩ (.int .i64 0)).setCell ⟨w.heap.size, 4, none⟩ (.int .i64 0)).setCell ⟨w.heap.size, 5, none⟩ (.slice none 0 0)) :=
  hb.trans (zeroB.below hb.size (fun i hi => by omega))

set_option maxRecDepth 100000 in
set_option maxHeartbeats 4000000 in
theorem IndexSeek_any (l : List Int) (A : Option Addr) (c : Nat) (F : Nat → Prop) (es : List Ent) (A' : Option Addr) (c' : Nat) (F' : Nat → Prop) (o : Int) (w : World) (h : Ints w F A c l) (h' : Ents w F' A' c' es) (hn : l.length ≤ 4194304) :
    Calls Try.prog 15 #[.slice A l.length c, .slice A' es.length c', .int .i64 o] w (SkOut (seekQ l es o) w) := by
  have hl := h.1
  have hc := h.2.1
  go_enter Try.func15, Try.ntmps15
  go_wp2_with fail
  generalize hW : World.alloc _ _ = W0
  obtain ⟨hA0, b0, hz0⟩ := alloc1 hW
  clear hW
  refine (IndexValid_any es A' c' _ _ (h'.below b0)).mono ?_
  rintro e w1 ⟨rfl, hb1⟩
  have hA1 := blk_below hA0 hb1
  have b1 := bthen b0 hb1
  have hlt := blk_lt hA1
  have h1 := (h.bound (bnd_int .i64)).below b1
  have h1' := h'.below b1
  obtain ⟨x0, x1, x2, x3, x4, x5, xf⟩ := six hA1
  have B1 := Lib.hid b1
  have HA1 := Lib.hid hA1
  clear hb1 b0 hA0 hz0 b1 hA1
  cases hv : entsB es
  · have HQ := Lib.hid (seekQ_no1 (l := l) (o := o) hv)
    clear hv
    go_wp2
    refine bodyPost_ret (v := .tuple #[BZ, .int .i64 0, .bool false]) (by simp [results, Try.results15, go_sem, x0, x1, x2, x3, x4, x5, hlt]) rfl (.none_ HQ.out rfl ?_)
    exact zeroW B1.out
  · have HV := Lib.hid hv
    have hpl := seek_place hv o
    have HFI : Hid (findI es o = findE es o) := Lib.hid (by unfold findI; rw [hv]; rfl)
    clear hv
    go_wp2_with fail
    refine (allBytes_any l A c _ _ h1).mono ?_
    rintro e w' ⟨rfl, rfl⟩
    cases hb : bytesB l
    · have HQ := Lib.hid (seekQ_no2 (es := es) (o := o) hb)
      clear hb
      go_wp2
      refine bodyPost_ret (v := .tuple #[BZ, .int .i64 0, .bool false]) (by simp [results, Try.results15, go_sem, x0, x1, x2, x3, x4, x5, hlt]) rfl (.none_ HQ.out rfl ?_)
      exact zeroW B1.out
    · have HB := Lib.hid hb
      have HQ := Lib.hid (seekQ_yes (o := o) HV.out hb)
      clear hb
      obtain ⟨en, hen⟩ : ∃ e, e = entOr (findE es o) := ⟨_, rfl⟩
      rw [← hen] at hpl HQ
      have HEN := Lib.hid hen
      clear hen
      go_wp2_with fail
      refine (IndexFind_any es A' c' _ o _ h1').mono ?_
      rintro e w2 ⟨rfl, hb2⟩
      rw [HFI.out]
      rw [← HEN.out]
      obtain ⟨sm, hsm⟩ : ∃ s, s = (findE es o).isSome := ⟨_, rfl⟩
      rw [← hsm]
      have hA2 := blk_below HA1.out hb2
      have B2 := bthen B1.out hb2
      have h2 := h1.below hb2
      clear hsm hb2 x0 x1 x2 x3 x4 x5 xf hlt h1 h1'
      go_wp2_with fail
      generalize hW3 : World.alloc _ _ = W3
      obtain ⟨hE3, b3, hz3⟩ := alloc1 hW3
      clear hW3
      have hA3 := blk_below hA2 b3
      have B3 := Lib.hid (bthen B2 b3)
      have h3 := h2.below b3
      have HA3 := Lib.hid hA3
      have hlt3 := blk_lt hA3
      obtain ⟨y0, y1, yf⟩ := two2 hE3
      obtain ⟨p0, hp0⟩ : ∃ p : Nat, en.place = (p : Int) := ⟨en.place.toNat, by omega⟩
      rw [hp0] at y1
      have HQ2 : Hid (seekQ l es o = seekGo l o 8 p0 1) := Lib.hid (by rw [HQ.out, hp0]; rfl)
      have hp1 : p0 ≤ 4194304 := by omega
      have HP0 := Lib.hid hp0
      clear hA2 B2 h2 b3 hA3 hE3 hz3 hp0 hpl HQ
      go_wp2_with fail
      go_loopw [11, 12] (fun a i wr => ∃ p n : Nat, a = .int .i64 (p : Int) ∧ i = .int .i64 (n : Int) ∧ p ≤ 4194304 ∧ 1 ≤ n ∧ n ≤ 9 ∧ Hid (seekQ l es o = seekGo l o (9 - n) p n) ∧ Hid (Below W3.heap.size W3 wr)) (fun _ i _ => 9 - (intOf i).toNat)
      case atStart => exact ⟨p0, 1, by rw [HP0.out], rfl, hp1, by omega, by omega, HQ2, Lib.hid (Below.refl _ _)⟩
      case round =>
        obtain ⟨p, n, rfl, rfl, hp, hn1, hn9, HE, HBW⟩ := hrel
        have hAr := blk_below HA3.out HBW.out
        have hr := h3.below HBW.out
        have Br := Lib.hid (bthen B3.out HBW.out)
        have HAr := Lib.hid hAr
        clear y0 y1 yf
        by_cases h8 : n ≤ 8
        · have d8 : decide ((n : Int) ≤ 8) = true := by simp; omega
          have HK := Lib.hid (show 9 - n = (8 - n) + 1 by omega)
          cases hq : rdBat l p with
          | none =>
            have HR := Lib.hid hq
            go_wp2_with fail
            refine (batchAt_none l A c _ (p : Int) _ hr HB.out hn (by rw [rdAtI_nat]; exact hq)).mono ?_
            rintro e w5 ⟨⟨v, rfl, g, rfl⟩, hb5⟩
            have hA5 := blk_below HAr.out hb5
            have B5 := Lib.hid (bthen Br.out hb5)
            have hlt := blk_lt hA5
            obtain ⟨x0, x1, x2, x3, x4, x5, xf⟩ := six hA5
            have HNQ : Hid (seekQ l es o = none) := Lib.hid (by rw [HE.out, seekGo_none HR.out])
            clear hb5 hq hA5 hAr
            go_wp2
            refine bodyPost_ret (v := .tuple #[BZ, .int .i64 0, .bool false]) (by simp [results, Try.results15, go_sem, x0, x1, x2, x3, x4, x5, hlt]) rfl (.none_ HNQ.out rfl ?_)
            exact bthen (zeroW B5.out) (bal _ _)
          | some b =>
            have HR := Lib.hid hq
            have hbv := (rdBat_at hq).1
            have hrl := (batB_parts hbv).2.1
            have hnx : p + (batBytes b).length ≤ l.length := (rdBat_at hq).len
            obtain ⟨q, hqq⟩ : ∃ q, q = p + (batBytes b).length := ⟨_, rfl⟩
            rw [← hqq] at hnx
            have HQQ := Lib.hid hqq
            go_wp2_with fail
            refine (batchAt_some l A c _ p _ hr HB.out hn hq).mono ?_
            rintro e w5 ⟨A5, c5, rfl, hX5, hb5⟩
            rw [← hqq]
            have hA5 := blk_below HAr.out hb5
            have B5 := bthen Br.out hb5
            have hs5 := hb5.size
            have hsr := Br.out.size
            have HBW5 := bthen HBW.out hb5
            clear hqq hq hbv hb5
            go_wp2_with fail
            generalize hW6 : World.alloc _ _ = W6
            obtain ⟨hN6, b6, hz6⟩ := alloc1 hW6
            clear hW6
            have hX6 := hX5.below b6
            have hA6 := blk_below hA5 b6
            have B6 := bthen B5 b6
            have HBW6 := bthen HBW5 b6
            obtain ⟨v0, v1, v2, v3, v4, v5, vf⟩ := six hN6
            clear hX5 hA5 B5 b6 HBW5
            refine (last_any b A5 c5 _ _ hX6.toK (by omega)).mono ?_
            rintro e w7 ⟨rfl, hb7⟩
            have hX7 := (hX6.below hb7).bound
            have hA7 := blk_below hA6 hb7
            have hN7 := blk_below hN6 hb7
            have B7 := bthen B6 hb7
            have HBW7 := Lib.hid (bthen HBW6 hb7)
            have hs7 := hb7.size
            have HX7 := Lib.hid hX7
            have HB7 := Lib.hid B7
            clear hX6 hA6 hN6 B6 HBW6 hb7 v0 v1 v2 v3 v4 v5 vf hX7 B7
            by_cases ho : o ≤ b.last
            · have d1 : decide (o ≤ b.last) = true := by simp [ho]
              have HYQ : Hid (seekQ l es o = some (b, n)) := Lib.hid (by rw [HE.out, HK.out, seekGo_here HR.out ho])
              have hlt := blk_lt hA7
              have hltN := blk_lt hN7
              have hneq : w.heap.size ≠ w5.heap.size := by have := blk_lt hAr; omega
              have hneq' : w5.heap.size ≠ w.heap.size := fun h => hneq h.symm
              obtain ⟨x0, x1, x2, x3, x4, x5, xf⟩ := six hA7
              obtain ⟨v0, v1, v2, v3, v4, v5, vf⟩ := six hN7
              have hg0 := Lib.hid (show w.heap.size < wr.heap.size from blk_lt hAr)
              clear ho hA7 hN7 hAr
              go_wp2
              have cZ := Chg.setCells (fun b => b = w.heap.size) (g := w.heap.size) rfl [.bool b.packed, .bool b.mark, .int .i64 b.prod, .int .i64 b.epoch, .int .i64 b.seq, .slice A5 b.recs.length c5] 0 w7
              refine bodyPost_ret (v := .tuple #[BV b A5 c5, .int .i64 (n : Int), .bool true]) (by simp [results, Try.results15, go_sem, x0, x1, x2, x3, x4, x5, hlt]) rfl ?_
              rw [HYQ.out]
              refine ⟨A5, c5, rfl, (HX7.out.keep (cZ.same (fun i _ h1 h2 => by have := h1.1; have := hg0.out; omega)) cZ.size).mono (fun i hi => by have := hi.1; have := hg0.out; omega), HB7.out.trans (cZ.below HB7.out.size (fun i hi => by omega))⟩
            · have d1 : decide (o ≤ b.last) = false := by simp; omega
              have HNX : Hid (seekQ l es o = seekGo l o (9 - (n + 1)) q (n + 1)) := Lib.hid (by rw [HE.out, HK.out, seekGo_on HR.out ho, HQQ.out, show 8 - n = 9 - (n + 1) by omega])
              clear ho hA7 hN7 hAr
              go_wp2
              go_roundw
              case rel => exact ⟨q, n + 1, rfl, by go_num, by omega, by omega, by omega, HNX, HBW7⟩
              case measure => simp [intOf]; omega
        · have d8 : decide ((n : Int) ≤ 8) = false := by simp; omega
          have HNQ : Hid (seekQ l es o = none) := Lib.hid (by rw [HE.out, show 9 - n = 0 by omega]; rfl)
          have hlt := blk_lt hAr
          obtain ⟨x0, x1, x2, x3, x4, x5, xf⟩ := six hAr
          clear hAr
          go_wp2
          refine bodyPost_ret (v := .tuple #[BZ, .int .i64 0, .bool false]) (by simp [results, Try.results15, go_sem, x0, x1, x2, x3, x4, x5, hlt]) rfl (.none_ HNQ.out rfl ?_)
          exact zeroW Br.out

set_option maxRecDepth 100000 in
set_option maxHeartbeats 4000000 in
theorem IndexSeekS_any (l : List Int) (A : Option Addr) (c : Nat) (F : Nat → Prop) (es : List Ent) (A' : Option Addr) (c' : Nat) (F' : Nat → Prop) (o : Int) (w : World) (h : Ints w F A c l) (h' : Ents w F' A' c' es) (hn : l.length ≤ 4194304) :
    Calls Try.prog 12 #[.slice A l.length c, .slice A' es.length c', .int .i64 o] w (SkOut (seekQ l es o) w) := by
  have hl := h.1
  have hc := h.2.1
  go_enter Try.func12, Try.ntmps12
  go_wp2_with fail
  generalize hW : World.alloc _ _ = W0
  obtain ⟨hA0, b0, hz0⟩ := alloc1 hW
  clear hW
  refine (IndexValidS_any es A' c' _ _ (h'.below b0)).mono ?_
  rintro e w1 ⟨rfl, hb1⟩
  have hA1 := blk_below hA0 hb1
  have b1 := bthen b0 hb1
  have hlt := blk_lt hA1
  have h1 := (h.bound (bnd_int .i64)).below b1
  have h1' := h'.below b1
  obtain ⟨x0, x1, x2, x3, x4, x5, xf⟩ := six hA1
  have B1 := Lib.hid b1
  have HA1 := Lib.hid hA1
  clear hb1 b0 hA0 hz0 b1 hA1
  cases hv : entsB es
  · have HQ := Lib.hid (seekQ_no1 (l := l) (o := o) hv)
    clear hv
    go_wp2
    refine bodyPost_ret (v := .tuple #[BZ, .int .i64 0, .bool false]) (by simp [results, Try.results12, go_sem, x0, x1, x2, x3, x4, x5, hlt]) rfl (.none_ HQ.out rfl ?_)
    exact zeroW B1.out
  · have HV := Lib.hid hv
    have hpl := seek_place hv o
    have HFI : Hid (findI es o = findE es o) := Lib.hid (by unfold findI; rw [hv]; rfl)
    clear hv
    go_wp2_with fail
    refine (l1Ok_any l A c _ _ h1).mono ?_
    rintro e w' ⟨rfl, rfl⟩
    cases hb : bytesB l
    · have HQ := Lib.hid (seekQ_no2 (es := es) (o := o) hb)
      clear hb
      go_wp2
      refine bodyPost_ret (v := .tuple #[BZ, .int .i64 0, .bool false]) (by simp [results, Try.results12, go_sem, x0, x1, x2, x3, x4, x5, hlt]) rfl (.none_ HQ.out rfl ?_)
      exact zeroW B1.out
    · have HB := Lib.hid hb
      have HQ := Lib.hid (seekQ_yes (o := o) HV.out hb)
      clear hb
      obtain ⟨en, hen⟩ : ∃ e, e = entOr (findE es o) := ⟨_, rfl⟩
      rw [← hen] at hpl HQ
      have HEN := Lib.hid hen
      clear hen
      go_wp2_with fail
      refine (l13Find_any es A' c' _ o _ h1').mono ?_
      rintro e w2 ⟨rfl, hb2⟩
      
      rw [← HEN.out]
      obtain ⟨sm, hsm⟩ : ∃ s, s = (findE es o).isSome := ⟨_, rfl⟩
      rw [← hsm]
      have hA2 := blk_below HA1.out hb2
      have B2 := bthen B1.out hb2
      have h2 := h1.below hb2
      clear hsm hb2 x0 x1 x2 x3 x4 x5 xf hlt h1 h1'
      go_wp2_with fail
      generalize hW3 : World.alloc _ _ = W3
      obtain ⟨hE3, b3, hz3⟩ := alloc1 hW3
      clear hW3
      have hA3 := blk_below hA2 b3
      have B3 := Lib.hid (bthen B2 b3)
      have h3 := h2.below b3
      have HA3 := Lib.hid hA3
      have hlt3 := blk_lt hA3
      obtain ⟨y0, y1, yf⟩ := two2 hE3
      obtain ⟨p0, hp0⟩ : ∃ p : Nat, en.place = (p : Int) := ⟨en.place.toNat, by omega⟩
      rw [hp0] at y1
      have HQ2 : Hid (seekQ l es o = seekGo l o 8 p0 1) := Lib.hid (by rw [HQ.out, hp0]; rfl)
      have hp1 : p0 ≤ 4194304 := by omega
      have HP0 := Lib.hid hp0
      clear hA2 B2 h2 b3 hA3 hE3 hz3 hp0 hpl HQ
      go_wp2_with fail
      go_loopw [11, 12] (fun a i wr => ∃ p n : Nat, a = .int .i64 (p : Int) ∧ i = .int .i64 (n : Int) ∧ p ≤ 4194304 ∧ 1 ≤ n ∧ n ≤ 9 ∧ Hid (seekQ l es o = seekGo l o (9 - n) p n) ∧ Hid (Below W3.heap.size W3 wr)) (fun _ i _ => 9 - (intOf i).toNat)
      case atStart => exact ⟨p0, 1, by rw [HP0.out], rfl, hp1, by omega, by omega, HQ2, Lib.hid (Below.refl _ _)⟩
      case round =>
        obtain ⟨p, n, rfl, rfl, hp, hn1, hn9, HE, HBW⟩ := hrel
        have hAr := blk_below HA3.out HBW.out
        have hr := h3.below HBW.out
        have Br := Lib.hid (bthen B3.out HBW.out)
        have HAr := Lib.hid hAr
        clear y0 y1 yf
        by_cases h8 : n ≤ 8
        · have d8 : decide ((n : Int) ≤ 8) = true := by simp; omega
          have HK := Lib.hid (show 9 - n = (8 - n) + 1 by omega)
          cases hq : rdBat l p with
          | none =>
            have HR := Lib.hid hq
            go_wp2_with fail
            refine (BatchFromS_no l A c _ p _ hr HB.out hn hq).mono ?_
            rintro e w5 ⟨A5, c5, rfl, hb5⟩
            have hA5 := blk_below HAr.out hb5
            have B5 := Lib.hid (bthen Br.out hb5)
            have hlt := blk_lt hA5
            obtain ⟨x0, x1, x2, x3, x4, x5, xf⟩ := six hA5
            have HNQ : Hid (seekQ l es o = none) := Lib.hid (by rw [HE.out, seekGo_none HR.out])
            clear hb5 hq hA5 hAr
            go_wp2
            refine bodyPost_ret (v := .tuple #[BZ, .int .i64 0, .bool false]) (by simp [results, Try.results12, go_sem, x0, x1, x2, x3, x4, x5, hlt]) rfl (.none_ HNQ.out rfl ?_)
            exact bthen (zeroW B5.out) (bal _ _)
          | some b =>
            have HR := Lib.hid hq
            have hbv := (rdBat_at hq).1
            have hrl := (batB_parts hbv).2.1
            have hnx : p + (batBytes b).length ≤ l.length := (rdBat_at hq).len
            obtain ⟨q, hqq⟩ : ∃ q, q = p + (batBytes b).length := ⟨_, rfl⟩
            rw [← hqq] at hnx
            have HQQ := Lib.hid hqq
            go_wp2_with fail
            refine (BatchFromS_is l A c _ p _ hr HB.out hn hq q hqq).mono ?_
            rintro e w5 ⟨A5, c5, rfl, hX5, hb5⟩
            have hA5 := blk_below HAr.out hb5
            have B5 := bthen Br.out hb5
            have hs5 := hb5.size
            have hsr := Br.out.size
            have HBW5 := bthen HBW.out hb5
            clear hqq hq hbv hb5
            go_wp2_with fail
            generalize hW6 : World.alloc _ _ = W6
            obtain ⟨hN6, b6, hz6⟩ := alloc1 hW6
            clear hW6
            have hX6 := hX5.below b6
            have hA6 := blk_below hA5 b6
            have B6 := bthen B5 b6
            have HBW6 := bthen HBW5 b6
            obtain ⟨v0, v1, v2, v3, v4, v5, vf⟩ := six hN6
            clear hX5 hA5 B5 b6 HBW5
            refine (l12Last_any b A5 c5 _ _ hX6.toK (by omega)).mono ?_
            rintro e w7 ⟨rfl, hb7⟩
            have hX7 := (hX6.below hb7).bound
            have hA7 := blk_below hA6 hb7
            have hN7 := blk_below hN6 hb7
            have B7 := bthen B6 hb7
            have HBW7 := Lib.hid (bthen HBW6 hb7)
            have hs7 := hb7.size
            have HX7 := Lib.hid hX7
            have HB7 := Lib.hid B7
            clear hX6 hA6 hN6 B6 HBW6 hb7 v0 v1 v2 v3 v4 v5 vf hX7 B7
            by_cases ho : o ≤ b.last
            · have d1 : decide (o ≤ b.last) = true := by simp [ho]
              have HYQ : Hid (seekQ l es o = some (b, n)) := Lib.hid (by rw [HE.out, HK.out, seekGo_here HR.out ho])
              have hlt := blk_lt hA7
              have hltN := blk_lt hN7
              have hneq : w.heap.size ≠ w5.heap.size := by have := blk_lt hAr; omega
              have hneq' : w5.heap.size ≠ w.heap.size := fun h => hneq h.symm
              obtain ⟨x0, x1, x2, x3, x4, x5, xf⟩ := six hA7
              obtain ⟨v0, v1, v2, v3, v4, v5, vf⟩ := six hN7
              have hg0 := Lib.hid (show w.heap.size < wr.heap.size from blk_lt hAr)
              clear ho hA7 hN7 hAr
              go_wp2
              have cZ := Chg.setCells (fun b => b = w.heap.size) (g := w.heap.size) rfl [.bool b.packed, .bool b.mark, .int .i64 b.prod, .int .i64 b.epoch, .int .i64 b.seq, .slice A5 b.recs.length c5] 0 w7
              refine bodyPost_ret (v := .tuple #[BV b A5 c5, .int .i64 (n : Int), .bool true]) (by simp [results, Try.results12, go_sem, x0, x1, x2, x3, x4, x5, hlt]) rfl ?_
              rw [HYQ.out]
              refine ⟨A5, c5, rfl, (HX7.out.keep (cZ.same (fun i _ h1 h2 => by have := h1.1; have := hg0.out; omega)) cZ.size).mono (fun i hi => by have := hi.1; have := hg0.out; omega), HB7.out.trans (cZ.below HB7.out.size (fun i hi => by omega))⟩
            · have d1 : decide (o ≤ b.last) = false := by simp; omega
              have HNX : Hid (seekQ l es o = seekGo l o (9 - (n + 1)) q (n + 1)) := Lib.hid (by rw [HE.out, HK.out, seekGo_on HR.out ho, HQQ.out, show 8 - n = 9 - (n + 1) by omega])
              clear ho hA7 hN7 hAr
              go_wp2
              go_roundw
              case rel => exact ⟨q, n + 1, rfl, by go_num, by omega, by omega, by omega, HNX, HBW7⟩
              case measure => simp [intOf]; omega
        · have d8 : decide ((n : Int) ≤ 8) = false := by simp; omega
          have HNQ : Hid (seekQ l es o = none) := Lib.hid (by rw [HE.out, show 9 - n = 0 by omega]; rfl)
          have hlt := blk_lt hAr
          obtain ⟨x0, x1, x2, x3, x4, x5, xf⟩ := six hAr
          clear hAr
          go_wp2
          refine bodyPost_ret (v := .tuple #[BZ, .int .i64 0, .bool false]) (by simp [results, Try.results12, go_sem, x0, x1, x2, x3, x4, x5, hlt]) rfl (.none_ HNQ.out rfl ?_)
          exact zeroW Br.out
end Go.Proofs.Ytomcjjehfocbmaa
