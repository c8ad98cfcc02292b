/- The batch at a place of bytes: the program, its records. -/
import Derived.Test.YtgnjnpfeofhniaaDoorBc
namespace Go.Proofs.YtgnjnpfeofhniaaDoor
set_option linter.unusedVariables false
set_option linter.unusedSimpArgs false
open Go.RowKit

theorem recordAt_none (l : List Int) (A : Option Addr) (c : Nat) (F : Nat → Prop) (i : Nat) (o t : Int) (w : World) (h : Ints w F A c l) (hb : bytesB l = true) (hn : l.length ≤ 4194304) (ho : 0 ≤ o ∧ o ≤ 99999) (ht : 0 ≤ t ∧ t ≤ 99999) (hq : rdRec l i o t = none) :
    Calls Tryd.prog 44 #[.slice A l.length c, .int .i64 (i : Int), .int .i64 o, .int .i64 t] w fun e w' =>
      ∃ Ak ck Av cv, e = .returned (.tuple #[.agg #[.int .i64 0, .int .i64 0, .bool false, .slice Ak 0 ck, .bool false, .slice Av 0 cv], .int .i64 0, .bool false]) ∧ Below w.heap.size w w' :=
  (recordAt_any l A c F i o t w h hb hn ho ht).mono fun e w' ⟨vk, vv, he, hc⟩ => by
    rw [rdAt_nat, hq] at he hc
    obtain ⟨Ak, ck, rfl, _⟩ := AppP.row hc.key
    obtain ⟨Av, cv, rfl, _⟩ := AppP.row hc.val
    exact ⟨Ak, ck, Av, cv, he, hc.below⟩
theorem recordAt_some (l : List Int) (A : Option Addr) (c : Nat) (F : Nat → Prop) (i : Nat) (o t : Int) (w : World) (h : Ints w F A c l) (hb : bytesB l = true) (hn : l.length ≤ 4194304) (ho : 0 ≤ o ∧ o ≤ 99999) (ht : 0 ≤ t ∧ t ≤ 99999) {r : Rec} {e2 : Nat} (hq : rdRec l i o t = some (r, e2)) :
    Calls Tryd.prog 44 #[.slice A l.length c, .int .i64 (i : Int), .int .i64 o, .int .i64 t] w fun e w' =>
      ∃ Ak ck Av cv, e = .returned (.tuple #[.agg #[.int .i64 r.off, .int .i64 r.time, .bool r.hk, .slice Ak r.key.length ck, .bool r.hv, .slice Av r.val.length cv], .int .i64 (e2 : Int), .bool true]) ∧ Copied w w' r (.slice Ak r.key.length ck) (.slice Av r.val.length cv) :=
  (recordAt_any l A c F i o t w h hb hn ho ht).mono fun e w' ⟨vk, vv, he, hc⟩ => by
    rw [rdAt_nat, hq] at he hc
    obtain ⟨Ak, ck, e1, _⟩ := AppP.row hc.key
    obtain ⟨Av, cv, e2, _⟩ := AppP.row hc.val
    subst e1 e2
    exact ⟨Ak, ck, Av, cv, he, hc⟩
theorem valid_lit (pk mk : Bool) (pr ep sq : Int) (rs : List Rec) (A : Option Addr) (c : Nat) (F : Nat → Prop) (W : World) (h : Recs W F A c rs) {r : Bool} (hv : batB ⟨pk, mk, pr, ep, sq, rs⟩ = r) :
    Calls Tryd.prog 15 #[.agg #[.bool pk, .bool mk, .int .i64 pr, .int .i64 ep, .int .i64 sq, .slice A rs.length c]] W fun e w' => e = .returned (.bool r) ∧ Below W.heap.size W w' := by
  subst hv
  exact BatchValid_any ⟨pk, mk, pr, ep, sq, rs⟩ A c F W h
theorem bytes_lit (pk mk : Bool) (pr ep sq : Int) (rs : List Rec) (A : Option Addr) (c : Nat) (F : Nat → Prop) (W : World) (h : Recs W F A c rs) (hv : batB ⟨pk, mk, pr, ep, sq, rs⟩ = true) {xs : List Int} (hxs : xs = batBytes ⟨pk, mk, pr, ep, sq, rs⟩) :
    Calls Tryd.prog 20 #[.agg #[.bool pk, .bool mk, .int .i64 pr, .int .i64 ep, .int .i64 sq, .slice A rs.length c]] W fun e w' => ∃ v, e = .returned v ∧ App (Kind.int .i64) 3 w' W.heap.size v xs ∧ Below W.heap.size W w' := by
  subst hxs
  exact bytesOf_any ⟨pk, mk, pr, ep, sq, rs⟩ A c F W h hv
theorem equal_lit (xs ys : List Int) (A A' : Option Addr) (c c' : Nat) (F F' : Nat → Prop) (w : World) (h : Ints w F A c xs) (h' : Ints w F' A' c' ys) {r : Bool} (hr : decide (xs = ys) = r) :
    Calls Tryd.prog 45 #[.slice A xs.length c, .slice A' ys.length c'] w fun e w' => e = .returned (.bool r) ∧ Below w.heap.size w w' := by
  subst hr
  exact Equal_any xs ys A A' c c' F F' w h h'
theorem YesBat.mk {p : Nat} {b : Bat} {w W : World} {x : Int} {A : Option Addr} {c : Nat} (he : x = ((p + (batBytes b).length : Nat) : Int)) (hx : XRecs 3 46 W (fun g => w.heap.size ≤ g) A c b.recs) (hb : Below w.heap.size w W) :
    YesBat p b w (.returned (.tuple #[BV b A c, .int .i64 x, .nilIface])) W := by
  subst he
  exact ⟨A, c, rfl, hx, hb⟩

set_option maxRecDepth 100000 in
set_option maxHeartbeats 4000000 in
theorem batchAt_plain (l : List Int) (A : Option Addr) (c : Nat) (F : Nat → Prop) (p : Nat) (w : World)(h : Ints w F A c l) (hb : bytesB l = true) (hn : l.length ≤ 4194304) (hp : p + 18 ≤ l.length) (hsz : 11 ≤ (num2 l (p + 3)).toNat ∧ p + 7 + (num2 l (p + 3)).toNat ≤ l.length) (hsum : num2 l (p + 5) = sumB (restAt l p)) (hhd : (restAt l p).getD 0 0 ≤ 3 ∧ (restAt l p).getD 9 0 = 0 ∧ (restAt l p).getD 10 0 = 0) (hpkd : decide ((restAt l p).getD 0 0 % 2 = 1) = false) (hbase : baseB (num3 l p) (num3 (restAt l p) 5) = true) :
    Calls Tryd.prog 22 #[.slice A l.length c, .int .i64 (p : Int)] w (BatRes l p w) := by
  have hl := h.1
  have hc := h.2.1
  have hbd := h.bound (bnd_int .i64)
  obtain ⟨m, hm0⟩ := Int.eq_ofNat_of_zero_le (num2_range hb (p + 3)).1
  have hm1 : m ≤ 65535 := by have := (num2_range hb (p + 3)).2; omega
  obtain ⟨o, ho⟩ : ∃ o, o = num3 l p := ⟨_, rfl⟩
  obtain ⟨s, hs⟩ : ∃ s, s = num2 l (p + 5) := ⟨_, rfl⟩
  have hor : 0 ≤ o ∧ o ≤ 16777215 := by have := num3_range hb p; omega
  have HO := Lib.hid ho.symm
  have HM := Lib.hid hm0
  have HS := Lib.hid hs.symm
  have HBY := Lib.hid hb
  rw [hm0] at hsz
  obtain ⟨h11, hpm⟩ : 11 ≤ m ∧ p + 7 + m ≤ l.length := hsz
  have d1 : decide ((m : Int) < 11) = false := by simp; omega
  have d2 : decide ((l.length : Int) - ((p : Int) + 7) < (m : Int)) = false := by simp; omega
  obtain ⟨rest, hrest⟩ : ∃ r, r = restAt l p := ⟨_, rfl⟩
  have hrl : rest.length = m := by rw [hrest, restAt_len (by rw [hm0]; exact hpm), hm0]; rfl
  have hrb : bytesB rest = true := by rw [hrest]; exact restAt_bytes hb
  have hrow : Ints w (fun b => F b ∧ b < w.heap.size) (cutAddr A (p + 7) c 1) (c - (p + 7)) rest := by rw [hrest]; unfold restAt; exact (hbd.cut (p + 7) (by omega)).take _
  obtain ⟨ab, hab, hj1, hj2⟩ := hrow.int_at (show 0 < rest.length by omega)
  clear hj1 hj2
  have hs1 : ∀ W : World, (Instr.slice 32 (.slice A l.length c) (some (.int .i64 ((p : Int) + 7))) (some (.int .i64 ((p : Int) + 7 + (m : Int)))) none).run Tryd.prog W = .ok (.slice (some ab) rest.length (c - (p + 7))) W := fun W => by
    have := run_between Tryd.underlying32 info_intP A l.length c (p + 7) (p + 7 + m) ((p : Int) + 7) ((p : Int) + 7 + (m : Int)) (by simp) (by simp) (by omega) (by omega) W
    rw [show p + 7 + m - (p + 7) = rest.length by omega, hab] at this
    exact this
  rw [hab] at hrow
  obtain ⟨S, hS⟩ : ∃ S, S = sumB rest := ⟨_, rfl⟩
  obtain ⟨y0, hy0⟩ : ∃ y, y = rest.getD 0 0 := ⟨_, rfl⟩
  obtain ⟨y1, hy1⟩ : ∃ y, y = rest.getD 1 0 := ⟨_, rfl⟩
  obtain ⟨y2, hy2⟩ : ∃ y, y = rest.getD 2 0 := ⟨_, rfl⟩
  obtain ⟨y8, hy8⟩ : ∃ y, y = rest.getD 8 0 := ⟨_, rfl⟩
  obtain ⟨y9, hy9⟩ : ∃ y, y = rest.getD 9 0 := ⟨_, rfl⟩
  obtain ⟨y10, hy10⟩ : ∃ y, y = rest.getD 10 0 := ⟨_, rfl⟩
  have hr0 : 0 ≤ y0 ∧ y0 ≤ 255 := by rw [hy0]; exact getD_byte hrb 0
  have hr1 : 0 ≤ y1 ∧ y1 ≤ 255 := by rw [hy1]; exact getD_byte hrb 1
  have hr2 : 0 ≤ y2 ∧ y2 ≤ 255 := by rw [hy2]; exact getD_byte hrb 2
  have hr8 : 0 ≤ y8 ∧ y8 ≤ 255 := by rw [hy8]; exact getD_byte hrb 8
  have hcb : rest.length ≤ c - (p + 7) ∧ c - (p + 7) ≤ 9223372036854775807 := ⟨hrow.1, hrow.2.1⟩
  obtain ⟨hcb1, hcb2⟩ := hcb
  rw [← ho, ← hrest] at hbase
  have n1 : (S != s) = false := by rw [hS, hs, hrest]; simp; exact hsum.symm
  rw [← hrest, ← hy0, ← hy9, ← hy10] at hhd
  obtain ⟨hh0, hh9, hh10⟩ := hhd
  have n2 : decide (3 < y0) = false := by simpa using hh0
  have n3 : (y9 != 0) = false := by simpa using hh9
  have n4 : (y10 != 0) = false := by simpa using hh10
  obtain ⟨k1, k2⟩ := and_two hr0.1 hh0
  obtain ⟨mk, hmk⟩ : ∃ mk, mk = decide (y0 / 2 = 1) := ⟨_, rfl⟩
  obtain ⟨sq, hsq⟩ : ∃ sq, sq = num2 rest 3 := ⟨_, rfl⟩
  obtain ⟨t, ht⟩ : ∃ t, t = num3 rest 5 := ⟨_, rfl⟩
  rw [← hmk] at k2
  have hsr : 0 ≤ sq ∧ sq ≤ 65535 := by rw [hsq]; exact num2_range hrb 3
  have htr : 0 ≤ t ∧ t ≤ 16777215 := by rw [ht]; exact num3_range hrb 5
  have HMK := Lib.hid hmk
  have HSQ := Lib.hid hsq.symm
  have HT := Lib.hid ht.symm
  rw [← ht] at hbase
  have HBV := Lib.hid hbase
  have hbor := hbase
  simp only [baseB, inB, Bool.and_eq_true, decide_eq_true_eq] at hbor
  have HBO := Lib.hid hbor.1
  have HBT := Lib.hid hbor.2
  clear hsum hh0 hh9 hh10 hmk hsq ht hbase
  rw [← hrest, ← hy0] at hpkd
  rw [hpkd] at k1
  have HPD := Lib.hid hpkd
  obtain ⟨nr, rfl⟩ := Int.eq_ofNat_of_zero_le hr8.1
  have hnr : nr ≤ 255 := by omega
  obtain ⟨rows, hbody⟩ : ∃ r, r = rest.drop 11 := ⟨_, rfl⟩
  have hbdl : rows.length = rest.length - 11 := by rw [hbody, List.length_drop]
  have hbdb : bytesB rows = true := by rw [hbody]; exact drop_bytes hrb 11
  obtain ⟨AR, hAR⟩ : ∃ x, x = cutAddr (some ab) 11 (c - (p + 7)) 1 := ⟨_, rfl⟩
  obtain ⟨cR, hcR⟩ : ∃ x, x = c - (p + 7) - 11 := ⟨_, rfl⟩
  have hrw : Ints w (fun b => F b ∧ b < w.heap.size) AR cR rows := by rw [hAR, hcR, hbody]; exact hrow.cut 11 (by omega)
  have hs2 : ∀ W : World, (Instr.slice 32 (.slice (some ab) rest.length (c - (p + 7))) (some (.int .i64 11)) none none).run Tryd.prog W = .ok (.slice AR rows.length cR) W := fun W => by
    have := run_cut Tryd.underlying32 info_intP (some ab) rest.length (c - (p + 7)) 11 11 rfl (by omega) W
    rw [hbdl, hAR, hcR]; exact this
  have HBD := Lib.hid hbody
  have HBDB := Lib.hid hbdb
  have hbm : rows.length ≤ 65535 := by omega
  have HROWS := Lib.hid (show rowsOf (restAt l p) = some rows by unfold rowsOf; rw [← hrest, ← hy0, if_neg (of_decide_eq_false HPD.out), ← hbody])
  clear hbor hbody hbdl hbdb hAR hcR hpkd
  have HR := Lib.hid hrest
  have HRL := Lib.hid hrl
  have HRB := Lib.hid hrb
  have HSS := Lib.hid hS
  have HY0 := Lib.hid hy0.symm
  have HY1 := Lib.hid hy1.symm
  have HY2 := Lib.hid hy2.symm
  have HY8 := Lib.hid hy8.symm
  have HY9 := Lib.hid hy9.symm
  have HY10 := Lib.hid hy10.symm
  have hrm : rest.length ≤ 65535 := by omega
  have hr11 : 11 ≤ rest.length := by omega
  have j0 : 0 < rest.length := by omega
  have j1 : (1 : Int) < (rest.length : Int) := by omega
  have j2 : (2 : Int) < (rest.length : Int) := by omega
  clear hrest hrl hrb hS hy0 hy1 hy2 hy8 hy9 hy10 hab
  clear ho hs hm0 hb
  go_enter Tryd.func22, Tryd.ntmps22
  go_wp2_with fail
  generalize hW : World.alloc _ _ = W0
  obtain ⟨hA0, b0, hz0⟩ := alloc1 hW
  clear hW
  refine (headAt_yes l A c _ p _ (hbd.below b0) HBY.out hn hp).mono ?_
  rintro e w1 ⟨rfl, hb1⟩
  rw [HO.out, HM.out, HS.out]
  have hA1 := blk_below hA0 hb1
  have b1 := bthen b0 hb1
  have hlt := blk_lt hA1
  clear hA0 b0 hb1 hz0
  go_wp2_with fail
  generalize hW : World.alloc _ _ = W2
  obtain ⟨hH2, b2, hz2⟩ := alloc1 hW
  clear hW
  have hA2 := blk_below hA1 b2
  have bb2 := bthen b1 b2
  obtain ⟨z0, z1, z2, zf⟩ := tri hH2
  have E2 := grow_cell z2
  have hcS : ∀ g, Calls Tryd.prog 38 #[.int .i64 1, .slice (some ab) rest.length (c - (p + 7))] (grow W2 g) fun e w'' => e = .returned (.int .i64 S) ∧ ∃ g', w'' = grow W2 g' := fun g => by
    rw [HSS.out]
    exact Calls.grow_same (over_any 1 rest _ _ _ _ ((hrow.below bb2).below (grow_below _ g)) (by omega) HRB.out (by omega))
  refine wp_region_grow_lit (by kernel_rfl) (by kernel_rfl) ?_
  repeat (go_big_quiet_step (with_reducible exact hcS _))
  refine wpQuiet_nil ?_
  rintro _ ⟨g, rfl⟩
  obtain ⟨W3, hW3⟩ : ∃ W3, W3 = grow W2 g := ⟨_, rfl⟩
  have b3 : Below W2.heap.size W2 W3 := by rw [hW3]; exact grow_below _ g
  rw [← hW3]
  clear hW3 hcS E2 z0 z1 z2 zf
  have hA3 := blk_below hA2 b3
  have hH3 := blk_below hH2 b3
  have HB3 := Lib.hid (bthen bb2 b3)
  have hrow3 := hrow.below HB3.out
  have hlt3 := blk_lt hA3
  have hlh3 := blk_lt hH3
  have q0 := ints_zero hrow3 (by omega)
  have q1 := ints_suc hrow3 0 (by omega)
  have q2 := ints_suc hrow3 1 (by omega)
  have q8 := ints_suc hrow3 7 (by omega)
  have q9 := ints_suc hrow3 8 (by omega)
  have q10 := ints_suc hrow3 9 (by omega)
  simp only [Nat.reduceAdd] at q0 q1 q2 q8 q9 q10
  rw [HY0.out] at q0
  rw [HY1.out] at q1
  rw [HY2.out] at q2
  rw [HY8.out] at q8
  rw [HY9.out] at q9
  rw [HY10.out] at q10
  have hlt0 : w.heap.size < w1.heap.size := hlt
  clear hA2 hH2 b2 b3 bb2 hz2 hA1 b1 hlt hs1
  go_wp2_with fail
  go_region_held3 (fun W => W.cell? ab = some (.int .i64 y0) ∧ W.cell? ⟨ab.block, ab.off + 1, none⟩ = some (.int .i64 y1) ∧ W.cell? ⟨ab.block, ab.off + 2, none⟩ = some (.int .i64 y2)) (go_keep) (fail)
  rename_i hHeld
  clear hHeld
  go_wp2_with fail
  generalize hW : World.alloc _ _ = W4d
  obtain ⟨hB4, b4, hz4⟩ := alloc1 hW
  clear hW
  obtain ⟨W4, hW4⟩ : ∃ W4, W4 = W4d.drew := ⟨_, rfl⟩
  have bd4 : Below W4d.heap.size W4d W4 := by rw [hW4]; exact ⟨rfl, rfl, rfl, Nat.le_refl _, fun _ _ => rfl⟩
  rw [← hW4]
  replace hB4 := blk_below hB4 bd4
  replace b4 := bthen b4 bd4
  clear hW4 bd4 hz4
  have b4 : Below W3.heap.size W3 W4 := b4
  have hB4 : W4.heap[W3.heap.size]? = some (.cells #[.bool false, .bool mk, .int .i64 y1, .int .i64 y2, .int .i64 0, .slice none 0 0] 28 (0, 0)) := hB4
  have hA4 := blk_below hA3 b4
  have hH4 := blk_below hH3 b4
  have hrow4 := hrow3.below b4
  have HB4 := Lib.hid (bthen HB3.out b4)
  have hlt4 := blk_lt hB4
  obtain ⟨u0, u1, u2, u3, u4, u5, uf⟩ := six hB4
  clear b4 hA3 hH3 hrow3 q0 q1 q2 q8 q9 q10 k1 k2
  refine (intAt2_at rest _ _ _ 3 3 _ hrow4 HRB.out (by omega) (by omega) rfl).mono ?_
  rintro e w' ⟨rfl, rfl⟩
  rw [HSQ.out]
  go_wp2_with fail
  generalize hX : World.setCell _ _ _ = X5
  have hB5 := blk_put hB4 4 (.int .i64 sq)
  have c5 := Chg.set (fun b => b = W3.heap.size) W4 (p := ⟨W3.heap.size, 4, none⟩) rfl (.int .i64 sq)
  rw [hX] at hB5 c5
  have hB5 : X5.heap[W3.heap.size]? = some (.cells #[.bool false, .bool mk, .int .i64 y1, .int .i64 y2, .int .i64 sq, .slice none 0 0] 28 (0, 0)) := by simpa using hB5
  have hA5 := c5.blk hA4 (by omega)
  have hH5 := c5.blk hH4 (by omega)
  have hg3 : w.heap.size < W3.heap.size := hlt3
  have HB5 := Lib.hid (HB4.out.trans (c5.below HB4.out.size (fun i hi => by omega)))
  have hrow5 := hrow.below HB5.out
  have hlt5 := blk_lt hB5
  have q8 := ints_suc hrow5 7 (by omega)
  simp only [Nat.reduceAdd] at q8
  rw [HY8.out] at q8
  clear hX c5 hB4 hA4 hH4 hrow4 u0 u1 u2 u3 u4 u5 uf hlt4
  obtain ⟨u0, u1, u2, u3, u4, u5, uf⟩ := six hB5
  obtain ⟨z0, z1, z2, zf⟩ := tri hH5
  refine (intAt3_at rest _ _ _ 5 5 _ hrow5 HRB.out (by omega) (by omega) rfl).mono ?_
  rintro e w' ⟨rfl, rfl⟩
  rw [HT.out]
  go_wp2_with fail
  refine (baseValid_any _ _ _).mono ?_
  rintro e w' ⟨rfl, rfl⟩
  rw [HBV.out]
  obtain ⟨AR2, hAR2⟩ : ∃ x, x = AR := ⟨_, rfl⟩
  obtain ⟨cR2, hcR2⟩ : ∃ x, x = cR := ⟨_, rfl⟩
  subst hAR2 hcR2
  have HRWB := HBDB
  have hrwm := hbm
  have hAl := hA5
  have hHl := hH5
  have hBl := hB5
  have HBW := HB5
  have hrwl : Ints X5 (fun b => b < X5.heap.size ∧ b ≠ W3.heap.size) AR2 cR2 rows := (hrw.below HB5.out).mono (fun b hb => ⟨by have := hb.2; omega, by have := hb.2; omega⟩)
  obtain ⟨hrw1, hrw2⟩ : rows.length ≤ cR2 ∧ cR2 ≤ 9223372036854775807 := ⟨hrwl.1, hrwl.2.1⟩
  clear hA5 hH5 hB5 hrow5
  go_wp2_with fail

  obtain ⟨Sz, hSz⟩ : ∃ n, n = X5.heap.size := ⟨_, rfl⟩
  have hgbS : W3.heap.size < Sz := by rw [hSz]; exact blk_lt hBl
  have hrwl := hrwl.mono (F' := fun b => b < Sz ∧ b ≠ W3.heap.size) (fun b hb => ⟨by have := hb.1; omega, hb.2⟩)
  have hghb : w1.heap.size < W3.heap.size := hlh3
  have hgrh : w.heap.size < w1.heap.size := hlt0
  have HX0 : AppX RX 46 X5 (fun g => Sz ≤ g) X5.heap.size (.slice none 0 0) [] := AppX.nil _ _ _ _
  have HX0h := Lib.hid HX0
  have HSZ := Lib.hid hSz
  have HRS0 := Lib.hid (show rdRows rows o t 0 = some ([], 0) from rfl)
  have HBl := Lib.hid hBl
  clear HX0 hSz hBl
  go_loopw [18, 143] (fun pl i wr => ∃ (k e : Nat) (rs : List Rec) (v : Value), k ≤ nr ∧ i = .int .i64 k ∧ pl = .int .i64 e ∧ Hid (rdRows rows o t k = some (rs, e)) ∧ wr.heap[W3.heap.size]? = some (.cells #[.bool false, .bool mk, .int .i64 y1, .int .i64 y2, .int .i64 sq, v] 28 (0, 0)) ∧ (∃ B, AppX RX 46 wr (fun g => Sz ≤ g) B v rs) ∧ Hid (Chg (fun g => g = W3.heap.size ∨ Sz ≤ g) X5 wr)) (fun _ i _ => nr - (intOf i).toNat)
  case atStart => exact ⟨0, 0, [], .slice none 0 0, Nat.zero_le _, rfl, rfl, HRS0, HBl.out, ⟨_, HX0h.out⟩, Lib.hid (Chg.refl _ _)⟩
  case round =>
    obtain ⟨k, e, rs, v, hk, rfl, rfl, HRS, hBw, ⟨B, HX⟩, HC⟩ := hrel
    clear HX0h HRS0
    have hSw : Sz ≤ wr.heap.size := by have := HC.out.size; rw [← HSZ.out] at this; exact this
    have hAw := HC.out.blk hAl (by omega)
    have hHw := HC.out.blk hHl (by omega)
    obtain ⟨Av, cv, rfl, hlv, hcv⟩ := HX.toP.slice_
    obtain ⟨u0, u1, u2, u3, u4, u5, uf⟩ := six hBw
    obtain ⟨z0, z1, z2, zf⟩ := tri hHw
    have hrww := hrwl.keep (HC.out.same (fun i _ (h1 : i < Sz ∧ i ≠ W3.heap.size) h2 => by omega))
    have hgbw : W3.heap.size < wr.heap.size := blk_lt hBw
    have hBw' : Below w.heap.size w wr := HBW.out.trans (HC.out.below HBW.out.size (fun i hi => by omega))
    have HBw := Lib.hid hBw'
    have hge := HX.ge
    have HXB := Lib.hid HX.1
    have hrsl : rs.length = k := rdRows_len HRS.out
    clear hBw'
    by_cases hkn : k < nr
    · have hel := (rdRows_ok HRWB.out HRS.out).2
      have hrl2 : rs.length ≤ 255 := by omega
      have HXh := Lib.hid HX
      clear HX hrsl
      cases hq : rdRec rows e o t with
      | none =>
        have HQ := Lib.hid (show rdBat l p = none from none_recs HROWS.out (by
          rw [HO.out, ← HR.out, HT.out, HY8.out]
          exact rdRows_later (rdRows_stop HRS.out hq) (by simp; omega)))
        have HQ2 := Lib.hid hq
        clear hq
        go_wp2_with fail
        refine (recordAt_none rows AR2 cR2 _ e o t _ hrww HRWB.out (by omega) HBO.out HBT.out HQ2.out).mono ?_
        rintro ee w6 ⟨Ak, ck, Av2, cv2, rfl, hb6⟩
        have HB6 := Lib.hid (bthen HBw.out hb6)
        have hA6 := blk_below hAw hb6
        obtain ⟨x0, x1, x2, x3, x4, x5, xf⟩ := six hA6
        have hltA := blk_lt hA6
        clear hb6
        go_wp2
        refine bodyPost_ret (v := .tuple #[BZ, .int .i64 0, .iface 57 (.pointer (some ⟨w6.heap.size + 1, 0, none⟩))]) (by simp [results, Tryd.results22, go_sem, x0, x1, x2, x3, x4, x5, hltA]) rfl (.inl ⟨HQ.out, NoBat.mk ⟨_, rfl⟩ ?_⟩)
        exact bthen (bthen (HB6.out.trans (zeroB.below HB6.out.size (fun i hi => by omega))) (bal _ _)) (bal _ _)
      | some x =>
        obtain ⟨r, e2⟩ := x
        have HQ2 := Lib.hid hq
        have HRN := Lib.hid (rdRows_step HRS.out hq)
        clear hq
        go_wp2_with fail
        refine (recordAt_some rows AR2 cR2 _ e o t _ hrww HRWB.out (by omega) HBO.out HBT.out HQ2.out).mono ?_
        rintro ee w6 ⟨Ak, ck, Av2, cv2, rfl, hCp⟩
        have hb6 := hCp.below
        have b7 := bthen hb6 (bal w6 (.cells #[.int .i64 r.off, .int .i64 r.time, .bool r.hk, .slice Ak r.key.length ck, .bool r.hv, .slice Av2 r.val.length cv2] 46))
        have HX7 := Lib.hid (HXh.out.below b7)
        have XK7 := Lib.hid (XKind.below hCp.x (bal w6 (.cells #[.int .i64 r.off, .int .i64 r.time, .bool r.hk, .slice Ak r.key.length ck, .bool r.hv, .slice Av2 r.val.length cv2] 46)))
        have hB6 := blk_below hBw hb6
        have hz7 : (w6.alloc (.cells #[.int .i64 r.off, .int .i64 r.time, .bool r.hk, .slice Ak r.key.length ck, .bool r.hv, .slice Av2 r.val.length cv2] 46)).heap.size = w6.heap.size + 1 := by simp
        have HB7 := Lib.hid (blk_below hBw b7)
        have C7 := Lib.hid (HC.out.trans (Chg.of_below (F := fun g => g = W3.heap.size ∨ Sz ≤ g) b7))
        have hz6 := Lib.hid (show wr.heap.size ≤ w6.heap.size from hb6.size)
        have hgb6 := blk_lt hB6
        clear u0 u1 u2 u3 u4 u5 uf z0 z1 z2 zf hb6 b7 hCp hrww
        obtain ⟨u0, u1, u2, u3, u4, u5, uf⟩ := six hB6
        go_wp2_with (at_builtin; go_loud (refine wpList_appX RX HX7.out rfl _ _ 26 (.agg #[.int .i64 0, .int .i64 0, .bool false, .slice none 0 0, .bool false, .slice none 0 0]) 80 rfl Tryd.underlying26 (by kernel_rfl) rfl (by decide) r _ _ rfl (by rw [hz7]; rfl) XK7.out (fun b hb => ⟨by have := hb.1; omega, by have := hb.1; have := HXB.out; omega⟩) (by simp [Value.oneCell']) (fun b hb => by have := hz6.out; simp at hb; omega) (by omega) (by omega) ?_))
        intro v1 w8 HA8 hc8 _
        obtain ⟨rs2, hrs2⟩ : ∃ x, x = rs ++ [r] := ⟨_, rfl⟩
        have hrn := HRN.out
        rw [← hrs2] at HA8 hrn
        have HRN2 := Lib.hid hrn
        clear hrs2 hrn HRN
        obtain ⟨A8, c8, rfl, _⟩ := HA8.row
        have hne8 : ¬ (Value.slice Av rs.length cv).ownBlock = some W3.heap.size := fun e => by have := (hge _ e).1; omega
        have hB8 := hc8.blk HB7.out hne8
        have c9 := Chg.set (fun g => g = W3.heap.size) w8 (p := ⟨W3.heap.size, 5, none⟩) rfl (.slice A8 rs2.length c8)
        have hB9 := blk_put hB8 5 (.slice A8 rs2.length c8)
        have HB9 := Lib.hid (show (w8.setCell ⟨W3.heap.size, 5, none⟩ (.slice A8 rs2.length c8)).heap[W3.heap.size]? = some (.cells #[.bool false, .bool mk, .int .i64 y1, .int .i64 y2, .int .i64 sq, .slice A8 rs2.length c8] 28 (0, 0)) by simpa using hB9)
        have HA9 := Lib.hid (HA8.chg c9 (fun b _ h1 h2 => by omega))
        have HC9 := Lib.hid ((C7.out.trans (hc8.mono (fun i _ hi => .inr (hge i hi).1))).trans (c9.mono (fun i _ hi => .inl hi)))
        clear u0 u1 u2 u3 u4 u5 uf hB6 hB9 c9 HA8 hc8 hne8 HX7 XK7 C7
        obtain ⟨u0, u1, u2, u3, u4, u5, uf⟩ := six hB8
        go_wp2
        go_roundw
        case rel => exact ⟨k + 1, e2, rs2, .slice A8 rs2.length c8, by omega, by go_num, rfl, HRN2, HB9.out, ⟨_, HA9.out⟩, HC9⟩
        case measure => simp [intOf]; omega
    · have hkn2 : k = nr := by omega
      obtain ⟨bb, hbb⟩ : ∃ b : Bat, b = ⟨false, mk, y1, y2, sq, rs⟩ := ⟨_, rfl⟩
      have hbo : batOf (restAt l p) rs = bb := by
        rw [hbb, ← HR.out]
        unfold batOf
        rw [HSQ.out, HY0.out, HY1.out, HY2.out, HPD.out, ← HMK.out]
      have hrsn := HRS.out
      rw [hkn2] at hrsn
      have hrsn : rdRows rows (num3 l p) (num3 (restAt l p) 5) ((restAt l p).getD 8 0).toNat = some (rs, e) := by
        rw [HO.out, ← HR.out, HT.out, HY8.out]; simpa using hrsn
      obtain ⟨_, _, ev, hxr⟩ := HX.row
      injection ev with ev1 ev2 ev3
      subst ev1 ev3
      clear ev2 hrsl
      have HXR := Lib.hid hxr
      have hRc : ∀ W, Below wr.heap.size wr W → Recs W (fun _ => True) Av cv rs := fun W hW => (hxr.toK.mono (fun _ _ => trivial)).below hW
      cases hv : batB bb with
      | false =>
        have HQ := Lib.hid (show rdBat l p = none from none_valid HROWS.out hrsn (by rw [hbo]; exact hv))
        have hv2 : batB ⟨false, mk, y1, y2, sq, rs⟩ = false := by rw [← hbb]; exact hv
        have HCV := Lib.hid (fun W (hW : Below wr.heap.size wr W) => valid_lit false mk y1 y2 sq rs Av cv _ W (hRc W hW) hv2)
        clear hRc hv hv2 hbo hbb hrsn hxr HX
        go_wp2_with fail
        clear h hn hp hl hc hbd hm1 hor h11 hpm d1 d2 hrow hr0 hr1 hr2 hcb1 hcb2 n1 n2 n3 n4 hsr htr hr8 hnr hrm hr11 j0 j1 j2 hlt3 hlh3 hlt0 hg3 hlt5 hrw hrwm hAl hHl hrwl hrw1 hrw2 hk hlv hcv hge hkn hkn2 hrww hHw z0 z1 z2 zf hs2 q8
        have E0 := grow_cell u0
        have E1 := grow_cell u1
        have E2 := grow_cell u2
        have E3 := grow_cell u3
        have E4 := grow_cell u4
        have E5 := grow_cell u5
        have hcV := fun g => Calls.grow_of (HCV.out (grow wr g) (grow_below _ g))
        clear u0 u1 u2 u3 u4 u5
        refine wp_region_grow_lit (by kernel_rfl) (by kernel_rfl) ?_
        repeat (go_big_quiet_step (with_reducible exact hcV _))
        refine wpQuiet_nil ?_
        rintro _ ⟨g, rfl⟩
        obtain ⟨w7, hw7⟩ : ∃ x, x = grow wr g := ⟨_, rfl⟩
        have hb7 : Below wr.heap.size wr w7 := by rw [hw7]; exact grow_below _ g
        rw [← hw7]
        clear hw7 hcV E0 E1 E2 E3 E4 E5
        all_goals
          have HB6 := Lib.hid (bthen HBw.out hb7)
          have hA6 := blk_below hAw hb7
          clear hb7
          obtain ⟨x0, x1, x2, x3, x4, x5, xf⟩ := six hA6
          have hltA := blk_lt hA6
          go_wp2
          refine bodyPost_ret (v := .tuple #[BZ, .int .i64 0, .iface 57 (.pointer (some ⟨w7.heap.size, 0, none⟩))]) (by simp [results, Tryd.results22, go_sem, x0, x1, x2, x3, x4, x5, hltA]) rfl (.inl ⟨HQ.out, NoBat.mk ⟨_, rfl⟩ ?_⟩)
          exact bthen (HB6.out.trans (zeroB.below HB6.out.size (fun i hi => by omega))) (bal _ _)
      | true =>
        have hsl := (batB_parts hv).2.1
        obtain ⟨xs, hxs⟩ : ∃ xs, xs = batBytes bb := ⟨_, rfl⟩
        have hv2 : batB ⟨false, mk, y1, y2, sq, rs⟩ = true := by rw [← hbb]; exact hv
        have HCV := Lib.hid (fun W (hW : Below wr.heap.size wr W) => valid_lit false mk y1 y2 sq rs Av cv _ W (hRc W hW) hv2)
        have HCO := Lib.hid (fun W (hW : Below wr.heap.size wr W) => bytes_lit false mk y1 y2 sq rs Av cv _ W (hRc W hW) hv2 (xs := xs) (by rw [hxs, hbb]))
        clear hv2
        obtain ⟨reg, hreg⟩ : ∃ r, r = regAt l p := ⟨_, rfl⟩
        have hregl : reg.length = 7 + m := by rw [hreg, regAt_len (by rw [HM.out]; exact hpm), HM.out]; rfl
        have hrrow : Ints w (fun b => F b ∧ b < w.heap.size) (cutAddr A p c 1) (c - p) reg := by rw [hreg]; unfold regAt; exact (hbd.cut p (by omega)).take _
        have hs3 : ∀ W : World, (Instr.slice 32 (.slice A l.length c) (some (.int .i64 (p : Int))) (some (.int .i64 ((p : Int) + 7 + (m : Int)))) none).run Tryd.prog W = .ok (.slice (cutAddr A p c 1) reg.length (c - p)) W := fun W => by
          have := run_between Tryd.underlying32 info_intP A l.length c p (p + 7 + m) (p : Int) ((p : Int) + 7 + (m : Int)) rfl (by simp) (by omega) (by omega) W
          rw [show p + 7 + m - p = reg.length by omega] at this
          exact this
        obtain ⟨AP, hAP⟩ : ∃ x, x = cutAddr A p c 1 := ⟨_, rfl⟩
        rw [← hAP] at hs3 hrrow
        by_cases heq : xs = reg
        · have hpm2 : p + 7 + (num2 l (p + 3)).toNat ≤ l.length := by rw [HM.out]; exact hpm
          obtain ⟨hsm, hend⟩ := some_last hv hpm2 (by rw [← hreg, ← hxs, heq])
          rw [HM.out] at hend
          have HQ := Lib.hid hsm
          have HEND := Lib.hid (show ((p + (batBytes bb).length : Nat) : Int) = (p : Int) + 7 + (m : Int) by rw [← hend]; simp)
          have HCE := Lib.hid (fun W Ax cx (hW : Below wr.heap.size wr W) (hi : Ints W (fun _ => True) Ax cx xs) => equal_lit xs reg Ax AP cx (c - p) _ _ W hi (hrrow.below (bthen HBw.out hW)) (decide_eq_true heq))
          have HBBD := Lib.hid hbb
          clear hRc hv hbo hrsn hxr HX hxs hreg hregl hAP hrrow heq hsm hend hpm2 hbb
          go_wp2_with fail
          clear h hn hp hl hc hbd hm1 hor h11 hpm d1 d2 hrow hr0 hr1 hr2 hcb1 hcb2 n1 n2 n3 n4 hsr htr hr8 hnr hrm hr11 j0 j1 j2 hlt3 hlh3 hlt0 hg3 hlt5 hrw hrwm hAl hHl hrwl hrw1 hrw2 hk hlv hcv hge hkn hkn2 hrww hHw z0 z1 z2 zf hs2 q8
          go_region_held3 (fun W => W.cell? ⟨W3.heap.size, 0, none⟩ = some (.bool false) ∧ W.cell? ⟨W3.heap.size, 1, none⟩ = some (.bool mk) ∧ W.cell? ⟨W3.heap.size, 2, none⟩ = some (.int .i64 y1) ∧ W.cell? ⟨W3.heap.size, 3, none⟩ = some (.int .i64 y2) ∧ W.cell? ⟨W3.heap.size, 4, none⟩ = some (.int .i64 sq) ∧ W.cell? ⟨W3.heap.size, 5, none⟩ = some (.slice Av rs.length cv))
            (first | (exact ⟨below_cell B9 u0, below_cell B9 u1, below_cell B9 u2, below_cell B9 u3, below_cell B9 u4, below_cell B9 u5⟩) | (exact ⟨below_cell B8 u0, below_cell B8 u1, below_cell B8 u2, below_cell B8 u3, below_cell B8 u4, below_cell B8 u5⟩) | (exact ⟨below_cell B7 u0, below_cell B7 u1, below_cell B7 u2, below_cell B7 u3, below_cell B7 u4, below_cell B7 u5⟩) | go_keep)
            (first
              | (go_at_call 15; (with_reducible refine (HCV.out _ (by first | exact Below.refl _ _ | exact (Below.refl _ _).drew)).mono ?_); rintro ee w7 ⟨rfl, hb7⟩; have B7 : Below wr.heap.size wr w7 := by first | exact hb7 | exact bthen (Below.refl _ _).drew hb7)
              | (go_at_call 20; (with_reducible refine (HCO.out _ (by first | exact B7 | exact B7.drew)).mono ?_); rintro ee w8 ⟨vo, rfl, HO8, hb8⟩; obtain ⟨Ax, cx, rfl, hrx⟩ := AppP.row HO8; have B8 : Below wr.heap.size wr w8 := by first | exact bthen B7 hb8 | exact bthen B7.drew hb8)
              | (go_at_call 45; (with_reducible refine (HCE.out _ _ _ (by first | exact B8 | exact B8.drew) (hrx.mono (fun _ _ => trivial))).mono ?_); rintro ee w9 ⟨rfl, hb9⟩; have B9 : Below wr.heap.size wr w9 := by first | exact bthen B8 hb9 | exact bthen B8.drew hb9))
          all_goals
            have b9 := B9
            have HB6 := Lib.hid (bthen HBw.out b9)
            have hA6 := blk_below hAw b9
            have hB6 := blk_below hBw b9
            have HX6 := Lib.hid (HXR.out.bound.below b9)
            have hs9 := Lib.hid (b9.size)
            clear hb7 hb8 hb9 b9 B7 B8 B9 HO8 hrx u0 u1 u2 u3 u4 u5 uf
            obtain ⟨x0, x1, x2, x3, x4, x5, xf⟩ := six hA6
            obtain ⟨u0, u1, u2, u3, u4, u5, uf⟩ := six hB6
            go_wp2
            have cZ := Chg.setCells (fun b => b = w.heap.size) (g := w.heap.size) rfl [.bool false, .bool mk, .int .i64 y1, .int .i64 y2, .int .i64 sq, .slice Av rs.length cv] 0 w9
            refine bodyPost_ret (v := .tuple #[.agg #[.bool false, .bool mk, .int .i64 y1, .int .i64 y2, .int .i64 sq, .slice Av rs.length cv], .int .i64 ((p : Int) + 7 + (m : Int)), .nilIface]) (by simp [results, Tryd.results22, go_sem, x0, x1, x2, x3, x4, x5]) rfl (.inr ⟨bb, HQ.out, ?_⟩)
            have hbb := HBBD.out
            subst hbb
            refine YesBat.mk HEND.out.symm ((HX6.out.keep (cZ.same (fun i _ h1 h2 => by have := h1.1; omega)) cZ.size).mono (fun i hi => by have := hi.1; omega)) ?_
            exact HB6.out.trans (cZ.below HB6.out.size (fun i hi => by omega))
        · have HQ := Lib.hid (show rdBat l p = none from none_other HROWS.out hrsn (by rw [hbo, ← hreg, ← hxs]; exact fun e => heq e.symm))
          have HCE := Lib.hid (fun W Ax cx (hW : Below wr.heap.size wr W) (hi : Ints W (fun _ => True) Ax cx xs) => equal_lit xs reg Ax AP cx (c - p) _ _ W hi (hrrow.below (bthen HBw.out hW)) (decide_eq_false heq))
          clear hRc hv hbo hbb hrsn hxr HX hxs hreg hregl hAP hrrow heq
          go_wp2_with fail
          clear h hn hp hl hc hbd hm1 hor h11 hpm d1 d2 hrow hr0 hr1 hr2 hcb1 hcb2 n1 n2 n3 n4 hsr htr hr8 hnr hrm hr11 j0 j1 j2 hlt3 hlh3 hlt0 hg3 hlt5 hrw hrwm hAl hHl hrwl hrw1 hrw2 hk hlv hcv hge hkn hkn2 hrww hHw z0 z1 z2 zf hs2 q8
          go_region_held3 (fun W => W.cell? ⟨W3.heap.size, 0, none⟩ = some (.bool false) ∧ W.cell? ⟨W3.heap.size, 1, none⟩ = some (.bool mk) ∧ W.cell? ⟨W3.heap.size, 2, none⟩ = some (.int .i64 y1) ∧ W.cell? ⟨W3.heap.size, 3, none⟩ = some (.int .i64 y2) ∧ W.cell? ⟨W3.heap.size, 4, none⟩ = some (.int .i64 sq) ∧ W.cell? ⟨W3.heap.size, 5, none⟩ = some (.slice Av rs.length cv))
            (first | (exact ⟨below_cell B9 u0, below_cell B9 u1, below_cell B9 u2, below_cell B9 u3, below_cell B9 u4, below_cell B9 u5⟩) | (exact ⟨below_cell B8 u0, below_cell B8 u1, below_cell B8 u2, below_cell B8 u3, below_cell B8 u4, below_cell B8 u5⟩) | (exact ⟨below_cell B7 u0, below_cell B7 u1, below_cell B7 u2, below_cell B7 u3, below_cell B7 u4, below_cell B7 u5⟩) | go_keep)
            (first
              | (go_at_call 15; (with_reducible refine (HCV.out _ (by first | exact Below.refl _ _ | exact (Below.refl _ _).drew)).mono ?_); rintro ee w7 ⟨rfl, hb7⟩; have B7 : Below wr.heap.size wr w7 := by first | exact hb7 | exact bthen (Below.refl _ _).drew hb7)
              | (go_at_call 20; (with_reducible refine (HCO.out _ (by first | exact B7 | exact B7.drew)).mono ?_); rintro ee w8 ⟨vo, rfl, HO8, hb8⟩; obtain ⟨Ax, cx, rfl, hrx⟩ := AppP.row HO8; have B8 : Below wr.heap.size wr w8 := by first | exact bthen B7 hb8 | exact bthen B7.drew hb8)
              | (go_at_call 45; (with_reducible refine (HCE.out _ _ _ (by first | exact B8 | exact B8.drew) (hrx.mono (fun _ _ => trivial))).mono ?_); rintro ee w9 ⟨rfl, hb9⟩; have B9 : Below wr.heap.size wr w9 := by first | exact bthen B8 hb9 | exact bthen B8.drew hb9))
          all_goals
            have b9 := B9
            have HB6 := Lib.hid (bthen HBw.out b9)
            have hA6 := blk_below hAw b9
            clear hb7 hb8 hb9 b9 B7 B8 B9 HO8 hrx
            obtain ⟨x0, x1, x2, x3, x4, x5, xf⟩ := six hA6
            have hltA := blk_lt hA6
            go_wp2
            refine bodyPost_ret (v := .tuple #[BZ, .int .i64 0, .iface 57 (.pointer (some ⟨w9.heap.size, 0, none⟩))]) (by simp [results, Tryd.results22, go_sem, x0, x1, x2, x3, x4, x5, hltA]) rfl (.inl ⟨HQ.out, NoBat.mk ⟨_, rfl⟩ ?_⟩)
            exact bthen (HB6.out.trans (zeroB.below HB6.out.size (fun i hi => by omega))) (bal _ _)
set_option maxRecDepth 100000 in
set_option maxHeartbeats 4000000 in
theorem batchAt_packed (l : List Int) (A : Option Addr) (c : Nat) (F : Nat → Prop) (p : Nat) (w : World)(h : Ints w F A c l) (hb : bytesB l = true) (hn : l.length ≤ 4194304) (hp : p + 18 ≤ l.length) (hsz : 11 ≤ (num2 l (p + 3)).toNat ∧ p + 7 + (num2 l (p + 3)).toNat ≤ l.length) (hsum : num2 l (p + 5) = sumB (restAt l p)) (hhd : (restAt l p).getD 0 0 ≤ 3 ∧ (restAt l p).getD 9 0 = 0 ∧ (restAt l p).getD 10 0 = 0) (hpkd : decide ((restAt l p).getD 0 0 % 2 = 1) = true) (hbase : baseB (num3 l p) (num3 (restAt l p) 5) = true) (rows : List Int) (hun : unp ((restAt l p).drop 11) [] = some rows) :
    Calls Tryd.prog 22 #[.slice A l.length c, .int .i64 (p : Int)] w (BatRes l p w) := by
  have hl := h.1
  have hc := h.2.1
  have hbd := h.bound (bnd_int .i64)
  obtain ⟨m, hm0⟩ := Int.eq_ofNat_of_zero_le (num2_range hb (p + 3)).1
  have hm1 : m ≤ 65535 := by have := (num2_range hb (p + 3)).2; omega
  obtain ⟨o, ho⟩ : ∃ o, o = num3 l p := ⟨_, rfl⟩
  obtain ⟨s, hs⟩ : ∃ s, s = num2 l (p + 5) := ⟨_, rfl⟩
  have hor : 0 ≤ o ∧ o ≤ 16777215 := by have := num3_range hb p; omega
  have HO := Lib.hid ho.symm
  have HM := Lib.hid hm0
  have HS := Lib.hid hs.symm
  have HBY := Lib.hid hb
  rw [hm0] at hsz
  obtain ⟨h11, hpm⟩ : 11 ≤ m ∧ p + 7 + m ≤ l.length := hsz
  have d1 : decide ((m : Int) < 11) = false := by simp; omega
  have d2 : decide ((l.length : Int) - ((p : Int) + 7) < (m : Int)) = false := by simp; omega
  obtain ⟨rest, hrest⟩ : ∃ r, r = restAt l p := ⟨_, rfl⟩
  have hrl : rest.length = m := by rw [hrest, restAt_len (by rw [hm0]; exact hpm), hm0]; rfl
  have hrb : bytesB rest = true := by rw [hrest]; exact restAt_bytes hb
  have hrow : Ints w (fun b => F b ∧ b < w.heap.size) (cutAddr A (p + 7) c 1) (c - (p + 7)) rest := by rw [hrest]; unfold restAt; exact (hbd.cut (p + 7) (by omega)).take _
  obtain ⟨ab, hab, hj1, hj2⟩ := hrow.int_at (show 0 < rest.length by omega)
  clear hj1 hj2
  have hs1 : ∀ W : World, (Instr.slice 32 (.slice A l.length c) (some (.int .i64 ((p : Int) + 7))) (some (.int .i64 ((p : Int) + 7 + (m : Int)))) none).run Tryd.prog W = .ok (.slice (some ab) rest.length (c - (p + 7))) W := fun W => by
    have := run_between Tryd.underlying32 info_intP A l.length c (p + 7) (p + 7 + m) ((p : Int) + 7) ((p : Int) + 7 + (m : Int)) (by simp) (by simp) (by omega) (by omega) W
    rw [show p + 7 + m - (p + 7) = rest.length by omega, hab] at this
    exact this
  rw [hab] at hrow
  obtain ⟨S, hS⟩ : ∃ S, S = sumB rest := ⟨_, rfl⟩
  obtain ⟨y0, hy0⟩ : ∃ y, y = rest.getD 0 0 := ⟨_, rfl⟩
  obtain ⟨y1, hy1⟩ : ∃ y, y = rest.getD 1 0 := ⟨_, rfl⟩
  obtain ⟨y2, hy2⟩ : ∃ y, y = rest.getD 2 0 := ⟨_, rfl⟩
  obtain ⟨y8, hy8⟩ : ∃ y, y = rest.getD 8 0 := ⟨_, rfl⟩
  obtain ⟨y9, hy9⟩ : ∃ y, y = rest.getD 9 0 := ⟨_, rfl⟩
  obtain ⟨y10, hy10⟩ : ∃ y, y = rest.getD 10 0 := ⟨_, rfl⟩
  have hr0 : 0 ≤ y0 ∧ y0 ≤ 255 := by rw [hy0]; exact getD_byte hrb 0
  have hr1 : 0 ≤ y1 ∧ y1 ≤ 255 := by rw [hy1]; exact getD_byte hrb 1
  have hr2 : 0 ≤ y2 ∧ y2 ≤ 255 := by rw [hy2]; exact getD_byte hrb 2
  have hr8 : 0 ≤ y8 ∧ y8 ≤ 255 := by rw [hy8]; exact getD_byte hrb 8
  have hcb : rest.length ≤ c - (p + 7) ∧ c - (p + 7) ≤ 9223372036854775807 := ⟨hrow.1, hrow.2.1⟩
  obtain ⟨hcb1, hcb2⟩ := hcb
  rw [← ho, ← hrest] at hbase
  have hrws := hun
  rw [← hrest] at hun
  have n1 : (S != s) = false := by rw [hS, hs, hrest]; simp; exact hsum.symm
  rw [← hrest, ← hy0, ← hy9, ← hy10] at hhd
  obtain ⟨hh0, hh9, hh10⟩ := hhd
  have n2 : decide (3 < y0) = false := by simpa using hh0
  have n3 : (y9 != 0) = false := by simpa using hh9
  have n4 : (y10 != 0) = false := by simpa using hh10
  obtain ⟨k1, k2⟩ := and_two hr0.1 hh0
  obtain ⟨mk, hmk⟩ : ∃ mk, mk = decide (y0 / 2 = 1) := ⟨_, rfl⟩
  obtain ⟨sq, hsq⟩ : ∃ sq, sq = num2 rest 3 := ⟨_, rfl⟩
  obtain ⟨t, ht⟩ : ∃ t, t = num3 rest 5 := ⟨_, rfl⟩
  rw [← hmk] at k2
  have hsr : 0 ≤ sq ∧ sq ≤ 65535 := by rw [hsq]; exact num2_range hrb 3
  have htr : 0 ≤ t ∧ t ≤ 16777215 := by rw [ht]; exact num3_range hrb 5
  have HMK := Lib.hid hmk
  have HSQ := Lib.hid hsq.symm
  have HT := Lib.hid ht.symm
  rw [← ht] at hbase
  have HBV := Lib.hid hbase
  have hbor := hbase
  simp only [baseB, inB, Bool.and_eq_true, decide_eq_true_eq] at hbor
  have HBO := Lib.hid hbor.1
  have HBT := Lib.hid hbor.2
  clear hsum hh0 hh9 hh10 hmk hsq ht hbase
  rw [← hrest, ← hy0] at hpkd
  rw [hpkd] at k1
  have HPD := Lib.hid hpkd
  obtain ⟨nr, rfl⟩ := Int.eq_ofNat_of_zero_le hr8.1
  have hnr : nr ≤ 255 := by omega
  obtain ⟨body, hbody⟩ : ∃ r, r = rest.drop 11 := ⟨_, rfl⟩
  have hbdl : body.length = rest.length - 11 := by rw [hbody, List.length_drop]
  have hbdb : bytesB body = true := by rw [hbody]; exact drop_bytes hrb 11
  obtain ⟨AR, hAR⟩ : ∃ x, x = cutAddr (some ab) 11 (c - (p + 7)) 1 := ⟨_, rfl⟩
  obtain ⟨cR, hcR⟩ : ∃ x, x = c - (p + 7) - 11 := ⟨_, rfl⟩
  have hrw : Ints w (fun b => F b ∧ b < w.heap.size) AR cR body := by rw [hAR, hcR, hbody]; exact hrow.cut 11 (by omega)
  have hs2 : ∀ W : World, (Instr.slice 32 (.slice (some ab) rest.length (c - (p + 7))) (some (.int .i64 11)) none none).run Tryd.prog W = .ok (.slice AR body.length cR) W := fun W => by
    have := run_cut Tryd.underlying32 info_intP (some ab) rest.length (c - (p + 7)) 11 11 rfl (by omega) W
    rw [hbdl, hAR, hcR]; exact this
  have HBD := Lib.hid hbody
  have HBDB := Lib.hid hbdb
  have hbm : body.length ≤ 65535 := by omega
  rw [← hbody] at hun
  have HROWS := Lib.hid (show rowsOf (restAt l p) = some rows by unfold rowsOf; rw [← hrest, ← hy0, if_pos (of_decide_eq_true HPD.out), ← hbody]; exact hun)
  have HUN := Lib.hid hun
  clear hun hrws hbor hbody hbdl hbdb hAR hcR hpkd
  have HR := Lib.hid hrest
  have HRL := Lib.hid hrl
  have HRB := Lib.hid hrb
  have HSS := Lib.hid hS
  have HY0 := Lib.hid hy0.symm
  have HY1 := Lib.hid hy1.symm
  have HY2 := Lib.hid hy2.symm
  have HY8 := Lib.hid hy8.symm
  have HY9 := Lib.hid hy9.symm
  have HY10 := Lib.hid hy10.symm
  have hrm : rest.length ≤ 65535 := by omega
  have hr11 : 11 ≤ rest.length := by omega
  have j0 : 0 < rest.length := by omega
  have j1 : (1 : Int) < (rest.length : Int) := by omega
  have j2 : (2 : Int) < (rest.length : Int) := by omega
  clear hrest hrl hrb hS hy0 hy1 hy2 hy8 hy9 hy10 hab
  clear ho hs hm0 hb
  go_enter Tryd.func22, Tryd.ntmps22
  go_wp2_with fail
  generalize hW : World.alloc _ _ = W0
  obtain ⟨hA0, b0, hz0⟩ := alloc1 hW
  clear hW
  refine (headAt_yes l A c _ p _ (hbd.below b0) HBY.out hn hp).mono ?_
  rintro e w1 ⟨rfl, hb1⟩
  rw [HO.out, HM.out, HS.out]
  have hA1 := blk_below hA0 hb1
  have b1 := bthen b0 hb1
  have hlt := blk_lt hA1
  clear hA0 b0 hb1 hz0
  go_wp2_with fail
  generalize hW : World.alloc _ _ = W2
  obtain ⟨hH2, b2, hz2⟩ := alloc1 hW
  clear hW
  have hA2 := blk_below hA1 b2
  have bb2 := bthen b1 b2
  obtain ⟨z0, z1, z2, zf⟩ := tri hH2
  have E2 := grow_cell z2
  have hcS : ∀ g, Calls Tryd.prog 38 #[.int .i64 1, .slice (some ab) rest.length (c - (p + 7))] (grow W2 g) fun e w'' => e = .returned (.int .i64 S) ∧ ∃ g', w'' = grow W2 g' := fun g => by
    rw [HSS.out]
    exact Calls.grow_same (over_any 1 rest _ _ _ _ ((hrow.below bb2).below (grow_below _ g)) (by omega) HRB.out (by omega))
  refine wp_region_grow_lit (by kernel_rfl) (by kernel_rfl) ?_
  repeat (go_big_quiet_step (with_reducible exact hcS _))
  refine wpQuiet_nil ?_
  rintro _ ⟨g, rfl⟩
  obtain ⟨W3, hW3⟩ : ∃ W3, W3 = grow W2 g := ⟨_, rfl⟩
  have b3 : Below W2.heap.size W2 W3 := by rw [hW3]; exact grow_below _ g
  rw [← hW3]
  clear hW3 hcS E2 z0 z1 z2 zf
  have hA3 := blk_below hA2 b3
  have hH3 := blk_below hH2 b3
  have HB3 := Lib.hid (bthen bb2 b3)
  have hrow3 := hrow.below HB3.out
  have hlt3 := blk_lt hA3
  have hlh3 := blk_lt hH3
  have q0 := ints_zero hrow3 (by omega)
  have q1 := ints_suc hrow3 0 (by omega)
  have q2 := ints_suc hrow3 1 (by omega)
  have q8 := ints_suc hrow3 7 (by omega)
  have q9 := ints_suc hrow3 8 (by omega)
  have q10 := ints_suc hrow3 9 (by omega)
  simp only [Nat.reduceAdd] at q0 q1 q2 q8 q9 q10
  rw [HY0.out] at q0
  rw [HY1.out] at q1
  rw [HY2.out] at q2
  rw [HY8.out] at q8
  rw [HY9.out] at q9
  rw [HY10.out] at q10
  have hlt0 : w.heap.size < w1.heap.size := hlt
  clear hA2 hH2 b2 b3 bb2 hz2 hA1 b1 hlt hs1
  go_wp2_with fail
  go_region_held3 (fun W => W.cell? ab = some (.int .i64 y0) ∧ W.cell? ⟨ab.block, ab.off + 1, none⟩ = some (.int .i64 y1) ∧ W.cell? ⟨ab.block, ab.off + 2, none⟩ = some (.int .i64 y2)) (go_keep) (fail)
  rename_i hHeld
  clear hHeld
  go_wp2_with fail
  generalize hW : World.alloc _ _ = W4d
  obtain ⟨hB4, b4, hz4⟩ := alloc1 hW
  clear hW
  obtain ⟨W4, hW4⟩ : ∃ W4, W4 = W4d.drew := ⟨_, rfl⟩
  have bd4 : Below W4d.heap.size W4d W4 := by rw [hW4]; exact ⟨rfl, rfl, rfl, Nat.le_refl _, fun _ _ => rfl⟩
  rw [← hW4]
  replace hB4 := blk_below hB4 bd4
  replace b4 := bthen b4 bd4
  clear hW4 bd4 hz4
  have b4 : Below W3.heap.size W3 W4 := b4
  have hB4 : W4.heap[W3.heap.size]? = some (.cells #[.bool true, .bool mk, .int .i64 y1, .int .i64 y2, .int .i64 0, .slice none 0 0] 28 (0, 0)) := hB4
  have hA4 := blk_below hA3 b4
  have hH4 := blk_below hH3 b4
  have hrow4 := hrow3.below b4
  have HB4 := Lib.hid (bthen HB3.out b4)
  have hlt4 := blk_lt hB4
  obtain ⟨u0, u1, u2, u3, u4, u5, uf⟩ := six hB4
  clear b4 hA3 hH3 hrow3 q0 q1 q2 q8 q9 q10 k1 k2
  refine (intAt2_at rest _ _ _ 3 3 _ hrow4 HRB.out (by omega) (by omega) rfl).mono ?_
  rintro e w' ⟨rfl, rfl⟩
  rw [HSQ.out]
  go_wp2_with fail
  generalize hX : World.setCell _ _ _ = X5
  have hB5 := blk_put hB4 4 (.int .i64 sq)
  have c5 := Chg.set (fun b => b = W3.heap.size) W4 (p := ⟨W3.heap.size, 4, none⟩) rfl (.int .i64 sq)
  rw [hX] at hB5 c5
  have hB5 : X5.heap[W3.heap.size]? = some (.cells #[.bool true, .bool mk, .int .i64 y1, .int .i64 y2, .int .i64 sq, .slice none 0 0] 28 (0, 0)) := by simpa using hB5
  have hA5 := c5.blk hA4 (by omega)
  have hH5 := c5.blk hH4 (by omega)
  have hg3 : w.heap.size < W3.heap.size := hlt3
  have HB5 := Lib.hid (HB4.out.trans (c5.below HB4.out.size (fun i hi => by omega)))
  have hrow5 := hrow.below HB5.out
  have hlt5 := blk_lt hB5
  have q8 := ints_suc hrow5 7 (by omega)
  simp only [Nat.reduceAdd] at q8
  rw [HY8.out] at q8
  clear hX c5 hB4 hA4 hH4 hrow4 u0 u1 u2 u3 u4 u5 uf hlt4
  obtain ⟨u0, u1, u2, u3, u4, u5, uf⟩ := six hB5
  obtain ⟨z0, z1, z2, zf⟩ := tri hH5
  refine (intAt3_at rest _ _ _ 5 5 _ hrow5 HRB.out (by omega) (by omega) rfl).mono ?_
  rintro e w' ⟨rfl, rfl⟩
  rw [HT.out]
  go_wp2_with fail
  refine (baseValid_any _ _ _).mono ?_
  rintro e w' ⟨rfl, rfl⟩
  rw [HBV.out]
  go_wp2_with fail
  refine (UnpackBytes_any body AR cR _ _ (hrw.below HB5.out) HBDB.out (by omega)).mono ?_
  rintro e w6 ⟨v6, rfl, HV6, hb6⟩
  rw [HUN.out]
  dsimp only [Option.isSome]
  have hup : upOut body = rows := by unfold upOut; rw [HUN.out]; rfl
  rw [hup] at HV6
  have HRWB := Lib.hid (unp_bytes HBDB.out HUN.out)
  have hrwm : rows.length ≤ 65535 := by have := unp_len HUN.out; omega
  obtain ⟨AR2, cR2, rfl, hr6⟩ := AppP.row HV6
  have hAl := blk_below hA5 hb6
  have hHl := blk_below hH5 hb6
  have hBl := blk_below hB5 hb6
  have HBW := Lib.hid (bthen HB5.out hb6)
  have hrwl : Ints w6 (fun b => b < w6.heap.size ∧ b ≠ W3.heap.size) AR2 cR2 rows := (hr6.bound (bnd_int .i64)).mono (fun b hb => ⟨hb.2, by have := hb.1; omega⟩)
  have q8l := below_cell hb6 q8
  obtain ⟨hrw1, hrw2⟩ : rows.length ≤ cR2 ∧ cR2 ≤ 9223372036854775807 := ⟨hr6.1, hr6.2.1⟩
  clear hup HV6 hr6 hb6 hA5 hH5 hB5 q8 u0 u1 u2 u3 u4 u5 uf z0 z1 z2 zf hrow5
  obtain ⟨u0, u1, u2, u3, u4, u5, uf⟩ := six hBl
  go_wp2_with fail

  obtain ⟨Sz, hSz⟩ : ∃ n, n = w6.heap.size := ⟨_, rfl⟩
  have hgbS : W3.heap.size < Sz := by rw [hSz]; exact blk_lt hBl
  have hrwl := hrwl.mono (F' := fun b => b < Sz ∧ b ≠ W3.heap.size) (fun b hb => ⟨by have := hb.1; omega, hb.2⟩)
  have hghb : w1.heap.size < W3.heap.size := hlh3
  have hgrh : w.heap.size < w1.heap.size := hlt0
  have HX0 : AppX RX 46 w6 (fun g => Sz ≤ g) w6.heap.size (.slice none 0 0) [] := AppX.nil _ _ _ _
  have HX0h := Lib.hid HX0
  have HSZ := Lib.hid hSz
  have HRS0 := Lib.hid (show rdRows rows o t 0 = some ([], 0) from rfl)
  have HBl := Lib.hid hBl
  clear HX0 hSz hBl
  go_loopw [18, 143] (fun pl i wr => ∃ (k e : Nat) (rs : List Rec) (v : Value), k ≤ nr ∧ i = .int .i64 k ∧ pl = .int .i64 e ∧ Hid (rdRows rows o t k = some (rs, e)) ∧ wr.heap[W3.heap.size]? = some (.cells #[.bool true, .bool mk, .int .i64 y1, .int .i64 y2, .int .i64 sq, v] 28 (0, 0)) ∧ (∃ B, AppX RX 46 wr (fun g => Sz ≤ g) B v rs) ∧ Hid (Chg (fun g => g = W3.heap.size ∨ Sz ≤ g) w6 wr)) (fun _ i _ => nr - (intOf i).toNat)
  case atStart => exact ⟨0, 0, [], .slice none 0 0, Nat.zero_le _, rfl, rfl, HRS0, HBl.out, ⟨_, HX0h.out⟩, Lib.hid (Chg.refl _ _)⟩
  case round =>
    obtain ⟨k, e, rs, v, hk, rfl, rfl, HRS, hBw, ⟨B, HX⟩, HC⟩ := hrel
    clear HX0h HRS0
    have hSw : Sz ≤ wr.heap.size := by have := HC.out.size; rw [← HSZ.out] at this; exact this
    have hAw := HC.out.blk hAl (by omega)
    have hHw := HC.out.blk hHl (by omega)
    obtain ⟨Av, cv, rfl, hlv, hcv⟩ := HX.toP.slice_
    obtain ⟨u0, u1, u2, u3, u4, u5, uf⟩ := six hBw
    obtain ⟨z0, z1, z2, zf⟩ := tri hHw
    have hrww := hrwl.keep (HC.out.same (fun i _ (h1 : i < Sz ∧ i ≠ W3.heap.size) h2 => by omega))
    have hgbw : W3.heap.size < wr.heap.size := blk_lt hBw
    have hBw' : Below w.heap.size w wr := HBW.out.trans (HC.out.below HBW.out.size (fun i hi => by omega))
    have HBw := Lib.hid hBw'
    have hge := HX.ge
    have HXB := Lib.hid HX.1
    have hrsl : rs.length = k := rdRows_len HRS.out
    clear hBw'
    by_cases hkn : k < nr
    · have hel := (rdRows_ok HRWB.out HRS.out).2
      have hrl2 : rs.length ≤ 255 := by omega
      have HXh := Lib.hid HX
      clear HX hrsl
      cases hq : rdRec rows e o t with
      | none =>
        have HQ := Lib.hid (show rdBat l p = none from none_recs HROWS.out (by
          rw [HO.out, ← HR.out, HT.out, HY8.out]
          exact rdRows_later (rdRows_stop HRS.out hq) (by simp; omega)))
        have HQ2 := Lib.hid hq
        clear hq
        go_wp2_with fail
        refine (recordAt_none rows AR2 cR2 _ e o t _ hrww HRWB.out (by omega) HBO.out HBT.out HQ2.out).mono ?_
        rintro ee w6 ⟨Ak, ck, Av2, cv2, rfl, hb6⟩
        have HB6 := Lib.hid (bthen HBw.out hb6)
        have hA6 := blk_below hAw hb6
        obtain ⟨x0, x1, x2, x3, x4, x5, xf⟩ := six hA6
        have hltA := blk_lt hA6
        clear hb6
        go_wp2
        refine bodyPost_ret (v := .tuple #[BZ, .int .i64 0, .iface 57 (.pointer (some ⟨w6.heap.size + 1, 0, none⟩))]) (by simp [results, Tryd.results22, go_sem, x0, x1, x2, x3, x4, x5, hltA]) rfl (.inl ⟨HQ.out, NoBat.mk ⟨_, rfl⟩ ?_⟩)
        exact bthen (bthen (HB6.out.trans (zeroB.below HB6.out.size (fun i hi => by omega))) (bal _ _)) (bal _ _)
      | some x =>
        obtain ⟨r, e2⟩ := x
        have HQ2 := Lib.hid hq
        have HRN := Lib.hid (rdRows_step HRS.out hq)
        clear hq
        go_wp2_with fail
        refine (recordAt_some rows AR2 cR2 _ e o t _ hrww HRWB.out (by omega) HBO.out HBT.out HQ2.out).mono ?_
        rintro ee w6 ⟨Ak, ck, Av2, cv2, rfl, hCp⟩
        have hb6 := hCp.below
        have b7 := bthen hb6 (bal w6 (.cells #[.int .i64 r.off, .int .i64 r.time, .bool r.hk, .slice Ak r.key.length ck, .bool r.hv, .slice Av2 r.val.length cv2] 46))
        have HX7 := Lib.hid (HXh.out.below b7)
        have XK7 := Lib.hid (XKind.below hCp.x (bal w6 (.cells #[.int .i64 r.off, .int .i64 r.time, .bool r.hk, .slice Ak r.key.length ck, .bool r.hv, .slice Av2 r.val.length cv2] 46)))
        have hB6 := blk_below hBw hb6
        have hz7 : (w6.alloc (.cells #[.int .i64 r.off, .int .i64 r.time, .bool r.hk, .slice Ak r.key.length ck, .bool r.hv, .slice Av2 r.val.length cv2] 46)).heap.size = w6.heap.size + 1 := by simp
        have HB7 := Lib.hid (blk_below hBw b7)
        have C7 := Lib.hid (HC.out.trans (Chg.of_below (F := fun g => g = W3.heap.size ∨ Sz ≤ g) b7))
        have hz6 := Lib.hid (show wr.heap.size ≤ w6.heap.size from hb6.size)
        have hgb6 := blk_lt hB6
        clear u0 u1 u2 u3 u4 u5 uf z0 z1 z2 zf hb6 b7 hCp hrww
        obtain ⟨u0, u1, u2, u3, u4, u5, uf⟩ := six hB6
        go_wp2_with (at_builtin; go_loud (refine wpList_appX RX HX7.out rfl _ _ 26 (.agg #[.int .i64 0, .int .i64 0, .bool false, .slice none 0 0, .bool false, .slice none 0 0]) 80 rfl Tryd.underlying26 (by kernel_rfl) rfl (by decide) r _ _ rfl (by rw [hz7]; rfl) XK7.out (fun b hb => ⟨by have := hb.1; omega, by have := hb.1; have := HXB.out; omega⟩) (by simp [Value.oneCell']) (fun b hb => by have := hz6.out; simp at hb; omega) (by omega) (by omega) ?_))
        intro v1 w8 HA8 hc8 _
        obtain ⟨rs2, hrs2⟩ : ∃ x, x = rs ++ [r] := ⟨_, rfl⟩
        have hrn := HRN.out
        rw [← hrs2] at HA8 hrn
        have HRN2 := Lib.hid hrn
        clear hrs2 hrn HRN
        obtain ⟨A8, c8, rfl, _⟩ := HA8.row
        have hne8 : ¬ (Value.slice Av rs.length cv).ownBlock = some W3.heap.size := fun e => by have := (hge _ e).1; omega
        have hB8 := hc8.blk HB7.out hne8
        have c9 := Chg.set (fun g => g = W3.heap.size) w8 (p := ⟨W3.heap.size, 5, none⟩) rfl (.slice A8 rs2.length c8)
        have hB9 := blk_put hB8 5 (.slice A8 rs2.length c8)
        have HB9 := Lib.hid (show (w8.setCell ⟨W3.heap.size, 5, none⟩ (.slice A8 rs2.length c8)).heap[W3.heap.size]? = some (.cells #[.bool true, .bool mk, .int .i64 y1, .int .i64 y2, .int .i64 sq, .slice A8 rs2.length c8] 28 (0, 0)) by simpa using hB9)
        have HA9 := Lib.hid (HA8.chg c9 (fun b _ h1 h2 => by omega))
        have HC9 := Lib.hid ((C7.out.trans (hc8.mono (fun i _ hi => .inr (hge i hi).1))).trans (c9.mono (fun i _ hi => .inl hi)))
        clear u0 u1 u2 u3 u4 u5 uf hB6 hB9 c9 HA8 hc8 hne8 HX7 XK7 C7
        obtain ⟨u0, u1, u2, u3, u4, u5, uf⟩ := six hB8
        go_wp2
        go_roundw
        case rel => exact ⟨k + 1, e2, rs2, .slice A8 rs2.length c8, by omega, by go_num, rfl, HRN2, HB9.out, ⟨_, HA9.out⟩, HC9⟩
        case measure => simp [intOf]; omega
    · have hkn2 : k = nr := by omega
      obtain ⟨bb, hbb⟩ : ∃ b : Bat, b = ⟨true, mk, y1, y2, sq, rs⟩ := ⟨_, rfl⟩
      have hbo : batOf (restAt l p) rs = bb := by
        rw [hbb, ← HR.out]
        unfold batOf
        rw [HSQ.out, HY0.out, HY1.out, HY2.out, HPD.out, ← HMK.out]
      have hrsn := HRS.out
      rw [hkn2] at hrsn
      have hrsn : rdRows rows (num3 l p) (num3 (restAt l p) 5) ((restAt l p).getD 8 0).toNat = some (rs, e) := by
        rw [HO.out, ← HR.out, HT.out, HY8.out]; simpa using hrsn
      obtain ⟨_, _, ev, hxr⟩ := HX.row
      injection ev with ev1 ev2 ev3
      subst ev1 ev3
      clear ev2 hrsl
      have HXR := Lib.hid hxr
      have hRc : ∀ W, Below wr.heap.size wr W → Recs W (fun _ => True) Av cv rs := fun W hW => (hxr.toK.mono (fun _ _ => trivial)).below hW
      cases hv : batB bb with
      | false =>
        have HQ := Lib.hid (show rdBat l p = none from none_valid HROWS.out hrsn (by rw [hbo]; exact hv))
        have hv2 : batB ⟨true, mk, y1, y2, sq, rs⟩ = false := by rw [← hbb]; exact hv
        have HCV := Lib.hid (fun W (hW : Below wr.heap.size wr W) => valid_lit true mk y1 y2 sq rs Av cv _ W (hRc W hW) hv2)
        clear hRc hv hv2 hbo hbb hrsn hxr HX
        go_wp2_with fail
        clear h hn hp hl hc hbd hm1 hor h11 hpm d1 d2 hrow hr0 hr1 hr2 hcb1 hcb2 n1 n2 n3 n4 hsr htr hr8 hnr hrm hr11 j0 j1 j2 hlt3 hlh3 hlt0 hg3 hlt5 hrw hrwm hAl hHl hrwl hrw1 hrw2 hk hlv hcv hge hkn hkn2 hrww hHw z0 z1 z2 zf hs2 hbm q8l
        have E0 := grow_cell u0
        have E1 := grow_cell u1
        have E2 := grow_cell u2
        have E3 := grow_cell u3
        have E4 := grow_cell u4
        have E5 := grow_cell u5
        have hcV := fun g => Calls.grow_of (HCV.out (grow wr g) (grow_below _ g))
        clear u0 u1 u2 u3 u4 u5
        refine wp_region_grow_lit (by kernel_rfl) (by kernel_rfl) ?_
        repeat (go_big_quiet_step (with_reducible exact hcV _))
        refine wpQuiet_nil ?_
        rintro _ ⟨g, rfl⟩
        obtain ⟨w7, hw7⟩ : ∃ x, x = grow wr g := ⟨_, rfl⟩
        have hb7 : Below wr.heap.size wr w7 := by rw [hw7]; exact grow_below _ g
        rw [← hw7]
        clear hw7 hcV E0 E1 E2 E3 E4 E5
        all_goals
          have HB6 := Lib.hid (bthen HBw.out hb7)
          have hA6 := blk_below hAw hb7
          clear hb7
          obtain ⟨x0, x1, x2, x3, x4, x5, xf⟩ := six hA6
          have hltA := blk_lt hA6
          go_wp2
          refine bodyPost_ret (v := .tuple #[BZ, .int .i64 0, .iface 57 (.pointer (some ⟨w7.heap.size, 0, none⟩))]) (by simp [results, Tryd.results22, go_sem, x0, x1, x2, x3, x4, x5, hltA]) rfl (.inl ⟨HQ.out, NoBat.mk ⟨_, rfl⟩ ?_⟩)
          exact bthen (HB6.out.trans (zeroB.below HB6.out.size (fun i hi => by omega))) (bal _ _)
      | true =>
        have hsl := (batB_parts hv).2.1
        obtain ⟨xs, hxs⟩ : ∃ xs, xs = batBytes bb := ⟨_, rfl⟩
        have hv2 : batB ⟨true, mk, y1, y2, sq, rs⟩ = true := by rw [← hbb]; exact hv
        have HCV := Lib.hid (fun W (hW : Below wr.heap.size wr W) => valid_lit true mk y1 y2 sq rs Av cv _ W (hRc W hW) hv2)
        have HCO := Lib.hid (fun W (hW : Below wr.heap.size wr W) => bytes_lit true mk y1 y2 sq rs Av cv _ W (hRc W hW) hv2 (xs := xs) (by rw [hxs, hbb]))
        clear hv2
        obtain ⟨reg, hreg⟩ : ∃ r, r = regAt l p := ⟨_, rfl⟩
        have hregl : reg.length = 7 + m := by rw [hreg, regAt_len (by rw [HM.out]; exact hpm), HM.out]; rfl
        have hrrow : Ints w (fun b => F b ∧ b < w.heap.size) (cutAddr A p c 1) (c - p) reg := by rw [hreg]; unfold regAt; exact (hbd.cut p (by omega)).take _
        have hs3 : ∀ W : World, (Instr.slice 32 (.slice A l.length c) (some (.int .i64 (p : Int))) (some (.int .i64 ((p : Int) + 7 + (m : Int)))) none).run Tryd.prog W = .ok (.slice (cutAddr A p c 1) reg.length (c - p)) W := fun W => by
          have := run_between Tryd.underlying32 info_intP A l.length c p (p + 7 + m) (p : Int) ((p : Int) + 7 + (m : Int)) rfl (by simp) (by omega) (by omega) W
          rw [show p + 7 + m - p = reg.length by omega] at this
          exact this
        obtain ⟨AP, hAP⟩ : ∃ x, x = cutAddr A p c 1 := ⟨_, rfl⟩
        rw [← hAP] at hs3 hrrow
        by_cases heq : xs = reg
        · have hpm2 : p + 7 + (num2 l (p + 3)).toNat ≤ l.length := by rw [HM.out]; exact hpm
          obtain ⟨hsm, hend⟩ := some_last hv hpm2 (by rw [← hreg, ← hxs, heq])
          rw [HM.out] at hend
          have HQ := Lib.hid hsm
          have HEND := Lib.hid (show ((p + (batBytes bb).length : Nat) : Int) = (p : Int) + 7 + (m : Int) by rw [← hend]; simp)
          have HCE := Lib.hid (fun W Ax cx (hW : Below wr.heap.size wr W) (hi : Ints W (fun _ => True) Ax cx xs) => equal_lit xs reg Ax AP cx (c - p) _ _ W hi (hrrow.below (bthen HBw.out hW)) (decide_eq_true heq))
          have HBBD := Lib.hid hbb
          clear hRc hv hbo hrsn hxr HX hxs hreg hregl hAP hrrow heq hsm hend hpm2 hbb
          go_wp2_with fail
          clear h hn hp hl hc hbd hm1 hor h11 hpm d1 d2 hrow hr0 hr1 hr2 hcb1 hcb2 n1 n2 n3 n4 hsr htr hr8 hnr hrm hr11 j0 j1 j2 hlt3 hlh3 hlt0 hg3 hlt5 hrw hrwm hAl hHl hrwl hrw1 hrw2 hk hlv hcv hge hkn hkn2 hrww hHw z0 z1 z2 zf hs2 hbm q8l
          go_region_held3 (fun W => W.cell? ⟨W3.heap.size, 0, none⟩ = some (.bool true) ∧ W.cell? ⟨W3.heap.size, 1, none⟩ = some (.bool mk) ∧ W.cell? ⟨W3.heap.size, 2, none⟩ = some (.int .i64 y1) ∧ W.cell? ⟨W3.heap.size, 3, none⟩ = some (.int .i64 y2) ∧ W.cell? ⟨W3.heap.size, 4, none⟩ = some (.int .i64 sq) ∧ W.cell? ⟨W3.heap.size, 5, none⟩ = some (.slice Av rs.length cv))
            (first | (exact ⟨below_cell B9 u0, below_cell B9 u1, below_cell B9 u2, below_cell B9 u3, below_cell B9 u4, below_cell B9 u5⟩) | (exact ⟨below_cell B8 u0, below_cell B8 u1, below_cell B8 u2, below_cell B8 u3, below_cell B8 u4, below_cell B8 u5⟩) | (exact ⟨below_cell B7 u0, below_cell B7 u1, below_cell B7 u2, below_cell B7 u3, below_cell B7 u4, below_cell B7 u5⟩) | go_keep)
            (first
              | (go_at_call 15; (with_reducible refine (HCV.out _ (by first | exact Below.refl _ _ | exact (Below.refl _ _).drew)).mono ?_); rintro ee w7 ⟨rfl, hb7⟩; have B7 : Below wr.heap.size wr w7 := by first | exact hb7 | exact bthen (Below.refl _ _).drew hb7)
              | (go_at_call 20; (with_reducible refine (HCO.out _ (by first | exact B7 | exact B7.drew)).mono ?_); rintro ee w8 ⟨vo, rfl, HO8, hb8⟩; obtain ⟨Ax, cx, rfl, hrx⟩ := AppP.row HO8; have B8 : Below wr.heap.size wr w8 := by first | exact bthen B7 hb8 | exact bthen B7.drew hb8)
              | (go_at_call 45; (with_reducible refine (HCE.out _ _ _ (by first | exact B8 | exact B8.drew) (hrx.mono (fun _ _ => trivial))).mono ?_); rintro ee w9 ⟨rfl, hb9⟩; have B9 : Below wr.heap.size wr w9 := by first | exact bthen B8 hb9 | exact bthen B8.drew hb9))
          all_goals
            have b9 := B9
            have HB6 := Lib.hid (bthen HBw.out b9)
            have hA6 := blk_below hAw b9
            have hB6 := blk_below hBw b9
            have HX6 := Lib.hid (HXR.out.bound.below b9)
            have hs9 := Lib.hid (b9.size)
            clear hb7 hb8 hb9 b9 B7 B8 B9 HO8 hrx u0 u1 u2 u3 u4 u5 uf
            obtain ⟨x0, x1, x2, x3, x4, x5, xf⟩ := six hA6
            obtain ⟨u0, u1, u2, u3, u4, u5, uf⟩ := six hB6
            go_wp2
            have cZ := Chg.setCells (fun b => b = w.heap.size) (g := w.heap.size) rfl [.bool true, .bool mk, .int .i64 y1, .int .i64 y2, .int .i64 sq, .slice Av rs.length cv] 0 w9
            refine bodyPost_ret (v := .tuple #[.agg #[.bool true, .bool mk, .int .i64 y1, .int .i64 y2, .int .i64 sq, .slice Av rs.length cv], .int .i64 ((p : Int) + 7 + (m : Int)), .nilIface]) (by simp [results, Tryd.results22, go_sem, x0, x1, x2, x3, x4, x5]) rfl (.inr ⟨bb, HQ.out, ?_⟩)
            have hbb := HBBD.out
            subst hbb
            refine YesBat.mk HEND.out.symm ((HX6.out.keep (cZ.same (fun i _ h1 h2 => by have := h1.1; omega)) cZ.size).mono (fun i hi => by have := hi.1; omega)) ?_
            exact HB6.out.trans (cZ.below HB6.out.size (fun i hi => by omega))
        · have HQ := Lib.hid (show rdBat l p = none from none_other HROWS.out hrsn (by rw [hbo, ← hreg, ← hxs]; exact fun e => heq e.symm))
          have HCE := Lib.hid (fun W Ax cx (hW : Below wr.heap.size wr W) (hi : Ints W (fun _ => True) Ax cx xs) => equal_lit xs reg Ax AP cx (c - p) _ _ W hi (hrrow.below (bthen HBw.out hW)) (decide_eq_false heq))
          clear hRc hv hbo hbb hrsn hxr HX hxs hreg hregl hAP hrrow heq
          go_wp2_with fail
          clear h hn hp hl hc hbd hm1 hor h11 hpm d1 d2 hrow hr0 hr1 hr2 hcb1 hcb2 n1 n2 n3 n4 hsr htr hr8 hnr hrm hr11 j0 j1 j2 hlt3 hlh3 hlt0 hg3 hlt5 hrw hrwm hAl hHl hrwl hrw1 hrw2 hk hlv hcv hge hkn hkn2 hrww hHw z0 z1 z2 zf hs2 hbm q8l
          go_region_held3 (fun W => W.cell? ⟨W3.heap.size, 0, none⟩ = some (.bool true) ∧ W.cell? ⟨W3.heap.size, 1, none⟩ = some (.bool mk) ∧ W.cell? ⟨W3.heap.size, 2, none⟩ = some (.int .i64 y1) ∧ W.cell? ⟨W3.heap.size, 3, none⟩ = some (.int .i64 y2) ∧ W.cell? ⟨W3.heap.size, 4, none⟩ = some (.int .i64 sq) ∧ W.cell? ⟨W3.heap.size, 5, none⟩ = some (.slice Av rs.length cv))
            (first | (exact ⟨below_cell B9 u0, below_cell B9 u1, below_cell B9 u2, below_cell B9 u3, below_cell B9 u4, below_cell B9 u5⟩) | (exact ⟨below_cell B8 u0, below_cell B8 u1, below_cell B8 u2, below_cell B8 u3, below_cell B8 u4, below_cell B8 u5⟩) | (exact ⟨below_cell B7 u0, below_cell B7 u1, below_cell B7 u2, below_cell B7 u3, below_cell B7 u4, below_cell B7 u5⟩) | go_keep)
            (first
              | (go_at_call 15; (with_reducible refine (HCV.out _ (by first | exact Below.refl _ _ | exact (Below.refl _ _).drew)).mono ?_); rintro ee w7 ⟨rfl, hb7⟩; have B7 : Below wr.heap.size wr w7 := by first | exact hb7 | exact bthen (Below.refl _ _).drew hb7)
              | (go_at_call 20; (with_reducible refine (HCO.out _ (by first | exact B7 | exact B7.drew)).mono ?_); rintro ee w8 ⟨vo, rfl, HO8, hb8⟩; obtain ⟨Ax, cx, rfl, hrx⟩ := AppP.row HO8; have B8 : Below wr.heap.size wr w8 := by first | exact bthen B7 hb8 | exact bthen B7.drew hb8)
              | (go_at_call 45; (with_reducible refine (HCE.out _ _ _ (by first | exact B8 | exact B8.drew) (hrx.mono (fun _ _ => trivial))).mono ?_); rintro ee w9 ⟨rfl, hb9⟩; have B9 : Below wr.heap.size wr w9 := by first | exact bthen B8 hb9 | exact bthen B8.drew hb9))
          all_goals
            have b9 := B9
            have HB6 := Lib.hid (bthen HBw.out b9)
            have hA6 := blk_below hAw b9
            clear hb7 hb8 hb9 b9 B7 B8 B9 HO8 hrx
            obtain ⟨x0, x1, x2, x3, x4, x5, xf⟩ := six hA6
            have hltA := blk_lt hA6
            go_wp2
            refine bodyPost_ret (v := .tuple #[BZ, .int .i64 0, .iface 57 (.pointer (some ⟨w9.heap.size, 0, none⟩))]) (by simp [results, Tryd.results22, go_sem, x0, x1, x2, x3, x4, x5, hltA]) rfl (.inl ⟨HQ.out, NoBat.mk ⟨_, rfl⟩ ?_⟩)
            exact bthen (HB6.out.trans (zeroB.below HB6.out.size (fun i hi => by omega))) (bal _ _)
end Go.Proofs.YtgnjnpfeofhniaaDoor
