/- The batch at a place of bytes: the program. -/
import Derived.Test.YtomcjjehfocbmaaHa
import Derived.Test.YtomcjjehfocbmaaUp
import Derived.Test.YtomcjjehfocbmaaEq
import Derived.Test.YtomcjjehfocbmaaBb
import Derived.Test.YtomcjjehfocbmaaV8
import Derived.Test.YtomcjjehfocbmaaB3
import Derived.Test.YtomcjjehfocbmaaPj
import Derived.Test.YtomcjjehfocbmaaAx
import Derived.LaidEql
namespace Go.Proofs.Ytomcjjehfocbmaa
set_option linter.unusedVariables false
set_option linter.unusedSimpArgs false
open Go.RowKit

abbrev BZ : Value := .agg #[.bool false, .bool false, .int .i64 0, .int .i64 0, .int .i64 0, .slice none 0 0]
abbrev BV (b : Bat) (A : Option Addr) (c : Nat) : Value := .agg #[.bool b.packed, .bool b.mark, .int .i64 b.prod, .int .i64 b.epoch, .int .i64 b.seq, .slice A b.recs.length c]
/-- No batch, and why. -/
def NoBat (w : World) (e : Ending) (w' : World) : Prop := (∃ v, e = .returned (.tuple #[BZ, .int .i64 0, v]) ∧ ErrV v) ∧ Below w.heap.size w w'
/-- A batch, and the place behind it. -/
def YesBat (p : Nat) (b : Bat) (w : World) (e : Ending) (w' : World) : Prop :=
  ∃ A c, e = .returned (.tuple #[BV b A c, .int .i64 ((p + (batBytes b).length : Nat) : Int), .nilIface]) ∧ XRecs 3 85 w' (fun g => w.heap.size ≤ g) A c b.recs ∧ Below w.heap.size w w'
def BatRes (l : List Int) (p : Nat) (w : World) (e : Ending) (w' : World) : Prop := (rdBat l p = none ∧ NoBat w e w') ∨ ∃ b, rdBat l p = some b ∧ YesBat p b w e w'
theorem NoBat.mk {w W : World} {v : Value} (h : ErrV v) (hb : Below w.heap.size w W) : NoBat w (.returned (.tuple #[BZ, .int .i64 0, v])) W := ⟨⟨_, rfl, h⟩, hb⟩
theorem zeroB {w : World} {g : Nat} : Chg (fun b => b = g) w ((((((w.setCell ⟨g, 0, none⟩ (.bool false)).setCell ⟨g, 1, none⟩ (.bool false)).setCell ⟨g, 2, none⟩ (.int .i64 0)).setCell ⟨g, 3, none⟩ (.int .i64 0)).setCell ⟨g, 4, none⟩ (.int .i64 0)).setCell ⟨g, 5, none⟩ (.slice none 0 0)) :=
  Chg.setCells (fun b => b = g) (g := g) rfl [.bool false, .bool false, .int .i64 0, .int .i64 0, .int .i64 0, .slice none 0 0] 0 w
theorem blk_lt {w : World} {g : Nat} {o : Obj} (h : w.heap[g]? = some o) : g < w.heap.size := (Array.getElem?_eq_some_iff.1 h).1
theorem tri {w : World} {g : Nat} {t : TypeId} {v0 v1 v2 : Value} (h : w.heap[g]? = some (.cells #[v0, v1, v2] t (0, 0))) :
    w.cell? ⟨g, 0, none⟩ = some v0 ∧ w.cell? ⟨g, 1, none⟩ = some v1 ∧ w.cell? ⟨g, 2, none⟩ = some v2 ∧ ∀ i, w.frozen? ⟨g, i, none⟩ = false := by
  refine ⟨?_, ?_, ?_, fun i => ?_⟩ <;> simp [World.cell?, World.frozen?, h]
theorem ints_zero {w : World} {F : Nat → Prop} {ad : Addr} {c : Nat} {l : List Int} (h : Ints w F (some ad) c l) (hj : 0 < l.length) : w.cell? ad = some (.int .i64 (l.getD 0 0)) := by
  obtain ⟨a, e, _, q⟩ := h.int_at hj
  injection e with e
  subst e
  rw [getD_at hj]
  simpa [Addr.add] using q
theorem ints_suc {w : World} {F : Nat → Prop} {ad : Addr} {c : Nat} {l : List Int} (h : Ints w F (some ad) c l) (j : Nat) (hj : j + 1 < l.length) : w.cell? ⟨ad.block, ad.off + (j + 1), none⟩ = some (.int .i64 (l.getD (j + 1) 0)) := by
  obtain ⟨a, e, _, q⟩ := h.int_at hj
  injection e with e
  subst e
  rw [getD_at hj, ← add_suc]
  exact q
theorem rdAt_nat (l : List Int) (e : Nat) (o t : Int) : rdAt l (e : Int) o t = rdRec l e o t := by unfold rdAt; rw [if_neg (by omega)]; rfl
theorem and_two {x : Int} (h0 : 0 ≤ x) (h3 : x ≤ 3) : (bits .and .i64 x 1 == 1) = decide (x % 2 = 1) ∧ (bits .and .i64 x 2 == 2) = decide (x / 2 = 1) := by
  obtain rfl | rfl | rfl | rfl : x = 0 ∨ x = 1 ∨ x = 2 ∨ x = 3 := by omega
  all_goals exact ⟨by decide, by decide⟩
set_option pp.maxSteps 1000000 in
set_option maxRecDepth 100000 in
set_option maxHeartbeats 1000000 in
/-- Far from the bytes. -/
theorem batchAt_far (l : List Int) (A : Option Addr) (c : Nat) (F : Nat → Prop) (i : Int) (w : World) (h : Ints w F A c l) (hn : l.length ≤ 4194304) (hi : i < 0 ∨ (l.length : Int) - 18 < i) :
    Calls Try.prog 45 #[.slice A l.length c, .int .i64 i] w (NoBat w) := by
  go_enter Try.func45, Try.ntmps45
  go_wp2_with fail
  generalize hW : World.alloc _ _ = W0
  obtain ⟨hA0, b0, hz0⟩ := alloc1 hW
  clear hW
  refine (headAt_no l A c _ i _ (h.below b0) hn hi).mono ?_
  rintro e w1 ⟨⟨v, rfl, g, rfl⟩, hb1⟩
  have hA1 := blk_below hA0 hb1
  have HB := Lib.hid (bthen b0 hb1)
  obtain ⟨x0, x1, x2, x3, x4, x5, xf⟩ := six hA1
  have hlt := blk_lt hA1
  clear hA0 b0 hb1 hi hz0
  go_wp2
  refine bodyPost_ret (v := .tuple #[BZ, .int .i64 0, .iface 98 (.pointer (some ⟨g, 0, none⟩))]) (by simp [results, Try.results45, go_sem, x0, x1, x2, x3, x4, x5, hlt]) rfl (NoBat.mk ⟨_, rfl⟩ ?_)
  exact bthen (HB.out.trans (zeroB.below HB.out.size (fun i hi => by omega))) (bal _ _)

set_option maxRecDepth 100000 in
set_option maxHeartbeats 4000000 in
theorem batchAt_size (l : List Int) (A : Option Addr) (c : Nat) (F : Nat → Prop) (p : Nat) (w : World)(h : Ints w F A c l) (hb : bytesB l = true) (hn : l.length ≤ 4194304) (hp : p + 18 ≤ l.length) (hsz : (num2 l (p + 3)).toNat < 11 ∨ l.length < p + 7 + (num2 l (p + 3)).toNat) :
    Calls Try.prog 45 #[.slice A l.length c, .int .i64 (p : Int)] w (NoBat w) := by
  have hl := h.1
  have hc := h.2.1
  have hbd := h.bound (bnd_int .i64)
  obtain ⟨m, hm0⟩ := Int.eq_ofNat_of_zero_le (num2_range hb (p + 3)).1
  have hm1 : m ≤ 65535 := by have := (num2_range hb (p + 3)).2; omega
  obtain ⟨o, ho⟩ : ∃ o, o = num3 l p := ⟨_, rfl⟩
  obtain ⟨s, hs⟩ : ∃ s, s = num2 l (p + 5) := ⟨_, rfl⟩
  have hor : 0 ≤ o ∧ o ≤ 16777215 := by have := num3_range hb p; omega
  have HO := Lib.hid ho.symm
  have HM := Lib.hid hm0
  have HS := Lib.hid hs.symm
  have HBY := Lib.hid hb
  rw [hm0] at hsz
  have hsz : m < 11 ∨ l.length < p + 7 + m := hsz
  by_cases h11 : m < 11
  · clear hsz
    have d1 : decide ((m : Int) < 11) = true := by simp; omega
    clear ho hs hm0 hb
    go_enter Try.func45, Try.ntmps45
    go_wp2_with fail
    generalize hW : World.alloc _ _ = W0
    obtain ⟨hA0, b0, hz0⟩ := alloc1 hW
    clear hW
    refine (headAt_yes l A c _ p _ (hbd.below b0) HBY.out hn hp).mono ?_
    rintro e w1 ⟨rfl, hb1⟩
    rw [HO.out, HM.out, HS.out]
    have hA1 := blk_below hA0 hb1
    have b1 := bthen b0 hb1
    have hlt := blk_lt hA1
    clear hA0 b0 hb1 hz0
    have HB := Lib.hid b1
    obtain ⟨x0, x1, x2, x3, x4, x5, xf⟩ := six hA1
    clear hA1 b1
    go_wp2
    refine bodyPost_ret (v := .tuple #[BZ, .int .i64 0, .iface 98 (.pointer (some ⟨w1.heap.size + 1, 0, none⟩))]) (by simp [results, Try.results45, go_sem, x0, x1, x2, x3, x4, x5, hlt]) rfl (NoBat.mk ⟨_, rfl⟩ ?_)
    exact bthen (bthen (HB.out.trans (zeroB.below HB.out.size (fun i hi => by omega))) (bal _ _)) (bal _ _)
  · have d1 : decide ((m : Int) < 11) = false := by simp; omega
    have d2 : decide ((l.length : Int) - ((p : Int) + 7) < (m : Int)) = true := by simp; omega
    clear ho hs hm0 hb
    go_enter Try.func45, Try.ntmps45
    go_wp2_with fail
    generalize hW : World.alloc _ _ = W0
    obtain ⟨hA0, b0, hz0⟩ := alloc1 hW
    clear hW
    refine (headAt_yes l A c _ p _ (hbd.below b0) HBY.out hn hp).mono ?_
    rintro e w1 ⟨rfl, hb1⟩
    rw [HO.out, HM.out, HS.out]
    have hA1 := blk_below hA0 hb1
    have b1 := bthen b0 hb1
    have hlt := blk_lt hA1
    clear hA0 b0 hb1 hz0
    have HB := Lib.hid b1
    obtain ⟨x0, x1, x2, x3, x4, x5, xf⟩ := six hA1
    clear hA1 b1
    go_wp2
    refine bodyPost_ret (v := .tuple #[BZ, .int .i64 0, .iface 98 (.pointer (some ⟨w1.heap.size + 1, 0, none⟩))]) (by simp [results, Try.results45, go_sem, x0, x1, x2, x3, x4, x5, hlt]) rfl (NoBat.mk ⟨_, rfl⟩ ?_)
    exact bthen (bthen (HB.out.trans (zeroB.below HB.out.size (fun i hi => by omega))) (bal _ _)) (bal _ _)
set_option maxRecDepth 100000 in
set_option maxHeartbeats 4000000 in
theorem batchAt_sum (l : List Int) (A : Option Addr) (c : Nat) (F : Nat → Prop) (p : Nat) (w : World)(h : Ints w F A c l) (hb : bytesB l = true) (hn : l.length ≤ 4194304) (hp : p + 18 ≤ l.length) (hsz : 11 ≤ (num2 l (p + 3)).toNat ∧ p + 7 + (num2 l (p + 3)).toNat ≤ l.length) (hsum : num2 l (p + 5) ≠ sumB (restAt l p)) :
    Calls Try.prog 45 #[.slice A l.length c, .int .i64 (p : Int)] w (NoBat w) := by
  have hl := h.1
  have hc := h.2.1
  have hbd := h.bound (bnd_int .i64)
  obtain ⟨m, hm0⟩ := Int.eq_ofNat_of_zero_le (num2_range hb (p + 3)).1
  have hm1 : m ≤ 65535 := by have := (num2_range hb (p + 3)).2; omega
  obtain ⟨o, ho⟩ : ∃ o, o = num3 l p := ⟨_, rfl⟩
  obtain ⟨s, hs⟩ : ∃ s, s = num2 l (p + 5) := ⟨_, rfl⟩
  have hor : 0 ≤ o ∧ o ≤ 16777215 := by have := num3_range hb p; omega
  have HO := Lib.hid ho.symm
  have HM := Lib.hid hm0
  have HS := Lib.hid hs.symm
  have HBY := Lib.hid hb
  rw [hm0] at hsz
  obtain ⟨h11, hpm⟩ : 11 ≤ m ∧ p + 7 + m ≤ l.length := hsz
  have d1 : decide ((m : Int) < 11) = false := by simp; omega
  have d2 : decide ((l.length : Int) - ((p : Int) + 7) < (m : Int)) = false := by simp; omega
  obtain ⟨rest, hrest⟩ : ∃ r, r = restAt l p := ⟨_, rfl⟩
  have hrl : rest.length = m := by rw [hrest, restAt_len (by rw [hm0]; exact hpm), hm0]; rfl
  have hrb : bytesB rest = true := by rw [hrest]; exact restAt_bytes hb
  have hrow : Ints w (fun b => F b ∧ b < w.heap.size) (cutAddr A (p + 7) c 1) (c - (p + 7)) rest := by rw [hrest]; unfold restAt; exact (hbd.cut (p + 7) (by omega)).take _
  obtain ⟨ab, hab, hj1, hj2⟩ := hrow.int_at (show 0 < rest.length by omega)
  clear hj1 hj2
  have hs1 : ∀ W : World, (Instr.slice 22 (.slice A l.length c) (some (.int .i64 ((p : Int) + 7))) (some (.int .i64 ((p : Int) + 7 + (m : Int)))) none).run Try.prog W = .ok (.slice (some ab) rest.length (c - (p + 7))) W := fun W => by
    have := run_between Try.underlying22 info_intP A l.length c (p + 7) (p + 7 + m) ((p : Int) + 7) ((p : Int) + 7 + (m : Int)) (by simp) (by simp) (by omega) (by omega) W
    rw [show p + 7 + m - (p + 7) = rest.length by omega, hab] at this
    exact this
  rw [hab] at hrow
  obtain ⟨S, hS⟩ : ∃ S, S = sumB rest := ⟨_, rfl⟩
  obtain ⟨y0, hy0⟩ : ∃ y, y = rest.getD 0 0 := ⟨_, rfl⟩
  obtain ⟨y1, hy1⟩ : ∃ y, y = rest.getD 1 0 := ⟨_, rfl⟩
  obtain ⟨y2, hy2⟩ : ∃ y, y = rest.getD 2 0 := ⟨_, rfl⟩
  obtain ⟨y8, hy8⟩ : ∃ y, y = rest.getD 8 0 := ⟨_, rfl⟩
  obtain ⟨y9, hy9⟩ : ∃ y, y = rest.getD 9 0 := ⟨_, rfl⟩
  obtain ⟨y10, hy10⟩ : ∃ y, y = rest.getD 10 0 := ⟨_, rfl⟩
  have hr0 : 0 ≤ y0 ∧ y0 ≤ 255 := by rw [hy0]; exact getD_byte hrb 0
  have hr1 : 0 ≤ y1 ∧ y1 ≤ 255 := by rw [hy1]; exact getD_byte hrb 1
  have hr2 : 0 ≤ y2 ∧ y2 ≤ 255 := by rw [hy2]; exact getD_byte hrb 2
  have hr8 : 0 ≤ y8 ∧ y8 ≤ 255 := by rw [hy8]; exact getD_byte hrb 8
  have hcb : rest.length ≤ c - (p + 7) ∧ c - (p + 7) ≤ 9223372036854775807 := ⟨hrow.1, hrow.2.1⟩
  obtain ⟨hcb1, hcb2⟩ := hcb
  have n1 : (S != s) = true := by rw [hS, hs, hrest]; simp; exact fun e => hsum e.symm
  clear hsum
  have HR := Lib.hid hrest
  have HRL := Lib.hid hrl
  have HRB := Lib.hid hrb
  have HSS := Lib.hid hS
  have HY0 := Lib.hid hy0.symm
  have HY1 := Lib.hid hy1.symm
  have HY2 := Lib.hid hy2.symm
  have HY8 := Lib.hid hy8.symm
  have HY9 := Lib.hid hy9.symm
  have HY10 := Lib.hid hy10.symm
  have hrm : rest.length ≤ 65535 := by omega
  have hr11 : 11 ≤ rest.length := by omega
  have j0 : 0 < rest.length := by omega
  have j1 : (1 : Int) < (rest.length : Int) := by omega
  have j2 : (2 : Int) < (rest.length : Int) := by omega
  clear hrest hrl hrb hS hy0 hy1 hy2 hy8 hy9 hy10 hab
  clear ho hs hm0 hb
  go_enter Try.func45, Try.ntmps45
  go_wp2_with fail
  generalize hW : World.alloc _ _ = W0
  obtain ⟨hA0, b0, hz0⟩ := alloc1 hW
  clear hW
  refine (headAt_yes l A c _ p _ (hbd.below b0) HBY.out hn hp).mono ?_
  rintro e w1 ⟨rfl, hb1⟩
  rw [HO.out, HM.out, HS.out]
  have hA1 := blk_below hA0 hb1
  have b1 := bthen b0 hb1
  have hlt := blk_lt hA1
  clear hA0 b0 hb1 hz0
  go_wp2_with fail
  generalize hW : World.alloc _ _ = W2
  obtain ⟨hH2, b2, hz2⟩ := alloc1 hW
  clear hW
  have hA2 := blk_below hA1 b2
  have bb2 := bthen b1 b2
  obtain ⟨z0, z1, z2, zf⟩ := tri hH2
  have E2 := grow_cell z2
  have hcS : ∀ g, Calls Try.prog 70 #[.int .i64 1, .slice (some ab) rest.length (c - (p + 7))] (grow W2 g) fun e w'' => e = .returned (.int .i64 S) ∧ ∃ g', w'' = grow W2 g' := fun g => by
    rw [HSS.out]
    exact Calls.grow_same (over_any 1 rest _ _ _ _ ((hrow.below bb2).below (grow_below _ g)) (by omega) HRB.out (by omega))
  refine wp_region_grow_lit (by kernel_rfl) (by kernel_rfl) ?_
  repeat (go_big_quiet_step (with_reducible exact hcS _))
  refine wpQuiet_nil ?_
  rintro _ ⟨g, rfl⟩
  obtain ⟨W3, hW3⟩ : ∃ W3, W3 = grow W2 g := ⟨_, rfl⟩
  have b3 : Below W2.heap.size W2 W3 := by rw [hW3]; exact grow_below _ g
  rw [← hW3]
  clear hW3 hcS E2 z0 z1 z2 zf
  have hA3 := blk_below hA2 b3
  have hH3 := blk_below hH2 b3
  have HB3 := Lib.hid (bthen bb2 b3)
  have hrow3 := hrow.below HB3.out
  have hlt3 := blk_lt hA3
  have hlh3 := blk_lt hH3
  have q0 := ints_zero hrow3 (by omega)
  have q1 := ints_suc hrow3 0 (by omega)
  have q2 := ints_suc hrow3 1 (by omega)
  have q8 := ints_suc hrow3 7 (by omega)
  have q9 := ints_suc hrow3 8 (by omega)
  have q10 := ints_suc hrow3 9 (by omega)
  simp only [Nat.reduceAdd] at q0 q1 q2 q8 q9 q10
  rw [HY0.out] at q0
  rw [HY1.out] at q1
  rw [HY2.out] at q2
  rw [HY8.out] at q8
  rw [HY9.out] at q9
  rw [HY10.out] at q10
  have hlt0 : w.heap.size < w1.heap.size := hlt
  clear hA2 hH2 b2 b3 bb2 hz2 hrow hA1 b1 hlt hs1
  obtain ⟨x0, x1, x2, x3, x4, x5, xf⟩ := six hA3
  go_wp2
  refine bodyPost_ret (v := .tuple #[BZ, .int .i64 0, .iface 98 (.pointer (some ⟨W3.heap.size, 0, none⟩))]) (by simp [results, Try.results45, go_sem, x0, x1, x2, x3, x4, x5, hlt3]) rfl (NoBat.mk ⟨_, rfl⟩ ?_)
  exact bthen (HB3.out.trans (zeroB.below HB3.out.size (fun i hi => by omega))) (bal _ _)
set_option maxRecDepth 100000 in
set_option maxHeartbeats 4000000 in
theorem batchAt_head (l : List Int) (A : Option Addr) (c : Nat) (F : Nat → Prop) (p : Nat) (w : World)(h : Ints w F A c l) (hb : bytesB l = true) (hn : l.length ≤ 4194304) (hp : p + 18 ≤ l.length) (hsz : 11 ≤ (num2 l (p + 3)).toNat ∧ p + 7 + (num2 l (p + 3)).toNat ≤ l.length) (hsum : num2 l (p + 5) = sumB (restAt l p)) (hhd : 3 < (restAt l p).getD 0 0 ∨ (restAt l p).getD 9 0 ≠ 0 ∨ (restAt l p).getD 10 0 ≠ 0) :
    Calls Try.prog 45 #[.slice A l.length c, .int .i64 (p : Int)] w (NoBat w) := by
  have hl := h.1
  have hc := h.2.1
  have hbd := h.bound (bnd_int .i64)
  obtain ⟨m, hm0⟩ := Int.eq_ofNat_of_zero_le (num2_range hb (p + 3)).1
  have hm1 : m ≤ 65535 := by have := (num2_range hb (p + 3)).2; omega
  obtain ⟨o, ho⟩ : ∃ o, o = num3 l p := ⟨_, rfl⟩
  obtain ⟨s, hs⟩ : ∃ s, s = num2 l (p + 5) := ⟨_, rfl⟩
  have hor : 0 ≤ o ∧ o ≤ 16777215 := by have := num3_range hb p; omega
  have HO := Lib.hid ho.symm
  have HM := Lib.hid hm0
  have HS := Lib.hid hs.symm
  have HBY := Lib.hid hb
  rw [hm0] at hsz
  obtain ⟨h11, hpm⟩ : 11 ≤ m ∧ p + 7 + m ≤ l.length := hsz
  have d1 : decide ((m : Int) < 11) = false := by simp; omega
  have d2 : decide ((l.length : Int) - ((p : Int) + 7) < (m : Int)) = false := by simp; omega
  obtain ⟨rest, hrest⟩ : ∃ r, r = restAt l p := ⟨_, rfl⟩
  have hrl : rest.length = m := by rw [hrest, restAt_len (by rw [hm0]; exact hpm), hm0]; rfl
  have hrb : bytesB rest = true := by rw [hrest]; exact restAt_bytes hb
  have hrow : Ints w (fun b => F b ∧ b < w.heap.size) (cutAddr A (p + 7) c 1) (c - (p + 7)) rest := by rw [hrest]; unfold restAt; exact (hbd.cut (p + 7) (by omega)).take _
  obtain ⟨ab, hab, hj1, hj2⟩ := hrow.int_at (show 0 < rest.length by omega)
  clear hj1 hj2
  have hs1 : ∀ W : World, (Instr.slice 22 (.slice A l.length c) (some (.int .i64 ((p : Int) + 7))) (some (.int .i64 ((p : Int) + 7 + (m : Int)))) none).run Try.prog W = .ok (.slice (some ab) rest.length (c - (p + 7))) W := fun W => by
    have := run_between Try.underlying22 info_intP A l.length c (p + 7) (p + 7 + m) ((p : Int) + 7) ((p : Int) + 7 + (m : Int)) (by simp) (by simp) (by omega) (by omega) W
    rw [show p + 7 + m - (p + 7) = rest.length by omega, hab] at this
    exact this
  rw [hab] at hrow
  obtain ⟨S, hS⟩ : ∃ S, S = sumB rest := ⟨_, rfl⟩
  obtain ⟨y0, hy0⟩ : ∃ y, y = rest.getD 0 0 := ⟨_, rfl⟩
  obtain ⟨y1, hy1⟩ : ∃ y, y = rest.getD 1 0 := ⟨_, rfl⟩
  obtain ⟨y2, hy2⟩ : ∃ y, y = rest.getD 2 0 := ⟨_, rfl⟩
  obtain ⟨y8, hy8⟩ : ∃ y, y = rest.getD 8 0 := ⟨_, rfl⟩
  obtain ⟨y9, hy9⟩ : ∃ y, y = rest.getD 9 0 := ⟨_, rfl⟩
  obtain ⟨y10, hy10⟩ : ∃ y, y = rest.getD 10 0 := ⟨_, rfl⟩
  have hr0 : 0 ≤ y0 ∧ y0 ≤ 255 := by rw [hy0]; exact getD_byte hrb 0
  have hr1 : 0 ≤ y1 ∧ y1 ≤ 255 := by rw [hy1]; exact getD_byte hrb 1
  have hr2 : 0 ≤ y2 ∧ y2 ≤ 255 := by rw [hy2]; exact getD_byte hrb 2
  have hr8 : 0 ≤ y8 ∧ y8 ≤ 255 := by rw [hy8]; exact getD_byte hrb 8
  have hcb : rest.length ≤ c - (p + 7) ∧ c - (p + 7) ≤ 9223372036854775807 := ⟨hrow.1, hrow.2.1⟩
  obtain ⟨hcb1, hcb2⟩ := hcb
  have n1 : (S != s) = false := by rw [hS, hs, hrest]; simp; exact hsum.symm
  rw [← hrest, ← hy0, ← hy9, ← hy10] at hhd
  clear hsum
  have HR := Lib.hid hrest
  have HRL := Lib.hid hrl
  have HRB := Lib.hid hrb
  have HSS := Lib.hid hS
  have HY0 := Lib.hid hy0.symm
  have HY1 := Lib.hid hy1.symm
  have HY2 := Lib.hid hy2.symm
  have HY8 := Lib.hid hy8.symm
  have HY9 := Lib.hid hy9.symm
  have HY10 := Lib.hid hy10.symm
  have hrm : rest.length ≤ 65535 := by omega
  have hr11 : 11 ≤ rest.length := by omega
  have j0 : 0 < rest.length := by omega
  have j1 : (1 : Int) < (rest.length : Int) := by omega
  have j2 : (2 : Int) < (rest.length : Int) := by omega
  clear hrest hrl hrb hS hy0 hy1 hy2 hy8 hy9 hy10 hab
  by_cases g1 : 3 < y0
  · have n2 : decide (3 < y0) = true := by simpa using g1
    clear hhd
    clear ho hs hm0 hb
    go_enter Try.func45, Try.ntmps45
    go_wp2_with fail
    generalize hW : World.alloc _ _ = W0
    obtain ⟨hA0, b0, hz0⟩ := alloc1 hW
    clear hW
    refine (headAt_yes l A c _ p _ (hbd.below b0) HBY.out hn hp).mono ?_
    rintro e w1 ⟨rfl, hb1⟩
    rw [HO.out, HM.out, HS.out]
    have hA1 := blk_below hA0 hb1
    have b1 := bthen b0 hb1
    have hlt := blk_lt hA1
    clear hA0 b0 hb1 hz0
    go_wp2_with fail
    generalize hW : World.alloc _ _ = W2
    obtain ⟨hH2, b2, hz2⟩ := alloc1 hW
    clear hW
    have hA2 := blk_below hA1 b2
    have bb2 := bthen b1 b2
    obtain ⟨z0, z1, z2, zf⟩ := tri hH2
    have E2 := grow_cell z2
    have hcS : ∀ g, Calls Try.prog 70 #[.int .i64 1, .slice (some ab) rest.length (c - (p + 7))] (grow W2 g) fun e w'' => e = .returned (.int .i64 S) ∧ ∃ g', w'' = grow W2 g' := fun g => by
      rw [HSS.out]
      exact Calls.grow_same (over_any 1 rest _ _ _ _ ((hrow.below bb2).below (grow_below _ g)) (by omega) HRB.out (by omega))
    refine wp_region_grow_lit (by kernel_rfl) (by kernel_rfl) ?_
    repeat (go_big_quiet_step (with_reducible exact hcS _))
    refine wpQuiet_nil ?_
    rintro _ ⟨g, rfl⟩
    obtain ⟨W3, hW3⟩ : ∃ W3, W3 = grow W2 g := ⟨_, rfl⟩
    have b3 : Below W2.heap.size W2 W3 := by rw [hW3]; exact grow_below _ g
    rw [← hW3]
    clear hW3 hcS E2 z0 z1 z2 zf
    have hA3 := blk_below hA2 b3
    have hH3 := blk_below hH2 b3
    have HB3 := Lib.hid (bthen bb2 b3)
    have hrow3 := hrow.below HB3.out
    have hlt3 := blk_lt hA3
    have hlh3 := blk_lt hH3
    have q0 := ints_zero hrow3 (by omega)
    have q1 := ints_suc hrow3 0 (by omega)
    have q2 := ints_suc hrow3 1 (by omega)
    have q8 := ints_suc hrow3 7 (by omega)
    have q9 := ints_suc hrow3 8 (by omega)
    have q10 := ints_suc hrow3 9 (by omega)
    simp only [Nat.reduceAdd] at q0 q1 q2 q8 q9 q10
    rw [HY0.out] at q0
    rw [HY1.out] at q1
    rw [HY2.out] at q2
    rw [HY8.out] at q8
    rw [HY9.out] at q9
    rw [HY10.out] at q10
    have hlt0 : w.heap.size < w1.heap.size := hlt
    clear hA2 hH2 b2 b3 bb2 hz2 hrow hA1 b1 hlt hs1
    obtain ⟨x0, x1, x2, x3, x4, x5, xf⟩ := six hA3
    go_wp2
    refine bodyPost_ret (v := .tuple #[BZ, .int .i64 0, .iface 98 (.pointer (some ⟨W3.heap.size, 0, none⟩))]) (by simp [results, Try.results45, go_sem, x0, x1, x2, x3, x4, x5, hlt3]) rfl (NoBat.mk ⟨_, rfl⟩ ?_)
    exact bthen (HB3.out.trans (zeroB.below HB3.out.size (fun i hi => by omega))) (bal _ _)
  · have n2 : decide (3 < y0) = false := by simpa using g1
    by_cases g2 : y9 = 0
    · have n3 : (y9 != 0) = false := by simpa using g2
      have n4 : (y10 != 0) = true := by
        rcases hhd with h | h | h
        · exact absurd h g1
        · exact absurd g2 h
        · simpa using h
      clear hhd g2
      clear ho hs hm0 hb
      go_enter Try.func45, Try.ntmps45
      go_wp2_with fail
      generalize hW : World.alloc _ _ = W0
      obtain ⟨hA0, b0, hz0⟩ := alloc1 hW
      clear hW
      refine (headAt_yes l A c _ p _ (hbd.below b0) HBY.out hn hp).mono ?_
      rintro e w1 ⟨rfl, hb1⟩
      rw [HO.out, HM.out, HS.out]
      have hA1 := blk_below hA0 hb1
      have b1 := bthen b0 hb1
      have hlt := blk_lt hA1
      clear hA0 b0 hb1 hz0
      go_wp2_with fail
      generalize hW : World.alloc _ _ = W2
      obtain ⟨hH2, b2, hz2⟩ := alloc1 hW
      clear hW
      have hA2 := blk_below hA1 b2
      have bb2 := bthen b1 b2
      obtain ⟨z0, z1, z2, zf⟩ := tri hH2
      have E2 := grow_cell z2
      have hcS : ∀ g, Calls Try.prog 70 #[.int .i64 1, .slice (some ab) rest.length (c - (p + 7))] (grow W2 g) fun e w'' => e = .returned (.int .i64 S) ∧ ∃ g', w'' = grow W2 g' := fun g => by
        rw [HSS.out]
        exact Calls.grow_same (over_any 1 rest _ _ _ _ ((hrow.below bb2).below (grow_below _ g)) (by omega) HRB.out (by omega))
      refine wp_region_grow_lit (by kernel_rfl) (by kernel_rfl) ?_
      repeat (go_big_quiet_step (with_reducible exact hcS _))
      refine wpQuiet_nil ?_
      rintro _ ⟨g, rfl⟩
      obtain ⟨W3, hW3⟩ : ∃ W3, W3 = grow W2 g := ⟨_, rfl⟩
      have b3 : Below W2.heap.size W2 W3 := by rw [hW3]; exact grow_below _ g
      rw [← hW3]
      clear hW3 hcS E2 z0 z1 z2 zf
      have hA3 := blk_below hA2 b3
      have hH3 := blk_below hH2 b3
      have HB3 := Lib.hid (bthen bb2 b3)
      have hrow3 := hrow.below HB3.out
      have hlt3 := blk_lt hA3
      have hlh3 := blk_lt hH3
      have q0 := ints_zero hrow3 (by omega)
      have q1 := ints_suc hrow3 0 (by omega)
      have q2 := ints_suc hrow3 1 (by omega)
      have q8 := ints_suc hrow3 7 (by omega)
      have q9 := ints_suc hrow3 8 (by omega)
      have q10 := ints_suc hrow3 9 (by omega)
      simp only [Nat.reduceAdd] at q0 q1 q2 q8 q9 q10
      rw [HY0.out] at q0
      rw [HY1.out] at q1
      rw [HY2.out] at q2
      rw [HY8.out] at q8
      rw [HY9.out] at q9
      rw [HY10.out] at q10
      have hlt0 : w.heap.size < w1.heap.size := hlt
      clear hA2 hH2 b2 b3 bb2 hz2 hrow hA1 b1 hlt hs1
      obtain ⟨x0, x1, x2, x3, x4, x5, xf⟩ := six hA3
      go_wp2
      refine bodyPost_ret (v := .tuple #[BZ, .int .i64 0, .iface 98 (.pointer (some ⟨W3.heap.size, 0, none⟩))]) (by simp [results, Try.results45, go_sem, x0, x1, x2, x3, x4, x5, hlt3]) rfl (NoBat.mk ⟨_, rfl⟩ ?_)
      exact bthen (HB3.out.trans (zeroB.below HB3.out.size (fun i hi => by omega))) (bal _ _)
    · have n3 : (y9 != 0) = true := by simpa using g2
      clear hhd g2
      clear ho hs hm0 hb
      go_enter Try.func45, Try.ntmps45
      go_wp2_with fail
      generalize hW : World.alloc _ _ = W0
      obtain ⟨hA0, b0, hz0⟩ := alloc1 hW
      clear hW
      refine (headAt_yes l A c _ p _ (hbd.below b0) HBY.out hn hp).mono ?_
      rintro e w1 ⟨rfl, hb1⟩
      rw [HO.out, HM.out, HS.out]
      have hA1 := blk_below hA0 hb1
      have b1 := bthen b0 hb1
      have hlt := blk_lt hA1
      clear hA0 b0 hb1 hz0
      go_wp2_with fail
      generalize hW : World.alloc _ _ = W2
      obtain ⟨hH2, b2, hz2⟩ := alloc1 hW
      clear hW
      have hA2 := blk_below hA1 b2
      have bb2 := bthen b1 b2
      obtain ⟨z0, z1, z2, zf⟩ := tri hH2
      have E2 := grow_cell z2
      have hcS : ∀ g, Calls Try.prog 70 #[.int .i64 1, .slice (some ab) rest.length (c - (p + 7))] (grow W2 g) fun e w'' => e = .returned (.int .i64 S) ∧ ∃ g', w'' = grow W2 g' := fun g => by
        rw [HSS.out]
        exact Calls.grow_same (over_any 1 rest _ _ _ _ ((hrow.below bb2).below (grow_below _ g)) (by omega) HRB.out (by omega))
      refine wp_region_grow_lit (by kernel_rfl) (by kernel_rfl) ?_
      repeat (go_big_quiet_step (with_reducible exact hcS _))
      refine wpQuiet_nil ?_
      rintro _ ⟨g, rfl⟩
      obtain ⟨W3, hW3⟩ : ∃ W3, W3 = grow W2 g := ⟨_, rfl⟩
      have b3 : Below W2.heap.size W2 W3 := by rw [hW3]; exact grow_below _ g
      rw [← hW3]
      clear hW3 hcS E2 z0 z1 z2 zf
      have hA3 := blk_below hA2 b3
      have hH3 := blk_below hH2 b3
      have HB3 := Lib.hid (bthen bb2 b3)
      have hrow3 := hrow.below HB3.out
      have hlt3 := blk_lt hA3
      have hlh3 := blk_lt hH3
      have q0 := ints_zero hrow3 (by omega)
      have q1 := ints_suc hrow3 0 (by omega)
      have q2 := ints_suc hrow3 1 (by omega)
      have q8 := ints_suc hrow3 7 (by omega)
      have q9 := ints_suc hrow3 8 (by omega)
      have q10 := ints_suc hrow3 9 (by omega)
      simp only [Nat.reduceAdd] at q0 q1 q2 q8 q9 q10
      rw [HY0.out] at q0
      rw [HY1.out] at q1
      rw [HY2.out] at q2
      rw [HY8.out] at q8
      rw [HY9.out] at q9
      rw [HY10.out] at q10
      have hlt0 : w.heap.size < w1.heap.size := hlt
      clear hA2 hH2 b2 b3 bb2 hz2 hrow hA1 b1 hlt hs1
      obtain ⟨x0, x1, x2, x3, x4, x5, xf⟩ := six hA3
      go_wp2
      refine bodyPost_ret (v := .tuple #[BZ, .int .i64 0, .iface 98 (.pointer (some ⟨W3.heap.size, 0, none⟩))]) (by simp [results, Try.results45, go_sem, x0, x1, x2, x3, x4, x5, hlt3]) rfl (NoBat.mk ⟨_, rfl⟩ ?_)
      exact bthen (HB3.out.trans (zeroB.below HB3.out.size (fun i hi => by omega))) (bal _ _)
end Go.Proofs.Ytomcjjehfocbmaa
