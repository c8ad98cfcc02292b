/- The batch at a place of bytes: the program, on. -/
import Derived.Test.YtgnjnpfeofhniaaDoorBa
namespace Go.Proofs.YtgnjnpfeofhniaaDoor
set_option linter.unusedVariables false
set_option linter.unusedSimpArgs false
open Go.RowKit

set_option maxRecDepth 100000 in
set_option maxHeartbeats 4000000 in
theorem batchAt_base (l : List Int) (A : Option Addr) (c : Nat) (F : Nat → Prop) (p : Nat) (w : World)(h : Ints w F A c l) (hb : bytesB l = true) (hn : l.length ≤ 4194304) (hp : p + 18 ≤ l.length) (hsz : 11 ≤ (num2 l (p + 3)).toNat ∧ p + 7 + (num2 l (p + 3)).toNat ≤ l.length) (hsum : num2 l (p + 5) = sumB (restAt l p)) (hhd : (restAt l p).getD 0 0 ≤ 3 ∧ (restAt l p).getD 9 0 = 0 ∧ (restAt l p).getD 10 0 = 0) (hbase : baseB (num3 l p) (num3 (restAt l p) 5) = false) :
    Calls Tryd.prog 22 #[.slice A l.length c, .int .i64 (p : Int)] w (NoBat w) := by
  have hl := h.1
  have hc := h.2.1
  have hbd := h.bound (bnd_int .i64)
  obtain ⟨m, hm0⟩ := Int.eq_ofNat_of_zero_le (num2_range hb (p + 3)).1
  have hm1 : m ≤ 65535 := by have := (num2_range hb (p + 3)).2; omega
  obtain ⟨o, ho⟩ : ∃ o, o = num3 l p := ⟨_, rfl⟩
  obtain ⟨s, hs⟩ : ∃ s, s = num2 l (p + 5) := ⟨_, rfl⟩
  have hor : 0 ≤ o ∧ o ≤ 16777215 := by have := num3_range hb p; omega
  have HO := Lib.hid ho.symm
  have HM := Lib.hid hm0
  have HS := Lib.hid hs.symm
  have HBY := Lib.hid hb
  rw [hm0] at hsz
  obtain ⟨h11, hpm⟩ : 11 ≤ m ∧ p + 7 + m ≤ l.length := hsz
  have d1 : decide ((m : Int) < 11) = false := by simp; omega
  have d2 : decide ((l.length : Int) - ((p : Int) + 7) < (m : Int)) = false := by simp; omega
  obtain ⟨rest, hrest⟩ : ∃ r, r = restAt l p := ⟨_, rfl⟩
  have hrl : rest.length = m := by rw [hrest, restAt_len (by rw [hm0]; exact hpm), hm0]; rfl
  have hrb : bytesB rest = true := by rw [hrest]; exact restAt_bytes hb
  have hrow : Ints w (fun b => F b ∧ b < w.heap.size) (cutAddr A (p + 7) c 1) (c - (p + 7)) rest := by rw [hrest]; unfold restAt; exact (hbd.cut (p + 7) (by omega)).take _
  obtain ⟨ab, hab, hj1, hj2⟩ := hrow.int_at (show 0 < rest.length by omega)
  clear hj1 hj2
  have hs1 : ∀ W : World, (Instr.slice 32 (.slice A l.length c) (some (.int .i64 ((p : Int) + 7))) (some (.int .i64 ((p : Int) + 7 + (m : Int)))) none).run Tryd.prog W = .ok (.slice (some ab) rest.length (c - (p + 7))) W := fun W => by
    have := run_between Tryd.underlying32 info_intP A l.length c (p + 7) (p + 7 + m) ((p : Int) + 7) ((p : Int) + 7 + (m : Int)) (by simp) (by simp) (by omega) (by omega) W
    rw [show p + 7 + m - (p + 7) = rest.length by omega, hab] at this
    exact this
  rw [hab] at hrow
  obtain ⟨S, hS⟩ : ∃ S, S = sumB rest := ⟨_, rfl⟩
  obtain ⟨y0, hy0⟩ : ∃ y, y = rest.getD 0 0 := ⟨_, rfl⟩
  obtain ⟨y1, hy1⟩ : ∃ y, y = rest.getD 1 0 := ⟨_, rfl⟩
  obtain ⟨y2, hy2⟩ : ∃ y, y = rest.getD 2 0 := ⟨_, rfl⟩
  obtain ⟨y8, hy8⟩ : ∃ y, y = rest.getD 8 0 := ⟨_, rfl⟩
  obtain ⟨y9, hy9⟩ : ∃ y, y = rest.getD 9 0 := ⟨_, rfl⟩
  obtain ⟨y10, hy10⟩ : ∃ y, y = rest.getD 10 0 := ⟨_, rfl⟩
  have hr0 : 0 ≤ y0 ∧ y0 ≤ 255 := by rw [hy0]; exact getD_byte hrb 0
  have hr1 : 0 ≤ y1 ∧ y1 ≤ 255 := by rw [hy1]; exact getD_byte hrb 1
  have hr2 : 0 ≤ y2 ∧ y2 ≤ 255 := by rw [hy2]; exact getD_byte hrb 2
  have hr8 : 0 ≤ y8 ∧ y8 ≤ 255 := by rw [hy8]; exact getD_byte hrb 8
  have hcb : rest.length ≤ c - (p + 7) ∧ c - (p + 7) ≤ 9223372036854775807 := ⟨hrow.1, hrow.2.1⟩
  obtain ⟨hcb1, hcb2⟩ := hcb
  rw [← ho, ← hrest] at hbase
  have n1 : (S != s) = false := by rw [hS, hs, hrest]; simp; exact hsum.symm
  rw [← hrest, ← hy0, ← hy9, ← hy10] at hhd
  obtain ⟨hh0, hh9, hh10⟩ := hhd
  have n2 : decide (3 < y0) = false := by simpa using hh0
  have n3 : (y9 != 0) = false := by simpa using hh9
  have n4 : (y10 != 0) = false := by simpa using hh10
  obtain ⟨k1, k2⟩ := and_two hr0.1 hh0
  obtain ⟨pk, hpk⟩ : ∃ pk, pk = decide (y0 % 2 = 1) := ⟨_, rfl⟩
  obtain ⟨mk, hmk⟩ : ∃ mk, mk = decide (y0 / 2 = 1) := ⟨_, rfl⟩
  obtain ⟨sq, hsq⟩ : ∃ sq, sq = num2 rest 3 := ⟨_, rfl⟩
  obtain ⟨t, ht⟩ : ∃ t, t = num3 rest 5 := ⟨_, rfl⟩
  rw [← hpk] at k1
  rw [← hmk] at k2
  have hsr : 0 ≤ sq ∧ sq ≤ 65535 := by rw [hsq]; exact num2_range hrb 3
  have htr : 0 ≤ t ∧ t ≤ 16777215 := by rw [ht]; exact num3_range hrb 5
  have HPK := Lib.hid hpk
  have HMK := Lib.hid hmk
  have HSQ := Lib.hid hsq.symm
  have HT := Lib.hid ht.symm
  rw [← ht] at hbase
  have HBV := Lib.hid hbase
  clear hsum hh0 hh9 hh10 hpk hmk hsq ht hbase
  have HR := Lib.hid hrest
  have HRL := Lib.hid hrl
  have HRB := Lib.hid hrb
  have HSS := Lib.hid hS
  have HY0 := Lib.hid hy0.symm
  have HY1 := Lib.hid hy1.symm
  have HY2 := Lib.hid hy2.symm
  have HY8 := Lib.hid hy8.symm
  have HY9 := Lib.hid hy9.symm
  have HY10 := Lib.hid hy10.symm
  have hrm : rest.length ≤ 65535 := by omega
  have hr11 : 11 ≤ rest.length := by omega
  have j0 : 0 < rest.length := by omega
  have j1 : (1 : Int) < (rest.length : Int) := by omega
  have j2 : (2 : Int) < (rest.length : Int) := by omega
  clear hrest hrl hrb hS hy0 hy1 hy2 hy8 hy9 hy10 hab
  clear ho hs hm0 hb
  go_enter Tryd.func22, Tryd.ntmps22
  go_wp2_with fail
  generalize hW : World.alloc _ _ = W0
  obtain ⟨hA0, b0, hz0⟩ := alloc1 hW
  clear hW
  refine (headAt_yes l A c _ p _ (hbd.below b0) HBY.out hn hp).mono ?_
  rintro e w1 ⟨rfl, hb1⟩
  rw [HO.out, HM.out, HS.out]
  have hA1 := blk_below hA0 hb1
  have b1 := bthen b0 hb1
  have hlt := blk_lt hA1
  clear hA0 b0 hb1 hz0
  go_wp2_with fail
  generalize hW : World.alloc _ _ = W2
  obtain ⟨hH2, b2, hz2⟩ := alloc1 hW
  clear hW
  have hA2 := blk_below hA1 b2
  have bb2 := bthen b1 b2
  obtain ⟨z0, z1, z2, zf⟩ := tri hH2
  have E2 := grow_cell z2
  have hcS : ∀ g, Calls Tryd.prog 38 #[.int .i64 1, .slice (some ab) rest.length (c - (p + 7))] (grow W2 g) fun e w'' => e = .returned (.int .i64 S) ∧ ∃ g', w'' = grow W2 g' := fun g => by
    rw [HSS.out]
    exact Calls.grow_same (over_any 1 rest _ _ _ _ ((hrow.below bb2).below (grow_below _ g)) (by omega) HRB.out (by omega))
  refine wp_region_grow_lit (by kernel_rfl) (by kernel_rfl) ?_
  repeat (go_big_quiet_step (with_reducible exact hcS _))
  refine wpQuiet_nil ?_
  rintro _ ⟨g, rfl⟩
  obtain ⟨W3, hW3⟩ : ∃ W3, W3 = grow W2 g := ⟨_, rfl⟩
  have b3 : Below W2.heap.size W2 W3 := by rw [hW3]; exact grow_below _ g
  rw [← hW3]
  clear hW3 hcS E2 z0 z1 z2 zf
  have hA3 := blk_below hA2 b3
  have hH3 := blk_below hH2 b3
  have HB3 := Lib.hid (bthen bb2 b3)
  have hrow3 := hrow.below HB3.out
  have hlt3 := blk_lt hA3
  have hlh3 := blk_lt hH3
  have q0 := ints_zero hrow3 (by omega)
  have q1 := ints_suc hrow3 0 (by omega)
  have q2 := ints_suc hrow3 1 (by omega)
  have q8 := ints_suc hrow3 7 (by omega)
  have q9 := ints_suc hrow3 8 (by omega)
  have q10 := ints_suc hrow3 9 (by omega)
  simp only [Nat.reduceAdd] at q0 q1 q2 q8 q9 q10
  rw [HY0.out] at q0
  rw [HY1.out] at q1
  rw [HY2.out] at q2
  rw [HY8.out] at q8
  rw [HY9.out] at q9
  rw [HY10.out] at q10
  have hlt0 : w.heap.size < w1.heap.size := hlt
  clear hA2 hH2 b2 b3 bb2 hz2 hA1 b1 hlt hs1
  go_wp2_with fail
  go_region_held3 (fun W => W.cell? ab = some (.int .i64 y0) ∧ W.cell? ⟨ab.block, ab.off + 1, none⟩ = some (.int .i64 y1) ∧ W.cell? ⟨ab.block, ab.off + 2, none⟩ = some (.int .i64 y2)) (go_keep) (fail)
  rename_i hHeld
  clear hHeld
  go_wp2_with fail
  generalize hW : World.alloc _ _ = W4d
  obtain ⟨hB4, b4, hz4⟩ := alloc1 hW
  clear hW
  obtain ⟨W4, hW4⟩ : ∃ W4, W4 = W4d.drew := ⟨_, rfl⟩
  have bd4 : Below W4d.heap.size W4d W4 := by rw [hW4]; exact ⟨rfl, rfl, rfl, Nat.le_refl _, fun _ _ => rfl⟩
  rw [← hW4]
  replace hB4 := blk_below hB4 bd4
  replace b4 := bthen b4 bd4
  clear hW4 bd4 hz4
  have b4 : Below W3.heap.size W3 W4 := b4
  have hB4 : W4.heap[W3.heap.size]? = some (.cells #[.bool pk, .bool mk, .int .i64 y1, .int .i64 y2, .int .i64 0, .slice none 0 0] 28 (0, 0)) := hB4
  have hA4 := blk_below hA3 b4
  have hH4 := blk_below hH3 b4
  have hrow4 := hrow3.below b4
  have HB4 := Lib.hid (bthen HB3.out b4)
  have hlt4 := blk_lt hB4
  obtain ⟨u0, u1, u2, u3, u4, u5, uf⟩ := six hB4
  clear b4 hA3 hH3 hrow3 q0 q1 q2 q8 q9 q10 k1 k2
  refine (intAt2_at rest _ _ _ 3 3 _ hrow4 HRB.out (by omega) (by omega) rfl).mono ?_
  rintro e w' ⟨rfl, rfl⟩
  rw [HSQ.out]
  go_wp2_with fail
  generalize hX : World.setCell _ _ _ = X5
  have hB5 := blk_put hB4 4 (.int .i64 sq)
  have c5 := Chg.set (fun b => b = W3.heap.size) W4 (p := ⟨W3.heap.size, 4, none⟩) rfl (.int .i64 sq)
  rw [hX] at hB5 c5
  have hB5 : X5.heap[W3.heap.size]? = some (.cells #[.bool pk, .bool mk, .int .i64 y1, .int .i64 y2, .int .i64 sq, .slice none 0 0] 28 (0, 0)) := by simpa using hB5
  have hA5 := c5.blk hA4 (by omega)
  have hH5 := c5.blk hH4 (by omega)
  have hg3 : w.heap.size < W3.heap.size := hlt3
  have HB5 := Lib.hid (HB4.out.trans (c5.below HB4.out.size (fun i hi => by omega)))
  have hrow5 := hrow.below HB5.out
  have hlt5 := blk_lt hB5
  have q8 := ints_suc hrow5 7 (by omega)
  simp only [Nat.reduceAdd] at q8
  rw [HY8.out] at q8
  clear hX c5 hB4 hA4 hH4 hrow4 u0 u1 u2 u3 u4 u5 uf hlt4
  obtain ⟨u0, u1, u2, u3, u4, u5, uf⟩ := six hB5
  obtain ⟨z0, z1, z2, zf⟩ := tri hH5
  refine (intAt3_at rest _ _ _ 5 5 _ hrow5 HRB.out (by omega) (by omega) rfl).mono ?_
  rintro e w' ⟨rfl, rfl⟩
  rw [HT.out]
  go_wp2_with fail
  refine (baseValid_any _ _ _).mono ?_
  rintro e w' ⟨rfl, rfl⟩
  rw [HBV.out]
  obtain ⟨x0, x1, x2, x3, x4, x5, xf⟩ := six hA5
  have hltA := blk_lt hA5
  go_wp2
  refine bodyPost_ret (v := .tuple #[BZ, .int .i64 0, .iface 57 (.pointer (some ⟨X5.heap.size, 0, none⟩))]) (by simp [results, Tryd.results22, go_sem, x0, x1, x2, x3, x4, x5, hltA]) rfl (NoBat.mk ⟨_, rfl⟩ ?_)
  exact bthen (HB5.out.trans (zeroB.below HB5.out.size (fun i hi => by omega))) (bal _ _)
set_option maxRecDepth 100000 in
set_option maxHeartbeats 4000000 in
theorem batchAt_unp (l : List Int) (A : Option Addr) (c : Nat) (F : Nat → Prop) (p : Nat) (w : World)(h : Ints w F A c l) (hb : bytesB l = true) (hn : l.length ≤ 4194304) (hp : p + 18 ≤ l.length) (hsz : 11 ≤ (num2 l (p + 3)).toNat ∧ p + 7 + (num2 l (p + 3)).toNat ≤ l.length) (hsum : num2 l (p + 5) = sumB (restAt l p)) (hhd : (restAt l p).getD 0 0 ≤ 3 ∧ (restAt l p).getD 9 0 = 0 ∧ (restAt l p).getD 10 0 = 0) (hpkd : decide ((restAt l p).getD 0 0 % 2 = 1) = true) (hbase : baseB (num3 l p) (num3 (restAt l p) 5) = true) (hun : unp ((restAt l p).drop 11) [] = none) :
    Calls Tryd.prog 22 #[.slice A l.length c, .int .i64 (p : Int)] w (NoBat w) := by
  have hl := h.1
  have hc := h.2.1
  have hbd := h.bound (bnd_int .i64)
  obtain ⟨m, hm0⟩ := Int.eq_ofNat_of_zero_le (num2_range hb (p + 3)).1
  have hm1 : m ≤ 65535 := by have := (num2_range hb (p + 3)).2; omega
  obtain ⟨o, ho⟩ : ∃ o, o = num3 l p := ⟨_, rfl⟩
  obtain ⟨s, hs⟩ : ∃ s, s = num2 l (p + 5) := ⟨_, rfl⟩
  have hor : 0 ≤ o ∧ o ≤ 16777215 := by have := num3_range hb p; omega
  have HO := Lib.hid ho.symm
  have HM := Lib.hid hm0
  have HS := Lib.hid hs.symm
  have HBY := Lib.hid hb
  rw [hm0] at hsz
  obtain ⟨h11, hpm⟩ : 11 ≤ m ∧ p + 7 + m ≤ l.length := hsz
  have d1 : decide ((m : Int) < 11) = false := by simp; omega
  have d2 : decide ((l.length : Int) - ((p : Int) + 7) < (m : Int)) = false := by simp; omega
  obtain ⟨rest, hrest⟩ : ∃ r, r = restAt l p := ⟨_, rfl⟩
  have hrl : rest.length = m := by rw [hrest, restAt_len (by rw [hm0]; exact hpm), hm0]; rfl
  have hrb : bytesB rest = true := by rw [hrest]; exact restAt_bytes hb
  have hrow : Ints w (fun b => F b ∧ b < w.heap.size) (cutAddr A (p + 7) c 1) (c - (p + 7)) rest := by rw [hrest]; unfold restAt; exact (hbd.cut (p + 7) (by omega)).take _
  obtain ⟨ab, hab, hj1, hj2⟩ := hrow.int_at (show 0 < rest.length by omega)
  clear hj1 hj2
  have hs1 : ∀ W : World, (Instr.slice 32 (.slice A l.length c) (some (.int .i64 ((p : Int) + 7))) (some (.int .i64 ((p : Int) + 7 + (m : Int)))) none).run Tryd.prog W = .ok (.slice (some ab) rest.length (c - (p + 7))) W := fun W => by
    have := run_between Tryd.underlying32 info_intP A l.length c (p + 7) (p + 7 + m) ((p : Int) + 7) ((p : Int) + 7 + (m : Int)) (by simp) (by simp) (by omega) (by omega) W
    rw [show p + 7 + m - (p + 7) = rest.length by omega, hab] at this
    exact this
  rw [hab] at hrow
  obtain ⟨S, hS⟩ : ∃ S, S = sumB rest := ⟨_, rfl⟩
  obtain ⟨y0, hy0⟩ : ∃ y, y = rest.getD 0 0 := ⟨_, rfl⟩
  obtain ⟨y1, hy1⟩ : ∃ y, y = rest.getD 1 0 := ⟨_, rfl⟩
  obtain ⟨y2, hy2⟩ : ∃ y, y = rest.getD 2 0 := ⟨_, rfl⟩
  obtain ⟨y8, hy8⟩ : ∃ y, y = rest.getD 8 0 := ⟨_, rfl⟩
  obtain ⟨y9, hy9⟩ : ∃ y, y = rest.getD 9 0 := ⟨_, rfl⟩
  obtain ⟨y10, hy10⟩ : ∃ y, y = rest.getD 10 0 := ⟨_, rfl⟩
  have hr0 : 0 ≤ y0 ∧ y0 ≤ 255 := by rw [hy0]; exact getD_byte hrb 0
  have hr1 : 0 ≤ y1 ∧ y1 ≤ 255 := by rw [hy1]; exact getD_byte hrb 1
  have hr2 : 0 ≤ y2 ∧ y2 ≤ 255 := by rw [hy2]; exact getD_byte hrb 2
  have hr8 : 0 ≤ y8 ∧ y8 ≤ 255 := by rw [hy8]; exact getD_byte hrb 8
  have hcb : rest.length ≤ c - (p + 7) ∧ c - (p + 7) ≤ 9223372036854775807 := ⟨hrow.1, hrow.2.1⟩
  obtain ⟨hcb1, hcb2⟩ := hcb
  rw [← ho, ← hrest] at hbase
  rw [← hrest] at hun
  have n1 : (S != s) = false := by rw [hS, hs, hrest]; simp; exact hsum.symm
  rw [← hrest, ← hy0, ← hy9, ← hy10] at hhd
  obtain ⟨hh0, hh9, hh10⟩ := hhd
  have n2 : decide (3 < y0) = false := by simpa using hh0
  have n3 : (y9 != 0) = false := by simpa using hh9
  have n4 : (y10 != 0) = false := by simpa using hh10
  obtain ⟨k1, k2⟩ := and_two hr0.1 hh0
  obtain ⟨mk, hmk⟩ : ∃ mk, mk = decide (y0 / 2 = 1) := ⟨_, rfl⟩
  obtain ⟨sq, hsq⟩ : ∃ sq, sq = num2 rest 3 := ⟨_, rfl⟩
  obtain ⟨t, ht⟩ : ∃ t, t = num3 rest 5 := ⟨_, rfl⟩
  rw [← hmk] at k2
  have hsr : 0 ≤ sq ∧ sq ≤ 65535 := by rw [hsq]; exact num2_range hrb 3
  have htr : 0 ≤ t ∧ t ≤ 16777215 := by rw [ht]; exact num3_range hrb 5
  have HMK := Lib.hid hmk
  have HSQ := Lib.hid hsq.symm
  have HT := Lib.hid ht.symm
  rw [← ht] at hbase
  have HBV := Lib.hid hbase
  clear hsum hh0 hh9 hh10 hmk hsq ht hbase
  rw [← hrest, ← hy0] at hpkd
  rw [hpkd] at k1
  have HPD := Lib.hid hpkd
  obtain ⟨nr, rfl⟩ := Int.eq_ofNat_of_zero_le hr8.1
  have hnr : nr ≤ 255 := by omega
  obtain ⟨body, hbody⟩ : ∃ r, r = rest.drop 11 := ⟨_, rfl⟩
  have hbdl : body.length = rest.length - 11 := by rw [hbody, List.length_drop]
  have hbdb : bytesB body = true := by rw [hbody]; exact drop_bytes hrb 11
  obtain ⟨AR, hAR⟩ : ∃ x, x = cutAddr (some ab) 11 (c - (p + 7)) 1 := ⟨_, rfl⟩
  obtain ⟨cR, hcR⟩ : ∃ x, x = c - (p + 7) - 11 := ⟨_, rfl⟩
  have hrw : Ints w (fun b => F b ∧ b < w.heap.size) AR cR body := by rw [hAR, hcR, hbody]; exact hrow.cut 11 (by omega)
  have hs2 : ∀ W : World, (Instr.slice 32 (.slice (some ab) rest.length (c - (p + 7))) (some (.int .i64 11)) none none).run Tryd.prog W = .ok (.slice AR body.length cR) W := fun W => by
    have := run_cut Tryd.underlying32 info_intP (some ab) rest.length (c - (p + 7)) 11 11 rfl (by omega) W
    rw [hbdl, hAR, hcR]; exact this
  have HBD := Lib.hid hbody
  have HBDB := Lib.hid hbdb
  have hbm : body.length ≤ 65535 := by omega
  rw [← hbody] at hun
  have HUN := Lib.hid hun
  clear hun hbody hbdl hbdb hAR hcR hpkd
  have HR := Lib.hid hrest
  have HRL := Lib.hid hrl
  have HRB := Lib.hid hrb
  have HSS := Lib.hid hS
  have HY0 := Lib.hid hy0.symm
  have HY1 := Lib.hid hy1.symm
  have HY2 := Lib.hid hy2.symm
  have HY8 := Lib.hid hy8.symm
  have HY9 := Lib.hid hy9.symm
  have HY10 := Lib.hid hy10.symm
  have hrm : rest.length ≤ 65535 := by omega
  have hr11 : 11 ≤ rest.length := by omega
  have j0 : 0 < rest.length := by omega
  have j1 : (1 : Int) < (rest.length : Int) := by omega
  have j2 : (2 : Int) < (rest.length : Int) := by omega
  clear hrest hrl hrb hS hy0 hy1 hy2 hy8 hy9 hy10 hab
  clear ho hs hm0 hb
  go_enter Tryd.func22, Tryd.ntmps22
  go_wp2_with fail
  generalize hW : World.alloc _ _ = W0
  obtain ⟨hA0, b0, hz0⟩ := alloc1 hW
  clear hW
  refine (headAt_yes l A c _ p _ (hbd.below b0) HBY.out hn hp).mono ?_
  rintro e w1 ⟨rfl, hb1⟩
  rw [HO.out, HM.out, HS.out]
  have hA1 := blk_below hA0 hb1
  have b1 := bthen b0 hb1
  have hlt := blk_lt hA1
  clear hA0 b0 hb1 hz0
  go_wp2_with fail
  generalize hW : World.alloc _ _ = W2
  obtain ⟨hH2, b2, hz2⟩ := alloc1 hW
  clear hW
  have hA2 := blk_below hA1 b2
  have bb2 := bthen b1 b2
  obtain ⟨z0, z1, z2, zf⟩ := tri hH2
  have E2 := grow_cell z2
  have hcS : ∀ g, Calls Tryd.prog 38 #[.int .i64 1, .slice (some ab) rest.length (c - (p + 7))] (grow W2 g) fun e w'' => e = .returned (.int .i64 S) ∧ ∃ g', w'' = grow W2 g' := fun g => by
    rw [HSS.out]
    exact Calls.grow_same (over_any 1 rest _ _ _ _ ((hrow.below bb2).below (grow_below _ g)) (by omega) HRB.out (by omega))
  refine wp_region_grow_lit (by kernel_rfl) (by kernel_rfl) ?_
  repeat (go_big_quiet_step (with_reducible exact hcS _))
  refine wpQuiet_nil ?_
  rintro _ ⟨g, rfl⟩
  obtain ⟨W3, hW3⟩ : ∃ W3, W3 = grow W2 g := ⟨_, rfl⟩
  have b3 : Below W2.heap.size W2 W3 := by rw [hW3]; exact grow_below _ g
  rw [← hW3]
  clear hW3 hcS E2 z0 z1 z2 zf
  have hA3 := blk_below hA2 b3
  have hH3 := blk_below hH2 b3
  have HB3 := Lib.hid (bthen bb2 b3)
  have hrow3 := hrow.below HB3.out
  have hlt3 := blk_lt hA3
  have hlh3 := blk_lt hH3
  have q0 := ints_zero hrow3 (by omega)
  have q1 := ints_suc hrow3 0 (by omega)
  have q2 := ints_suc hrow3 1 (by omega)
  have q8 := ints_suc hrow3 7 (by omega)
  have q9 := ints_suc hrow3 8 (by omega)
  have q10 := ints_suc hrow3 9 (by omega)
  simp only [Nat.reduceAdd] at q0 q1 q2 q8 q9 q10
  rw [HY0.out] at q0
  rw [HY1.out] at q1
  rw [HY2.out] at q2
  rw [HY8.out] at q8
  rw [HY9.out] at q9
  rw [HY10.out] at q10
  have hlt0 : w.heap.size < w1.heap.size := hlt
  clear hA2 hH2 b2 b3 bb2 hz2 hA1 b1 hlt hs1
  go_wp2_with fail
  go_region_held3 (fun W => W.cell? ab = some (.int .i64 y0) ∧ W.cell? ⟨ab.block, ab.off + 1, none⟩ = some (.int .i64 y1) ∧ W.cell? ⟨ab.block, ab.off + 2, none⟩ = some (.int .i64 y2)) (go_keep) (fail)
  rename_i hHeld
  clear hHeld
  go_wp2_with fail
  generalize hW : World.alloc _ _ = W4d
  obtain ⟨hB4, b4, hz4⟩ := alloc1 hW
  clear hW
  obtain ⟨W4, hW4⟩ : ∃ W4, W4 = W4d.drew := ⟨_, rfl⟩
  have bd4 : Below W4d.heap.size W4d W4 := by rw [hW4]; exact ⟨rfl, rfl, rfl, Nat.le_refl _, fun _ _ => rfl⟩
  rw [← hW4]
  replace hB4 := blk_below hB4 bd4
  replace b4 := bthen b4 bd4
  clear hW4 bd4 hz4
  have b4 : Below W3.heap.size W3 W4 := b4
  have hB4 : W4.heap[W3.heap.size]? = some (.cells #[.bool true, .bool mk, .int .i64 y1, .int .i64 y2, .int .i64 0, .slice none 0 0] 28 (0, 0)) := hB4
  have hA4 := blk_below hA3 b4
  have hH4 := blk_below hH3 b4
  have hrow4 := hrow3.below b4
  have HB4 := Lib.hid (bthen HB3.out b4)
  have hlt4 := blk_lt hB4
  obtain ⟨u0, u1, u2, u3, u4, u5, uf⟩ := six hB4
  clear b4 hA3 hH3 hrow3 q0 q1 q2 q8 q9 q10 k1 k2
  refine (intAt2_at rest _ _ _ 3 3 _ hrow4 HRB.out (by omega) (by omega) rfl).mono ?_
  rintro e w' ⟨rfl, rfl⟩
  rw [HSQ.out]
  go_wp2_with fail
  generalize hX : World.setCell _ _ _ = X5
  have hB5 := blk_put hB4 4 (.int .i64 sq)
  have c5 := Chg.set (fun b => b = W3.heap.size) W4 (p := ⟨W3.heap.size, 4, none⟩) rfl (.int .i64 sq)
  rw [hX] at hB5 c5
  have hB5 : X5.heap[W3.heap.size]? = some (.cells #[.bool true, .bool mk, .int .i64 y1, .int .i64 y2, .int .i64 sq, .slice none 0 0] 28 (0, 0)) := by simpa using hB5
  have hA5 := c5.blk hA4 (by omega)
  have hH5 := c5.blk hH4 (by omega)
  have hg3 : w.heap.size < W3.heap.size := hlt3
  have HB5 := Lib.hid (HB4.out.trans (c5.below HB4.out.size (fun i hi => by omega)))
  have hrow5 := hrow.below HB5.out
  have hlt5 := blk_lt hB5
  have q8 := ints_suc hrow5 7 (by omega)
  simp only [Nat.reduceAdd] at q8
  rw [HY8.out] at q8
  clear hX c5 hB4 hA4 hH4 hrow4 u0 u1 u2 u3 u4 u5 uf hlt4
  obtain ⟨u0, u1, u2, u3, u4, u5, uf⟩ := six hB5
  obtain ⟨z0, z1, z2, zf⟩ := tri hH5
  refine (intAt3_at rest _ _ _ 5 5 _ hrow5 HRB.out (by omega) (by omega) rfl).mono ?_
  rintro e w' ⟨rfl, rfl⟩
  rw [HT.out]
  go_wp2_with fail
  refine (baseValid_any _ _ _).mono ?_
  rintro e w' ⟨rfl, rfl⟩
  rw [HBV.out]
  go_wp2_with fail
  refine (UnpackBytes_any body AR cR _ _ (hrw.below HB5.out) HBDB.out (by omega)).mono ?_
  rintro e w6 ⟨v6, rfl, _, hb6⟩
  rw [HUN.out]
  dsimp only [Option.isSome]
  have HB6 := Lib.hid (bthen HB5.out hb6)
  have hA6 := blk_below hA5 hb6
  obtain ⟨x0, x1, x2, x3, x4, x5, xf⟩ := six hA6
  have hltA := blk_lt hA6
  clear hb6
  go_wp2
  refine bodyPost_ret (v := .tuple #[BZ, .int .i64 0, .iface 57 (.pointer (some ⟨w6.heap.size, 0, none⟩))]) (by simp [results, Tryd.results22, go_sem, x0, x1, x2, x3, x4, x5, hltA]) rfl (NoBat.mk ⟨_, rfl⟩ ?_)
  exact bthen (HB6.out.trans (zeroB.below HB6.out.size (fun i hi => by omega))) (bal _ _)
end Go.Proofs.YtgnjnpfeofhniaaDoor
