/- The batch at a place where there are enough bytes: the reference. The batch at a place: the reference, its records; BatchFrom of the reference. BatchFrom of the reference. -/
import Derived.Test.YtomcjjehfocbmaaBa
import Derived.Test.YtomcjjehfocbmaaLf
import Derived.Test.YtomcjjehfocbmaaBv
import Derived.Test.YtomcjjehfocbmaaBi
import Derived.Test.YtomcjjehfocbmaaBf
namespace Go.Proofs.Ytomcjjehfocbmaa
set_option linter.unusedVariables false
set_option linter.unusedSimpArgs false
section
open Go.RowKit

def FromRes (l : List Int) (p : Nat) (w : World) (e : Ending) (w' : World) : Prop :=
  (rdBat l p = none ∧ (∃ a b c d f A n k, e = .returned (.tuple #[.agg #[.bool a, .bool b, .int .i64 c, .int .i64 d, .int .i64 f, .slice A n k], .bool false])) ∧ Below w.heap.size w w') ∨
    ∃ b A c, rdBat l p = some b ∧ e = .returned (.tuple #[BV b A c, .bool true]) ∧ XRecs 3 85 w' (fun g => w.heap.size ≤ g) A c b.recs ∧ Below w.heap.size w w'
theorem FromRes.no {l : List Int} {p : Nat} {w W : World} {a b : Bool} {c d f : Int} {A : Option Addr} {n k : Nat} (h : rdBat l p = none) (hb : Below w.heap.size w W) : FromRes l p w (.returned (.tuple #[.agg #[.bool a, .bool b, .int .i64 c, .int .i64 d, .int .i64 f, .slice A n k], .bool false])) W :=
  .inl ⟨h, ⟨_, _, _, _, _, _, _, _, rfl⟩, hb⟩
theorem FromRes.yes {l : List Int} {p : Nat} {w W : World} {b : Bat} {A : Option Addr} {c : Nat} (h : rdBat l p = some b) (hx : XRecs 3 85 W (fun g => w.heap.size ≤ g) A c b.recs) (hb : Below w.heap.size w W) : FromRes l p w (.returned (.tuple #[BV b A c, .bool true])) W :=
  .inr ⟨b, A, c, h, rfl, hx, hb⟩
theorem two_rem {x : Int} (h0 : 0 ≤ x) (h3 : x ≤ 3) : ((x.tmod 2 == 1) = decide (x % 2 = 1) ∧ (x.tdiv 2 == 1) = decide (x / 2 = 1)) ∧ ((x % 2 == 1) = decide (x % 2 = 1) ∧ (x / 2 == 1) = decide (x / 2 = 1)) := by
  obtain rfl | rfl | rfl | rfl : x = 0 ∨ x = 1 ∨ x = 2 ∨ x = 3 := by omega
  all_goals exact ⟨⟨by decide, by decide⟩, by decide, by decide⟩

set_option maxRecDepth 100000 in
set_option maxHeartbeats 4000000 in
theorem l5From_sum (l : List Int) (A : Option Addr) (c : Nat) (F : Nat → Prop) (p m : Nat) (w : World) (h : Ints w F A c l) (hb : bytesB l = true) (hn : l.length ≤ 4194304) (hp : p + 18 ≤ l.length) (hm0 : num2 l (p + 3) = (m : Int)) (h11 : 11 ≤ m) (hpm : p + 7 + m ≤ l.length) (hsum : num2 l (p + 5) ≠ sumB (restAt l p)) :
    Calls Try.prog 64 #[.slice A l.length c, .int .i64 (p : Int), .int .i64 ((p : Int) + 7 + (m : Int))] w (FromRes l p w) := by
  have HQ := Lib.hid (none_sum hsum)
  have hl := h.1
  have hc := h.2.1
  have hbd := h.bound (bnd_int .i64)
  have hm1 : m ≤ 65535 := by have := (num2_range hb (p + 3)).2; omega
  obtain ⟨o, ho⟩ : ∃ o, o = num3 l p := ⟨_, rfl⟩
  obtain ⟨s, hs⟩ : ∃ s, s = num2 l (p + 5) := ⟨_, rfl⟩
  have hor : 0 ≤ o ∧ o ≤ 16777215 := by have := num3_range hb p; omega
  have HO := Lib.hid ho.symm
  have HM := Lib.hid hm0
  have HS := Lib.hid hs.symm
  have HBY := Lib.hid hb
  obtain ⟨rest, hrest⟩ : ∃ r, r = restAt l p := ⟨_, rfl⟩
  have hrl : rest.length = m := by rw [hrest, restAt_len (by rw [hm0]; exact hpm), hm0]; rfl
  have hrb : bytesB rest = true := by rw [hrest]; exact restAt_bytes hb
  have hrow : Ints w (fun b => F b ∧ b < w.heap.size) (cutAddr A (p + 7) c 1) (c - (p + 7)) rest := by rw [hrest]; unfold restAt; exact (hbd.cut (p + 7) (by omega)).take _
  obtain ⟨ab, hab, hj1, hj2⟩ := hrow.int_at (show 0 < rest.length by omega)
  clear hj1 hj2
  have hs1 : ∀ W : World, (Instr.slice 22 (.slice A l.length c) (some (.int .i64 ((p : Int) + 7))) (some (.int .i64 ((p : Int) + 7 + (m : Int)))) none).run Try.prog W = .ok (.slice (some ab) rest.length (c - (p + 7))) W := fun W => by
    have := run_between Try.underlying22 info_intP A l.length c (p + 7) (p + 7 + m) ((p : Int) + 7) ((p : Int) + 7 + (m : Int)) (by simp) (by simp) (by omega) (by omega) W
    rw [show p + 7 + m - (p + 7) = rest.length by omega, hab] at this
    exact this
  rw [hab] at hrow
  obtain ⟨S, hS⟩ : ∃ S, S = sumB rest := ⟨_, rfl⟩
  obtain ⟨y0, hy0⟩ : ∃ y, y = rest.getD 0 0 := ⟨_, rfl⟩
  obtain ⟨y1, hy1⟩ : ∃ y, y = rest.getD 1 0 := ⟨_, rfl⟩
  obtain ⟨y2, hy2⟩ : ∃ y, y = rest.getD 2 0 := ⟨_, rfl⟩
  obtain ⟨y8, hy8⟩ : ∃ y, y = rest.getD 8 0 := ⟨_, rfl⟩
  obtain ⟨y9, hy9⟩ : ∃ y, y = rest.getD 9 0 := ⟨_, rfl⟩
  obtain ⟨y10, hy10⟩ : ∃ y, y = rest.getD 10 0 := ⟨_, rfl⟩
  have hr0 : 0 ≤ y0 ∧ y0 ≤ 255 := by rw [hy0]; exact getD_byte hrb 0
  have hr1 : 0 ≤ y1 ∧ y1 ≤ 255 := by rw [hy1]; exact getD_byte hrb 1
  have hr2 : 0 ≤ y2 ∧ y2 ≤ 255 := by rw [hy2]; exact getD_byte hrb 2
  have hr8 : 0 ≤ y8 ∧ y8 ≤ 255 := by rw [hy8]; exact getD_byte hrb 8
  have hcb : rest.length ≤ c - (p + 7) ∧ c - (p + 7) ≤ 9223372036854775807 := ⟨hrow.1, hrow.2.1⟩
  obtain ⟨hcb1, hcb2⟩ := hcb
  have n1 : (s != S) = true := by rw [hS, hs, hrest]; simpa using hsum
  clear hsum
  have HR := Lib.hid hrest
  have HRL := Lib.hid hrl
  have HRB := Lib.hid hrb
  have HSS := Lib.hid hS
  have HY0 := Lib.hid hy0.symm
  have HY1 := Lib.hid hy1.symm
  have HY2 := Lib.hid hy2.symm
  have HY8 := Lib.hid hy8.symm
  have HY9 := Lib.hid hy9.symm
  have HY10 := Lib.hid hy10.symm
  have hrm : rest.length ≤ 65535 := by omega
  have hr11 : 11 ≤ rest.length := by omega
  have j0 : 0 < rest.length := by omega
  have j1 : (1 : Int) < (rest.length : Int) := by omega
  have j2 : (2 : Int) < (rest.length : Int) := by omega
  clear hrest hrl hrb hS hy0 hy1 hy2 hy8 hy9 hy10 hab
  clear ho hs hm0 hb
  go_enter Try.func64, Try.ntmps64
  go_wp2_with fail
  generalize hW : World.alloc _ _ = W0
  obtain ⟨hA0, b0, hz0⟩ := alloc1 hW
  clear hW
  refine (l2From3_any l A c _ p (p : Int) _ (hbd.below b0) HBY.out hn (by omega) rfl).mono ?_
  rintro e w' ⟨rfl, rfl⟩
  rw [HO.out]
  go_wp2_with fail
  refine (l2From2_any l A c _ (p + 5) ((p : Int) + 5) _ (hbd.below b0) HBY.out hn (by omega) (by simp)).mono ?_
  rintro e w' ⟨rfl, rfl⟩
  rw [HS.out]
  have hrow0 := hrow.below b0
  have hlt0 := blk_lt hA0
  have HB0 := Lib.hid b0
  have q0 := ints_zero hrow0 (by omega)
  have q1 := ints_suc hrow0 0 (by omega)
  have q2 := ints_suc hrow0 1 (by omega)
  have q9 := ints_suc hrow0 8 (by omega)
  have q10 := ints_suc hrow0 9 (by omega)
  simp only [Nat.reduceAdd] at q0 q1 q2 q9 q10
  rw [HY0.out] at q0
  rw [HY1.out] at q1
  rw [HY2.out] at q2
  rw [HY9.out] at q9
  rw [HY10.out] at q10
  clear b0 hz0
  go_wp2_with fail
  refine (l2Sum_any rest _ _ _ _ hrow0 (by omega) HRB.out).mono ?_
  rintro e w' ⟨rfl, rfl⟩
  rw [← HSS.out]
  obtain ⟨x0, x1, x2, x3, x4, x5, xf⟩ := six hA0
  go_wp2
  refine bodyPost_ret (v := .tuple #[BZ, .bool false]) (by simp [results, Try.results64, go_sem, x0, x1, x2, x3, x4, x5]) rfl (FromRes.no HQ.out ?_)
  exact HB0.out.trans (zeroB.below HB0.out.size (fun i hi => by omega))
set_option maxRecDepth 100000 in
set_option maxHeartbeats 4000000 in
theorem l5From_head (l : List Int) (A : Option Addr) (c : Nat) (F : Nat → Prop) (p m : Nat) (w : World) (h : Ints w F A c l) (hb : bytesB l = true) (hn : l.length ≤ 4194304) (hp : p + 18 ≤ l.length) (hm0 : num2 l (p + 3) = (m : Int)) (h11 : 11 ≤ m) (hpm : p + 7 + m ≤ l.length) (hsum : num2 l (p + 5) = sumB (restAt l p)) (hhd : 3 < (restAt l p).getD 0 0 ∨ (restAt l p).getD 9 0 ≠ 0 ∨ (restAt l p).getD 10 0 ≠ 0) :
    Calls Try.prog 64 #[.slice A l.length c, .int .i64 (p : Int), .int .i64 ((p : Int) + 7 + (m : Int))] w (FromRes l p w) := by
  have HQ := Lib.hid (none_head hhd)
  have hl := h.1
  have hc := h.2.1
  have hbd := h.bound (bnd_int .i64)
  have hm1 : m ≤ 65535 := by have := (num2_range hb (p + 3)).2; omega
  obtain ⟨o, ho⟩ : ∃ o, o = num3 l p := ⟨_, rfl⟩
  obtain ⟨s, hs⟩ : ∃ s, s = num2 l (p + 5) := ⟨_, rfl⟩
  have hor : 0 ≤ o ∧ o ≤ 16777215 := by have := num3_range hb p; omega
  have HO := Lib.hid ho.symm
  have HM := Lib.hid hm0
  have HS := Lib.hid hs.symm
  have HBY := Lib.hid hb
  obtain ⟨rest, hrest⟩ : ∃ r, r = restAt l p := ⟨_, rfl⟩
  have hrl : rest.length = m := by rw [hrest, restAt_len (by rw [hm0]; exact hpm), hm0]; rfl
  have hrb : bytesB rest = true := by rw [hrest]; exact restAt_bytes hb
  have hrow : Ints w (fun b => F b ∧ b < w.heap.size) (cutAddr A (p + 7) c 1) (c - (p + 7)) rest := by rw [hrest]; unfold restAt; exact (hbd.cut (p + 7) (by omega)).take _
  obtain ⟨ab, hab, hj1, hj2⟩ := hrow.int_at (show 0 < rest.length by omega)
  clear hj1 hj2
  have hs1 : ∀ W : World, (Instr.slice 22 (.slice A l.length c) (some (.int .i64 ((p : Int) + 7))) (some (.int .i64 ((p : Int) + 7 + (m : Int)))) none).run Try.prog W = .ok (.slice (some ab) rest.length (c - (p + 7))) W := fun W => by
    have := run_between Try.underlying22 info_intP A l.length c (p + 7) (p + 7 + m) ((p : Int) + 7) ((p : Int) + 7 + (m : Int)) (by simp) (by simp) (by omega) (by omega) W
    rw [show p + 7 + m - (p + 7) = rest.length by omega, hab] at this
    exact this
  rw [hab] at hrow
  obtain ⟨S, hS⟩ : ∃ S, S = sumB rest := ⟨_, rfl⟩
  obtain ⟨y0, hy0⟩ : ∃ y, y = rest.getD 0 0 := ⟨_, rfl⟩
  obtain ⟨y1, hy1⟩ : ∃ y, y = rest.getD 1 0 := ⟨_, rfl⟩
  obtain ⟨y2, hy2⟩ : ∃ y, y = rest.getD 2 0 := ⟨_, rfl⟩
  obtain ⟨y8, hy8⟩ : ∃ y, y = rest.getD 8 0 := ⟨_, rfl⟩
  obtain ⟨y9, hy9⟩ : ∃ y, y = rest.getD 9 0 := ⟨_, rfl⟩
  obtain ⟨y10, hy10⟩ : ∃ y, y = rest.getD 10 0 := ⟨_, rfl⟩
  have hr0 : 0 ≤ y0 ∧ y0 ≤ 255 := by rw [hy0]; exact getD_byte hrb 0
  have hr1 : 0 ≤ y1 ∧ y1 ≤ 255 := by rw [hy1]; exact getD_byte hrb 1
  have hr2 : 0 ≤ y2 ∧ y2 ≤ 255 := by rw [hy2]; exact getD_byte hrb 2
  have hr8 : 0 ≤ y8 ∧ y8 ≤ 255 := by rw [hy8]; exact getD_byte hrb 8
  have hcb : rest.length ≤ c - (p + 7) ∧ c - (p + 7) ≤ 9223372036854775807 := ⟨hrow.1, hrow.2.1⟩
  obtain ⟨hcb1, hcb2⟩ := hcb
  have n1 : (s != S) = false := by rw [hS, hs, hrest]; simpa using hsum
  rw [← hrest, ← hy0, ← hy9, ← hy10] at hhd
  clear hsum
  have HR := Lib.hid hrest
  have HRL := Lib.hid hrl
  have HRB := Lib.hid hrb
  have HSS := Lib.hid hS
  have HY0 := Lib.hid hy0.symm
  have HY1 := Lib.hid hy1.symm
  have HY2 := Lib.hid hy2.symm
  have HY8 := Lib.hid hy8.symm
  have HY9 := Lib.hid hy9.symm
  have HY10 := Lib.hid hy10.symm
  have hrm : rest.length ≤ 65535 := by omega
  have hr11 : 11 ≤ rest.length := by omega
  have j0 : 0 < rest.length := by omega
  have j1 : (1 : Int) < (rest.length : Int) := by omega
  have j2 : (2 : Int) < (rest.length : Int) := by omega
  clear hrest hrl hrb hS hy0 hy1 hy2 hy8 hy9 hy10 hab
  by_cases g1 : 3 < y0
  · have n2 : decide (3 < y0) = true := by simpa using g1
    clear hhd
    clear ho hs hm0 hb
    go_enter Try.func64, Try.ntmps64
    go_wp2_with fail
    generalize hW : World.alloc _ _ = W0
    obtain ⟨hA0, b0, hz0⟩ := alloc1 hW
    clear hW
    refine (l2From3_any l A c _ p (p : Int) _ (hbd.below b0) HBY.out hn (by omega) rfl).mono ?_
    rintro e w' ⟨rfl, rfl⟩
    rw [HO.out]
    go_wp2_with fail
    refine (l2From2_any l A c _ (p + 5) ((p : Int) + 5) _ (hbd.below b0) HBY.out hn (by omega) (by simp)).mono ?_
    rintro e w' ⟨rfl, rfl⟩
    rw [HS.out]
    have hrow0 := hrow.below b0
    have hlt0 := blk_lt hA0
    have HB0 := Lib.hid b0
    have q0 := ints_zero hrow0 (by omega)
    have q1 := ints_suc hrow0 0 (by omega)
    have q2 := ints_suc hrow0 1 (by omega)
    have q9 := ints_suc hrow0 8 (by omega)
    have q10 := ints_suc hrow0 9 (by omega)
    simp only [Nat.reduceAdd] at q0 q1 q2 q9 q10
    rw [HY0.out] at q0
    rw [HY1.out] at q1
    rw [HY2.out] at q2
    rw [HY9.out] at q9
    rw [HY10.out] at q10
    clear b0 hz0
    go_wp2_with fail
    refine (l2Sum_any rest _ _ _ _ hrow0 (by omega) HRB.out).mono ?_
    rintro e w' ⟨rfl, rfl⟩
    rw [← HSS.out]
    obtain ⟨x0, x1, x2, x3, x4, x5, xf⟩ := six hA0
    go_wp2
    refine bodyPost_ret (v := .tuple #[BZ, .bool false]) (by simp [results, Try.results64, go_sem, x0, x1, x2, x3, x4, x5]) rfl (FromRes.no HQ.out ?_)
    exact HB0.out.trans (zeroB.below HB0.out.size (fun i hi => by omega))
  · have n2 : decide (3 < y0) = false := by simpa using g1
    by_cases g2 : y9 = 0
    · have n3 : (y9 != 0) = false := by simpa using g2
      have n4 : (y10 != 0) = true := by
        rcases hhd with h | h | h
        · exact absurd h g1
        · exact absurd g2 h
        · simpa using h
      clear hhd g2
      clear ho hs hm0 hb
      go_enter Try.func64, Try.ntmps64
      go_wp2_with fail
      generalize hW : World.alloc _ _ = W0
      obtain ⟨hA0, b0, hz0⟩ := alloc1 hW
      clear hW
      refine (l2From3_any l A c _ p (p : Int) _ (hbd.below b0) HBY.out hn (by omega) rfl).mono ?_
      rintro e w' ⟨rfl, rfl⟩
      rw [HO.out]
      go_wp2_with fail
      refine (l2From2_any l A c _ (p + 5) ((p : Int) + 5) _ (hbd.below b0) HBY.out hn (by omega) (by simp)).mono ?_
      rintro e w' ⟨rfl, rfl⟩
      rw [HS.out]
      have hrow0 := hrow.below b0
      have hlt0 := blk_lt hA0
      have HB0 := Lib.hid b0
      have q0 := ints_zero hrow0 (by omega)
      have q1 := ints_suc hrow0 0 (by omega)
      have q2 := ints_suc hrow0 1 (by omega)
      have q9 := ints_suc hrow0 8 (by omega)
      have q10 := ints_suc hrow0 9 (by omega)
      simp only [Nat.reduceAdd] at q0 q1 q2 q9 q10
      rw [HY0.out] at q0
      rw [HY1.out] at q1
      rw [HY2.out] at q2
      rw [HY9.out] at q9
      rw [HY10.out] at q10
      clear b0 hz0
      go_wp2_with fail
      refine (l2Sum_any rest _ _ _ _ hrow0 (by omega) HRB.out).mono ?_
      rintro e w' ⟨rfl, rfl⟩
      rw [← HSS.out]
      obtain ⟨x0, x1, x2, x3, x4, x5, xf⟩ := six hA0
      go_wp2
      refine bodyPost_ret (v := .tuple #[BZ, .bool false]) (by simp [results, Try.results64, go_sem, x0, x1, x2, x3, x4, x5]) rfl (FromRes.no HQ.out ?_)
      exact HB0.out.trans (zeroB.below HB0.out.size (fun i hi => by omega))
    · have n3 : (y9 != 0) = true := by simpa using g2
      clear hhd g2
      clear ho hs hm0 hb
      go_enter Try.func64, Try.ntmps64
      go_wp2_with fail
      generalize hW : World.alloc _ _ = W0
      obtain ⟨hA0, b0, hz0⟩ := alloc1 hW
      clear hW
      refine (l2From3_any l A c _ p (p : Int) _ (hbd.below b0) HBY.out hn (by omega) rfl).mono ?_
      rintro e w' ⟨rfl, rfl⟩
      rw [HO.out]
      go_wp2_with fail
      refine (l2From2_any l A c _ (p + 5) ((p : Int) + 5) _ (hbd.below b0) HBY.out hn (by omega) (by simp)).mono ?_
      rintro e w' ⟨rfl, rfl⟩
      rw [HS.out]
      have hrow0 := hrow.below b0
      have hlt0 := blk_lt hA0
      have HB0 := Lib.hid b0
      have q0 := ints_zero hrow0 (by omega)
      have q1 := ints_suc hrow0 0 (by omega)
      have q2 := ints_suc hrow0 1 (by omega)
      have q9 := ints_suc hrow0 8 (by omega)
      have q10 := ints_suc hrow0 9 (by omega)
      simp only [Nat.reduceAdd] at q0 q1 q2 q9 q10
      rw [HY0.out] at q0
      rw [HY1.out] at q1
      rw [HY2.out] at q2
      rw [HY9.out] at q9
      rw [HY10.out] at q10
      clear b0 hz0
      go_wp2_with fail
      refine (l2Sum_any rest _ _ _ _ hrow0 (by omega) HRB.out).mono ?_
      rintro e w' ⟨rfl, rfl⟩
      rw [← HSS.out]
      obtain ⟨x0, x1, x2, x3, x4, x5, xf⟩ := six hA0
      go_wp2
      refine bodyPost_ret (v := .tuple #[BZ, .bool false]) (by simp [results, Try.results64, go_sem, x0, x1, x2, x3, x4, x5]) rfl (FromRes.no HQ.out ?_)
      exact HB0.out.trans (zeroB.below HB0.out.size (fun i hi => by omega))
end

section
open Go.RowKit

theorem validS_lit (pk mk : Bool) (pr ep sq : Int) (rs : List Rec) (A : Option Addr) (c : Nat) (F : Nat → Prop) (W : World) (h : Recs W F A c rs) {r : Bool} (hv : batB ⟨pk, mk, pr, ep, sq, rs⟩ = r) :
    Calls Try.prog 79 #[.agg #[.bool pk, .bool mk, .int .i64 pr, .int .i64 ep, .int .i64 sq, .slice A rs.length c]] W fun e w' => e = .returned (.bool r) ∧ Below W.heap.size W w' := by
  subst hv
  exact BatchValidS_any ⟨pk, mk, pr, ep, sq, rs⟩ A c F W h
theorem bytesS_lit (pk mk : Bool) (pr ep sq : Int) (rs : List Rec) (A : Option Addr) (c : Nat) (F : Nat → Prop) (W : World) (h : Recs W F A c rs) (hv : batB ⟨pk, mk, pr, ep, sq, rs⟩ = true) {xs : List Int} (hxs : xs = batBytes ⟨pk, mk, pr, ep, sq, rs⟩) :
    Calls Try.prog 55 #[.agg #[.bool pk, .bool mk, .int .i64 pr, .int .i64 ep, .int .i64 sq, .slice A rs.length c]] W fun e w' => ∃ v, e = .returned v ∧ App (Kind.int .i64) 3 w' W.heap.size v xs ∧ Below W.heap.size W w' := by
  subst hxs
  exact l5Bytes_any ⟨pk, mk, pr, ep, sq, rs⟩ A c F W h hv
theorem same_lit (l x : List Int) (A A' : Option Addr) (c c' : Nat) (F F' : Nat → Prop) (w : World) (h : Ints w F A c l) (h' : Ints w F' A' c' x) (hn : l.length ≤ 4194304) (hx : x.length ≤ 4194304) {r : Bool} (hr : sameAt l 0 x = r) :
    Calls Try.prog 95 #[.slice A l.length c, .int .i64 0, .slice A' x.length c'] w fun e w' => e = .returned (.bool r) ∧ Below w.heap.size w w' := by
  subst hr
  exact l3Same_any l x A A' c c' F F' 0 w h h' hn (Nat.zero_le _) hx
theorem from3_lit (l : List Int) (A : Option Addr) (c : Nat) (F : Nat → Prop) (i : Nat) (I : Int) (w : World) (h : Ints w F A c l) (hb : bytesB l = true) (hn : l.length ≤ 4194304) (hi : i + 3 ≤ l.length) (hI : I = (i : Int)) {x : Int} (hx : num3 l i = x) :
    Calls Try.prog 63 #[.slice A l.length c, .int .i64 I, .int .i64 3] w fun e w' => e = .returned (.int .i64 x) ∧ w = w' := by
  subst hx; exact l2From3_any l A c F i I w h hb hn hi hI
theorem from2_lit (l : List Int) (A : Option Addr) (c : Nat) (F : Nat → Prop) (i : Nat) (I : Int) (w : World) (h : Ints w F A c l) (hb : bytesB l = true) (hn : l.length ≤ 4194304) (hi : i + 2 ≤ l.length) (hI : I = (i : Int)) {x : Int} (hx : num2 l i = x) :
    Calls Try.prog 63 #[.slice A l.length c, .int .i64 I, .int .i64 2] w fun e w' => e = .returned (.int .i64 x) ∧ w = w' := by
  subst hx; exact l2From2_any l A c F i I w h hb hn hi hI

theorem S18 {w : World} {g h : Nat} {t t' : TypeId} {v0 v1 v2 v3 v4 v5 u0 u1 u2 u3 u4 u5 : Value} (h1 : w.heap[g]? = some (.cells #[v0, v1, v2, v3, v4, v5] t (0, 0))) (h2 : w.heap[h]? = some (.cells #[u0, u1, u2, u3, u4, u5] t' (0, 0))) :
    w.cell? ⟨g, 0, none⟩ = some v0 ∧ w.cell? ⟨g, 1, none⟩ = some v1 ∧ w.cell? ⟨g, 2, none⟩ = some v2 ∧ w.cell? ⟨g, 3, none⟩ = some v3 ∧ w.cell? ⟨g, 4, none⟩ = some v4 ∧ w.cell? ⟨g, 5, none⟩ = some v5 ∧
      w.cell? ⟨h, 0, none⟩ = some u0 ∧ w.cell? ⟨h, 1, none⟩ = some u1 ∧ w.cell? ⟨h, 2, none⟩ = some u2 ∧ w.cell? ⟨h, 3, none⟩ = some u3 ∧ w.cell? ⟨h, 4, none⟩ = some u4 ∧ w.cell? ⟨h, 5, none⟩ = some u5 ∧
      w.frozen? ⟨h, 0, none⟩ = false ∧ w.frozen? ⟨h, 1, none⟩ = false ∧ w.frozen? ⟨h, 2, none⟩ = false ∧ w.frozen? ⟨h, 3, none⟩ = false ∧ w.frozen? ⟨h, 4, none⟩ = false ∧ w.frozen? ⟨h, 5, none⟩ = false := by
  obtain ⟨a0, a1, a2, a3, a4, a5, af⟩ := six h1
  obtain ⟨b0, b1, b2, b3, b4, b5, bf⟩ := six h2
  exact ⟨a0, a1, a2, a3, a4, a5, b0, b1, b2, b3, b4, b5, bf 0, bf 1, bf 2, bf 3, bf 4, bf 5⟩
def BoxR (W0 wx : World) (v : Value) (cs : Array Value) : Prop := v = .pointer (some ⟨W0.heap.size, 0, none⟩) ∧ wx.heap[W0.heap.size]? = some (.cells cs 27 (0, 0)) ∧ Below W0.heap.size W0 wx
theorem readOk_some {rows : List Int} {o t : Int} {nr : Nat} {rs : List Rec} (h : readOk rows o t nr = some rs) : rdRows rows o t nr = some (rs, rows.length) ∧ readRecs rows o t nr = rs := by
  unfold readOk at h
  unfold readRecs
  cases hq : rdRows rows o t nr with
  | none => rw [hq] at h; cases h
  | some x =>
    obtain ⟨rs', e⟩ := x
    rw [hq] at h
    dsimp only at h
    split at h
    · rename_i he
      injection h with h
      subst h he
      exact ⟨rfl, rfl⟩
    · cases h
theorem readOk_none {l rows : List Int} {p : Nat} (hr : rowsOf (restAt l p) = some rows) (h : readOk rows (num3 l p) (num3 (restAt l p) 5) ((restAt l p).getD 8 0).toNat = none) : rdBat l p = none := by
  unfold readOk at h
  cases hq : rdRows rows (num3 l p) (num3 (restAt l p) 5) ((restAt l p).getD 8 0).toNat with
  | none => exact none_recs hr hq
  | some x =>
    obtain ⟨rs', e⟩ := x
    rw [hq] at h
    dsimp only at h
    split at h
    · cases h
    · rename_i he
      exact none_end hr hq he
theorem l5Read_some (rows : List Int) (A : Option Addr) (c : Nat) (F : Nat → Prop) (nr : Nat) (o t : Int) (w : World) (h : Ints w F A c rows) (hb : bytesB rows = true) (hn : rows.length ≤ 65535) (hnr : nr ≤ 255) (ho : 0 ≤ o ∧ o ≤ 16777215) (ht : 0 ≤ t ∧ t ≤ 16777215) {rs : List Rec} (hro : readOk rows o t nr = some rs) :
    Calls Try.prog 94 #[.slice A rows.length c, .int .i64 (nr : Int), .int .i64 o, .int .i64 t] w fun e w' =>
      ∃ A7 c7 B, e = .returned (.tuple #[.slice A7 rs.length c7, .bool true]) ∧ AppX RX 85 w' (fun g => w.heap.size ≤ g) B (.slice A7 rs.length c7) rs ∧ Below w.heap.size w w' :=
  (l5Read_any rows A c F nr o t w h hb hn hnr ho ht).mono fun e w' ⟨v, B, h1, h2, h3⟩ => by
    rw [hro] at h1
    rw [(readOk_some hro).2] at h2
    obtain ⟨A7, c7, rfl, _, _⟩ := h2.toP.slice_
    exact ⟨A7, c7, B, h1, h2, h3⟩
theorem l5Read_none (rows : List Int) (A : Option Addr) (c : Nat) (F : Nat → Prop) (nr : Nat) (o t : Int) (w : World) (h : Ints w F A c rows) (hb : bytesB rows = true) (hn : rows.length ≤ 65535) (hnr : nr ≤ 255) (ho : 0 ≤ o ∧ o ≤ 16777215) (ht : 0 ≤ t ∧ t ≤ 16777215) (hro : readOk rows o t nr = none) :
    Calls Try.prog 94 #[.slice A rows.length c, .int .i64 (nr : Int), .int .i64 o, .int .i64 t] w fun e w' =>
      ∃ A7 n7 c7, e = .returned (.tuple #[.slice A7 n7 c7, .bool false]) ∧ Below w.heap.size w w' :=
  (l5Read_any rows A c F nr o t w h hb hn hnr ho ht).mono fun e w' ⟨v, B, h1, h2, h3⟩ => by
    rw [hro] at h1
    obtain ⟨A7, c7, rfl, _, _⟩ := h2.toP.slice_
    exact ⟨A7, _, c7, h1, h3⟩

set_option maxRecDepth 100000 in
set_option maxHeartbeats 4000000 in
theorem l5From_plain (l : List Int) (A : Option Addr) (c : Nat) (F : Nat → Prop) (p m : Nat) (w : World) (h : Ints w F A c l) (hb : bytesB l = true) (hn : l.length ≤ 4194304) (hp : p + 18 ≤ l.length) (hm0 : num2 l (p + 3) = (m : Int)) (h11 : 11 ≤ m) (hpm : p + 7 + m ≤ l.length) (hsum : num2 l (p + 5) = sumB (restAt l p)) (hhd : (restAt l p).getD 0 0 ≤ 3 ∧ (restAt l p).getD 9 0 = 0 ∧ (restAt l p).getD 10 0 = 0) (hpkd : decide ((restAt l p).getD 0 0 % 2 = 1) = false) :
    Calls Try.prog 64 #[.slice A l.length c, .int .i64 (p : Int), .int .i64 ((p : Int) + 7 + (m : Int))] w (FromRes l p w) := by
  have hl := h.1
  have hc := h.2.1
  have hbd := h.bound (bnd_int .i64)
  have hm1 : m ≤ 65535 := by have := (num2_range hb (p + 3)).2; omega
  obtain ⟨o, ho⟩ : ∃ o, o = num3 l p := ⟨_, rfl⟩
  obtain ⟨s, hs⟩ : ∃ s, s = num2 l (p + 5) := ⟨_, rfl⟩
  have hor : 0 ≤ o ∧ o ≤ 16777215 := by have := num3_range hb p; omega
  have HO := Lib.hid ho.symm
  have HM := Lib.hid hm0
  have HS := Lib.hid hs.symm
  have HBY := Lib.hid hb
  obtain ⟨rest, hrest⟩ : ∃ r, r = restAt l p := ⟨_, rfl⟩
  have hrl : rest.length = m := by rw [hrest, restAt_len (by rw [hm0]; exact hpm), hm0]; rfl
  have hrb : bytesB rest = true := by rw [hrest]; exact restAt_bytes hb
  have hrow : Ints w (fun b => F b ∧ b < w.heap.size) (cutAddr A (p + 7) c 1) (c - (p + 7)) rest := by rw [hrest]; unfold restAt; exact (hbd.cut (p + 7) (by omega)).take _
  obtain ⟨ab, hab, hj1, hj2⟩ := hrow.int_at (show 0 < rest.length by omega)
  clear hj1 hj2
  have hs1 : ∀ W : World, (Instr.slice 22 (.slice A l.length c) (some (.int .i64 ((p : Int) + 7))) (some (.int .i64 ((p : Int) + 7 + (m : Int)))) none).run Try.prog W = .ok (.slice (some ab) rest.length (c - (p + 7))) W := fun W => by
    have := run_between Try.underlying22 info_intP A l.length c (p + 7) (p + 7 + m) ((p : Int) + 7) ((p : Int) + 7 + (m : Int)) (by simp) (by simp) (by omega) (by omega) W
    rw [show p + 7 + m - (p + 7) = rest.length by omega, hab] at this
    exact this
  rw [hab] at hrow
  obtain ⟨S, hS⟩ : ∃ S, S = sumB rest := ⟨_, rfl⟩
  obtain ⟨y0, hy0⟩ : ∃ y, y = rest.getD 0 0 := ⟨_, rfl⟩
  obtain ⟨y1, hy1⟩ : ∃ y, y = rest.getD 1 0 := ⟨_, rfl⟩
  obtain ⟨y2, hy2⟩ : ∃ y, y = rest.getD 2 0 := ⟨_, rfl⟩
  obtain ⟨y8, hy8⟩ : ∃ y, y = rest.getD 8 0 := ⟨_, rfl⟩
  obtain ⟨y9, hy9⟩ : ∃ y, y = rest.getD 9 0 := ⟨_, rfl⟩
  obtain ⟨y10, hy10⟩ : ∃ y, y = rest.getD 10 0 := ⟨_, rfl⟩
  have hr0 : 0 ≤ y0 ∧ y0 ≤ 255 := by rw [hy0]; exact getD_byte hrb 0
  have hr1 : 0 ≤ y1 ∧ y1 ≤ 255 := by rw [hy1]; exact getD_byte hrb 1
  have hr2 : 0 ≤ y2 ∧ y2 ≤ 255 := by rw [hy2]; exact getD_byte hrb 2
  have hr8 : 0 ≤ y8 ∧ y8 ≤ 255 := by rw [hy8]; exact getD_byte hrb 8
  have hcb : rest.length ≤ c - (p + 7) ∧ c - (p + 7) ≤ 9223372036854775807 := ⟨hrow.1, hrow.2.1⟩
  obtain ⟨hcb1, hcb2⟩ := hcb
  have n1 : (s != S) = false := by rw [hS, hs, hrest]; simpa using hsum
  rw [← hrest, ← hy0, ← hy9, ← hy10] at hhd
  rw [← hrest, ← hy0] at hpkd
  obtain ⟨hh0, hh9, hh10⟩ := hhd
  have n2 : decide (3 < y0) = false := by simpa using hh0
  have n3 : (y9 != 0) = false := by simpa using hh9
  have n4 : (y10 != 0) = false := by simpa using hh10
  obtain ⟨⟨k1, k2⟩, k3, k4⟩ := two_rem hr0.1 hh0
  rw [hpkd] at k1 k3
  have HPD := Lib.hid hpkd
  obtain ⟨mk, hmk⟩ : ∃ mk, mk = decide (y0 / 2 = 1) := ⟨_, rfl⟩
  obtain ⟨sq, hsq⟩ : ∃ sq, sq = num2 rest 3 := ⟨_, rfl⟩
  obtain ⟨t, ht⟩ : ∃ t, t = num3 rest 5 := ⟨_, rfl⟩
  rw [← hmk] at k2 k4
  have k5 : (IntKind.i64.wrap (y0.tdiv 2) == 1) = mk := by rw [Int.tdiv_eq_ediv_of_nonneg hr0.1, IntWalk.i64_in _ (by omega)]; exact k4
  have j8 : (8 : Int) < (rest.length : Int) := by omega
  have hsr : 0 ≤ sq ∧ sq ≤ 65535 := by rw [hsq]; exact num2_range hrb 3
  have htr : 0 ≤ t ∧ t ≤ 16777215 := by rw [ht]; exact num3_range hrb 5
  have HMK := Lib.hid hmk
  have HSQ := Lib.hid hsq.symm
  have HT := Lib.hid ht.symm
  have HOR := Lib.hid hor
  have HTR := Lib.hid htr
  obtain ⟨nr, rfl⟩ := Int.eq_ofNat_of_zero_le hr8.1
  have hnr : nr ≤ 255 := by omega
  obtain ⟨body, hbody⟩ : ∃ r, r = rest.drop 11 := ⟨_, rfl⟩
  have hbdl : body.length = rest.length - 11 := by rw [hbody, List.length_drop]
  have hbdb : bytesB body = true := by rw [hbody]; exact drop_bytes hrb 11
  obtain ⟨AR, hAR⟩ : ∃ x, x = cutAddr (some ab) 11 (c - (p + 7)) 1 := ⟨_, rfl⟩
  obtain ⟨cR, hcR⟩ : ∃ x, x = c - (p + 7) - 11 := ⟨_, rfl⟩
  have hrw : Ints w (fun b => F b ∧ b < w.heap.size) AR cR body := by rw [hAR, hcR, hbody]; exact hrow.cut 11 (by omega)
  have hs2 : ∀ W : World, (Instr.slice 22 (.slice (some ab) rest.length (c - (p + 7))) (some (.int .i64 11)) none none).run Try.prog W = .ok (.slice AR body.length cR) W := fun W => by
    have := run_cut Try.underlying22 info_intP (some ab) rest.length (c - (p + 7)) 11 11 rfl (by omega) W
    rw [hbdl, hAR, hcR]; exact this
  have HBDB := Lib.hid hbdb
  have hbm : body.length ≤ 65535 := by omega
  have hRO : rowsOf rest = some body := by unfold rowsOf; rw [← hy0]; rw [if_neg (of_decide_eq_false HPD.out), hbody]
  have HRO := Lib.hid (show rowsOf (restAt l p) = some body by rw [← hrest]; exact hRO)
  clear hbody hbdl hbdb hAR hcR hpkd hsum hh0 hh9 hh10 hmk hsq ht hRO
  have HR := Lib.hid hrest
  have HRL := Lib.hid hrl
  have HRB := Lib.hid hrb
  have HSS := Lib.hid hS
  have HY0 := Lib.hid hy0.symm
  have HY1 := Lib.hid hy1.symm
  have HY2 := Lib.hid hy2.symm
  have HY8 := Lib.hid hy8.symm
  have HY9 := Lib.hid hy9.symm
  have HY10 := Lib.hid hy10.symm
  have hrm : rest.length ≤ 65535 := by omega
  have hr11 : 11 ≤ rest.length := by omega
  have j0 : 0 < rest.length := by omega
  have j1 : (1 : Int) < (rest.length : Int) := by omega
  have j2 : (2 : Int) < (rest.length : Int) := by omega
  clear hrest hrl hrb hS hy0 hy1 hy2 hy8 hy9 hy10 hab
  clear ho hs hm0 hb
  go_enter Try.func64, Try.ntmps64
  go_wp2_with fail
  generalize hW : World.alloc _ _ = W0
  obtain ⟨hA0, b0, hz0⟩ := alloc1 hW
  clear hW
  refine (l2From3_any l A c _ p (p : Int) _ (hbd.below b0) HBY.out hn (by omega) rfl).mono ?_
  rintro e w' ⟨rfl, rfl⟩
  rw [HO.out]
  go_wp2_with fail
  refine (l2From2_any l A c _ (p + 5) ((p : Int) + 5) _ (hbd.below b0) HBY.out hn (by omega) (by simp)).mono ?_
  rintro e w' ⟨rfl, rfl⟩
  rw [HS.out]
  have hrow0 := hrow.below b0
  have hlt0 := blk_lt hA0
  have HB0 := Lib.hid b0
  have q0 := ints_zero hrow0 (by omega)
  have q1 := ints_suc hrow0 0 (by omega)
  have q2 := ints_suc hrow0 1 (by omega)
  have q9 := ints_suc hrow0 8 (by omega)
  have q10 := ints_suc hrow0 9 (by omega)
  simp only [Nat.reduceAdd] at q0 q1 q2 q9 q10
  rw [HY0.out] at q0
  rw [HY1.out] at q1
  rw [HY2.out] at q2
  rw [HY9.out] at q9
  rw [HY10.out] at q10
  clear b0 hz0
  go_wp2_with fail
  refine (l2Sum_any rest _ _ _ _ hrow0 (by omega) HRB.out).mono ?_
  rintro e w' ⟨rfl, rfl⟩
  rw [← HSS.out]
  have HC3 := Lib.hid (fun W (hW : Below W0.heap.size W0 W) => from2_lit rest (some ab) (c - (p + 7)) _ 3 3 W (hrow0.below hW) HRB.out (by omega) (by omega) rfl HSQ.out)
  have bD : Below W0.heap.size W0 W0.drew := ⟨rfl, rfl, rfl, Nat.le_refl _, fun _ _ => rfl⟩
  go_upto_region 5 with (fail)
  go_cut [10] (fun v wx => BoxR W0 wx v #[.bool false, .bool mk, .int .i64 y1, .int .i64 y2, .int .i64 sq, .slice none 0 0])
  case first =>
    go_region_held3 (fun W => W.cell? ab = some (.int .i64 y0) ∧ W.cell? ⟨ab.block, ab.off + 1, none⟩ = some (.int .i64 y1) ∧ W.cell? ⟨ab.block, ab.off + 2, none⟩ = some (.int .i64 y2))
      (first | (exact ⟨below_cell bD q0, below_cell bD q1, below_cell bD q2⟩) | go_keep)
      (first | (go_at_call 63; (with_reducible refine (HC3.out _ (by first | exact Below.refl _ _ | exact bD | exact bal _ _ | exact bthen bD (bal _ _) | exact (bal _ _).drew)).mono ?_); rintro ee wq ⟨rfl, rfl⟩))
    all_goals
      go_wp2_with fail
      go_meet
      first
        | exact ⟨rfl, blk_below (heap_alloc_new W0 _) ⟨rfl, rfl, rfl, Nat.le_refl _, fun _ _ => rfl⟩, bthen (bal W0 _) ⟨rfl, rfl, rfl, Nat.le_refl _, fun _ _ => rfl⟩⟩
        | exact ⟨rfl, heap_alloc_new W0.drew _, bthen bD (bal W0.drew _)⟩
  case rest =>
    obtain ⟨rfl, hB4, b4⟩ := hcut
    obtain ⟨W4, rfl⟩ : ∃ x, x = wc := ⟨_, rfl⟩
    have hA4 := blk_below hA0 b4
    have HB4 := Lib.hid (bthen HB0.out b4)
    have hrow4 := hrow0.below b4
    have hgb4 := blk_lt hB4
    clear q0 q1 q2 q9 q10 k1 k2 k3 k4 k5 hA0 hrow0 b4 bD HC3 hrow
    have hL := App.lit (Kind.int .i64) 3 W4 W4.heap.size (Nat.le_refl _)
    have hy := (hrw.below HB4.out).below (bal W4 (.cells #[] 3))
    go_wp2_with (at_builtin; go_loud (refine wpList_appF (Kind.int .i64) (xs := []) (ys := body) hL rfl _ _ 22 (.int .i64 0) 8 rfl Try.underlying22 (by kernel_rfl) rfl (bnd_int _) (onec_int _) (flat_int _) rfl rfl rfl hy (fun b hb => by simp at hb; omega) (by simp; omega) (by simp; omega) ?_))
    intro v5 w5 HA5 hc5 _
    try rw [List.nil_append] at HA5
    have b5 : Below W4.heap.size W4 w5 := (bal W4 (.cells #[] 3)).trans (hc5.below (by simp) (fun i hi => own_lit _ hi))
    obtain ⟨A5, c5, rfl, hr5⟩ := AppP.row HA5
    have hr5 := hr5.mono (F' := fun _ => True) (fun _ _ => trivial)
    have hB5 := blk_below hB4 b5
    have hA5 := blk_below hA4 b5
    have HB5 := Lib.hid (bthen HB4.out b5)
    have hrow5 := hrow4.below b5
    obtain ⟨hcc1, hcc2⟩ : body.length ≤ c5 ∧ c5 ≤ 9223372036854775807 := ⟨hr5.1, hr5.2.1⟩
    obtain ⟨u0, u1, u2, u3, u4, u5, uf⟩ := six hB5
    clear hL hy hc5 b5 HA5 hB4 hA4 hrow4 hs2 hrw
    obtain ⟨rows, hrows⟩ : ∃ r, r = body := ⟨_, rfl⟩
    rw [← hrows] at hr5 hcc1 hbm
    rw [← hrows]
    have HROWS := Lib.hid (show rowsOf (restAt l p) = some rows by rw [HRO.out, hrows])
    have HRWB := Lib.hid (show bytesB rows = true by rw [hrows]; exact HBDB.out)
    obtain ⟨A2, rfl⟩ : ∃ x, x = A5 := ⟨_, rfl⟩
    obtain ⟨c2, rfl⟩ : ∃ x, x = c5 := ⟨_, rfl⟩
    have hAl := hA5
    have hBl := hB5
    have HBl := HB5
    have hrwl := hr5
    have hrowl := hrow5
    clear hrows hA5 hB5 hr5 hrow5
    have q8 := ints_suc hrowl 7 (by omega)
    simp only [Nat.reduceAdd] at q8
    rw [HY8.out] at q8
    have hgbl := blk_lt hBl
    have hgrl := blk_lt hAl
    have HC5 := Lib.hid (fun W (hW : Below w5.heap.size w5 W) => from3_lit rest (some ab) (c - (p + 7)) _ 5 5 W (hrowl.below hW) HRB.out (by omega) (by omega) rfl HT.out)
    have bDl : Below w5.heap.size w5 w5.drew := ⟨rfl, rfl, rfl, Nat.le_refl _, fun _ _ => rfl⟩
    cases hro : readOk rows o t nr with
    | none =>
      have HQ := Lib.hid (show rdBat l p = none from readOk_none HROWS.out (by rw [HO.out, ← HR.out, HT.out, HY8.out]; simpa using hro))
      have HCR := Lib.hid (fun W (hW : Below w5.heap.size w5 W) => l5Read_none rows A2 c2 _ nr o t W (hrwl.below hW) HRWB.out (by omega) hnr HOR.out HTR.out hro)
      clear hro hrowl hrwl
      go_wp2_with fail
      go_region_held3 (fun W => W.cell? ⟨ab.block, ab.off + 8, none⟩ = some (.int .i64 (nr : Int)))
        (first | (exact below_cell bDl q8) | (exact below_cell (bthen bDl hb7) q8) | (exact below_cell hb7 q8) | go_keep)
        (first
          | (go_at_call 63; (with_reducible refine (HC5.out _ (by first | exact Below.refl _ _ | exact bDl)).mono ?_); rintro ee wq ⟨rfl, rfl⟩)
          | (go_at_call 94; (with_reducible refine (HCR.out _ (by first | exact Below.refl _ _ | exact bDl)).mono ?_); rintro ee w7 ⟨A7, n7, c7, rfl, hb7⟩))
      all_goals
        have b7 : Below w5.heap.size w5 w7 := by first | exact bthen bDl hb7 | exact hb7
        have hB7 := blk_below hBl b7
        have hA7 := blk_below hAl b7
        have HB7 := Lib.hid (bthen HBl.out b7)
        clear hb7 b7 u0 u1 u2 u3 u4 u5 uf q8 bDl
        obtain ⟨u0, u1, u2, u3, u4, u5, uf⟩ := six hB7
        have hA8 := (Chg.set (fun b => b = W0.heap.size) w7 (p := ⟨W0.heap.size, 5, none⟩) rfl (.slice A7 n7 c7)).blk hA7 (by omega)
        have HB8 := Lib.hid (HB7.out.trans ((Chg.set (fun b => b = W0.heap.size) w7 (p := ⟨W0.heap.size, 5, none⟩) rfl (.slice A7 n7 c7)).below HB7.out.size (fun i hi => by omega)))
        obtain ⟨x0, x1, x2, x3, x4, x5, xf⟩ := six hA7
        obtain ⟨y0', y1', y2', y3', y4', y5', yf'⟩ := six hA8
        clear hA8
        go_wp2
        refine bodyPost_ret (v := .tuple #[BZ, .bool false]) (by simp [results, Try.results64, go_sem, x0, x1, x2, x3, x4, x5]) rfl (FromRes.no HQ.out ?_)
        exact HB8.out.trans (zeroB.below HB8.out.size (fun i hi => by omega))
    | some rs =>
      obtain ⟨hrd, hrr⟩ := readOk_some hro
      have HRD := Lib.hid (show rdRows rows (num3 l p) (num3 (restAt l p) 5) ((restAt l p).getD 8 0).toNat = some (rs, rows.length) by rw [HO.out, ← HR.out, HT.out, HY8.out]; simpa using hrd)
      have HCR := Lib.hid (fun W (hW : Below w5.heap.size w5 W) => l5Read_some rows A2 c2 _ nr o t W (hrwl.below hW) HRWB.out (by omega) hnr HOR.out HTR.out hro)
      clear hro hrd hrr hrowl hrwl
      go_wp2_with fail
      go_region_held3 (fun W => W.cell? ⟨ab.block, ab.off + 8, none⟩ = some (.int .i64 (nr : Int)))
        (first | (exact below_cell bDl q8) | (exact below_cell (bthen bDl hb7) q8) | (exact below_cell hb7 q8) | go_keep)
        (first
          | (go_at_call 63; (with_reducible refine (HC5.out _ (by first | exact Below.refl _ _ | exact bDl)).mono ?_); rintro ee wq ⟨rfl, rfl⟩)
          | (go_at_call 94; (with_reducible refine (HCR.out _ (by first | exact Below.refl _ _ | exact bDl)).mono ?_); rintro ee w7 ⟨A7, c7, B7, rfl, HX7, hb7⟩))
      all_goals
        have b7 : Below w5.heap.size w5 w7 := by first | exact bthen bDl hb7 | exact hb7
        have HX7 := HX7.mono (P' := fun g => w5.heap.size ≤ g) (fun g hg => hg)
        have hB7 := blk_below hBl b7
        have hA7 := blk_below hAl b7
        have HB7 := Lib.hid (bthen HBl.out b7)
        clear hb7 b7 u0 u1 u2 u3 u4 u5 uf q8 bDl
        obtain ⟨u0, u1, u2, u3, u4, u5, uf⟩ := six hB7
        have c8 := Chg.set (fun b => b = W0.heap.size) w7 (p := ⟨W0.heap.size, 5, none⟩) rfl (.slice A7 rs.length c7)
        have hB8 := blk_put hB7 5 (.slice A7 rs.length c7)
        obtain ⟨X8, hX8⟩ : ∃ X, X = w7.setCell ⟨W0.heap.size, 5, none⟩ (.slice A7 rs.length c7) := ⟨_, rfl⟩
        rw [← hX8] at c8 hB8
        have hB8 : X8.heap[W0.heap.size]? = some (.cells #[.bool false, .bool mk, .int .i64 y1, .int .i64 y2, .int .i64 sq, .slice A7 rs.length c7] 27 (0, 0)) := by simpa using hB8
        have hA8 := c8.blk hA7 (by omega)
        have HB8 := Lib.hid (HB7.out.trans (c8.below HB7.out.size (fun i hi => by omega)))
        have HX8 := HX7.chg c8 (fun b _ h1 h2 => by omega)
        obtain ⟨_, _, ev, hxr⟩ := HX8.row
        injection ev with ev1 ev2 ev3
        subst ev1 ev3
        have HXR := Lib.hid hxr
        have HXE := Lib.hid hX8
        have hgb8 := blk_lt hB8
        obtain ⟨bb, hbb⟩ : ∃ b : Bat, b = ⟨false, mk, y1, y2, sq, rs⟩ := ⟨_, rfl⟩
        have hbo : batOf (restAt l p) rs = bb := by
          rw [hbb, ← HR.out]
          unfold batOf
          rw [HSQ.out, HY0.out, HY1.out, HY2.out, HPD.out, ← HMK.out]
        have hRc : ∀ W, Below X8.heap.size X8 W → Recs W (fun _ => True) A7 c7 rs := fun W hW => (hxr.toK.mono (fun _ _ => trivial)).below hW
        clear ev2 hX8 c8 hB7 hA7 HX7 HX8 hxr
        cases hv : batB bb with
        | false =>
          have HQ := Lib.hid (show rdBat l p = none from none_valid HROWS.out HRD.out (by rw [hbo]; exact hv))
          have hv2 : batB ⟨false, mk, y1, y2, sq, rs⟩ = false := by rw [← hbb]; exact hv
          have HCV := Lib.hid (validS_lit false mk y1 y2 sq rs A7 c7 _ X8 (hRc X8 (Below.refl _ _)) hv2)
          obtain ⟨r0, r1, r2, r3, r4, r5, rf⟩ := six hB8
          clear hRc hv hv2 hbo hbb
          go_wp2_with fail
          rw [← HXE.out]
          refine (HCV.out).mono ?_
          rintro ee w9 ⟨rfl, hb9⟩
          have HB9 := Lib.hid (bthen HB8.out hb9)
          have hA9 := blk_below hA8 hb9
          obtain ⟨x0, x1, x2, x3, x4, x5, xf⟩ := six hA9
          clear hb9
          go_wp2
          refine bodyPost_ret (v := .tuple #[BZ, .bool false]) (by simp [results, Try.results64, go_sem, x0, x1, x2, x3, x4, x5]) rfl (FromRes.no HQ.out ?_)
          exact HB9.out.trans (zeroB.below HB9.out.size (fun i hi => by omega))
        | true =>
          have hv2 : batB ⟨false, mk, y1, y2, sq, rs⟩ = true := by rw [← hbb]; exact hv
          have HCV := Lib.hid (validS_lit false mk y1 y2 sq rs A7 c7 _ X8 (hRc X8 (Below.refl _ _)) hv2)
          obtain ⟨xs, hxs⟩ : ∃ xs, xs = batBytes bb := ⟨_, rfl⟩
          have hxl : xs.length ≤ 414 := by rw [hxs]; exact batBytes_le hv
          obtain ⟨reg, hreg⟩ : ∃ r, r = regAt l p := ⟨_, rfl⟩
          have hregl : reg.length = 7 + m := by rw [hreg, regAt_len (by rw [HM.out]; exact hpm), HM.out]; rfl
          have hrrow : Ints w (fun b => F b ∧ b < w.heap.size) (cutAddr A p c 1) (c - p) reg := by rw [hreg]; unfold regAt; exact (hbd.cut p (by omega)).take _
          have hs3 : ∀ W : World, (Instr.slice 22 (.slice A l.length c) (some (.int .i64 (p : Int))) (some (.int .i64 ((p : Int) + 7 + (m : Int)))) none).run Try.prog W = .ok (.slice (cutAddr A p c 1) reg.length (c - p)) W := fun W => by
            have := run_between Try.underlying22 info_intP A l.length c p (p + 7 + m) (p : Int) ((p : Int) + 7 + (m : Int)) rfl (by simp) (by omega) (by omega) W
            rw [show p + 7 + m - p = reg.length by omega] at this
            exact this
          obtain ⟨AP, hAP⟩ : ∃ x, x = cutAddr A p c 1 := ⟨_, rfl⟩
          rw [← hAP] at hs3 hrrow
          obtain ⟨r0, r1, r2, r3, r4, r5, rf⟩ := six hB8
          have hpm2 : p + 7 + (num2 l (p + 3)).toNat ≤ l.length := by rw [HM.out]; exact hpm
          obtain ⟨sm, hsm⟩ : ∃ x, x = sameAt xs 0 reg := ⟨_, rfl⟩
          have HEND := Lib.hid (show if sm = true then rdBat l p = some bb else rdBat l p = none by
            split
            · rename_i h1
              exact (some_last hv hpm2 (same_whole hv hpm2 (by rw [HM.out]; exact h11) (by rw [← hxs, ← hreg, ← hsm]; exact h1))).1
            · rename_i h1
              refine none_other HROWS.out HRD.out (fun e => h1 ?_)
              rw [hbo, ← hxs, ← hreg] at e
              rw [hsm]
              exact same_not e)
          have HBBD := Lib.hid hbb
          have HXS := Lib.hid (show xs = batBytes ⟨false, mk, y1, y2, sq, rs⟩ by rw [hxs, hbb])
          have HRC := Lib.hid hRc
          have HV2 := Lib.hid hv2
          have HSM := Lib.hid hsm.symm
          have hregm : reg.length ≤ 70000 := by omega
          clear hRc hv hv2 hbo hbb hxs hreg hregl hAP hsm hpm2
          go_wp2_with fail
          rw [← HXE.out]
          refine (HCV.out).mono ?_
          rintro ee w9 ⟨rfl, hb9⟩
          have HB9 := Lib.hid (bthen HB8.out hb9)
          have hA9 := blk_below hA8 hb9
          have hB9 := blk_below hB8 hb9
          have hlt9 := blk_lt hA9
          have HX9 := Lib.hid (HXR.out.below hb9)
          have HCO := Lib.hid (fun W (hW : Below w9.heap.size w9 W) => bytesS_lit false mk y1 y2 sq rs A7 c7 _ W (HRC.out W (bthen hb9 hW)) HV2.out HXS.out)
          have HCE := Lib.hid (fun W Ax cx (hW : Below w9.heap.size w9 W) (hi : Ints W (fun _ => True) Ax cx xs) => same_lit xs reg Ax AP cx (c - p) _ _ W hi (hrrow.below (bthen HB9.out hW)) (by omega) (by omega) HSM.out)
          have bD9 : Below w9.heap.size w9 w9.drew := ⟨rfl, rfl, rfl, Nat.le_refl _, fun _ _ => rfl⟩
          clear r0 r1 r2 r3 r4 r5 rf u0 u1 u2 u3 u4 u5 uf hb9 hA8 hB8 hrrow
          obtain ⟨r0, r1, r2, r3, r4, r5, rf⟩ := six hB9
          obtain ⟨x0, x1, x2, x3, x4, x5, xf⟩ := six hA9
          have HXF := Lib.hid xf
          go_wp2_with fail
          clear n1 n2 n3 n4 hr0 hr1 hr2 j0 j1 j2 j8 hn hp hm1 h11 hpm hcb1 hcb2 hr8 hnr hrm hr11 hsr htr hgb4
          go_region_with (first
            | (go_at_call 55; go_loud (refine (HCO.out _ bD9).mono ?_; rintro ee w10 ⟨vo, rfl, HO10, hb10⟩; obtain ⟨Ax, cx, rfl, hrx⟩ := AppP.row HO10; obtain ⟨s0, s1, s2, s3, s4, s5, sf⟩ := six (blk_below hB9 (bthen bD9 hb10))))
            | (go_at_call 95; go_loud (refine (HCE.out _ _ _ (bthen bD9 hb10) (hrx.mono (fun _ _ => trivial))).mono ?_; rintro ee w11 ⟨rfl, hb11⟩; obtain ⟨t0, t1, t2, t3, t4, t5, tf⟩ := six (blk_below hB9 (bthen (bthen bD9 hb10) hb11)); obtain ⟨p0, p1, p2, p3, p4, p5, pf⟩ := six (blk_below hA9 (bthen (bthen bD9 hb10) hb11)))))
          all_goals
            have b11 := bthen (bthen bD9 hb10) hb11
            have HB11 := Lib.hid (bthen HB9.out b11)
            have HX11 := Lib.hid (HX9.out.bound.below b11)
            clear hb10 hb11 b11 bD9 HO10 hrx
            go_wp2
            have cZ := Chg.setCells (fun b => b = w.heap.size) (g := w.heap.size) rfl [.bool false, .bool mk, .int .i64 y1, .int .i64 y2, .int .i64 sq, .slice A7 rs.length c7] 0 w11
            refine bodyPost_ret (v := .tuple #[.agg #[.bool false, .bool mk, .int .i64 y1, .int .i64 y2, .int .i64 sq, .slice A7 rs.length c7], .bool sm]) (by simp [results, Try.results64, go_sem, p0, p1, p2, p3, p4, p5]) rfl ?_
            have hend := HEND.out
            cases sm with
            | true =>
              have hbb := HBBD.out
              subst hbb
              refine FromRes.yes (by simpa using hend) ((HX11.out.keep (cZ.same (fun i _ h1 h2 => by have := h1.1; omega)) cZ.size).mono (F' := fun g => w.heap.size ≤ g) (fun i hi => by have := hi.1; have := HBl.out.size; omega)) ?_
              exact HB11.out.trans (cZ.below HB11.out.size (fun i hi => by omega))
            | false =>
              refine FromRes.no (by simpa using hend) ?_
              exact HB11.out.trans (cZ.below HB11.out.size (fun i hi => by omega))
set_option maxRecDepth 100000 in
set_option maxHeartbeats 4000000 in
theorem l5From_packed (l : List Int) (A : Option Addr) (c : Nat) (F : Nat → Prop) (p m : Nat) (w : World) (h : Ints w F A c l) (hb : bytesB l = true) (hn : l.length ≤ 4194304) (hp : p + 18 ≤ l.length) (hm0 : num2 l (p + 3) = (m : Int)) (h11 : 11 ≤ m) (hpm : p + 7 + m ≤ l.length) (hsum : num2 l (p + 5) = sumB (restAt l p)) (hhd : (restAt l p).getD 0 0 ≤ 3 ∧ (restAt l p).getD 9 0 = 0 ∧ (restAt l p).getD 10 0 = 0) (hpkd : decide ((restAt l p).getD 0 0 % 2 = 1) = true) :
    Calls Try.prog 64 #[.slice A l.length c, .int .i64 (p : Int), .int .i64 ((p : Int) + 7 + (m : Int))] w (FromRes l p w) := by
  have hl := h.1
  have hc := h.2.1
  have hbd := h.bound (bnd_int .i64)
  have hm1 : m ≤ 65535 := by have := (num2_range hb (p + 3)).2; omega
  obtain ⟨o, ho⟩ : ∃ o, o = num3 l p := ⟨_, rfl⟩
  obtain ⟨s, hs⟩ : ∃ s, s = num2 l (p + 5) := ⟨_, rfl⟩
  have hor : 0 ≤ o ∧ o ≤ 16777215 := by have := num3_range hb p; omega
  have HO := Lib.hid ho.symm
  have HM := Lib.hid hm0
  have HS := Lib.hid hs.symm
  have HBY := Lib.hid hb
  obtain ⟨rest, hrest⟩ : ∃ r, r = restAt l p := ⟨_, rfl⟩
  have hrl : rest.length = m := by rw [hrest, restAt_len (by rw [hm0]; exact hpm), hm0]; rfl
  have hrb : bytesB rest = true := by rw [hrest]; exact restAt_bytes hb
  have hrow : Ints w (fun b => F b ∧ b < w.heap.size) (cutAddr A (p + 7) c 1) (c - (p + 7)) rest := by rw [hrest]; unfold restAt; exact (hbd.cut (p + 7) (by omega)).take _
  obtain ⟨ab, hab, hj1, hj2⟩ := hrow.int_at (show 0 < rest.length by omega)
  clear hj1 hj2
  have hs1 : ∀ W : World, (Instr.slice 22 (.slice A l.length c) (some (.int .i64 ((p : Int) + 7))) (some (.int .i64 ((p : Int) + 7 + (m : Int)))) none).run Try.prog W = .ok (.slice (some ab) rest.length (c - (p + 7))) W := fun W => by
    have := run_between Try.underlying22 info_intP A l.length c (p + 7) (p + 7 + m) ((p : Int) + 7) ((p : Int) + 7 + (m : Int)) (by simp) (by simp) (by omega) (by omega) W
    rw [show p + 7 + m - (p + 7) = rest.length by omega, hab] at this
    exact this
  rw [hab] at hrow
  obtain ⟨S, hS⟩ : ∃ S, S = sumB rest := ⟨_, rfl⟩
  obtain ⟨y0, hy0⟩ : ∃ y, y = rest.getD 0 0 := ⟨_, rfl⟩
  obtain ⟨y1, hy1⟩ : ∃ y, y = rest.getD 1 0 := ⟨_, rfl⟩
  obtain ⟨y2, hy2⟩ : ∃ y, y = rest.getD 2 0 := ⟨_, rfl⟩
  obtain ⟨y8, hy8⟩ : ∃ y, y = rest.getD 8 0 := ⟨_, rfl⟩
  obtain ⟨y9, hy9⟩ : ∃ y, y = rest.getD 9 0 := ⟨_, rfl⟩
  obtain ⟨y10, hy10⟩ : ∃ y, y = rest.getD 10 0 := ⟨_, rfl⟩
  have hr0 : 0 ≤ y0 ∧ y0 ≤ 255 := by rw [hy0]; exact getD_byte hrb 0
  have hr1 : 0 ≤ y1 ∧ y1 ≤ 255 := by rw [hy1]; exact getD_byte hrb 1
  have hr2 : 0 ≤ y2 ∧ y2 ≤ 255 := by rw [hy2]; exact getD_byte hrb 2
  have hr8 : 0 ≤ y8 ∧ y8 ≤ 255 := by rw [hy8]; exact getD_byte hrb 8
  have hcb : rest.length ≤ c - (p + 7) ∧ c - (p + 7) ≤ 9223372036854775807 := ⟨hrow.1, hrow.2.1⟩
  obtain ⟨hcb1, hcb2⟩ := hcb
  have n1 : (s != S) = false := by rw [hS, hs, hrest]; simpa using hsum
  rw [← hrest, ← hy0, ← hy9, ← hy10] at hhd
  rw [← hrest, ← hy0] at hpkd
  obtain ⟨hh0, hh9, hh10⟩ := hhd
  have n2 : decide (3 < y0) = false := by simpa using hh0
  have n3 : (y9 != 0) = false := by simpa using hh9
  have n4 : (y10 != 0) = false := by simpa using hh10
  obtain ⟨⟨k1, k2⟩, k3, k4⟩ := two_rem hr0.1 hh0
  rw [hpkd] at k1 k3
  have HPD := Lib.hid hpkd
  obtain ⟨mk, hmk⟩ : ∃ mk, mk = decide (y0 / 2 = 1) := ⟨_, rfl⟩
  obtain ⟨sq, hsq⟩ : ∃ sq, sq = num2 rest 3 := ⟨_, rfl⟩
  obtain ⟨t, ht⟩ : ∃ t, t = num3 rest 5 := ⟨_, rfl⟩
  rw [← hmk] at k2 k4
  have k5 : (IntKind.i64.wrap (y0.tdiv 2) == 1) = mk := by rw [Int.tdiv_eq_ediv_of_nonneg hr0.1, IntWalk.i64_in _ (by omega)]; exact k4
  have j8 : (8 : Int) < (rest.length : Int) := by omega
  have hsr : 0 ≤ sq ∧ sq ≤ 65535 := by rw [hsq]; exact num2_range hrb 3
  have htr : 0 ≤ t ∧ t ≤ 16777215 := by rw [ht]; exact num3_range hrb 5
  have HMK := Lib.hid hmk
  have HSQ := Lib.hid hsq.symm
  have HT := Lib.hid ht.symm
  have HOR := Lib.hid hor
  have HTR := Lib.hid htr
  obtain ⟨nr, rfl⟩ := Int.eq_ofNat_of_zero_le hr8.1
  have hnr : nr ≤ 255 := by omega
  obtain ⟨body, hbody⟩ : ∃ r, r = rest.drop 11 := ⟨_, rfl⟩
  have hbdl : body.length = rest.length - 11 := by rw [hbody, List.length_drop]
  have hbdb : bytesB body = true := by rw [hbody]; exact drop_bytes hrb 11
  obtain ⟨AR, hAR⟩ : ∃ x, x = cutAddr (some ab) 11 (c - (p + 7)) 1 := ⟨_, rfl⟩
  obtain ⟨cR, hcR⟩ : ∃ x, x = c - (p + 7) - 11 := ⟨_, rfl⟩
  have hrw : Ints w (fun b => F b ∧ b < w.heap.size) AR cR body := by rw [hAR, hcR, hbody]; exact hrow.cut 11 (by omega)
  have hs2 : ∀ W : World, (Instr.slice 22 (.slice (some ab) rest.length (c - (p + 7))) (some (.int .i64 11)) none none).run Try.prog W = .ok (.slice AR body.length cR) W := fun W => by
    have := run_cut Try.underlying22 info_intP (some ab) rest.length (c - (p + 7)) 11 11 rfl (by omega) W
    rw [hbdl, hAR, hcR]; exact this
  have HBDB := Lib.hid hbdb
  have hbm : body.length ≤ 65535 := by omega
  have hRO : rowsOf rest = unp body [] := by unfold rowsOf; rw [← hy0]; rw [if_pos (of_decide_eq_true HPD.out), hbody]
  have HRO := Lib.hid (show rowsOf (restAt l p) = unp body [] by rw [← hrest]; exact hRO)
  clear hbody hbdl hbdb hAR hcR hpkd hsum hh0 hh9 hh10 hmk hsq ht hRO
  have HR := Lib.hid hrest
  have HRL := Lib.hid hrl
  have HRB := Lib.hid hrb
  have HSS := Lib.hid hS
  have HY0 := Lib.hid hy0.symm
  have HY1 := Lib.hid hy1.symm
  have HY2 := Lib.hid hy2.symm
  have HY8 := Lib.hid hy8.symm
  have HY9 := Lib.hid hy9.symm
  have HY10 := Lib.hid hy10.symm
  have hrm : rest.length ≤ 65535 := by omega
  have hr11 : 11 ≤ rest.length := by omega
  have j0 : 0 < rest.length := by omega
  have j1 : (1 : Int) < (rest.length : Int) := by omega
  have j2 : (2 : Int) < (rest.length : Int) := by omega
  clear hrest hrl hrb hS hy0 hy1 hy2 hy8 hy9 hy10 hab
  clear ho hs hm0 hb
  go_enter Try.func64, Try.ntmps64
  go_wp2_with fail
  generalize hW : World.alloc _ _ = W0
  obtain ⟨hA0, b0, hz0⟩ := alloc1 hW
  clear hW
  refine (l2From3_any l A c _ p (p : Int) _ (hbd.below b0) HBY.out hn (by omega) rfl).mono ?_
  rintro e w' ⟨rfl, rfl⟩
  rw [HO.out]
  go_wp2_with fail
  refine (l2From2_any l A c _ (p + 5) ((p : Int) + 5) _ (hbd.below b0) HBY.out hn (by omega) (by simp)).mono ?_
  rintro e w' ⟨rfl, rfl⟩
  rw [HS.out]
  have hrow0 := hrow.below b0
  have hlt0 := blk_lt hA0
  have HB0 := Lib.hid b0
  have q0 := ints_zero hrow0 (by omega)
  have q1 := ints_suc hrow0 0 (by omega)
  have q2 := ints_suc hrow0 1 (by omega)
  have q9 := ints_suc hrow0 8 (by omega)
  have q10 := ints_suc hrow0 9 (by omega)
  simp only [Nat.reduceAdd] at q0 q1 q2 q9 q10
  rw [HY0.out] at q0
  rw [HY1.out] at q1
  rw [HY2.out] at q2
  rw [HY9.out] at q9
  rw [HY10.out] at q10
  clear b0 hz0
  go_wp2_with fail
  refine (l2Sum_any rest _ _ _ _ hrow0 (by omega) HRB.out).mono ?_
  rintro e w' ⟨rfl, rfl⟩
  rw [← HSS.out]
  have HC3 := Lib.hid (fun W (hW : Below W0.heap.size W0 W) => from2_lit rest (some ab) (c - (p + 7)) _ 3 3 W (hrow0.below hW) HRB.out (by omega) (by omega) rfl HSQ.out)
  have bD : Below W0.heap.size W0 W0.drew := ⟨rfl, rfl, rfl, Nat.le_refl _, fun _ _ => rfl⟩
  go_upto_region 5 with (fail)
  go_cut [10] (fun v wx => BoxR W0 wx v #[.bool true, .bool mk, .int .i64 y1, .int .i64 y2, .int .i64 sq, .slice none 0 0])
  case first =>
    go_region_held3 (fun W => W.cell? ab = some (.int .i64 y0) ∧ W.cell? ⟨ab.block, ab.off + 1, none⟩ = some (.int .i64 y1) ∧ W.cell? ⟨ab.block, ab.off + 2, none⟩ = some (.int .i64 y2))
      (first | (exact ⟨below_cell bD q0, below_cell bD q1, below_cell bD q2⟩) | go_keep)
      (first | (go_at_call 63; (with_reducible refine (HC3.out _ (by first | exact Below.refl _ _ | exact bD | exact bal _ _ | exact bthen bD (bal _ _) | exact (bal _ _).drew)).mono ?_); rintro ee wq ⟨rfl, rfl⟩))
    all_goals
      go_wp2_with fail
      go_meet
      first
        | exact ⟨rfl, blk_below (heap_alloc_new W0 _) ⟨rfl, rfl, rfl, Nat.le_refl _, fun _ _ => rfl⟩, bthen (bal W0 _) ⟨rfl, rfl, rfl, Nat.le_refl _, fun _ _ => rfl⟩⟩
        | exact ⟨rfl, heap_alloc_new W0.drew _, bthen bD (bal W0.drew _)⟩
  case rest =>
    obtain ⟨rfl, hB4, b4⟩ := hcut
    obtain ⟨W4, rfl⟩ : ∃ x, x = wc := ⟨_, rfl⟩
    have hA4 := blk_below hA0 b4
    have HB4 := Lib.hid (bthen HB0.out b4)
    have hrow4 := hrow0.below b4
    have hgb4 := blk_lt hB4
    clear q0 q1 q2 q9 q10 k1 k2 k3 k4 k5 hA0 hrow0 b4 bD HC3 hrow
    have hL := App.lit (Kind.int .i64) 3 W4 W4.heap.size (Nat.le_refl _)
    have hy := (hrw.below HB4.out).below (bal W4 (.cells #[] 3))
    go_wp2_with (at_builtin; go_loud (refine wpList_appF (Kind.int .i64) (xs := []) (ys := body) hL rfl _ _ 22 (.int .i64 0) 8 rfl Try.underlying22 (by kernel_rfl) rfl (bnd_int _) (onec_int _) (flat_int _) rfl rfl rfl hy (fun b hb => by simp at hb; omega) (by simp; omega) (by simp; omega) ?_))
    intro v5 w5 HA5 hc5 _
    try rw [List.nil_append] at HA5
    have b5 : Below W4.heap.size W4 w5 := (bal W4 (.cells #[] 3)).trans (hc5.below (by simp) (fun i hi => own_lit _ hi))
    obtain ⟨A5, c5, rfl, hr5⟩ := AppP.row HA5
    have hr5 := hr5.mono (F' := fun _ => True) (fun _ _ => trivial)
    have hB5 := blk_below hB4 b5
    have hA5 := blk_below hA4 b5
    have HB5 := Lib.hid (bthen HB4.out b5)
    have hrow5 := hrow4.below b5
    obtain ⟨hcc1, hcc2⟩ : body.length ≤ c5 ∧ c5 ≤ 9223372036854775807 := ⟨hr5.1, hr5.2.1⟩
    obtain ⟨u0, u1, u2, u3, u4, u5, uf⟩ := six hB5
    clear hL hy hc5 b5 HA5 hB4 hA4 hrow4 hs2 hrw
    cases hun : unp body [] with
    | none =>
      have HQ := Lib.hid (show rdBat l p = none from none_rows (by rw [HRO.out]; exact hun))
      have HUN := Lib.hid hun
      clear hun
      go_wp2_with fail
      refine (l4Unpack_any body _ _ _ _ hr5 HBDB.out (by omega)).mono ?_
      rintro e w6 ⟨v6, rfl, HV6, hb6⟩
      rw [HUN.out]
      dsimp only [Option.isSome]
      obtain ⟨A6, c6, rfl, _⟩ := AppP.row HV6
      have HB6 := Lib.hid (bthen HB5.out hb6)
      have hA6 := blk_below hA5 hb6
      obtain ⟨x0, x1, x2, x3, x4, x5, xf⟩ := six hA6
      clear hb6 HV6
      go_wp2
      refine bodyPost_ret (v := .tuple #[BZ, .bool false]) (by simp [results, Try.results64, go_sem, x0, x1, x2, x3, x4, x5]) rfl (FromRes.no HQ.out ?_)
      exact HB6.out.trans (zeroB.below HB6.out.size (fun i hi => by omega))
    | some rows =>
      have HROWS := Lib.hid (show rowsOf (restAt l p) = some rows by rw [HRO.out]; exact hun)
      have HUN := Lib.hid hun
      have hup : upOut body = rows := by unfold upOut; rw [hun]; rfl
      have HRWB := Lib.hid (unp_bytes HBDB.out hun)
      have hrwm : rows.length ≤ 65535 := by have := unp_len hun; omega
      clear hun
      go_wp2_with fail
      refine (l4Unpack_any body _ _ _ _ hr5 HBDB.out (by omega)).mono ?_
      rintro e w6 ⟨v6, rfl, HV6, hb6⟩
      rw [HUN.out]
      dsimp only [Option.isSome]
      rw [hup] at HV6
      obtain ⟨A2, c2, rfl, hr6⟩ := AppP.row HV6
      have hrwl := hr6.mono (F' := fun _ => True) (fun _ _ => trivial)
      have hAl := blk_below hA5 hb6
      have hBl := blk_below hB5 hb6
      have HBl := Lib.hid (bthen HB5.out hb6)
      have hrowl := hrow5.below hb6
      obtain ⟨hrw1, hrw2⟩ : rows.length ≤ c2 ∧ c2 ≤ 9223372036854775807 := ⟨hr6.1, hr6.2.1⟩
      clear hup HV6 hr6 hb6 hA5 hB5 hr5 hrow5 u0 u1 u2 u3 u4 u5 uf
      obtain ⟨u0, u1, u2, u3, u4, u5, uf⟩ := six hBl
      have q8 := ints_suc hrowl 7 (by omega)
      simp only [Nat.reduceAdd] at q8
      rw [HY8.out] at q8
      have hgbl := blk_lt hBl
      have hgrl := blk_lt hAl
      have HC5 := Lib.hid (fun W (hW : Below w6.heap.size w6 W) => from3_lit rest (some ab) (c - (p + 7)) _ 5 5 W (hrowl.below hW) HRB.out (by omega) (by omega) rfl HT.out)
      have bDl : Below w6.heap.size w6 w6.drew := ⟨rfl, rfl, rfl, Nat.le_refl _, fun _ _ => rfl⟩
      cases hro : readOk rows o t nr with
      | none =>
        have HQ := Lib.hid (show rdBat l p = none from readOk_none HROWS.out (by rw [HO.out, ← HR.out, HT.out, HY8.out]; simpa using hro))
        have HCR := Lib.hid (fun W (hW : Below w6.heap.size w6 W) => l5Read_none rows A2 c2 _ nr o t W (hrwl.below hW) HRWB.out (by omega) hnr HOR.out HTR.out hro)
        clear hro hrowl hrwl
        go_wp2_with fail
        go_region_held3 (fun W => W.cell? ⟨ab.block, ab.off + 8, none⟩ = some (.int .i64 (nr : Int)))
          (first | (exact below_cell bDl q8) | (exact below_cell (bthen bDl hb7) q8) | (exact below_cell hb7 q8) | go_keep)
          (first
            | (go_at_call 63; (with_reducible refine (HC5.out _ (by first | exact Below.refl _ _ | exact bDl)).mono ?_); rintro ee wq ⟨rfl, rfl⟩)
            | (go_at_call 94; (with_reducible refine (HCR.out _ (by first | exact Below.refl _ _ | exact bDl)).mono ?_); rintro ee w7 ⟨A7, n7, c7, rfl, hb7⟩))
        all_goals
          have b7 : Below w6.heap.size w6 w7 := by first | exact bthen bDl hb7 | exact hb7
          have hB7 := blk_below hBl b7
          have hA7 := blk_below hAl b7
          have HB7 := Lib.hid (bthen HBl.out b7)
          clear hb7 b7 u0 u1 u2 u3 u4 u5 uf q8 bDl
          obtain ⟨u0, u1, u2, u3, u4, u5, uf⟩ := six hB7
          have hA8 := (Chg.set (fun b => b = W0.heap.size) w7 (p := ⟨W0.heap.size, 5, none⟩) rfl (.slice A7 n7 c7)).blk hA7 (by omega)
          have HB8 := Lib.hid (HB7.out.trans ((Chg.set (fun b => b = W0.heap.size) w7 (p := ⟨W0.heap.size, 5, none⟩) rfl (.slice A7 n7 c7)).below HB7.out.size (fun i hi => by omega)))
          obtain ⟨x0, x1, x2, x3, x4, x5, xf⟩ := six hA7
          obtain ⟨y0', y1', y2', y3', y4', y5', yf'⟩ := six hA8
          clear hA8
          go_wp2
          refine bodyPost_ret (v := .tuple #[BZ, .bool false]) (by simp [results, Try.results64, go_sem, x0, x1, x2, x3, x4, x5]) rfl (FromRes.no HQ.out ?_)
          exact HB8.out.trans (zeroB.below HB8.out.size (fun i hi => by omega))
      | some rs =>
        obtain ⟨hrd, hrr⟩ := readOk_some hro
        have HRD := Lib.hid (show rdRows rows (num3 l p) (num3 (restAt l p) 5) ((restAt l p).getD 8 0).toNat = some (rs, rows.length) by rw [HO.out, ← HR.out, HT.out, HY8.out]; simpa using hrd)
        have HCR := Lib.hid (fun W (hW : Below w6.heap.size w6 W) => l5Read_some rows A2 c2 _ nr o t W (hrwl.below hW) HRWB.out (by omega) hnr HOR.out HTR.out hro)
        clear hro hrd hrr hrowl hrwl
        go_wp2_with fail
        go_region_held3 (fun W => W.cell? ⟨ab.block, ab.off + 8, none⟩ = some (.int .i64 (nr : Int)))
          (first | (exact below_cell bDl q8) | (exact below_cell (bthen bDl hb7) q8) | (exact below_cell hb7 q8) | go_keep)
          (first
            | (go_at_call 63; (with_reducible refine (HC5.out _ (by first | exact Below.refl _ _ | exact bDl)).mono ?_); rintro ee wq ⟨rfl, rfl⟩)
            | (go_at_call 94; (with_reducible refine (HCR.out _ (by first | exact Below.refl _ _ | exact bDl)).mono ?_); rintro ee w7 ⟨A7, c7, B7, rfl, HX7, hb7⟩))
        all_goals
          have b7 : Below w6.heap.size w6 w7 := by first | exact bthen bDl hb7 | exact hb7
          have HX7 := HX7.mono (P' := fun g => w6.heap.size ≤ g) (fun g hg => hg)
          have hB7 := blk_below hBl b7
          have hA7 := blk_below hAl b7
          have HB7 := Lib.hid (bthen HBl.out b7)
          clear hb7 b7 u0 u1 u2 u3 u4 u5 uf q8 bDl
          obtain ⟨u0, u1, u2, u3, u4, u5, uf⟩ := six hB7
          have c8 := Chg.set (fun b => b = W0.heap.size) w7 (p := ⟨W0.heap.size, 5, none⟩) rfl (.slice A7 rs.length c7)
          have hB8 := blk_put hB7 5 (.slice A7 rs.length c7)
          obtain ⟨X8, hX8⟩ : ∃ X, X = w7.setCell ⟨W0.heap.size, 5, none⟩ (.slice A7 rs.length c7) := ⟨_, rfl⟩
          rw [← hX8] at c8 hB8
          have hB8 : X8.heap[W0.heap.size]? = some (.cells #[.bool true, .bool mk, .int .i64 y1, .int .i64 y2, .int .i64 sq, .slice A7 rs.length c7] 27 (0, 0)) := by simpa using hB8
          have hA8 := c8.blk hA7 (by omega)
          have HB8 := Lib.hid (HB7.out.trans (c8.below HB7.out.size (fun i hi => by omega)))
          have HX8 := HX7.chg c8 (fun b _ h1 h2 => by omega)
          obtain ⟨_, _, ev, hxr⟩ := HX8.row
          injection ev with ev1 ev2 ev3
          subst ev1 ev3
          have HXR := Lib.hid hxr
          have HXE := Lib.hid hX8
          have hgb8 := blk_lt hB8
          obtain ⟨bb, hbb⟩ : ∃ b : Bat, b = ⟨true, mk, y1, y2, sq, rs⟩ := ⟨_, rfl⟩
          have hbo : batOf (restAt l p) rs = bb := by
            rw [hbb, ← HR.out]
            unfold batOf
            rw [HSQ.out, HY0.out, HY1.out, HY2.out, HPD.out, ← HMK.out]
          have hRc : ∀ W, Below X8.heap.size X8 W → Recs W (fun _ => True) A7 c7 rs := fun W hW => (hxr.toK.mono (fun _ _ => trivial)).below hW
          clear ev2 hX8 c8 hB7 hA7 HX7 HX8 hxr
          cases hv : batB bb with
          | false =>
            have HQ := Lib.hid (show rdBat l p = none from none_valid HROWS.out HRD.out (by rw [hbo]; exact hv))
            have hv2 : batB ⟨true, mk, y1, y2, sq, rs⟩ = false := by rw [← hbb]; exact hv
            have HCV := Lib.hid (validS_lit true mk y1 y2 sq rs A7 c7 _ X8 (hRc X8 (Below.refl _ _)) hv2)
            obtain ⟨r0, r1, r2, r3, r4, r5, rf⟩ := six hB8
            clear hRc hv hv2 hbo hbb
            go_wp2_with fail
            rw [← HXE.out]
            refine (HCV.out).mono ?_
            rintro ee w9 ⟨rfl, hb9⟩
            have HB9 := Lib.hid (bthen HB8.out hb9)
            have hA9 := blk_below hA8 hb9
            obtain ⟨x0, x1, x2, x3, x4, x5, xf⟩ := six hA9
            clear hb9
            go_wp2
            refine bodyPost_ret (v := .tuple #[BZ, .bool false]) (by simp [results, Try.results64, go_sem, x0, x1, x2, x3, x4, x5]) rfl (FromRes.no HQ.out ?_)
            exact HB9.out.trans (zeroB.below HB9.out.size (fun i hi => by omega))
          | true =>
            have hv2 : batB ⟨true, mk, y1, y2, sq, rs⟩ = true := by rw [← hbb]; exact hv
            have HCV := Lib.hid (validS_lit true mk y1 y2 sq rs A7 c7 _ X8 (hRc X8 (Below.refl _ _)) hv2)
            obtain ⟨xs, hxs⟩ : ∃ xs, xs = batBytes bb := ⟨_, rfl⟩
            have hxl : xs.length ≤ 414 := by rw [hxs]; exact batBytes_le hv
            obtain ⟨reg, hreg⟩ : ∃ r, r = regAt l p := ⟨_, rfl⟩
            have hregl : reg.length = 7 + m := by rw [hreg, regAt_len (by rw [HM.out]; exact hpm), HM.out]; rfl
            have hrrow : Ints w (fun b => F b ∧ b < w.heap.size) (cutAddr A p c 1) (c - p) reg := by rw [hreg]; unfold regAt; exact (hbd.cut p (by omega)).take _
            have hs3 : ∀ W : World, (Instr.slice 22 (.slice A l.length c) (some (.int .i64 (p : Int))) (some (.int .i64 ((p : Int) + 7 + (m : Int)))) none).run Try.prog W = .ok (.slice (cutAddr A p c 1) reg.length (c - p)) W := fun W => by
              have := run_between Try.underlying22 info_intP A l.length c p (p + 7 + m) (p : Int) ((p : Int) + 7 + (m : Int)) rfl (by simp) (by omega) (by omega) W
              rw [show p + 7 + m - p = reg.length by omega] at this
              exact this
            obtain ⟨AP, hAP⟩ : ∃ x, x = cutAddr A p c 1 := ⟨_, rfl⟩
            rw [← hAP] at hs3 hrrow
            obtain ⟨r0, r1, r2, r3, r4, r5, rf⟩ := six hB8
            have hpm2 : p + 7 + (num2 l (p + 3)).toNat ≤ l.length := by rw [HM.out]; exact hpm
            obtain ⟨sm, hsm⟩ : ∃ x, x = sameAt xs 0 reg := ⟨_, rfl⟩
            have HEND := Lib.hid (show if sm = true then rdBat l p = some bb else rdBat l p = none by
              split
              · rename_i h1
                exact (some_last hv hpm2 (same_whole hv hpm2 (by rw [HM.out]; exact h11) (by rw [← hxs, ← hreg, ← hsm]; exact h1))).1
              · rename_i h1
                refine none_other HROWS.out HRD.out (fun e => h1 ?_)
                rw [hbo, ← hxs, ← hreg] at e
                rw [hsm]
                exact same_not e)
            have HBBD := Lib.hid hbb
            have HXS := Lib.hid (show xs = batBytes ⟨true, mk, y1, y2, sq, rs⟩ by rw [hxs, hbb])
            have HRC := Lib.hid hRc
            have HV2 := Lib.hid hv2
            have HSM := Lib.hid hsm.symm
            have hregm : reg.length ≤ 70000 := by omega
            clear hRc hv hv2 hbo hbb hxs hreg hregl hAP hsm hpm2
            go_wp2_with fail
            rw [← HXE.out]
            refine (HCV.out).mono ?_
            rintro ee w9 ⟨rfl, hb9⟩
            have HB9 := Lib.hid (bthen HB8.out hb9)
            have hA9 := blk_below hA8 hb9
            have hB9 := blk_below hB8 hb9
            have hlt9 := blk_lt hA9
            have HX9 := Lib.hid (HXR.out.below hb9)
            have HCO := Lib.hid (fun W (hW : Below w9.heap.size w9 W) => bytesS_lit true mk y1 y2 sq rs A7 c7 _ W (HRC.out W (bthen hb9 hW)) HV2.out HXS.out)
            have HCE := Lib.hid (fun W Ax cx (hW : Below w9.heap.size w9 W) (hi : Ints W (fun _ => True) Ax cx xs) => same_lit xs reg Ax AP cx (c - p) _ _ W hi (hrrow.below (bthen HB9.out hW)) (by omega) (by omega) HSM.out)
            have bD9 : Below w9.heap.size w9 w9.drew := ⟨rfl, rfl, rfl, Nat.le_refl _, fun _ _ => rfl⟩
            clear r0 r1 r2 r3 r4 r5 rf u0 u1 u2 u3 u4 u5 uf hb9 hA8 hB8 hrrow
            obtain ⟨r0, r1, r2, r3, r4, r5, rf⟩ := six hB9
            obtain ⟨x0, x1, x2, x3, x4, x5, xf⟩ := six hA9
            have HXF := Lib.hid xf
            go_wp2_with fail
            clear n1 n2 n3 n4 hr0 hr1 hr2 j0 j1 j2 j8 hn hp hm1 h11 hpm hcb1 hcb2 hr8 hnr hrm hr11 hsr htr hgb4
            go_region_with (first
              | (go_at_call 55; go_loud (refine (HCO.out _ bD9).mono ?_; rintro ee w10 ⟨vo, rfl, HO10, hb10⟩; obtain ⟨Ax, cx, rfl, hrx⟩ := AppP.row HO10; obtain ⟨s0, s1, s2, s3, s4, s5, sf⟩ := six (blk_below hB9 (bthen bD9 hb10))))
              | (go_at_call 95; go_loud (refine (HCE.out _ _ _ (bthen bD9 hb10) (hrx.mono (fun _ _ => trivial))).mono ?_; rintro ee w11 ⟨rfl, hb11⟩; obtain ⟨t0, t1, t2, t3, t4, t5, tf⟩ := six (blk_below hB9 (bthen (bthen bD9 hb10) hb11)); obtain ⟨p0, p1, p2, p3, p4, p5, pf⟩ := six (blk_below hA9 (bthen (bthen bD9 hb10) hb11)))))
            all_goals
              have b11 := bthen (bthen bD9 hb10) hb11
              have HB11 := Lib.hid (bthen HB9.out b11)
              have HX11 := Lib.hid (HX9.out.bound.below b11)
              clear hb10 hb11 b11 bD9 HO10 hrx
              go_wp2
              have cZ := Chg.setCells (fun b => b = w.heap.size) (g := w.heap.size) rfl [.bool true, .bool mk, .int .i64 y1, .int .i64 y2, .int .i64 sq, .slice A7 rs.length c7] 0 w11
              refine bodyPost_ret (v := .tuple #[.agg #[.bool true, .bool mk, .int .i64 y1, .int .i64 y2, .int .i64 sq, .slice A7 rs.length c7], .bool sm]) (by simp [results, Try.results64, go_sem, p0, p1, p2, p3, p4, p5]) rfl ?_
              have hend := HEND.out
              cases sm with
              | true =>
                have hbb := HBBD.out
                subst hbb
                refine FromRes.yes (by simpa using hend) ((HX11.out.keep (cZ.same (fun i _ h1 h2 => by have := h1.1; omega)) cZ.size).mono (F' := fun g => w.heap.size ≤ g) (fun i hi => by have := hi.1; have := HBl.out.size; omega)) ?_
                exact HB11.out.trans (cZ.below HB11.out.size (fun i hi => by omega))
              | false =>
                refine FromRes.no (by simpa using hend) ?_
                exact HB11.out.trans (cZ.below HB11.out.size (fun i hi => by omega))
end

section
open Go.RowKit

theorem l5From_any (l : List Int) (A : Option Addr) (c : Nat) (F : Nat → Prop) (p m : Nat) (w : World) (h : Ints w F A c l) (hb : bytesB l = true) (hn : l.length ≤ 4194304) (hp : p + 18 ≤ l.length) (hm0 : num2 l (p + 3) = (m : Int)) (h11 : 11 ≤ m) (hpm : p + 7 + m ≤ l.length) :
    Calls Try.prog 64 #[.slice A l.length c, .int .i64 (p : Int), .int .i64 ((p : Int) + 7 + (m : Int))] w (FromRes l p w) := by
  by_cases h2 : num2 l (p + 5) = sumB (restAt l p)
  · by_cases h3 : 3 < (restAt l p).getD 0 0 ∨ (restAt l p).getD 9 0 ≠ 0 ∨ (restAt l p).getD 10 0 ≠ 0
    · exact l5From_head l A c F p m w h hb hn hp hm0 h11 hpm h2 h3
    · have hhd : (restAt l p).getD 0 0 ≤ 3 ∧ (restAt l p).getD 9 0 = 0 ∧ (restAt l p).getD 10 0 = 0 := by omega
      cases h5 : decide ((restAt l p).getD 0 0 % 2 = 1) with
      | false => exact l5From_plain l A c F p m w h hb hn hp hm0 h11 hpm h2 hhd h5
      | true => exact l5From_packed l A c F p m w h hb hn hp hm0 h11 hpm h2 hhd h5
  · exact l5From_sum l A c F p m w h hb hn hp hm0 h11 hpm h2
set_option maxRecDepth 20000 in
set_option maxHeartbeats 1000000 in
theorem BatchFromS_bytes (l : List Int) (A : Option Addr) (c : Nat) (F : Nat → Prop) (i : Int) (w : World) (h : Ints w F A c l) (hb : bytesB l = false) :
    Calls Try.prog 39 #[.slice A l.length c, .int .i64 i] w fun e w' => e = .returned (.tuple #[BZ, .int .i64 0, .bool false]) ∧ Below w.heap.size w w' := by
  have hl := h.1
  have hc := h.2.1
  have HBY := Lib.hid hb
  clear hb
  go_enter Try.func39, Try.ntmps39
  go_wp2_with fail
  refine (l1Ok_any l A c _ _ (h.below (bal _ _))).mono ?_
  rintro e w' ⟨rfl, rfl⟩
  rw [HBY.out]
  go_wp2
  refine bodyPost_ret (v := .tuple #[BZ, .int .i64 0, .bool false]) (by simp [results, Try.results39, go_sem]) rfl ⟨rfl, ?_⟩
  exact bal _ _
set_option maxRecDepth 20000 in
set_option maxHeartbeats 2000000 in
theorem BatchFromS_none (l : List Int) (A : Option Addr) (c : Nat) (F : Nat → Prop) (i : Int) (w : World) (h : Ints w F A c l) (hb : bytesB l = true) (hn : l.length ≤ 4194304) (hr : rdAtI l i = none) :
    Calls Try.prog 39 #[.slice A l.length c, .int .i64 i] w fun e w' => e = .returned (.tuple #[BZ, .int .i64 0, .bool false]) ∧ Below w.heap.size w w' := by
  have hl := h.1
  have hc := h.2.1
  have HBY := Lib.hid hb
  by_cases hi : i < 0
  · have d1 : decide (i < 0) = true := by simpa using hi
    clear hb hr
    go_enter Try.func39, Try.ntmps39
    go_wp2_with fail
    refine (l1Ok_any l A c _ _ (h.below (bal _ _))).mono ?_
    rintro e w' ⟨rfl, rfl⟩
    rw [HBY.out]
    go_wp2
    refine bodyPost_ret (v := .tuple #[BZ, .int .i64 0, .bool false]) (by simp [results, Try.results39, go_sem]) rfl ⟨rfl, ?_⟩
    exact bal _ _
  · have d1 : decide (i < 0) = false := by simpa using hi
    by_cases hf : (l.length : Int) - 18 < i
    · have d2 : decide ((l.length : Int) - 18 < i) = true := by simpa using hf
      clear hb hr
      go_enter Try.func39, Try.ntmps39
      go_wp2_with fail
      refine (l1Ok_any l A c _ _ (h.below (bal _ _))).mono ?_
      rintro e w' ⟨rfl, rfl⟩
      rw [HBY.out]
      go_wp2
      refine bodyPost_ret (v := .tuple #[BZ, .int .i64 0, .bool false]) (by simp [results, Try.results39, go_sem]) rfl ⟨rfl, ?_⟩
      exact bal _ _
    · have d2 : decide ((l.length : Int) - 18 < i) = false := by simpa using hf
      obtain ⟨p, rfl⟩ := Int.eq_ofNat_of_zero_le (show 0 ≤ i by omega)
      rw [rdAtI_nat] at hr
      have hp : p + 18 ≤ l.length := by omega
      obtain ⟨m, hm0⟩ := Int.eq_ofNat_of_zero_le (num2_range hb (p + 3)).1
      have hm1 : m ≤ 65535 := by have := (num2_range hb (p + 3)).2; omega
      have HM := Lib.hid hm0
      have HR := Lib.hid hr
      by_cases h11 : m < 11
      · have d3 : decide ((m : Int) < 11) = true := by simp; omega
        clear hb hr hi hf hm0
        go_enter Try.func39, Try.ntmps39
        go_wp2_with fail
        refine (l1Ok_any l A c _ _ (h.below (bal _ _))).mono ?_
        rintro e w' ⟨rfl, rfl⟩
        rw [HBY.out]
        go_wp2_with fail
        refine (l2From2_any l A c _ (p + 3) ((p : Int) + 3) _ (h.below (bal _ _)) HBY.out hn (by omega) (by simp)).mono ?_
        rintro e w' ⟨rfl, rfl⟩
        rw [HM.out]
        go_wp2
        refine bodyPost_ret (v := .tuple #[BZ, .int .i64 0, .bool false]) (by simp [results, Try.results39, go_sem]) rfl ⟨rfl, ?_⟩
        exact bal _ _
      · have d3 : decide ((m : Int) < 11) = false := by simp; omega
        by_cases hpm : l.length < p + 7 + m
        · have d4 : decide ((l.length : Int) < (p : Int) + 7 + (m : Int)) = true := by simp; omega
          clear hb hr hi hf hm0
          go_enter Try.func39, Try.ntmps39
          go_wp2_with fail
          refine (l1Ok_any l A c _ _ (h.below (bal _ _))).mono ?_
          rintro e w' ⟨rfl, rfl⟩
          rw [HBY.out]
          go_wp2_with fail
          refine (l2From2_any l A c _ (p + 3) ((p : Int) + 3) _ (h.below (bal _ _)) HBY.out hn (by omega) (by simp)).mono ?_
          rintro e w' ⟨rfl, rfl⟩
          rw [HM.out]
          go_wp2
          refine bodyPost_ret (v := .tuple #[BZ, .int .i64 0, .bool false]) (by simp [results, Try.results39, go_sem]) rfl ⟨rfl, ?_⟩
          exact bal _ _
        · have d4 : decide ((l.length : Int) < (p : Int) + 7 + (m : Int)) = false := by simp; omega
          clear hb hr hi hf hm0
          go_enter Try.func39, Try.ntmps39
          go_wp2_with fail
          generalize hW : World.alloc _ _ = W0
          obtain ⟨hA0, b0, hz0⟩ := alloc1 hW
          clear hW
          refine (l1Ok_any l A c _ _ (h.below b0)).mono ?_
          rintro e w' ⟨rfl, rfl⟩
          rw [HBY.out]
          go_wp2_with fail
          refine (l2From2_any l A c _ (p + 3) ((p : Int) + 3) _ (h.below b0) HBY.out hn (by omega) (by simp)).mono ?_
          rintro e w' ⟨rfl, rfl⟩
          rw [HM.out]
          go_wp2_with fail
          refine (l5From_any l A c _ p m _ (h.below b0) HBY.out hn hp HM.out (by omega) (by omega)).mono ?_
          rintro e w2 hres
          obtain ⟨v0, v1, v2, v3, v4, Av, nv, kv, rfl, hb2⟩ : ∃ v0 v1 v2 v3 v4 Av nv kv, e = .returned (.tuple #[.agg #[.bool v0, .bool v1, .int .i64 v2, .int .i64 v3, .int .i64 v4, .slice Av nv kv], .bool false]) ∧ Below W0.heap.size W0 w2 := by
            rcases hres with ⟨_, ⟨v0, v1, v2, v3, v4, Av, nv, kv, he⟩, hb⟩ | ⟨b, _, _, hb, _⟩
            · exact ⟨v0, v1, v2, v3, v4, Av, nv, kv, he, hb⟩
            · rw [HR.out] at hb; cases hb
          have hA2 := blk_below hA0 hb2
          have HB2 := Lib.hid (bthen b0 hb2)
          have hlt := blk_lt hA2
          obtain ⟨x0, x1, x2, x3, x4, x5, xf⟩ := six hA2
          clear hres hb2 b0 hz0
          go_wp2
          refine bodyPost_ret (v := .tuple #[BZ, .int .i64 0, .bool false]) (by simp [results, Try.results39, go_sem, x0, x1, x2, x3, x4, x5, hlt]) rfl ⟨rfl, ?_⟩
          exact bthen (HB2.out.trans (zeroB.below HB2.out.size (fun i hi => by omega))) (bal _ _)
set_option maxRecDepth 20000 in
set_option maxHeartbeats 2000000 in
theorem BatchFromS_some (l : List Int) (A : Option Addr) (c : Nat) (F : Nat → Prop) (p : Nat) (w : World) (h : Ints w F A c l) (hb : bytesB l = true) (hn : l.length ≤ 4194304) {b : Bat} (hr : rdBat l p = some b) :
    Calls Try.prog 39 #[.slice A l.length c, .int .i64 (p : Int)] w fun e w' => ∃ A' c', e = .returned (.tuple #[BV b A' c', .int .i64 ((p + (batBytes b).length : Nat) : Int), .bool true]) ∧ XRecs 3 85 w' (fun g => w.heap.size ≤ g) A' c' b.recs ∧ Below w.heap.size w w' := by
  have hl := h.1
  have hc := h.2.1
  have HBY := Lib.hid hb
  have hat := rdBat_at hr
  have htt := hat.tests
  have hnx := hat.next
  obtain ⟨m, hm0⟩ := Int.eq_ofNat_of_zero_le (num2_range hb (p + 3)).1
  have hm1 : m ≤ 65535 := by have := (num2_range hb (p + 3)).2; omega
  have hmt : (num2 l (p + 3)).toNat = m := by rw [hm0]; rfl
  rw [hmt] at htt hnx
  have h11 := htt.1
  have hpm := htt.2.1
  have hp : p + 18 ≤ l.length := by omega
  have HN := Lib.hid (show ((p + (batBytes b).length : Nat) : Int) = (p : Int) + 7 + (m : Int) by omega)
  have HM := Lib.hid hm0
  have HR := Lib.hid hr
  have d1 : decide ((p : Int) < 0) = false := by simp
  have d2 : decide ((l.length : Int) - 18 < (p : Int)) = false := by simp; omega
  have d3 : decide ((m : Int) < 11) = false := by simp; omega
  have d4 : decide ((l.length : Int) < (p : Int) + 7 + (m : Int)) = false := by simp; omega
  clear hb hr hat htt hnx hmt hm0
  go_enter Try.func39, Try.ntmps39
  go_wp2_with fail
  generalize hW : World.alloc _ _ = W0
  obtain ⟨hA0, b0, hz0⟩ := alloc1 hW
  clear hW
  refine (l1Ok_any l A c _ _ (h.below b0)).mono ?_
  rintro e w' ⟨rfl, rfl⟩
  rw [HBY.out]
  go_wp2_with fail
  refine (l2From2_any l A c _ (p + 3) ((p : Int) + 3) _ (h.below b0) HBY.out hn (by omega) (by simp)).mono ?_
  rintro e w' ⟨rfl, rfl⟩
  rw [HM.out]
  go_wp2_with fail
  refine (l5From_any l A c _ p m _ (h.below b0) HBY.out hn hp HM.out (by omega) (by omega)).mono ?_
  rintro e w2 hres
  obtain ⟨A', c', rfl, HX, hb2⟩ : ∃ A' c', e = .returned (.tuple #[BV b A' c', .bool true]) ∧ XRecs 3 85 w2 (fun g => W0.heap.size ≤ g) A' c' b.recs ∧ Below W0.heap.size W0 w2 := by
    rcases hres with ⟨hb, _⟩ | ⟨b', A', c', hb, he, hx, hb2⟩
    · rw [HR.out] at hb; cases hb
    · rw [HR.out] at hb
      injection hb with hb
      subst hb
      exact ⟨A', c', he, hx, hb2⟩
  have hA2 := blk_below hA0 hb2
  have b2 := bthen b0 hb2
  have HX2 := Lib.hid HX.bound
  have HZ := Lib.hid (show w.heap.size < W0.heap.size by omega)
  have hlt2 := blk_lt hA2
  have HB2 := Lib.hid b2
  obtain ⟨x0, x1, x2, x3, x4, x5, xf⟩ := six hA2
  clear hres hb2 hz0 HX hA0 b0 b2 hA2
  go_wp2
  have cZ := Chg.setCells (fun b => b = w.heap.size) (g := w.heap.size) rfl [.bool b.packed, .bool b.mark, .int .i64 b.prod, .int .i64 b.epoch, .int .i64 b.seq, .slice A' b.recs.length c'] 0 w2
  refine bodyPost_ret (v := .tuple #[BV b A' c', .int .i64 ((p : Int) + 7 + (m : Int)), .bool true]) (by simp [results, Try.results39, go_sem, x0, x1, x2, x3, x4, x5, hlt2]) rfl ⟨A', c', by rw [HN.out], ?_, ?_⟩
  · exact ((HX2.out.keep (cZ.same (fun i _ h1 h2 => by have := h1.1; have := HZ.out; omega)) cZ.size).below (bal _ _)).mono (fun i hi => by have := hi.1; have := HZ.out; omega)
  · exact bthen (HB2.out.trans (cZ.below HB2.out.size (fun i hi => by omega))) (bal _ _)
/-- What both return. -/
noncomputable def bfQ (l : List Int) (i : Int) : Option Bat := if bytesB l = true then rdAtI l i else none
def bfB (q : Option Bat) : Bat := q.getD Bat.zero
def bfN (q : Option Bat) (i : Int) : Int := match q with | none => 0 | some b => i + (batBytes b).length
def BfOut (q : Option Bat) (i : Int) (w : World) (e : Ending) (w' : World) : Prop :=
  ∃ A c, e = .returned (.tuple #[BV (bfB q) A c, .int .i64 (bfN q i), .bool q.isSome]) ∧ XRecs 3 85 w' (fun g => w.heap.size ≤ g) A c (bfB q).recs ∧ Below w.heap.size w w'
theorem BfOut.none_ {q : Option Bat} {i : Int} {w w' : World} {e : Ending} (hq : q = none) (he : e = .returned (.tuple #[BZ, .int .i64 0, .bool false])) (hb : Below w.heap.size w w') : BfOut q i w e w' := by
  subst hq he
  exact ⟨none, 0, rfl, XKind.Row.nil _ _ (by omega), hb⟩
theorem bfQ_at {l : List Int} (hb : bytesB l = true) (i : Int) : bfQ l i = rdAtI l i := by unfold bfQ; rw [if_pos hb]
theorem bfQ_bad {l : List Int} (hb : bytesB l = false) (i : Int) : bfQ l i = none := by unfold bfQ; rw [if_neg (by simp [hb])]
theorem BatchFromS_all (l : List Int) (A : Option Addr) (c : Nat) (F : Nat → Prop) (i : Int) (w : World) (h : Ints w F A c l) (hn : l.length ≤ 4194304) :
    Calls Try.prog 39 #[.slice A l.length c, .int .i64 i] w (BfOut (bfQ l i) i w) := by
  cases hb : bytesB l with
  | false => exact (BatchFromS_bytes l A c F i w h hb).mono fun e w' ⟨he, hB⟩ => .none_ (bfQ_bad hb i) he hB
  | true =>
    cases hr : rdAtI l i with
    | none => exact (BatchFromS_none l A c F i w h hb hn hr).mono fun e w' ⟨he, hB⟩ => .none_ (by rw [bfQ_at hb, hr]) he hB
    | some b =>
      have hi : 0 ≤ i := by
        unfold rdAtI at hr
        split at hr
        · cases hr
        · omega
      obtain ⟨p, rfl⟩ := Int.eq_ofNat_of_zero_le hi
      rw [rdAtI_nat] at hr
      refine (BatchFromS_some l A c F p w h hb hn hr).mono fun e w' ⟨A', c', he, hx, hB⟩ => ?_
      rw [bfQ_at hb, rdAtI_nat, hr]
      exact ⟨A', c', by rw [he]; simp [bfB, bfN], hx, hB⟩
end
end Go.Proofs.Ytomcjjehfocbmaa
