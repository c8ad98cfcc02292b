/- Draws: records. -/
import Derived.Test.YtfflhenldegmmaaD2
namespace Go.Proofs.Ytfflhenldegmmaa
set_option linter.unusedVariables false
set_option linter.unusedSimpArgs false
open Go.RowKit

/-- What a reading leads to is there. -/
def Kind.Lts {α : Type} (d : Kind α) : Prop := ∀ w F x cs, d.K w F x cs → d.K w (fun b => F b ∧ b < w.heap.size) x cs
theorem Kind.Row.lts {α : Type} {d : Kind α} (hd : d.Lts) (hs : 0 < d.sz) {w : World} {F : Nat → Prop} {A : Option Addr} {c : Nat} {xs : List α} (h : d.Row w F A c xs) : d.Row w (fun b => F b ∧ b < w.heap.size) A c xs := by
  refine ⟨h.1, h.2.1, fun hx => ?_⟩
  obtain ⟨ad, e, hF, hc⟩ := h.2.2 hx
  refine ⟨ad, e, ⟨hF, ?_⟩, fun j x hj => ?_⟩
  · match xs, hx with
    | x :: t, _ =>
      obtain ⟨cs, hK, hcell⟩ := hc 0 x rfl
      have hl := d.len hK
      have hg : cs[0]? = some cs[0] := List.getElem?_eq_getElem (by omega)
      have := cell_lt (hcell 0 _ hg)
      rw [add_block] at this
      exact this
  · obtain ⟨cs, hK, hcell⟩ := hc j x hj
    exact ⟨cs, hd _ _ _ _ hK, hcell⟩
theorem lts_int {k : IntKind} : (Kind.int k).Lts := fun _ _ _ _ h => h
theorem lts_rec : Kind.rec_.Lts := by
  rintro w F r cs ⟨A, c, A', c', rfl, h1, h2⟩
  exact ⟨A, c, A', c', rfl, h1.lts lts_int (by decide), h2.lts lts_int (by decide)⟩
theorem lts_bat : Kind.bat.Lts := by
  rintro w F r cs ⟨A, c, rfl, h1⟩
  exact ⟨A, c, rfl, h1.lts lts_rec (by decide)⟩
def Rec.tiny (r : Rec) : Prop := r.key.length ≤ 12 ∧ r.val.length ≤ 12

theorem box23 {X W : World} {B : Nat} {t : TypeId} {a b c d e f u v : Value} (hb : X.heap[B]? = some (.cells #[a, b, c, d, e, f] t (0, 0))) (hW : (X.setCell ⟨B, 2, none⟩ u).setCell ⟨B, 3, none⟩ v = W) :
    W.heap[B]? = some (.cells #[a, b, u, v, e, f] t (0, 0)) ∧ Chg (fun b => b = B) X W := by
  subst hW
  exact ⟨by simpa using blk_put (blk_put hb 2 u) 3 v, (Chg.set (fun b => b = B) X (p := ⟨B, 2, none⟩) rfl _).trans (Chg.set (fun b => b = B) _ (p := ⟨B, 3, none⟩) rfl _)⟩
theorem box45 {X W : World} {B : Nat} {t : TypeId} {a b c d e f u v : Value} (hb : X.heap[B]? = some (.cells #[a, b, c, d, e, f] t (0, 0))) (hW : (X.setCell ⟨B, 4, none⟩ u).setCell ⟨B, 5, none⟩ v = W) :
    W.heap[B]? = some (.cells #[a, b, c, d, u, v] t (0, 0)) ∧ Chg (fun b => b = B) X W := by
  subst hW
  exact ⟨by simpa using blk_put (blk_put hb 4 u) 5 v, (Chg.set (fun b => b = B) X (p := ⟨B, 4, none⟩) rfl _).trans (Chg.set (fun b => b = B) _ (p := ⟨B, 5, none⟩) rfl _)⟩
theorem box3 {X W : World} {B : Nat} {t : TypeId} {a b c d e f v : Value} (hb : X.heap[B]? = some (.cells #[a, b, c, d, e, f] t (0, 0))) (hW : X.setCell ⟨B, 3, none⟩ v = W) :
    W.heap[B]? = some (.cells #[a, b, c, v, e, f] t (0, 0)) ∧ Chg (fun b => b = B) X W := by
  subst hW
  exact ⟨by simpa using blk_put hb 3 v, Chg.set (fun b => b = B) X (p := ⟨B, 3, none⟩) rfl _⟩
theorem tiny_add {rs : List Rec} {r : Rec} (h : ∀ x ∈ rs, x.tiny) (hr : r.tiny) : ∀ x ∈ rs ++ [r], x.tiny := by
  intro x hx
  rcases List.mem_append.1 hx with hx | hx
  · exact h x hx
  · simp at hx; subst hx; exact hr
theorem one_int (w : World) (v : Int) : Ints (w.alloc (.cells #[.int .i64 v] 3)) (fun b => w.heap.size = b) (some ⟨w.heap.size, 0, none⟩) 1 [v] := by
  refine ⟨Nat.le_refl _, by omega, fun _ => ⟨_, rfl, rfl, fun j x hj => ?_⟩⟩
  obtain ⟨rfl, rfl⟩ : j = 0 ∧ v = x := by
    cases j with
    | zero => exact ⟨rfl, by simpa using hj⟩
    | succ j => simp at hj
  refine ⟨_, rfl, fun i u hu => ?_⟩
  cases i with
  | zero =>
    simp at hu
    subst hu
    exact cell_of_row _ _ _ _ _ _ (heap_alloc_new w (.cells #[.int .i64 v] 3))
  | succ i => simp at hu
theorem l91Records_any (g N : Nat) (off most : Int) (w : World) (h : RdN w g N) (hN : N ≤ 800000) (hm : 1 ≤ most) (hm1 : most ≤ 4) :
    Calls Try.prog 71 #[.pointer (some ⟨g, 0, none⟩), .int .i64 off, .int .i64 most] w fun e w' => ∃ (rs : List Rec) (v : Value), e = .returned v ∧ 1 ≤ rs.length ∧ rs.length ≤ 4 ∧ (∀ r ∈ rs, r.tiny) ∧
      App Kind.rec_ 25 w' w.heap.size v rs ∧ RdN w' g (N + 240) ∧ Chg (fun b => b = g) w w' := by
  have hg0 := h.lt
  go_enter Try.func71, Try.ntmps71
  go_wp2_with fail
  refine (pickN g N most _ (h.below (bal _ _)) (by omega) (by omega) (by omega)).mono ?_
  rintro e w1 ⟨v1, rfl, a1, b1, r1, c1⟩
  go_wp2_with fail
  refine (pickN g (N + 1) 200 _ r1 (by omega) (by omega) (by omega)).mono ?_
  rintro e w2 ⟨v2, rfl, a2, b2, r2, c2⟩
  have A1 := App.lit Kind.rec_ 25 w w.heap.size (Nat.le_refl _)
  have A2 := (A1.chg c1 (fun b _ h1 h2 => by omega)).chg c2 (fun b _ h1 h2 => by omega)
  have C2 : Chg (fun b => b = g) w w2 := (((Chg.refl _ w).alloc (.cells #[] 25)).same_g c1).same_g c2
  generalize hv : Value.slice (some ⟨w.heap.size, 0, none⟩) 0 0 = v0 at A2
  obtain ⟨n, rfl⟩ := Int.eq_ofNat_of_zero_le a1
  have HC2 := Lib.hid C2
  clear A1 c1 c2 C2 r1
  go_wp2_with fail

  clear hv
  go_loopw [1, 7, 9, 10] (fun o v t i wr => ∃ (k : Nat) (rs : List Rec) (oo tt : Int), o = .int .i64 oo ∧ t = .int .i64 tt ∧ k ≤ 1 + n ∧ i = .int .i64 k ∧ rs.length = k ∧ (∀ r ∈ rs, r.tiny) ∧ App Kind.rec_ 25 wr w.heap.size v rs ∧ RdN wr g (N + 2 + 58 * k) ∧ Hid (Chg (fun b => b = g) w wr)) (fun _ _ _ i _ => 1 + n - (intOf i).toNat)
  case atStart => exact ⟨0, [], off, v2, rfl, rfl, by omega, rfl, rfl, fun _ h => by simp at h, A2, r2, HC2⟩
  case round =>
    obtain ⟨k, rs, oo, tt, rfl, rfl, hk, rfl, hrl, htiny, HA, HR, HC⟩ := hrel
    have hgr := HR.lt
    have hsz := HC.out.size
    have HT := Lib.hid htiny
    clear htiny HC2 r2 A2
    by_cases hlt : k < 1 + n
    · go_wp2_with fail
      have hB1 : (wr.alloc (Obj.cells #[Value.int IntKind.i64 oo, Value.int IntKind.i64 tt, Value.bool false, Value.slice none 0 0, Value.bool false, Value.slice none 0 0] 25)).heap.size = wr.heap.size + 1 := by simp
      have hb1 := heap_alloc_new wr (Obj.cells #[Value.int IntKind.i64 oo, Value.int IntKind.i64 tt, Value.bool false, Value.slice none 0 0, Value.bool false, Value.slice none 0 0] 25)
      have cA := (Chg.refl (fun b => b = g) wr).alloc (Obj.cells #[Value.int IntKind.i64 oo, Value.int IntKind.i64 tt, Value.bool false, Value.slice none 0 0, Value.bool false, Value.slice none 0 0] 25)
      refine (l91Part_any g _ _ (HR.below (bal _ _)) (by omega)).mono ?_
      rintro e w3 ⟨has1, xs1, kv1, rfl, hl1, K1, r3, c3⟩
      rw [hB1] at K1
      have hb3 := c3.blk hb1 (by omega)
      have cA3 := cA.same_g c3
      clear hb1
      go_wp2_with fail
      refine (l91Part_any g _ _ r3 (by omega)).mono ?_
      rintro e w4 ⟨has2, xs2, kv2, rfl, hl2, K2, r4, c4⟩
      have hs3 : wr.heap.size + 1 ≤ w3.heap.size := by have := c3.size; omega
      have hs4 := c4.size
      have K2' := K2.from hs3
      have K1' := K1.chg c4 (fun b _ h1 h2 => by omega)
      have hb4 := c4.blk hb3 (by omega)
      have cA4 := cA3.same_g c4
      clear K1 K2 hb3 r3 c3 c4 cA cA3
      have hr4 := r4.lt
      obtain ⟨B1, d1, rfl, J1⟩ := K1'.row
      obtain ⟨B2, d2, rfl, J2⟩ := K2'.row
      have J1 := J1.lts lts_int (by decide)
      have J2 := J2.lts lts_int (by decide)
      have Hb4 := Lib.hid hb4
      clear hb4 K1' K2'
      generalize hX : (w4.setCell ⟨wr.heap.size, 2, none⟩ (.bool has1)).setCell ⟨wr.heap.size, 3, none⟩ (.slice B1 xs1.length d1) = X
      obtain ⟨hbX, cX⟩ := box23 Hb4.out hX
      obtain ⟨q0, q1, q2, q3, q4, q5, qf⟩ := six Hb4.out
      have cAX := cA4.then cX (fun i hi hb => by omega)
      have hsX := cX.size
      have J1 := J1.keep (cX.same (fun i _ h1 h2 => by omega))
      have J2 := J2.keep (cX.same (fun i _ h1 h2 => by omega))
      have rX := r4.chg cX (fun b hb => by omega)
      clear cX cA4 r4
      cases has1
      · have HbX := Lib.hid hbX
        generalize hW : (X.setCell ⟨wr.heap.size, 4, none⟩ (.bool has2)).setCell ⟨wr.heap.size, 5, none⟩ (.slice B2 xs2.length d2) = W
        obtain ⟨hbW, cW⟩ := box45 HbX.out hW
        obtain ⟨p0, p1, p2, p3, p4, p5, pf⟩ := six hbW
        obtain ⟨x0, x1, x2, x3, x4, x5, xf⟩ := six HbX.out
        have cAW := cAX.then cW (fun i hi hb => by omega)
        have HAW := HA.chg cAW (fun b h1 h2 h3 => by omega)
        have J1W := J1.keep (cW.same (fun i _ h1 h2 => by omega))
        have J2W := J2.keep (cW.same (fun i _ h1 h2 => by omega))
        have rW := rX.chg cW (fun b hb => by omega)
        have hsW := cAW.size
        have hlt2 := cW.size
        have HKK := Lib.hid (show Kind.rec_.K W (fun b => wr.heap.size < b ∧ b < W.heap.size) ⟨oo, tt, false, xs1, has2, xs2⟩ [.int .i64 oo, .int .i64 tt, .bool false, .slice B1 xs1.length d1, .bool has2, .slice B2 xs2.length d2] from
          ⟨_, _, _, _, rfl, J1W.mono (fun b hb => ⟨by omega, by omega⟩), J2W.mono (fun b hb => ⟨by omega, by omega⟩)⟩)
        have HcW := Lib.hid (HC.out.same_g cAW)
        have hol : ∀ b, u7.ownBlock = some b → b < wr.heap.size := fun b hb => HA.own_lt hb
        have HOL := Lib.hid hol
        clear cW cAW HA J1 J2 J1W J2W hbW hbX hol HC
        go_wp2_with (at_builtin; go_loud (refine wpList_app Kind.rec_ HAW rfl _ _ 42 (.agg #[.int .i64 0, .int .i64 0, .bool false, .slice none 0 0, .bool false, .slice none 0 0]) 80 rfl Try.underlying42 (by kernel_rfl) rfl (by decide) ⟨oo, tt, false, xs1, has2, xs2⟩ _ _ rfl rfl HKK.out ?_ ?_ ?_ ?_ ?_ ?_))
        · exact fun b hb => ⟨by omega, hb.2, fun h => by have := HOL.out b h; omega⟩
        · simp [Value.oneCell']
        · omega
        · omega
        · omega
        intro u1 W1 HA3 hc7
        have hc8 := HcW.out.then hc7 (fun i hi hb => absurd (HAW.ne hb) (by omega))
        have hr7 := (rW.chg hc7 (fun b hb => Nat.lt_of_lt_of_le hg0 (HAW.ne hb)))
        have HC8 := Lib.hid hc8
        clear hc7 HcW hc8 HAW HKK HOL
        go_wp2_with fail
        refine (pickN g _ 5 _ hr7 (by omega) (by omega) (by omega)).mono ?_
        rintro e w8 ⟨v8, rfl, a8, b8, r8, c8⟩
        go_wp2_with fail
        refine (pickN g _ 30 _ r8 (by omega) (by omega) (by omega)).mono ?_
        rintro e w9 ⟨v9, rfl, a9, b9, r9, c9⟩
        have HA9 := (HA3.chg c8 (fun b h1 h2 h3 => by omega)).chg c9 (fun b h1 h2 h3 => by omega)
        have HC9 := Lib.hid ((HC8.out.same_g c8).same_g c9)
        clear HC8 c8 c9 HA3
        go_wp2
        go_roundw
        case rel => exact ⟨k + 1, _, _, _, rfl, rfl, by omega, by go_num, by simp [hrl], tiny_add HT.out ⟨hl1, hl2⟩, HA9, r9.le (by omega), HC9⟩
        case measure => simp [intOf]; omega
      · go_wp2_with fail
        refine (pickN g _ 2 _ rX (by omega) (by omega) (by omega)).mono ?_
        rintro e w6 ⟨v6, rfl, a6, b6, r6, c6⟩
        have hb6 := c6.blk hbX (by omega)
        have cA6 := cAX.same_g c6
        have J1 := J1.keep (c6.same (fun i _ h1 h2 => by omega))
        have J2 := J2.keep (c6.same (fun i _ h1 h2 => by omega))
        have hs6 := c6.size
        clear c6 cAX hbX hX rX
        cases ht6 : (v6 == 0)
        · have hbX := hb6
          have rX := r6
          have cAX := cA6
          have hXw : w6 = w6 := rfl
          clear hb6 r6 cA6 hXw
          have HbX := Lib.hid hbX
          generalize hW : (w6.setCell ⟨wr.heap.size, 4, none⟩ (.bool has2)).setCell ⟨wr.heap.size, 5, none⟩ (.slice B2 xs2.length d2) = W
          obtain ⟨hbW, cW⟩ := box45 HbX.out hW
          obtain ⟨p0, p1, p2, p3, p4, p5, pf⟩ := six hbW
          obtain ⟨x0, x1, x2, x3, x4, x5, xf⟩ := six HbX.out
          have cAW := cAX.then cW (fun i hi hb => by omega)
          have HAW := HA.chg cAW (fun b h1 h2 h3 => by omega)
          have J1W := J1.keep (cW.same (fun i _ h1 h2 => by omega))
          have J2W := J2.keep (cW.same (fun i _ h1 h2 => by omega))
          have rW := rX.chg cW (fun b hb => by omega)
          have hsW := cAW.size
          have hlt2 := cW.size
          have HKK := Lib.hid (show Kind.rec_.K W (fun b => wr.heap.size < b ∧ b < W.heap.size) ⟨oo, tt, true, xs1, has2, xs2⟩ [.int .i64 oo, .int .i64 tt, .bool true, .slice B1 xs1.length d1, .bool has2, .slice B2 xs2.length d2] from
            ⟨_, _, _, _, rfl, J1W.mono (fun b hb => ⟨by omega, by omega⟩), J2W.mono (fun b hb => ⟨by omega, by omega⟩)⟩)
          have HcW := Lib.hid (HC.out.same_g cAW)
          have hol : ∀ b, u7.ownBlock = some b → b < wr.heap.size := fun b hb => HA.own_lt hb
          have HOL := Lib.hid hol
          clear cW cAW HA J1 J2 J1W J2W hbW hbX hol HC
          go_wp2_with (at_builtin; go_loud (refine wpList_app Kind.rec_ HAW rfl _ _ 42 (.agg #[.int .i64 0, .int .i64 0, .bool false, .slice none 0 0, .bool false, .slice none 0 0]) 80 rfl Try.underlying42 (by kernel_rfl) rfl (by decide) ⟨oo, tt, true, xs1, has2, xs2⟩ _ _ rfl rfl HKK.out ?_ ?_ ?_ ?_ ?_ ?_))
          · exact fun b hb => ⟨by omega, hb.2, fun h => by have := HOL.out b h; omega⟩
          · simp [Value.oneCell']
          · omega
          · omega
          · omega
          intro u1 W1 HA3 hc7
          have hc8 := HcW.out.then hc7 (fun i hi hb => absurd (HAW.ne hb) (by omega))
          have hr7 := (rW.chg hc7 (fun b hb => Nat.lt_of_lt_of_le hg0 (HAW.ne hb)))
          have HC8 := Lib.hid hc8
          clear hc7 HcW hc8 HAW HKK HOL
          go_wp2_with fail
          refine (pickN g _ 5 _ hr7 (by omega) (by omega) (by omega)).mono ?_
          rintro e w8 ⟨v8, rfl, a8, b8, r8, c8⟩
          go_wp2_with fail
          refine (pickN g _ 30 _ r8 (by omega) (by omega) (by omega)).mono ?_
          rintro e w9 ⟨v9, rfl, a9, b9, r9, c9⟩
          have HA9 := (HA3.chg c8 (fun b h1 h2 h3 => by omega)).chg c9 (fun b h1 h2 h3 => by omega)
          have HC9 := Lib.hid ((HC8.out.same_g c8).same_g c9)
          clear HC8 c8 c9 HA3
          go_wp2
          go_roundw
          case rel => exact ⟨k + 1, _, _, _, rfl, rfl, by omega, by go_num, by simp [hrl], tiny_add HT.out ⟨hl1, hl2⟩, HA9, r9.le (by omega), HC9⟩
          case measure => simp [intOf]; omega
        · go_wp2_with fail
          refine (pickN g _ 3 _ r6 (by omega) (by omega) (by omega)).mono ?_
          rintro e w7 ⟨v7, rfl, a7, b7, r7, c7⟩
          have hb7 := c7.blk hb6 (by omega)
          have cA7 := cA6.same_g c7
          have J1 := J1.keep (c7.same (fun i _ h1 h2 => by omega))
          have J2 := J2.keep (c7.same (fun i _ h1 h2 => by omega))
          have hs7 := c7.size
          clear c7 cA6 hb6 r6
          have hb8 := blk_below hb7 (bal w7 (.cells #[.int .i64 v7] 3))
          have hr8 := r7.below (bal w7 (.cells #[.int .i64 v7] 3))
          have hJ8 : Ints (w7.alloc (.cells #[.int .i64 v7] 3)) (fun b => w7.heap.size = b) (some ⟨w7.heap.size, 0, none⟩) 1 [v7] := one_int w7 v7
          have J2 := J2.keep (Same.of_below (bal w7 (.cells #[.int .i64 v7] 3)))
          have cA8 := cA7.alloc (.cells #[.int .i64 v7] 3)
          have hs8 : (w7.alloc (.cells #[.int .i64 v7] 3)).heap.size = w7.heap.size + 1 := by simp
          clear hb7 r7 cA7 J1
          generalize hX2 : (w7.alloc (.cells #[.int .i64 v7] 3)).setCell ⟨wr.heap.size, 3, none⟩ (.slice (some ⟨w7.heap.size, 0, none⟩) 1 1) = X2
          have Hb8 := Lib.hid hb8
          clear hb8
          obtain ⟨hbX, cX⟩ := box3 Hb8.out hX2
          obtain ⟨y0, y1, y2, y3, y4, y5, yf⟩ := six Hb8.out
          have cAX := cA8.then cX (fun i hi hb => by omega)
          have hsX2 := cX.size
          have J1 : Ints X2 (fun b => wr.heap.size + 1 ≤ b ∧ b < X2.heap.size) (some ⟨w7.heap.size, 0, none⟩) 1 [v7] := (hJ8.keep (cX.same (fun i _ h1 h2 => by omega))).mono (fun b (hb : w7.heap.size = b) => ⟨by omega, by omega⟩)
          have J2 := J2.keep (cX.same (fun i _ h1 h2 => by omega))
          have rX := hr8.chg cX (fun b hb => by omega)
          clear cX cA8 hr8 hJ8
          have HbX := Lib.hid hbX
          generalize hW : (X2.setCell ⟨wr.heap.size, 4, none⟩ (.bool has2)).setCell ⟨wr.heap.size, 5, none⟩ (.slice B2 xs2.length d2) = W
          obtain ⟨hbW, cW⟩ := box45 HbX.out hW
          obtain ⟨p0, p1, p2, p3, p4, p5, pf⟩ := six hbW
          obtain ⟨x0, x1, x2, x3, x4, x5, xf⟩ := six HbX.out
          have cAW := cAX.then cW (fun i hi hb => by omega)
          have HAW := HA.chg cAW (fun b h1 h2 h3 => by omega)
          have J1W := J1.keep (cW.same (fun i _ h1 h2 => by omega))
          have J2W := J2.keep (cW.same (fun i _ h1 h2 => by omega))
          have rW := rX.chg cW (fun b hb => by omega)
          have hsW := cAW.size
          have hlt2 := cW.size
          have HKK := Lib.hid (show Kind.rec_.K W (fun b => wr.heap.size < b ∧ b < W.heap.size) ⟨oo, tt, true, [v7], has2, xs2⟩ [.int .i64 oo, .int .i64 tt, .bool true, .slice (some ⟨w7.heap.size, 0, none⟩) 1 1, .bool has2, .slice B2 xs2.length d2] from
            ⟨_, _, _, _, rfl, J1W.mono (fun b hb => ⟨by omega, by omega⟩), J2W.mono (fun b hb => ⟨by omega, by omega⟩)⟩)
          have HcW := Lib.hid (HC.out.same_g cAW)
          have hol : ∀ b, u7.ownBlock = some b → b < wr.heap.size := fun b hb => HA.own_lt hb
          have HOL := Lib.hid hol
          clear cW cAW HA J1 J2 J1W J2W hbW hbX hol HC
          go_wp2_with (at_builtin; go_loud (refine wpList_app Kind.rec_ HAW rfl _ _ 42 (.agg #[.int .i64 0, .int .i64 0, .bool false, .slice none 0 0, .bool false, .slice none 0 0]) 80 rfl Try.underlying42 (by kernel_rfl) rfl (by decide) ⟨oo, tt, true, [v7], has2, xs2⟩ _ _ rfl rfl HKK.out ?_ ?_ ?_ ?_ ?_ ?_))
          · exact fun b hb => ⟨by omega, hb.2, fun h => by have := HOL.out b h; omega⟩
          · simp [Value.oneCell']
          · omega
          · omega
          · omega
          intro u1 W1 HA3 hc7
          have hc8 := HcW.out.then hc7 (fun i hi hb => absurd (HAW.ne hb) (by omega))
          have hr7 := (rW.chg hc7 (fun b hb => Nat.lt_of_lt_of_le hg0 (HAW.ne hb)))
          have HC8 := Lib.hid hc8
          clear hc7 HcW hc8 HAW HKK HOL
          go_wp2_with fail
          refine (pickN g _ 5 _ hr7 (by omega) (by omega) (by omega)).mono ?_
          rintro e w8 ⟨v8, rfl, a8, b8, r8, c8⟩
          go_wp2_with fail
          refine (pickN g _ 30 _ r8 (by omega) (by omega) (by omega)).mono ?_
          rintro e w9 ⟨v9, rfl, a9, b9, r9, c9⟩
          have HA9 := (HA3.chg c8 (fun b h1 h2 h3 => by omega)).chg c9 (fun b h1 h2 h3 => by omega)
          have HC9 := Lib.hid ((HC8.out.same_g c8).same_g c9)
          clear HC8 c8 c9 HA3
          go_wp2
          go_roundw
          case rel => exact ⟨k + 1, _, _, _, rfl, rfl, by omega, by go_num, by simp [hrl], tiny_add HT.out ⟨by simp, hl2⟩, HA9, r9.le (by omega), HC9⟩
          case measure => simp [intOf]; omega
    · go_wp2
      go_ret
      exact ⟨rs, _, rfl, by omega, by omega, HT.out, HA, HR.le (by omega), HC.out⟩
end Go.Proofs.Ytfflhenldegmmaa
