/- Draws: segments. -/
import Derived.Test.YtomcjjehfocbmaaGreatDoorD3
import Derived.Test.YtomcjjehfocbmaaGreatDoorS2
import Derived.Deep.RegionWith
import Derived.Deep.DeepCutAuto
import Derived.Deep.LoopGhost
namespace Go.Proofs.YtomcjjehfocbmaaGreatDoor
set_option linter.unusedVariables false
set_option linter.unusedSimpArgs false
open Go.RowKit

def Bat.ok (b : Bat) : Prop := 1 ≤ b.recs.length ∧ b.recs.length ≤ 5 ∧ ∀ r ∈ b.recs, r.tiny
theorem ok_add {bs : List Bat} {b : Bat} (h : ∀ x ∈ bs, x.ok) (hb : b.ok) : ∀ x ∈ bs ++ [b], x.ok := by
  intro x hx
  rcases List.mem_append.1 hx with hx | hx
  · exact h x hx
  · simp at hx; subst hx; exact hb
abbrev Bat.cells (b : Bat) (A : Option Addr) (c : Nat) : List Value := [.bool b.packed, .bool b.mark, .int .i64 b.prod, .int .i64 b.epoch, .int .i64 b.seq, .slice A b.recs.length c]
theorem lit_mem {w : World} {g : Nat} {t : TypeId} (xs : List Int) (h : w.heap[g]? = some (.cells (xs.map (Value.int .i64)).toArray t (0, 0))) {v : Int} (h0 : 0 ≤ v) (h1 : v < xs.length) :
    ∃ x, x ∈ xs ∧ w.cell? ⟨g, v.toNat, none⟩ = some (.int .i64 x) := by
  have hl : v.toNat < xs.length := by omega
  exact ⟨xs[v.toNat], List.getElem_mem hl, by simp [World.cell?, h, hl]⟩
theorem i64wrap {n : Int} (h0 : 0 ≤ n) (h1 : n < 9223372036854775808) : IntKind.i64.wrap n = n := by
  simp [IntKind.wrap, IntKind.bits]
  omega
theorem box6' {X W : World} {B : Nat} {t : TypeId} {a b c d e f u0 u1 u2 u3 u4 u5 : Value} (hb : X.heap[B]? = some (.cells #[a, b, c, d, e, f] t (0, 0)))
    (hW : (((((X.setCell ⟨B, 0, none⟩ u0).setCell ⟨B, 1, none⟩ u1).setCell ⟨B, 2, none⟩ u2).setCell ⟨B, 3, none⟩ u3).setCell ⟨B, 4, none⟩ u4).setCell ⟨B, 5, none⟩ u5 = W) :
    W.heap[B]? = some (.cells #[u0, u1, u2, u3, u4, u5] t (0, 0)) ∧ Chg (fun b => b = B) X W := by
  subst hW
  exact ⟨by simpa using blk_put (blk_put (blk_put (blk_put (blk_put (blk_put hb 0 u0) 1 u1) 2 u2) 3 u3) 4 u4) 5 u5, (Chg.refl _ X).put.put.put.put.put.put⟩
/-- Box B holds a good batch, whose parts lie behind base. -/
def Boxed (w : World) (base B : Nat) : Prop := ∃ (b : Bat) (A : Option Addr) (c : Nat), b.ok ∧ w.heap[B]? = some (.cells (b.cells A c).toArray 35 (0, 0)) ∧ Recs w (fun i => base ≤ i ∧ i < w.heap.size ∧ i ≠ B) A c b.recs
theorem Boxed.chg {w w' : World} {base B g : Nat} (h : Boxed w base B) (hc : Chg (fun b => b = g) w w') (hg : g < base) (hB : base ≤ B) : Boxed w' base B := by
  obtain ⟨b, A, c, hok, hb, hJ⟩ := h
  exact ⟨b, A, c, hok, hc.blk hb (by omega), (hJ.keep (hc.same (fun i _ h1 h2 => by have := h1.1; omega))).mono (fun i hi => ⟨hi.1, Nat.lt_of_lt_of_le hi.2.1 hc.size, hi.2.2⟩)⟩
theorem Boxed.below {w w' : World} {base B : Nat} (h : Boxed w base B) (hc : Below w.heap.size w w') : Boxed w' base B := by
  obtain ⟨b, A, c, hok, hb, hJ⟩ := h
  exact ⟨b, A, c, hok, blk_below hb hc, (hJ.below hc).mono (fun i hi => ⟨hi.1, Nat.lt_of_lt_of_le hi.2.1 hc.size, hi.2.2⟩)⟩
theorem Boxed.lt {w : World} {base B : Nat} (h : Boxed w base B) : B < w.heap.size := by
  obtain ⟨b, A, c, hok, hb, hJ⟩ := h
  exact (Array.getElem?_eq_some_iff.1 hb).1
set_option maxHeartbeats 8000000 in
theorem l92Log_any (g N : Nat) (w : World) (h : RdN w g N) (hN : N ≤ 600000) :
    Calls Tryz.prog 12 #[.pointer (some ⟨g, 0, none⟩)] w fun e w' => ∃ (bs : List Bat) (A : Option Addr) (c : Nat),
      e = .returned (.slice A bs.length c) ∧ bs.length ≤ 9 ∧ (∀ b ∈ bs, b.ok) ∧ Bats w' (fun b => w.heap.size ≤ b) A c bs ∧ RdN w' g (N + 5000) ∧ Chg (fun b => b = g) w w' := by
  have hg0 := h.lt
  go_enter Tryz.func12, Tryz.ntmps12
  go_wp2_with fail
  refine (pickN g N 5 _ (h.below (bal _ _)) (by omega) (by omega) (by omega)).mono ?_
  rintro e w1 ⟨v1, rfl, a1, b1, r1, c1⟩
  go_wp2_with fail
  refine (pickN g _ 16 _ r1 (by omega) (by omega) (by omega)).mono ?_
  rintro e w2 ⟨v2, rfl, a2, b2, r2, c2⟩
  have hA1 := App.lit Kind.bat 35 w w.heap.size (Nat.le_refl _)
  have HA2 := AppP.chg (AppP.chg hA1 c1 (fun b _ h1 h2 => by omega)) c2 (fun b _ h1 h2 => by omega)
  have C2 : Chg (fun b => b = g) w w2 := (((Chg.refl _ w).alloc (.cells #[] 35)).same_g c1).same_g c2
  obtain ⟨n1, rfl⟩ := Int.eq_ofNat_of_zero_le a1
  generalize hv : Value.slice (some ⟨w.heap.size, 0, none⟩) 0 0 = v0 at HA2
  clear hA1 c1 c2 r1 a1
  go_upto_if 14 with fail
  go_cut [4] (fun s4 wx => ∃ n : Nat, n ≤ 9 ∧ s4 = .int .i64 n ∧ RdN wx g (N + 3) ∧ App Kind.bat 35 wx w.heap.size v0 [] ∧ Hid (Chg (fun b => b = g) w wx))
  case first =>
    cases ht2 : (v2 == 0)
    · go_wp2
      go_meet
      exact ⟨1 + n1, by omega, by go_num, r2.le (by omega), HA2, Lib.hid C2⟩
    · go_wp2_with fail
      refine (pickN g _ 3 _ (r2.below (bal _ _)) (by omega) (by omega) (by omega)).mono ?_
      rintro e w3 ⟨v3, rfl, a3, b3, r3, c3⟩
      have hne : ¬ (w2.heap.size = g) := by have := r2.lt; omega
      have hlit := c3.blk (heap_alloc_new w2 (.cells #[.int .i64 0, .int .i64 8, .int .i64 9] 3)) hne
      obtain ⟨x, hxm, hx⟩ := lit_mem [0, 8, 9] hlit a3 b3
      have hx9 : 0 ≤ x ∧ x ≤ 9 := by simp at hxm; omega
      have HA3 := AppP.chg (AppP.below HA2 (bal w2 (.cells #[.int .i64 0, .int .i64 8, .int .i64 9] 3))) c3 (fun b _ h1 h2 => by omega)
      have C3 := (C2.alloc (.cells #[.int .i64 0, .int .i64 8, .int .i64 9] 3)).same_g c3
      obtain ⟨n, rfl⟩ := Int.eq_ofNat_of_zero_le hx9.1
      clear hxm hlit c3 r2 HA2 C2
      go_wp2
      go_meet
      exact ⟨n, by omega, rfl, r3, HA3, Lib.hid C3⟩
  case rest =>
  obtain ⟨n, hn9, rfl, r3, HA3, HC3⟩ := hcut
  clear HA2 C2 r2
  go_wp2_with fail
  refine (pickN g _ 10 _ r3 (by omega) (by omega) (by omega)).mono ?_
  rintro e w4 ⟨v3, rfl, a3, b3, r4, c4⟩
  have HA4 := AppP.chg HA3 c4 (fun b _ h1 h2 => by omega)
  have HC4 := Lib.hid (HC3.out.same_g c4)
  clear HA3 HC3 c4 r3
  go_wp2_with fail
  clear hv
  go_loopg [3, 5, 6] n (fun gg v o i wr => ∃ (k : Nat) (bs : List Bat) (oo : Int), o = .int .i64 oo ∧ k ≤ n ∧ gg = n - k ∧ i = .int .i64 k ∧ bs.length = k ∧ (∀ b ∈ bs, b.ok) ∧ App Kind.bat 35 wr w.heap.size v bs ∧ RdN wr g (N + 4 + 510 * k) ∧ Hid (Chg (fun b => b = g) w wr))
  case atStart => exact ⟨0, [], v3, rfl, by omega, by omega, rfl, rfl, fun _ h => by simp at h, HA4, r4.le (by omega), HC4⟩
  case round =>
    obtain ⟨k, bs, oo, rfl, hk, rfl, rfl, hbl, hok, HA, HR, HC⟩ := hrel
    have hgr := HR.lt
    have hsz := HC.out.size
    have HOK := Lib.hid hok
    clear hok HA4 r4 HC4
    by_cases hlt : k < n
    · go_wp2_with fail
      refine (l91Batch_any g _ oo _ HR (by omega)).mono ?_
      rintro e w5 ⟨b, A4, d4, rfl, hb1, hb5, htiny, hJ4, r5, c5⟩
      have hJ4l := hJ4.lts lts_rec (by decide)
      have HOKb := Lib.hid (show b.ok from ⟨hb1, hb5, htiny⟩)
      clear hJ4 htiny
      have hs5 := c5.size
      go_upto_region 10 with fail
      generalize hW6 : w5.alloc (Obj.cells #[.bool b.packed, .bool b.mark, .int .i64 b.prod, .int .i64 b.epoch, .int .i64 b.seq, .slice A4 b.recs.length d4] 35) = W6
      obtain ⟨hb6, hbl6, hs6⟩ := alloc1 hW6
      have hB6 : Boxed W6 wr.heap.size w5.heap.size := ⟨b, A4, d4, HOKb.out, hb6, (hJ4l.below hbl6).mono (fun i hi => ⟨hi.1, by have := hi.2; omega, by have := hi.2; omega⟩)⟩
      have cA6 := c5.then (Chg.of_below (F := fun _ => False) hbl6) (fun _ _ h => h.elim)
      have r6 := r5.below hbl6
      have HW6 := Lib.hid hW6
      clear hW6 hb6 hbl6 r5 c5 hJ4l HR
      go_cut [37] (fun s37 wx => (∃ bo : Bool, s37 = .bool bo) ∧ Boxed wx wr.heap.size w5.heap.size ∧ RdN wx g (N + 4 + 510 * k + 261) ∧ Hid (Chg (fun b => b = g) wr wx))
      case first =>
        go_wp2_with fail
        refine (pickN g _ 20 _ r6 (by omega) (by omega) (by omega)).mono ?_
        rintro e w7 ⟨v7, rfl, a7, b7, r7, c7⟩
        have hB7 := hB6.chg c7 (by omega) hs5
        have cA7 := cA6.same_g c7
        clear hB6 c7 cA6 r6
        by_cases hv7 : 0 < v7
        · obtain ⟨b9, A9, d9, hok9, hb9, hJ9⟩ := id hB7
          obtain ⟨x0, x1, x2, x3, x4, x5, xf⟩ := six hb9
          have HJ9 := Lib.hid hJ9
          have HB7 := Lib.hid hB7
          clear hb9 hB7 hJ9
          go_wp2_with fail
          refine (BatchValidS_any b9 A9 d9 _ w7 HJ9.out).mono ?_
          rintro e w8 ⟨rfl, hb8⟩
          go_wp2
          go_meet
          exact ⟨⟨_, rfl⟩, HB7.out.below hb8, r7.below hb8, Lib.hid (cA7.then (Chg.of_below (F := fun _ => False) hb8) (fun _ _ h => h.elim))⟩
        · go_wp2
          go_meet
          exact ⟨⟨_, rfl⟩, hB7, r7, Lib.hid cA7⟩
      case rest =>
      obtain ⟨⟨bo, rfl⟩, hB7, r7, HC7⟩ := hcut
      clear hB6 cA6 r6 HW6 HOKb
      go_upto_if 37 with fail
      go_cut [] (fun wx => Boxed wx wr.heap.size w5.heap.size ∧ RdN wx g (N + 4 + 510 * k + 501) ∧ Hid (Chg (fun b => b = g) wr wx))
      case first =>
        cases bo
        · go_wp2
          go_meet
          exact ⟨hB7, r7.le (by omega), HC7⟩
        · go_wp2_with fail
          refine (l91Records_any g _ oo 2 _ r7 (by omega) (by omega) (by omega)).mono ?_
          rintro e w8 ⟨rs8, kv8, rfl, hr1, hr4, htiny8, HA8, r8, c8⟩
          obtain ⟨A8, d8, rfl, J8⟩ := AppP.row HA8
          have J8 := J8.lts lts_rec (by decide)
          have hlt7 := hB7.lt
          have hsz7 := HC7.out.size
          obtain ⟨b9, A9, d9, hok9, hb9, hJ9⟩ := hB7
          have hb8 := c8.blk hb9 (by omega)
          have cA8 := HC7.out.same_g c8
          have HOK9 := Lib.hid (show Bat.ok ⟨false, false, 255, 0, 0, rs8⟩ from ⟨hr1, Nat.le_succ_of_le hr4, htiny8⟩)
          obtain ⟨y0, y1, y2, y3, y4, y5, yf⟩ := six hb8
          have Hb8 := Lib.hid hb8
          clear hb8 HA8 htiny8 hJ9 hb9 c8 r7
          generalize hX : (((((w8.setCell ⟨w5.heap.size, 0, none⟩ (.bool false)).setCell ⟨w5.heap.size, 1, none⟩ (.bool false)).setCell ⟨w5.heap.size, 2, none⟩ (.int .i64 255)).setCell ⟨w5.heap.size, 3, none⟩ (.int .i64 0)).setCell ⟨w5.heap.size, 4, none⟩ (.int .i64 0)).setCell ⟨w5.heap.size, 5, none⟩ (.slice A8 rs8.length d8) = X
          obtain ⟨hbX, cz⟩ := box6' Hb8.out hX
          have JX : Recs X (fun b => wr.heap.size ≤ b ∧ b < X.heap.size ∧ b ≠ w5.heap.size) A8 d8 rs8 := (J8.keep (cz.same (fun i hi h1 h2 => by have := h1.1; omega))).mono (fun b hb => ⟨by have := hb.1; omega, Nat.lt_of_lt_of_le hb.2 cz.size, by have := hb.1; omega⟩)
          have hBX : Boxed X wr.heap.size w5.heap.size := ⟨⟨false, false, 255, 0, 0, rs8⟩, A8, d8, HOK9.out, hbX, JX⟩
          have cAX := cA8.then cz (fun i hi hb => by omega)
          have rX := r8.chg cz (fun b hb => by omega)
          clear cz cA8 r8 J8 JX hbX
          go_wp2
          go_meet
          exact ⟨hBX, rX.le (by omega), Lib.hid cAX⟩
      case rest =>
      obtain ⟨hB8, r8, HC8⟩ := hcut
      clear hB7 r7 HC7
      obtain ⟨b9, A9, d9, hok9, hb9, hJ9⟩ := hB8
      have hB9 := (Array.getElem?_eq_some_iff.1 hb9).1
      have hapX := AppP.chg HA HC8.out (fun b h1 h2 h3 => by omega)
      have HKK := Lib.hid (show Kind.bat.K wc (fun i => wr.heap.size ≤ i ∧ i < wc.heap.size ∧ i ≠ w5.heap.size) b9 (b9.cells A9 d9) from ⟨A9, d9, rfl, hJ9⟩)
      have HOL := Lib.hid (show ∀ b, _ = some b → b < wr.heap.size from fun b hb => AppP.own_lt HA hb)
      have hszX := HC8.out.size
      have HCX := Lib.hid (HC.out.same_g HC8.out)
      have HbX := Lib.hid hb9
      have HJX := Lib.hid hJ9
      have HOKb := Lib.hid hok9
      obtain ⟨p0, p1, p2, p3, p4, p5, pf⟩ := six hb9
      clear hb9 hJ9 HC8 HC HA hok9
      have HG : Hid (∀ i, wr.heap.size ≤ i ∧ i < wc.heap.size ∧ i ≠ w5.heap.size → w.heap.size ≤ i ∧ i < wc.heap.size ∧ _ ≠ some i) := Lib.hid (fun b hb => ⟨by have := hb.1; omega, hb.2.1, fun h => by have := HOL.out b h; have := hb.1; omega⟩)
      have H1 : Hid (∀ u ∈ b9.cells A9 d9, u.oneCell' = true) := Lib.hid (by simp [Value.oneCell'])
      have H2 : Hid (w.heap.size ≤ wc.heap.size) := Lib.hid (by omega)
      have H3 : Hid (bs.length + 1 ≤ 1099511627776) := Lib.hid (by omega)
      have H4 : Hid ((bs.length + 1) * 56 ≤ 140737488355328) := Lib.hid (by omega)
      go_upto_region 13 with (at_builtin; go_loud (refine wpList_app Kind.bat hapX rfl _ _ 23 (.agg #[.bool false, .bool false, .int .i64 0, .int .i64 0, .int .i64 0, .slice none 0 0]) 56 rfl Tryz.underlying23 (by kernel_rfl) rfl (by decide) b9 (b9.cells A9 d9) _ rfl rfl HKK.out HG.out H1.out H2.out H3.out H4.out ?_; intro un W1 HA3 hc7; have HC7' := Lib.hid hc7; clear hc7))
      have hc7 := HC7'.out
      have cX7 := Lib.hid ((HCX.out.then hc7 (fun i hi hb => absurd (AppP.ne hapX hb) (by omega))).drew)
      have RD := (r8.chg hc7 (fun b hb => Nat.lt_of_lt_of_le hg0 (AppP.ne hapX hb))).below ((Below.refl _ W1).drew)
      have hb7 := hc7.blk HbX.out (fun hb => by have := HOL.out _ hb; omega)
      have J7 := HJX.out.keep (hc7.same (fun i _ h1 h2 => by have := HOL.out i h2; have := h1.1; omega))
      have HL9 : 1 ≤ b9.recs.length := HOKb.out.1
      have HL8 : b9.recs.length ≤ 5 := HOKb.out.2.1
      have HAD := AppP.below HA3 ((Below.refl _ W1).drew)
      obtain ⟨ad, E1, e1, E2, e2, hA9, hF9, _, _, f0, _⟩ := J7.rec_at (j := b9.recs.length - 1) (by omega)
      have hsz7 : wc.heap.size ≤ W1.heap.size := hc7.size
      subst hA9
      obtain ⟨z0, z1, z2, z3, z4, z5, zf⟩ := six hb7
      have hlz : (0 : Int) ≤ (b9.recs.length : Int) - 1 := by omega
      have hlz1 : (b9.recs.length : Int) - 1 < (b9.recs.length : Int) := by omega
      have hlz2 : ((b9.recs.length : Int) - 1).toNat = b9.recs.length - 1 := by omega
      have hlz3 : IntKind.i64.wrap ((b9.recs.length : Int) - 1) = (b9.recs.length : Int) - 1 := i64wrap (by omega) (by omega)
      have hadg : ¬ ((ad.add ((b9.recs.length - 1) * 6)).block = g) := by rw [add_block]; have := hF9.1; omega
      have hbg : ¬ (w5.heap.size = g) := by omega
      clear hc7 HC7' HbX HJX HCX HKK hapX HA3 r8 J7 hb7 p0 p1 p2 p3 p4 p5 pf HG H1 H2 H3 H4 hF9
      go_region_with (go_at_call 13; refine (pickN g _ 4 _ RD (by omega) (by omega) (by omega)).mono ?_; rintro e w9 ⟨v9, rfl, a9, b99, r9, c9⟩; have k0 := c9.cell (p := ad.add ((b9.recs.length - 1) * 6)) f0 hadg; have k5 := c9.cell (p := ⟨w5.heap.size, 5, none⟩) z5 hbg; have HC9 := Lib.hid c9; clear c9)
      all_goals
        go_wp2
        go_roundg (n - (k + 1))
        case measure => omega
        case rel => exact ⟨k + 1, bs ++ [b9], _, rfl, by omega, rfl, by go_num, by simp [hbl], ok_add HOK.out HOKb.out, AppP.chg HAD HC9.out (fun b _ h1 h2 => by omega), r9.le (by omega), Lib.hid (cX7.out.same_g HC9.out)⟩
    · have hkn : k = n := by omega
      subst hkn
      by_cases hn1 : 1 < k
      · go_wp2_with fail
        refine (pickN g _ 30 _ HR (by omega) (by omega) (by omega)).mono ?_
        rintro e w5 ⟨v5, rfl, a5, b5, r5, c5⟩
        have HA5 := AppP.chg HA c5 (fun b _ h1 h2 => by omega)
        have HC5 := Lib.hid (HC.out.same_g c5)
        clear HA HC HR c5
        cases ht5 : (v5 == 0)
        · go_wp2
          go_ret
          obtain ⟨A, c, rfl, J⟩ := AppP.row HA5
          exact ⟨bs, A, c, rfl, by omega, HOK.out, J, r5.le (by omega), HC5.out⟩
        · obtain ⟨gq, cap, cur, rfl, hPq, hhq, hcq, hlq, hmq, hE⟩ := AppP.own HA5 (by omega)
          obtain ⟨ds0, hK0, hd0⟩ := hE 0 _ (List.getElem?_eq_getElem (show 0 < bs.length by omega))
          obtain ⟨ds1, hK1, hd1⟩ := hE 1 _ (List.getElem?_eq_getElem (show 1 < bs.length by omega))
          have HE := Lib.hid hE
          have HK0 := Lib.hid hK0
          obtain ⟨A0, c0, rfl, hR0⟩ := hK0
          obtain ⟨A1, c1, rfl, hR1⟩ := hK1
          have f0 : w5.cell? ⟨gq, 0, none⟩ = some (.bool bs[0].packed) := hd0 0 _ rfl
          have f1 : w5.cell? ⟨gq, 1, none⟩ = some (.bool bs[0].mark) := hd0 1 _ rfl
          have f2 : w5.cell? ⟨gq, 2, none⟩ = some (.int .i64 bs[0].prod) := hd0 2 _ rfl
          have f3 : w5.cell? ⟨gq, 3, none⟩ = some (.int .i64 bs[0].epoch) := hd0 3 _ rfl
          have f4 : w5.cell? ⟨gq, 4, none⟩ = some (.int .i64 bs[0].seq) := hd0 4 _ rfl
          have f5 : w5.cell? ⟨gq, 5, none⟩ = some (.slice A0 bs[0].recs.length c0) := hd0 5 _ rfl
          have g0 : w5.cell? ⟨gq, 6, none⟩ = some (.bool bs[1].packed) := hd1 0 _ rfl
          have g1 : w5.cell? ⟨gq, 7, none⟩ = some (.bool bs[1].mark) := hd1 1 _ rfl
          have g2 : w5.cell? ⟨gq, 8, none⟩ = some (.int .i64 bs[1].prod) := hd1 2 _ rfl
          have g3 : w5.cell? ⟨gq, 9, none⟩ = some (.int .i64 bs[1].epoch) := hd1 3 _ rfl
          have g4 : w5.cell? ⟨gq, 10, none⟩ = some (.int .i64 bs[1].seq) := hd1 4 _ rfl
          have g5 : w5.cell? ⟨gq, 11, none⟩ = some (.slice A1 bs[1].recs.length c1) := hd1 5 _ rfl
          have gf : ∀ i, w5.frozen? ⟨gq, i, none⟩ = false := fun i => by simp [World.frozen?, hhq]
          have hl0 : (0 : Int) < (bs.length : Int) := by omega
          have hl1 : (1 : Int) < (bs.length : Int) := by omega
          have HR1 := own_set (q := 1) hPq hlq hmq HE.out (by omega) HK0.out
          have cF : Chg (fun b => b = gq) w5 (w5.setCells gq (1 * Kind.bat.sz) [.bool bs[0].packed, .bool bs[0].mark, .int .i64 bs[0].prod, .int .i64 bs[0].epoch, .int .i64 bs[0].seq, .slice A0 bs[0].recs.length c0]) := Chg.setCells (fun b => b = gq) rfl _ _ _
          have HCF := Lib.hid cF
          have HOKS : Hid (∀ b ∈ bs.set 1 bs[0], b.ok) := Lib.hid (fun b hb => by
            rcases List.mem_or_eq_of_mem_set hb with h | h
            · exact HOK.out b h
            · rw [h]; exact HOK.out _ (List.getElem_mem _))
          have HR1' := Lib.hid HR1
          clear hd0 hd1 hE HA5 hR0 hR1 hhq hcq cF HR1
          go_wp2
          go_ret
          refine ⟨bs.set 1 bs[0], some ⟨gq, 0, none⟩, cap, congrArg (fun n => Ending.returned (Value.slice (some ⟨gq, 0, none⟩) n cap)) (by simp [hbl]), by simp; omega, HOKS.out, HR1'.out, (r5.chg HCF.out (fun b hb => by omega)).le (by omega), HC5.out.then HCF.out (fun i hi hb => by omega)⟩
      · go_wp2
        go_ret
        obtain ⟨A, c, rfl, J⟩ := AppP.row HA
        exact ⟨bs, A, c, rfl, by omega, HOK.out, J, HR.le (by omega), HC.out⟩
end Go.Proofs.YtomcjjehfocbmaaGreatDoor
