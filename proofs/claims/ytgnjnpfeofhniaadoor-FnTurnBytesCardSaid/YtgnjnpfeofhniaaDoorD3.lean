/- The reader that draws. Draws: how many numbers. The reader is opened. Draws: parts. Draws: records. Draws: batches. Draws: bytes of a batch, and a place. -/
import Derived.Test.YtgnjnpfeofhniaaDoorGa
import Derived.Laws.BitsAllLaws
import Derived.Laws.BitsLemmas
import Derived.Test.YtgnjnpfeofhniaaDoorBv
namespace Go.Proofs.YtgnjnpfeofhniaaDoor
set_option linter.unusedVariables false
set_option linter.unusedSimpArgs false
section
section
open Go.RowKit

/-- Block g is a reader that has drawn p numbers. -/
def Rd (w : World) (g p : Nat) : Prop := ∃ (A : Option Addr) (c : Nat) (bs : List Int), w.heap[g]? = some (.cells #[.slice A bs.length c, .int .i64 p] 61 (0, 0)) ∧ Kind.byte.Row w (fun b => b < g) A c bs ∧ bs.length ≤ 2000
theorem Rd.lt {w : World} {g p : Nat} (h : Rd w g p) : g < w.heap.size := by
  obtain ⟨A, c, bs, h, _⟩ := h
  exact (Array.getElem?_eq_some_iff.1 h).1
theorem Rd.chg {w w' : World} {g p : Nat} {F : Nat → Prop} (h : Rd w g p) (hc : Chg F w w') (hF : ∀ b, F b → g < b) : Rd w' g p := by
  obtain ⟨A, c, bs, hb, hr, hl⟩ := h
  have hlt := (Array.getElem?_eq_some_iff.1 hb).1
  exact ⟨A, c, bs, hc.blk hb (fun hf => Nat.lt_irrefl _ (hF _ hf)), hr.keep (hc.same (fun i _ hi hf => by have := hF i hf; omega)), hl⟩
theorem Rd.below {w w' : World} {g p : Nat} (h : Rd w g p) (hb : Below w.heap.size w w') : Rd w' g p := h.chg (F := fun _ => False) (Chg.of_below hb) (fun _ h => h.elim)
theorem two {w : World} {g : Nat} {t : TypeId} {v0 v1 : Value} (h : w.heap[g]? = some (.cells #[v0, v1] t (0, 0))) :
    w.cell? ⟨g, 0, none⟩ = some v0 ∧ w.cell? ⟨g, 1, none⟩ = some v1 ∧ ∀ i, w.frozen? ⟨g, i, none⟩ = false := by
  refine ⟨?_, ?_, fun i => ?_⟩ <;> simp [World.cell?, World.frozen?, h]

theorem far_cell {w : World} {g i : Nat} {ad : Addr} {j : Nat} {v : Value} (h : w.cell? (ad.add j) = some v) (hF : ad.block < g) (u : Value) : (w.setCell ⟨g, i, none⟩ u).cell? (ad.add j) = some v := by
  rw [World.cell?_setCell_other _ _ _ _ (fun e => ?_)]
  · exact h
  · have : (ad.add j).block = g := by rw [← e]
    rw [add_block] at this
    omega
theorem rd_set {w : World} {g p : Nat} {A : Option Addr} {c : Nat} {bs : List Int} (hb : w.heap[g]? = some (.cells #[.slice A bs.length c, .int .i64 p] 61 (0, 0))) (hr : Kind.byte.Row w (fun b => b < g) A c bs) (hl : bs.length ≤ 2000) :
    Rd (w.setCell ⟨g, 1, none⟩ (.int .i64 ((p : Int) + 1))) g (p + 1) := by
  refine ⟨A, c, bs, ?_, hr.keep ((Chg.set (fun b => b = g) w (p := ⟨g, 1, none⟩) rfl _).same (fun i _ (h1 : i < g) (h2 : i = g) => by omega)), hl⟩
  have := blk_put hb 1 (.int .i64 ((p : Int) + 1))
  simpa using this
theorem pick_x (p l : Nat) (x y : Int) (hl : 0 < l) (hp : p ≤ 1000000) (hx0 : 0 ≤ x) (hx1 : x ≤ 255) (hy0 : 0 ≤ y) (hy1 : y ≤ 255) :
    wrap64 ((p : Int) / (l : Int)) = (p : Int) / (l : Int) ∧ wrap64 ((p : Int) / (l : Int) * 53) = (p : Int) / (l : Int) * 53 ∧
    wrap64 (x * 131 + y * 1117 + (p : Int) * 29 + (p : Int) / (l : Int) * 53) = x * 131 + y * 1117 + (p : Int) * 29 + (p : Int) / (l : Int) * 53 ∧
    0 ≤ x * 131 + y * 1117 + (p : Int) * 29 + (p : Int) / (l : Int) * 53 ∧ x * 131 + y * 1117 + (p : Int) * 29 + (p : Int) / (l : Int) * 53 ≤ 100000000 := by
  have hd1 : 0 ≤ (p : Int) / (l : Int) := Int.ediv_nonneg (by omega) (by omega)
  have hd2 : (p : Int) / (l : Int) ≤ (p : Int) := Int.ediv_le_self _ (by omega)
  generalize (p : Int) / (l : Int) = q at *
  exact ⟨IntWalk.wrap64_in _ (by omega), IntWalk.wrap64_in _ (by omega), IntWalk.wrap64_in _ (by omega), by omega, by omega⟩
theorem xor_nonneg (X : Int) (h0 : 0 ≤ X) (h1 : X ≤ 100000000) : 0 ≤ bits BinOp.xor IntKind.i64 X (X / 64) := by
  obtain ⟨a, rfl⟩ := Int.eq_ofNat_of_zero_le h0
  show 0 ≤ IntKind.i64.wrap ((BitVec.ofInt 64 (a : Int) ^^^ BitVec.ofInt 64 ((a : Int) / 64)).toNat : Int)
  have e : (a : Int) / 64 = ((a / 64 : Nat) : Int) := by omega
  have k1 : (BitVec.ofInt 64 (a : Int)).toNat = a := by rw [BitVec.toNat_ofInt]; omega
  have k2 : (BitVec.ofInt 64 ((a / 64 : Nat) : Int)).toNat = a / 64 := by rw [BitVec.toNat_ofInt]; omega
  rw [e, BitVec.toNat_xor, k1, k2]
  have hx : a ^^^ a / 64 < 2 ^ 62 := Nat.xor_lt_two_pow (by omega) (by omega)
  generalize a ^^^ a / 64 = q at hx
  have h63 : q < 9223372036854775808 := by omega
  clear k1 k2
  simp [IntKind.wrap, IntKind.bits]
  omega
theorem pick_tmod (x n : Int) (hx : 0 ≤ x) (hn : 1 ≤ n) : 0 ≤ x.tmod n ∧ x.tmod n < n := ⟨Int.tmod_nonneg _ hx, Int.tmod_lt_of_pos _ (by omega)⟩
theorem pick_any (g p : Nat) (n : Int) (w : World) (h : Rd w g p) (hp : p ≤ 1000000) (hn : 1 ≤ n) (hn1 : n ≤ 1000000) :
    Calls Tryd.prog 11 #[.pointer (some ⟨g, 0, none⟩), .int .i64 n] w fun e w' => ∃ v : Int, e = .returned (.int .i64 v) ∧ 0 ≤ v ∧ v < n ∧ Rd w' g (p + 1) ∧ Chg (fun b => b = g) w w' := by
  obtain ⟨A, c, bs, hb, hr, hl⟩ := h
  have hlc := hr.1
  have hcc := hr.2.1
  obtain ⟨q0, q1, qf⟩ := two hb
  have Hb := Lib.hid hb
  have hd0 : decide (n < 1) = false := by simp; omega
  cases hz : ((bs.length : Int) == 0)
  · have hpos : 0 < bs.length := by
      rcases Nat.eq_zero_or_pos bs.length with h | h
      · rw [h] at hz; cases hz
      · exact h
    by_cases hk : p < bs.length
    · obtain ⟨ad, rfl, hF, hc, hx0, hx1⟩ := hr.byte_at hk
      have hc' : ∀ u, (w.setCell ⟨g, 1, none⟩ u).cell? (ad.add p) = some (.int .u8 bs[p]) := fun u => far_cell hc hF u
      clear hb hc
      go_enter Tryd.func11, Tryd.ntmps11
      go_wp2
      go_ret
      refine ⟨_, rfl, ?_, ?_, rd_set Hb.out hr hl, Chg.set (fun b => b = g) w (p := ⟨g, 1, none⟩) rfl _⟩
      · exact Int.emod_nonneg _ (by omega)
      · exact Int.emod_lt_of_pos _ (by omega)
    · have h1 : p % bs.length < bs.length := Nat.mod_lt _ hpos
      have h2 : (p * 7 + 3) % bs.length < bs.length := Nat.mod_lt _ hpos
      obtain ⟨ad, rfl, hF, hc, hx0, hx1⟩ := hr.byte_at h1
      obtain ⟨ad', ha', _, hc2, hy0, hy1⟩ := hr.byte_at h2
      obtain rfl : ad = ad' := by injection ha'
      have hc' : ∀ u, (w.setCell ⟨g, 1, none⟩ u).cell? (ad.add (p % bs.length)) = some (.int .u8 bs[p % bs.length]) := fun u => far_cell hc hF u
      have hc2' : ∀ u, (w.setCell ⟨g, 1, none⟩ u).cell? (ad.add ((p * 7 + 3) % bs.length)) = some (.int .u8 bs[(p * 7 + 3) % bs.length]) := fun u => far_cell hc2 hF u
      clear hb hc hc2
      go_enter Tryd.func11, Tryd.ntmps11
      go_wp2
      generalize hW : World.setCell _ _ _ = W
      have w0 : W.cell? ⟨g, 0, none⟩ = some (.slice (some ad) bs.length c) := by rw [← hW]; simpa [World.cell?_setCell_other] using q0
      have w1 : W.cell? (ad.add (p % bs.length)) = some (.int .u8 bs[p % bs.length]) := by rw [← hW]; exact hc' _
      have w2 : W.cell? (ad.add ((p * 7 + 3) % bs.length)) = some (.int .u8 bs[(p * 7 + 3) % bs.length]) := by rw [← hW]; exact hc2' _
      have W0 := grow_cell w0
      have W1 := grow_cell w1
      have W2 := grow_cell w2
      have HW := Lib.hid hW
      clear hW w0 w1 w2 hc' hc2' q0 q1 qf
      have hpi : (0 : Int) < (bs.length : Int) := by omega
      have hm1 : (0 : Int) ≤ ((p : Int) * 7 + 3) % (bs.length : Int) := Int.emod_nonneg _ (by omega)
      have hm2 : ((p : Int) * 7 + 3) % (bs.length : Int) < (bs.length : Int) := Int.emod_lt_of_pos _ hpi
      obtain ⟨e1, e2, e3, hX0, hX1⟩ := pick_x p bs.length _ _ hpos hp hx0 hx1 hy0 hy1
      refine wp_region_grow_lit (by kernel_rfl) (by kernel_rfl) ?_
      repeat (go_big_quiet_step (fail))
      refine wpQuiet_nil ?_
      rintro _ ⟨G, rfl⟩
      generalize hX : bs[p % bs.length] * 131 + bs[(p * 7 + 3) % bs.length] * 1117 + ↑p * 29 + (p : Int) / (bs.length : Int) * 53 = X
      rw [hX] at hX0 hX1
      clear hX e1 e2 e3
      go_wp2
      go_ret
      have hm := pick_tmod (bits BinOp.xor IntKind.i64 X (X / 64)) n (xor_nonneg X hX0 hX1) hn
      refine ⟨_, rfl, hm.1, hm.2, ?_, ?_⟩
      · have hR : Rd W g (p + 1) := by rw [← HW.out]; exact rd_set Hb.out hr hl
        exact hR.below (grow_below W G)
      · have hC : Chg (fun b => b = g) w W := by rw [← HW.out]; exact Chg.set (fun b => b = g) w (p := ⟨g, 1, none⟩) rfl _
        exact hC.then (Chg.of_below (F := fun _ => False) (grow_below W G)) (fun i _ h => h.elim)
  · clear hb
    go_enter Tryd.func11, Tryd.ntmps11
    go_wp2
    go_ret
    exact ⟨0, rfl, Int.le_refl _, by omega, rd_set Hb.out hr hl, Chg.set (fun b => b = g) w (p := ⟨g, 1, none⟩) rfl _⟩
end

section
open Go.RowKit

/-- .. at most N numbers. -/
def RdN (w : World) (g N : Nat) : Prop := ∃ p, p ≤ N ∧ Rd w g p
theorem RdN.lt {w : World} {g N : Nat} (h : RdN w g N) : g < w.heap.size := h.elim fun _ h => h.2.lt
theorem RdN.chg {w w' : World} {g N : Nat} {F : Nat → Prop} (h : RdN w g N) (hc : Chg F w w') (hF : ∀ b, F b → g < b) : RdN w' g N := h.elim fun p h => ⟨p, h.1, h.2.chg hc hF⟩
theorem RdN.below {w w' : World} {g N : Nat} (h : RdN w g N) (hb : Below w.heap.size w w') : RdN w' g N := h.elim fun p h => ⟨p, h.1, h.2.below hb⟩
theorem RdN.le {w : World} {g N M : Nat} (h : RdN w g N) (hm : N ≤ M) : RdN w g M := h.elim fun p h => ⟨p, Nat.le_trans h.1 hm, h.2⟩
theorem pickN (g N : Nat) (n : Int) (w : World) (h : RdN w g N) (hp : N ≤ 1000000) (hn : 1 ≤ n) (hn1 : n ≤ 1000000) :
    Calls Tryd.prog 11 #[.pointer (some ⟨g, 0, none⟩), .int .i64 n] w fun e w' => ∃ v : Int, e = .returned (.int .i64 v) ∧ 0 ≤ v ∧ v < n ∧ RdN w' g (N + 1) ∧ Chg (fun b => b = g) w w' := by
  obtain ⟨p, hpN, hr⟩ := h
  refine (pick_any g p n w hr (by omega) hn hn1).mono ?_
  rintro e w' ⟨v, rfl, h0, h1, h2, h3⟩
  exact ⟨v, rfl, h0, h1, ⟨p + 1, by omega, h2⟩, h3⟩
theorem Chg.same_g {g : Nat} {a b c : World} (h : Chg (fun b => b = g) a b) (k : Chg (fun b => b = g) b c) : Chg (fun b => b = g) a c := h.then k (fun _ _ h => h)

theorem lit_at {w : World} {g : Nat} {t : TypeId} (xs : List Int) (h : w.heap[g]? = some (.cells (xs.map (Value.int .i64)).toArray t (0, 0))) {v : Int} (h0 : 0 ≤ v) (h1 : v < xs.length) :
    ∃ x, w.cell? ⟨g, v.toNat, none⟩ = some (.int .i64 x) := by
  have hl : v.toNat < xs.length := by omega
  exact ⟨xs[v.toNat], by simp [World.cell?, h, hl]⟩
end

section
open Go.RowKit

theorem bnd_byte : Kind.byte.Bnd := ⟨Nat.one_pos, fun _ _ _ _ h => h⟩
theorem l6Open_any (bs : List Int) (A : Option Addr) (c : Nat) (F : Nat → Prop) (w : World) (h : Kind.byte.Row w F A c bs) :
    Calls Tryd.prog 10 #[.slice A bs.length c] w fun e w' => ∃ g, e = .returned (.pointer (some ⟨g, 0, none⟩)) ∧ w.heap.size ≤ g ∧ Rd w' g 0 ∧ Below w.heap.size w w' := by
  have hl := h.1
  have hc := h.2.1
  have hb := (h.bound bnd_byte).mono (F' := fun b => b < w.heap.size) (fun b hb => hb.2)
  by_cases hs : bs.length ≤ 2000
  · go_enter Tryd.func10, Tryd.ntmps10
    go_wp2
    go_ret
    refine ⟨w.heap.size, rfl, Nat.le_refl _, ?_, bal _ _⟩
    exact ⟨A, c, bs, heap_alloc_new w _, hb.below (bal _ _), hs⟩
  · go_enter Tryd.func10, Tryd.ntmps10
    go_wp2
    go_ret
    have h2 := hb.take 2000
    have hlen : (bs.take 2000).length = 2000 := by simp; omega
    refine ⟨w.heap.size, rfl, Nat.le_refl _, ?_, bal _ _⟩
    refine ⟨A, c, bs.take 2000, ?_, h2.below (bal _ _), by omega⟩
    rw [hlen]
    exact heap_alloc_new w _
end

section
open Go.RowKit

theorem l91Part_any (g N : Nat) (w : World) (h : RdN w g N) (hN : N ≤ 900000) :
    Calls Tryd.prog 24 #[.pointer (some ⟨g, 0, none⟩)] w fun e w' => ∃ (has : Bool) (xs : List Int) (v : Value), e = .returned (.tuple #[.bool has, v]) ∧ xs.length ≤ 12 ∧ App (Kind.int .i64) 3 w' w.heap.size v xs ∧ RdN w' g (N + 27) ∧ Chg (fun b => b = g) w w' := by
  go_enter Tryd.func24, Tryd.ntmps24
  go_wp2_with fail
  refine (pickN g N 4 w h (by omega) (by omega) (by omega)).mono ?_
  rintro e w1 ⟨v1, rfl, a1, b1, r1, c1⟩
  cases ht1 : (v1 == 0)
  · go_wp2_with fail
    refine (pickN g (N + 1) 5 _ (r1.below (bal _ _)) (by omega) (by omega) (by omega)).mono ?_
    rintro e w2 ⟨v2, rfl, a2, b2, r2, c2⟩
    go_wp2_with fail
    refine (pickN g (N + 1 + 1) 12 _ r2 (by omega) (by omega) (by omega)).mono ?_
    rintro e w3 ⟨v3, rfl, a3, b3, r3, c3⟩
    have hg1 := r1.lt
    have hg0 := h.lt
    have hs1 := c1.size
    have A1 := App.lit (Kind.int .i64) 3 w1 w.heap.size hs1
    have A2 := (A1.chg c2 (fun b _ h1 h2 => by omega)).chg c3 (fun b _ h1 h2 => by omega)
    have C3 : Chg (fun b => b = g) w w3 := ((c1.alloc _).same_g c2).same_g c3
    clear A1 c1 c2 c3 r1 r2
    generalize hv : Value.slice (some ⟨w1.heap.size, 0, none⟩) 0 0 = v0 at A2 ⊢
    clear hv
    have key : ∃ n : Nat, n ≤ 12 ∧ (v3 = 0 → n = 12) ∧ (v3 ≠ 0 → (n : Int) = v2) := by
      by_cases h : v3 = 0
      · exact ⟨12, by omega, fun _ => rfl, fun h' => absurd h h'⟩
      · exact ⟨v2.toNat, by omega, fun h' => absurd h' h, fun _ => by omega⟩
    obtain ⟨n, hn, k0, k1⟩ := key
    cases ht3 : (v3 == 0)
    · have hv2 := k1 (by simpa using ht3)
      subst hv2
      go_wp2_with fail
      go_loopw [4, 6] (fun v i wr => ∃ (k : Nat) (xs : List Int), k ≤ n ∧ i = .int .i64 k ∧ xs.length = k ∧ App (Kind.int .i64) 3 wr w.heap.size v xs ∧ RdN wr g (N + 3 + 2 * k) ∧ Hid (Chg (fun b => b = g) w wr)) (fun _ i _ => n - (intOf i).toNat)
      case atStart => exact ⟨0, [], by omega, rfl, rfl, A2, r3, Lib.hid C3⟩
      case round =>
        obtain ⟨k, xs, hk, rfl, hxl, HA, HR, HC⟩ := hrel
        have hsz := HC.out.size
        have hgr := HR.lt
        by_cases hlt : k < n
        · go_wp2_with fail
          refine (pickN g _ 256 _ HR (by omega) (by omega) (by omega)).mono ?_
          rintro e w4 ⟨v4, rfl, a4, b4, r4, c4⟩
          go_wp2_with fail
          refine (pickN g _ 4 _ (r4.below (bal _ _)) (by omega) (by omega) (by omega)).mono ?_
          rintro e w5 ⟨v5, rfl, a5, b5, r5, c5⟩
          have hnb : ¬ (w4.heap.size = g) := by have := r4.lt; omega
          have hblk := c5.blk (heap_alloc_new w4 (.cells #[.int .i64 1, .int .i64 2, .int .i64 3, .int .i64 v4] 3 (0, 0))) hnb
          obtain ⟨x, hx⟩ := lit_at [1, 2, 3, v4] hblk a5 b5
          clear hblk
          have HA2 := (((HA.chg c4 (fun b _ h1 h2 => by omega)).below (bal _ _)).chg c5 (fun b _ h1 h2 => by omega))
          have c6 := ((HC.out.same_g c4).alloc _).same_g c5
          have HC6 := Lib.hid c6
          clear c4 c5 c6 HA
          have hr5 := r5.lt
          go_wp2_with (at_builtin; go_loud (refine wpList_app (Kind.int .i64) HA2 rfl _ _ 32 (.int .i64 0) 8 rfl Tryd.underlying32 (by kernel_rfl) rfl (by decide) x [.int .i64 x] (fun _ => False) rfl rfl rfl ?_ ?_ ?_ ?_ ?_ ?_))
          · exact fun _ h => h.elim
          · simp [Value.oneCell']
          · have := HC6.out.size; exact this
          · omega
          · omega
          intro u1 W1 HA3 hc7
          have hc8 := HC6.out.then hc7 (fun i hi hb => absurd (HA2.ne hb) (by omega))
          have hr7 := (r5.chg hc7 (fun b hb => Nat.lt_of_lt_of_le hg0 (HA2.ne hb)))
          clear hc7 HC6
          go_wp2
          go_roundw
          case rel => exact ⟨k + 1, _, by omega, by go_num, by simp [hxl], HA3, hr7.le (by omega), Lib.hid hc8⟩
          case measure => simp [intOf]; omega
        · go_wp2
          go_ret2
          exact ⟨true, xs, _, rfl, by omega, HA, HR.le (by omega), HC.out⟩
    · have hn12 := k0 (by simpa using ht3)
      subst hn12
      go_wp2_with fail
      go_loopw [4, 6] (fun v i wr => ∃ (k : Nat) (xs : List Int), k ≤ 12 ∧ i = .int .i64 k ∧ xs.length = k ∧ App (Kind.int .i64) 3 wr w.heap.size v xs ∧ RdN wr g (N + 3 + 2 * k) ∧ Hid (Chg (fun b => b = g) w wr)) (fun _ i _ => 12 - (intOf i).toNat)
      case atStart => exact ⟨0, [], by omega, rfl, rfl, A2, r3, Lib.hid C3⟩
      case round =>
        obtain ⟨k, xs, hk, rfl, hxl, HA, HR, HC⟩ := hrel
        have hsz := HC.out.size
        have hgr := HR.lt
        by_cases hlt : k < 12
        · go_wp2_with fail
          refine (pickN g _ 256 _ HR (by omega) (by omega) (by omega)).mono ?_
          rintro e w4 ⟨v4, rfl, a4, b4, r4, c4⟩
          go_wp2_with fail
          refine (pickN g _ 4 _ (r4.below (bal _ _)) (by omega) (by omega) (by omega)).mono ?_
          rintro e w5 ⟨v5, rfl, a5, b5, r5, c5⟩
          have hnb : ¬ (w4.heap.size = g) := by have := r4.lt; omega
          have hblk := c5.blk (heap_alloc_new w4 (.cells #[.int .i64 1, .int .i64 2, .int .i64 3, .int .i64 v4] 3 (0, 0))) hnb
          obtain ⟨x, hx⟩ := lit_at [1, 2, 3, v4] hblk a5 b5
          clear hblk
          have HA2 := (((HA.chg c4 (fun b _ h1 h2 => by omega)).below (bal _ _)).chg c5 (fun b _ h1 h2 => by omega))
          have c6 := ((HC.out.same_g c4).alloc _).same_g c5
          have HC6 := Lib.hid c6
          clear c4 c5 c6 HA
          have hr5 := r5.lt
          go_wp2_with (at_builtin; go_loud (refine wpList_app (Kind.int .i64) HA2 rfl _ _ 32 (.int .i64 0) 8 rfl Tryd.underlying32 (by kernel_rfl) rfl (by decide) x [.int .i64 x] (fun _ => False) rfl rfl rfl ?_ ?_ ?_ ?_ ?_ ?_))
          · exact fun _ h => h.elim
          · simp [Value.oneCell']
          · have := HC6.out.size; exact this
          · omega
          · omega
          intro u1 W1 HA3 hc7
          have hc8 := HC6.out.then hc7 (fun i hi hb => absurd (HA2.ne hb) (by omega))
          have hr7 := (r5.chg hc7 (fun b hb => Nat.lt_of_lt_of_le hg0 (HA2.ne hb)))
          clear hc7 HC6
          go_wp2
          go_roundw
          case rel => exact ⟨k + 1, _, by omega, by go_num, by simp [hxl], HA3, hr7.le (by omega), Lib.hid hc8⟩
          case measure => simp [intOf]; omega
        · go_wp2
          go_ret2
          exact ⟨true, xs, _, rfl, by omega, HA, HR.le (by omega), HC.out⟩
  · go_wp2
    go_ret2
    exact ⟨false, [], _, rfl, by simp, App.lit _ _ _ _ c1.size, (r1.below (bal _ _)).le (by omega), c1.alloc _⟩
end

section
open Go.RowKit

/-- What a reading leads to is there. -/
def Kind.Lts {α : Type} (d : Kind α) : Prop := ∀ w F x cs, d.K w F x cs → d.K w (fun b => F b ∧ b < w.heap.size) x cs
theorem Kind.Row.lts {α : Type} {d : Kind α} (hd : d.Lts) (hs : 0 < d.sz) {w : World} {F : Nat → Prop} {A : Option Addr} {c : Nat} {xs : List α} (h : d.Row w F A c xs) : d.Row w (fun b => F b ∧ b < w.heap.size) A c xs := by
  refine ⟨h.1, h.2.1, fun hx => ?_⟩
  obtain ⟨ad, e, hF, hc⟩ := h.2.2 hx
  refine ⟨ad, e, ⟨hF, ?_⟩, fun j x hj => ?_⟩
  · match xs, hx with
    | x :: t, _ =>
      obtain ⟨cs, hK, hcell⟩ := hc 0 x rfl
      have hl := d.len hK
      have hg : cs[0]? = some cs[0] := List.getElem?_eq_getElem (by omega)
      have := cell_lt (hcell 0 _ hg)
      rw [add_block] at this
      exact this
  · obtain ⟨cs, hK, hcell⟩ := hc j x hj
    exact ⟨cs, hd _ _ _ _ hK, hcell⟩
theorem lts_int {k : IntKind} : (Kind.int k).Lts := fun _ _ _ _ h => h
theorem lts_rec : Kind.rec_.Lts := by
  rintro w F r cs ⟨A, c, A', c', rfl, h1, h2⟩
  exact ⟨A, c, A', c', rfl, h1.lts lts_int (by decide), h2.lts lts_int (by decide)⟩
theorem lts_bat : Kind.bat.Lts := by
  rintro w F r cs ⟨A, c, rfl, h1⟩
  exact ⟨A, c, rfl, h1.lts lts_rec (by decide)⟩
def Rec.tiny (r : Rec) : Prop := r.key.length ≤ 12 ∧ r.val.length ≤ 12

theorem box23 {X W : World} {B : Nat} {t : TypeId} {a b c d e f u v : Value} (hb : X.heap[B]? = some (.cells #[a, b, c, d, e, f] t (0, 0))) (hW : (X.setCell ⟨B, 2, none⟩ u).setCell ⟨B, 3, none⟩ v = W) :
    W.heap[B]? = some (.cells #[a, b, u, v, e, f] t (0, 0)) ∧ Chg (fun b => b = B) X W := by
  subst hW
  exact ⟨by simpa using blk_put (blk_put hb 2 u) 3 v, (Chg.set (fun b => b = B) X (p := ⟨B, 2, none⟩) rfl _).trans (Chg.set (fun b => b = B) _ (p := ⟨B, 3, none⟩) rfl _)⟩
theorem box45 {X W : World} {B : Nat} {t : TypeId} {a b c d e f u v : Value} (hb : X.heap[B]? = some (.cells #[a, b, c, d, e, f] t (0, 0))) (hW : (X.setCell ⟨B, 4, none⟩ u).setCell ⟨B, 5, none⟩ v = W) :
    W.heap[B]? = some (.cells #[a, b, c, d, u, v] t (0, 0)) ∧ Chg (fun b => b = B) X W := by
  subst hW
  exact ⟨by simpa using blk_put (blk_put hb 4 u) 5 v, (Chg.set (fun b => b = B) X (p := ⟨B, 4, none⟩) rfl _).trans (Chg.set (fun b => b = B) _ (p := ⟨B, 5, none⟩) rfl _)⟩
theorem box3 {X W : World} {B : Nat} {t : TypeId} {a b c d e f v : Value} (hb : X.heap[B]? = some (.cells #[a, b, c, d, e, f] t (0, 0))) (hW : X.setCell ⟨B, 3, none⟩ v = W) :
    W.heap[B]? = some (.cells #[a, b, c, v, e, f] t (0, 0)) ∧ Chg (fun b => b = B) X W := by
  subst hW
  exact ⟨by simpa using blk_put hb 3 v, Chg.set (fun b => b = B) X (p := ⟨B, 3, none⟩) rfl _⟩
theorem tiny_add {rs : List Rec} {r : Rec} (h : ∀ x ∈ rs, x.tiny) (hr : r.tiny) : ∀ x ∈ rs ++ [r], x.tiny := by
  intro x hx
  rcases List.mem_append.1 hx with hx | hx
  · exact h x hx
  · simp at hx; subst hx; exact hr
theorem one_int (w : World) (v : Int) : Ints (w.alloc (.cells #[.int .i64 v] 3)) (fun b => w.heap.size = b) (some ⟨w.heap.size, 0, none⟩) 1 [v] := by
  refine ⟨Nat.le_refl _, by omega, fun _ => ⟨_, rfl, rfl, fun j x hj => ?_⟩⟩
  obtain ⟨rfl, rfl⟩ : j = 0 ∧ v = x := by
    cases j with
    | zero => exact ⟨rfl, by simpa using hj⟩
    | succ j => simp at hj
  refine ⟨_, rfl, fun i u hu => ?_⟩
  cases i with
  | zero =>
    simp at hu
    subst hu
    exact cell_of_row _ _ _ _ _ _ (heap_alloc_new w (.cells #[.int .i64 v] 3))
  | succ i => simp at hu
end
end

section
open Go.RowKit

theorem Chg.put {B i : Nat} {u : Value} {a b : World} (h : Chg (fun x => x = B) a b) : Chg (fun x => x = B) a (b.setCell ⟨B, i, none⟩ u) := h.trans (Chg.set (fun x => x = B) b (p := ⟨B, i, none⟩) rfl u)
theorem box1 {X W : World} {B i : Nat} {t : TypeId} {cs : Array Value} {u : Value} (hb : X.heap[B]? = some (.cells cs t (0, 0))) (hW : X.setCell ⟨B, i, none⟩ u = W) :
    W.heap[B]? = some (.cells (cs.setIfInBounds i u) t (0, 0)) ∧ Chg (fun b => b = B) X W := by
  subst hW
  exact ⟨blk_put hb i u, (Chg.refl _ X).put⟩
theorem fin_b {X W' w : World} {g M N B : Nat} (b : Bat) (A : Option Addr) (c : Nat) (cF : Chg (fun x => x = w.heap.size) X W') (h1 : 1 ≤ b.recs.length) (h2 : b.recs.length ≤ 5) (ht : ∀ r ∈ b.recs, r.tiny)
    (hJ : Recs X (fun b => w.heap.size < b ∧ b ≠ B) A c b.recs) (hr : RdN X g M) (hM : M ≤ N) (hc : Chg (fun b => b = g) w X) (hg : g < w.heap.size) :
    ∃ (b' : Bat) (A' : Option Addr) (c' : Nat), Ending.returned (.agg #[.bool b.packed, .bool b.mark, .int .i64 b.prod, .int .i64 b.epoch, .int .i64 b.seq, .slice A b.recs.length c]) =
        Ending.returned (.agg #[.bool b'.packed, .bool b'.mark, .int .i64 b'.prod, .int .i64 b'.epoch, .int .i64 b'.seq, .slice A' b'.recs.length c']) ∧
      1 ≤ b'.recs.length ∧ b'.recs.length ≤ 5 ∧ (∀ r ∈ b'.recs, r.tiny) ∧ Recs W' (fun b => w.heap.size ≤ b) A' c' b'.recs ∧ RdN W' g N ∧ Chg (fun b => b = g) w W' :=
  ⟨b, A, c, rfl, h1, h2, ht, (hJ.keep (cF.same (fun i _ h1 h2 => by have := h1.1; omega))).mono (fun b hb => Nat.le_of_lt hb.1), (hr.chg cF (fun b hb => by omega)).le hM, hc.then cF (fun i hi hb => by omega)⟩
end

section
open Go.RowKit

theorem info_int8 : (Tryd.prog.info? 3).map (fun i => (i.zero, i.size, i.bytes)) = some (some (.int .i64 0), 1, 8) := by kernel_rfl
end
end Go.Proofs.YtgnjnpfeofhniaaDoor
