/- The reader that draws. Draws: how many numbers. The reader is opened. Draws: parts. Draws: records. Draws: batches. Draws: bytes of a batch, and a place. -/
import Derived.Test.YtomcjjehfocbmaaGreatDoorGa
import Derived.Laws.BitsAllLaws
import Derived.Laws.BitsLemmas
import Derived.Test.YtomcjjehfocbmaaGreatDoorBv
namespace Go.Proofs.YtomcjjehfocbmaaGreatDoor
set_option linter.unusedVariables false
set_option linter.unusedSimpArgs false
section
section
open Go.RowKit

/-- Block g is a reader that has drawn p numbers. -/
def Rd (w : World) (g p : Nat) : Prop := ∃ (A : Option Addr) (c : Nat) (bs : List Int), w.heap[g]? = some (.cells #[.slice A bs.length c, .int .i64 p] 62 (0, 0)) ∧ Kind.byte.Row w (fun b => b < g) A c bs ∧ bs.length ≤ 2000
theorem Rd.lt {w : World} {g p : Nat} (h : Rd w g p) : g < w.heap.size := by
  obtain ⟨A, c, bs, h, _⟩ := h
  exact (Array.getElem?_eq_some_iff.1 h).1
theorem Rd.chg {w w' : World} {g p : Nat} {F : Nat → Prop} (h : Rd w g p) (hc : Chg F w w') (hF : ∀ b, F b → g < b) : Rd w' g p := by
  obtain ⟨A, c, bs, hb, hr, hl⟩ := h
  have hlt := (Array.getElem?_eq_some_iff.1 hb).1
  exact ⟨A, c, bs, hc.blk hb (fun hf => Nat.lt_irrefl _ (hF _ hf)), hr.keep (hc.same (fun i _ hi hf => by have := hF i hf; omega)), hl⟩
theorem Rd.below {w w' : World} {g p : Nat} (h : Rd w g p) (hb : Below w.heap.size w w') : Rd w' g p := h.chg (F := fun _ => False) (Chg.of_below hb) (fun _ h => h.elim)
theorem two {w : World} {g : Nat} {t : TypeId} {v0 v1 : Value} (h : w.heap[g]? = some (.cells #[v0, v1] t (0, 0))) :
    w.cell? ⟨g, 0, none⟩ = some v0 ∧ w.cell? ⟨g, 1, none⟩ = some v1 ∧ ∀ i, w.frozen? ⟨g, i, none⟩ = false := by
  refine ⟨?_, ?_, fun i => ?_⟩ <;> simp [World.cell?, World.frozen?, h]

theorem far_cell {w : World} {g i : Nat} {ad : Addr} {j : Nat} {v : Value} (h : w.cell? (ad.add j) = some v) (hF : ad.block < g) (u : Value) : (w.setCell ⟨g, i, none⟩ u).cell? (ad.add j) = some v := by
  rw [World.cell?_setCell_other _ _ _ _ (fun e => ?_)]
  · exact h
  · have : (ad.add j).block = g := by rw [← e]
    rw [add_block] at this
    omega
theorem rd_set {w : World} {g p : Nat} {A : Option Addr} {c : Nat} {bs : List Int} (hb : w.heap[g]? = some (.cells #[.slice A bs.length c, .int .i64 p] 62 (0, 0))) (hr : Kind.byte.Row w (fun b => b < g) A c bs) (hl : bs.length ≤ 2000) :
    Rd (w.setCell ⟨g, 1, none⟩ (.int .i64 ((p : Int) + 1))) g (p + 1) := by
  refine ⟨A, c, bs, ?_, hr.keep ((Chg.set (fun b => b = g) w (p := ⟨g, 1, none⟩) rfl _).same (fun i _ (h1 : i < g) (h2 : i = g) => by omega)), hl⟩
  have := blk_put hb 1 (.int .i64 ((p : Int) + 1))
  simpa using this
theorem pick_x (p l : Nat) (x y : Int) (hl : 0 < l) (hp : p ≤ 1000000) (hx0 : 0 ≤ x) (hx1 : x ≤ 255) (hy0 : 0 ≤ y) (hy1 : y ≤ 255) :
    wrap64 ((p : Int) / (l : Int)) = (p : Int) / (l : Int) ∧ wrap64 ((p : Int) / (l : Int) * 53) = (p : Int) / (l : Int) * 53 ∧
    wrap64 (x * 131 + y * 1117 + (p : Int) * 29 + (p : Int) / (l : Int) * 53) = x * 131 + y * 1117 + (p : Int) * 29 + (p : Int) / (l : Int) * 53 ∧
    0 ≤ x * 131 + y * 1117 + (p : Int) * 29 + (p : Int) / (l : Int) * 53 ∧ x * 131 + y * 1117 + (p : Int) * 29 + (p : Int) / (l : Int) * 53 ≤ 100000000 := by
  have hd1 : 0 ≤ (p : Int) / (l : Int) := Int.ediv_nonneg (by omega) (by omega)
  have hd2 : (p : Int) / (l : Int) ≤ (p : Int) := Int.ediv_le_self _ (by omega)
  generalize (p : Int) / (l : Int) = q at *
  exact ⟨IntWalk.wrap64_in _ (by omega), IntWalk.wrap64_in _ (by omega), IntWalk.wrap64_in _ (by omega), by omega, by omega⟩
theorem xor_nonneg (X : Int) (h0 : 0 ≤ X) (h1 : X ≤ 100000000) : 0 ≤ bits BinOp.xor IntKind.i64 X (X / 64) := by
  obtain ⟨a, rfl⟩ := Int.eq_ofNat_of_zero_le h0
  show 0 ≤ IntKind.i64.wrap ((BitVec.ofInt 64 (a : Int) ^^^ BitVec.ofInt 64 ((a : Int) / 64)).toNat : Int)
  have e : (a : Int) / 64 = ((a / 64 : Nat) : Int) := by omega
  have k1 : (BitVec.ofInt 64 (a : Int)).toNat = a := by rw [BitVec.toNat_ofInt]; omega
  have k2 : (BitVec.ofInt 64 ((a / 64 : Nat) : Int)).toNat = a / 64 := by rw [BitVec.toNat_ofInt]; omega
  rw [e, BitVec.toNat_xor, k1, k2]
  have hx : a ^^^ a / 64 < 2 ^ 62 := Nat.xor_lt_two_pow (by omega) (by omega)
  generalize a ^^^ a / 64 = q at hx
  have h63 : q < 9223372036854775808 := by omega
  clear k1 k2
  simp [IntKind.wrap, IntKind.bits]
  omega
theorem pick_tmod (x n : Int) (hx : 0 ≤ x) (hn : 1 ≤ n) : 0 ≤ x.tmod n ∧ x.tmod n < n := ⟨Int.tmod_nonneg _ hx, Int.tmod_lt_of_pos _ (by omega)⟩
theorem pick_any (g p : Nat) (n : Int) (w : World) (h : Rd w g p) (hp : p ≤ 1000000) (hn : 1 ≤ n) (hn1 : n ≤ 1000000) :
    Calls Tryz.prog 13 #[.pointer (some ⟨g, 0, none⟩), .int .i64 n] w fun e w' => ∃ v : Int, e = .returned (.int .i64 v) ∧ 0 ≤ v ∧ v < n ∧ Rd w' g (p + 1) ∧ Chg (fun b => b = g) w w' := by
  obtain ⟨A, c, bs, hb, hr, hl⟩ := h
  have hlc := hr.1
  have hcc := hr.2.1
  obtain ⟨q0, q1, qf⟩ := two hb
  have Hb := Lib.hid hb
  have hd0 : decide (n < 1) = false := by simp; omega
  cases hz : ((bs.length : Int) == 0)
  · have hpos : 0 < bs.length := by
      rcases Nat.eq_zero_or_pos bs.length with h | h
      · rw [h] at hz; cases hz
      · exact h
    by_cases hk : p < bs.length
    · obtain ⟨ad, rfl, hF, hc, hx0, hx1⟩ := hr.byte_at hk
      have hc' : ∀ u, (w.setCell ⟨g, 1, none⟩ u).cell? (ad.add p) = some (.int .u8 bs[p]) := fun u => far_cell hc hF u
      clear hb hc
      go_enter Tryz.func13, Tryz.ntmps13
      go_wp2
      go_ret
      refine ⟨_, rfl, ?_, ?_, rd_set Hb.out hr hl, Chg.set (fun b => b = g) w (p := ⟨g, 1, none⟩) rfl _⟩
      · exact Int.emod_nonneg _ (by omega)
      · exact Int.emod_lt_of_pos _ (by omega)
    · have h1 : p % bs.length < bs.length := Nat.mod_lt _ hpos
      have h2 : (p * 7 + 3) % bs.length < bs.length := Nat.mod_lt _ hpos
      obtain ⟨ad, rfl, hF, hc, hx0, hx1⟩ := hr.byte_at h1
      obtain ⟨ad', ha', _, hc2, hy0, hy1⟩ := hr.byte_at h2
      obtain rfl : ad = ad' := by injection ha'
      have hc' : ∀ u, (w.setCell ⟨g, 1, none⟩ u).cell? (ad.add (p % bs.length)) = some (.int .u8 bs[p % bs.length]) := fun u => far_cell hc hF u
      have hc2' : ∀ u, (w.setCell ⟨g, 1, none⟩ u).cell? (ad.add ((p * 7 + 3) % bs.length)) = some (.int .u8 bs[(p * 7 + 3) % bs.length]) := fun u => far_cell hc2 hF u
      clear hb hc hc2
      go_enter Tryz.func13, Tryz.ntmps13
      go_wp2
      generalize hW : World.setCell _ _ _ = W
      have w0 : W.cell? ⟨g, 0, none⟩ = some (.slice (some ad) bs.length c) := by rw [← hW]; simpa [World.cell?_setCell_other] using q0
      have w1 : W.cell? (ad.add (p % bs.length)) = some (.int .u8 bs[p % bs.length]) := by rw [← hW]; exact hc' _
      have w2 : W.cell? (ad.add ((p * 7 + 3) % bs.length)) = some (.int .u8 bs[(p * 7 + 3) % bs.length]) := by rw [← hW]; exact hc2' _
      have W0 := grow_cell w0
      have W1 := grow_cell w1
      have W2 := grow_cell w2
      have HW := Lib.hid hW
      clear hW w0 w1 w2 hc' hc2' q0 q1 qf
      have hpi : (0 : Int) < (bs.length : Int) := by omega
      have hm1 : (0 : Int) ≤ ((p : Int) * 7 + 3) % (bs.length : Int) := Int.emod_nonneg _ (by omega)
      have hm2 : ((p : Int) * 7 + 3) % (bs.length : Int) < (bs.length : Int) := Int.emod_lt_of_pos _ hpi
      obtain ⟨e1, e2, e3, hX0, hX1⟩ := pick_x p bs.length _ _ hpos hp hx0 hx1 hy0 hy1
      refine wp_region_grow_lit (by kernel_rfl) (by kernel_rfl) ?_
      repeat (go_big_quiet_step (fail))
      refine wpQuiet_nil ?_
      rintro _ ⟨G, rfl⟩
      generalize hX : bs[p % bs.length] * 131 + bs[(p * 7 + 3) % bs.length] * 1117 + ↑p * 29 + (p : Int) / (bs.length : Int) * 53 = X
      rw [hX] at hX0 hX1
      clear hX e1 e2 e3
      go_wp2
      go_ret
      have hm := pick_tmod (bits BinOp.xor IntKind.i64 X (X / 64)) n (xor_nonneg X hX0 hX1) hn
      refine ⟨_, rfl, hm.1, hm.2, ?_, ?_⟩
      · have hR : Rd W g (p + 1) := by rw [← HW.out]; exact rd_set Hb.out hr hl
        exact hR.below (grow_below W G)
      · have hC : Chg (fun b => b = g) w W := by rw [← HW.out]; exact Chg.set (fun b => b = g) w (p := ⟨g, 1, none⟩) rfl _
        exact hC.then (Chg.of_below (F := fun _ => False) (grow_below W G)) (fun i _ h => h.elim)
  · clear hb
    go_enter Tryz.func13, Tryz.ntmps13
    go_wp2
    go_ret
    exact ⟨0, rfl, Int.le_refl _, by omega, rd_set Hb.out hr hl, Chg.set (fun b => b = g) w (p := ⟨g, 1, none⟩) rfl _⟩
end

section
open Go.RowKit

/-- .. at most N numbers. -/
def RdN (w : World) (g N : Nat) : Prop := ∃ p, p ≤ N ∧ Rd w g p
theorem RdN.lt {w : World} {g N : Nat} (h : RdN w g N) : g < w.heap.size := h.elim fun _ h => h.2.lt
theorem RdN.chg {w w' : World} {g N : Nat} {F : Nat → Prop} (h : RdN w g N) (hc : Chg F w w') (hF : ∀ b, F b → g < b) : RdN w' g N := h.elim fun p h => ⟨p, h.1, h.2.chg hc hF⟩
theorem RdN.below {w w' : World} {g N : Nat} (h : RdN w g N) (hb : Below w.heap.size w w') : RdN w' g N := h.elim fun p h => ⟨p, h.1, h.2.below hb⟩
theorem RdN.le {w : World} {g N M : Nat} (h : RdN w g N) (hm : N ≤ M) : RdN w g M := h.elim fun p h => ⟨p, Nat.le_trans h.1 hm, h.2⟩
theorem pickN (g N : Nat) (n : Int) (w : World) (h : RdN w g N) (hp : N ≤ 1000000) (hn : 1 ≤ n) (hn1 : n ≤ 1000000) :
    Calls Tryz.prog 13 #[.pointer (some ⟨g, 0, none⟩), .int .i64 n] w fun e w' => ∃ v : Int, e = .returned (.int .i64 v) ∧ 0 ≤ v ∧ v < n ∧ RdN w' g (N + 1) ∧ Chg (fun b => b = g) w w' := by
  obtain ⟨p, hpN, hr⟩ := h
  refine (pick_any g p n w hr (by omega) hn hn1).mono ?_
  rintro e w' ⟨v, rfl, h0, h1, h2, h3⟩
  exact ⟨v, rfl, h0, h1, ⟨p + 1, by omega, h2⟩, h3⟩
theorem Chg.same_g {g : Nat} {a b c : World} (h : Chg (fun b => b = g) a b) (k : Chg (fun b => b = g) b c) : Chg (fun b => b = g) a c := h.then k (fun _ _ h => h)

theorem lit_at {w : World} {g : Nat} {t : TypeId} (xs : List Int) (h : w.heap[g]? = some (.cells (xs.map (Value.int .i64)).toArray t (0, 0))) {v : Int} (h0 : 0 ≤ v) (h1 : v < xs.length) :
    ∃ x, w.cell? ⟨g, v.toNat, none⟩ = some (.int .i64 x) := by
  have hl : v.toNat < xs.length := by omega
  exact ⟨xs[v.toNat], by simp [World.cell?, h, hl]⟩
end

section
open Go.RowKit

theorem bnd_byte : Kind.byte.Bnd := ⟨Nat.one_pos, fun _ _ _ _ h => h⟩
theorem l6Open_any (bs : List Int) (A : Option Addr) (c : Nat) (F : Nat → Prop) (w : World) (h : Kind.byte.Row w F A c bs) :
    Calls Tryz.prog 11 #[.slice A bs.length c] w fun e w' => ∃ g, e = .returned (.pointer (some ⟨g, 0, none⟩)) ∧ w.heap.size ≤ g ∧ Rd w' g 0 ∧ Below w.heap.size w w' := by
  have hl := h.1
  have hc := h.2.1
  have hb := (h.bound bnd_byte).mono (F' := fun b => b < w.heap.size) (fun b hb => hb.2)
  by_cases hs : bs.length ≤ 2000
  · go_enter Tryz.func11, Tryz.ntmps11
    go_wp2
    go_ret
    refine ⟨w.heap.size, rfl, Nat.le_refl _, ?_, bal _ _⟩
    exact ⟨A, c, bs, heap_alloc_new w _, hb.below (bal _ _), hs⟩
  · go_enter Tryz.func11, Tryz.ntmps11
    go_wp2
    go_ret
    have h2 := hb.take 2000
    have hlen : (bs.take 2000).length = 2000 := by simp; omega
    refine ⟨w.heap.size, rfl, Nat.le_refl _, ?_, bal _ _⟩
    refine ⟨A, c, bs.take 2000, ?_, h2.below (bal _ _), by omega⟩
    rw [hlen]
    exact heap_alloc_new w _
end

section
open Go.RowKit

theorem l91Part_any (g N : Nat) (w : World) (h : RdN w g N) (hN : N ≤ 900000) :
    Calls Tryz.prog 48 #[.pointer (some ⟨g, 0, none⟩)] w fun e w' => ∃ (has : Bool) (xs : List Int) (v : Value), e = .returned (.tuple #[.bool has, v]) ∧ xs.length ≤ 12 ∧ App (Kind.int .i64) 3 w' w.heap.size v xs ∧ RdN w' g (N + 27) ∧ Chg (fun b => b = g) w w' := by
  go_enter Tryz.func48, Tryz.ntmps48
  go_wp2_with fail
  refine (pickN g N 4 w h (by omega) (by omega) (by omega)).mono ?_
  rintro e w1 ⟨v1, rfl, a1, b1, r1, c1⟩
  cases ht1 : (v1 == 0)
  · go_wp2_with fail
    refine (pickN g (N + 1) 5 _ (r1.below (bal _ _)) (by omega) (by omega) (by omega)).mono ?_
    rintro e w2 ⟨v2, rfl, a2, b2, r2, c2⟩
    go_wp2_with fail
    refine (pickN g (N + 1 + 1) 12 _ r2 (by omega) (by omega) (by omega)).mono ?_
    rintro e w3 ⟨v3, rfl, a3, b3, r3, c3⟩
    have hg1 := r1.lt
    have hg0 := h.lt
    have hs1 := c1.size
    have A1 := App.lit (Kind.int .i64) 3 w1 w.heap.size hs1
    have A2 := (A1.chg c2 (fun b _ h1 h2 => by omega)).chg c3 (fun b _ h1 h2 => by omega)
    have C3 : Chg (fun b => b = g) w w3 := ((c1.alloc _).same_g c2).same_g c3
    clear A1 c1 c2 c3 r1 r2
    generalize hv : Value.slice (some ⟨w1.heap.size, 0, none⟩) 0 0 = v0 at A2 ⊢
    clear hv
    have key : ∃ n : Nat, n ≤ 12 ∧ (v3 = 0 → n = 12) ∧ (v3 ≠ 0 → (n : Int) = v2) := by
      by_cases h : v3 = 0
      · exact ⟨12, by omega, fun _ => rfl, fun h' => absurd h h'⟩
      · exact ⟨v2.toNat, by omega, fun h' => absurd h' h, fun _ => by omega⟩
    obtain ⟨n, hn, k0, k1⟩ := key
    cases ht3 : (v3 == 0)
    · have hv2 := k1 (by simpa using ht3)
      subst hv2
      go_wp2_with fail
      go_loopw [4, 6] (fun v i wr => ∃ (k : Nat) (xs : List Int), k ≤ n ∧ i = .int .i64 k ∧ xs.length = k ∧ App (Kind.int .i64) 3 wr w.heap.size v xs ∧ RdN wr g (N + 3 + 2 * k) ∧ Hid (Chg (fun b => b = g) w wr)) (fun _ i _ => n - (intOf i).toNat)
      case atStart => exact ⟨0, [], by omega, rfl, rfl, A2, r3, Lib.hid C3⟩
      case round =>
        obtain ⟨k, xs, hk, rfl, hxl, HA, HR, HC⟩ := hrel
        have hsz := HC.out.size
        have hgr := HR.lt
        by_cases hlt : k < n
        · go_wp2_with fail
          refine (pickN g _ 256 _ HR (by omega) (by omega) (by omega)).mono ?_
          rintro e w4 ⟨v4, rfl, a4, b4, r4, c4⟩
          go_wp2_with fail
          refine (pickN g _ 4 _ (r4.below (bal _ _)) (by omega) (by omega) (by omega)).mono ?_
          rintro e w5 ⟨v5, rfl, a5, b5, r5, c5⟩
          have hnb : ¬ (w4.heap.size = g) := by have := r4.lt; omega
          have hblk := c5.blk (heap_alloc_new w4 (.cells #[.int .i64 1, .int .i64 2, .int .i64 3, .int .i64 v4] 3 (0, 0))) hnb
          obtain ⟨x, hx⟩ := lit_at [1, 2, 3, v4] hblk a5 b5
          clear hblk
          have HA2 := (((HA.chg c4 (fun b _ h1 h2 => by omega)).below (bal _ _)).chg c5 (fun b _ h1 h2 => by omega))
          have c6 := ((HC.out.same_g c4).alloc _).same_g c5
          have HC6 := Lib.hid c6
          clear c4 c5 c6 HA
          have hr5 := r5.lt
          go_wp2_with (at_builtin; go_loud (refine wpList_app (Kind.int .i64) HA2 rfl _ _ 30 (.int .i64 0) 8 rfl Tryz.underlying30 (by kernel_rfl) rfl (by decide) x [.int .i64 x] (fun _ => False) rfl rfl rfl ?_ ?_ ?_ ?_ ?_ ?_))
          · exact fun _ h => h.elim
          · simp [Value.oneCell']
          · have := HC6.out.size; exact this
          · omega
          · omega
          intro u1 W1 HA3 hc7
          have hc8 := HC6.out.then hc7 (fun i hi hb => absurd (HA2.ne hb) (by omega))
          have hr7 := (r5.chg hc7 (fun b hb => Nat.lt_of_lt_of_le hg0 (HA2.ne hb)))
          clear hc7 HC6
          go_wp2
          go_roundw
          case rel => exact ⟨k + 1, _, by omega, by go_num, by simp [hxl], HA3, hr7.le (by omega), Lib.hid hc8⟩
          case measure => simp [intOf]; omega
        · go_wp2
          go_ret2
          exact ⟨true, xs, _, rfl, by omega, HA, HR.le (by omega), HC.out⟩
    · have hn12 := k0 (by simpa using ht3)
      subst hn12
      go_wp2_with fail
      go_loopw [4, 6] (fun v i wr => ∃ (k : Nat) (xs : List Int), k ≤ 12 ∧ i = .int .i64 k ∧ xs.length = k ∧ App (Kind.int .i64) 3 wr w.heap.size v xs ∧ RdN wr g (N + 3 + 2 * k) ∧ Hid (Chg (fun b => b = g) w wr)) (fun _ i _ => 12 - (intOf i).toNat)
      case atStart => exact ⟨0, [], by omega, rfl, rfl, A2, r3, Lib.hid C3⟩
      case round =>
        obtain ⟨k, xs, hk, rfl, hxl, HA, HR, HC⟩ := hrel
        have hsz := HC.out.size
        have hgr := HR.lt
        by_cases hlt : k < 12
        · go_wp2_with fail
          refine (pickN g _ 256 _ HR (by omega) (by omega) (by omega)).mono ?_
          rintro e w4 ⟨v4, rfl, a4, b4, r4, c4⟩
          go_wp2_with fail
          refine (pickN g _ 4 _ (r4.below (bal _ _)) (by omega) (by omega) (by omega)).mono ?_
          rintro e w5 ⟨v5, rfl, a5, b5, r5, c5⟩
          have hnb : ¬ (w4.heap.size = g) := by have := r4.lt; omega
          have hblk := c5.blk (heap_alloc_new w4 (.cells #[.int .i64 1, .int .i64 2, .int .i64 3, .int .i64 v4] 3 (0, 0))) hnb
          obtain ⟨x, hx⟩ := lit_at [1, 2, 3, v4] hblk a5 b5
          clear hblk
          have HA2 := (((HA.chg c4 (fun b _ h1 h2 => by omega)).below (bal _ _)).chg c5 (fun b _ h1 h2 => by omega))
          have c6 := ((HC.out.same_g c4).alloc _).same_g c5
          have HC6 := Lib.hid c6
          clear c4 c5 c6 HA
          have hr5 := r5.lt
          go_wp2_with (at_builtin; go_loud (refine wpList_app (Kind.int .i64) HA2 rfl _ _ 30 (.int .i64 0) 8 rfl Tryz.underlying30 (by kernel_rfl) rfl (by decide) x [.int .i64 x] (fun _ => False) rfl rfl rfl ?_ ?_ ?_ ?_ ?_ ?_))
          · exact fun _ h => h.elim
          · simp [Value.oneCell']
          · have := HC6.out.size; exact this
          · omega
          · omega
          intro u1 W1 HA3 hc7
          have hc8 := HC6.out.then hc7 (fun i hi hb => absurd (HA2.ne hb) (by omega))
          have hr7 := (r5.chg hc7 (fun b hb => Nat.lt_of_lt_of_le hg0 (HA2.ne hb)))
          clear hc7 HC6
          go_wp2
          go_roundw
          case rel => exact ⟨k + 1, _, by omega, by go_num, by simp [hxl], HA3, hr7.le (by omega), Lib.hid hc8⟩
          case measure => simp [intOf]; omega
        · go_wp2
          go_ret2
          exact ⟨true, xs, _, rfl, by omega, HA, HR.le (by omega), HC.out⟩
  · go_wp2
    go_ret2
    exact ⟨false, [], _, rfl, by simp, App.lit _ _ _ _ c1.size, (r1.below (bal _ _)).le (by omega), c1.alloc _⟩
end

section
open Go.RowKit

/-- What a reading leads to is there. -/
def Kind.Lts {α : Type} (d : Kind α) : Prop := ∀ w F x cs, d.K w F x cs → d.K w (fun b => F b ∧ b < w.heap.size) x cs
theorem Kind.Row.lts {α : Type} {d : Kind α} (hd : d.Lts) (hs : 0 < d.sz) {w : World} {F : Nat → Prop} {A : Option Addr} {c : Nat} {xs : List α} (h : d.Row w F A c xs) : d.Row w (fun b => F b ∧ b < w.heap.size) A c xs := by
  refine ⟨h.1, h.2.1, fun hx => ?_⟩
  obtain ⟨ad, e, hF, hc⟩ := h.2.2 hx
  refine ⟨ad, e, ⟨hF, ?_⟩, fun j x hj => ?_⟩
  · match xs, hx with
    | x :: t, _ =>
      obtain ⟨cs, hK, hcell⟩ := hc 0 x rfl
      have hl := d.len hK
      have hg : cs[0]? = some cs[0] := List.getElem?_eq_getElem (by omega)
      have := cell_lt (hcell 0 _ hg)
      rw [add_block] at this
      exact this
  · obtain ⟨cs, hK, hcell⟩ := hc j x hj
    exact ⟨cs, hd _ _ _ _ hK, hcell⟩
theorem lts_int {k : IntKind} : (Kind.int k).Lts := fun _ _ _ _ h => h
theorem lts_rec : Kind.rec_.Lts := by
  rintro w F r cs ⟨A, c, A', c', rfl, h1, h2⟩
  exact ⟨A, c, A', c', rfl, h1.lts lts_int (by decide), h2.lts lts_int (by decide)⟩
theorem lts_bat : Kind.bat.Lts := by
  rintro w F r cs ⟨A, c, rfl, h1⟩
  exact ⟨A, c, rfl, h1.lts lts_rec (by decide)⟩
def Rec.tiny (r : Rec) : Prop := r.key.length ≤ 12 ∧ r.val.length ≤ 12

theorem box23 {X W : World} {B : Nat} {t : TypeId} {a b c d e f u v : Value} (hb : X.heap[B]? = some (.cells #[a, b, c, d, e, f] t (0, 0))) (hW : (X.setCell ⟨B, 2, none⟩ u).setCell ⟨B, 3, none⟩ v = W) :
    W.heap[B]? = some (.cells #[a, b, u, v, e, f] t (0, 0)) ∧ Chg (fun b => b = B) X W := by
  subst hW
  exact ⟨by simpa using blk_put (blk_put hb 2 u) 3 v, (Chg.set (fun b => b = B) X (p := ⟨B, 2, none⟩) rfl _).trans (Chg.set (fun b => b = B) _ (p := ⟨B, 3, none⟩) rfl _)⟩
theorem box45 {X W : World} {B : Nat} {t : TypeId} {a b c d e f u v : Value} (hb : X.heap[B]? = some (.cells #[a, b, c, d, e, f] t (0, 0))) (hW : (X.setCell ⟨B, 4, none⟩ u).setCell ⟨B, 5, none⟩ v = W) :
    W.heap[B]? = some (.cells #[a, b, c, d, u, v] t (0, 0)) ∧ Chg (fun b => b = B) X W := by
  subst hW
  exact ⟨by simpa using blk_put (blk_put hb 4 u) 5 v, (Chg.set (fun b => b = B) X (p := ⟨B, 4, none⟩) rfl _).trans (Chg.set (fun b => b = B) _ (p := ⟨B, 5, none⟩) rfl _)⟩
theorem box3 {X W : World} {B : Nat} {t : TypeId} {a b c d e f v : Value} (hb : X.heap[B]? = some (.cells #[a, b, c, d, e, f] t (0, 0))) (hW : X.setCell ⟨B, 3, none⟩ v = W) :
    W.heap[B]? = some (.cells #[a, b, c, v, e, f] t (0, 0)) ∧ Chg (fun b => b = B) X W := by
  subst hW
  exact ⟨by simpa using blk_put hb 3 v, Chg.set (fun b => b = B) X (p := ⟨B, 3, none⟩) rfl _⟩
theorem tiny_add {rs : List Rec} {r : Rec} (h : ∀ x ∈ rs, x.tiny) (hr : r.tiny) : ∀ x ∈ rs ++ [r], x.tiny := by
  intro x hx
  rcases List.mem_append.1 hx with hx | hx
  · exact h x hx
  · simp at hx; subst hx; exact hr
theorem one_int (w : World) (v : Int) : Ints (w.alloc (.cells #[.int .i64 v] 3)) (fun b => w.heap.size = b) (some ⟨w.heap.size, 0, none⟩) 1 [v] := by
  refine ⟨Nat.le_refl _, by omega, fun _ => ⟨_, rfl, rfl, fun j x hj => ?_⟩⟩
  obtain ⟨rfl, rfl⟩ : j = 0 ∧ v = x := by
    cases j with
    | zero => exact ⟨rfl, by simpa using hj⟩
    | succ j => simp at hj
  refine ⟨_, rfl, fun i u hu => ?_⟩
  cases i with
  | zero =>
    simp at hu
    subst hu
    exact cell_of_row _ _ _ _ _ _ (heap_alloc_new w (.cells #[.int .i64 v] 3))
  | succ i => simp at hu
theorem l91Records_any (g N : Nat) (off most : Int) (w : World) (h : RdN w g N) (hN : N ≤ 800000) (hm : 1 ≤ most) (hm1 : most ≤ 4) :
    Calls Tryz.prog 26 #[.pointer (some ⟨g, 0, none⟩), .int .i64 off, .int .i64 most] w fun e w' => ∃ (rs : List Rec) (v : Value), e = .returned v ∧ 1 ≤ rs.length ∧ rs.length ≤ 4 ∧ (∀ r ∈ rs, r.tiny) ∧
      App Kind.rec_ 41 w' w.heap.size v rs ∧ RdN w' g (N + 240) ∧ Chg (fun b => b = g) w w' := by
  have hg0 := h.lt
  go_enter Tryz.func26, Tryz.ntmps26
  go_wp2_with fail
  refine (pickN g N most _ (h.below (bal _ _)) (by omega) (by omega) (by omega)).mono ?_
  rintro e w1 ⟨v1, rfl, a1, b1, r1, c1⟩
  go_wp2_with fail
  refine (pickN g (N + 1) 200 _ r1 (by omega) (by omega) (by omega)).mono ?_
  rintro e w2 ⟨v2, rfl, a2, b2, r2, c2⟩
  have A1 := App.lit Kind.rec_ 41 w w.heap.size (Nat.le_refl _)
  have A2 := (A1.chg c1 (fun b _ h1 h2 => by omega)).chg c2 (fun b _ h1 h2 => by omega)
  have C2 : Chg (fun b => b = g) w w2 := (((Chg.refl _ w).alloc (.cells #[] 41)).same_g c1).same_g c2
  generalize hv : Value.slice (some ⟨w.heap.size, 0, none⟩) 0 0 = v0 at A2
  obtain ⟨n, rfl⟩ := Int.eq_ofNat_of_zero_le a1
  have HC2 := Lib.hid C2
  clear A1 c1 c2 C2 r1
  go_wp2_with fail

  clear hv
  go_loopw [1, 7, 9, 10] (fun o v t i wr => ∃ (k : Nat) (rs : List Rec) (oo tt : Int), o = .int .i64 oo ∧ t = .int .i64 tt ∧ k ≤ 1 + n ∧ i = .int .i64 k ∧ rs.length = k ∧ (∀ r ∈ rs, r.tiny) ∧ App Kind.rec_ 41 wr w.heap.size v rs ∧ RdN wr g (N + 2 + 58 * k) ∧ Hid (Chg (fun b => b = g) w wr)) (fun _ _ _ i _ => 1 + n - (intOf i).toNat)
  case atStart => exact ⟨0, [], off, v2, rfl, rfl, by omega, rfl, rfl, fun _ h => by simp at h, A2, r2, HC2⟩
  case round =>
    obtain ⟨k, rs, oo, tt, rfl, rfl, hk, rfl, hrl, htiny, HA, HR, HC⟩ := hrel
    have hgr := HR.lt
    have hsz := HC.out.size
    have HT := Lib.hid htiny
    clear htiny HC2 r2 A2
    by_cases hlt : k < 1 + n
    · go_wp2_with fail
      have hB1 : (wr.alloc (Obj.cells #[Value.int IntKind.i64 oo, Value.int IntKind.i64 tt, Value.bool false, Value.slice none 0 0, Value.bool false, Value.slice none 0 0] 41)).heap.size = wr.heap.size + 1 := by simp
      have hb1 := heap_alloc_new wr (Obj.cells #[Value.int IntKind.i64 oo, Value.int IntKind.i64 tt, Value.bool false, Value.slice none 0 0, Value.bool false, Value.slice none 0 0] 41)
      have cA := (Chg.refl (fun b => b = g) wr).alloc (Obj.cells #[Value.int IntKind.i64 oo, Value.int IntKind.i64 tt, Value.bool false, Value.slice none 0 0, Value.bool false, Value.slice none 0 0] 41)
      refine (l91Part_any g _ _ (HR.below (bal _ _)) (by omega)).mono ?_
      rintro e w3 ⟨has1, xs1, kv1, rfl, hl1, K1, r3, c3⟩
      rw [hB1] at K1
      have hb3 := c3.blk hb1 (by omega)
      have cA3 := cA.same_g c3
      clear hb1
      go_wp2_with fail
      refine (l91Part_any g _ _ r3 (by omega)).mono ?_
      rintro e w4 ⟨has2, xs2, kv2, rfl, hl2, K2, r4, c4⟩
      have hs3 : wr.heap.size + 1 ≤ w3.heap.size := by have := c3.size; omega
      have hs4 := c4.size
      have K2' := K2.from hs3
      have K1' := K1.chg c4 (fun b _ h1 h2 => by omega)
      have hb4 := c4.blk hb3 (by omega)
      have cA4 := cA3.same_g c4
      clear K1 K2 hb3 r3 c3 c4 cA cA3
      have hr4 := r4.lt
      obtain ⟨B1, d1, rfl, J1⟩ := K1'.row
      obtain ⟨B2, d2, rfl, J2⟩ := K2'.row
      have J1 := J1.lts lts_int (by decide)
      have J2 := J2.lts lts_int (by decide)
      have Hb4 := Lib.hid hb4
      clear hb4 K1' K2'
      generalize hX : (w4.setCell ⟨wr.heap.size, 2, none⟩ (.bool has1)).setCell ⟨wr.heap.size, 3, none⟩ (.slice B1 xs1.length d1) = X
      obtain ⟨hbX, cX⟩ := box23 Hb4.out hX
      obtain ⟨q0, q1, q2, q3, q4, q5, qf⟩ := six Hb4.out
      have cAX := cA4.then cX (fun i hi hb => by omega)
      have hsX := cX.size
      have J1 := J1.keep (cX.same (fun i _ h1 h2 => by omega))
      have J2 := J2.keep (cX.same (fun i _ h1 h2 => by omega))
      have rX := r4.chg cX (fun b hb => by omega)
      clear cX cA4 r4
      cases has1
      · have HbX := Lib.hid hbX
        generalize hW : (X.setCell ⟨wr.heap.size, 4, none⟩ (.bool has2)).setCell ⟨wr.heap.size, 5, none⟩ (.slice B2 xs2.length d2) = W
        obtain ⟨hbW, cW⟩ := box45 HbX.out hW
        obtain ⟨p0, p1, p2, p3, p4, p5, pf⟩ := six hbW
        obtain ⟨x0, x1, x2, x3, x4, x5, xf⟩ := six HbX.out
        have cAW := cAX.then cW (fun i hi hb => by omega)
        have HAW := HA.chg cAW (fun b h1 h2 h3 => by omega)
        have J1W := J1.keep (cW.same (fun i _ h1 h2 => by omega))
        have J2W := J2.keep (cW.same (fun i _ h1 h2 => by omega))
        have rW := rX.chg cW (fun b hb => by omega)
        have hsW := cAW.size
        have hlt2 := cW.size
        have HKK := Lib.hid (show Kind.rec_.K W (fun b => wr.heap.size < b ∧ b < W.heap.size) ⟨oo, tt, false, xs1, has2, xs2⟩ [.int .i64 oo, .int .i64 tt, .bool false, .slice B1 xs1.length d1, .bool has2, .slice B2 xs2.length d2] from
          ⟨_, _, _, _, rfl, J1W.mono (fun b hb => ⟨by omega, by omega⟩), J2W.mono (fun b hb => ⟨by omega, by omega⟩)⟩)
        have HcW := Lib.hid (HC.out.same_g cAW)
        have hol : ∀ b, u7.ownBlock = some b → b < wr.heap.size := fun b hb => HA.own_lt hb
        have HOL := Lib.hid hol
        clear cW cAW HA J1 J2 J1W J2W hbW hbX hol HC
        go_wp2_with (at_builtin; go_loud (refine wpList_app Kind.rec_ HAW rfl _ _ 33 (.agg #[.int .i64 0, .int .i64 0, .bool false, .slice none 0 0, .bool false, .slice none 0 0]) 80 rfl Tryz.underlying33 (by kernel_rfl) rfl (by decide) ⟨oo, tt, false, xs1, has2, xs2⟩ _ _ rfl rfl HKK.out ?_ ?_ ?_ ?_ ?_ ?_))
        · exact fun b hb => ⟨by omega, hb.2, fun h => by have := HOL.out b h; omega⟩
        · simp [Value.oneCell']
        · omega
        · omega
        · omega
        intro u1 W1 HA3 hc7
        have hc8 := HcW.out.then hc7 (fun i hi hb => absurd (HAW.ne hb) (by omega))
        have hr7 := (rW.chg hc7 (fun b hb => Nat.lt_of_lt_of_le hg0 (HAW.ne hb)))
        have HC8 := Lib.hid hc8
        clear hc7 HcW hc8 HAW HKK HOL
        go_wp2_with fail
        refine (pickN g _ 5 _ hr7 (by omega) (by omega) (by omega)).mono ?_
        rintro e w8 ⟨v8, rfl, a8, b8, r8, c8⟩
        go_wp2_with fail
        refine (pickN g _ 30 _ r8 (by omega) (by omega) (by omega)).mono ?_
        rintro e w9 ⟨v9, rfl, a9, b9, r9, c9⟩
        have HA9 := (HA3.chg c8 (fun b h1 h2 h3 => by omega)).chg c9 (fun b h1 h2 h3 => by omega)
        have HC9 := Lib.hid ((HC8.out.same_g c8).same_g c9)
        clear HC8 c8 c9 HA3
        go_wp2
        go_roundw
        case rel => exact ⟨k + 1, _, _, _, rfl, rfl, by omega, by go_num, by simp [hrl], tiny_add HT.out ⟨hl1, hl2⟩, HA9, r9.le (by omega), HC9⟩
        case measure => simp [intOf]; omega
      · go_wp2_with fail
        refine (pickN g _ 2 _ rX (by omega) (by omega) (by omega)).mono ?_
        rintro e w6 ⟨v6, rfl, a6, b6, r6, c6⟩
        have hb6 := c6.blk hbX (by omega)
        have cA6 := cAX.same_g c6
        have J1 := J1.keep (c6.same (fun i _ h1 h2 => by omega))
        have J2 := J2.keep (c6.same (fun i _ h1 h2 => by omega))
        have hs6 := c6.size
        clear c6 cAX hbX hX rX
        cases ht6 : (v6 == 0)
        · have hbX := hb6
          have rX := r6
          have cAX := cA6
          have hXw : w6 = w6 := rfl
          clear hb6 r6 cA6 hXw
          have HbX := Lib.hid hbX
          generalize hW : (w6.setCell ⟨wr.heap.size, 4, none⟩ (.bool has2)).setCell ⟨wr.heap.size, 5, none⟩ (.slice B2 xs2.length d2) = W
          obtain ⟨hbW, cW⟩ := box45 HbX.out hW
          obtain ⟨p0, p1, p2, p3, p4, p5, pf⟩ := six hbW
          obtain ⟨x0, x1, x2, x3, x4, x5, xf⟩ := six HbX.out
          have cAW := cAX.then cW (fun i hi hb => by omega)
          have HAW := HA.chg cAW (fun b h1 h2 h3 => by omega)
          have J1W := J1.keep (cW.same (fun i _ h1 h2 => by omega))
          have J2W := J2.keep (cW.same (fun i _ h1 h2 => by omega))
          have rW := rX.chg cW (fun b hb => by omega)
          have hsW := cAW.size
          have hlt2 := cW.size
          have HKK := Lib.hid (show Kind.rec_.K W (fun b => wr.heap.size < b ∧ b < W.heap.size) ⟨oo, tt, true, xs1, has2, xs2⟩ [.int .i64 oo, .int .i64 tt, .bool true, .slice B1 xs1.length d1, .bool has2, .slice B2 xs2.length d2] from
            ⟨_, _, _, _, rfl, J1W.mono (fun b hb => ⟨by omega, by omega⟩), J2W.mono (fun b hb => ⟨by omega, by omega⟩)⟩)
          have HcW := Lib.hid (HC.out.same_g cAW)
          have hol : ∀ b, u7.ownBlock = some b → b < wr.heap.size := fun b hb => HA.own_lt hb
          have HOL := Lib.hid hol
          clear cW cAW HA J1 J2 J1W J2W hbW hbX hol HC
          go_wp2_with (at_builtin; go_loud (refine wpList_app Kind.rec_ HAW rfl _ _ 33 (.agg #[.int .i64 0, .int .i64 0, .bool false, .slice none 0 0, .bool false, .slice none 0 0]) 80 rfl Tryz.underlying33 (by kernel_rfl) rfl (by decide) ⟨oo, tt, true, xs1, has2, xs2⟩ _ _ rfl rfl HKK.out ?_ ?_ ?_ ?_ ?_ ?_))
          · exact fun b hb => ⟨by omega, hb.2, fun h => by have := HOL.out b h; omega⟩
          · simp [Value.oneCell']
          · omega
          · omega
          · omega
          intro u1 W1 HA3 hc7
          have hc8 := HcW.out.then hc7 (fun i hi hb => absurd (HAW.ne hb) (by omega))
          have hr7 := (rW.chg hc7 (fun b hb => Nat.lt_of_lt_of_le hg0 (HAW.ne hb)))
          have HC8 := Lib.hid hc8
          clear hc7 HcW hc8 HAW HKK HOL
          go_wp2_with fail
          refine (pickN g _ 5 _ hr7 (by omega) (by omega) (by omega)).mono ?_
          rintro e w8 ⟨v8, rfl, a8, b8, r8, c8⟩
          go_wp2_with fail
          refine (pickN g _ 30 _ r8 (by omega) (by omega) (by omega)).mono ?_
          rintro e w9 ⟨v9, rfl, a9, b9, r9, c9⟩
          have HA9 := (HA3.chg c8 (fun b h1 h2 h3 => by omega)).chg c9 (fun b h1 h2 h3 => by omega)
          have HC9 := Lib.hid ((HC8.out.same_g c8).same_g c9)
          clear HC8 c8 c9 HA3
          go_wp2
          go_roundw
          case rel => exact ⟨k + 1, _, _, _, rfl, rfl, by omega, by go_num, by simp [hrl], tiny_add HT.out ⟨hl1, hl2⟩, HA9, r9.le (by omega), HC9⟩
          case measure => simp [intOf]; omega
        · go_wp2_with fail
          refine (pickN g _ 3 _ r6 (by omega) (by omega) (by omega)).mono ?_
          rintro e w7 ⟨v7, rfl, a7, b7, r7, c7⟩
          have hb7 := c7.blk hb6 (by omega)
          have cA7 := cA6.same_g c7
          have J1 := J1.keep (c7.same (fun i _ h1 h2 => by omega))
          have J2 := J2.keep (c7.same (fun i _ h1 h2 => by omega))
          have hs7 := c7.size
          clear c7 cA6 hb6 r6
          have hb8 := blk_below hb7 (bal w7 (.cells #[.int .i64 v7] 3))
          have hr8 := r7.below (bal w7 (.cells #[.int .i64 v7] 3))
          have hJ8 : Ints (w7.alloc (.cells #[.int .i64 v7] 3)) (fun b => w7.heap.size = b) (some ⟨w7.heap.size, 0, none⟩) 1 [v7] := one_int w7 v7
          have J2 := J2.keep (Same.of_below (bal w7 (.cells #[.int .i64 v7] 3)))
          have cA8 := cA7.alloc (.cells #[.int .i64 v7] 3)
          have hs8 : (w7.alloc (.cells #[.int .i64 v7] 3)).heap.size = w7.heap.size + 1 := by simp
          clear hb7 r7 cA7 J1
          generalize hX2 : (w7.alloc (.cells #[.int .i64 v7] 3)).setCell ⟨wr.heap.size, 3, none⟩ (.slice (some ⟨w7.heap.size, 0, none⟩) 1 1) = X2
          have Hb8 := Lib.hid hb8
          clear hb8
          obtain ⟨hbX, cX⟩ := box3 Hb8.out hX2
          obtain ⟨y0, y1, y2, y3, y4, y5, yf⟩ := six Hb8.out
          have cAX := cA8.then cX (fun i hi hb => by omega)
          have hsX2 := cX.size
          have J1 : Ints X2 (fun b => wr.heap.size + 1 ≤ b ∧ b < X2.heap.size) (some ⟨w7.heap.size, 0, none⟩) 1 [v7] := (hJ8.keep (cX.same (fun i _ h1 h2 => by omega))).mono (fun b (hb : w7.heap.size = b) => ⟨by omega, by omega⟩)
          have J2 := J2.keep (cX.same (fun i _ h1 h2 => by omega))
          have rX := hr8.chg cX (fun b hb => by omega)
          clear cX cA8 hr8 hJ8
          have HbX := Lib.hid hbX
          generalize hW : (X2.setCell ⟨wr.heap.size, 4, none⟩ (.bool has2)).setCell ⟨wr.heap.size, 5, none⟩ (.slice B2 xs2.length d2) = W
          obtain ⟨hbW, cW⟩ := box45 HbX.out hW
          obtain ⟨p0, p1, p2, p3, p4, p5, pf⟩ := six hbW
          obtain ⟨x0, x1, x2, x3, x4, x5, xf⟩ := six HbX.out
          have cAW := cAX.then cW (fun i hi hb => by omega)
          have HAW := HA.chg cAW (fun b h1 h2 h3 => by omega)
          have J1W := J1.keep (cW.same (fun i _ h1 h2 => by omega))
          have J2W := J2.keep (cW.same (fun i _ h1 h2 => by omega))
          have rW := rX.chg cW (fun b hb => by omega)
          have hsW := cAW.size
          have hlt2 := cW.size
          have HKK := Lib.hid (show Kind.rec_.K W (fun b => wr.heap.size < b ∧ b < W.heap.size) ⟨oo, tt, true, [v7], has2, xs2⟩ [.int .i64 oo, .int .i64 tt, .bool true, .slice (some ⟨w7.heap.size, 0, none⟩) 1 1, .bool has2, .slice B2 xs2.length d2] from
            ⟨_, _, _, _, rfl, J1W.mono (fun b hb => ⟨by omega, by omega⟩), J2W.mono (fun b hb => ⟨by omega, by omega⟩)⟩)
          have HcW := Lib.hid (HC.out.same_g cAW)
          have hol : ∀ b, u7.ownBlock = some b → b < wr.heap.size := fun b hb => HA.own_lt hb
          have HOL := Lib.hid hol
          clear cW cAW HA J1 J2 J1W J2W hbW hbX hol HC
          go_wp2_with (at_builtin; go_loud (refine wpList_app Kind.rec_ HAW rfl _ _ 33 (.agg #[.int .i64 0, .int .i64 0, .bool false, .slice none 0 0, .bool false, .slice none 0 0]) 80 rfl Tryz.underlying33 (by kernel_rfl) rfl (by decide) ⟨oo, tt, true, [v7], has2, xs2⟩ _ _ rfl rfl HKK.out ?_ ?_ ?_ ?_ ?_ ?_))
          · exact fun b hb => ⟨by omega, hb.2, fun h => by have := HOL.out b h; omega⟩
          · simp [Value.oneCell']
          · omega
          · omega
          · omega
          intro u1 W1 HA3 hc7
          have hc8 := HcW.out.then hc7 (fun i hi hb => absurd (HAW.ne hb) (by omega))
          have hr7 := (rW.chg hc7 (fun b hb => Nat.lt_of_lt_of_le hg0 (HAW.ne hb)))
          have HC8 := Lib.hid hc8
          clear hc7 HcW hc8 HAW HKK HOL
          go_wp2_with fail
          refine (pickN g _ 5 _ hr7 (by omega) (by omega) (by omega)).mono ?_
          rintro e w8 ⟨v8, rfl, a8, b8, r8, c8⟩
          go_wp2_with fail
          refine (pickN g _ 30 _ r8 (by omega) (by omega) (by omega)).mono ?_
          rintro e w9 ⟨v9, rfl, a9, b9, r9, c9⟩
          have HA9 := (HA3.chg c8 (fun b h1 h2 h3 => by omega)).chg c9 (fun b h1 h2 h3 => by omega)
          have HC9 := Lib.hid ((HC8.out.same_g c8).same_g c9)
          clear HC8 c8 c9 HA3
          go_wp2
          go_roundw
          case rel => exact ⟨k + 1, _, _, _, rfl, rfl, by omega, by go_num, by simp [hrl], tiny_add HT.out ⟨by simp, hl2⟩, HA9, r9.le (by omega), HC9⟩
          case measure => simp [intOf]; omega
    · go_wp2
      go_ret
      exact ⟨rs, _, rfl, by omega, by omega, HT.out, HA, HR.le (by omega), HC.out⟩
end
end

section
open Go.RowKit

theorem Chg.put {B i : Nat} {u : Value} {a b : World} (h : Chg (fun x => x = B) a b) : Chg (fun x => x = B) a (b.setCell ⟨B, i, none⟩ u) := h.trans (Chg.set (fun x => x = B) b (p := ⟨B, i, none⟩) rfl u)
theorem box1 {X W : World} {B i : Nat} {t : TypeId} {cs : Array Value} {u : Value} (hb : X.heap[B]? = some (.cells cs t (0, 0))) (hW : X.setCell ⟨B, i, none⟩ u = W) :
    W.heap[B]? = some (.cells (cs.setIfInBounds i u) t (0, 0)) ∧ Chg (fun b => b = B) X W := by
  subst hW
  exact ⟨blk_put hb i u, (Chg.refl _ X).put⟩
theorem fin_b {X W' w : World} {g M N B : Nat} (b : Bat) (A : Option Addr) (c : Nat) (cF : Chg (fun x => x = w.heap.size) X W') (h1 : 1 ≤ b.recs.length) (h2 : b.recs.length ≤ 5) (ht : ∀ r ∈ b.recs, r.tiny)
    (hJ : Recs X (fun b => w.heap.size < b ∧ b ≠ B) A c b.recs) (hr : RdN X g M) (hM : M ≤ N) (hc : Chg (fun b => b = g) w X) (hg : g < w.heap.size) :
    ∃ (b' : Bat) (A' : Option Addr) (c' : Nat), Ending.returned (.agg #[.bool b.packed, .bool b.mark, .int .i64 b.prod, .int .i64 b.epoch, .int .i64 b.seq, .slice A b.recs.length c]) =
        Ending.returned (.agg #[.bool b'.packed, .bool b'.mark, .int .i64 b'.prod, .int .i64 b'.epoch, .int .i64 b'.seq, .slice A' b'.recs.length c']) ∧
      1 ≤ b'.recs.length ∧ b'.recs.length ≤ 5 ∧ (∀ r ∈ b'.recs, r.tiny) ∧ Recs W' (fun b => w.heap.size ≤ b) A' c' b'.recs ∧ RdN W' g N ∧ Chg (fun b => b = g) w W' :=
  ⟨b, A, c, rfl, h1, h2, ht, (hJ.keep (cF.same (fun i _ h1 h2 => by have := h1.1; omega))).mono (fun b hb => Nat.le_of_lt hb.1), (hr.chg cF (fun b hb => by omega)).le hM, hc.then cF (fun i hi hb => by omega)⟩
set_option maxHeartbeats 8000000 in
theorem l91Batch_any (g N : Nat) (off : Int) (w : World) (h : RdN w g N) (hN : N ≤ 700000) :
    Calls Tryz.prog 24 #[.pointer (some ⟨g, 0, none⟩), .int .i64 off] w fun e w' => ∃ (b : Bat) (A : Option Addr) (c : Nat),
      e = .returned (.agg #[.bool b.packed, .bool b.mark, .int .i64 b.prod, .int .i64 b.epoch, .int .i64 b.seq, .slice A b.recs.length c]) ∧ 1 ≤ b.recs.length ∧ b.recs.length ≤ 5 ∧ (∀ r ∈ b.recs, r.tiny) ∧
      Recs w' (fun b => w.heap.size ≤ b) A c b.recs ∧ RdN w' g (N + 260) ∧ Chg (fun b => b = g) w w' := by
  have hg0 := h.lt
  go_enter Tryz.func24, Tryz.ntmps24
  go_wp2_with fail
  generalize hW0 : w.alloc _ = W0
  obtain ⟨hb0, hbl0, hs0⟩ := alloc1 hW0
  have cA := Chg.of_below (F := fun b => b = g) hbl0
  refine (pickN g N 2 _ (h.below hbl0) (by omega) (by omega) (by omega)).mono ?_
  rintro e w1 ⟨v1, rfl, a1, b1, r1, c1⟩
  go_wp2_with fail
  refine (l91Records_any g _ off 4 _ r1 (by omega) (by omega) (by omega)).mono ?_
  rintro e w2 ⟨rs, kv, rfl, hl1, hl4, htiny, HA, r2, c2⟩
  have HT := Lib.hid htiny
  obtain ⟨A1, d1, rfl, hd1, hd2⟩ := HA.slice_
  have hb2 := c2.blk (c1.blk hb0 (by omega)) (by omega)
  have cA2 := (cA.same_g c1).same_g c2
  have hs1 := c1.size
  have hs2 := c2.size
  obtain ⟨q0, q1, q2, q3, q4, q5, qf⟩ := six hb2
  have Hb2 := Lib.hid hb2
  have HW0 := Lib.hid hW0
  clear htiny hb0 hb2 c1 c2 cA r1 hbl0 hW0
  go_wp2_with fail
  generalize hW3 : w2.alloc _ = W3
  obtain ⟨hb3, hbl3, hs3⟩ := alloc1 hW3
  have hR3 := blk_below Hb2.out hbl3
  have cA3 := cA2.then (Chg.of_below (F := fun _ => False) hbl3) (fun _ _ h => h.elim)
  have HA3 := AppP.below (AppP.mono (P' := fun b => w.heap.size < b ∧ b ≠ w2.heap.size) HA (fun b h1 h2 => ⟨by omega, by omega⟩)) hbl3
  have HW3 := Lib.hid hW3
  refine (pickN g _ 3 _ (r2.below hbl3) (by omega) (by omega) (by omega)).mono ?_
  rintro e X ⟨v3, rfl, a3, b3, rX, c3⟩
  have hbX := c3.blk hb3 (by omega)
  have hRX := c3.blk hR3 (by omega)
  have HAX := HA3.chg c3 (fun b _ h1 h2 => by omega)
  have cX := cA3.same_g c3
  have hsX := c3.size
  clear hW3 hb3 hR3 HA3 cA3 c3 HA Hb2 cA2 r2 q0 q1 q2 q3 q4 q5 qf hbl3
  cases ht3 : (v3 == 0)
  · have hapX := HAX.row
    obtain ⟨x0, x1, x2, x3, x4, x5, xf⟩ := six hbX
    have HbX := Lib.hid hbX
    clear hbX
    go_wp2_with fail
    refine (pickN g _ 40 _ rX (by omega) (by omega) (by omega)).mono ?_
    rintro e wa ⟨va, rfl, aa, ba, ra, ca⟩
    have hba := ca.blk HbX.out (by omega)
    have hRa := ca.blk hRX (by omega)
    have HAa := HAX.chg ca (fun b _ h1 h2 => by omega)
    have cXa := cX.same_g ca
    have hsa := ca.size
    clear HbX hRX HAX cX ca rX x0 x1 x2 x3 x4 x5 xf
    obtain ⟨A', d', hAd, Ja⟩ := HAa.row
    obtain ⟨rfl, rfl⟩ : A1 = A' ∧ d1 = d' := by injection hAd with e1 e2 e3; exact ⟨e1, e3⟩
    obtain ⟨x0, x1, x2, x3, x4, x5, xf⟩ := six hba
    have Hba := Lib.hid hba
    clear hba
    cases hta : (va == 0)
    · cases htb : (va == 1)
      · cases htc : (va == 2)
        · have hbZ := Hba.out
          have hRZ := hRa
          have JZ := Ja
          have cZ := cXa
          have rZ := ra
          clear Hba hRa Ja cXa ra HAa x0 x1 x2 x3 x4 x5 xf
          obtain ⟨p0, p1, p2, p3, p4, p5, pf⟩ := six hbZ
          obtain ⟨a0, a1, a2, a3, a4, a5, af⟩ := six hRZ
          have HJZ := Lib.hid JZ
          have HCZ := Lib.hid cZ
          clear JZ cZ hbZ hRZ
          go_wp2
          all_goals
            refine bodyPost_ret (v := .agg #[.bool (v1 == 0), .bool false, .int .i64 255, .int .i64 0, .int .i64 0, .slice A1 (rs).length d1]) (by simp [results, Tryz.results24, go_sem, a0, a1, a2, a3, a4, a5]) rfl ?_
            refine fin_b (X := wa) ⟨(v1 == 0), false, 255, 0, 0, rs⟩ A1 d1 ?_ hl1 (by show rs.length ≤ 5; omega) HT.out HJZ.out rZ (by omega) HCZ.out hg0
            exact (Chg.refl _ wa).put.put.put.put.put.put
        · generalize hZ : wa.setCell ⟨w2.heap.size, 1, none⟩ (.bool true) = Z
          obtain ⟨hbZ', cz⟩ := box1 Hba.out hZ
          have hbZ : Z.heap[w2.heap.size]? = some (.cells #[.bool (v1 == 0), .bool true, .int .i64 255, .int .i64 0, .int .i64 0, .slice A1 (rs).length d1] 35 (0, 0)) := by simpa using hbZ'
          have hRZ := cz.blk hRa (by omega)
          have JZ := Ja.keep (cz.same (fun i hi h1 h2 => h1.2 h2))
          have cZ := cXa.then cz (fun i hi hb => by omega)
          have rZ := ra.chg cz (fun b hb => by omega)
          clear cz hbZ' hRa Ja cXa ra HAa
          obtain ⟨p0, p1, p2, p3, p4, p5, pf⟩ := six hbZ
          obtain ⟨a0, a1, a2, a3, a4, a5, af⟩ := six hRZ
          have HJZ := Lib.hid JZ
          have HCZ := Lib.hid cZ
          clear JZ cZ hbZ hRZ
          go_wp2
          all_goals
            refine bodyPost_ret (v := .agg #[.bool (v1 == 0), .bool true, .int .i64 255, .int .i64 0, .int .i64 0, .slice A1 (rs).length d1]) (by simp [results, Tryz.results24, go_sem, a0, a1, a2, a3, a4, a5]) rfl ?_
            refine fin_b (X := Z) ⟨(v1 == 0), true, 255, 0, 0, rs⟩ A1 d1 ?_ hl1 (by show rs.length ≤ 5; omega) HT.out HJZ.out rZ (by omega) HCZ.out hg0
            exact (Chg.refl _ Z).put.put.put.put.put.put
      · obtain ⟨ad, cc, cs, hv9, hK, hcell⟩ := HAa.get (j := 0) hl1
        obtain ⟨E1, e1, E2, e2, rfl, hk9, hv8⟩ := hK
        obtain ⟨hA9, hd9⟩ : A1 = some ad ∧ d1 = cc := by injection hv9 with e1 e2 e3; exact ⟨e1, e3⟩
        subst hA9
        subst hd9
        have f0 : wa.cell? ad = some (.int .i64 (rs)[0].off) := hcell 0 _ rfl
        have f1 : wa.cell? ⟨ad.block, ad.off + 1, none⟩ = some (.int .i64 (rs)[0].time) := hcell 1 _ rfl
        have f2 : wa.cell? ⟨ad.block, ad.off + 2, none⟩ = some (.bool (rs)[0].hk) := hcell 2 _ rfl
        have f3 : wa.cell? ⟨ad.block, ad.off + 3, none⟩ = some (.slice E1 (rs)[0].key.length e1) := hcell 3 _ rfl
        have f4 : wa.cell? ⟨ad.block, ad.off + 4, none⟩ = some (.bool (rs)[0].hv) := hcell 4 _ rfl
        have f5 : wa.cell? ⟨ad.block, ad.off + 5, none⟩ = some (.slice E2 (rs)[0].val.length e2) := hcell 5 _ rfl
        have HKK := Lib.hid (show Kind.rec_.K wa (fun b => (w.heap.size < b ∧ b ≠ w2.heap.size) ∧ b < wa.heap.size ∧ (Value.slice (some ad) (rs).length d1).ownBlock ≠ some b) (rs)[0] [.int .i64 (rs)[0].off, .int .i64 (rs)[0].time, .bool (rs)[0].hk, .slice E1 (rs)[0].key.length e1, .bool (rs)[0].hv, .slice E2 (rs)[0].val.length e2] from
          ⟨E1, e1, E2, e2, rfl, hk9, hv8⟩)
        have htn := HT.out _ (List.getElem_mem hl1)
        have HTN := Lib.hid htn
        clear hcell hk9 hv8 hv9 Ja htn
        have HAd := AppP.below HAa ((Below.refl _ wa).drew)
        have HG : Hid (∀ b, (w.heap.size < b ∧ b ≠ w2.heap.size) ∧ b < wa.heap.size ∧ (Value.slice (some ad) (rs).length d1).ownBlock ≠ some b → (w.heap.size < b ∧ b ≠ w2.heap.size) ∧ b < wa.drew.heap.size ∧ (Value.slice (some ad) (rs).length d1).ownBlock ≠ some b) := Lib.hid (fun b hb => hb)
        have H1 : Hid (∀ u ∈ [Value.int .i64 (rs)[0].off, .int .i64 (rs)[0].time, .bool (rs)[0].hk, .slice E1 (rs)[0].key.length e1, .bool (rs)[0].hv, .slice E2 (rs)[0].val.length e2], u.oneCell' = true) := Lib.hid (by simp [Value.oneCell'])
        have HN : Hid (∀ b, wa.drew.heap.size ≤ b → w.heap.size < b ∧ b ≠ w2.heap.size) := Lib.hid (fun b hb => by have : wa.heap.size ≤ b := hb; exact ⟨by omega, by omega⟩)
        have H6 : Hid ((rs).length + 1 ≤ 1099511627776) := Lib.hid (by omega)
        have H8 : Hid (((rs).length + 1) * 80 ≤ 140737488355328) := Lib.hid (by omega)
        have HKD := Lib.hid (Kind.rec_.keep (Same.of_below ((Below.refl _ wa).drew)) HKK.out)
        have CXD := Lib.hid ((cXa.drew))
        have RD := Lib.hid (ra.below ((Below.refl _ wa).drew))
        have HRD := Lib.hid (show wa.drew.heap[w.heap.size]? = _ from hRa)
        have HBD := Lib.hid (show wa.drew.heap[w2.heap.size]? = _ from Hba.out)
        have hlz : (0 : Int) < ((rs).length : Int) := by omega
        have hlz1 : 0 < (rs).length := by omega
        have y5 := below_cell (bal wa (.cells #[.int .i64 (rs)[0].off, .int .i64 (rs)[0].time, .bool (rs)[0].hk, .slice E1 (rs)[0].key.length e1, .bool (rs)[0].hv, .slice E2 (rs)[0].val.length e2] 41)) x5
        clear hRa cXa ra HKK
        go_wp2
        go_region_law (refine step_appP Kind.rec_ HAd rfl _ _ 33 (.agg #[.int .i64 0, .int .i64 0, .bool false, .slice none 0 0, .bool false, .slice none 0 0]) 80 rfl Tryz.underlying33 (by kernel_rfl) rfl (by decide) (rs)[0] _ _ rfl rfl HKD.out HG.out H1.out HN.out H6.out H8.out ?_; intro u1 W1 HA3 hc7; obtain ⟨rs5, hrs5⟩ : ∃ l, l = (rs) ++ [(rs)[0]] := ⟨_, rfl⟩; rw [← hrs5] at HA3; have HRS5 := Lib.hid hrs5; clear hrs5; obtain ⟨A5, d5, rfl, J5⟩ := AppP.row HA3; have HJ5 := Lib.hid J5; clear J5; have hb7 := hc7.blk HBD.out (fun hb => (AppP.ne HAd hb).2 rfl); obtain ⟨z0, z1, z2, z3, z4, z5, zf⟩ := six hb7; have HB7 := Lib.hid hb7; have HC7 := Lib.hid hc7; clear hb7 hc7)
        all_goals
          have hc7 := HC7.out
          have hrs5 := HRS5.out
          have HL5 := Lib.hid (show rs5.length = (rs).length + 1 by rw [hrs5]; simp)
          have HT5 := Lib.hid (show ∀ r ∈ rs5, r.tiny by rw [hrs5]; exact tiny_add HT.out HTN.out)
          have hR7 := hc7.blk HRD.out (fun hb => Nat.lt_irrefl _ (AppP.ne HAd hb).1)
          have cX7 := CXD.out.then hc7 (fun i hi hb => absurd (AppP.ne HAd hb).1 (by omega))
          have r7 := RD.out.chg hc7 (fun b hb => by have := (AppP.ne HAd hb).1; omega)
          have hs7 : wa.heap.size ≤ W1.heap.size := hc7.size
          clear hc7 hrs5
          generalize hZ : W1.setCell ⟨w2.heap.size, 5, none⟩ (.slice A5 rs5.length d5) = Z
          obtain ⟨hbZ', cz⟩ := box1 HB7.out hZ
          have hbZ : Z.heap[w2.heap.size]? = some (.cells #[.bool (v1 == 0), .bool false, .int .i64 255, .int .i64 0, .int .i64 0, .slice A5 rs5.length d5] 35 (0, 0)) := by simpa using hbZ'
          have hRZ := cz.blk hR7 (by omega)
          have JZ := HJ5.out.keep (cz.same (fun i hi h1 h2 => h1.2 h2))
          have cZ := cX7.then cz (fun i hi hb => by omega)
          have rZ := r7.chg cz (fun b hb => by omega)
          clear cz hbZ' hR7 cX7 r7
          obtain ⟨p0, p1, p2, p3, p4, p5, pf⟩ := six hbZ
          obtain ⟨a0, a1, a2, a3, a4, a5, af⟩ := six hRZ
          have HJZ := Lib.hid JZ
          have HCZ := Lib.hid cZ
          clear JZ cZ hbZ hRZ
          go_wp2
          all_goals
            refine bodyPost_ret (v := .agg #[.bool (v1 == 0), .bool false, .int .i64 255, .int .i64 0, .int .i64 0, .slice A5 (rs5).length d5]) (by simp [results, Tryz.results24, go_sem, a0, a1, a2, a3, a4, a5]) rfl ?_
            refine fin_b (X := Z) ⟨(v1 == 0), false, 255, 0, 0, rs5⟩ A5 d5 ?_ (by show 1 ≤ rs5.length; have := HL5.out; omega) (by show rs5.length ≤ 5; have := HL5.out; omega) HT5.out HJZ.out rZ (by omega) HCZ.out hg0
            exact (Chg.refl _ Z).put.put.put.put.put.put
    · go_wp2_with fail
      have hb9 := blk_below Hba.out (bal wa (.cells #[.int .i64 (-1), .int .i64 1, .int .i64 100] 3))
      have hR9 := blk_below hRa (bal wa (.cells #[.int .i64 (-1), .int .i64 1, .int .i64 100] 3))
      refine (pickN g _ 3 _ (ra.below (bal _ _)) (by omega) (by omega) (by omega)).mono ?_
      rintro e wb ⟨vb, rfl, ab, bb, rb, cb⟩
      have hne : ¬ (wa.heap.size = g) := by have := ra.lt; omega
      have hlit := cb.blk (heap_alloc_new wa (.cells #[.int .i64 (-1), .int .i64 1, .int .i64 100] 3)) hne
      obtain ⟨x, hx⟩ := lit_at [-1, 1, 100] hlit ab bb
      have hbb := cb.blk hb9 (by omega)
      have hRb := cb.blk hR9 (by omega)
      have hsb := cb.size
      have hsb2 := bal wa (.cells #[.int .i64 (-1), .int .i64 1, .int .i64 100] 3)
      have Jb := (Ja.below hsb2).keep (cb.same (fun i _ h1 h2 => by have := h1.1; omega))
      have cXb := (cXa.alloc (.cells #[.int .i64 (-1), .int .i64 1, .int .i64 100] 3)).same_g cb
      clear hlit hb9 hR9 hsb2 cb Ja cXa ra HAa Hba hRa x0 x1 x2 x3 x4 x5 xf
      obtain ⟨x0, x1, x2, x3, x4, x5, xf⟩ := six hbb
      have Hbb := Lib.hid hbb
      clear hbb
      generalize hZ : wb.setCell ⟨w2.heap.size, 3, none⟩ (.int .i64 x) = Z
      obtain ⟨hbZ', cz⟩ := box1 Hbb.out hZ
      have hbZ : Z.heap[w2.heap.size]? = some (.cells #[.bool (v1 == 0), .bool false, .int .i64 255, .int .i64 x, .int .i64 0, .slice A1 (rs).length d1] 35 (0, 0)) := by simpa using hbZ'
      have hRZ := cz.blk hRb (by omega)
      have JZ := Jb.keep (cz.same (fun i hi h1 h2 => h1.2 h2))
      have cZ := cXb.then cz (fun i hi hb => by omega)
      have rZ := rb.chg cz (fun b hb => by omega)
      clear cz hbZ' hRb Jb cXb rb
      obtain ⟨p0, p1, p2, p3, p4, p5, pf⟩ := six hbZ
      obtain ⟨a0, a1, a2, a3, a4, a5, af⟩ := six hRZ
      have HJZ := Lib.hid JZ
      have HCZ := Lib.hid cZ
      clear JZ cZ hbZ hRZ
      go_wp2
      all_goals
        refine bodyPost_ret (v := .agg #[.bool (v1 == 0), .bool false, .int .i64 255, .int .i64 x, .int .i64 0, .slice A1 (rs).length d1]) (by simp [results, Tryz.results24, go_sem, a0, a1, a2, a3, a4, a5]) rfl ?_
        refine fin_b (X := Z) ⟨(v1 == 0), false, 255, x, 0, rs⟩ A1 d1 ?_ hl1 (by show rs.length ≤ 5; omega) HT.out HJZ.out rZ (by omega) HCZ.out hg0
        exact (Chg.refl _ Z).put.put.put.put.put.put
  · go_wp2_with fail
    refine (pickN g _ 3 _ rX (by omega) (by omega) (by omega)).mono ?_
    rintro e Y2 ⟨v4, rfl, av4, bv4, rY, cY⟩
    have hbY := cY.blk hbX (by omega)
    have hRY := cY.blk hRX (by omega)
    have HAY := HAX.chg cY (fun b _ h1 h2 => by omega)
    have cXY := cX.same_g cY
    have hsY2 := cY.size
    clear hbX hRX HAX cX rX cY
    obtain ⟨y0, y1, y2, y3, y4, y5, yf⟩ := six hbY
    have HbY := Lib.hid hbY
    clear hbY
    generalize hZ2 : Y2.setCell ⟨w2.heap.size, 2, none⟩ (.int .i64 v4) = Z2
    obtain ⟨hbX', cz⟩ := box1 HbY.out hZ2
    have hbX : Z2.heap[w2.heap.size]? = some (.cells #[.bool (v1 == 0), .bool false, .int .i64 v4, .int .i64 0, .int .i64 0, .slice A1 rs.length d1] 35 (0, 0)) := by simpa using hbX'
    have hRX := cz.blk hRY (by omega)
    have HAX := HAY.chg cz (fun b _ h1 h2 => h1.2 h2)
    have cX := cXY.then cz (fun i hi hb => by omega)
    have rX := rY.chg cz (fun b hb => by omega)
    have hsZ2 := cz.size
    clear cz hbX' hRY HAY cXY rY
    go_wp2_with fail
    refine (pickN g _ 3 _ rX (by omega) (by omega) (by omega)).mono ?_
    rintro e Y3 ⟨v5, rfl, av5, bv5, rY, cY⟩
    clear HbY y0 y1 y2 y3 y4 y5 yf
    have hbY := cY.blk hbX (by omega)
    have hRY := cY.blk hRX (by omega)
    have HAY := HAX.chg cY (fun b _ h1 h2 => by omega)
    have cXY := cX.same_g cY
    have hsY3 := cY.size
    clear hbX hRX HAX cX rX cY
    obtain ⟨y0, y1, y2, y3, y4, y5, yf⟩ := six hbY
    have HbY := Lib.hid hbY
    clear hbY
    generalize hZ3 : Y3.setCell ⟨w2.heap.size, 3, none⟩ (.int .i64 v5) = Z3
    obtain ⟨hbX', cz⟩ := box1 HbY.out hZ3
    have hbX : Z3.heap[w2.heap.size]? = some (.cells #[.bool (v1 == 0), .bool false, .int .i64 v4, .int .i64 v5, .int .i64 0, .slice A1 rs.length d1] 35 (0, 0)) := by simpa using hbX'
    have hRX := cz.blk hRY (by omega)
    have HAX := HAY.chg cz (fun b _ h1 h2 => h1.2 h2)
    have cX := cXY.then cz (fun i hi hb => by omega)
    have rX := rY.chg cz (fun b hb => by omega)
    have hsZ3 := cz.size
    clear cz hbX' hRY HAY cXY rY
    go_wp2_with fail
    refine (pickN g _ 5 _ rX (by omega) (by omega) (by omega)).mono ?_
    rintro e Y4 ⟨v6, rfl, av6, bv6, rY, cY⟩
    clear HbY y0 y1 y2 y3 y4 y5 yf
    have hbY := cY.blk hbX (by omega)
    have hRY := cY.blk hRX (by omega)
    have HAY := HAX.chg cY (fun b _ h1 h2 => by omega)
    have cXY := cX.same_g cY
    have hsY4 := cY.size
    clear hbX hRX HAX cX rX cY
    obtain ⟨y0, y1, y2, y3, y4, y5, yf⟩ := six hbY
    have HbY := Lib.hid hbY
    clear hbY
    generalize hZ4 : Y4.setCell ⟨w2.heap.size, 4, none⟩ (.int .i64 v6) = Z4
    obtain ⟨hbX', cz⟩ := box1 HbY.out hZ4
    have hbX : Z4.heap[w2.heap.size]? = some (.cells #[.bool (v1 == 0), .bool false, .int .i64 v4, .int .i64 v5, .int .i64 v6, .slice A1 rs.length d1] 35 (0, 0)) := by simpa using hbX'
    have hRX := cz.blk hRY (by omega)
    have HAX := HAY.chg cz (fun b _ h1 h2 => h1.2 h2)
    have cX := cXY.then cz (fun i hi hb => by omega)
    have rX := rY.chg cz (fun b hb => by omega)
    have hsZ4 := cz.size
    clear cz hbX' hRY HAY cXY rY
    go_wp2_with fail
    refine (pickN g _ 3 _ rX (by omega) (by omega) (by omega)).mono ?_
    rintro e X7 ⟨v7, rfl, a7, b7, rY, cY⟩
    clear HbY y0 y1 y2 y3 y4 y5 yf
    have hbY := cY.blk hbX (by omega)
    have hRY := cY.blk hRX (by omega)
    have HAY := HAX.chg cY (fun b _ h1 h2 => by omega)
    have cXY := cX.same_g cY
    have hsY7 := cY.size
    clear hbX hRX HAX cX rX cY
    cases ht7 : (v7 == 0)
    · have hbX := hbY
      have hRX := hRY
      have HAX := HAY
      have cX := cXY
      have rX := rY
      clear hbY hRY HAY cXY rY
      have hapX := HAX.row
      obtain ⟨x0, x1, x2, x3, x4, x5, xf⟩ := six hbX
      have HbX := Lib.hid hbX
      clear hbX
      go_wp2_with fail
      refine (pickN g _ 40 _ rX (by omega) (by omega) (by omega)).mono ?_
      rintro e wa ⟨va, rfl, aa, ba, ra, ca⟩
      have hba := ca.blk HbX.out (by omega)
      have hRa := ca.blk hRX (by omega)
      have HAa := HAX.chg ca (fun b _ h1 h2 => by omega)
      have cXa := cX.same_g ca
      have hsa := ca.size
      clear HbX hRX HAX cX ca rX x0 x1 x2 x3 x4 x5 xf
      obtain ⟨A', d', hAd, Ja⟩ := HAa.row
      obtain ⟨rfl, rfl⟩ : A1 = A' ∧ d1 = d' := by injection hAd with e1 e2 e3; exact ⟨e1, e3⟩
      obtain ⟨x0, x1, x2, x3, x4, x5, xf⟩ := six hba
      have Hba := Lib.hid hba
      clear hba
      cases hta : (va == 0)
      · cases htb : (va == 1)
        · cases htc : (va == 2)
          · have hbZ := Hba.out
            have hRZ := hRa
            have JZ := Ja
            have cZ := cXa
            have rZ := ra
            clear Hba hRa Ja cXa ra HAa x0 x1 x2 x3 x4 x5 xf
            obtain ⟨p0, p1, p2, p3, p4, p5, pf⟩ := six hbZ
            obtain ⟨a0, a1, a2, a3, a4, a5, af⟩ := six hRZ
            have HJZ := Lib.hid JZ
            have HCZ := Lib.hid cZ
            clear JZ cZ hbZ hRZ
            go_wp2
            all_goals
              refine bodyPost_ret (v := .agg #[.bool (v1 == 0), .bool false, .int .i64 v4, .int .i64 v5, .int .i64 v6, .slice A1 (rs).length d1]) (by simp [results, Tryz.results24, go_sem, a0, a1, a2, a3, a4, a5]) rfl ?_
              refine fin_b (X := wa) ⟨(v1 == 0), false, v4, v5, v6, rs⟩ A1 d1 ?_ hl1 (by show rs.length ≤ 5; omega) HT.out HJZ.out rZ (by omega) HCZ.out hg0
              exact (Chg.refl _ wa).put.put.put.put.put.put
          · generalize hZ : wa.setCell ⟨w2.heap.size, 1, none⟩ (.bool true) = Z
            obtain ⟨hbZ', cz⟩ := box1 Hba.out hZ
            have hbZ : Z.heap[w2.heap.size]? = some (.cells #[.bool (v1 == 0), .bool true, .int .i64 v4, .int .i64 v5, .int .i64 v6, .slice A1 (rs).length d1] 35 (0, 0)) := by simpa using hbZ'
            have hRZ := cz.blk hRa (by omega)
            have JZ := Ja.keep (cz.same (fun i hi h1 h2 => h1.2 h2))
            have cZ := cXa.then cz (fun i hi hb => by omega)
            have rZ := ra.chg cz (fun b hb => by omega)
            clear cz hbZ' hRa Ja cXa ra HAa
            obtain ⟨p0, p1, p2, p3, p4, p5, pf⟩ := six hbZ
            obtain ⟨a0, a1, a2, a3, a4, a5, af⟩ := six hRZ
            have HJZ := Lib.hid JZ
            have HCZ := Lib.hid cZ
            clear JZ cZ hbZ hRZ
            go_wp2
            all_goals
              refine bodyPost_ret (v := .agg #[.bool (v1 == 0), .bool true, .int .i64 v4, .int .i64 v5, .int .i64 v6, .slice A1 (rs).length d1]) (by simp [results, Tryz.results24, go_sem, a0, a1, a2, a3, a4, a5]) rfl ?_
              refine fin_b (X := Z) ⟨(v1 == 0), true, v4, v5, v6, rs⟩ A1 d1 ?_ hl1 (by show rs.length ≤ 5; omega) HT.out HJZ.out rZ (by omega) HCZ.out hg0
              exact (Chg.refl _ Z).put.put.put.put.put.put
        · obtain ⟨ad, cc, cs, hv9, hK, hcell⟩ := HAa.get (j := 0) hl1
          obtain ⟨E1, e1, E2, e2, rfl, hk9, hv8⟩ := hK
          obtain ⟨hA9, hd9⟩ : A1 = some ad ∧ d1 = cc := by injection hv9 with e1 e2 e3; exact ⟨e1, e3⟩
          subst hA9
          subst hd9
          have f0 : wa.cell? ad = some (.int .i64 (rs)[0].off) := hcell 0 _ rfl
          have f1 : wa.cell? ⟨ad.block, ad.off + 1, none⟩ = some (.int .i64 (rs)[0].time) := hcell 1 _ rfl
          have f2 : wa.cell? ⟨ad.block, ad.off + 2, none⟩ = some (.bool (rs)[0].hk) := hcell 2 _ rfl
          have f3 : wa.cell? ⟨ad.block, ad.off + 3, none⟩ = some (.slice E1 (rs)[0].key.length e1) := hcell 3 _ rfl
          have f4 : wa.cell? ⟨ad.block, ad.off + 4, none⟩ = some (.bool (rs)[0].hv) := hcell 4 _ rfl
          have f5 : wa.cell? ⟨ad.block, ad.off + 5, none⟩ = some (.slice E2 (rs)[0].val.length e2) := hcell 5 _ rfl
          have HKK := Lib.hid (show Kind.rec_.K wa (fun b => (w.heap.size < b ∧ b ≠ w2.heap.size) ∧ b < wa.heap.size ∧ (Value.slice (some ad) (rs).length d1).ownBlock ≠ some b) (rs)[0] [.int .i64 (rs)[0].off, .int .i64 (rs)[0].time, .bool (rs)[0].hk, .slice E1 (rs)[0].key.length e1, .bool (rs)[0].hv, .slice E2 (rs)[0].val.length e2] from
            ⟨E1, e1, E2, e2, rfl, hk9, hv8⟩)
          have htn := HT.out _ (List.getElem_mem hl1)
          have HTN := Lib.hid htn
          clear hcell hk9 hv8 hv9 Ja htn
          have HAd := AppP.below HAa ((Below.refl _ wa).drew)
          have HG : Hid (∀ b, (w.heap.size < b ∧ b ≠ w2.heap.size) ∧ b < wa.heap.size ∧ (Value.slice (some ad) (rs).length d1).ownBlock ≠ some b → (w.heap.size < b ∧ b ≠ w2.heap.size) ∧ b < wa.drew.heap.size ∧ (Value.slice (some ad) (rs).length d1).ownBlock ≠ some b) := Lib.hid (fun b hb => hb)
          have H1 : Hid (∀ u ∈ [Value.int .i64 (rs)[0].off, .int .i64 (rs)[0].time, .bool (rs)[0].hk, .slice E1 (rs)[0].key.length e1, .bool (rs)[0].hv, .slice E2 (rs)[0].val.length e2], u.oneCell' = true) := Lib.hid (by simp [Value.oneCell'])
          have HN : Hid (∀ b, wa.drew.heap.size ≤ b → w.heap.size < b ∧ b ≠ w2.heap.size) := Lib.hid (fun b hb => by have : wa.heap.size ≤ b := hb; exact ⟨by omega, by omega⟩)
          have H6 : Hid ((rs).length + 1 ≤ 1099511627776) := Lib.hid (by omega)
          have H8 : Hid (((rs).length + 1) * 80 ≤ 140737488355328) := Lib.hid (by omega)
          have HKD := Lib.hid (Kind.rec_.keep (Same.of_below ((Below.refl _ wa).drew)) HKK.out)
          have CXD := Lib.hid ((cXa.drew))
          have RD := Lib.hid (ra.below ((Below.refl _ wa).drew))
          have HRD := Lib.hid (show wa.drew.heap[w.heap.size]? = _ from hRa)
          have HBD := Lib.hid (show wa.drew.heap[w2.heap.size]? = _ from Hba.out)
          have hlz : (0 : Int) < ((rs).length : Int) := by omega
          have hlz1 : 0 < (rs).length := by omega
          have y5 := below_cell (bal wa (.cells #[.int .i64 (rs)[0].off, .int .i64 (rs)[0].time, .bool (rs)[0].hk, .slice E1 (rs)[0].key.length e1, .bool (rs)[0].hv, .slice E2 (rs)[0].val.length e2] 41)) x5
          clear hRa cXa ra HKK
          go_wp2
          go_region_law (refine step_appP Kind.rec_ HAd rfl _ _ 33 (.agg #[.int .i64 0, .int .i64 0, .bool false, .slice none 0 0, .bool false, .slice none 0 0]) 80 rfl Tryz.underlying33 (by kernel_rfl) rfl (by decide) (rs)[0] _ _ rfl rfl HKD.out HG.out H1.out HN.out H6.out H8.out ?_; intro u1 W1 HA3 hc7; obtain ⟨rs5, hrs5⟩ : ∃ l, l = (rs) ++ [(rs)[0]] := ⟨_, rfl⟩; rw [← hrs5] at HA3; have HRS5 := Lib.hid hrs5; clear hrs5; obtain ⟨A5, d5, rfl, J5⟩ := AppP.row HA3; have HJ5 := Lib.hid J5; clear J5; have hb7 := hc7.blk HBD.out (fun hb => (AppP.ne HAd hb).2 rfl); obtain ⟨z0, z1, z2, z3, z4, z5, zf⟩ := six hb7; have HB7 := Lib.hid hb7; have HC7 := Lib.hid hc7; clear hb7 hc7)
          all_goals
            have hc7 := HC7.out
            have hrs5 := HRS5.out
            have HL5 := Lib.hid (show rs5.length = (rs).length + 1 by rw [hrs5]; simp)
            have HT5 := Lib.hid (show ∀ r ∈ rs5, r.tiny by rw [hrs5]; exact tiny_add HT.out HTN.out)
            have hR7 := hc7.blk HRD.out (fun hb => Nat.lt_irrefl _ (AppP.ne HAd hb).1)
            have cX7 := CXD.out.then hc7 (fun i hi hb => absurd (AppP.ne HAd hb).1 (by omega))
            have r7 := RD.out.chg hc7 (fun b hb => by have := (AppP.ne HAd hb).1; omega)
            have hs7 : wa.heap.size ≤ W1.heap.size := hc7.size
            clear hc7 hrs5
            generalize hZ : W1.setCell ⟨w2.heap.size, 5, none⟩ (.slice A5 rs5.length d5) = Z
            obtain ⟨hbZ', cz⟩ := box1 HB7.out hZ
            have hbZ : Z.heap[w2.heap.size]? = some (.cells #[.bool (v1 == 0), .bool false, .int .i64 v4, .int .i64 v5, .int .i64 v6, .slice A5 rs5.length d5] 35 (0, 0)) := by simpa using hbZ'
            have hRZ := cz.blk hR7 (by omega)
            have JZ := HJ5.out.keep (cz.same (fun i hi h1 h2 => h1.2 h2))
            have cZ := cX7.then cz (fun i hi hb => by omega)
            have rZ := r7.chg cz (fun b hb => by omega)
            clear cz hbZ' hR7 cX7 r7
            obtain ⟨p0, p1, p2, p3, p4, p5, pf⟩ := six hbZ
            obtain ⟨a0, a1, a2, a3, a4, a5, af⟩ := six hRZ
            have HJZ := Lib.hid JZ
            have HCZ := Lib.hid cZ
            clear JZ cZ hbZ hRZ
            go_wp2
            all_goals
              refine bodyPost_ret (v := .agg #[.bool (v1 == 0), .bool false, .int .i64 v4, .int .i64 v5, .int .i64 v6, .slice A5 (rs5).length d5]) (by simp [results, Tryz.results24, go_sem, a0, a1, a2, a3, a4, a5]) rfl ?_
              refine fin_b (X := Z) ⟨(v1 == 0), false, v4, v5, v6, rs5⟩ A5 d5 ?_ (by show 1 ≤ rs5.length; have := HL5.out; omega) (by show rs5.length ≤ 5; have := HL5.out; omega) HT5.out HJZ.out rZ (by omega) HCZ.out hg0
              exact (Chg.refl _ Z).put.put.put.put.put.put
      · go_wp2_with fail
        have hb9 := blk_below Hba.out (bal wa (.cells #[.int .i64 (-1), .int .i64 1, .int .i64 100] 3))
        have hR9 := blk_below hRa (bal wa (.cells #[.int .i64 (-1), .int .i64 1, .int .i64 100] 3))
        refine (pickN g _ 3 _ (ra.below (bal _ _)) (by omega) (by omega) (by omega)).mono ?_
        rintro e wb ⟨vb, rfl, ab, bb, rb, cb⟩
        have hne : ¬ (wa.heap.size = g) := by have := ra.lt; omega
        have hlit := cb.blk (heap_alloc_new wa (.cells #[.int .i64 (-1), .int .i64 1, .int .i64 100] 3)) hne
        obtain ⟨x, hx⟩ := lit_at [-1, 1, 100] hlit ab bb
        have hbb := cb.blk hb9 (by omega)
        have hRb := cb.blk hR9 (by omega)
        have hsb := cb.size
        have hsb2 := bal wa (.cells #[.int .i64 (-1), .int .i64 1, .int .i64 100] 3)
        have Jb := (Ja.below hsb2).keep (cb.same (fun i _ h1 h2 => by have := h1.1; omega))
        have cXb := (cXa.alloc (.cells #[.int .i64 (-1), .int .i64 1, .int .i64 100] 3)).same_g cb
        clear hlit hb9 hR9 hsb2 cb Ja cXa ra HAa Hba hRa x0 x1 x2 x3 x4 x5 xf
        obtain ⟨x0, x1, x2, x3, x4, x5, xf⟩ := six hbb
        have Hbb := Lib.hid hbb
        clear hbb
        generalize hZ : wb.setCell ⟨w2.heap.size, 3, none⟩ (.int .i64 x) = Z
        obtain ⟨hbZ', cz⟩ := box1 Hbb.out hZ
        have hbZ : Z.heap[w2.heap.size]? = some (.cells #[.bool (v1 == 0), .bool false, .int .i64 v4, .int .i64 x, .int .i64 v6, .slice A1 (rs).length d1] 35 (0, 0)) := by simpa using hbZ'
        have hRZ := cz.blk hRb (by omega)
        have JZ := Jb.keep (cz.same (fun i hi h1 h2 => h1.2 h2))
        have cZ := cXb.then cz (fun i hi hb => by omega)
        have rZ := rb.chg cz (fun b hb => by omega)
        clear cz hbZ' hRb Jb cXb rb
        obtain ⟨p0, p1, p2, p3, p4, p5, pf⟩ := six hbZ
        obtain ⟨a0, a1, a2, a3, a4, a5, af⟩ := six hRZ
        have HJZ := Lib.hid JZ
        have HCZ := Lib.hid cZ
        clear JZ cZ hbZ hRZ
        go_wp2
        all_goals
          refine bodyPost_ret (v := .agg #[.bool (v1 == 0), .bool false, .int .i64 v4, .int .i64 x, .int .i64 v6, .slice A1 (rs).length d1]) (by simp [results, Tryz.results24, go_sem, a0, a1, a2, a3, a4, a5]) rfl ?_
          refine fin_b (X := Z) ⟨(v1 == 0), false, v4, x, v6, rs⟩ A1 d1 ?_ hl1 (by show rs.length ≤ 5; omega) HT.out HJZ.out rZ (by omega) HCZ.out hg0
          exact (Chg.refl _ Z).put.put.put.put.put.put
    · obtain ⟨y0, y1, y2, y3, y4, y5, yf⟩ := six hbY
      have HbY := Lib.hid hbY
      clear hbY
      generalize hZ7 : X7.setCell ⟨w2.heap.size, 1, none⟩ (.bool true) = Z7
      obtain ⟨hbX', cz⟩ := box1 HbY.out hZ7
      have hbX : Z7.heap[w2.heap.size]? = some (.cells #[.bool (v1 == 0), .bool true, .int .i64 v4, .int .i64 v5, .int .i64 v6, .slice A1 rs.length d1] 35 (0, 0)) := by simpa using hbX'
      have hRX := cz.blk hRY (by omega)
      have HAX := HAY.chg cz (fun b _ h1 h2 => h1.2 h2)
      have cX := cXY.then cz (fun i hi hb => by omega)
      have rX := rY.chg cz (fun b hb => by omega)
      have hsZ7 := cz.size
      clear cz hbX' hRY HAY cXY rY
      clear HAX
      go_wp2_with fail
      refine (pickN g _ 200 _ rX (by omega) (by omega) (by omega)).mono ?_
      rintro e w8 ⟨v8, rfl, a8, b8, rY, cY⟩
      clear HbY y0 y1 y2 y3 y4 y5 yf
      have hbY := blk_below (cY.blk hbX (by omega)) (bal w8 (.cells #[] 3))
      have hRY := blk_below (cY.blk hRX (by omega)) (bal w8 (.cells #[] 3))
      have cXY := (cX.same_g cY).alloc (.cells #[] 3)
      have hs8 := cY.size
      clear hbX hRX cX rX cY
      go_wp2_with fail
      refine (pickN g _ 2 _ (rY.below (bal _ _)) (by omega) (by omega) (by omega)).mono ?_
      rintro e w9 ⟨v9, rfl, a9, b9, r9, c9⟩
      have hs9 := c9.size
      have hs89 : (w8.alloc (.cells #[] 3)).heap.size = w8.heap.size + 1 := by simp
      have hU : (w9.alloc (.cells #[.int .i64 v9] 3)).heap.size = w9.heap.size + 1 := by simp
      have hJ9 : Ints (w9.alloc (.cells #[.int .i64 v9] 3)) (fun b => w9.heap.size = b) (some ⟨w9.heap.size, 0, none⟩) 1 [v9] := one_int w9 v9
      have hp9 : Kind.rec_.K (w9.alloc (.cells #[.int .i64 v9] 3)) (fun b => w9.heap.size = b) ⟨off, v8, false, [], true, [v9]⟩ [.int .i64 off, .int .i64 v8, .bool false, .slice (some ⟨w8.heap.size, 0, none⟩) 0 0, .bool true, .slice (some ⟨w9.heap.size, 0, none⟩) 1 1] :=
        ⟨_, _, _, _, rfl, Kind.Row.nil _ _ (by omega), hJ9⟩
      have HA9 : AppP Kind.rec_ 41 _ (fun b => w.heap.size < b ∧ b ≠ w2.heap.size) _ [⟨off, v8, false, [], true, [v9]⟩] := AppP.one (e := 41) hp9 (fun b (hb : w9.heap.size = b) => ⟨⟨by omega, by omega⟩, by omega⟩) ⟨by omega, by omega⟩
      rw [hU] at HA9
      have hbl := (bal w9 (.cells #[.int .i64 v9] 3)).alloc (Nat.le_trans (Nat.le_succ _) (Nat.le_of_eq hU.symm)) (.cells [.int .i64 off, .int .i64 v8, .bool false, .slice (some ⟨w8.heap.size, 0, none⟩) 0 0, .bool true, .slice (some ⟨w9.heap.size, 0, none⟩) 1 1].toArray 41)
      have hbV := blk_below (c9.blk hbY (by omega)) hbl
      have hRV := blk_below (c9.blk hRY (by omega)) hbl
      have rV := r9.below hbl
      have cV := ((cXY.same_g c9).alloc (.cells #[.int .i64 v9] 3)).alloc (.cells [.int .i64 off, .int .i64 v8, .bool false, .slice (some ⟨w8.heap.size, 0, none⟩) 0 0, .bool true, .slice (some ⟨w9.heap.size, 0, none⟩) 1 1].toArray 41)
      obtain ⟨y0, y1, y2, y3, y4, y5, yf⟩ := six hbV
      have HbV := Lib.hid hbV
      have hsV := hbl.size
      clear hbV hbl hJ9 hp9 hbY hRY cXY rY r9 c9
      generalize hX9 : ((w9.alloc (.cells #[.int .i64 v9] 3)).alloc (.cells #[.int .i64 off, .int .i64 v8, .bool false, .slice (some ⟨w8.heap.size, 0, none⟩) 0 0, .bool true, .slice (some ⟨w9.heap.size, 0, none⟩) 1 1] 41)).setCell ⟨w2.heap.size, 5, none⟩ (.slice (some ⟨w9.heap.size + 1, 0, none⟩) 1 1) = X9
      obtain ⟨hbX', cz⟩ := box1 HbV.out hX9
      obtain ⟨A9, rs9, hrs9, hA9⟩ : ∃ (A9 : Option Addr) (rs9 : List Rec), rs9 = [⟨off, v8, false, [], true, [v9]⟩] ∧ A9 = some ⟨w9.heap.size + 1, 0, none⟩ := ⟨_, _, rfl, rfl⟩
      have hln : rs9.length = 1 := by rw [hrs9]; rfl
      have hl9 : 1 ≤ rs9.length := Nat.le_of_eq hln.symm
      have hl94 : rs9.length ≤ 4 := by omega
      have HT9 := Lib.hid (show ∀ r ∈ rs9, r.tiny by rw [hrs9]; intro r hr; simp at hr; subst hr; exact ⟨by simp, by simp⟩)
      have hbX : X9.heap[w2.heap.size]? = some (.cells #[.bool (v1 == 0), .bool true, .int .i64 v4, .int .i64 v5, .int .i64 v6, .slice A9 rs9.length 1] 35 (0, 0)) := by
        rw [hln, hA9]
        simpa using hbX'
      have hRX := cz.blk hRV (by omega)
      have HAX : AppP Kind.rec_ 41 X9 (fun b => w.heap.size < b ∧ b ≠ w2.heap.size) (.slice A9 rs9.length 1) rs9 := by
        rw [hln, hA9, hrs9]
        exact HA9.chg cz (fun b _ h1 h2 => h1.2 h2)
      have cX := cV.then cz (fun i hi hb => by omega)
      have rX := rV.chg cz (fun b hb => by omega)
      have hsX9 := cz.size
      clear cz hbX' hRV HA9 cV rV hln hA9 hrs9 HbV
      have hapX := HAX.row
      obtain ⟨x0, x1, x2, x3, x4, x5, xf⟩ := six hbX
      have HbX := Lib.hid hbX
      clear hbX
      go_wp2_with fail
      refine (pickN g _ 40 _ rX (by omega) (by omega) (by omega)).mono ?_
      rintro e wa ⟨va, rfl, aa, ba, ra, ca⟩
      have hba := ca.blk HbX.out (by omega)
      have hRa := ca.blk hRX (by omega)
      have HAa := HAX.chg ca (fun b _ h1 h2 => by omega)
      have cXa := cX.same_g ca
      have hsa := ca.size
      clear HbX hRX HAX cX ca rX x0 x1 x2 x3 x4 x5 xf
      obtain ⟨A', d', hAd, Ja⟩ := HAa.row
      obtain ⟨rfl, rfl⟩ : A9 = A' ∧ 1 = d' := by injection hAd with e1 e2 e3; exact ⟨e1, e3⟩
      obtain ⟨x0, x1, x2, x3, x4, x5, xf⟩ := six hba
      have Hba := Lib.hid hba
      clear hba
      cases hta : (va == 0)
      · cases htb : (va == 1)
        · cases htc : (va == 2)
          · have hbZ := Hba.out
            have hRZ := hRa
            have JZ := Ja
            have cZ := cXa
            have rZ := ra
            clear Hba hRa Ja cXa ra HAa x0 x1 x2 x3 x4 x5 xf
            obtain ⟨p0, p1, p2, p3, p4, p5, pf⟩ := six hbZ
            obtain ⟨a0, a1, a2, a3, a4, a5, af⟩ := six hRZ
            have HJZ := Lib.hid JZ
            have HCZ := Lib.hid cZ
            clear JZ cZ hbZ hRZ
            go_wp2
            all_goals
              refine bodyPost_ret (v := .agg #[.bool (v1 == 0), .bool true, .int .i64 v4, .int .i64 v5, .int .i64 v6, .slice A9 (rs9).length 1]) (by simp [results, Tryz.results24, go_sem, a0, a1, a2, a3, a4, a5]) rfl ?_
              refine fin_b (X := wa) ⟨(v1 == 0), true, v4, v5, v6, rs9⟩ A9 1 ?_ hl9 (by show rs9.length ≤ 5; omega) HT9.out HJZ.out rZ (by omega) HCZ.out hg0
              exact (Chg.refl _ wa).put.put.put.put.put.put
          · generalize hZ : wa.setCell ⟨w2.heap.size, 1, none⟩ (.bool false) = Z
            obtain ⟨hbZ', cz⟩ := box1 Hba.out hZ
            have hbZ : Z.heap[w2.heap.size]? = some (.cells #[.bool (v1 == 0), .bool false, .int .i64 v4, .int .i64 v5, .int .i64 v6, .slice A9 (rs9).length 1] 35 (0, 0)) := by simpa using hbZ'
            have hRZ := cz.blk hRa (by omega)
            have JZ := Ja.keep (cz.same (fun i hi h1 h2 => h1.2 h2))
            have cZ := cXa.then cz (fun i hi hb => by omega)
            have rZ := ra.chg cz (fun b hb => by omega)
            clear cz hbZ' hRa Ja cXa ra HAa
            obtain ⟨p0, p1, p2, p3, p4, p5, pf⟩ := six hbZ
            obtain ⟨a0, a1, a2, a3, a4, a5, af⟩ := six hRZ
            have HJZ := Lib.hid JZ
            have HCZ := Lib.hid cZ
            clear JZ cZ hbZ hRZ
            go_wp2
            all_goals
              refine bodyPost_ret (v := .agg #[.bool (v1 == 0), .bool false, .int .i64 v4, .int .i64 v5, .int .i64 v6, .slice A9 (rs9).length 1]) (by simp [results, Tryz.results24, go_sem, a0, a1, a2, a3, a4, a5]) rfl ?_
              refine fin_b (X := Z) ⟨(v1 == 0), false, v4, v5, v6, rs9⟩ A9 1 ?_ hl9 (by show rs9.length ≤ 5; omega) HT9.out HJZ.out rZ (by omega) HCZ.out hg0
              exact (Chg.refl _ Z).put.put.put.put.put.put
        · obtain ⟨ad, cc, cs, hv9, hK, hcell⟩ := HAa.get (j := 0) hl9
          obtain ⟨E1, e1, E2, e2, rfl, hk9, hv8⟩ := hK
          obtain ⟨hA9, hd9⟩ : A9 = some ad ∧ 1 = cc := by injection hv9 with e1 e2 e3; exact ⟨e1, e3⟩
          subst hA9
          subst hd9
          have f0 : wa.cell? ad = some (.int .i64 (rs9)[0].off) := hcell 0 _ rfl
          have f1 : wa.cell? ⟨ad.block, ad.off + 1, none⟩ = some (.int .i64 (rs9)[0].time) := hcell 1 _ rfl
          have f2 : wa.cell? ⟨ad.block, ad.off + 2, none⟩ = some (.bool (rs9)[0].hk) := hcell 2 _ rfl
          have f3 : wa.cell? ⟨ad.block, ad.off + 3, none⟩ = some (.slice E1 (rs9)[0].key.length e1) := hcell 3 _ rfl
          have f4 : wa.cell? ⟨ad.block, ad.off + 4, none⟩ = some (.bool (rs9)[0].hv) := hcell 4 _ rfl
          have f5 : wa.cell? ⟨ad.block, ad.off + 5, none⟩ = some (.slice E2 (rs9)[0].val.length e2) := hcell 5 _ rfl
          have HKK := Lib.hid (show Kind.rec_.K wa (fun b => (w.heap.size < b ∧ b ≠ w2.heap.size) ∧ b < wa.heap.size ∧ (Value.slice (some ad) (rs9).length 1).ownBlock ≠ some b) (rs9)[0] [.int .i64 (rs9)[0].off, .int .i64 (rs9)[0].time, .bool (rs9)[0].hk, .slice E1 (rs9)[0].key.length e1, .bool (rs9)[0].hv, .slice E2 (rs9)[0].val.length e2] from
            ⟨E1, e1, E2, e2, rfl, hk9, hv8⟩)
          have htn := HT9.out _ (List.getElem_mem hl9)
          have HTN := Lib.hid htn
          clear hcell hk9 hv8 hv9 Ja htn
          have HAd := AppP.below HAa ((Below.refl _ wa).drew)
          have HG : Hid (∀ b, (w.heap.size < b ∧ b ≠ w2.heap.size) ∧ b < wa.heap.size ∧ (Value.slice (some ad) (rs9).length 1).ownBlock ≠ some b → (w.heap.size < b ∧ b ≠ w2.heap.size) ∧ b < wa.drew.heap.size ∧ (Value.slice (some ad) (rs9).length 1).ownBlock ≠ some b) := Lib.hid (fun b hb => hb)
          have H1 : Hid (∀ u ∈ [Value.int .i64 (rs9)[0].off, .int .i64 (rs9)[0].time, .bool (rs9)[0].hk, .slice E1 (rs9)[0].key.length e1, .bool (rs9)[0].hv, .slice E2 (rs9)[0].val.length e2], u.oneCell' = true) := Lib.hid (by simp [Value.oneCell'])
          have HN : Hid (∀ b, wa.drew.heap.size ≤ b → w.heap.size < b ∧ b ≠ w2.heap.size) := Lib.hid (fun b hb => by have : wa.heap.size ≤ b := hb; exact ⟨by omega, by omega⟩)
          have H6 : Hid ((rs9).length + 1 ≤ 1099511627776) := Lib.hid (by omega)
          have H8 : Hid (((rs9).length + 1) * 80 ≤ 140737488355328) := Lib.hid (by omega)
          have HKD := Lib.hid (Kind.rec_.keep (Same.of_below ((Below.refl _ wa).drew)) HKK.out)
          have CXD := Lib.hid ((cXa.drew))
          have RD := Lib.hid (ra.below ((Below.refl _ wa).drew))
          have HRD := Lib.hid (show wa.drew.heap[w.heap.size]? = _ from hRa)
          have HBD := Lib.hid (show wa.drew.heap[w2.heap.size]? = _ from Hba.out)
          have hlz : (0 : Int) < ((rs9).length : Int) := by omega
          have hlz1 : 0 < (rs9).length := by omega
          have y5 := below_cell (bal wa (.cells #[.int .i64 (rs9)[0].off, .int .i64 (rs9)[0].time, .bool (rs9)[0].hk, .slice E1 (rs9)[0].key.length e1, .bool (rs9)[0].hv, .slice E2 (rs9)[0].val.length e2] 41)) x5
          clear hRa cXa ra HKK
          go_wp2
          go_region_law (refine step_appP Kind.rec_ HAd rfl _ _ 33 (.agg #[.int .i64 0, .int .i64 0, .bool false, .slice none 0 0, .bool false, .slice none 0 0]) 80 rfl Tryz.underlying33 (by kernel_rfl) rfl (by decide) (rs9)[0] _ _ rfl rfl HKD.out HG.out H1.out HN.out H6.out H8.out ?_; intro u1 W1 HA3 hc7; obtain ⟨rs5, hrs5⟩ : ∃ l, l = (rs9) ++ [(rs9)[0]] := ⟨_, rfl⟩; rw [← hrs5] at HA3; have HRS5 := Lib.hid hrs5; clear hrs5; obtain ⟨A5, d5, rfl, J5⟩ := AppP.row HA3; have HJ5 := Lib.hid J5; clear J5; have hb7 := hc7.blk HBD.out (fun hb => (AppP.ne HAd hb).2 rfl); obtain ⟨z0, z1, z2, z3, z4, z5, zf⟩ := six hb7; have HB7 := Lib.hid hb7; have HC7 := Lib.hid hc7; clear hb7 hc7)
          all_goals
            have hc7 := HC7.out
            have hrs5 := HRS5.out
            have HL5 := Lib.hid (show rs5.length = (rs9).length + 1 by rw [hrs5]; simp)
            have HT5 := Lib.hid (show ∀ r ∈ rs5, r.tiny by rw [hrs5]; exact tiny_add HT9.out HTN.out)
            have hR7 := hc7.blk HRD.out (fun hb => Nat.lt_irrefl _ (AppP.ne HAd hb).1)
            have cX7 := CXD.out.then hc7 (fun i hi hb => absurd (AppP.ne HAd hb).1 (by omega))
            have r7 := RD.out.chg hc7 (fun b hb => by have := (AppP.ne HAd hb).1; omega)
            have hs7 : wa.heap.size ≤ W1.heap.size := hc7.size
            clear hc7 hrs5
            generalize hZ : W1.setCell ⟨w2.heap.size, 5, none⟩ (.slice A5 rs5.length d5) = Z
            obtain ⟨hbZ', cz⟩ := box1 HB7.out hZ
            have hbZ : Z.heap[w2.heap.size]? = some (.cells #[.bool (v1 == 0), .bool true, .int .i64 v4, .int .i64 v5, .int .i64 v6, .slice A5 rs5.length d5] 35 (0, 0)) := by simpa using hbZ'
            have hRZ := cz.blk hR7 (by omega)
            have JZ := HJ5.out.keep (cz.same (fun i hi h1 h2 => h1.2 h2))
            have cZ := cX7.then cz (fun i hi hb => by omega)
            have rZ := r7.chg cz (fun b hb => by omega)
            clear cz hbZ' hR7 cX7 r7
            obtain ⟨p0, p1, p2, p3, p4, p5, pf⟩ := six hbZ
            obtain ⟨a0, a1, a2, a3, a4, a5, af⟩ := six hRZ
            have HJZ := Lib.hid JZ
            have HCZ := Lib.hid cZ
            clear JZ cZ hbZ hRZ
            go_wp2
            all_goals
              refine bodyPost_ret (v := .agg #[.bool (v1 == 0), .bool true, .int .i64 v4, .int .i64 v5, .int .i64 v6, .slice A5 (rs5).length d5]) (by simp [results, Tryz.results24, go_sem, a0, a1, a2, a3, a4, a5]) rfl ?_
              refine fin_b (X := Z) ⟨(v1 == 0), true, v4, v5, v6, rs5⟩ A5 d5 ?_ (by show 1 ≤ rs5.length; have := HL5.out; omega) (by show rs5.length ≤ 5; have := HL5.out; omega) HT5.out HJZ.out rZ (by omega) HCZ.out hg0
              exact (Chg.refl _ Z).put.put.put.put.put.put
      · go_wp2_with fail
        have hb9 := blk_below Hba.out (bal wa (.cells #[.int .i64 (-1), .int .i64 1, .int .i64 100] 3))
        have hR9 := blk_below hRa (bal wa (.cells #[.int .i64 (-1), .int .i64 1, .int .i64 100] 3))
        refine (pickN g _ 3 _ (ra.below (bal _ _)) (by omega) (by omega) (by omega)).mono ?_
        rintro e wb ⟨vb, rfl, ab, bb, rb, cb⟩
        have hne : ¬ (wa.heap.size = g) := by have := ra.lt; omega
        have hlit := cb.blk (heap_alloc_new wa (.cells #[.int .i64 (-1), .int .i64 1, .int .i64 100] 3)) hne
        obtain ⟨x, hx⟩ := lit_at [-1, 1, 100] hlit ab bb
        have hbb := cb.blk hb9 (by omega)
        have hRb := cb.blk hR9 (by omega)
        have hsb := cb.size
        have hsb2 := bal wa (.cells #[.int .i64 (-1), .int .i64 1, .int .i64 100] 3)
        have Jb := (Ja.below hsb2).keep (cb.same (fun i _ h1 h2 => by have := h1.1; omega))
        have cXb := (cXa.alloc (.cells #[.int .i64 (-1), .int .i64 1, .int .i64 100] 3)).same_g cb
        clear hlit hb9 hR9 hsb2 cb Ja cXa ra HAa Hba hRa x0 x1 x2 x3 x4 x5 xf
        obtain ⟨x0, x1, x2, x3, x4, x5, xf⟩ := six hbb
        have Hbb := Lib.hid hbb
        clear hbb
        generalize hZ : wb.setCell ⟨w2.heap.size, 3, none⟩ (.int .i64 x) = Z
        obtain ⟨hbZ', cz⟩ := box1 Hbb.out hZ
        have hbZ : Z.heap[w2.heap.size]? = some (.cells #[.bool (v1 == 0), .bool true, .int .i64 v4, .int .i64 x, .int .i64 v6, .slice A9 (rs9).length 1] 35 (0, 0)) := by simpa using hbZ'
        have hRZ := cz.blk hRb (by omega)
        have JZ := Jb.keep (cz.same (fun i hi h1 h2 => h1.2 h2))
        have cZ := cXb.then cz (fun i hi hb => by omega)
        have rZ := rb.chg cz (fun b hb => by omega)
        clear cz hbZ' hRb Jb cXb rb
        obtain ⟨p0, p1, p2, p3, p4, p5, pf⟩ := six hbZ
        obtain ⟨a0, a1, a2, a3, a4, a5, af⟩ := six hRZ
        have HJZ := Lib.hid JZ
        have HCZ := Lib.hid cZ
        clear JZ cZ hbZ hRZ
        go_wp2
        all_goals
          refine bodyPost_ret (v := .agg #[.bool (v1 == 0), .bool true, .int .i64 v4, .int .i64 x, .int .i64 v6, .slice A9 (rs9).length 1]) (by simp [results, Tryz.results24, go_sem, a0, a1, a2, a3, a4, a5]) rfl ?_
          refine fin_b (X := Z) ⟨(v1 == 0), true, v4, x, v6, rs9⟩ A9 1 ?_ hl9 (by show rs9.length ≤ 5; omega) HT9.out HJZ.out rZ (by omega) HCZ.out hg0
          exact (Chg.refl _ Z).put.put.put.put.put.put
end

section
open Go.RowKit

theorem info_int8 : (Tryz.prog.info? 3).map (fun i => (i.zero, i.size, i.bytes)) = some (some (.int .i64 0), 1, 8) := by kernel_rfl
end
end Go.Proofs.YtomcjjehfocbmaaGreatDoor
