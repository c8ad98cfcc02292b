/- The reader that draws. -/
import Derived.Test.YtfflhenldegmmaaAp
import Derived.Laws.BitsAllLaws
import Derived.Laws.BitsLemmas
namespace Go.Proofs.Ytfflhenldegmmaa
set_option linter.unusedVariables false
set_option linter.unusedSimpArgs false
open Go.RowKit

/-- Block g is a reader that has drawn p numbers. -/
def Rd (w : World) (g p : Nat) : Prop := ∃ (A : Option Addr) (c : Nat) (bs : List Int), w.heap[g]? = some (.cells #[.slice A bs.length c, .int .i64 p] 75 (0, 0)) ∧ Kind.byte.Row w (fun b => b < g) A c bs ∧ bs.length ≤ 2000
theorem Rd.lt {w : World} {g p : Nat} (h : Rd w g p) : g < w.heap.size := by
  obtain ⟨A, c, bs, h, _⟩ := h
  exact (Array.getElem?_eq_some_iff.1 h).1
theorem Rd.chg {w w' : World} {g p : Nat} {F : Nat → Prop} (h : Rd w g p) (hc : Chg F w w') (hF : ∀ b, F b → g < b) : Rd w' g p := by
  obtain ⟨A, c, bs, hb, hr, hl⟩ := h
  have hlt := (Array.getElem?_eq_some_iff.1 hb).1
  exact ⟨A, c, bs, hc.blk hb (fun hf => Nat.lt_irrefl _ (hF _ hf)), hr.keep (hc.same (fun i _ hi hf => by have := hF i hf; omega)), hl⟩
theorem Rd.below {w w' : World} {g p : Nat} (h : Rd w g p) (hb : Below w.heap.size w w') : Rd w' g p := h.chg (F := fun _ => False) (Chg.of_below hb) (fun _ h => h.elim)
theorem two {w : World} {g : Nat} {t : TypeId} {v0 v1 : Value} (h : w.heap[g]? = some (.cells #[v0, v1] t (0, 0))) :
    w.cell? ⟨g, 0, none⟩ = some v0 ∧ w.cell? ⟨g, 1, none⟩ = some v1 ∧ ∀ i, w.frozen? ⟨g, i, none⟩ = false := by
  refine ⟨?_, ?_, fun i => ?_⟩ <;> simp [World.cell?, World.frozen?, h]

theorem far_cell {w : World} {g i : Nat} {ad : Addr} {j : Nat} {v : Value} (h : w.cell? (ad.add j) = some v) (hF : ad.block < g) (u : Value) : (w.setCell ⟨g, i, none⟩ u).cell? (ad.add j) = some v := by
  rw [World.cell?_setCell_other _ _ _ _ (fun e => ?_)]
  · exact h
  · have : (ad.add j).block = g := by rw [← e]
    rw [add_block] at this
    omega
theorem rd_set {w : World} {g p : Nat} {A : Option Addr} {c : Nat} {bs : List Int} (hb : w.heap[g]? = some (.cells #[.slice A bs.length c, .int .i64 p] 75 (0, 0))) (hr : Kind.byte.Row w (fun b => b < g) A c bs) (hl : bs.length ≤ 2000) :
    Rd (w.setCell ⟨g, 1, none⟩ (.int .i64 ((p : Int) + 1))) g (p + 1) := by
  refine ⟨A, c, bs, ?_, hr.keep ((Chg.set (fun b => b = g) w (p := ⟨g, 1, none⟩) rfl _).same (fun i _ (h1 : i < g) (h2 : i = g) => by omega)), hl⟩
  have := blk_put hb 1 (.int .i64 ((p : Int) + 1))
  simpa using this
theorem pick_x (p l : Nat) (x y : Int) (hl : 0 < l) (hp : p ≤ 1000000) (hx0 : 0 ≤ x) (hx1 : x ≤ 255) (hy0 : 0 ≤ y) (hy1 : y ≤ 255) :
    wrap64 ((p : Int) / (l : Int)) = (p : Int) / (l : Int) ∧ wrap64 ((p : Int) / (l : Int) * 53) = (p : Int) / (l : Int) * 53 ∧
    wrap64 (x * 131 + y * 1117 + (p : Int) * 29 + (p : Int) / (l : Int) * 53) = x * 131 + y * 1117 + (p : Int) * 29 + (p : Int) / (l : Int) * 53 ∧
    0 ≤ x * 131 + y * 1117 + (p : Int) * 29 + (p : Int) / (l : Int) * 53 ∧ x * 131 + y * 1117 + (p : Int) * 29 + (p : Int) / (l : Int) * 53 ≤ 100000000 := by
  have hd1 : 0 ≤ (p : Int) / (l : Int) := Int.ediv_nonneg (by omega) (by omega)
  have hd2 : (p : Int) / (l : Int) ≤ (p : Int) := Int.ediv_le_self _ (by omega)
  generalize (p : Int) / (l : Int) = q at *
  exact ⟨IntWalk.wrap64_in _ (by omega), IntWalk.wrap64_in _ (by omega), IntWalk.wrap64_in _ (by omega), by omega, by omega⟩
theorem xor_nonneg (X : Int) (h0 : 0 ≤ X) (h1 : X ≤ 100000000) : 0 ≤ bits BinOp.xor IntKind.i64 X (X / 64) := by
  obtain ⟨a, rfl⟩ := Int.eq_ofNat_of_zero_le h0
  show 0 ≤ IntKind.i64.wrap ((BitVec.ofInt 64 (a : Int) ^^^ BitVec.ofInt 64 ((a : Int) / 64)).toNat : Int)
  have e : (a : Int) / 64 = ((a / 64 : Nat) : Int) := by omega
  have k1 : (BitVec.ofInt 64 (a : Int)).toNat = a := by rw [BitVec.toNat_ofInt]; omega
  have k2 : (BitVec.ofInt 64 ((a / 64 : Nat) : Int)).toNat = a / 64 := by rw [BitVec.toNat_ofInt]; omega
  rw [e, BitVec.toNat_xor, k1, k2]
  have hx : a ^^^ a / 64 < 2 ^ 62 := Nat.xor_lt_two_pow (by omega) (by omega)
  generalize a ^^^ a / 64 = q at hx
  have h63 : q < 9223372036854775808 := by omega
  clear k1 k2
  simp [IntKind.wrap, IntKind.bits]
  omega
theorem pick_tmod (x n : Int) (hx : 0 ≤ x) (hn : 1 ≤ n) : 0 ≤ x.tmod n ∧ x.tmod n < n := ⟨Int.tmod_nonneg _ hx, Int.tmod_lt_of_pos _ (by omega)⟩
theorem pick_any (g p : Nat) (n : Int) (w : World) (h : Rd w g p) (hp : p ≤ 1000000) (hn : 1 ≤ n) (hn1 : n ≤ 1000000) :
    Calls Try.prog 36 #[.pointer (some ⟨g, 0, none⟩), .int .i64 n] w fun e w' => ∃ v : Int, e = .returned (.int .i64 v) ∧ 0 ≤ v ∧ v < n ∧ Rd w' g (p + 1) ∧ Chg (fun b => b = g) w w' := by
  obtain ⟨A, c, bs, hb, hr, hl⟩ := h
  have hlc := hr.1
  have hcc := hr.2.1
  obtain ⟨q0, q1, qf⟩ := two hb
  have Hb := Lib.hid hb
  have hd0 : decide (n < 1) = false := by simp; omega
  cases hz : ((bs.length : Int) == 0)
  · have hpos : 0 < bs.length := by
      rcases Nat.eq_zero_or_pos bs.length with h | h
      · rw [h] at hz; cases hz
      · exact h
    by_cases hk : p < bs.length
    · obtain ⟨ad, rfl, hF, hc, hx0, hx1⟩ := hr.byte_at hk
      have hc' : ∀ u, (w.setCell ⟨g, 1, none⟩ u).cell? (ad.add p) = some (.int .u8 bs[p]) := fun u => far_cell hc hF u
      clear hb hc
      go_enter Try.func36, Try.ntmps36
      go_wp2
      go_ret
      refine ⟨_, rfl, ?_, ?_, rd_set Hb.out hr hl, Chg.set (fun b => b = g) w (p := ⟨g, 1, none⟩) rfl _⟩
      · exact Int.emod_nonneg _ (by omega)
      · exact Int.emod_lt_of_pos _ (by omega)
    · have h1 : p % bs.length < bs.length := Nat.mod_lt _ hpos
      have h2 : (p * 7 + 3) % bs.length < bs.length := Nat.mod_lt _ hpos
      obtain ⟨ad, rfl, hF, hc, hx0, hx1⟩ := hr.byte_at h1
      obtain ⟨ad', ha', _, hc2, hy0, hy1⟩ := hr.byte_at h2
      obtain rfl : ad = ad' := by injection ha'
      have hc' : ∀ u, (w.setCell ⟨g, 1, none⟩ u).cell? (ad.add (p % bs.length)) = some (.int .u8 bs[p % bs.length]) := fun u => far_cell hc hF u
      have hc2' : ∀ u, (w.setCell ⟨g, 1, none⟩ u).cell? (ad.add ((p * 7 + 3) % bs.length)) = some (.int .u8 bs[(p * 7 + 3) % bs.length]) := fun u => far_cell hc2 hF u
      clear hb hc hc2
      go_enter Try.func36, Try.ntmps36
      go_wp2
      generalize hW : World.setCell _ _ _ = W
      have w0 : W.cell? ⟨g, 0, none⟩ = some (.slice (some ad) bs.length c) := by rw [← hW]; simpa [World.cell?_setCell_other] using q0
      have w1 : W.cell? (ad.add (p % bs.length)) = some (.int .u8 bs[p % bs.length]) := by rw [← hW]; exact hc' _
      have w2 : W.cell? (ad.add ((p * 7 + 3) % bs.length)) = some (.int .u8 bs[(p * 7 + 3) % bs.length]) := by rw [← hW]; exact hc2' _
      have W0 := grow_cell w0
      have W1 := grow_cell w1
      have W2 := grow_cell w2
      have HW := Lib.hid hW
      clear hW w0 w1 w2 hc' hc2' q0 q1 qf
      have hpi : (0 : Int) < (bs.length : Int) := by omega
      have hm1 : (0 : Int) ≤ ((p : Int) * 7 + 3) % (bs.length : Int) := Int.emod_nonneg _ (by omega)
      have hm2 : ((p : Int) * 7 + 3) % (bs.length : Int) < (bs.length : Int) := Int.emod_lt_of_pos _ hpi
      obtain ⟨e1, e2, e3, hX0, hX1⟩ := pick_x p bs.length _ _ hpos hp hx0 hx1 hy0 hy1
      refine wp_region_grow_lit (by kernel_rfl) (by kernel_rfl) ?_
      repeat (go_big_quiet_step (fail))
      refine wpQuiet_nil ?_
      rintro _ ⟨G, rfl⟩
      generalize hX : bs[p % bs.length] * 131 + bs[(p * 7 + 3) % bs.length] * 1117 + ↑p * 29 + (p : Int) / (bs.length : Int) * 53 = X
      rw [hX] at hX0 hX1
      clear hX e1 e2 e3
      go_wp2
      go_ret
      have hm := pick_tmod (bits BinOp.xor IntKind.i64 X (X / 64)) n (xor_nonneg X hX0 hX1) hn
      refine ⟨_, rfl, hm.1, hm.2, ?_, ?_⟩
      · have hR : Rd W g (p + 1) := by rw [← HW.out]; exact rd_set Hb.out hr hl
        exact hR.below (grow_below W G)
      · have hC : Chg (fun b => b = g) w W := by rw [← HW.out]; exact Chg.set (fun b => b = g) w (p := ⟨g, 1, none⟩) rfl _
        exact hC.then (Chg.of_below (F := fun _ => False) (grow_below W G)) (fun i _ h => h.elim)
  · clear hb
    go_enter Try.func36, Try.ntmps36
    go_wp2
    go_ret
    exact ⟨0, rfl, Int.le_refl _, by omega, rd_set Hb.out hr hl, Chg.set (fun b => b = g) w (p := ⟨g, 1, none⟩) rfl _⟩
end Go.Proofs.Ytfflhenldegmmaa
