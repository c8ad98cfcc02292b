/- Draws of entries. -/
import Derived.Test.YtfielhfifeggiaaI1
import Derived.Test.YtfielhfifeggiaaDn
import Derived.Test.YtfielhfifeggiaaOw
namespace Go.Proofs.Ytfielhfifeggiaa
open Go.RowKit

set_option maxHeartbeats 2000000 in
theorem l92Entries_any (g N : Nat) (w : World) (h : RdN w g N) (hN : N ≤ 900000) :
    Calls Try.prog 18 #[.pointer (some ⟨g, 0, none⟩)] w fun e w' => ∃ (es : List Ent) (A : Option Addr) (c : Nat), e = .returned (.slice A es.length c) ∧ es.length ≤ 5 ∧
      Ents w' (fun b => w.heap.size ≤ b) A c es ∧ RdN w' g (N + 30) ∧ Chg (fun b => b = g) w w' := by
  have hg0 := h.lt
  go_enter Try.func18, Try.ntmps18
  go_wp2_with fail
  refine (pickN g N 6 _ (h.below (bal _ _)) (by omega) (by omega) (by omega)).mono ?_
  rintro e w1 ⟨v1, rfl, a1, b1, r1, c1⟩
  go_wp2_with fail
  refine (pickN g _ 10 _ r1 (by omega) (by omega) (by omega)).mono ?_
  rintro e w2 ⟨v2, rfl, a2, b2, r2, c2⟩
  have hA1 := App.lit Kind.ent 35 w w.heap.size (Nat.le_refl _)
  have HA2 := AppP.chg (AppP.chg hA1 c1 (fun b _ h1 h2 => by omega)) c2 (fun b _ h1 h2 => by omega)
  have C2 : Chg (fun b => b = g) w w2 := (((Chg.refl _ w).alloc (.cells #[] 35)).same_g c1).same_g c2
  obtain ⟨n, rfl⟩ := Int.eq_ofNat_of_zero_le a1
  generalize hv : Value.slice (some ⟨w.heap.size, 0, none⟩) 0 0 = v0 at HA2
  have HC2 := Lib.hid C2
  clear hA1 c1 c2 C2 r1 a1
  go_wp2_with fail
  clear hv
  go_loopw [3, 5, 6, 7] (fun v o p i wr => ∃ (k : Nat) (es : List Ent) (oo pp : Int), k ≤ n ∧ i = .int .i64 k ∧ o = .int .i64 oo ∧ p = .int .i64 pp ∧ es.length = k ∧ 0 ≤ oo ∧ oo ≤ 10 + 7 * k ∧ 0 ≤ pp ∧ pp ≤ 80 * k ∧
    App Kind.ent 35 wr w.heap.size v es ∧ RdN wr g (N + 2 + 2 * k) ∧ Hid (Chg (fun b => b = g) w wr)) (fun _ _ _ i _ => n - (intOf i).toNat)
  case atStart => exact ⟨0, [], v2, 0, by omega, rfl, rfl, rfl, rfl, by omega, by omega, by omega, by omega, HA2, r2, HC2⟩
  case round =>
    obtain ⟨k, es, oo, pp, hk, rfl, rfl, rfl, hel, h1, h2, h3, h4, HA, HR, HC⟩ := hrel
    have hsz := HC.out.size
    have hgr := HR.lt
    clear HC2 r2 HA2
    by_cases hlt : k < n
    · go_wp2_with (at_builtin; go_loud (refine wpList_app Kind.ent HA rfl _ _ 23 (.agg #[.int .i64 0, .int .i64 0]) 16 rfl Try.underlying23 (by kernel_rfl) rfl (by decide) ⟨oo, pp⟩ [.int .i64 oo, .int .i64 pp] (fun _ => False) rfl rfl rfl ?_ ?_ ?_ ?_ ?_ ?_))
      · exact fun _ h => h.elim
      · simp [Value.oneCell']
      · exact hsz
      · omega
      · omega
      intro u1 W1 HA3 hc7
      have hc8 := HC.out.then hc7 (fun i hi hb => absurd (HA.ne hb) (by omega))
      have hr7 := (HR.chg hc7 (fun b hb => Nat.lt_of_lt_of_le hg0 (HA.ne hb)))
      have HC8 := Lib.hid hc8
      clear hc7 hc8 HC HA HR
      go_wp2_with fail
      refine (pickN g _ 6 _ hr7 (by omega) (by omega) (by omega)).mono ?_
      rintro e w3 ⟨v3, rfl, a3, b3, r3, c3⟩
      go_wp2_with fail
      refine (pickN g _ 50 _ r3 (by omega) (by omega) (by omega)).mono ?_
      rintro e w4 ⟨v4, rfl, a4, b4, r4, c4⟩
      have HA4 := AppP.chg (AppP.chg HA3 c3 (fun b _ h1 h2 => by omega)) c4 (fun b _ h1 h2 => by omega)
      have HC4 := Lib.hid ((HC8.out.same_g c3).same_g c4)
      clear HC8 HA3 c3 c4 r3 hr7
      go_wp2
      go_roundw
      case rel => exact ⟨k + 1, _, _, _, by omega, by go_num, rfl, rfl, by simp [hel], by omega, by omega, by omega, by omega, HA4, r4.le (by omega), HC4⟩
      case measure => simp [intOf]; omega
    · have hkn : k = n := by omega
      subst hkn
      by_cases hn1 : 1 < k
      · go_wp2_with fail
        refine (pickN g _ 16 _ HR (by omega) (by omega) (by omega)).mono ?_
        rintro e w3 ⟨v3, rfl, a3, b3, r3, c3⟩
        have HA3 := AppP.chg HA c3 (fun b _ h1 h2 => by omega)
        have HC3 := Lib.hid (HC.out.same_g c3)
        clear HA HC c3 HR
        cases ht : (v3 == 0)
        · go_wp2
          go_ret
          obtain ⟨A, c, rfl, J⟩ := AppP.row HA3
          exact ⟨es, A, c, rfl, by omega, J, r3.le (by omega), HC3.out⟩
        · go_wp2_with fail
          refine (pickN g _ 2 _ r3 (by omega) (by omega) (by omega)).mono ?_
          rintro e w5 ⟨v5, rfl, a5, b5, r5, c5⟩
          have HA5 := AppP.chg HA3 c5 (fun b _ h1 h2 => by omega)
          have HC5 := Lib.hid (HC3.out.same_g c5)
          clear HA3 HC3 c5 r3
          obtain ⟨gq, cap, cur, rfl, hPq, hhq, hcq, hlq, hmq, hE⟩ := AppP.own HA5 (by omega)
          have hle : (1 : Int) < (es.length : Int) := by omega
          have hb1 : v5 * pp ≤ pp := by
            have := Int.mul_le_mul_of_nonneg_right (show v5 ≤ 1 by omega) h3
            omega
          have hb0 : 0 ≤ v5 * pp := Int.mul_nonneg a5 h3
          obtain ⟨ds1, hK1, hd1⟩ := hE 1 _ (List.getElem?_eq_getElem (show 1 < es.length by omega))
          have hK1' : ds1 = [.int .i64 es[1].off, .int .i64 es[1].place] := hK1
          subst hK1'
          have f0 : w5.cell? ⟨gq, 2, none⟩ = some (.int .i64 es[1].off) := hd1 0 _ rfl
          have f1 : w5.cell? ⟨gq, 3, none⟩ = some (.int .i64 es[1].place) := hd1 1 _ rfl
          have gf : ∀ i, w5.frozen? ⟨gq, i, none⟩ = false := fun i => by simp [World.frozen?, hhq]
          have HR1 := own_set (d := Kind.ent) (q := 1) (x := ⟨es[1].off, v5 * pp⟩) (cs := [.int .i64 es[1].off, .int .i64 (v5 * pp)]) hPq hlq hmq hE (by omega) rfl
          have hw : w5.setCells gq (1 * Kind.ent.sz) [.int .i64 es[1].off, .int .i64 (v5 * pp)] = w5.setCell ⟨gq, 3, none⟩ (.int .i64 (v5 * pp)) := by
            show (w5.setCell ⟨gq, 2, none⟩ (.int .i64 es[1].off)).setCell ⟨gq, 3, none⟩ (.int .i64 (v5 * pp)) = _
            rw [setCell_self hhq (cell_arr hhq f0)]
          rw [hw] at HR1
          have cF : Chg (fun b => b = gq) w5 (w5.setCell ⟨gq, 3, none⟩ (.int .i64 (v5 * pp))) := Chg.set (fun b => b = gq) w5 (p := ⟨gq, 3, none⟩) rfl _
          have HCF := Lib.hid cF
          have HR1' := Lib.hid HR1
          clear hE hd1 HA5 hhq hcq cF HR1 hw hK1
          go_wp2
          go_ret
          refine ⟨es.set 1 ⟨es[1].off, v5 * pp⟩, some ⟨gq, 0, none⟩, cap, congrArg (fun n => Ending.returned (Value.slice (some ⟨gq, 0, none⟩) n cap)) (by simp [hel]), by simp; omega, HR1'.out, (r5.chg HCF.out (fun b hb => by omega)).le (by omega), HC5.out.then HCF.out (fun i hi hb => by omega)⟩
      · go_wp2
        go_ret
        obtain ⟨A, c, rfl, J⟩ := AppP.row HA
        exact ⟨es, A, c, rfl, by omega, J, HR.le (by omega), HC.out⟩
end Go.Proofs.Ytfielhfifeggiaa
