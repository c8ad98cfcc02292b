/- The laws FnIndexFind, FnIndexFindWhen. -/
import Derived.Test.YtfielhfifeggiaaI4
import Derived.Test.YtfielhfifeggiaaI6
import Derived.Laws.StructEq
namespace Go.Proofs.Ytfielhfifeggiaa
open Go.RowKit

set_option maxHeartbeats 2000000 in
theorem indexFind_walk (bs : List Int) (A : Option Addr) (c : Nat) (w : World) (h : Kind.byte.Row w (fun _ => True) A c bs) :
    Calls Try.prog 5 #[.slice A bs.length c] w fun e w' => e = .returned (.bool true) ∧ Below w.heap.size w w' := by
  have hl := h.1
  have hc := h.2.1
  by_cases hs : bs.length ≤ 1048576
  · go_enter Try.func5, Try.ntmps5
    go_wp2_with fail
    refine (DrawIndexFind_any bs A c _ _ h).mono ?_
    rintro e w1 ⟨es, B, d, o, rfl, hes, ho0, ho1, hE, hb1⟩
    go_wp2_with fail
    refine (IndexFind_any es B d _ _ _ hE).mono ?_
    rintro e w2 ⟨rfl, hb2⟩
    have hE2 := hE.below hb2
    obtain ⟨r, hr⟩ : ∃ r, r = findI es o := ⟨_, rfl⟩
    rw [← hr]
    have HR := Lib.hid hr
    clear hr
    go_wp2_with fail
    generalize hW2 : World.alloc _ _ = W2
    obtain ⟨hB1, c2, hz2⟩ := alloc1 hW2
    have hE3 := hE2.below c2
    refine (IndexFindS_any es B d _ _ _ hE3).mono ?_
    rintro e w3 ⟨rfl, hb3⟩
    rw [← HR.out]
    have hB3 := blk_below hB1 hb3
    have hE4 := hE3.below hb3
    have bb := bthen (bthen (bthen hb1 hb2) c2) hb3
    have hlt3 : w2.heap.size < w3.heap.size := by have := hb3.size; omega
    obtain ⟨x0, x1, xf⟩ := two2 hB3
    have hne3 : w2.heap.size ≠ w3.heap.size := by omega
    have BB := Lib.hid bb
    have HB3 := Lib.hid hB3
    have HE4 := Lib.hid hE4
    clear hb1 hb2 hb3 c2 bb hE hE2 hE3 hB1 hB3 hW2
    cases r with
    | none =>
      go_wp2
      go_ret
      exact ⟨rfl, bthen BB.out (bal _ _)⟩
    | some m =>
      have hf : findI es o = some m := HR.out.symm
      have hval : entsB es = true := by
        cases hv : entsB es with
        | true => rfl
        | false => unfold findI at hf; rw [hv] at hf; cases hf
      have hf' : findE es o = some m := by unfold findI at hf; rw [hval] at hf; exact hf
      have hmem := findE_mem hf'
      have HM := Lib.hid hmem
      have HMost := Lib.hid (findE_most ((entsB_iff es).1 hval).2.2 hf')
      clear hf hf' hval hmem
      go_wp2_with fail
      generalize hW : World.alloc _ _ = W
      obtain ⟨hBo, bW, hzW⟩ := alloc1 hW
      have hBq := blk_below HB3.out bW
      have hEW := (HE4.out).below bW
      have BW := Lib.hid (bthen BB.out bW)
      have HBq := Lib.hid hBq
      clear hW hBo bW hBq x0 x1 xf
      go_loopw [9, 10] (fun s i wr => ∃ (k : Nat) (b : Bool), k ≤ es.length ∧ i = .int .i64 k ∧ s = .bool b ∧ Hid (b = (es.take k).any (fun e => decide (e = m))) ∧ Hid (Below W.heap.size W wr)) (fun _ i _ => es.length - (intOf i).toNat)
      case atStart => exact ⟨0, false, Nat.zero_le _, rfl, rfl, Lib.hid rfl, Lib.hid (Below.refl _ _)⟩
      case round =>
        obtain ⟨k, b, hk, rfl, rfl, Hb, HBW⟩ := hrel
        have hel := hEW.1
        have hec := hEW.2.1
        obtain ⟨p0', p1', _⟩ := two2 (blk_below HBq.out HBW.out)
        have p0 : wr.cell? ⟨w2.heap.size, 0, none⟩ = some (.int .i64 m.off) := p0'
        have p1 : wr.cell? ⟨w2.heap.size, 1, none⟩ = some (.int .i64 m.place) := p1'
        clear p0' p1'
        by_cases hlt : k < es.length
        · obtain ⟨ad, rfl, _, q0, q1⟩ := (hEW.below HBW.out).ent_at hlt
          have k0 : (0 : Int) ≤ (k : Int) := by omega
          have k1 : (k : Int) < (es.length : Int) := by omega
          have hany : Hid ((es.take (k + 1)).any (fun e => decide (e = m)) = ((es.take k).any (fun e => decide (e = m)) || decide (es[k] = m))) := Lib.hid (by rw [List.take_succ_eq_append_getElem hlt, List.any_append]; simp)
          have hEq : Hid (decide (es[k] = m) = ((es[k].off == m.off) && (es[k].place == m.place))) := Lib.hid (ent_eq _ _)
          have hno : m.off < es[k].off → ¬ es[k].off ≤ o := fun h1 h2 => by have := HMost.out _ (List.getElem_mem hlt) h2; omega
          by_cases hgt : m.off < es[k].off
          · have hx := hno hgt
            clear hno
            have d1 : decide (m.off < es[k].off) = true := by simp [hgt]
            have d2 : decide (es[k].off ≤ o) = false := by simp; omega
            have c0 : ¬ es[k].off = m.off := by omega
            have HA := Lib.hid (show (es.take (k + 1)).any (fun e => decide (e = m)) = b by rw [hany.out, hEq.out, beq_eq_false_iff_ne.2 c0, Hb.out]; simp)
            cases b
            all_goals
              go_wp2_with fail
              go_quiet (fail)
              go_wp2_with fail
              go_quiet (fail)
              go_wp2
              go_roundw
              case rel => exact ⟨k + 1, _, by omega, by go_num, rfl, Lib.hid HA.out.symm, Lib.hid (bthen HBW.out (below_drewN _ _))⟩
              case measure => simp [intOf]; omega
          · have d1 : decide (m.off < es[k].off) = false := by simp; omega
            clear hno
            cases b
            · by_cases c0 : es[k].off = m.off <;> by_cases c1 : es[k].place = m.place
              all_goals
                obtain ⟨b', hb'⟩ : ∃ b', b' = ((es[k].off == m.off) && (es[k].place == m.place)) := ⟨_, rfl⟩
                have HA := Lib.hid (show (es.take (k + 1)).any (fun e => decide (e = m)) = b' by rw [hany.out, hEq.out, ← Hb.out, hb']; rfl)
                first
                  | (have hb2 : b' = true := by rw [hb', beq_iff_eq.2 c0, beq_iff_eq.2 c1]; rfl)
                  | (have hb2 : b' = false := by rw [hb', beq_eq_false_iff_ne.2 c1, Bool.and_false])
                  | (have hb2 : b' = false := by rw [hb', beq_eq_false_iff_ne.2 c0, Bool.false_and])
                clear hb'
                subst hb2
                go_wp2_with fail
                go_quiet (fail)
                go_wp2_with fail
                go_quiet (fail)
                go_wp2
                go_roundw
                case rel => exact ⟨k + 1, _, by omega, by go_num, rfl, Lib.hid HA.out.symm, Lib.hid (bthen HBW.out (below_drewN _ _))⟩
                case measure => simp [intOf]; omega
            · have HA := Lib.hid (show (es.take (k + 1)).any (fun e => decide (e = m)) = true by rw [hany.out, ← Hb.out]; rfl)
              go_wp2_with fail
              go_quiet (fail)
              go_wp2_with fail
              go_quiet (fail)
              go_wp2
              go_roundw
              case rel => exact ⟨k + 1, _, by omega, by go_num, rfl, Lib.hid HA.out.symm, Lib.hid (bthen HBW.out (below_drewN _ _))⟩
              case measure => simp [intOf]; omega
        · have hb : b = true := by
            rw [Hb.out, List.take_of_length_le (by omega), List.any_eq_true]
            exact ⟨m, HM.out.1, by simp⟩
          subst hb
          have d1 : decide (m.off ≤ o) = true := by simp; exact HM.out.2
          go_wp2
          go_ret
          exact ⟨rfl, bthen BW.out HBW.out⟩
  · go_enter Try.func5, Try.ntmps5
    go_wp2
    go_ret
    exact ⟨rfl, Below.refl _ _⟩
set_option maxHeartbeats 1000000 in
theorem indexFindWhen_walk (bs : List Int) (A : Option Addr) (c : Nat) (w : World) (h : Kind.byte.Row w (fun _ => True) A c bs) :
    Calls Try.prog 6 #[.slice A bs.length c] w fun e w' => e = .returned (.bool true) ∧ Below w.heap.size w w' := by
  have hl := h.1
  have hc := h.2.1
  by_cases hs : bs.length ≤ 1048576
  · go_enter Try.func6, Try.ntmps6
    go_wp2_with fail
    refine (DrawIndexFind_any bs A c _ _ h).mono ?_
    rintro e w1 ⟨es, B, d, o, rfl, hes, ho0, ho1, hE, hb1⟩
    go_wp2_with fail
    refine (IndexFind_any es B d _ _ _ hE).mono ?_
    rintro e w2 ⟨rfl, hb2⟩
    have hE2 := hE.below hb2
    obtain ⟨r, hr⟩ : ∃ r, r = findI es o := ⟨_, rfl⟩
    rw [← hr]
    have HR := Lib.hid hr
    clear hr
    go_wp2_with fail
    generalize hW2 : World.alloc _ _ = W2
    obtain ⟨hB1, c2, hz2⟩ := alloc1 hW2
    have hE3 := hE2.below c2
    refine (IndexFindS_any es B d _ _ _ hE3).mono ?_
    rintro e w3 ⟨rfl, hb3⟩
    rw [← HR.out]
    have hB3 := blk_below hB1 hb3
    have hE4 := hE3.below hb3
    have bb := bthen (bthen (bthen hb1 hb2) c2) hb3
    have hlt3 : w2.heap.size < w3.heap.size := by have := hb3.size; omega
    obtain ⟨x0, x1, xf⟩ := two2 hB3
    have hne3 : w2.heap.size ≠ w3.heap.size := by omega
    have BB := Lib.hid bb
    have HB3 := Lib.hid hB3
    have HE4 := Lib.hid hE4
    clear hb1 hb2 hb3 c2 bb hE hE2 hE3 hB1 hB3 hW2
    go_wp2_with fail
    generalize hW : World.alloc _ _ = W
    obtain ⟨hBo, bW, hzW⟩ := alloc1 hW
    have hEW := (HE4.out).below bW
    refine (IndexValidS_any es B d _ _ hEW).mono ?_
    rintro e w5 ⟨rfl, hb5⟩
    obtain ⟨p0, p1, _⟩ := two2 (blk_below (blk_below HB3.out bW) hb5)
    obtain ⟨y0, y1, _⟩ := two2 (blk_below hBo hb5)
    have hE6 := hEW.below hb5
    have B5 := Lib.hid (bthen (bthen BB.out bW) hb5)
    clear hEW hBo bW hb5 hW x0 x1 xf hE4
    cases hv : entsB es
    · go_wp2
      go_ret
      exact ⟨rfl, B5.out⟩
    · have hs2 := ((entsB_iff es).1 hv).2.2
      have hr := HR.out
      unfold findI at hr
      rw [hv, if_pos rfl] at hr
      have hw := findE_when (o := o) hs2
      rw [← hr] at hw
      have HV := Lib.hid hv
      clear hv hs2 hr
      have hel := hE6.1
      have hec := hE6.2.1
      by_cases h0 : es.length = 0
      · rw [h0] at hw
        have hw' : r.isSome = false := hw
        have d1 : decide (0 < es.length) = false := by simp [h0]
        have d2 : decide ((0 : Int) < (es.length : Int)) = false := by simp [h0]
        have HH := Lib.hid h0
        clear hw h0
        go_wp2_with fail
        try go_quiet (fail)
        go_wp2
        go_ret
        exact ⟨by simp [hw'], by first | exact B5.out | exact bthen B5.out (below_drewN _ _)⟩
      · have hpos : 0 < es.length := by omega
        obtain ⟨ad, rfl, _, q0, q1⟩ := hE6.ent_at hpos
        rw [entAt_eq hpos] at hw
        have d1 : decide (0 < es.length) = true := by simp; omega
        have d2 : decide ((0 : Int) < (es.length : Int)) = true := by simp; omega
        have q0' : w5.cell? ad = some (.int .i64 es[0].off) := by simpa [Addr.add] using q0
        have k1 : (0 : Int) < (es.length : Int) := by omega
        by_cases hle : es[0].off ≤ o
        · have d3 : decide (es[0].off ≤ o) = true := by simp [hle]
          rw [d1, d3] at hw
          have hw' : r.isSome = true := hw
          clear hw
          go_wp2_with fail
          try go_quiet (fail)
          go_wp2
          go_ret
          exact ⟨by simp [hw'], by first | exact B5.out | exact bthen B5.out (below_drewN _ _)⟩
        · have d3 : decide (es[0].off ≤ o) = false := by simp; omega
          rw [d1, d3] at hw
          have hw' : r.isSome = false := hw
          clear hw
          go_wp2_with fail
          try go_quiet (fail)
          go_wp2
          go_ret
          exact ⟨by simp [hw'], by first | exact B5.out | exact bthen B5.out (below_drewN _ _)⟩
  · go_enter Try.func6, Try.ntmps6
    go_wp2
    go_ret
    exact ⟨rfl, Below.refl _ _⟩
end Go.Proofs.Ytfielhfifeggiaa
