/- The laws FnRecordFrom, FnRecordTorn. -/
import Derived.Test.YtfflhenldegmmaaD7
import Derived.Test.YtfflhenldegmmaaE0
namespace Go.Proofs.Ytfflhenldegmmaa
set_option linter.unusedVariables false
set_option linter.unusedSimpArgs false
open Go.RowKit

set_option maxRecDepth 5000 in
set_option maxHeartbeats 400000 in
theorem recordFromLaw_walk (b0 : List Int) (A : Option Addr) (c : Nat) (w : World) (h : Kind.byte.Row w (fun _ => True) A c b0) :
    Calls Try.prog 6 #[.slice A b0.length c] w fun e w' => e = .returned (.bool true) ∧ Below w.heap.size w w' := by
  have hl := h.1
  have hc := h.2.1
  by_cases hs : b0.length ≤ 1048576
  · go_enter Try.func6, Try.ntmps6
    go_wp2_with fail
    refine (DrawRecordFrom_any b0 A c _ _ h).mono ?_
    rintro e w1 ⟨l, B, d, i, o, t, rfl, hi, ho, ht, hln, hB, hb1⟩
    have HN := Lib.hid (show l.length ≤ 4194304 by omega)
    go_wp2_with fail
    refine (RecordFrom_any l B d _ i o t _ hB HN.out).mono ?_
    rintro e w2 ⟨vk, vv, rfl, hC2⟩
    obtain ⟨q, hq⟩ : ∃ q, q = recFromOf l i o t := ⟨_, rfl⟩
    have HQ := Lib.hid hq
    rw [← hq] at hC2 ⊢
    clear hq
    obtain ⟨r, hr⟩ : ∃ r, r = recQ q := ⟨_, rfl⟩
    rw [← hr] at hC2 ⊢
    have HR := Lib.hid hr
    clear hr
    obtain ⟨nq, hnq⟩ : ∃ n, n = nextOf q := ⟨_, rfl⟩
    rw [← hnq]
    have HNQ := Lib.hid hnq
    clear hnq
    have hb2 := hC2.below
    have hB2 := hB.below hb2
    obtain ⟨Ak, ck, rfl, hk2⟩ := AppP.row hC2.key
    obtain ⟨Av, cv, rfl, hv2⟩ := AppP.row hC2.val
    have hk2 := hk2.mono (F' := fun _ => True) (fun _ _ => trivial)
    have hv2 := hv2.mono (F' := fun _ => True) (fun _ _ => trivial)
    clear hC2
    go_wp2_with fail
    generalize hW2 : World.alloc _ _ = W2
    obtain ⟨hO, c2, hz2⟩ := alloc1 hW2
    clear hW2
    refine (RecordFromS_any l B d _ i o t _ (hB2.below c2) HN.out).mono ?_
    rintro e w3 ⟨vk3, vv3, rfl, hC3⟩
    rw [← HQ.out] at hC3 ⊢
    rw [← HR.out] at hC3 ⊢
    rw [← HNQ.out]
    have hb3 := hC3.below
    have hB3 := (hB2.below c2).below hb3
    obtain ⟨Ak3, ck3, rfl, hk3⟩ := AppP.row hC3.key
    obtain ⟨Av3, cv3, rfl, hv3⟩ := AppP.row hC3.val
    have hk3 := hk3.mono (F' := fun _ => True) (fun _ _ => trivial)
    have hv3 := hv3.mono (F' := fun _ => True) (fun _ _ => trivial)
    have hO3 := blk_below hO hb3
    have hk23 := (hk2.below c2).below hb3
    have hv23 := (hv2.below c2).below hb3
    have b3 := bthen (bthen (bthen hb1 hb2) c2) hb3
    have hlt3 : w2.heap.size < w3.heap.size := (Array.getElem?_eq_some_iff.1 hO3).1
    have hne3 : w2.heap.size ≠ w3.heap.size := by omega
    obtain ⟨x0, x1, x2, x3, x4, x5, xf⟩ := six hO3
    clear hC3 hb1 hb2 c2 hb3 hO hB hB2 hk2 hv2 hz2
    go_wp2_with fail
    generalize hW3 : World.alloc _ _ = W3
    obtain ⟨hP, c3, hz3⟩ := alloc1 hW3
    clear hW3
    refine (sameRecord_any r r Ak Av Ak3 Av3 ck cv ck3 cv3 _ _ _ (hk23.below c3) (hv23.below c3) (hk3.below c3) (hv3.below c3)).mono ?_
    rintro e w4 ⟨rfl, hb4⟩
    rw [decide_eq_true rfl]
    have hO4 := blk_below (blk_below hO3 c3) hb4
    have hP4 := blk_below hP hb4
    have hk4 := (hk23.below c3).below hb4
    have hv4 := (hv23.below c3).below hb4
    have hk5 := (hk3.below c3).below hb4
    have hv5 := (hv3.below c3).below hb4
    have hB4 := (hB3.below c3).below hb4
    have b4 := bthen (bthen b3 c3) hb4
    obtain ⟨y0, y1, y2, y3, y4, y5, yf⟩ := six hO4
    obtain ⟨z0, z1, z2, z3, z4, z5, zf⟩ := six hP4
    have HO4 := Lib.hid hO4
    clear x0 x1 x2 x3 x4 x5 xf hO3 hP hO4 hP4 hk23 hv23 hk3 hv3 c3 hb4 hz3 hB3 b3
    cases q with
    | none =>
      go_wp2_with fail
      refine (sameRecord_any r r Ak Av Ak3 Av3 ck cv ck3 cv3 _ _ _ hk4 hv4 hk5 hv5).mono ?_
      rintro e w5 ⟨rfl, hb5⟩
      rw [decide_eq_true rfl]
      go_wp2
      go_ret
      exact ⟨rfl, bthen b4 hb5⟩
    | some s =>
      obtain ⟨s, en⟩ := s
      have hrs : r = s := HR.out
      subst hrs
      have hne : nq = en := HNQ.out
      subst hne
      obtain ⟨m, rfl⟩ := Int.eq_ofNat_of_zero_le hi.1
      have hfin : bytesB l = true ∧ baseB o t = true ∧ rdRec l m o t = some (r, nq) := by
        have e := HQ.out
        unfold recFromOf at e
        split at e
        · rename_i hh
          simp at hh
          unfold rdAt at e
          rw [if_neg (by omega)] at e
          exact ⟨hh.1, hh.2, e.symm⟩
        · cases e
      obtain ⟨hby, hbs, hrd⟩ := hfin
      obtain ⟨⟨tl, hdr⟩, hen, hrec, hle⟩ := rdRec_inv hby hrd
      have hrb := Lib.hid (show recBytesOf r o t = recBytes r o t by unfold recBytesOf; rw [hrec, hbs]; rfl)
      have hok : (recB r && baseB o t) = true := by rw [hrec, hbs]; rfl
      have hcutl := Lib.hid (show (l.drop m).take (recBytes r o t).length = recBytes r o t by rw [hdr, List.take_left'] ; rfl)
      have HEN := Lib.hid hen
      clear hdr hrd hby hbs hen
      go_wp2_with fail
      refine (RecordBytes_any r Ak Av ck cv _ o t _ hk4 hv4).mono ?_
      rintro e w5 ⟨v5, rfl, HA5, hb5⟩
      rw [hrb.out] at HA5
      rw [hok]
      obtain ⟨rb, hrbe⟩ : ∃ rb, rb = recBytes r o t := ⟨_, rfl⟩
      rw [← hrbe] at HA5 hcutl HEN
      have HRB := Lib.hid hrbe
      clear hrbe
      obtain ⟨A5, c5, rfl, J5⟩ := AppP.row HA5
      have hO5 := blk_below HO4.out hb5
      obtain ⟨u0, u1, u2, u3, u4, u5, uf⟩ := six hO5
      have hB5 := hB4.below hb5
      have b5 := bthen b4 hb5
      have hk6 := hk4.below hb5
      have hv6 := hv4.below hb5
      clear y0 y1 y2 y3 y4 y5 yf z0 z1 z2 z3 z4 z5 zf HA5 hO5 hB4
      go_wp2_with fail
      refine (RecordValid_any r Ak Av ck cv _ _ hk6 hv6).mono ?_
      rintro e w6 ⟨rfl, hb6⟩
      rw [hrec]
      have hrec' := Lib.hid hrec
      have hok' := Lib.hid hok
      clear hrec hok
      have hBl := hB5.1
      have hBc := hB5.2.1
      have s1 : ∀ W : World, (Instr.slice 23 (.slice B l.length d) (some (.int .i64 (m : Int))) (some (.int .i64 (nq : Int))) none).run Try.prog W = .ok (.slice (cutAddr B m d 1) rb.length (d - m)) W := fun W => by
        have := run_cutlh Try.underlying23 info_int1 B l.length d m nq _ _ rfl rfl (by have := HEN.out; omega) (by omega) W
        rw [show nq - m = rb.length by have := HEN.out; omega] at this
        exact this
      have hT := ((hB5.cut m (by have := HEN.out; omega)).take rb.length).below hb6
      rw [hcutl.out] at hT
      have J6 := J5.below hb6
      have b6 := bthen b5 hb6
      clear hB5 hb6 hcutl hle hln hBl hBc
      go_wp2_with fail
      refine (sameInts_any rb rb A5 (cutAddr B m d 1) c5 (d - m) _ _ _ J6 hT).mono ?_
      rintro e w7 ⟨rfl, hb7⟩
      rw [decide_eq_true rfl]
      have b7 := Lib.hid (bthen b6 hb7)
      clear b6 hb7 hT J6
      go_wp2
      go_ret
      exact ⟨rfl, b7.out⟩
  · go_enter Try.func6, Try.ntmps6
    go_wp2
    go_ret
    exact ⟨rfl, Below.refl _ _⟩

set_option maxRecDepth 5000 in
set_option maxHeartbeats 400000 in
theorem recordTornLaw_walk (b0 : List Int) (A : Option Addr) (c : Nat) (w : World) (h : Kind.byte.Row w (fun _ => True) A c b0) :
    Calls Try.prog 5 #[.slice A b0.length c] w fun e w' => e = .returned (.bool true) ∧ Below w.heap.size w w' := by
  have hl := h.1
  have hc := h.2.1
  by_cases hs : b0.length ≤ 1048576
  · go_enter Try.func5, Try.ntmps5
    go_wp2_with fail
    refine (DrawRecordFrom_any b0 A c _ _ h).mono ?_
    rintro e w1 ⟨l, B, d, i, o, t, rfl, hi, ho, ht, hln, hB, hb1⟩
    have HN := Lib.hid (show l.length ≤ 4194304 by omega)
    go_wp2_with fail
    refine (RecordFrom_any l B d _ i o t _ hB HN.out).mono ?_
    rintro e w2 ⟨vk, vv, rfl, hC2⟩
    obtain ⟨q, hq⟩ : ∃ q, q = recFromOf l i o t := ⟨_, rfl⟩
    have HQ := Lib.hid hq
    rw [← hq] at hC2 ⊢
    clear hq
    obtain ⟨r, hr⟩ : ∃ r, r = recQ q := ⟨_, rfl⟩
    rw [← hr] at hC2 ⊢
    have HR := Lib.hid hr
    clear hr
    obtain ⟨nq, hnq⟩ : ∃ n, n = nextOf q := ⟨_, rfl⟩
    rw [← hnq]
    have HNQ := Lib.hid hnq
    clear hnq
    have hb2 := hC2.below
    have hB2 := hB.below hb2
    obtain ⟨Ak, ck, rfl, hk2⟩ := AppP.row hC2.key
    obtain ⟨Av, cv, rfl, hv2⟩ := AppP.row hC2.val
    have hk2 := hk2.mono (F' := fun _ => True) (fun _ _ => trivial)
    have hv2 := hv2.mono (F' := fun _ => True) (fun _ _ => trivial)
    clear hC2
    go_wp2_with fail
    generalize hW2 : World.alloc _ _ = W2
    obtain ⟨hO, c2, hz2⟩ := alloc1 hW2
    clear hW2
    refine (RecordFromS_any l B d _ i o t _ (hB2.below c2) HN.out).mono ?_
    rintro e w3 ⟨vk3, vv3, rfl, hC3⟩
    rw [← HQ.out] at hC3 ⊢
    rw [← HR.out] at hC3 ⊢
    rw [← HNQ.out]
    have hb3 := hC3.below
    have hB3 := (hB2.below c2).below hb3
    obtain ⟨Ak3, ck3, rfl, hk3⟩ := AppP.row hC3.key
    obtain ⟨Av3, cv3, rfl, hv3⟩ := AppP.row hC3.val
    have hk3 := hk3.mono (F' := fun _ => True) (fun _ _ => trivial)
    have hv3 := hv3.mono (F' := fun _ => True) (fun _ _ => trivial)
    have hO3 := blk_below hO hb3
    have hk23 := (hk2.below c2).below hb3
    have hv23 := (hv2.below c2).below hb3
    have b3 := bthen (bthen (bthen hb1 hb2) c2) hb3
    have hlt3 : w2.heap.size < w3.heap.size := (Array.getElem?_eq_some_iff.1 hO3).1
    have hne3 : w2.heap.size ≠ w3.heap.size := by omega
    obtain ⟨x0, x1, x2, x3, x4, x5, xf⟩ := six hO3
    clear hC3 hb1 hb2 c2 hb3 hO hB hB2 hk2 hv2 hz2
    go_wp2_with fail
    generalize hW3 : World.alloc _ _ = W3
    obtain ⟨hP, c3, hz3⟩ := alloc1 hW3
    clear hW3
    refine (sameRecord_any r r Ak Av Ak3 Av3 ck cv ck3 cv3 _ _ _ (hk23.below c3) (hv23.below c3) (hk3.below c3) (hv3.below c3)).mono ?_
    rintro e w4 ⟨rfl, hb4⟩
    rw [decide_eq_true rfl]
    have hO4 := blk_below (blk_below hO3 c3) hb4
    have hP4 := blk_below hP hb4
    have hk4 := (hk23.below c3).below hb4
    have hv4 := (hv23.below c3).below hb4
    have hk5 := (hk3.below c3).below hb4
    have hv5 := (hv3.below c3).below hb4
    have hB4 := (hB3.below c3).below hb4
    have b4 := bthen (bthen b3 c3) hb4
    obtain ⟨y0, y1, y2, y3, y4, y5, yf⟩ := six hO4
    obtain ⟨z0, z1, z2, z3, z4, z5, zf⟩ := six hP4
    have HO4 := Lib.hid hO4
    clear x0 x1 x2 x3 x4 x5 xf hO3 hP hO4 hP4 hk23 hv23 hk3 hv3 c3 hb4 hz3 hB3 b3
    cases q with
    | none =>
      go_wp2_with fail
      refine (sameRecord_any r r Ak Av Ak3 Av3 ck cv ck3 cv3 _ _ _ hk4 hv4 hk5 hv5).mono ?_
      rintro e w5 ⟨rfl, hb5⟩
      rw [decide_eq_true rfl]
      go_wp2
      go_ret
      exact ⟨rfl, bthen b4 hb5⟩
    | some s =>
      obtain ⟨s, en⟩ := s
      have hrs : r = s := HR.out
      subst hrs
      have hne : nq = en := HNQ.out
      subst hne
      obtain ⟨m, rfl⟩ := Int.eq_ofNat_of_zero_le hi.1
      have hfin : bytesB l = true ∧ baseB o t = true ∧ rdRec l m o t = some (r, nq) := by
        have e := HQ.out
        unfold recFromOf at e
        split at e
        · rename_i hh
          simp at hh
          unfold rdAt at e
          rw [if_neg (by omega)] at e
          exact ⟨hh.1, hh.2, e.symm⟩
        · cases e
      obtain ⟨hby, hbs, hrd⟩ := hfin
      have hle := (rdRec_inv hby hrd).2.2.2
      have hpos : 0 < nq := by
        have := (rdRec_inv hby hrd).2.1
        unfold recBytes at this
        have := (varB_len ((bodyB r o t).length : Int)).1
        simp only [List.length_append] at *
        omega
      have hcut := rdRec_cut hrd (nq - 1) (by omega)
      have hq2 := Lib.hid (show recFromOf (l.take (nq - 1)) (m : Int) o t = none by
        unfold recFromOf
        split
        · unfold rdAt
          rw [if_neg (by omega)]
          exact hcut
        · rfl)
      clear hcut hrd hby hbs
      have hBl := hB4.1
      have hBc := hB4.2.1
      obtain ⟨k, rfl⟩ : ∃ k, nq = k + 1 := ⟨nq - 1, by omega⟩
      rw [show k + 1 - 1 = k by omega] at hq2
      have hk1 : k ≤ l.length := by omega
      have s1 : ∀ W : World, (Instr.slice 23 (.slice B l.length d) none (some (.int .i64 (k : Int))) none).run Try.prog W = .ok (.slice B k d) W := run_cuth Try.underlying23 info_int1 _ _ _ k _ rfl (by omega)
      have hT := hB4.take k
      have hTl : (l.take k).length = k := by rw [List.length_take]; omega
      obtain ⟨xs, hxs⟩ : ∃ xs, xs = l.take k := ⟨_, rfl⟩
      rw [← hxs] at hT hTl hq2
      have HTL := Lib.hid hTl
      have HC := Lib.hid (fun W (hW : Below w4.heap.size w4 W) => RecordFrom_any xs B d _ (m : Int) o t W (hT.below hW) (by omega))
      rw [hTl] at HC
      clear hxs hT hB4 y0 y1 y2 y3 y4 y5 yf z0 z1 z2 z3 z4 z5 zf hTl hBl hBc hle hpos
      have hw : IntKind.i64.wrap (((k + 1 : Nat) : Int) - 1) = (k : Int) := by rw [IntWalk.i64_in _ (by omega)]; omega
      have hw' : wrap64 (((k + 1 : Nat) : Int) - 1) = (k : Int) := by rw [IntWalk.wrap64_in _ (by omega)]; omega
      have hwk : IntKind.i64.wrap (k : Int) = (k : Int) := by rw [IntWalk.i64_in _ (by omega)]
      have hwk' : wrap64 (k : Int) = (k : Int) := by rw [IntWalk.wrap64_in _ (by omega)]
      clear hln
      go_wp2_with fail
      refine (HC.out _ (Below.refl _ _)).mono ?_
      rintro e w5 ⟨vk5, vv5, rfl, hC5⟩
      rw [hq2.out] at hC5 ⊢
      have b5 := Lib.hid (bthen b4 hC5.below)
      obtain ⟨Ak5, ck5, rfl, _⟩ := AppP.row hC5.key
      obtain ⟨Av5, cv5, rfl, _⟩ := AppP.row hC5.val
      clear hC5 b4
      go_wp2
      go_ret
      exact ⟨rfl, bthen b5.out (bal _ _)⟩
  · go_enter Try.func5, Try.ntmps5
    go_wp2
    go_ret
    exact ⟨rfl, Below.refl _ _⟩
end Go.Proofs.Ytfflhenldegmmaa
