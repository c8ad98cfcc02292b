/- The law FnLogPart. -/
import Derived.Test.YtneblddbahancaaDw
import Derived.Test.YtneblddbahancaaA2
import Derived.Test.YtneblddbahancaaPt
import Derived.Test.YtneblddbahancaaB3
import Derived.Test.YtneblddbahancaaS2
import Derived.Test.YtneblddbahancaaT2
namespace Go.Proofs.Ytneblddbahancaa
set_option linter.unusedVariables false
set_option linter.unusedSimpArgs false
open Go.RowKit

set_option maxHeartbeats 2000000 in
theorem logPart_walk (bs : List Int) (A : Option Addr) (c : Nat) (ms : List Int) (A2 : Option Addr) (c2 : Nat) (w : World) (h : Kind.byte.Row w (fun _ => True) A c bs) (h2 : Kind.byte.Row w (fun _ => True) A2 c2 ms) :
    Calls Try.prog 3 #[.slice A bs.length c, .slice A2 ms.length c2] w fun e w' => e = .returned (.bool true) ∧ Below w.heap.size w w' := by
  have hl := h.1
  have hc := h.2.1
  have hl2 := h2.1
  have hc2 := h2.2.1
  by_cases hs : bs.length ≤ 1048576
  · by_cases hs2 : ms.length ≤ 1048576
    · go_enter Try.func3, Try.ntmps3
      go_wp2_with fail
      refine (DrawLogValid_any bs A c _ _ h).mono ?_
      rintro e w1 ⟨es, B, d, rfl, hD⟩
      have hes := hD.len
      have hE := hD.row
      have hb1 := hD.below
      clear hD
      go_wp2_with fail
      refine (LogValid_any es B d _ _ hE).mono ?_
      rintro e w2 ⟨rfl, hb2⟩
      have hE2 := hE.below hb2
      go_wp2_with fail
      refine (LogValidS_any es B d _ _ hE2).mono ?_
      rintro e w3 ⟨rfl, hb3⟩
      have hE3 := hE2.below hb3
      have b3 := Lib.hid (bthen (bthen hb1 hb2) hb3)
      clear hE hE2 hb1 hb2 hb3
      cases hv : logB es
      · go_wp2
        go_ret
        exact ⟨rfl, b3.out⟩
      · have HV := Lib.hid hv
        clear hv
        by_cases h0 : es.length = 0
        · have hz : ((es.length : Int) == 0) = true := by simp [h0]
          go_wp2
          go_ret
          exact ⟨rfl, b3.out⟩
        · have hz : ((es.length : Int) == 0) = false := by simpa using h0
          have hpos : 0 < es.length := by omega
          obtain ⟨k, hk⟩ : ∃ k, k = ms.length % es.length := ⟨_, rfl⟩
          have hkl : k < es.length := by rw [hk]; exact Nat.mod_lt _ hpos
          have hki : (ms.length : Int) % (es.length : Int) = (k : Int) := by rw [hk]; rfl
          obtain ⟨ad, _, _, rfl, _⟩ := hE3.bat_at (j := 0) hpos
          have hl5 := hE3.1
          have hc5 := hE3.2.1
          have s1 : ∀ W : World, (Instr.slice 23 (.slice (some ad) es.length d) (some (.int .i64 (IntKind.i64.wrap ((k : Int) + 1)))) none none).run Try.prog W = .ok (.slice (cutAddr (some ad) (k + 1) d 6) (es.length - (k + 1)) (d - (k + 1))) W :=
            run_cut Try.underlying23 info_bat _ _ _ _ _ (by rw [IntWalk.i64_in _ (by omega)]; rfl) (by omega)
          have s3 : ∀ W : World, (Instr.slice 23 (.slice (some ad) es.length d) none (some (.int .i64 (IntKind.i64.wrap ((k : Int) + 1)))) none).run Try.prog W = .ok (.slice (some ad) (k + 1) d) W :=
            run_cuth Try.underlying23 info_bat _ _ _ _ _ (by rw [IntWalk.i64_in _ (by omega)]; rfl) (by omega)
          have s2 : ∀ W : World, (Instr.slice 23 (.slice (some ad) es.length d) (some (.int .i64 (k : Int))) none none).run Try.prog W = .ok (.slice (cutAddr (some ad) k d 6) (es.length - k) (d - k)) W :=
            run_cut Try.underlying23 info_bat _ _ _ _ _ rfl (by omega)
          have hR1 := hE3.take k
          have hR2 := hE3.cut (k + 1) (by omega)
          have hR3 := hE3.take (k + 1)
          have hR4 := hE3.cut k (by omega)
          have HK := Lib.hid hk
          have k1 : (k : Int) < (es.length : Int) := by omega
          have k2 : (es.length : Int) ≤ (d : Int) := by omega
          clear hk
          go_wp2_with fail
          rw [hki]
          clear hki
          have k3 : k ≤ d := by omega
          have k4 : k + 1 ≤ d := by omega
          have hz3 : w.heap.size ≤ w3.heap.size := b3.out.size
          have bD : Below w3.heap.size w3 (w3.alloc (.cells #[] 45)).drew := (bal _ _).drew
          have L1 := App.litD Kind.bat 45 w3 w.heap.size hz3
          have hR1 := hR1.bound bnd_bat
          have hR2 := hR2.bound bnd_bat
          go_region_law (first
            | (refine step_appN Kind.bat (xs := []) (ys := es.take (k)) L1 rfl _ _ 23 (.agg #[.bool false, .bool false, .int .i64 0, .int .i64 0, .int .i64 0, .slice none 0 0]) 56 rfl Try.underlying23 info_bat rfl bnd_bat onec_bat (by rfl) (by rfl) (by simp; omega) (hR1.below bD) (fun b _ hb => ⟨hb.1, fun h => by have := own_lit _ h; omega⟩) (fun _ h => by simp at h; omega) (by simp; omega) (by simp; omega) ?_; intro u1 W1 HA1 hc1 ho1)
            | (refine step_appN Kind.bat (xs := [] ++ es.take (k)) (ys := es.drop (k + 1)) HA1 rfl _ _ 23 (.agg #[.bool false, .bool false, .int .i64 0, .int .i64 0, .int .i64 0, .slice none 0 0]) 56 rfl Try.underlying23 info_bat rfl bnd_bat onec_bat (by rfl) (by rfl) (by simp) ((hR2.below bD).keep (hc1.same (fun b _ hb h => by have := own_lit _ h; omega))) (fun b _ hb => ⟨hb.1, fun h => by have := own_from ho1 own_lit (show w3.heap.size ≤ (w3.alloc (.cells #[] 45)).drew.heap.size by simp) _ h; omega⟩) (fun b h => by have := hc1.size; simp at this; omega) (by simp; omega) (by simp; omega) ?_; intro u2 W2 HA2 hc2 ho2))
          obtain ⟨xs, hxs⟩ : ∃ l, l = [] ++ es.take (k) ++ es.drop (k + 1) := ⟨_, rfl⟩
          rw [← hxs] at HA2
          have bW2 : Below w3.heap.size w3 W2 := (bD.trans (hc1.below (by simp) (fun i hi => own_lit _ hi))).trans (hc2.below (by have := hc1.size; simp at this; omega) (fun i hi => own_from ho1 own_lit (show w3.heap.size ≤ (w3.alloc (.cells #[] 45)).drew.heap.size by simp) _ hi))
          have hzW2 := bW2.size
          have HX := Lib.hid hxs
          have hs2' := hE3.below bW2
          have bD2 : Below W2.heap.size W2 (W2.alloc (.cells #[] 45)).drew := (bal _ _).drew
          have L2 := App.litD Kind.bat 45 W2 w.heap.size (by omega)
          have hR3 := (hR3.below bW2).bound bnd_bat
          have hR4 := (hR4.below bW2).bound bnd_bat
          clear hxs hc1 hc2 ho1 ho2 HA1 L1 bD hR1 hR2
          go_wp2_with fail
          go_region_law (first
            | (refine step_appN Kind.bat (xs := []) (ys := es.take (k + 1)) L2 rfl _ _ 23 (.agg #[.bool false, .bool false, .int .i64 0, .int .i64 0, .int .i64 0, .slice none 0 0]) 56 rfl Try.underlying23 info_bat rfl bnd_bat onec_bat (by rfl) (by rfl) (by simp; omega) (hR3.below bD2) (fun b _ hb => ⟨hb.1, fun h => by have := own_lit _ h; omega⟩) (fun _ h => by simp at h; omega) (by simp; omega) (by simp; omega) ?_; intro u3 W3 HA3 hc3 ho3)
            | (refine step_appN Kind.bat (xs := [] ++ es.take (k + 1)) (ys := es.drop (k)) HA3 rfl _ _ 23 (.agg #[.bool false, .bool false, .int .i64 0, .int .i64 0, .int .i64 0, .slice none 0 0]) 56 rfl Try.underlying23 info_bat rfl bnd_bat onec_bat (by rfl) (by rfl) (by simp) ((hR4.below bD2).keep (hc3.same (fun b _ hb h => by have := own_lit _ h; omega))) (fun b _ hb => ⟨hb.1, fun h => by have := own_from ho3 own_lit (show W2.heap.size ≤ (W2.alloc (.cells #[] 45)).drew.heap.size by simp) _ h; omega⟩) (fun b h => by have := hc3.size; simp at this; omega) (by simp; omega) (by simp; omega) ?_; intro u4 W4 HA4 hc4 ho4))
          obtain ⟨ys, hys⟩ : ∃ l, l = [] ++ es.take (k + 1) ++ es.drop (k) := ⟨_, rfl⟩
          rw [← hys] at HA4
          have bW4 : Below W2.heap.size W2 W4 := (bD2.trans (hc3.below (by simp) (fun i hi => own_lit _ hi))).trans (hc4.below (by have := hc3.size; simp at this; omega) (fun i hi => own_from ho3 own_lit (show W2.heap.size ≤ (W2.alloc (.cells #[] 45)).drew.heap.size by simp) _ hi))
          have hzW4 := bW4.size
          have HY := Lib.hid hys
          have HA2 := HA2.below bW4
          obtain ⟨D1, d1, rfl, J1⟩ := AppP.row HA2
          obtain ⟨D2, d2, rfl, J2⟩ := AppP.row HA4
          have bb := Lib.hid (bthen b3.out (bthen bW2 bW4))
          clear hys hc3 hc4 ho3 ho4 HA3 L2 bD2 hR3 hR4 HA2 HA4 bW2 bW4 s1 s2 s3
          go_wp2_with fail
          refine (LogValid_any xs D1 d1 _ _ J1).mono ?_
          rintro e w5 ⟨rfl, hb5⟩
          rw [HX.out, List.nil_append, logB_part HV.out k]
          have J2 := J2.below hb5
          go_wp2_with fail
          refine (LogValid_any ys D2 d2 _ _ J2).mono ?_
          rintro e w6 ⟨rfl, hb6⟩
          rw [HY.out, List.nil_append, logB_dup k hkl]
          go_wp2
          go_ret
          exact ⟨rfl, bthen (bthen bb.out hb5) hb6⟩
    · go_enter Try.func3, Try.ntmps3
      go_wp2
      go_ret
      exact ⟨rfl, Below.refl _ _⟩
  · go_enter Try.func3, Try.ntmps3
    go_wp2
    go_ret
    exact ⟨rfl, Below.refl _ _⟩
end Go.Proofs.Ytneblddbahancaa
