/- The law FnTimesFirst. -/
import Derived.Test.YtneblddbahancaaR5
import Derived.Test.YtneblddbahancaaS7
import Derived.Test.YtneblddbahancaaE3
import Derived.Test.YtneblddbahancaaDw
import Derived.Test.YtneblddbahancaaS4
import Derived.Test.YtneblddbahancaaR1
import Derived.Test.YtneblddbahancaaT2
namespace Go.Proofs.Ytneblddbahancaa
set_option linter.unusedVariables false
set_option linter.unusedSimpArgs false
open Go.RowKit

set_option maxRecDepth 100000 in
set_option maxHeartbeats 2000000 in
theorem timesFirstLaw_walk (b0 : List Int) (A : Option Addr) (c : Nat) (b1' : List Int) (A' : Option Addr) (c' : Nat) (w : World) (h : Kind.byte.Row w (fun _ => True) A c b0) (h' : Kind.byte.Row w (fun _ => True) A' c' b1') :
    Calls Try.prog 10 #[.slice A b0.length c, .slice A' b1'.length c'] w fun e w' => e = .returned (.bool true) ∧ Below w.heap.size w w' := by
  have hl := h.1
  have hc := h.2.1
  have hl' := h'.1
  have hc' := h'.2.1
  by_cases hs : b0.length ≤ 1048576
  · by_cases hs' : b1'.length ≤ 1048576
    · go_enter Try.func10, Try.ntmps10
      go_wp2_with fail
      refine (DrawTimesOf_any b0 A c _ _ h).mono ?_
      rintro e w1 ⟨bs, B, d, rfl, hD⟩
      have hB := hD.row
      have hb1 := hD.below
      have hl9 := hD.len
      clear hD
      go_wp2_with fail
      refine (TimesOf_any bs B d _ _ hB).mono ?_
      rintro e w2 ⟨v, rfl, hX2, hb2⟩
      obtain ⟨ts, hts⟩ : ∃ ts, ts = timesOf bs := ⟨_, rfl⟩
      rw [← hts] at hX2
      have HTS := Lib.hid hts
      clear hts
      obtain ⟨A2, c2, rfl, hR2⟩ := AppP.row hX2
      have hR2 := hR2.mono (F' := fun _ => True) (fun _ _ => trivial)
      have hB2 := hB.below hb2
      have b2 := bthen hb1 hb2
      clear hX2 hb1 hb2 hB
      go_wp2_with fail
      refine (TimesOfS_any bs B d _ _ hB2).mono ?_
      rintro e w3 ⟨v3, rfl, hX3, hb3⟩
      rw [← HTS.out] at hX3
      obtain ⟨A3, c3, rfl, hR3⟩ := AppP.row hX3
      have hR3 := hR3.mono (F' := fun _ => True) (fun _ _ => trivial)
      have hR23 := hR2.below hb3
      have hB3 := hB2.below hb3
      have b3 := bthen b2 hb3
      clear hX3 hR2 hb3 hB2 b2
      go_wp2_with fail
      refine (sameInts_any ts ts A2 A3 c2 c3 _ _ _ hR23 hR3).mono ?_
      rintro e w4 ⟨rfl, hb4⟩
      rw [show decide (ts = ts) = true by simp]
      have hR4 := hR23.below hb4
      have hR34 := hR3.below hb4
      have hB4 := hB3.below hb4
      have b4 := Lib.hid (bthen b3 hb4)
      clear b3 hb4 hR3 hR23 hB3
      go_wp2_with fail
      refine (LogValidS_any bs B d _ _ hB4).mono ?_
      rintro e w5 ⟨rfl, hb5⟩
      have hR5 := hR4.below hb5
      have hR35 := hR34.below hb5
      have hB5 := hB4.below hb5
      have b5 := Lib.hid (bthen b4.out hb5)
      clear hb5 b4 hR4 hR34 hB4
      cases hv : logB bs
      · go_wp2_with fail
        refine (sameInts_any ts ts A2 A3 c2 c3 _ _ _ hR5 hR35).mono ?_
        rintro e w6 ⟨rfl, hb6⟩
        rw [show decide (ts = ts) = true by simp]
        go_wp2
        go_ret
        exact ⟨rfl, bthen b5.out hb6⟩
      · have HTK := Lib.hid (fun k (hk : k ≤ bs.length) => timesOf_take hv k hk)
        have HLEN := Lib.hid (show ts.length = bs.length by rw [HTS.out]; unfold timesOf; rw [hv, if_pos rfl, timesUp_len])
        have hbl := hB5.1
        have hbc := hB5.2.1
        clear hv
        have hbn : bs.length ≤ 9 := hl9
        have hbd5 : bs.length ≤ d := hB5.1
        obtain ⟨k, hk⟩ : ∃ k, k = b1'.length % (bs.length + 1) := ⟨_, rfl⟩
        have hkl : k ≤ bs.length := by have := Nat.mod_lt b1'.length (show 0 < bs.length + 1 by omega); omega
        go_wp2_with fail
        rw [show ((b1'.length : Int) % ((bs.length : Int) + 1)) = ((k : Nat) : Int) by rw [hk, Int.natCast_emod, Int.natCast_add]; rfl]
        have hus := HTK.out k hkl
        rw [← HTS.out] at hus
        have hul : (ts.take k).length = k := by rw [List.length_take, HLEN.out]; omega
        have hRT := hR5.take k
        obtain ⟨us, hu⟩ : ∃ us, us = ts.take k := ⟨_, rfl⟩
        rw [← hu] at hus hul hRT
        have hkl2 : k ≤ c2 := by have := hR5.1; have := HLEN.out; omega
        have hcall : ∀ W, Below w5.heap.size w5 W → Calls Try.prog 44 #[.slice B k d] W fun e w' => ∃ Ax cx, e = .returned (.slice Ax k cx) ∧ Ints w' (fun _ => True) Ax cx us ∧ Below W.heap.size W w' := by
          intro W hW
          have := TimesOf_any (bs.take k) B d _ W ((hB5.take k).below hW)
          rw [List.length_take, Nat.min_eq_left hkl, hus] at this
          refine this.mono ?_
          rintro e w' ⟨v, rfl, h1, h2⟩
          obtain ⟨Ax, cx, rfl, h3⟩ := AppP.row h1
          rw [hul]
          exact ⟨Ax, cx, rfl, h3.mono (fun _ _ => trivial), h2⟩
        have hsame : ∀ W Ax cx, Below w5.heap.size w5 W → Ints W (fun _ => True) Ax cx us → Calls Try.prog 46 #[.slice Ax k cx, .slice A2 k c2] W fun e w' => e = .returned (.bool true) ∧ Below W.heap.size W w' := by
          intro W Ax cx hW hx
          have := sameInts_any us us Ax A2 cx c2 _ _ W hx (hRT.below hW)
          rw [hul, show decide (us = us) = true by simp] at this
          exact this
        have s1 : ∀ W : World, (Instr.slice 23 (.slice B bs.length d) none (some (.int .i64 (k : Int))) none).run Try.prog W = .ok (.slice B k d) W :=
          run_cuth Try.underlying23 info_bat _ _ _ _ _ rfl (by omega)
        have s2 : ∀ W : World, (Instr.slice 36 (.slice A2 ts.length c2) none (some (.int .i64 (k : Int))) none).run Try.prog W = .ok (.slice A2 k c2) W :=
          run_cuth (s := 1) (b := 8) (z := .int .i64 0) Try.underlying36 (by kernel_rfl) _ _ _ _ _ rfl hkl2
        have bD : Below w5.heap.size w5 w5.drew := ⟨rfl, rfl, rfl, Nat.le_refl _, fun _ _ => rfl⟩
        clear hk hus hul hRT hu HTK hB5 hR5 hR35
        go_region_with (first | (go_at_call 44; go_loud (refine (hcall _ bD).mono ?_; rintro e w6 ⟨Ax, cx, rfl, hx, hb6⟩)) | (go_at_call 46; go_loud (refine (hsame _ _ _ (bthen bD hb6) hx).mono ?_; rintro e w7 ⟨rfl, hb7⟩)))
        all_goals
          have bb := Lib.hid (bthen b5.out (bthen (bthen bD hb6) hb7))
          clear hx hb6 hb7 hcall hsame
          go_wp2
          go_ret
          exact ⟨rfl, bb.out⟩
    · go_enter Try.func10, Try.ntmps10
      go_wp2
      go_ret
      exact ⟨rfl, Below.refl _ _⟩
  · go_enter Try.func10, Try.ntmps10
    go_wp2
    go_ret
    exact ⟨rfl, Below.refl _ _⟩
end Go.Proofs.Ytneblddbahancaa
