/- The law FnReadRecordsOn. -/
import Derived.Test.YtneblddbahancaaLRr
namespace Go.Proofs.Ytneblddbahancaa
set_option linter.unusedVariables false
set_option linter.unusedSimpArgs false
open Go.RowKit

theorem recsOn_mem {bs : List Bat} {o : Int} {r : Rec} (h : r ∈ recsOn bs o) : r ∈ allRecs bs := by
  obtain ⟨b, hb, hr⟩ := List.mem_flatMap.1 (List.mem_filter.1 h).1
  exact List.mem_flatMap.2 ⟨b, (List.mem_filter.1 hb).1, hr⟩

set_option maxRecDepth 100000 in
set_option maxHeartbeats 1000000 in
theorem readOnLaw_walk (b0 : List Int) (A : Option Addr) (c : Nat) (b1' : List Int) (A' : Option Addr) (c' : Nat) (w : World) (h : Kind.byte.Row w (fun _ => True) A c b0) (h' : Kind.byte.Row w (fun _ => True) A' c' b1') :
    Calls Try.prog 17 #[.slice A b0.length c, .slice A' b1'.length c'] w fun e w' => e = .returned (.bool true) ∧ Below w.heap.size w w' := by
  have hl := h.1
  have hc := h.2.1
  have hl' := h'.1
  have hc' := h'.2.1
  by_cases hs : b0.length ≤ 1048576
  · by_cases hs' : b1'.length ≤ 1048576
    · go_enter Try.func17, Try.ntmps17
      go_wp2_with fail
      refine (DrawReadRecords_any b0 A c _ _ h).mono ?_
      rintro e w1 ⟨bs, B, d, o, m, rfl, ho0, ho1, hm0, hm1, hD⟩
      have hB := hD.row
      have hb1 := hD.below
      have hok := recs_ok hD.len hD.ok
      clear hD
      go_wp2_with fail
      refine (ReadRecords_any bs B d _ o m _ hB).mono ?_
      rintro e w2 ⟨v, B2, rfl, hX2, hb2⟩
      have HON := Lib.hid (fun k => @readRecords_on bs o m k)
      have HLE := Lib.hid (readRecords_len bs o m)
      obtain ⟨rs, hrs⟩ : ∃ rs, rs = readRecords bs o m := ⟨_, rfl⟩
      rw [← hrs] at hX2 HON HLE
      have HRS := Lib.hid hrs
      clear hrs
      obtain ⟨A2, c2, rfl, hR2⟩ := hX2.recs
      have hB2 := hB.below hb2
      have b2 := bthen hb1 hb2
      clear hX2 hb1 hb2 hB
      go_wp2_with fail
      refine (ReadRecordsS_any bs B d _ o m _ hB2).mono ?_
      rintro e w3 ⟨v3, B3, rfl, hX3, hb3⟩
      rw [← HRS.out] at hX3
      obtain ⟨A3, c3, rfl, hR3⟩ := hX3.recs
      have hR23 := hR2.below hb3
      have b3 := bthen b2 hb3
      have hB3 := hB2.below hb3
      have hrl := hR23.1
      have hrc := hR23.2.1
      clear hX3 hR2 hb3 hB2 b2
      go_wp2_with fail
      refine (sameRecords_any rs rs A2 A3 c2 c3 _ _ _ hR23 hR3).mono ?_
      rintro e w4 ⟨rfl, hb4⟩
      rw [show decide (rs = rs) = true by simp]
      have hR4 := hR23.below hb4
      have hR34 := hR3.below hb4
      have b4 := Lib.hid (bthen b3 hb4)
      have hB4 := hB3.below hb4
      clear b3 hb4 hR3 hR23 hB3
      by_cases hz : rs.length = 0
      · have d1 : ((rs.length : Int) == 0) = true := by simp [hz]
        clear hz HON HLE
        go_wp2_with fail
        refine (sameRecords_any rs rs A2 A3 c2 c3 _ _ _ hR4 hR34).mono ?_
        rintro e w5 ⟨rfl, hb5⟩
        rw [show decide (rs = rs) = true by simp]
        go_wp2
        go_ret
        exact ⟨rfl, bthen b4.out hb5⟩
      · have d1 : ((rs.length : Int) == 0) = false := by simpa using hz
        go_wp2_with fail
        obtain ⟨k, hk⟩ : ∃ k, k = b1'.length % rs.length := ⟨_, rfl⟩
        have hkl : k < rs.length := by rw [hk]; exact Nat.mod_lt _ (by omega)
        have hw : wrap64 (1 + (b1'.length : Int) % (rs.length : Int)) = ((k + 1 : Nat) : Int) := by
          rw [show (b1'.length : Int) % (rs.length : Int) = (k : Int) by rw [hk]; exact (Int.natCast_emod _ _).symm]
          unfold wrap64
          omega
        rw [hw]
        clear hw hk
        have hkm : ((k + 1 : Nat) : Int) ≤ m := by have := HLE.out; omega
        have hon := HON.out (k + 1) (by omega) (by omega)
        refine (ReadRecords_any bs B d _ o ((k + 1 : Nat) : Int) _ hB4).mono ?_
        rintro e w5 ⟨va, Ba, rfl, hXa, hb5⟩
        have HRB := Lib.hid (fun r (hr : r ∈ readRecords bs o ((k + 1 : Nat) : Int)) => allRecs_recB (readRecords_mem hr).1 r (recsOn_mem (readRecords_mem hr).2.2))
        obtain ⟨us, has⟩ : ∃ us, us = readRecords bs o ((k + 1 : Nat) : Int) := ⟨_, rfl⟩
        rw [← has] at hXa hon HRB
        clear has
        obtain ⟨-, hal, hcat⟩ := hon
        obtain ⟨Aa, ca, rfl, hRa⟩ := hXa.recs
        have hka : k < us.length := by omega
        obtain ⟨ad, C1, d1, C2, d2, rfl, _, _, _, q0, q1, q2, q3, q4, q5⟩ := hRa.rec_at hka
        have hcat := hcat us[k] (by rw [show k + 1 - 1 = k by omega]; exact List.getElem?_eq_getElem hka)
        have hB5 := hB4.below hb5
        have hR5 := (hR4.bound bnd_rec).below hb5
        have HAL := Lib.hid hal
        have b5 := Lib.hid (bthen b4.out hb5)
        have hoff := recB_bounds (HRB.out _ (List.getElem_mem hka))
        have hge := hXa.ge
        have hsz5 : ∀ g, (Value.slice (some ad) us.length ca).ownBlock = some g → g < w5.heap.size ∧ w4.heap.size ≤ g := fun g hg => by have := (hge g hg).2; have := (hge g hg).1; have := hXa.1; omega
        have HP := Lib.hid (AppP.mono (P' := fun _ => True) hXa.toP (fun _ _ _ => trivial))
        have hucl := hRa.1
        have hucc := hRa.2.1
        clear hXa hge hb5 hR4 hB4
        rw [hal] at hucl
        rw [hal]
        have HCAT := Lib.hid hcat
        have HRA := Lib.hid hRa
        have HLE2 := HLE
        clear hal hcat hRa HON HLE HRB
        go_wp2_with fail
        refine (ReadRecords_any bs B d _ _ _ _ hB5).mono ?_
        rintro e w6 ⟨vb, Bb, rfl, hXb, hb6⟩
        have hcc := HCAT.out
        rw [show (m - ((k + 1 : Nat) : Int)) = m - ((k : Int) + 1) by omega] at hcc
        obtain ⟨vs, hvs⟩ : ∃ vs, vs = readRecords bs (us[k].off + 1) (m - ((k : Int) + 1)) := ⟨_, rfl⟩
        rw [← hvs] at hXb hcc
        clear hvs
        have hlv : us.length + vs.length = rs.length := by rw [← hcc, List.length_append]
        obtain ⟨Ab, cb, rfl, hRb⟩ := hXb.toP.row
        have HP6 := HP.out.below hb6
        have hsz6 := hb6.size
        have hR6 := hR5.below hb6
        have b6 := Lib.hid (bthen b5.out hb6)
        have HCC := Lib.hid hcc
        have hr12 : rs.length ≤ 12 := by have := HLE2.out; omega
        have hvl : vs.length ≤ 12 := by omega
        have hk12 : k + 1 + vs.length ≤ 12 := by have := HAL.out; omega
        clear hXb hcc hb6 hR5 hB5 hlv HCAT
        go_wp2_with (at_builtin; go_loud (refine wpList_appN Kind.rec_ HP6 rfl _ _ 34 (.agg #[.int .i64 0, .int .i64 0, .bool false, .slice none 0 0, .bool false, .slice none 0 0]) 80 rfl Try.underlying34 (by kernel_rfl) rfl bnd_rec onec_rec (A := Ab) (c := cb) (by rw [HAL.out]; rfl) rfl rfl hRb (fun b' hlt hb => ⟨trivial, fun e => by have := hsz5 _ e; omega⟩) (fun b' hb => trivial) (by have := HAL.out; omega) (by have := HAL.out; omega) ?_))
        intro v7 w7 HA7 hc7 ho7
        rw [HCC.out] at HA7
        obtain ⟨A7, c7, rfl, hR7⟩ := AppP.row HA7
        have hR67 := hR6.keep (hc7.same (fun i _ h1 h2 => by have := hsz5 _ h2; have := h1.2; omega))
        have hsz0 := b4.out.size
        have b7 := Lib.hid (b6.out.trans (hc7.below b6.out.size (fun i hi => by have := hsz5 _ hi; omega)))
        clear hR6 HP6 hc7 ho7 HA7 hsz5
        go_wp2_with fail
        refine (sameRecords_any rs rs A7 A2 c7 c2 _ _ _ hR7 hR67).mono ?_
        rintro e w8 ⟨rfl, hb8⟩
        rw [show decide (rs = rs) = true by simp]
        go_wp2
        go_ret
        exact ⟨rfl, bthen b7.out hb8⟩
    · go_enter Try.func17, Try.ntmps17
      go_wp2
      go_ret
      exact ⟨rfl, Below.refl _ _⟩
  · go_enter Try.func17, Try.ntmps17
    go_wp2
    go_ret
    exact ⟨rfl, Below.refl _ _⟩
end Go.Proofs.Ytneblddbahancaa
