/- Numbers out of bytes: the reference. Unpacking: the reference. Records out of bytes, so many: the reference. -/
import Derived.Test.YtomcjjehfocbmaaSc
import Derived.Test.YtomcjjehfocbmaaPb
import Derived.Test.YtomcjjehfocbmaaS2
import Derived.Test.YtomcjjehfocbmaaUp
import Derived.Test.YtomcjjehfocbmaaW11
import Derived.Test.YtomcjjehfocbmaaPj
import Derived.Test.YtomcjjehfocbmaaAx
namespace Go.Proofs.Ytomcjjehfocbmaa
set_option linter.unusedVariables false
set_option linter.unusedSimpArgs false
section
open Go.RowKit

set_option maxRecDepth 20000 in
set_option maxHeartbeats 1000000 in
theorem l2From2_any (l : List Int) (A : Option Addr) (c : Nat) (F : Nat → Prop) (i : Nat) (I : Int) (w : World) (h : Ints w F A c l) (hb : bytesB l = true) (hn : l.length ≤ 4194304) (hi : i + 2 ≤ l.length) (hI : I = (i : Int)) :
    Calls Try.prog 63 #[.slice A l.length c, .int .i64 I, .int .i64 2] w fun e w' => e = .returned (.int .i64 (num2 l i)) ∧ w = w' := by
  subst hI
  have hl := h.1
  have hc := h.2.1
  obtain ⟨ad, rfl, _, q0⟩ := h.int_at (show i < l.length by omega)
  obtain ⟨_, ea, _, q1⟩ := h.int_at (show i + 1 < l.length by omega)
  injection ea with ea
  subst ea
  have b0 := byte_at hb (show i < l.length by omega)
  obtain ⟨x0, hx0⟩ : ∃ x, x = l[i] := ⟨_, rfl⟩
  rw [← hx0] at q0 b0
  have b1 := byte_at hb (show i + 1 < l.length by omega)
  obtain ⟨x1, hx1⟩ : ∃ x, x = l[i + 1] := ⟨_, rfl⟩
  rw [← hx1] at q1 b1
  have HN := Lib.hid (show num2 l i = 256 * x0 + x1 by unfold num2; rw [getD_at (show i < l.length by omega), getD_at (show i + 1 < l.length by omega), ← hx0, ← hx1])
  rw [show ad.add (i + 1) = ⟨ad.block, ad.off + (i + 1), none⟩ by simp [Addr.add]] at q1
  clear hx0 hx1
  go_enter Try.func63, Try.ntmps63
  go_wp2_with fail
  refine wp_loop_rounds 3 ?_
  rw [rounds_succ]
  go_wp2
  rw [rounds_succ]
  go_wp2
  rw [rounds_succ]
  go_wp2
  go_ret
  exact ⟨ret_int (by have := HN.out; omega), rfl⟩
set_option maxRecDepth 20000 in
set_option maxHeartbeats 1000000 in
theorem l2From3_any (l : List Int) (A : Option Addr) (c : Nat) (F : Nat → Prop) (i : Nat) (I : Int) (w : World) (h : Ints w F A c l) (hb : bytesB l = true) (hn : l.length ≤ 4194304) (hi : i + 3 ≤ l.length) (hI : I = (i : Int)) :
    Calls Try.prog 63 #[.slice A l.length c, .int .i64 I, .int .i64 3] w fun e w' => e = .returned (.int .i64 (num3 l i)) ∧ w = w' := by
  subst hI
  have hl := h.1
  have hc := h.2.1
  obtain ⟨ad, rfl, _, q0⟩ := h.int_at (show i < l.length by omega)
  obtain ⟨_, ea, _, q1⟩ := h.int_at (show i + 1 < l.length by omega)
  injection ea with ea
  subst ea
  obtain ⟨_, ea, _, q2⟩ := h.int_at (show i + 2 < l.length by omega)
  injection ea with ea
  subst ea
  have b0 := byte_at hb (show i < l.length by omega)
  obtain ⟨x0, hx0⟩ : ∃ x, x = l[i] := ⟨_, rfl⟩
  rw [← hx0] at q0 b0
  have b1 := byte_at hb (show i + 1 < l.length by omega)
  obtain ⟨x1, hx1⟩ : ∃ x, x = l[i + 1] := ⟨_, rfl⟩
  rw [← hx1] at q1 b1
  have b2 := byte_at hb (show i + 2 < l.length by omega)
  obtain ⟨x2, hx2⟩ : ∃ x, x = l[i + 2] := ⟨_, rfl⟩
  rw [← hx2] at q2 b2
  have HN := Lib.hid (show num3 l i = 256 * (256 * x0 + x1) + x2 by unfold num3; rw [getD_at (show i < l.length by omega), getD_at (show i + 1 < l.length by omega), getD_at (show i + 2 < l.length by omega), ← hx0, ← hx1, ← hx2]; omega)
  rw [show ad.add (i + 1) = ⟨ad.block, ad.off + (i + 1), none⟩ by simp [Addr.add]] at q1
  rw [show ad.add (i + 2) = ⟨ad.block, ad.off + (i + 1 + 1), none⟩ by simp [Addr.add]] at q2
  clear hx0 hx1 hx2
  go_enter Try.func63, Try.ntmps63
  go_wp2_with fail
  refine wp_loop_rounds 4 ?_
  rw [rounds_succ]
  go_wp2
  rw [rounds_succ]
  go_wp2
  rw [rounds_succ]
  go_wp2
  rw [rounds_succ]
  go_wp2
  go_ret
  exact ⟨ret_int (by have := HN.out; omega), rfl⟩
end

section
open Go.RowKit

set_option maxRecDepth 20000 in
set_option maxHeartbeats 8000000 in
theorem l4Unpack_any (l : List Int) (A : Option Addr) (c : Nat) (F : Nat → Prop) (w : World) (h : Ints w F A c l) (hb : bytesB l = true) (hn : l.length ≤ 4194304) :
    Calls Try.prog 93 #[.slice A l.length c] w fun e w' => ∃ v, e = .returned (.tuple #[v, .bool (unp l []).isSome]) ∧ App (Kind.int .i64) 3 w' w.heap.size v (upOut l) ∧ Below w.heap.size w w' := by
  have hl := h.1
  have hc := h.2.1
  have hbd := h.bound (bnd_int .i64)
  have HBY := Lib.hid hb
  clear hb
  go_enter Try.func93, Try.ntmps93
  go_wp2_with fail
  generalize hW : World.alloc _ _ = W3
  obtain ⟨hA3, b3, hz3⟩ := alloc1 hW
  clear hW
  have HX3h := Lib.hid (show App (Kind.int .i64) 3 W3 w.heap.size (.slice (some ⟨w.heap.size, 0, none⟩) 0 0) [] from appP_lit hA3 (Nat.le_refl _))
  have HB3 := Lib.hid b3
  clear hA3 hz3 b3
  go_loopw [4, 5] (fun v i wr => ∃ (k : Nat) (o : List Int), k ≤ l.length ∧ i = .int .i64 k ∧ App (Kind.int .i64) 3 wr w.heap.size v o ∧ o.length ≤ 200 ∧ Hid (unp (l.drop k) o = unp l []) ∧ Hid (Below w.heap.size w wr)) (fun _ i _ => l.length - (intOf i).toNat)
  case atStart => exact ⟨0, [], Nat.zero_le _, rfl, HX3h.out, by simp, Lib.hid rfl, HB3⟩
  case round =>
    obtain ⟨k, o, hk, rfl, HX, ho, HU, HB⟩ := hrel
    clear HX3h HB3
    obtain ⟨Ao, co, rfl, hlo, hco⟩ := HX.slice_
    have hsz := HB.out.size
    by_cases hlt : k < l.length
    · obtain ⟨ad, rfl, _, q0⟩ := (hbd.below HB.out).int_at hlt
      have hby := byte_at HBY.out hlt
      have HD := Lib.hid (drop_at hlt)
      obtain ⟨n, hn0⟩ := Int.eq_ofNat_of_zero_le hby.1
      have HN0 := Lib.hid hn0
      rw [hn0] at q0 hby HD
      have hn255 : n ≤ 255 := by omega
      have HU1 := HU.out
      rw [HD.out] at HU1
      have HU := Lib.hid HU1
      have htl : (l.drop (k + 1)).length = l.length - (k + 1) := List.length_drop
      have HXh := Lib.hid HX
      have H0 := Lib.hid (App.lit (Kind.int .i64) 3 wr w.heap.size hsz)
      have HBB := Lib.hid (bthen HB.out (bal wr (.cells #[] 3)))
      clear hn0 HX HU1
      by_cases h64 : n < 64
      · by_cases hsh : l.length < k + 1 + (n + 1)
        · have HNO := Lib.hid (show unp l [] = none by rw [← HU.out]; exact unp_short (by omega) (by rw [htl]; simp; omega))
          have hs2 : (l.length : Int) ≤ (k : Int) + ((n : Int) + 1) := by omega
          clear htl hby hsz
          go_wp2
          go_ret2
          refine ⟨.slice (some ⟨wr.heap.size, 0, none⟩) 0 0, ?_, ?_, HBB.out⟩
          · rw [HNO.out]; rfl
          · unfold upOut; rw [HNO.out]; exact H0.out
        · obtain ⟨ys, hys⟩ : ∃ ys, ys = (l.drop (k + 1)).take (n + 1) := ⟨_, rfl⟩
          have hyl : ys.length = n + 1 := by rw [hys, List.length_take, htl]; omega
          have hrow := ((hbd.below HB.out).cut (k + 1) (by omega)).take (n + 1)
          rw [← hys] at hrow
          have hs1 : ∀ W : World, (Instr.slice 22 (.slice (some ad) l.length c) (some (.int .i64 ((k : Int) + 1))) (some (.int .i64 ((k : Int) + 1 + ((n : Int) + 1)))) none).run Try.prog W = .ok (.slice (cutAddr (some ad) (k + 1) c 1) ys.length (c - (k + 1))) W := fun W => by
            rw [hyl]
            have := run_between Try.underlying22 info_intP (some ad) l.length c (k + 1) (k + 1 + (n + 1)) ((k : Int) + 1) ((k : Int) + 1 + ((n : Int) + 1)) (by simp) (by omega) (by omega) (by omega) W
            rw [show k + 1 + (n + 1) - (k + 1) = n + 1 by omega] at this
            exact this
          have HEQ := Lib.hid (show unp ((n : Int) :: l.drop (k + 1)) o = if o.length + (n + 1) ≤ 200 then unp (l.drop (k + 1 + (n + 1))) (o ++ ys) else none by
            split
            · rename_i h200
              rw [unp_plain (by omega) (by rw [htl]; simp; omega) (by simpa using h200), List.drop_drop]
              simp [hys]
            · rename_i h200
              exact unp_over (by omega) (by rw [htl]; simp; omega) (by simp; omega))
          have HYL := Lib.hid hyl
          have hyl2 : ys.length ≤ 64 := by omega
          have hns : ¬ ((l.length : Int) ≤ (k : Int) + ((n : Int) + 1)) := by omega
          have hlk : (l.length : Int) ≤ 4194304 := by omega
          have HSZ := Lib.hid hsz
          clear htl hys hyl hsz
          go_wp2_with (at_builtin; go_loud (refine wpList_appF (Kind.int .i64) HXh.out rfl _ _ 22 (.int .i64 0) 8 rfl Try.underlying22 (by kernel_rfl) rfl (bnd_int .i64) (onec_int .i64) (flat_int .i64) rfl rfl rfl hrow (fun x hx => by have := HSZ.out; omega) (by omega) (by omega) ?_))
          intro v1 w1 HX1 hc1 _
          have HB1 := Lib.hid (HB.out.trans (hc1.below HSZ.out (fun x hx => AppP.ne HXh.out hx)))
          have hol : (o ++ ys).length = o.length + ys.length := List.length_append
          obtain ⟨o2, ho2⟩ : ∃ o2, o2 = o ++ ys := ⟨_, rfl⟩
          rw [← ho2] at HX1 hol
          obtain ⟨A1, c1, rfl, _, _⟩ := HX1.slice_
          have HX2 := Lib.hid HX1
          have HO2 := Lib.hid ho2
          have hyl := HYL.out
          have hk3 : k + 1 + (n + 1) ≤ l.length := by omega
          by_cases h200 : o.length + (n + 1) ≤ 200
          · have HE := Lib.hid (show unp (l.drop (k + 1 + (n + 1))) o2 = unp l [] by rw [← HU.out, HEQ.out, if_pos h200, HO2.out])
            have hle : o2.length ≤ 200 := by omega
            clear hc1 HX1 ho2 hol hyl hs1 hrow
            go_wp2
            go_roundw
            case rel => exact ⟨k + 1 + (n + 1), o2, hk3, by go_num, HX2.out, hle, HE, HB1⟩
            case measure => simp [intOf]; omega
          · have HNO := Lib.hid (show unp l [] = none by rw [← HU.out, HEQ.out, if_neg h200])
            have H01 := Lib.hid (App.lit (Kind.int .i64) 3 w1 w.heap.size HB1.out.size)
            have HBB1 := Lib.hid (bthen HB1.out (bal w1 (.cells #[] 3)))
            have hgt : 200 < o2.length := by omega
            clear hc1 HX1 ho2 hol hyl hs1 hrow h200
            go_wp2
            go_ret2
            refine ⟨.slice (some ⟨w1.heap.size, 0, none⟩) 0 0, ?_, ?_, HBB1.out⟩
            · rw [HNO.out]; rfl
            · unfold upOut; rw [HNO.out]; exact H01.out
      · have d64 : decide ((n : Int) < 64) = false := by simp; omega
        by_cases h128 : n < 128
        · have d3 : decide ((n : Int) < 128) = true := by simp; omega
          by_cases hend : l.length ≤ k + 1
          · have HNO := Lib.hid (show unp l [] = none by rw [← HU.out, List.drop_of_length_le hend]; exact unp_alone (by omega))
            have d4 : decide ((k : Int) + 1 < (l.length : Int)) = false := by simp; omega
            clear htl hby hsz
            go_wp2
            go_ret2
            refine ⟨.slice (some ⟨wr.heap.size, 0, none⟩) 0 0, ?_, ?_, HBB.out⟩
            · rw [HNO.out]; rfl
            · unfold upOut; rw [HNO.out]; exact H0.out
          · have hlt1 : k + 1 < l.length := by omega
            have d4 : decide ((k : Int) + 1 < (l.length : Int)) = true := by simp; omega
            obtain ⟨_, ea, _, q1⟩ := (hbd.below HB.out).int_at hlt1
            injection ea with ea
            subst ea
            have hby1 := byte_at HBY.out hlt1
            have HD1 := Lib.hid (drop_at hlt1)
            obtain ⟨m, hm0⟩ := Int.eq_ofNat_of_zero_le hby1.1
            have HM0 := Lib.hid hm0
            rw [hm0] at q1 hby1 HD1
            rw [add_suc ad k] at q1
            have hm255 : m ≤ 255 := by omega
            have HU1 := HU.out
            rw [HD1.out] at HU1
            have HU2 := Lib.hid HU1
            clear hm0 HU1 HU HD HD1 hend
            by_cases hmm : m < 1 ∨ o.length < m
            · have HNO := Lib.hid (show unp l [] = none by rw [← HU2.out]; exact unp_far (by omega) (by omega))
              have HIN := Lib.hid (show inB (m : Int) 1 (o.length : Int) = false by
                unfold inB
                rcases hmm with h | h
                · simp; omega
                · simp; omega)
              clear htl hby hsz hmm
              go_wp2_with fail
              refine (l6In_any _ _ _ _).mono ?_
              rintro e w' ⟨rfl, rfl⟩
              rw [HIN.out]
              go_wp2
              go_ret2
              refine ⟨.slice (some ⟨wr.heap.size, 0, none⟩) 0 0, ?_, ?_, HBB.out⟩
              · rw [HNO.out]; rfl
              · unfold upOut; rw [HNO.out]; exact H0.out
            · have HIN := Lib.hid (show inB (m : Int) 1 (o.length : Int) = true by unfold inB; simp; omega)
              have hm1 : 1 ≤ m := by omega
              have hmo : m ≤ o.length := by omega
              have HCP := Lib.hid (show unp l [] = if o.length + (n - 61) ≤ 200 then unp (l.drop (k + 1 + 1)) (copyN (n - 61) m o) else none by
                rw [← HU2.out]
                have e1 : ((n : Int) - 61).toNat = n - 61 := by omega
                split
                · rename_i h200
                  rw [unp_copy (by omega) (by omega) (by omega) (by rw [e1]; exact h200), e1]; simp
                · rename_i h200
                  exact unp_copy_over (by omega) (by omega) (by omega) (by rw [e1]; omega))
              have HSZ := Lib.hid hsz
              obtain ⟨wo, rfl⟩ : ∃ wo : World, wo = wr := ⟨_, rfl⟩
              have hn64 : 64 ≤ n := by omega
              clear htl hby hby1 hsz HU2 hmm
              go_wp2_with fail
              refine (l6In_any _ _ _ _).mono ?_
              rintro e w' ⟨rfl, rfl⟩
              rw [HIN.out]
              go_wp2_with fail
              go_loopw [4, 7] (fun v i wi => ∃ (j : Nat) (oj : List Int), j ≤ n - 61 ∧ i = .int .i64 j ∧ App (Kind.int .i64) 3 wi w.heap.size v oj ∧ Hid (oj = copyN j m o) ∧ Hid (Below w.heap.size w wi)) (fun _ i _ => (n - 61) - (intOf i).toNat)
              case atStart => exact ⟨0, o, Nat.zero_le _, rfl, HXh.out, Lib.hid rfl, HB⟩
              case round =>
                obtain ⟨j, oj, hj, rfl, HXj, HOJ, HBj⟩ := hrel
                obtain ⟨Aj, cj, rfl, hlj, hcj⟩ := HXj.slice_
                have hoj : oj.length = o.length + j := by rw [HOJ.out, copyN_len]
                have hj1 : oj.length ≤ 300 := by omega
                have HSJ := Lib.hid HBj.out.size
                clear q0 q1
                obtain ⟨_, ea, _, q0⟩ := (hbd.below HBj.out).int_at hlt
                injection ea with ea
                subst ea
                obtain ⟨_, ea, _, q1⟩ := (hbd.below HBj.out).int_at hlt1
                injection ea with ea
                subst ea
                rw [HN0.out] at q0
                rw [HM0.out, add_suc ad k] at q1
                by_cases hjl : j < n - 61
                · have hjm : m ≤ oj.length := by omega
                  obtain ⟨r, hr⟩ : ∃ r : Nat, r = oj.length - m := ⟨_, rfl⟩
                  have hrl : r < oj.length := by omega
                  have hri : (oj.length : Int) - (m : Int) = (r : Int) := by omega
                  obtain ⟨aj, rfl, qj⟩ := App.int_at HXj hrl
                  obtain ⟨x, hx⟩ : ∃ x, x = oj[r] := ⟨_, rfl⟩
                  rw [← hx] at qj
                  have HNX := Lib.hid (show oj ++ [x] = copyN (j + 1) m o by
                    rw [copyN_succ, ← HOJ.out, ← hr, getD_at hrl, hx])
                  have HXjh := Lib.hid HXj
                  clear hx hr HXj hoj
                  go_wp2_with (at_builtin; go_loud (refine wpList_appP (Kind.int .i64) HXjh.out rfl _ _ 22 (.int .i64 0) 8 rfl Try.underlying22 (by kernel_rfl) rfl (by decide) x [.int .i64 x] (fun _ => False) rfl rfl rfl (fun _ h => h.elim) (by simp [Value.oneCell']) (fun b hb => by have := HSJ.out; omega) (by omega) (by omega) ?_))
                  intro v1 w1 HX1 hc1
                  have HB1 := Lib.hid (HBj.out.trans (hc1.below HSJ.out (fun x hx => AppP.ne HXjh.out hx)))
                  have HX2 := Lib.hid HX1
                  clear HX1 hc1 qj hri
                  go_wp2
                  go_roundw
                  case rel => exact ⟨j + 1, oj ++ [x], by omega, by go_num, HX2.out, HNX, HB1⟩
                  case measure => simp [intOf]; omega
                · have hjn : j = n - 61 := by omega
                  have HXjh := Lib.hid HXj
                  by_cases h200 : o.length + (n - 61) ≤ 200
                  · have HE := Lib.hid (show unp (l.drop (k + 1 + 1)) oj = unp l [] by rw [HCP.out, if_pos h200, HOJ.out, hjn])
                    have hle : oj.length ≤ 200 := by omega
                    clear hoj hjn HXj
                    go_wp2
                    go_roundw
                    case rel => exact ⟨k + 1 + 1, oj, by omega, by go_num, HXjh.out, hle, HE, HBj⟩
                    case measure => simp [intOf]; omega
                  · have HNO := Lib.hid (show unp l [] = none by rw [HCP.out, if_neg h200])
                    have H01 := Lib.hid (App.lit (Kind.int .i64) 3 wr w.heap.size HBj.out.size)
                    have HBB1 := Lib.hid (bthen HBj.out (bal wr (.cells #[] 3)))
                    have hgt : 200 < oj.length := by omega
                    clear hoj hjn HXj h200
                    go_wp2
                    go_ret2
                    refine ⟨.slice (some ⟨wr.heap.size, 0, none⟩) 0 0, ?_, ?_, HBB1.out⟩
                    · rw [HNO.out]; rfl
                    · unfold upOut; rw [HNO.out]; exact H01.out
        · have HNO := Lib.hid (show unp l [] = none by rw [← HU.out]; exact unp_great (by omega))
          have d3 : decide ((n : Int) < 128) = false := by simp; omega
          clear htl hby hsz
          go_wp2
          go_ret2
          refine ⟨.slice (some ⟨wr.heap.size, 0, none⟩) 0 0, ?_, ?_, HBB.out⟩
          · rw [HNO.out]; rfl
          · unfold upOut; rw [HNO.out]; exact H0.out
    · have hk2 : k = l.length := by omega
      subst hk2
      have HNO := Lib.hid (show unp l [] = some o by rw [← HU.out, List.drop_length]; rfl)
      have HXh := Lib.hid HX
      clear HX
      go_wp2
      go_ret2
      refine ⟨.slice Ao o.length co, ?_, ?_, HB.out⟩
      · rw [HNO.out]; rfl
      · unfold upOut; rw [HNO.out]; exact HXh.out
end

section
open Go.RowKit

theorem l3From_nat (l : List Int) (A : Option Addr) (c : Nat) (F : Nat → Prop) (e : Nat) (o t : Int) (w : World) (h : Ints w F A c l) (hb : bytesB l = true) (hn : l.length ≤ 4194304) (ho : 0 ≤ o ∧ o ≤ 16777215) (ht : 0 ≤ t ∧ t ≤ 16777215) (he : e ≤ l.length) :
    Calls Try.prog 114 #[.slice A l.length c, .int .i64 (e : Int), .int .i64 o, .int .i64 t] w fun ee w' =>
      ∃ vk vv, ee = .returned (.tuple #[.agg ((recQ (rdAt l (e : Int) o t)).vals vk vv), .int .i64 (nextOf (rdAt l (e : Int) o t) : Nat), .bool (rdAt l (e : Int) o t).isSome]) ∧ Copied w w' (recQ (rdAt l (e : Int) o t)) vk vv :=
  l3From_gen l A c F (e : Int) o t (rdV l e) w h hb hn ho ht (fun U hU => l1From_any l A c F e U (h.below hU) hb (by omega)) (fun q => by unfold rdAt; rw [if_neg (by omega)]; exact rdRec_first q) (fun x hx => ⟨e, rfl, he, hx⟩) nx_le
theorem rdAtS_nat (l : List Int) (e : Nat) (o t : Int) : rdAt l (e : Int) o t = rdRec l e o t := by unfold rdAt; rw [if_neg (by omega)]; rfl
theorem l3From_none (l : List Int) (A : Option Addr) (c : Nat) (F : Nat → Prop) (e : Nat) (o t : Int) (w : World) (h : Ints w F A c l) (hb : bytesB l = true) (hn : l.length ≤ 4194304) (ho : 0 ≤ o ∧ o ≤ 16777215) (ht : 0 ≤ t ∧ t ≤ 16777215) (he : e ≤ l.length) (hq : rdRec l e o t = none) :
    Calls Try.prog 114 #[.slice A l.length c, .int .i64 (e : Int), .int .i64 o, .int .i64 t] w fun ee w' =>
      ∃ Ak ck Av cv, ee = .returned (.tuple #[.agg #[.int .i64 0, .int .i64 0, .bool false, .slice Ak 0 ck, .bool false, .slice Av 0 cv], .int .i64 0, .bool false]) ∧ Below w.heap.size w w' :=
  (l3From_nat l A c F e o t w h hb hn ho ht he).mono fun ee w' ⟨vk, vv, h1, hc⟩ => by
    rw [rdAtS_nat, hq] at h1 hc
    obtain ⟨Ak, ck, rfl, _⟩ := AppP.row hc.key
    obtain ⟨Av, cv, rfl, _⟩ := AppP.row hc.val
    exact ⟨Ak, ck, Av, cv, h1, hc.below⟩
theorem l3From_some (l : List Int) (A : Option Addr) (c : Nat) (F : Nat → Prop) (e : Nat) (o t : Int) (w : World) (h : Ints w F A c l) (hb : bytesB l = true) (hn : l.length ≤ 4194304) (ho : 0 ≤ o ∧ o ≤ 16777215) (ht : 0 ≤ t ∧ t ≤ 16777215) (he : e ≤ l.length) {r : Rec} {e2 : Nat} (hq : rdRec l e o t = some (r, e2)) :
    Calls Try.prog 114 #[.slice A l.length c, .int .i64 (e : Int), .int .i64 o, .int .i64 t] w fun ee w' =>
      ∃ Ak ck Av cv, ee = .returned (.tuple #[.agg #[.int .i64 r.off, .int .i64 r.time, .bool r.hk, .slice Ak r.key.length ck, .bool r.hv, .slice Av r.val.length cv], .int .i64 (e2 : Int), .bool true]) ∧ Copied w w' r (.slice Ak r.key.length ck) (.slice Av r.val.length cv) :=
  (l3From_nat l A c F e o t w h hb hn ho ht he).mono fun ee w' ⟨vk, vv, h1, hc⟩ => by
    rw [rdAtS_nat, hq] at h1 hc
    obtain ⟨Ak, ck, f1, _⟩ := AppP.row hc.key
    obtain ⟨Av, cv, f2, _⟩ := AppP.row hc.val
    subst f1 f2
    exact ⟨Ak, ck, Av, cv, h1, hc⟩
/-- The records, if they are read to the end. -/
def readOk (rows : List Int) (o t : Int) (nr : Nat) : Option (List Rec) := match rdRows rows o t nr with
  | none => none
  | some (rs, e) => if e = rows.length then some rs else none
def readRecs (rows : List Int) (o t : Int) (nr : Nat) : List Rec := match rdRows rows o t nr with
  | none => []
  | some (rs, _) => rs
set_option maxRecDepth 20000 in
set_option maxHeartbeats 4000000 in
theorem l5Read_any (rows : List Int) (A : Option Addr) (c : Nat) (F : Nat → Prop) (nr : Nat) (o t : Int) (w : World) (h : Ints w F A c rows) (hb : bytesB rows = true) (hn : rows.length ≤ 65535) (hnr : nr ≤ 255) (ho : 0 ≤ o ∧ o ≤ 16777215) (ht : 0 ≤ t ∧ t ≤ 16777215) :
    Calls Try.prog 94 #[.slice A rows.length c, .int .i64 (nr : Int), .int .i64 o, .int .i64 t] w fun e w' =>
      ∃ v B, e = .returned (.tuple #[v, .bool (readOk rows o t nr).isSome]) ∧ AppX RX 85 w' (fun g => w.heap.size ≤ g) B v (readRecs rows o t nr) ∧ Below w.heap.size w w' := by
  have hl := h.1
  have hc := h.2.1
  have hbd := h.bound (bnd_int .i64)
  have HBY := Lib.hid hb
  have HO := Lib.hid ho
  have HT := Lib.hid ht
  clear hb ho ht
  go_enter Try.func94, Try.ntmps94
  go_wp2_with fail
  generalize hW : World.alloc _ _ = W3
  have HX3h : Hid (AppX RX 85 W3 (fun g => w.heap.size ≤ g) (w.heap.size + 1) (.slice (some ⟨w.heap.size, 0, none⟩) 0 0) []) := Lib.hid (by
    rw [← hW]; exact AppX.lit RX 85 w (fun g => w.heap.size ≤ g) (Nat.le_refl _))
  obtain ⟨hA3, b3, hz3⟩ := alloc1 hW
  clear hW
  have HB3 := Lib.hid b3
  have HR0 := Lib.hid (show rdRows rows o t 0 = some ([], 0) from rfl)
  clear hA3 hz3 b3
  go_loopw [10, 11, 12] (fun v pl i wr => ∃ (k e : Nat) (rs : List Rec), k ≤ nr ∧ i = .int .i64 k ∧ pl = .int .i64 e ∧ Hid (rdRows rows o t k = some (rs, e)) ∧ (∃ B, AppX RX 85 wr (fun g => w.heap.size ≤ g) B v rs) ∧ Hid (Below w.heap.size w wr)) (fun _ _ i _ => nr - (intOf i).toNat)
  case atStart => exact ⟨0, 0, [], Nat.zero_le _, rfl, rfl, HR0, ⟨_, HX3h.out⟩, HB3⟩
  case round =>
    obtain ⟨k, e, rs, hk, rfl, rfl, HRS, ⟨B, HX⟩, HB⟩ := hrel
    clear HX3h HB3 HR0
    obtain ⟨Av, cv, rfl, hlv, hcv⟩ := HX.toP.slice_
    have hel := (rdRows_ok HBY.out HRS.out).2
    have hrsl : rs.length = k := rdRows_len HRS.out
    have hrl2 : rs.length ≤ 255 := by omega
    have hsz := HB.out.size
    have hge := HX.ge
    have HXB := Lib.hid HX.1
    have HXh := Lib.hid HX
    have hrw := hbd.below HB.out
    clear HX hrsl
    by_cases hkn : k < nr
    · cases hq : rdRec rows e o t with
      | none =>
        have HN := Lib.hid (show rdRows rows o t nr = none from rdRows_later (rdRows_stop HRS.out hq) (by omega))
        have HQ := Lib.hid hq
        clear hq
        go_wp2_with fail
        refine (l3From_none rows A c _ e o t _ hrw HBY.out (by omega) HO.out HT.out hel HQ.out).mono ?_
        rintro ee w6 ⟨Ak, ck, Av2, cv2, rfl, hb6⟩
        have hz6 := hb6.size
        have b7 := bal w6 (.cells #[.int .i64 0, .int .i64 0, .bool false, .slice Ak 0 ck, .bool false, .slice Av2 0 cv2] 85)
        have hz7 : w.heap.size ≤ (w6.alloc (.cells #[.int .i64 0, .int .i64 0, .bool false, .slice Ak 0 ck, .bool false, .slice Av2 0 cv2] 85)).heap.size := by simp; omega
        have hX0 := AppX.lit RX 85 (w6.alloc (.cells #[.int .i64 0, .int .i64 0, .bool false, .slice Ak 0 ck, .bool false, .slice Av2 0 cv2] 85)) (fun g => w.heap.size ≤ g) hz7
        have HB7 := Lib.hid (bthen (bthen (bthen HB.out hb6) b7) (bal _ (.cells #[] 85)))
        have hE : (w6.alloc (.cells #[.int .i64 0, .int .i64 0, .bool false, .slice Ak 0 ck, .bool false, .slice Av2 0 cv2] 85)).heap.size = w6.heap.size + 1 := by simp
        have hE0 : readRecs rows o t nr = [] := by unfold readRecs; rw [HN.out]
        rw [hE, ← hE0] at hX0
        have H0 := Lib.hid hX0
        clear hb6 b7 hz7 hX0 hE hE0
        go_wp2
        go_ret2
        refine ⟨_, _, ?_, H0.out, HB7.out⟩
        unfold readOk; rw [HN.out]; rfl
      | some x =>
        obtain ⟨r, e2⟩ := x
        have HQ := Lib.hid hq
        have HRN := Lib.hid (rdRows_step HRS.out hq)
        clear hq
        go_wp2_with fail
        refine (l3From_some rows A c _ e o t _ hrw HBY.out (by omega) HO.out HT.out hel HQ.out).mono ?_
        rintro ee w6 ⟨Ak, ck, Av2, cv2, rfl, hCp⟩
        have hb6 := hCp.below
        have b7 := bthen hb6 (bal w6 (.cells #[.int .i64 r.off, .int .i64 r.time, .bool r.hk, .slice Ak r.key.length ck, .bool r.hv, .slice Av2 r.val.length cv2] 85))
        have HX7 := Lib.hid (HXh.out.below b7)
        have XK7 := Lib.hid (XKind.below hCp.x (bal w6 (.cells #[.int .i64 r.off, .int .i64 r.time, .bool r.hk, .slice Ak r.key.length ck, .bool r.hv, .slice Av2 r.val.length cv2] 85)))
        have hz7 : (w6.alloc (.cells #[.int .i64 r.off, .int .i64 r.time, .bool r.hk, .slice Ak r.key.length ck, .bool r.hv, .slice Av2 r.val.length cv2] 85)).heap.size = w6.heap.size + 1 := by simp
        have hz6 := Lib.hid (show wr.heap.size ≤ w6.heap.size from hb6.size)
        have HB7 := Lib.hid (bthen HB.out b7)
        clear hb6 b7 hCp hrw
        go_wp2_with (at_builtin; go_loud (refine wpList_appX RX HX7.out rfl _ _ 25 (.agg #[.int .i64 0, .int .i64 0, .bool false, .slice none 0 0, .bool false, .slice none 0 0]) 80 rfl Try.underlying25 (by kernel_rfl) rfl (by decide) r _ _ rfl (by rw [hz7]; rfl) XK7.out (fun b hb => ⟨by have := hb.1; omega, by have := hb.1; have := HXB.out; omega⟩) (by simp [Value.oneCell']) (fun b hb => by have := hz6.out; simp at hb; omega) (by omega) (by omega) ?_))
        intro v1 w8 HA8 hc8 _
        obtain ⟨rs2, hrs2⟩ : ∃ x, x = rs ++ [r] := ⟨_, rfl⟩
        have hrn := HRN.out
        rw [← hrs2] at HA8 hrn
        have HRN2 := Lib.hid hrn
        have HA9 := Lib.hid HA8
        have HB8 := Lib.hid (HB7.out.trans (hc8.below HB7.out.size (fun i hi => (hge i hi).1)))
        clear hrs2 hrn HRN HA8 hc8 HX7 XK7
        go_wp2
        go_roundw
        case rel => exact ⟨k + 1, e2, rs2, by omega, by go_num, rfl, HRN2, ⟨_, HA9.out⟩, HB8⟩
        case measure => simp [intOf]; omega
    · have hkn2 : k = nr := by omega
      have hrs := HRS.out
      rw [hkn2] at hrs
      have HRS2 := Lib.hid hrs
      have hE0 : readRecs rows o t nr = rs := by unfold readRecs; rw [hrs]
      have hX0 := HXh.out
      conv at hX0 => arg 7; rw [← hE0]
      have H0 := Lib.hid hX0
      clear hrs hE0 hX0
      by_cases he : e = rows.length
      · have t1 : ((e : Int) == (rows.length : Int)) = true := by simp [he]
        have HE := Lib.hid he
        clear he
        go_wp2
        go_ret2
        refine ⟨_, _, ?_, H0.out, HB.out⟩
        unfold readOk; rw [HRS2.out]; dsimp only; rw [if_pos HE.out]; rfl
      · have t1 : ((e : Int) == (rows.length : Int)) = false := by simp; omega
        have HE := Lib.hid he
        clear he
        go_wp2
        go_ret2
        refine ⟨_, _, ?_, H0.out, HB.out⟩
        unfold readOk; rw [HRS2.out]; dsimp only; rw [if_neg HE.out]; rfl
end
end Go.Proofs.Ytomcjjehfocbmaa
