/- Unpacking: the program. -/
import Derived.Test.YtgnjnpfeofhniaaDoorPb
import Derived.Test.YtgnjnpfeofhniaaDoorB1
import Derived.Test.YtgnjnpfeofhniaaDoorP9
namespace Go.Proofs.YtgnjnpfeofhniaaDoor
set_option linter.unusedVariables false
set_option linter.unusedSimpArgs false
open Go.RowKit

theorem drop_at {l : List Int} {i : Nat} (h : i < l.length) : l.drop i = l[i] :: l.drop (i + 1) := List.drop_eq_getElem_cons h
def upOut (l : List Int) : List Int := (unp l []).getD []
theorem add_suc (ad : Addr) (k : Nat) : ad.add (k + 1) = ⟨ad.block, ad.off + (k + 1), none⟩ := by simp [Addr.add]
/-- An own row's cells, as the walk spells them. -/
theorem App.int_at {e : TypeId} {w : World} {P : Nat → Prop} {A : Option Addr} {n c : Nat} {xs : List Int} (h : AppP (Kind.int .i64) e w P (.slice A n c) xs) {j : Nat} (hj : j < xs.length) : ∃ ad, A = some ad ∧ w.cell? (ad.add j) = some (.int .i64 xs[j]) := by
  obtain ⟨A', c', e, h'⟩ := h.row
  injection e with e1 e2 e3
  subst e1 e3
  obtain ⟨ad, e, _, q⟩ := h'.int_at hj
  exact ⟨ad, e, q⟩
set_option maxRecDepth 20000 in
set_option maxHeartbeats 8000000 in
theorem UnpackBytes_any (l : List Int) (A : Option Addr) (c : Nat) (F : Nat → Prop) (w : World) (h : Ints w F A c l) (hb : bytesB l = true) (hn : l.length ≤ 4194304) :
    Calls Tryd.prog 43 #[.slice A l.length c] w fun e w' => ∃ v, e = .returned (.tuple #[v, .bool (unp l []).isSome]) ∧ App (Kind.int .i64) 3 w' w.heap.size v (upOut l) ∧ Below w.heap.size w w' := by
  have hl := h.1
  have hc := h.2.1
  have hbd := h.bound (bnd_int .i64)
  have HBY := Lib.hid hb
  clear hb
  go_enter Tryd.func43, Tryd.ntmps43
  go_wp2_with fail
  refine (allBytes_any l A c _ _ h).mono ?_
  rintro e w' ⟨rfl, rfl⟩
  rw [HBY.out]
  go_wp2_with fail
  generalize hW : World.alloc _ _ = W3
  obtain ⟨hA3, b3, hz3⟩ := alloc1 hW
  clear hW
  have HX3h := Lib.hid (show App (Kind.int .i64) 3 W3 w.heap.size (.slice (some ⟨w.heap.size, 0, none⟩) 0 0) [] from appP_lit hA3 (Nat.le_refl _))
  have HB3 := Lib.hid b3
  clear hA3 hz3 b3
  go_loopw [4, 5] (fun v i wr => ∃ (k : Nat) (o : List Int), k ≤ l.length ∧ i = .int .i64 k ∧ App (Kind.int .i64) 3 wr w.heap.size v o ∧ o.length ≤ 200 ∧ Hid (unp (l.drop k) o = unp l []) ∧ Hid (Below w.heap.size w wr)) (fun _ i _ => l.length - (intOf i).toNat)
  case atStart => exact ⟨0, [], Nat.zero_le _, rfl, HX3h.out, by simp, Lib.hid rfl, HB3⟩
  case round =>
    obtain ⟨k, o, hk, rfl, HX, ho, HU, HB⟩ := hrel
    clear HX3h HB3
    obtain ⟨Ao, co, rfl, hlo, hco⟩ := HX.slice_
    have hsz := HB.out.size
    by_cases hlt : k < l.length
    · obtain ⟨ad, rfl, _, q0⟩ := (hbd.below HB.out).int_at hlt
      have hby := byte_at HBY.out hlt
      have HD := Lib.hid (drop_at hlt)
      obtain ⟨n, hn0⟩ := Int.eq_ofNat_of_zero_le hby.1
      rw [hn0] at q0 hby HD
      have hn255 : n ≤ 255 := by omega
      have HU1 := HU.out
      rw [HD.out] at HU1
      have HU := Lib.hid HU1
      have htl : (l.drop (k + 1)).length = l.length - (k + 1) := List.length_drop
      have HXh := Lib.hid HX
      clear hn0 HX HU1
      by_cases h64 : n < 64
      · by_cases hsh : l.length < k + 1 + (n + 1)
        · have HNO := Lib.hid (show unp l [] = none by rw [← HU.out]; exact unp_short (by omega) (by rw [htl]; simp; omega))
          have H0 := Lib.hid (AppP.nil (Kind.int .i64) 3 wr (fun b => w.heap.size ≤ b))
          have hs2 : (l.length : Int) - ((k : Int) + 1) < (n : Int) + 1 := by omega
          clear htl hby hsz
          go_wp2
          go_ret2
          refine ⟨.slice none 0 0, ?_, ?_, HB.out⟩
          · rw [HNO.out]; rfl
          · unfold upOut; rw [HNO.out]; exact H0.out
        · obtain ⟨ys, hys⟩ : ∃ ys, ys = (l.drop (k + 1)).take (n + 1) := ⟨_, rfl⟩
          have hyl : ys.length = n + 1 := by rw [hys, List.length_take, htl]; omega
          have hrow := ((hbd.below HB.out).cut (k + 1) (by omega)).take (n + 1)
          rw [← hys] at hrow
          have hs1 : ∀ W : World, (Instr.slice 32 (.slice (some ad) l.length c) (some (.int .i64 ((k : Int) + 1))) (some (.int .i64 ((k : Int) + 1 + (n : Int) + 1))) none).run Tryd.prog W = .ok (.slice (cutAddr (some ad) (k + 1) c 1) ys.length (c - (k + 1))) W := fun W => by
            rw [hyl]
            have := run_between Tryd.underlying32 info_intP (some ad) l.length c (k + 1) (k + 1 + (n + 1)) ((k : Int) + 1) ((k : Int) + 1 + (n : Int) + 1) (by simp) (by simp; omega) (by omega) (by omega) W
            rw [show k + 1 + (n + 1) - (k + 1) = n + 1 by omega] at this
            exact this
          have HEQ := Lib.hid (show unp ((n : Int) :: l.drop (k + 1)) o = if o.length + (n + 1) ≤ 200 then unp (l.drop (k + 1 + (n + 1))) (o ++ ys) else none by
            split
            · rename_i h200
              rw [unp_plain (by omega) (by rw [htl]; simp; omega) (by simpa using h200), List.drop_drop]
              simp [hys]
            · rename_i h200
              exact unp_over (by omega) (by rw [htl]; simp; omega) (by simp; omega))
          have HYL := Lib.hid hyl
          have hyl2 : ys.length ≤ 64 := by omega
          have hns : ¬ ((l.length : Int) - ((k : Int) + 1) < (n : Int) + 1) := by omega
          have hlk : (l.length : Int) ≤ 4194304 := by omega
          have HSZ := Lib.hid hsz
          clear htl hys hyl hsz
          go_wp2_with (at_builtin; go_loud (refine wpList_appF (Kind.int .i64) HXh.out rfl _ _ 32 (.int .i64 0) 8 rfl Tryd.underlying32 (by kernel_rfl) rfl (bnd_int .i64) (onec_int .i64) (flat_int .i64) rfl rfl rfl hrow (fun x hx => by have := HSZ.out; omega) (by omega) (by omega) ?_))
          intro v1 w1 HX1 hc1 _
          have HB1 := Lib.hid (HB.out.trans (hc1.below HSZ.out (fun x hx => AppP.ne HXh.out hx)))
          have hol : (o ++ ys).length = o.length + ys.length := List.length_append
          obtain ⟨o2, ho2⟩ : ∃ o2, o2 = o ++ ys := ⟨_, rfl⟩
          rw [← ho2] at HX1 hol
          obtain ⟨A1, c1, rfl, _, _⟩ := HX1.slice_
          have HX2 := Lib.hid HX1
          have HO2 := Lib.hid ho2
          have hyl := HYL.out
          have hk3 : k + 1 + (n + 1) ≤ l.length := by omega
          by_cases h200 : o.length + (n + 1) ≤ 200
          · have HE := Lib.hid (show unp (l.drop (k + 1 + (n + 1))) o2 = unp l [] by rw [← HU.out, HEQ.out, if_pos h200, HO2.out])
            have hle : o2.length ≤ 200 := by omega
            clear hc1 HX1 ho2 hol hyl hs1 hrow
            go_wp2
            go_roundw
            case rel => exact ⟨k + 1 + (n + 1), o2, hk3, by go_num, HX2.out, hle, HE, HB1⟩
            case measure => simp [intOf]; omega
          · have HNO := Lib.hid (show unp l [] = none by rw [← HU.out, HEQ.out, if_neg h200])
            have H0 := Lib.hid (AppP.nil (Kind.int .i64) 3 w1 (fun b => w.heap.size ≤ b))
            have hgt : 200 < o2.length := by omega
            clear hc1 HX1 ho2 hol hyl hs1 hrow h200
            go_wp2
            go_ret2
            refine ⟨.slice none 0 0, ?_, ?_, HB1.out⟩
            · rw [HNO.out]; rfl
            · unfold upOut; rw [HNO.out]; exact H0.out
      · by_cases h128 : n < 128
        · by_cases hend : l.length ≤ k + 1
          · have HNO := Lib.hid (show unp l [] = none by rw [← HU.out, List.drop_of_length_le hend]; exact unp_alone (by omega))
            have H0 := Lib.hid (AppP.nil (Kind.int .i64) 3 wr (fun b => w.heap.size ≤ b))
            clear htl hby hsz
            go_wp2
            go_ret2
            refine ⟨.slice none 0 0, ?_, ?_, HB.out⟩
            · rw [HNO.out]; rfl
            · unfold upOut; rw [HNO.out]; exact H0.out
          · have hlt1 : k + 1 < l.length := by omega
            obtain ⟨_, ea, _, q1⟩ := (hbd.below HB.out).int_at hlt1
            injection ea with ea
            subst ea
            have hby1 := byte_at HBY.out hlt1
            have HD1 := Lib.hid (drop_at hlt1)
            obtain ⟨m, hm0⟩ := Int.eq_ofNat_of_zero_le hby1.1
            rw [hm0] at q1 hby1 HD1
            rw [add_suc ad k] at q1
            have hm255 : m ≤ 255 := by omega
            have HU1 := HU.out
            rw [HD1.out] at HU1
            have HU2 := Lib.hid HU1
            clear hm0 HU1 HU HD HD1 hend
            by_cases hm1 : m < 1
            · have HNO := Lib.hid (show unp l [] = none by rw [← HU2.out]; exact unp_far (by omega) (.inl (by omega)))
              have d1 : decide ((m : Int) < 1) = true := by simp; omega
              have H0 := Lib.hid (AppP.nil (Kind.int .i64) 3 wr (fun b => w.heap.size ≤ b))
              clear htl hby hsz
              go_wp2
              go_ret2
              refine ⟨.slice none 0 0, ?_, ?_, HB.out⟩
              · rw [HNO.out]; rfl
              · unfold upOut; rw [HNO.out]; exact H0.out
            · by_cases hmo : o.length < m
              · have HNO := Lib.hid (show unp l [] = none by rw [← HU2.out]; exact unp_far (by omega) (.inr (by omega)))
                have d1 : decide ((m : Int) < 1) = false := by simp; omega
                have d2 : decide ((o.length : Int) < (m : Int)) = true := by simp; omega
                have H0 := Lib.hid (AppP.nil (Kind.int .i64) 3 wr (fun b => w.heap.size ≤ b))
                clear htl hby hsz
                go_wp2
                go_ret2
                refine ⟨.slice none 0 0, ?_, ?_, HB.out⟩
                · rw [HNO.out]; rfl
                · unfold upOut; rw [HNO.out]; exact H0.out
              · have HCP := Lib.hid (show unp l [] = if o.length + (n - 61) ≤ 200 then unp (l.drop (k + 1 + 1)) (copyN (n - 61) m o) else none by
                  rw [← HU2.out]
                  have e1 : ((n : Int) - 61).toNat = n - 61 := by omega
                  split
                  · rename_i h200
                    rw [unp_copy (by omega) (by omega) (by omega) (by rw [e1]; exact h200), e1]; simp
                  · rename_i h200
                    exact unp_copy_over (by omega) (by omega) (by omega) (by rw [e1]; omega))
                have HSZ := Lib.hid hsz
                obtain ⟨wo, rfl⟩ : ∃ wo : World, wo = wr := ⟨_, rfl⟩
                have hn64 : 64 ≤ n := by omega
                have hbdo := hbd.below HB.out
                have d1 : decide ((m : Int) < 1) = false := by simp; omega
                have d2 : decide ((o.length : Int) < (m : Int)) = false := by simp; omega
                have d3 : decide ((n : Int) < 128) = true := by simp; omega
                clear htl hby hby1 hsz HU2
                go_wp2_with fail
                go_loopw [4, 68] (fun v i wi => ∃ (j : Nat) (oj : List Int), j ≤ n - 61 ∧ i = .int .i64 j ∧ App (Kind.int .i64) 3 wi w.heap.size v oj ∧ Hid (oj = copyN j m o) ∧ Hid (Below w.heap.size w wi)) (fun _ i _ => (n - 61) - (intOf i).toNat)
                case atStart => exact ⟨0, o, Nat.zero_le _, rfl, HXh.out, Lib.hid rfl, HB⟩
                case round =>
                  obtain ⟨j, oj, hj, rfl, HXj, HOJ, HBj⟩ := hrel
                  obtain ⟨Aj, cj, rfl, hlj, hcj⟩ := HXj.slice_
                  have hoj : oj.length = o.length + j := by rw [HOJ.out, copyN_len]
                  have hj1 : oj.length ≤ 300 := by omega
                  have HSJ := Lib.hid HBj.out.size
                  by_cases hjl : j < n - 61
                  · have hjm : m ≤ oj.length := by omega
                    obtain ⟨r, hr⟩ : ∃ r : Nat, r = oj.length - m := ⟨_, rfl⟩
                    have hrl : r < oj.length := by omega
                    have hri : (oj.length : Int) - (m : Int) = (r : Int) := by omega
                    obtain ⟨aj, rfl, qj⟩ := App.int_at HXj hrl
                    obtain ⟨x, hx⟩ : ∃ x, x = oj[r] := ⟨_, rfl⟩
                    rw [← hx] at qj
                    have HNX := Lib.hid (show oj ++ [x] = copyN (j + 1) m o by
                      rw [copyN_succ, ← HOJ.out, ← hr, getD_at hrl, hx])
                    have HXjh := Lib.hid HXj
                    clear hx hr HXj hoj
                    go_wp2_with (at_builtin; go_loud (refine wpList_appP (Kind.int .i64) HXjh.out rfl _ _ 32 (.int .i64 0) 8 rfl Tryd.underlying32 (by kernel_rfl) rfl (by decide) x [.int .i64 x] (fun _ => False) rfl rfl rfl (fun _ h => h.elim) (by simp [Value.oneCell']) (fun b hb => by have := HSJ.out; omega) (by omega) (by omega) ?_))
                    intro v1 w1 HX1 hc1
                    have HB1 := Lib.hid (HBj.out.trans (hc1.below HSJ.out (fun x hx => AppP.ne HXjh.out hx)))
                    have HX2 := Lib.hid HX1
                    clear HX1 hc1 qj hri
                    go_wp2
                    go_roundw
                    case rel => exact ⟨j + 1, oj ++ [x], by omega, by go_num, HX2.out, HNX, HB1⟩
                    case measure => simp [intOf]; omega
                  · have hjn : j = n - 61 := by omega
                    have HXjh := Lib.hid HXj
                    by_cases h200 : o.length + (n - 61) ≤ 200
                    · have HE := Lib.hid (show unp (l.drop (k + 1 + 1)) oj = unp l [] by rw [HCP.out, if_pos h200, HOJ.out, hjn])
                      have hle : oj.length ≤ 200 := by omega
                      clear hoj hjn HXj
                      go_wp2
                      go_roundw
                      case rel => exact ⟨k + 1 + 1, oj, by omega, by go_num, HXjh.out, hle, HE, HBj⟩
                      case measure => simp [intOf]; omega
                    · have HNO := Lib.hid (show unp l [] = none by rw [HCP.out, if_neg h200])
                      have H0 := Lib.hid (AppP.nil (Kind.int .i64) 3 wr (fun b => w.heap.size ≤ b))
                      have hgt : 200 < oj.length := by omega
                      clear hoj hjn HXj h200
                      go_wp2
                      go_ret2
                      refine ⟨.slice none 0 0, ?_, ?_, HBj.out⟩
                      · rw [HNO.out]; rfl
                      · unfold upOut; rw [HNO.out]; exact H0.out
        · have HNO := Lib.hid (show unp l [] = none by rw [← HU.out]; exact unp_great (by omega))
          have H0 := Lib.hid (AppP.nil (Kind.int .i64) 3 wr (fun b => w.heap.size ≤ b))
          clear htl hby hsz
          go_wp2
          go_ret2
          refine ⟨.slice none 0 0, ?_, ?_, HB.out⟩
          · rw [HNO.out]; rfl
          · unfold upOut; rw [HNO.out]; exact H0.out
    · have hk2 : k = l.length := by omega
      subst hk2
      have HNO := Lib.hid (show unp l [] = some o by rw [← HU.out, List.drop_length]; rfl)
      have HXh := Lib.hid HX
      clear HX
      go_wp2
      go_ret2
      refine ⟨.slice Ao o.length co, ?_, ?_, HB.out⟩
      · rw [HNO.out]; rfl
      · unfold upOut; rw [HNO.out]; exact HXh.out
end Go.Proofs.YtgnjnpfeofhniaaDoor
