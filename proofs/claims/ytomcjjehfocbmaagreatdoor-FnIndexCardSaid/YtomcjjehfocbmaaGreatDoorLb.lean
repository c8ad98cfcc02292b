/- Segments as bytes: the program, the reference. -/
import Derived.Test.YtomcjjehfocbmaaGreatDoorPb
import Derived.Test.YtomcjjehfocbmaaGreatDoorBb
import Derived.Test.YtomcjjehfocbmaaGreatDoorBv
import Derived.Test.YtomcjjehfocbmaaGreatDoorB3
import Derived.Test.YtomcjjehfocbmaaGreatDoorS2
namespace Go.Proofs.YtomcjjehfocbmaaGreatDoor
set_option linter.unusedVariables false
set_option linter.unusedSimpArgs false
open Go.RowKit

set_option maxRecDepth 20000 in
set_option maxHeartbeats 2000000 in
theorem LogBytes_any (bs : List Bat) (A : Option Addr) (c : Nat) (F : Nat → Prop) (w : World) (h : Bats w F A c bs) :
    Calls Tryz.prog 8 #[.slice A bs.length c] w fun e w' => ∃ v, e = .returned (.tuple #[v, .bool (logB bs)]) ∧ App (Kind.int .i64) 3 w' w.heap.size v (logOut bs) ∧ Below w.heap.size w w' := by
  have hl := h.1
  have hc := h.2.1
  have hbd := h.bound bnd_bat
  cases hv : logB bs
  · rw [logOut_no hv]
    have HV := Lib.hid hv
    clear hv
    go_enter Tryz.func8, Tryz.ntmps8
    go_wp2_with fail
    refine (LogValid_any bs A c _ _ h).mono ?_
    rintro e w2 ⟨rfl, hb2⟩
    rw [HV.out]
    have HB := Lib.hid hb2
    clear hb2
    go_wp2
    go_ret2
    exact ⟨_, rfl, AppP.nil _ _ _ _, HB.out⟩
  · rw [logOut_yes hv]
    have HV := Lib.hid hv
    have HALL := Lib.hid (logB_all hv).2
    have HN := Lib.hid (logB_all hv).1
    clear hv
    go_enter Tryz.func8, Tryz.ntmps8
    go_wp2_with fail
    refine (LogValid_any bs A c _ _ h).mono ?_
    rintro e w2 ⟨rfl, hb2⟩
    rw [HV.out]
    have h2 := hbd.below hb2
    have HB2 := Lib.hid hb2
    have hS2 := Lib.hid hb2.size
    clear hb2
    go_wp2_with fail
    generalize hW : World.alloc _ _ = W3
    obtain ⟨hA3, b3, hz3⟩ := alloc1 hW
    clear hW
    have HX3 : App (Kind.int .i64) 3 W3 w.heap.size (.slice (some ⟨w2.heap.size, 0, none⟩) 0 0) [] := appP_lit hA3 (by have := hS2.out; omega)
    have HX3h := Lib.hid HX3
    have HB3 := Lib.hid (bthen HB2.out b3)
    clear HX3 hA3 hz3 b3
    go_loopw [4, 13] (fun v i wr => ∃ k : Nat, k ≤ bs.length ∧ i = .int .i64 k ∧ App (Kind.int .i64) 3 wr w.heap.size v (logCat (bs.take k)) ∧ Hid (Below w.heap.size w wr)) (fun _ i _ => bs.length - (intOf i).toNat)
    case atStart => exact ⟨0, Nat.zero_le _, rfl, HX3h.out, HB3⟩
    case round =>
      obtain ⟨k, hk, rfl, HX, HB⟩ := hrel
      clear HX3h HB3 HB2 h2
      obtain ⟨Ao, co, rfl, _, _⟩ := HX.slice_
      by_cases hlt : k < bs.length
      · obtain ⟨ad2, C1, d1, rfl, _, hi1, q0, q1, q2, q3, q4, q5⟩ := (hbd.below HB.out).bat_at hlt
        have hbk := HALL.out _ (List.getElem_mem hlt)
        have HROW := Lib.hid (logCat_take hlt)
        have hyl := batBytes_le hbk
        have hxl := logCat_take_len HV.out k
        obtain ⟨xs, hxx⟩ : ∃ xs, xs = logCat (bs.take k) := ⟨_, rfl⟩
        obtain ⟨ys, hyy⟩ : ∃ ys, ys = batBytes bs[k] := ⟨_, rfl⟩
        rw [← hxx, ← hyy] at HROW
        rw [← hxx] at HX hxl
        rw [← hxx]
        rw [← hyy] at hyl
        have HYY := Lib.hid hyy
        have HXh := Lib.hid HX
        have HWS := Lib.hid HB.out.size
        clear hxx hyy HX
        go_wp2_with fail
        generalize hW : World.alloc _ _ = W
        obtain ⟨_, b1, hzW⟩ := alloc1 hW
        clear hW
        refine (bytesOf_any bs[k] C1 d1 _ _ (hi1.below b1) hbk).mono ?_
        rintro e w4 ⟨v4, rfl, HV4, hb4⟩
        rw [← HYY.out] at HV4
        have b4 := bthen b1 hb4
        obtain ⟨A4, c4, rfl, _, _⟩ := HV4.slice_
        have hrow4 := (AppP.row_of HV4).2.2.2
        have HX4 := AppP.below HXh.out b4
        have HB4 := Lib.hid (bthen HB.out b4)
        have hSw4 : wr.heap.size ≤ W.heap.size := b1.size
        have hSw5 : W.heap.size ≤ w4.heap.size := hb4.size
        have hown := fun x hx => AppP.own_lt HXh.out (k := x) hx
        clear HV4 hb4 HXh b4 b1 q0 q1 q2 q3 q4 q5 hi1
        go_wp2_with (at_builtin; go_loud (refine wpList_appF (Kind.int .i64) HX4 rfl _ _ 30 (.int .i64 0) 8 rfl Tryz.underlying30 (by kernel_rfl) rfl (bnd_int .i64) (onec_int .i64) (flat_int .i64) rfl rfl rfl hrow4 (fun x hx => by have := HWS.out; omega) (by omega) (by omega) ?_))
        intro v5 w5 HX5 hc5 _
        rw [← HROW.out] at HX5
        have HB5 := Lib.hid (HB4.out.trans (hc5.below HB4.out.size (fun x hx => AppP.ne HX4 hx)))
        clear hc5 HX4 hrow4
        go_wp2
        go_roundw
        case rel => exact ⟨k + 1, by omega, by go_num, HX5, HB5⟩
        case measure => simp [intOf]; omega
      · have hk2 : k = bs.length := by omega
        subst hk2
        rw [List.take_length] at HX
        rw [List.take_length]
        have HXh := Lib.hid HX
        clear HX
        go_wp2
        go_ret2
        exact ⟨_, rfl, HXh.out, HB.out⟩

end Go.Proofs.YtomcjjehfocbmaaGreatDoor
