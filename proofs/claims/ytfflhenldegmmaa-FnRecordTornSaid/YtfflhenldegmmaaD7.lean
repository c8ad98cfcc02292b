/- Draws: bytes of a record. -/
import Derived.Test.YtfflhenldegmmaaD6
import Derived.Test.YtfflhenldegmmaaD0
import Derived.Test.YtfflhenldegmmaaMi
import Derived.Test.YtfflhenldegmmaaA3
import Derived.Test.YtfflhenldegmmaaW12
namespace Go.Proofs.Ytfflhenldegmmaa
set_option linter.unusedVariables false
set_option linter.unusedSimpArgs false
open Go.RowKit

theorem recBytes_len {r : Rec} {o t : Int} (h : recB r = true) : (recBytes r o t).length ≤ 39 := by
  have := bodyB_len (o := o) (t := t) h
  have := (varB_len ((bodyB r o t).length : Int)).2
  unfold recBytes
  simp only [List.length_append]
  omega
theorem recBytesOf_len (r : Rec) (o t : Int) : (recBytesOf r o t).length ≤ 39 := by
  unfold recBytesOf
  split
  · rename_i h
    simp at h
    exact recBytes_len h.1
  · simp
theorem info_int1 : (Try.prog.info? 3).map (fun i => (i.zero, i.size, i.bytes)) = some (some (.int .i64 0), 1, 8) := by kernel_rfl

/-- What is drawn: bytes, a place, an offset, a time. -/
def DrawnR (w w' : World) (l : List Int) (A : Option Addr) (c : Nat) : Prop := l.length ≤ 60 ∧ Ints w' (fun b => w.heap.size ≤ b) A c l ∧ Below w.heap.size w w'
set_option maxHeartbeats 4000000 in
theorem DrawRecordFrom_any (bs0 : List Int) (A : Option Addr) (c : Nat) (F : Nat → Prop) (w : World) (h : Kind.byte.Row w F A c bs0) :
    Calls Try.prog 23 #[.slice A bs0.length c] w fun e w' => ∃ (l : List Int) (A' : Option Addr) (c' : Nat) (i o t : Int), e = .returned (.tuple #[.slice A' l.length c', .int .i64 i, .int .i64 o, .int .i64 t]) ∧
      (0 ≤ i ∧ i ≤ 2) ∧ (0 ≤ o ∧ o ≤ 59) ∧ (0 ≤ t ∧ t ≤ 249) ∧ DrawnR w w' l A' c' := by
  go_enter Try.func23, Try.ntmps23
  go_wp2_with fail
  refine (l6Open_any bs0 A c F _ h).mono ?_
  rintro e w1 ⟨g, rfl, hg, hR, hb1⟩
  have r1 : RdN w1 g 0 := ⟨0, Nat.le_refl _, hR⟩
  clear hR
  go_wp2_with fail
  refine (pickN g _ 60 _ r1 (by omega) (by omega) (by omega)).mono ?_
  rintro e w2 ⟨o, rfl, a2, b2, r2, c2⟩
  go_wp2_with fail
  refine (pickN g _ 250 _ r2 (by omega) (by omega) (by omega)).mono ?_
  rintro e w3 ⟨t, rfl, a3, b3, r3, c3⟩
  have hb3 := (hb1.trans (c2.below hb1.size (fun i hi => by omega)))
  have hb3 := hb3.trans (c3.below hb3.size (fun i hi => by omega))
  clear r1 r2 c2 c3 hb1
  go_wp2_with fail
  refine (l91Record_any g _ _ r3 (by omega)).mono ?_
  rintro e w4 ⟨r, Ak, Av, ck, cv, rfl, hlk, hlv, JK, JV, r4, c4⟩
  have hb4 := hb3.trans (c4.below hb3.size (fun i hi => by omega))
  clear c4 r3 hb3
  go_wp2_with fail
  refine (RecordBytesS_any r Ak Av ck cv _ o t _ JK JV).mono ?_
  rintro e w5 ⟨v5, rfl, HB, hb5⟩
  have r5 := r4.below hb5
  have hs4 := hb4.size
  have hgw := r4.lt
  have hb5 := bthen hb4 hb5
  have hyl := recBytesOf_len r o t
  generalize hys : recBytesOf r o t = ys at HB hyl
  cases hok : (recB r && baseB o t)
  · clear r4 JK JV hb4 HB hok
    have HX := Lib.hid (App.ints 3 w5 w.heap.size hb5.size [4, 0, 0, 1, 1] (by decide))
    have HB5 := Lib.hid hb5
    clear hb5
    go_wp2
    obtain ⟨A', c', e', hrow⟩ := AppP.row HX.out
    exact bodyPost_ret (v := .tuple #[.slice (some ⟨w5.heap.size, 0, none⟩) 5 5, .int .i64 0, .int .i64 0, .int .i64 0]) (by simp [results, Try.results23, go_sem]) rfl ⟨[4, 0, 0, 1, 1], some ⟨w5.heap.size, 0, none⟩, 5, 0, 0, 0, rfl, by omega, by omega, by omega, by decide, by injection e' with e1 e2 e3; subst e1 e3; exact hrow, bthen HB5.out (bal _ _)⟩
  · clear r4 JK JV hb4 hok
    obtain ⟨By, cy, rfl, hly, hcy⟩ := HB.slice_
    go_wp2_with fail
    refine (pickN g _ 3 _ r5 (by omega) (by omega) (by omega)).mono ?_
    rintro e w6 ⟨v6, rfl, a6, b6, r6, c6⟩
    have hb6 := hb5.trans (c6.below hb5.size (fun i hi => by omega))
    have HB := AppP.chg HB c6 (fun b _ h1 h2 => by omega)
    obtain ⟨By', cy', e', JB⟩ := HB.row
    obtain ⟨rfl, rfl⟩ : By = By' ∧ cy = cy' := by injection e' with e1 e2 e3; exact ⟨e1, e3⟩
    have hs6 := hb6.size
    have hg6 := r6.lt
    clear c6 r5 hb5 HB e'
    obtain ⟨n, rfl⟩ := Int.eq_ofNat_of_zero_le a6
    have hmk := make_ints 23 3 Try.underlying23 info_int1 n (by omega) n rfl w6
    have HM := App.ints 3 w6 w6.heap.size (Nat.le_refl _) (List.replicate n (0:Int)) (by simp; omega)
    rw [List.length_replicate] at HM
    have hzl : (List.replicate n (0:Int)).length = n := by simp
    generalize hzs : List.replicate n (0:Int) = zs at HM hmk hzl
    have HZL := Lib.hid hzl
    clear hzs hzl
    generalize hW : w6.alloc (.cells (zs.map (Value.int .i64)).toArray 3) = W at HM hmk
    obtain ⟨_, bW, hsW⟩ := alloc1 hW
    clear hW
    have hbW := bthen hb6 bW
    have JB := JB.below bW
    have rW := r6.below bW
    have hnl := HZL.out
    go_wp2_with (at_builtin; go_loud (refine wpList_appF (Kind.int .i64) HM rfl _ _ 23 (.int .i64 0) 8 rfl Try.underlying23 (by kernel_rfl) rfl (bnd_int .i64) (onec_int .i64) (flat_int .i64) rfl rfl rfl JB (fun b hb => by omega) (by omega) (by omega) ?_))
    intro v1 W1 HA1 hc1 _
    have hs1 := hc1.size
    have hb1 := hbW.trans (hc1.below hbW.size (fun i hi => by have := AppP.ne HM hi; omega))
    have r7 := rW.chg hc1 (fun b hb => by have := AppP.ne HM hb; omega)
    have hol := Lib.hid (show (zs ++ ys).length ≤ 41 by simp; omega)
    generalize hxs : zs ++ ys = xs at HA1 hol
    obtain ⟨A1, d1, rfl, hd1, hd2⟩ := AppP.slice_ HA1
    clear hc1 HM hmk JB rW hbW hxs hb6 r6
    go_wp2_with fail
    refine (pickN g _ 256 _ r7 (by omega) (by omega) (by omega)).mono ?_
    rintro e w8 ⟨v8, rfl, a8, b8, r8, c8⟩
    have hb8 := hb1.trans (c8.below hb1.size (fun i hi => by omega))
    have HA1 := AppP.chg HA1 c8 (fun b _ h1 h2 => by omega)
    have hs8 := c8.size
    clear c8 r7 hb1
    have hsz := hb8.size
    have hl1 := hol.out
    go_wp2_with (at_builtin; go_loud (refine wpList_app (Kind.int .i64) HA1 rfl _ _ 23 (.int .i64 0) 8 rfl Try.underlying23 (by kernel_rfl) rfl (by decide) v8 [.int .i64 v8] (fun _ => False) rfl rfl rfl ?_ ?_ ?_ ?_ ?_ ?_))
    · exact fun _ h => h.elim
    · simp [Value.oneCell']
    · omega
    · omega
    · omega
    intro v9 w9 HA9 hc9
    have hs9 := hc9.size
    have hb9 := hb8.trans (hc9.below hb8.size (fun i hi => by have := AppP.ne HA1 hi; omega))
    have r9 := r8.chg hc9 (fun b hb => by have := AppP.ne HA1 hb; omega)
    have hol9 := Lib.hid (show (xs ++ [v8]).length ≤ 42 ∧ 1 ≤ (xs ++ [v8]).length by simp; omega)
    generalize hxs : xs ++ [v8] = zs9 at HA9 hol9
    obtain ⟨A9, d9, rfl, hd9, hd99⟩ := AppP.slice_ HA9
    clear hc9 HA1 hxs hb8 r8 hol hl1 hd1 hd2
    go_wp2_with fail
    refine (pickN g _ 8 _ r9 (by omega) (by omega) (by omega)).mono ?_
    rintro e w10 ⟨v10, rfl, a10, b10, r10, c10⟩
    have hb10 := hb9.trans (c10.below hb9.size (fun i hi => by omega))
    have HA10 := AppP.chg HA9 c10 (fun b _ h1 h2 => by omega)
    have hs10 := c10.size
    have hl9 := hol9.out
    clear c10 r9 hb9 HA9
    cases hta : (v10 == 0)
    · cases htb : (v10 == 1)
      · have HA := Lib.hid HA10
        have HB := Lib.hid hb10
        clear HA10 hb10 hd9 hd99 hl9 r10
        go_wp2
        obtain ⟨A', c', e', hrow⟩ := AppP.row HA.out
        exact bodyPost_ret (v := .tuple #[.slice A9 zs9.length d9, .int .i64 n, .int .i64 o, .int .i64 t]) (by simp [results, Try.results23, go_sem]) rfl ⟨zs9, A9, d9, n, o, t, rfl, by omega, by omega, by omega, by have := hol9.out; omega, by injection e' with e1 e2 e3; subst e1 e3; exact hrow.mono (fun b hb => by omega), HB.out⟩
      · go_wp2_with fail
        refine (pickN g _ zs9.length _ r10 (by omega) (by omega) (by omega)).mono ?_
        rintro e w11 ⟨v11, rfl, a11, b11, r11, c11⟩
        obtain ⟨m, rfl⟩ := Int.eq_ofNat_of_zero_le a11
        have hb11 := hb10.trans (c11.below hb10.size (fun i hi => by omega))
        have HA11 := AppP.chg HA10 c11 (fun b _ h1 h2 => by omega)
        have hcut : ∀ w, (Instr.slice 23 (.slice A9 zs9.length d9) none (some (.int .i64 (m : Int))) none).run Try.prog w = .ok (.slice A9 m d9) w := run_cuth Try.underlying23 info_int1 _ _ _ m _ rfl (by omega)
        have HA := Lib.hid HA11
        have HB := Lib.hid hb11
        have hm := Lib.hid (show m < zs9.length by omega)
        clear HA10 HA11 hb11 hb10 hd9 hd99 hl9 r10 r11 c11 a11 b11
        go_wp2
        obtain ⟨A', c', e', hrow⟩ := AppP.row HA.out
        exact bodyPost_ret (v := .tuple #[.slice A9 m d9, .int .i64 n, .int .i64 o, .int .i64 t]) (by simp [results, Try.results23, go_sem]) rfl ⟨zs9.take m, A9, d9, n, o, t, by rw [List.length_take, Nat.min_eq_left (Nat.le_of_lt hm.out)], by omega, by omega, by omega, by have := hol9.out; rw [List.length_take]; omega, by injection e' with e1 e2 e3; subst e1 e3; exact (hrow.take m).mono (fun b hb => by omega), HB.out⟩
    · go_wp2_with fail
      refine (pickN g _ zs9.length _ r10 (by omega) (by omega) (by omega)).mono ?_
      rintro e w11 ⟨v11, rfl, a11, b11, r11, c11⟩
      obtain ⟨m, rfl⟩ := Int.eq_ofNat_of_zero_le a11
      have hb11 := hb10.trans (c11.below hb10.size (fun i hi => by omega))
      have HA11 := AppP.chg HA10 c11 (fun b _ h1 h2 => by omega)
      have hs11 := c11.size
      clear HA10 hb10 r10 c11
      go_wp2_with fail
      refine (pickN g _ 256 _ r11 (by omega) (by omega) (by omega)).mono ?_
      rintro e w12 ⟨v12, rfl, a12, b12, r12, c12⟩
      have hb12 := hb11.trans (c12.below hb11.size (fun i hi => by omega))
      have HA12 := AppP.chg HA11 c12 (fun b _ h1 h2 => by omega)
      clear HA11 hb11 r11 c12
      obtain ⟨gq, cap, old, e', hgq, hgl, hcell, hfr, hput⟩ := App.put HA12 (show m < zs9.length by omega)
      obtain ⟨rfl, rfl⟩ : A9 = some ⟨gq, 0, none⟩ ∧ d9 = cap := by injection e' with e1 e2 e3; exact ⟨e1, e3⟩
      obtain ⟨hrow, hch⟩ := hput v12
      have hm := Lib.hid (show m < zs9.length by omega)
      have HB := Lib.hid (hb12.trans (hch.below hb12.size (fun i hi => by omega)))
      have HR := Lib.hid hrow
      clear hrow hch hput HA12 hb12 hd9 hd99 hl9 r12 e'
      go_wp2
      exact bodyPost_ret (v := .tuple #[.slice (some ⟨gq, 0, none⟩) zs9.length d9, .int .i64 n, .int .i64 o, .int .i64 t]) (by simp [results, Try.results23, go_sem]) rfl ⟨zs9.set m v12, some ⟨gq, 0, none⟩, d9, n, o, t, by rw [List.length_set], by omega, by omega, by omega, by have := hol9.out; rw [List.length_set]; omega, HR.out.mono (fun b hb => by omega), HB.out⟩
end Go.Proofs.Ytfflhenldegmmaa
