/- Draws of segments: the first steps. The draw of ReadEnd. Draws of segments, from bytes. The draw of LogScan: bytes of a segment, sometimes damaged, cut or doubled. -/
import Derived.Test.YtomcjjehfocbmaaD5
import Derived.Test.YtomcjjehfocbmaaD3
import Derived.Test.YtomcjjehfocbmaaLb
namespace Go.Proofs.Ytomcjjehfocbmaa
set_option linter.unusedVariables false
set_option linter.unusedSimpArgs false
section
section
open Go.RowKit

/-- A segment that was drawn. -/
structure Drawn (w w' : World) (bs : List Bat) (A : Option Addr) (c : Nat) : Prop where
  len : bs.length ≤ 9
  ok : ∀ b ∈ bs, b.ok
  row : Bats w' (fun b => w.heap.size ≤ b) A c bs
  below : Below w.heap.size w w'
theorem Drawn.after {w w1 w2 : World} {bs : List Bat} {A : Option Addr} {c : Nat} (h : Drawn w w1 bs A c) (hb : Below w1.heap.size w1 w2) : Drawn w w2 bs A c :=
  ⟨h.len, h.ok, h.row.below hb, bthen h.below hb⟩
theorem recs_ok {bs : List Bat} (hl : bs.length ≤ 9) (h : ∀ b ∈ bs, b.ok) : (bs.flatMap (·.recs)).length ≤ 45 := by
  have : ∀ l : List Bat, (∀ b ∈ l, b.ok) → (l.flatMap (·.recs)).length ≤ 5 * l.length := by
    intro l
    induction l with
    | nil => intro _; simp
    | cons a t ih =>
      intro hl
      have h1 := ih (fun b hb => hl b (by simp [hb]))
      have h2 := (hl a (by simp)).2.1
      rw [List.flatMap_cons, List.length_append, List.length_cons]
      omega
  have := this bs h
  omega
/-- The reader, and what was drawn first, in a later world. -/
theorem drawLog (bs0 : List Int) (A : Option Addr) (c : Nat) (F : Nat → Prop) (w : World) (h : Kind.byte.Row w F A c bs0) :
    Calls Try.prog 52 #[.slice A bs0.length c] w fun e w' => ∃ g, e = .returned (.pointer (some ⟨g, 0, none⟩)) ∧ w.heap.size ≤ g ∧ RdN w' g 0 ∧ Below w.heap.size w w' :=
  (l6Open_any bs0 A c F w h).mono fun _ _ ⟨g, h1, h2, h3, h4⟩ => ⟨g, h1, h2, ⟨0, Nat.le_refl _, h3⟩, h4⟩
/-- l92Log behind l6Open. -/
theorem l92Log_drawn (g : Nat) (w w1 : World) (hg : w.heap.size ≤ g) (hR : RdN w1 g 0) (hb : Below w.heap.size w w1) :
    Calls Try.prog 51 #[.pointer (some ⟨g, 0, none⟩)] w1 fun e w' => ∃ (bs : List Bat) (A : Option Addr) (c : Nat), e = .returned (.slice A bs.length c) ∧ Drawn w w' bs A c ∧ RdN w' g 5000 ∧ Bats w' (fun b => w.heap.size ≤ b ∧ b ≠ g) A c bs :=
  (l92Log_any g 0 w1 hR (by omega)).mono fun _ _ ⟨bs, A, c, h1, h2, h3, h4, h5, h6⟩ =>
    ⟨bs, A, c, h1, ⟨h2, h3, h4.mono (fun b hb' => Nat.le_trans hb.size hb'), hb.trans (h6.below hb.size (fun i (hi : i = g) => by omega))⟩, by simpa using h5, h4.mono (fun b hb' => ⟨Nat.le_trans hb.size hb', by have := hR.lt; omega⟩)⟩

theorem drawn_pick {w w1 w2 : World} {g : Nat} {bs : List Bat} {A : Option Addr} {c : Nat} (hg : w.heap.size ≤ g) (hD : Drawn w w1 bs A c) (hE : Bats w1 (fun b => w.heap.size ≤ b ∧ b ≠ g) A c bs) (hc : Chg (fun b => b = g) w1 w2) :
    Drawn w w2 bs A c ∧ Bats w2 (fun b => w.heap.size ≤ b ∧ b ≠ g) A c bs := by
  have h := hE.keep (hc.same (fun i _ h1 h2 => h1.2 h2))
  exact ⟨⟨hD.len, hD.ok, h.mono (fun b hb => hb.1), hD.below.trans (hc.below hD.below.size (fun i (hi : i = g) => by omega))⟩, h⟩
end

section
open Go.RowKit

end

section
open Go.RowKit

theorem DrawLogBytes_any (bs0 : List Int) (A : Option Addr) (c : Nat) (F : Nat → Prop) (w : World) (h : Kind.byte.Row w F A c bs0) :
    Calls Try.prog 23 #[.slice A bs0.length c] w fun e w' => ∃ (bs : List Bat) (A' : Option Addr) (c' : Nat), e = .returned (.slice A' bs.length c') ∧ Drawn w w' bs A' c' := by
  go_enter Try.func23, Try.ntmps23
  go_wp2_with fail
  refine (drawLog bs0 A c F _ h).mono ?_
  rintro e w1 ⟨g, rfl, hg, hR, hb1⟩
  go_wp2_with fail
  refine (l92Log_drawn g w w1 hg hR hb1).mono ?_
  rintro e w2 ⟨bs, A', c', rfl, hD, _, _⟩
  have HD := Lib.hid hD
  clear hD
  go_wp2
  go_ret
  exact ⟨bs, A', c', rfl, HD.out⟩

end
end

section
open Go.RowKit

set_option maxHeartbeats 4000000 in
theorem DrawLogScan_any (bs0 : List Int) (A : Option Addr) (c : Nat) (F : Nat → Prop) (w : World) (h : Kind.byte.Row w F A c bs0) :
    Calls Try.prog 30 #[.slice A bs0.length c] w fun e w' => ∃ (l : List Int) (A' : Option Addr) (c' : Nat), e = .returned (.slice A' l.length c') ∧ l.length ≤ 7000 ∧ Ints w' (fun b => w.heap.size ≤ b) A' c' l ∧ Below w.heap.size w w' := by
  go_enter Try.func30, Try.ntmps30
  go_wp2_with fail
  refine (drawLog bs0 A c F _ h).mono ?_
  rintro e w1 ⟨g, rfl, hg, hR, hb1⟩
  go_wp2_with fail
  refine (l92Log_drawn g w w1 hg hR hb1).mono ?_
  rintro e w2 ⟨bs, A', c', rfl, hD, hR2, hE⟩
  have hb2 := hD.below
  have hb10s := Lib.hid hb2.size
  have hgw := hR2.lt
  clear hR hb1 hD
  go_wp2_with fail
  refine (LogBytesS_any bs A' c' _ w2 hE).mono ?_
  rintro e w5 ⟨v5, rfl, HB, hb5⟩
  have r5 := hR2.below hb5
  have hs5 := hb5.size
  have hb5 := bthen hb2 hb5
  have hyl := logOut_len bs
  obtain ⟨By, cy, rfl, hly, hcy⟩ := HB.slice_
  obtain ⟨ys, hys⟩ : ∃ ys, ys = logOut bs := ⟨_, rfl⟩
  rw [← hys] at HB hly hyl ⊢
  have HX := Lib.hid (App.ints 3 w5 w.heap.size hb5.size [1, 2, 3] (by decide))
  clear hys hR2 hE hb2
  by_cases h0 : ys.length = 0
  · have hz : ((ys.length : Int) == 0) = true := by simp [h0]
    have H0 := Lib.hid h0
    have HB5 := Lib.hid hb5
    clear h0 HB hb5
    cases hok : logB bs
    all_goals
      go_wp2
      obtain ⟨A', c', e', hrow⟩ := AppP.row HX.out
      exact bodyPost_ret (v := .slice (some ⟨w5.heap.size, 0, none⟩) 3 3) (by simp [results, Try.results30, go_sem]) rfl ⟨[1, 2, 3], some ⟨w5.heap.size, 0, none⟩, 3, rfl, by decide, by injection e' with e1 e2 e3; subst e1 e3; exact hrow, bthen HB5.out (bal _ _)⟩
  · have hz : ((ys.length : Int) == 0) = false := by simp [h0]
    cases hok : logB bs
    · have HB5 := Lib.hid hb5
      clear h0 HB hb5
      go_wp2
      obtain ⟨A', c', e', hrow⟩ := AppP.row HX.out
      exact bodyPost_ret (v := .slice (some ⟨w5.heap.size, 0, none⟩) 3 3) (by simp [results, Try.results30, go_sem]) rfl ⟨[1, 2, 3], some ⟨w5.heap.size, 0, none⟩, 3, rfl, by decide, by injection e' with e1 e2 e3; subst e1 e3; exact hrow, bthen HB5.out (bal _ _)⟩
    · clear HX
      go_wp2_with fail
      refine (pickN g _ 6 _ r5 (by omega) (by omega) (by omega)).mono ?_
      rintro e w10 ⟨v10, rfl, a10, b10, r10, c10⟩
      have hb10 := hb5.trans (c10.below hb5.size (fun i hi => by omega))
      have HA10 := AppP.chg HB c10 (fun b _ h1 h2 => by omega)
      have hs10 := c10.size
      clear c10 r5 hb5 HB
      cases hta : (v10 == 0)
      · cases htb : (v10 == 1)
        · cases htc : (v10 == 2)
          · cases htd : (v10 == 3)
            · have HA := Lib.hid HA10
              have HB := Lib.hid hb10
              clear HA10 hb10 r10
              go_wp2
              obtain ⟨A', c', e', hrow⟩ := AppP.row HA.out
              exact bodyPost_ret (v := .slice By ys.length cy) (by simp [results, Try.results30, go_sem]) rfl ⟨ys, By, cy, rfl, by omega, by injection e' with e1 e2 e3; subst e1 e3; exact hrow.mono (fun b hb => by omega), HB.out⟩
            · obtain ⟨By', cy', e', JB⟩ := HA10.row
              obtain ⟨rfl, rfl⟩ : By = By' ∧ cy = cy' := by injection e' with e1 e2 e3; exact ⟨e1, e3⟩
              clear e'
              have hs2 := hb10.size
              go_wp2_with (at_builtin; go_loud (refine wpList_appF (Kind.int .i64) HA10 rfl _ _ 22 (.int .i64 0) 8 rfl Try.underlying22 (by kernel_rfl) rfl (bnd_int .i64) (onec_int .i64) (flat_int .i64) rfl rfl rfl JB (fun b hb => by omega) (by omega) (by omega) ?_))
              intro v1 W1 HA1 hc1 _
              have hb1 := hb10.trans (hc1.below hb10.size (fun i hi => by have := AppP.ne HA10 hi; omega))
              obtain ⟨zs, hzs⟩ : ∃ zs, zs = ys ++ ys := ⟨_, rfl⟩
              have hzl : Hid (zs.length ≤ 7000) := Lib.hid (by rw [hzs]; simp; omega)
              rw [← hzs] at HA1
              obtain ⟨A9, d9, rfl, hrow⟩ := AppP.row HA1
              have HR := Lib.hid hrow
              have HB := Lib.hid hb1
              clear hzs hc1 HA1 HA10 JB hrow hb1 hb10 r10
              go_wp2
              exact bodyPost_ret (v := .slice A9 zs.length d9) (by simp [results, Try.results30, go_sem]) rfl ⟨zs, A9, d9, rfl, hzl.out, HR.out.mono (fun b hb => by omega), HB.out⟩
          · go_wp2_with fail
            refine (pickN g _ ys.length _ r10 (by omega) (by omega) (by omega)).mono ?_
            rintro e w11 ⟨v11, rfl, a11, b11, r11, c11⟩
            obtain ⟨m, rfl⟩ := Int.eq_ofNat_of_zero_le a11
            have hb11 := hb10.trans (c11.below hb10.size (fun i hi => by omega))
            have HA11 := AppP.chg HA10 c11 (fun b _ h1 h2 => by omega)
            have hcut : ∀ w, (Instr.slice 22 (.slice By ys.length cy) none (some (.int .i64 ((m : Int) + 1))) none).run Try.prog w = .ok (.slice By (m + 1) cy) w :=
              run_cuth Try.underlying22 info_int8 _ _ _ (m + 1) _ (by simp) (by omega)
            have hw1 : wrap64 ((m : Int) + 1) = (m : Int) + 1 := by rw [IntWalk.wrap64_in _ (by omega)]
            have hw2 : IntKind.i64.wrap ((m : Int) + 1) = (m : Int) + 1 := by rw [IntWalk.i64_in _ (by omega)]
            have HA := Lib.hid HA11
            have HB := Lib.hid hb11
            have hm := Lib.hid (show m + 1 ≤ ys.length by omega)
            clear HA10 HA11 hb11 hb10 r10 r11 c11 a11 b11
            go_wp2
            obtain ⟨A', c', e', hrow⟩ := AppP.row HA.out
            exact bodyPost_ret (v := .slice By (m + 1) cy) (by simp [results, Try.results30, go_sem]) rfl ⟨ys.take (m + 1), By, cy, by rw [List.length_take, Nat.min_eq_left hm.out], by rw [List.length_take]; omega, by injection e' with e1 e2 e3; subst e1 e3; exact (hrow.take (m + 1)).mono (fun b hb => by omega), HB.out⟩
        · go_wp2_with fail
          refine (pickN g _ ys.length _ r10 (by omega) (by omega) (by omega)).mono ?_
          rintro e w11 ⟨v11, rfl, a11, b11, r11, c11⟩
          obtain ⟨m, rfl⟩ := Int.eq_ofNat_of_zero_le a11
          have hb11 := hb10.trans (c11.below hb10.size (fun i hi => by omega))
          have HA11 := AppP.chg HA10 c11 (fun b _ h1 h2 => by omega)
          have hcut : ∀ w, (Instr.slice 22 (.slice By ys.length cy) none (some (.int .i64 ((m : Int) + 1))) none).run Try.prog w = .ok (.slice By (m + 1) cy) w :=
            run_cuth Try.underlying22 info_int8 _ _ _ (m + 1) _ (by simp) (by omega)
          have hw1 : wrap64 ((m : Int) + 1) = (m : Int) + 1 := by rw [IntWalk.wrap64_in _ (by omega)]
          have hw2 : IntKind.i64.wrap ((m : Int) + 1) = (m : Int) + 1 := by rw [IntWalk.i64_in _ (by omega)]
          have HA := Lib.hid HA11
          have HB := Lib.hid hb11
          have hm := Lib.hid (show m + 1 ≤ ys.length by omega)
          clear HA10 HA11 hb11 hb10 r10 r11 c11 a11 b11
          go_wp2
          obtain ⟨A', c', e', hrow⟩ := AppP.row HA.out
          exact bodyPost_ret (v := .slice By (m + 1) cy) (by simp [results, Try.results30, go_sem]) rfl ⟨ys.take (m + 1), By, cy, by rw [List.length_take, Nat.min_eq_left hm.out], by rw [List.length_take]; omega, by injection e' with e1 e2 e3; subst e1 e3; exact (hrow.take (m + 1)).mono (fun b hb => by omega), HB.out⟩
      · go_wp2_with fail
        refine (pickN g _ ys.length _ r10 (by omega) (by omega) (by omega)).mono ?_
        rintro e w11 ⟨v11, rfl, a11, b11, r11, c11⟩
        obtain ⟨m, rfl⟩ := Int.eq_ofNat_of_zero_le a11
        have hb11 := hb10.trans (c11.below hb10.size (fun i hi => by omega))
        have HA11 := AppP.chg HA10 c11 (fun b _ h1 h2 => by omega)
        have hs11 := c11.size
        clear HA10 hb10 r10 c11
        go_wp2_with fail
        refine (pickN g _ 256 _ r11 (by omega) (by omega) (by omega)).mono ?_
        rintro e w12 ⟨v12, rfl, a12, b12, r12, c12⟩
        have hb12 := hb11.trans (c12.below hb11.size (fun i hi => by omega))
        have HA12 := AppP.chg HA11 c12 (fun b _ h1 h2 => by omega)
        have hs2 := hb10s.out
        clear HA11 hb11 r11 c12
        obtain ⟨gq, cap, old, e', hgq, hgl, hcell, hfr, hput⟩ := App.put HA12 (show m < ys.length by omega)
        obtain ⟨rfl, rfl⟩ : By = some ⟨gq, 0, none⟩ ∧ cy = cap := by injection e' with e1 e2 e3; exact ⟨e1, e3⟩
        obtain ⟨hrow, hch⟩ := hput v12
        have HB := Lib.hid (hb12.trans (hch.below hb12.size (fun i hi => by omega)))
        have HR := Lib.hid hrow
        have hyl2 := Lib.hid hyl
        clear hrow hch hput HA12 hb12 r12 e'
        go_wp2
        exact bodyPost_ret (v := .slice (some ⟨gq, 0, none⟩) ys.length cy) (by simp [results, Try.results30, go_sem]) rfl ⟨ys.set m v12, some ⟨gq, 0, none⟩, cy, by rw [List.length_set], by rw [List.length_set]; omega, HR.out.mono (fun b hb => by omega), HB.out⟩
end
end Go.Proofs.Ytomcjjehfocbmaa
