/- Indexes of segments: the program, the reference. -/
import Derived.Test.YtomcjjehfocbmaaGreatDoorLb
namespace Go.Proofs.YtomcjjehfocbmaaGreatDoor
set_option linter.unusedVariables false
set_option linter.unusedSimpArgs false
open Go.RowKit

theorem info_entI : (Tryz.prog.info? 39).map (fun i => (i.zero, i.size, i.bytes)) = some (some (.agg #[.int .i64 0, .int .i64 0]), 2, 16) := by kernel_rfl
theorem appK_lit {α : Type} (d : Kind α) {e : TypeId} {W : World} {g : Nat} {P : Nat → Prop} (h : W.heap[g]? = some (.cells #[] e (0, 0))) (hP : P g) : AppP d e W P (.slice (some ⟨g, 0, none⟩) 0 0) [] :=
  ⟨fun _ => False, [], ⟨by simp, .inr ⟨g, 0, #[], rfl, Nat.zero_le _, h, Nat.le_refl _, by simp [maxLen], by simp, by simp⟩⟩, fun k hk => by simp [Value.ownBlock] at hk; rw [← hk]; exact hP, fun b hb => hb.elim, fun j x hj => by simp at hj⟩
theorem idxTo_range {bs : List Bat} (h : logB bs = true) (e : Int) (k : Nat) : ∀ x ∈ idxTo bs e k, 0 ≤ x.place ∧ x.place ≤ 3312 := by
  induction k with
  | zero => intro x hx; simp [idxTo] at hx
  | succ k ih =>
    intro x hx
    unfold idxTo at hx
    split at hx
    · rcases List.mem_append.1 hx with hx | hx
      · exact ih x hx
      · simp at hx
        subst hx
        exact placeAt_range h k
    · exact ih x hx
set_option maxRecDepth 20000 in
set_option maxHeartbeats 8000000 in
theorem IndexOf_any (bs : List Bat) (A : Option Addr) (c : Nat) (F : Nat → Prop) (ev : Int) (w : World) (h : Bats w F A c bs) :
    Calls Tryz.prog 5 #[.slice A bs.length c, .int .i64 ev] w fun e w' => ∃ v, e = .returned (.tuple #[v, .bool (idxOk bs ev)]) ∧ App Kind.ent 39 w' w.heap.size v (idxOut bs ev) ∧ Below w.heap.size w w' := by
  have hl := h.1
  have hc := h.2.1
  have hbd := h.bound bnd_bat
  cases hv : logB bs
  · have e0 : idxOk bs ev = false := by unfold idxOk; rw [hv]; rfl
    rw [idxOut_no e0, e0]
    have HV := Lib.hid hv
    clear hv e0
    go_enter Tryz.func5, Tryz.ntmps5
    go_wp2_with fail
    refine (LogValid_any bs A c _ _ h).mono ?_
    rintro e w2 ⟨rfl, hb2⟩
    rw [HV.out]
    have HB := Lib.hid hb2
    clear hb2
    go_wp2
    go_ret2
    exact ⟨_, rfl, AppP.nil _ _ _ _, HB.out⟩
  cases hm : inB ev 1 9999
  · have e0 : idxOk bs ev = false := by unfold idxOk; rw [hv, hm]; rfl
    rw [idxOut_no e0, e0]
    have HV := Lib.hid hv
    have HM := Lib.hid hm
    clear hv e0 hm
    go_enter Tryz.func5, Tryz.ntmps5
    go_wp2_with fail
    refine (LogValid_any bs A c _ _ h).mono ?_
    rintro e w2 ⟨rfl, hb2⟩
    rw [HV.out]
    have HB := Lib.hid hb2
    clear hb2
    go_wp2_with (go_at_call 15; refine (within_any _ _ _ _).mono ?_; rintro e w' ⟨rfl, rfl⟩; rw [HM.out])
    go_ret2
    exact ⟨_, rfl, AppP.nil _ _ _ _, HB.out⟩
  have e0 : idxOk bs ev = true := by unfold idxOk; rw [hv, hm]; rfl
  rw [idxOut_yes e0, e0]
  have hev1 : 1 ≤ ev ∧ ev ≤ 9999 := by simpa [inB] using hm
  have HV := Lib.hid hv
  have HM := Lib.hid hm
  have HALL := Lib.hid (logB_all hv).2
  have HN := Lib.hid (logB_all hv).1
  clear hv e0 hm
  go_enter Tryz.func5, Tryz.ntmps5
  go_wp2_with fail
  refine (LogValid_any bs A c _ _ h).mono ?_
  rintro e w2 ⟨rfl, hb2⟩
  rw [HV.out]
  go_wp2_with fail
  refine (within_any _ _ _ _).mono ?_
  rintro e w' ⟨rfl, rfl⟩
  rw [HM.out]
  have hS2 := Lib.hid hb2.size
  have HB2 := Lib.hid hb2
  clear hb2
  go_wp2_with fail
  generalize hW : World.alloc _ _ = W3
  obtain ⟨hA3, b3, hz3⟩ := alloc1 hW
  clear hW
  have HX3h := Lib.hid (show App Kind.ent 39 W3 w.heap.size (.slice (some ⟨w2.heap.size, 0, none⟩) 0 0) [] from appK_lit _ hA3 (by have := hS2.out; omega))
  have HB3 := Lib.hid (bthen HB2.out b3)
  clear hA3 hz3 b3 HB2
  go_loopw [6, 7, 21] (fun v pl i wr => ∃ k : Nat, k ≤ bs.length ∧ i = .int .i64 k ∧ pl = .int .i64 (placeAt bs k) ∧ App Kind.ent 39 wr w.heap.size v (idxTo bs ev k) ∧ Hid (Below w.heap.size w wr)) (fun _ _ i _ => bs.length - (intOf i).toNat)
  case atStart => exact ⟨0, Nat.zero_le _, rfl, by rw [placeAt_zero], HX3h.out, HB3⟩
  case round =>
    obtain ⟨k, hk, rfl, rfl, HX, HB⟩ := hrel
    clear HX3h HB3
    obtain ⟨Ao, co, rfl, hro⟩ := AppP.row HX
    have hlo := hro.1
    have hco := hro.2.1
    by_cases hlt : k < bs.length
    · obtain ⟨ad2, C1, d1, rfl, _, hi1, q0, q1, q2, q3, q4, q5⟩ := (hbd.below HB.out).bat_at hlt
      have hi2 := hi1
      have hbk := HALL.out _ (List.getElem_mem hlt)
      have HBK := Lib.hid hbk
      have HPOS := Lib.hid (batB_pos hbk)
      have hyl := batBytes_le hbk
      have hp := placeAt_range HV.out k
      have HP1 := Lib.hid (placeAt_succ hlt)
      have hen := idxTo_len bs ev k
      have HRG := Lib.hid (idxTo_range HV.out ev k)
      have HN8 := HN.out
      obtain ⟨yl, hyll⟩ : ∃ yl, yl = (batBytes bs[k]).length := ⟨_, rfl⟩
      rw [← hyll] at hyl HP1
      have HYL := Lib.hid hyll
      have HF := Lib.hid (fun (hf : farP ev (idxTo bs ev k) (placeAt bs k)) => idxTo_yes hlt hf)
      have HG := Lib.hid (fun (hf : ¬ farP ev (idxTo bs ev k) (placeAt bs k)) => idxTo_no hf)
      obtain ⟨p, hpp⟩ : ∃ p, p = placeAt bs k := ⟨_, rfl⟩
      obtain ⟨es, hes⟩ : ∃ es, es = idxTo bs ev k := ⟨_, rfl⟩
      rw [← hpp] at hp HP1 HF HG
      rw [← hes] at HX hen HRG HF HG hro hlo
      rw [← hes, ← hpp]
      have HXh := Lib.hid HX
      have HWS := Lib.hid HB.out.size
      clear hyll hpp hes hbk HX
      have hes8 : es.length ≤ 7 := by omega
      rcases Nat.eq_zero_or_pos es.length with h0 | h0
      · obtain rfl : es = [] := List.eq_nil_of_length_eq_zero h0
        have HYES := Lib.hid (HF.out (.inl rfl))
        clear HF HG h0 hro HRG
        go_wp2_with fail
        generalize hW : World.alloc _ _ = W
        obtain ⟨hMW, b1, hzW⟩ := alloc1 hW
        clear hW
        have HXW := Lib.hid (AppP.below HXh.out b1)
        have hBW := bthen HB.out b1
        obtain ⟨u0, u1, u2, u3, u4, u5, uf⟩ := six hMW
        refine (first_any bs[k] C1 d1 _ _ (hi1.below b1) HPOS.out).mono ?_
        rintro e w4 ⟨rfl, hb4⟩
        have HX4 := AppP.below HXW.out hb4
        have HB4 := Lib.hid (bthen hBW hb4)
        have hiQ0 := (hi1.below b1).below hb4
        have hM4 := blk_below hMW hb4
        clear hb4 u0 u1 u2 u3 u4 u5 uf hBW q0 q1 q2 q3 q4 q5 hi1 b1 hMW
        go_wp2_with (at_builtin; go_loud (refine wpList_appP Kind.ent HX4 rfl _ _ 26 (.agg #[.int .i64 0, .int .i64 0]) 16 rfl Tryz.underlying26 info_entI rfl (by decide) ⟨bs[k].first, p⟩ _ (fun _ => False) rfl rfl rfl (fun b hb => hb.elim) (by simp [Value.oneCell']) (fun b hb => by have := HB4.out.size; omega) (by omega) (by omega) ?_))
        intro v5 w5 HX5 hc5
        have HXQ := Lib.hid (show App Kind.ent 39 w5 w.heap.size v5 (idxTo bs ev (k + 1)) by rw [HYES.out]; exact HX5)
        have HBQ := Lib.hid (HB4.out.trans (hc5.below HB4.out.size (fun x hx => AppP.ne HX4 hx)))

        have hN5 := hc5.blk hM4 (fun hx => by have := AppP.own_lt HXh.out hx; omega)
        have hiQ := hiQ0.keep (w' := w5) (hc5.same (fun i _ h1 h2 => by have := AppP.ne HX4 h2; have := h1.2; omega))
        obtain ⟨u0, u1, u2, u3, u4, u5, uf⟩ := six hN5
        clear hc5 HX4 hM4 hiQ0 HX5

        go_wp2_with fail
        refine (bytesOf_any bs[k] C1 d1 _ _ hiQ HBK.out).mono ?_
        rintro e w7 ⟨v7, rfl, HV7, hb7⟩
        obtain ⟨A7, c7, rfl, hl7, hc7⟩ := HV7.slice_
        have HX7 := Lib.hid (AppP.below HXQ.out hb7)
        have HB7 := Lib.hid (bthen HBQ.out hb7)
        rw [← HYL.out] at hl7
        rw [← HYL.out]
        clear HV7 hb7 hiQ HXQ HBQ u0 u1 u2 u3 u4 u5 uf

        go_wp2
        go_roundw
        case rel => exact ⟨k + 1, by omega, by go_num, by rw [HP1.out], HX7.out, HB7⟩
        case measure => simp [intOf]; omega

      · obtain ⟨ade, rfl, _, e0, e1⟩ := hro.ent_at (j := es.length - 1) (by omega)
        have hl0 := HRG.out _ (List.getElem_mem (show es.length - 1 < es.length by omega))
        have hen2 : (entAt es (es.length - 1)) = es[es.length - 1] := entAt_eq (by omega)
        unfold farP at HF HG
        rw [hen2] at HF HG
        obtain ⟨pl, hpl⟩ : ∃ pl, pl = es[es.length - 1].place := ⟨_, rfl⟩
        rw [← hpl] at hl0 e1 HF HG
        have hne : es ≠ [] := List.ne_nil_of_length_pos h0
        clear hpl hro HRG hen2
        have e1b := below_cell (bal wr (.cells #[.bool bs[k].packed, .bool bs[k].mark, .int .i64 bs[k].prod, .int .i64 bs[k].epoch, .int .i64 bs[k].seq, .slice C1 bs[k].recs.length d1] 35)) e1
        by_cases hf : ev ≤ p - pl
        · have HYES := Lib.hid (HF.out (.inr hf))
          have df : decide (ev ≤ p - pl) = true := by simp [hf]
          clear HF HG
          go_wp2_with fail
          generalize hW : World.alloc _ _ = W
          obtain ⟨hMW, b1, hzW⟩ := alloc1 hW
          clear hW
          have HXW := Lib.hid (AppP.below HXh.out b1)
          have hBW := bthen HB.out b1
          obtain ⟨u0, u1, u2, u3, u4, u5, uf⟩ := six hMW
          refine (first_any bs[k] C1 d1 _ _ (hi1.below b1) HPOS.out).mono ?_
          rintro e w4 ⟨rfl, hb4⟩
          have HX4 := AppP.below HXW.out hb4
          have HB4 := Lib.hid (bthen hBW hb4)
          have hiQ0 := (hi1.below b1).below hb4
          have hM4 := blk_below hMW hb4
          clear hb4 u0 u1 u2 u3 u4 u5 uf hBW q0 q1 q2 q3 q4 q5 hi1 b1 hMW
          go_wp2_with (at_builtin; go_loud (refine wpList_appP Kind.ent HX4 rfl _ _ 26 (.agg #[.int .i64 0, .int .i64 0]) 16 rfl Tryz.underlying26 info_entI rfl (by decide) ⟨bs[k].first, p⟩ _ (fun _ => False) rfl rfl rfl (fun b hb => hb.elim) (by simp [Value.oneCell']) (fun b hb => by have := HB4.out.size; omega) (by omega) (by omega) ?_))
          intro v5 w5 HX5 hc5
          have HXQ := Lib.hid (show App Kind.ent 39 w5 w.heap.size v5 (idxTo bs ev (k + 1)) by rw [HYES.out]; exact HX5)
          have HBQ := Lib.hid (HB4.out.trans (hc5.below HB4.out.size (fun x hx => AppP.ne HX4 hx)))

          have hN5 := hc5.blk hM4 (fun hx => by have := AppP.own_lt HXh.out hx; omega)
          have hiQ := hiQ0.keep (w' := w5) (hc5.same (fun i _ h1 h2 => by have := AppP.ne HX4 h2; have := h1.2; omega))
          obtain ⟨u0, u1, u2, u3, u4, u5, uf⟩ := six hN5
          clear hc5 HX4 hM4 hiQ0 HX5

          go_wp2_with fail
          refine (bytesOf_any bs[k] C1 d1 _ _ hiQ HBK.out).mono ?_
          rintro e w7 ⟨v7, rfl, HV7, hb7⟩
          obtain ⟨A7, c7, rfl, hl7, hc7⟩ := HV7.slice_
          have HX7 := Lib.hid (AppP.below HXQ.out hb7)
          have HB7 := Lib.hid (bthen HBQ.out hb7)
          rw [← HYL.out] at hl7
          rw [← HYL.out]
          clear HV7 hb7 hiQ HXQ HBQ u0 u1 u2 u3 u4 u5 uf

          go_wp2
          go_roundw
          case rel => exact ⟨k + 1, by omega, by go_num, by rw [HP1.out], HX7.out, HB7⟩
          case measure => simp [intOf]; omega

        · have HNO := Lib.hid (HG.out (fun h => h.elim hne hf))
          have df : decide (ev ≤ p - pl) = false := by simp; omega
          have hf2 : p - pl < ev := by omega
          clear HF HG
          go_wp2_with fail
          generalize hW : World.alloc _ _ = W
          obtain ⟨hMW, b1, hzW⟩ := alloc1 hW
          clear hW
          have HXQ := Lib.hid (show App Kind.ent 39 W w.heap.size _ (idxTo bs ev (k + 1)) by rw [HNO.out]; exact AppP.below HXh.out b1)
          have HBQ := Lib.hid (bthen HB.out b1)
          obtain ⟨u0, u1, u2, u3, u4, u5, uf⟩ := six hMW
          have hiQ := hi1.below b1
          clear q0 q1 q2 q3 q4 q5 hi1 b1 hMW
          refine (bytesOf_any bs[k] C1 d1 _ _ hiQ HBK.out).mono ?_
          rintro e w7 ⟨v7, rfl, HV7, hb7⟩
          obtain ⟨A7, c7, rfl, hl7, hc7⟩ := HV7.slice_
          have HX7 := Lib.hid (AppP.below HXQ.out hb7)
          have HB7 := Lib.hid (bthen HBQ.out hb7)
          rw [← HYL.out] at hl7
          rw [← HYL.out]
          clear HV7 hb7 hiQ HXQ HBQ u0 u1 u2 u3 u4 u5 uf

          go_wp2
          go_roundw
          case rel => exact ⟨k + 1, by omega, by go_num, by rw [HP1.out], HX7.out, HB7⟩
          case measure => simp [intOf]; omega

    · have hk2 : k = bs.length := by omega
      subst hk2
      have HXh := Lib.hid HX
      clear HX hro
      go_wp2
      go_ret2
      exact ⟨_, rfl, HXh.out, HB.out⟩

set_option maxRecDepth 20000 in
set_option maxHeartbeats 8000000 in
theorem l13Index_any (bs : List Bat) (A : Option Addr) (c : Nat) (F : Nat → Prop) (ev : Int) (w : World) (h : Bats w F A c bs) (hv : logB bs = true) (hev1 : 1 ≤ ev ∧ ev ≤ 9999) :
    Calls Tryz.prog 20 #[.slice A bs.length c, .int .i64 ev] w fun e w' => ∃ v, e = .returned v ∧ App Kind.ent 39 w' w.heap.size v (idxTo bs ev bs.length) ∧ Below w.heap.size w w' := by
  have hl := h.1
  have hc := h.2.1
  have hbd := h.bound bnd_bat
  have HV := Lib.hid hv
  have HALL := Lib.hid (logB_all hv).2
  have HN := Lib.hid (logB_all hv).1
  clear hv
  go_enter Tryz.func20, Tryz.ntmps20
  go_wp2_with fail
  generalize hW : World.alloc _ _ = W3
  obtain ⟨hA3, b3, hz3⟩ := alloc1 hW
  clear hW
  have HX3h := Lib.hid (show App Kind.ent 39 W3 w.heap.size (.slice (some ⟨w.heap.size, 0, none⟩) 0 0) [] from appK_lit _ hA3 (Nat.le_refl _))
  have HB3 := Lib.hid b3
  clear hA3 hz3 b3
  go_loopw [5, 6, 7] (fun v pl i wr => ∃ k : Nat, k ≤ bs.length ∧ i = .int .i64 k ∧ pl = .int .i64 (placeAt bs k) ∧ App Kind.ent 39 wr w.heap.size v (idxTo bs ev k) ∧ Hid (Below w.heap.size w wr)) (fun _ _ i _ => bs.length - (intOf i).toNat)
  case atStart => exact ⟨0, Nat.zero_le _, rfl, by rw [placeAt_zero], HX3h.out, HB3⟩
  case round =>
    obtain ⟨k, hk, rfl, rfl, HX, HB⟩ := hrel
    clear HX3h HB3
    obtain ⟨Ao, co, rfl, hro⟩ := AppP.row HX
    have hlo := hro.1
    have hco := hro.2.1
    by_cases hlt : k < bs.length
    · obtain ⟨ad2, C1, d1, rfl, _, hi1, q0, q1, q2, q3, q4, q5⟩ := (hbd.below HB.out).bat_at hlt
      have hi2 := hi1
      have hbk := HALL.out _ (List.getElem_mem hlt)
      have HBK := Lib.hid hbk
      have HPOS := Lib.hid (batB_pos hbk)
      have hyl := batBytes_le hbk
      have hp := placeAt_range HV.out k
      have HP1 := Lib.hid (placeAt_succ hlt)
      have hen := idxTo_len bs ev k
      have HRG := Lib.hid (idxTo_range HV.out ev k)
      have HN8 := HN.out
      obtain ⟨yl, hyll⟩ : ∃ yl, yl = (batBytes bs[k]).length := ⟨_, rfl⟩
      rw [← hyll] at hyl HP1
      have HYL := Lib.hid hyll
      have HF := Lib.hid (fun (hf : farP ev (idxTo bs ev k) (placeAt bs k)) => idxTo_yes hlt hf)
      have HG := Lib.hid (fun (hf : ¬ farP ev (idxTo bs ev k) (placeAt bs k)) => idxTo_no hf)
      obtain ⟨p, hpp⟩ : ∃ p, p = placeAt bs k := ⟨_, rfl⟩
      obtain ⟨es, hes⟩ : ∃ es, es = idxTo bs ev k := ⟨_, rfl⟩
      rw [← hpp] at hp HP1 HF HG
      rw [← hes] at HX hen HRG HF HG hro hlo
      rw [← hes, ← hpp]
      have HXh := Lib.hid HX
      have HWS := Lib.hid HB.out.size
      clear hyll hpp hes hbk HX
      have hes8 : es.length ≤ 7 := by omega
      rcases Nat.eq_zero_or_pos es.length with h0 | h0
      · obtain rfl : es = [] := List.eq_nil_of_length_eq_zero h0
        have HYES := Lib.hid (HF.out (.inl rfl))
        clear HF HG h0 hro HRG
        obtain ⟨ad3, B3, d3, B3', d3', ea3, _, _, _, r0, _⟩ := hi1.rec_at HPOS.out
        subst ea3
        rw [show ad3.add (0 * 6) = ad3 from rfl] at r0
        have hf0 : (bs[k].recs[0]'HPOS.out).off = bs[k].first := (first_getElem HPOS.out).1.symm
        rw [hf0] at r0
        have hrl := hi1.1
        have hrc := hi1.2.1
        have HPO := HPOS.out
        have HX4 := HXh.out
        have HB4 := HB
        go_wp2_with (at_builtin; go_loud (refine wpList_appP Kind.ent HX4 rfl _ _ 26 (.agg #[.int .i64 0, .int .i64 0]) 16 rfl Tryz.underlying26 info_entI rfl (by decide) ⟨bs[k].first, p⟩ _ (fun _ => False) rfl rfl rfl (fun b hb => hb.elim) (by simp [Value.oneCell']) (fun b hb => by have := HB4.out.size; omega) (by omega) (by omega) ?_))
        intro v5 w5 HX5 hc5
        have HXQ := Lib.hid (show App Kind.ent 39 w5 w.heap.size v5 (idxTo bs ev (k + 1)) by rw [HYES.out]; exact HX5)
        have HBQ := Lib.hid (HB4.out.trans (hc5.below HB4.out.size (fun x hx => AppP.ne HX4 hx)))

        clear hc5 HX4 HX5 r0 q0 q1 q2 q3 q4 q5 hi1

        obtain ⟨ad9, C9, d9, ea9, _, hiQ, q0, q1, q2, q3, q4, q5⟩ := (hbd.below HBQ.out).bat_at hlt
        injection ea9 with ea9
        subst ea9
        go_wp2_with fail
        refine (l5Bytes_any bs[k] C9 d9 _ _ hiQ HBK.out).mono ?_
        rintro e w7 ⟨v7, rfl, HV7, hb7⟩
        obtain ⟨A7, c7, rfl, hl7, hc7⟩ := HV7.slice_
        have HX7 := Lib.hid (AppP.below HXQ.out hb7)
        have HB7 := Lib.hid (bthen HBQ.out hb7)
        rw [← HYL.out] at hl7
        rw [← HYL.out]
        clear HV7 hb7 hiQ HXQ HBQ q0 q1 q2 q3 q4 q5

        go_wp2
        go_roundw
        case rel => exact ⟨k + 1, by omega, by go_num, by rw [HP1.out], HX7.out, HB7⟩
        case measure => simp [intOf]; omega

      · obtain ⟨ade, rfl, _, e0, e1⟩ := hro.ent_at (j := es.length - 1) (by omega)
        have hl0 := HRG.out _ (List.getElem_mem (show es.length - 1 < es.length by omega))
        have hen2 : (entAt es (es.length - 1)) = es[es.length - 1] := entAt_eq (by omega)
        unfold farP at HF HG
        rw [hen2] at HF HG
        obtain ⟨pl, hpl⟩ : ∃ pl, pl = es[es.length - 1].place := ⟨_, rfl⟩
        rw [← hpl] at hl0 e1 HF HG
        have hne : es ≠ [] := List.ne_nil_of_length_pos h0
        clear hpl hro HRG hen2
        by_cases hf : ev ≤ p - pl
        · have HYES := Lib.hid (HF.out (.inr hf))
          have df : decide (ev ≤ p - pl) = true := by simp [hf]
          clear HF HG
          obtain ⟨ad3, B3, d3, B3', d3', ea3, _, _, _, r0, _⟩ := hi1.rec_at HPOS.out
          subst ea3
          rw [show ad3.add (0 * 6) = ad3 from rfl] at r0
          have hf0 : (bs[k].recs[0]'HPOS.out).off = bs[k].first := (first_getElem HPOS.out).1.symm
          rw [hf0] at r0
          have hrl := hi1.1
          have hrc := hi1.2.1
          have HPO := HPOS.out
          have HX4 := HXh.out
          have HB4 := HB
          go_wp2_with (at_builtin; go_loud (refine wpList_appP Kind.ent HX4 rfl _ _ 26 (.agg #[.int .i64 0, .int .i64 0]) 16 rfl Tryz.underlying26 info_entI rfl (by decide) ⟨bs[k].first, p⟩ _ (fun _ => False) rfl rfl rfl (fun b hb => hb.elim) (by simp [Value.oneCell']) (fun b hb => by have := HB4.out.size; omega) (by omega) (by omega) ?_))
          intro v5 w5 HX5 hc5
          have HXQ := Lib.hid (show App Kind.ent 39 w5 w.heap.size v5 (idxTo bs ev (k + 1)) by rw [HYES.out]; exact HX5)
          have HBQ := Lib.hid (HB4.out.trans (hc5.below HB4.out.size (fun x hx => AppP.ne HX4 hx)))

          clear hc5 HX4 HX5 r0 q0 q1 q2 q3 q4 q5 hi1

          obtain ⟨ad9, C9, d9, ea9, _, hiQ, q0, q1, q2, q3, q4, q5⟩ := (hbd.below HBQ.out).bat_at hlt
          injection ea9 with ea9
          subst ea9
          go_wp2_with fail
          refine (l5Bytes_any bs[k] C9 d9 _ _ hiQ HBK.out).mono ?_
          rintro e w7 ⟨v7, rfl, HV7, hb7⟩
          obtain ⟨A7, c7, rfl, hl7, hc7⟩ := HV7.slice_
          have HX7 := Lib.hid (AppP.below HXQ.out hb7)
          have HB7 := Lib.hid (bthen HBQ.out hb7)
          rw [← HYL.out] at hl7
          rw [← HYL.out]
          clear HV7 hb7 hiQ HXQ HBQ q0 q1 q2 q3 q4 q5

          go_wp2
          go_roundw
          case rel => exact ⟨k + 1, by omega, by go_num, by rw [HP1.out], HX7.out, HB7⟩
          case measure => simp [intOf]; omega

        · have HNO := Lib.hid (HG.out (fun h => h.elim hne hf))
          have df : decide (ev ≤ p - pl) = false := by simp; omega
          have hf2 : p - pl < ev := by omega
          clear HF HG
          have HXQ := Lib.hid (show App Kind.ent 39 wr w.heap.size _ (idxTo bs ev (k + 1)) by rw [HNO.out]; exact HXh.out)
          have HBQ := HB
          clear hi1
          go_wp2_with fail
          refine (l5Bytes_any bs[k] C1 d1 _ _ hi2 HBK.out).mono ?_
          rintro e w7 ⟨v7, rfl, HV7, hb7⟩
          obtain ⟨A7, c7, rfl, hl7, hc7⟩ := HV7.slice_
          have HX7 := Lib.hid (AppP.below HXQ.out hb7)
          have HB7 := Lib.hid (bthen HBQ.out hb7)
          rw [← HYL.out] at hl7
          rw [← HYL.out]
          clear HV7 hb7 HXQ HBQ q0 q1 q2 q3 q4 q5 hi2

          go_wp2
          go_roundw
          case rel => exact ⟨k + 1, by omega, by go_num, by rw [HP1.out], HX7.out, HB7⟩
          case measure => simp [intOf]; omega

    · have hk2 : k = bs.length := by omega
      subst hk2
      have HXh := Lib.hid HX
      clear HX hro
      go_wp2
      go_ret
      exact ⟨_, rfl, HXh.out, HB.out⟩

theorem IndexOfS_any (bs : List Bat) (A : Option Addr) (c : Nat) (F : Nat → Prop) (ev : Int) (w : World) (h : Bats w F A c bs) :
    Calls Tryz.prog 6 #[.slice A bs.length c, .int .i64 ev] w fun e w' => ∃ v, e = .returned (.tuple #[v, .bool (idxOk bs ev)]) ∧ App Kind.ent 39 w' w.heap.size v (idxOut bs ev) ∧ Below w.heap.size w w' := by
  have hl := h.1
  have hc := h.2.1
  cases hv : logB bs
  · have e0 : idxOk bs ev = false := by unfold idxOk; rw [hv]; rfl
    rw [idxOut_no e0, e0]
    have HV := Lib.hid hv
    clear hv e0
    go_enter Tryz.func6, Tryz.ntmps6
    go_wp2_with fail
    refine (LogValidS_any bs A c _ _ h).mono ?_
    rintro e w2 ⟨rfl, hb2⟩
    rw [HV.out]
    have HB := Lib.hid (bthen hb2 (bal w2 (.cells #[] 39)))
    have HX := Lib.hid (App.lit Kind.ent 39 w2 w.heap.size hb2.size)
    clear hb2
    go_wp2
    go_ret2
    exact ⟨_, rfl, HX.out, HB.out⟩
  cases hm : inB ev 1 9999
  · have e0 : idxOk bs ev = false := by unfold idxOk; rw [hv, hm]; rfl
    rw [idxOut_no e0, e0]
    have HV := Lib.hid hv
    have HM := Lib.hid hm
    clear hv e0 hm
    go_enter Tryz.func6, Tryz.ntmps6
    go_wp2_with fail
    refine (LogValidS_any bs A c _ _ h).mono ?_
    rintro e w2 ⟨rfl, hb2⟩
    rw [HV.out]
    have HB := Lib.hid (bthen hb2 (bal w2 (.cells #[] 39)))
    have HX := Lib.hid (App.lit Kind.ent 39 w2 w.heap.size hb2.size)
    clear hb2
    go_wp2_with (go_at_call 19; refine (l6In_any _ _ _ _).mono ?_; rintro e w' ⟨rfl, rfl⟩; rw [HM.out])
    go_ret2
    exact ⟨_, rfl, HX.out, HB.out⟩
  have e0 : idxOk bs ev = true := by unfold idxOk; rw [hv, hm]; rfl
  rw [idxOut_yes e0, e0]
  have hev1 : 1 ≤ ev ∧ ev ≤ 9999 := by simpa [inB] using hm
  have HV := Lib.hid hv
  have HM := Lib.hid hm
  clear hv e0 hm
  go_enter Tryz.func6, Tryz.ntmps6
  go_wp2_with fail
  refine (LogValidS_any bs A c _ _ h).mono ?_
  rintro e w2 ⟨rfl, hb2⟩
  rw [HV.out]
  go_wp2_with fail
  refine (l6In_any _ _ _ _).mono ?_
  rintro e w' ⟨rfl, rfl⟩
  rw [HM.out]
  go_wp2_with fail
  refine (l13Index_any bs A c _ ev _ (h.below hb2) HV.out hev1).mono ?_
  rintro e w3 ⟨v3, rfl, HX, hb3⟩
  have HXh := Lib.hid (App.from HX hb2.size)
  have HB := Lib.hid (bthen hb2 hb3)
  clear HX hb3 hb2
  go_wp2
  go_ret2
  exact ⟨_, rfl, HXh.out, HB.out⟩
end Go.Proofs.YtomcjjehfocbmaaGreatDoor
