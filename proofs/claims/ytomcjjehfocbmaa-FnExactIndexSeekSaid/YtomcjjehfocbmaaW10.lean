/- Records from bytes: the reference. -/
import Derived.Test.YtomcjjehfocbmaaV4
import Derived.Test.YtomcjjehfocbmaaW9
import Derived.Test.YtomcjjehfocbmaaS2
import Derived.Test.YtomcjjehfocbmaaGa
namespace Go.Proofs.Ytomcjjehfocbmaa
set_option linter.unusedVariables false
set_option linter.unusedSimpArgs false
open Go.RowKit

def get12 (l : List Int) (i : Nat) : Option (Bool × List Int × Nat) := match rdPart l i with
  | none => none
  | some (hk, k, d) => if k.length ≤ 12 then some (hk, k, d) else none
def gHas (q : Option (Bool × List Int × Nat)) : Bool := match q with | none => false | some x => x.1
def gKey (q : Option (Bool × List Int × Nat)) : List Int := match q with | none => [] | some x => x.2.1
def gNext (q : Option (Bool × List Int × Nat)) : Nat := match q with | none => 0 | some x => x.2.2
theorem info_intW : (Try.prog.info? 3).map (fun i => (i.zero, i.size, i.bytes)) = some (some (.int .i64 0), 1, 8) := by kernel_rfl
theorem run_cutlh2 {P : Program} {t e : TypeId} {z : Value} {s b : Nat} (ht : P.underlying t = some (.slice e)) (hinfo : (P.info? e).map (fun i => (i.zero, i.size, i.bytes)) = some (some z, s, b)) (A : Option Addr) (n cap l h : Nat) (L H : Int) (hL : L = (l : Int)) (hH : H = (h : Int)) (hlh : l ≤ h) (hh : h ≤ cap) (w : World) :
    (Instr.slice t (.slice A n cap) (some (.int .i64 L)) (some (.int .i64 H)) none).run P w = .ok (.slice (cutAddr A l cap s) (h - l) (cap - l)) w := by
  subst hL hH
  obtain ⟨i, hi, _, hs, _⟩ := info_of hinfo
  have he : P.elem t = e := by simp [Program.elem, ht]
  rw [run_slice_lh (P := P) (w := w) t A n cap (by rw [he]; exact ht) .i64 .i64 (l : Int) (h : Int) (by omega) (by omega) (by omega)]
  rw [he]
  simp [sizeOf, typeInfo, hi, hs, sliced, cutAddr, Result.andThen]
set_option maxRecDepth 10000 in
set_option maxHeartbeats 2000000 in
theorem l3Get_any (l : List Int) (A : Option Addr) (c : Nat) (F : Nat → Prop) (i : Nat) (w : World) (h : Ints w F A c l) (hb : bytesB l = true) (hn : l.length ≤ 4194304) (hi : i ≤ 9000000000000000000) :
    Calls Try.prog 126 #[.slice A l.length c, .int .i64 (i : Int)] w fun e w' =>
      ∃ v, e = .returned (.tuple #[.bool (gHas (get12 l i)), v, .int .i64 (gNext (get12 l i) : Nat), .bool (get12 l i).isSome]) ∧ App (Kind.int .i64) 3 w' w.heap.size v (gKey (get12 l i)) ∧ Below w.heap.size w w' := by
  have hl := h.1
  have hc := h.2.1
  have hL := App.lit (Kind.int .i64) 3 w w.heap.size (Nat.le_refl _)
  have HLL := Lib.hid hL
  have HB1 := Lib.hid (bal w (.cells #[] 3))
  have HBY := Lib.hid hb
  cases hv : rdV l i with
  | none =>
    have HQ := Lib.hid (show get12 l i = none by unfold get12 rdPart; rw [hv])
    have HV := Lib.hid hv
    rw [HQ.out]
    clear hv hb hL
    go_enter Try.func126, Try.ntmps126
    go_wp2_with fail
    refine (l1From_any l A c F i _ h HBY.out hi).mono ?_
    rintro e w' ⟨rfl, rfl⟩
    rw [HV.out]
    dsimp only [rdVal]
    go_wp2
    exact bodyPost_ret (v := .tuple #[.bool false, .slice (some ⟨w.heap.size, 0, none⟩) 0 0, .int .i64 0, .bool false]) (by simp [results, Try.results126, go_sem]) rfl ⟨_, rfl, HLL.out, HB1.out⟩
  | some x =>
    obtain ⟨n, d⟩ := x
    have hbd := rdV_bound hv
    have hnr := (rdV_inv hb hv).2.2
    obtain ⟨hn0, hn1⟩ := hnr
    have hdl := hbd.2
    have hpt : rdPart l i = if n = -1 then some (false, [], d) else if 0 ≤ n ∧ d + n.toNat ≤ l.length then some (true, (l.drop d).take n.toNat, d + n.toNat) else none := by unfold rdPart; rw [hv]
    have HV := Lib.hid hv
    clear hv hb hL hbd
    by_cases hbad : n < -1 ∨ 12 < n ∨ (l.length : Int) < d + (if n < 0 then 0 else n)
    · have HQ := Lib.hid (show get12 l i = none by
        unfold get12
        rw [hpt]
        by_cases h1 : n = -1
        · subst h1
          exfalso
          rcases hbad with h | h | h
          · omega
          · omega
          · rw [if_pos (by omega)] at h; omega
        · rw [if_neg h1]
          by_cases h2 : 0 ≤ n ∧ d + n.toNat ≤ l.length
          · rw [if_pos h2]
            dsimp only
            rw [if_neg]
            rw [List.length_take, List.length_drop]
            rcases hbad with h | h | h
            · omega
            · omega
            · rw [if_neg (by omega)] at h; omega
          · rw [if_neg h2])
      rw [HQ.out]
      clear hpt
      by_cases h1 : n < -1
      · clear hbad
        go_enter Try.func126, Try.ntmps126
        go_wp2_with fail
        refine (l1From_any l A c F i _ h HBY.out hi).mono ?_
        rintro e w' ⟨rfl, rfl⟩
        rw [HV.out]
        dsimp only [rdVal]
        go_wp2
        exact bodyPost_ret (v := .tuple #[.bool false, .slice (some ⟨w.heap.size, 0, none⟩) 0 0, .int .i64 0, .bool false]) (by simp [results, Try.results126, go_sem]) rfl ⟨_, rfl, HLL.out, HB1.out⟩
      · by_cases h2 : 12 < n
        · clear hbad
          go_enter Try.func126, Try.ntmps126
          go_wp2_with fail
          refine (l1From_any l A c F i _ h HBY.out hi).mono ?_
          rintro e w' ⟨rfl, rfl⟩
          rw [HV.out]
          dsimp only [rdVal]
          go_wp2
          exact bodyPost_ret (v := .tuple #[.bool false, .slice (some ⟨w.heap.size, 0, none⟩) 0 0, .int .i64 0, .bool false]) (by simp [results, Try.results126, go_sem]) rfl ⟨_, rfl, HLL.out, HB1.out⟩
        · have h3 : (l.length : Int) < d + (if n < 0 then 0 else n) := by rcases hbad with h | h | h; exact absurd h h1; exact absurd h h2; exact h
          have h0 : ¬ n < 0 := fun e => by rw [if_pos e] at h3; omega
          rw [if_neg h0] at h3
          clear hbad
          go_enter Try.func126, Try.ntmps126
          go_wp2_with fail
          refine (l1From_any l A c F i _ h HBY.out hi).mono ?_
          rintro e w' ⟨rfl, rfl⟩
          rw [HV.out]
          dsimp only [rdVal]
          go_wp2
          exact bodyPost_ret (v := .tuple #[.bool false, .slice (some ⟨w.heap.size, 0, none⟩) 0 0, .int .i64 0, .bool false]) (by simp [results, Try.results126, go_sem]) rfl ⟨_, rfl, HLL.out, HB1.out⟩
    · by_cases hm : n = -1
      · have HQ := Lib.hid (show get12 l i = some (false, [], d) by unfold get12; rw [hpt, if_pos hm]; rfl)
        rw [HQ.out]
        subst hm
        clear hpt hbad
        go_enter Try.func126, Try.ntmps126
        go_wp2_with fail
        refine (l1From_any l A c F i _ h HBY.out hi).mono ?_
        rintro e w' ⟨rfl, rfl⟩
        rw [HV.out]
        dsimp only [rdVal]
        go_wp2
        exact bodyPost_ret (v := .tuple #[.bool false, .slice (some ⟨w.heap.size, 0, none⟩) 0 0, .int .i64 (d : Int), .bool true]) (by simp [results, Try.results126, go_sem]) rfl ⟨_, rfl, HLL.out, HB1.out⟩
      · have h1 : ¬ n < -1 := fun e => hbad (.inl e)
        have h2 : ¬ 12 < n := fun e => hbad (.inr (.inl e))
        have h3 : ¬ (l.length : Int) < d + (if n < 0 then 0 else n) := fun e => hbad (.inr (.inr e))
        obtain ⟨m, rfl⟩ := Int.eq_ofNat_of_zero_le (show 0 ≤ n by omega)
        rw [if_neg (by omega)] at h3
        have hdm : d + m ≤ l.length := by omega
        have HQ := Lib.hid (show get12 l i = some (true, (l.drop d).take m, d + m) by
          unfold get12
          rw [hpt, if_neg hm, if_pos ⟨by omega, by simpa using hdm⟩]
          dsimp only
          rw [if_pos (by rw [List.length_take]; simp; omega)]
          rfl)
        rw [HQ.out]
        have s1 : ∀ W : World, (Instr.slice 22 (.slice A l.length c) (some (.int .i64 (d : Int))) (some (.int .i64 ((d : Int) + (m : Int)))) none).run Try.prog W = .ok (.slice (cutAddr A d c 1) m (c - d)) W := fun W => by
          have := run_cutlh2 Try.underlying22 info_intW A l.length c d (d + m) _ _ rfl (show ((d : Int) + (m : Int)) = ((d + m : Nat) : Int) by simp) (by omega) (by omega) W
          rw [show d + m - d = m by omega] at this
          exact this
        have hT := ((h.below HB1.out).cut d hdl).take m
        have hTl : ((l.drop d).take m).length = m := by rw [List.length_take, List.length_drop]; omega
        obtain ⟨xs, hxs⟩ : ∃ xs, xs = (l.drop d).take m := ⟨_, rfl⟩
        rw [← hxs] at hT hTl
        have HXS := Lib.hid hxs
        have HTL := Lib.hid hTl
        have hxl : xs.length ≤ 12 := by omega
        have hm12 : m ≤ 12 := by omega
        clear hpt hbad hxs hm h1 h2 h3 hTl
        go_enter Try.func126, Try.ntmps126
        go_wp2_with fail
        refine (l1From_any l A c F i _ h HBY.out hi).mono ?_
        rintro e w' ⟨rfl, rfl⟩
        rw [HV.out]
        dsimp only [rdVal]
        go_wp2_with (at_builtin; go_loud (refine wpList_appF (Kind.int .i64) (xs := []) (ys := xs) HLL.out rfl _ _ 22 (.int .i64 0) 8 rfl Try.underlying22 (by kernel_rfl) rfl (bnd_int _) (onec_int _) (flat_int _) rfl rfl HTL.out hT (fun b hb => by simp at hb; omega) (by simp; omega) (by simp; omega) ?_))
        intro v1 w1 HA hc1 ho1
        try rw [List.nil_append] at HA
        have HB2 := Lib.hid (HB1.out.trans (hc1.below HB1.out.size (fun i hi => own_lit _ hi)))
        have HAA := Lib.hid HA
        clear HA hc1 ho1 hT s1
        go_wp2
        exact bodyPost_ret (v := .tuple #[.bool true, v1, .int .i64 ((d : Int) + (m : Int)), .bool true]) (by simp [results, Try.results126, go_sem]) rfl ⟨v1, by simp [gHas, gNext], by show App _ _ _ _ _ ((l.drop d).take m); rw [← HXS.out]; exact HAA.out, HB2.out⟩

theorem sameAt_far {l x : List Int} {i : Nat} (hi : i ≤ l.length) (h : l.length < i + x.length) : sameAt l i x = false := by
  unfold sameAt
  rw [beq_eq_false_iff_ne]
  intro e
  have := congrArg List.length e
  rw [List.length_take, List.length_drop] at this
  omega
set_option maxRecDepth 10000 in
set_option maxHeartbeats 1000000 in
theorem l3Same_any (l x : List Int) (A A' : Option Addr) (c c' : Nat) (F F' : Nat → Prop) (i : Nat) (w : World) (h : Ints w F A c l) (h' : Ints w F' A' c' x) (hn : l.length ≤ 4194304) (hi : i ≤ l.length) (hx : x.length ≤ 4194304) :
    Calls Try.prog 95 #[.slice A l.length c, .int .i64 (i : Int), .slice A' x.length c'] w fun e w' => e = .returned (.bool (sameAt l i x)) ∧ Below w.heap.size w w' := by
  have hl := h.1
  have hc := h.2.1
  have hl' := h'.1
  have hc' := h'.2.1
  by_cases hlen : l.length < i + x.length
  · have HQ := Lib.hid (sameAt_far (x := x) hi hlen)
    go_enter Try.func95, Try.ntmps95
    go_wp2
    go_ret
    exact ⟨ret_bool HQ.out.symm, Below.refl _ _⟩
  · go_enter Try.func95, Try.ntmps95
    go_wp2
    go_loopw [7] (fun q wr => ∃ k : Nat, k ≤ x.length ∧ q = .int .i64 k ∧ Hid ((l.drop i).take k = x.take k) ∧ Hid (Below w.heap.size w wr)) (fun q _ => x.length - (intOf q).toNat)
    case atStart => exact ⟨0, Nat.zero_le _, rfl, Lib.hid (by simp), Lib.hid (Below.refl _ _)⟩
    case round =>
      obtain ⟨k, hk, rfl, ht, hb⟩ := hrel
      by_cases hlt : k < x.length
      · have hlt' : i + k < l.length := by omega
        obtain ⟨ad, rfl, _, q⟩ := (h.below hb.out).int_at hlt'
        obtain ⟨ad', rfl, _, q'⟩ := (h'.below hb.out).int_at hlt
        have Q := grow_cell q
        have Q' := grow_cell q'
        have hdk : k < (l.drop i).length := by rw [List.length_drop]; omega
        have HD := Lib.hid (show (l.drop i)[k] = l[i + k] by rw [List.getElem_drop])
        clear q q'
        have hbr : ∀ g, Below w.heap.size w (grow wr g) := fun g => bthen hb.out (grow_below _ g)
        by_cases he : l[i + k] = x[k]
        · have n2 : (l[i + k] != x[k]) = false := by simp [he]
          have HE := Lib.hid he
          clear he
          go_wp2_with fail
          refine wp_region_grow_lit (by kernel_rfl) (by kernel_rfl) ?_
          repeat (go_big_quiet_step (fail))
          refine wpQuiet_nil ?_
          rintro _ ⟨g, rfl⟩
          have hbg := Lib.hid (hbr g)
          have HT := Lib.hid (show (l.drop i).take (k + 1) = x.take (k + 1) by rw [List.take_succ_eq_append_getElem hdk, List.take_succ_eq_append_getElem hlt, ht.out, HD.out, HE.out])
          clear hbr
          go_wp2
          go_roundw
          case rel => exact ⟨k + 1, by omega, by go_num, HT, hbg⟩
          case measure => simp [intOf]; omega
        · have n2 : (l[i + k] != x[k]) = true := by simp [he]
          have HQ := Lib.hid (show sameAt l i x = false by
            unfold sameAt
            rw [beq_eq_false_iff_ne]
            intro e
            have e2 : ((l.drop i).take x.length)[k]? = x[k]? := by rw [e]
            rw [List.getElem?_take_of_lt hlt, List.getElem?_eq_getElem hdk, List.getElem?_eq_getElem hlt] at e2
            injection e2 with e2
            rw [HD.out] at e2
            exact he e2)
          clear he
          go_wp2_with fail
          refine wp_region_grow_lit (by kernel_rfl) (by kernel_rfl) ?_
          repeat (go_big_quiet_step (fail))
          refine wpQuiet_nil ?_
          rintro _ ⟨g, rfl⟩
          have hbg := Lib.hid (hbr g)
          clear hbr
          go_wp2
          go_ret
          exact ⟨ret_bool HQ.out.symm, hbg.out⟩
      · have HQ := Lib.hid (show sameAt l i x = true by
          have := ht.out
          rw [show k = x.length by omega, List.take_length] at this
          unfold sameAt
          rw [this]
          simp)
        go_wp2
        go_ret
        exact ⟨ret_bool HQ.out.symm, hb.out⟩
end Go.Proofs.Ytomcjjehfocbmaa
