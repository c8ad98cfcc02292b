/- Records from and as bytes: the reference's names. -/
import Derived.Test.YtfflhenldegmmaaW11
namespace Go.Proofs.Ytfflhenldegmmaa
set_option linter.unusedVariables false
set_option linter.unusedSimpArgs false
open Go.RowKit

theorem RecordBytesS_any (r : Rec) (A A' : Option Addr) (c c' : Nat) (F : Nat → Prop) (o t : Int) (w : World) (hk : Ints w F A c r.key) (hv : Ints w F A' c' r.val) :
    Calls Try.prog 12 #[.agg #[.int .i64 r.off, .int .i64 r.time, .bool r.hk, .slice A r.key.length c, .bool r.hv, .slice A' r.val.length c'], .int .i64 o, .int .i64 t] w fun e w' =>
      ∃ v, e = .returned (.tuple #[v, .bool (recB r && baseB o t)]) ∧ App (Kind.int .i64) 3 w' w.heap.size v (recBytesOf r o t) ∧ Below w.heap.size w w' := by
  go_enter Try.func12, Try.ntmps12
  go_wp2_with fail
  generalize hW : World.alloc _ _ = W
  obtain ⟨hA, b1, hsW⟩ := alloc1 hW
  clear hW
  refine (RecordValidS_any r A A' c c' F W (hk.below b1) (hv.below b1)).mono ?_
  rintro e w2 ⟨rfl, hb2⟩
  have b2 := bthen b1 hb2
  have hA2 := blk_below hA hb2
  cases hr : recB r
  · have HQ := Lib.hid (show recBytesOf r o t = [] by unfold recBytesOf; rw [hr]; rfl)
    have HX := Lib.hid (App.lit (Kind.int .i64) 3 w2 w.heap.size b2.size)
    have HB := Lib.hid (bthen b2 (bal w2 (.cells #[] 3)))
    have HR0 := Lib.hid hr
    clear hr hb2 b1 b2 hA hA2
    go_wp2
    go_ret2
    exact ⟨_, by rw [HR0.out]; rfl, by rw [HQ.out]; exact HX.out, HB.out⟩
  · have HR := Lib.hid hr
    obtain ⟨z0, z1, z2, z3, z4, z5, zf⟩ := six hA2
    clear hr
    go_wp2_with fail
    refine (l3Base_any o t _).mono ?_
    rintro e w3 ⟨rfl, rfl⟩
    cases hbs : baseB o t
    · have HQ := Lib.hid (show recBytesOf r o t = [] by unfold recBytesOf; rw [hbs, Bool.and_false]; rfl)
      have HX := Lib.hid (App.lit (Kind.int .i64) 3 w2 w.heap.size b2.size)
      have HB := Lib.hid (bthen b2 (bal w2 (.cells #[] 3)))
      have HS0 := Lib.hid hbs
      clear hbs hb2 b1 b2 hA hA2
      go_wp2
      go_ret2
      exact ⟨_, by rw [HR.out, HS0.out]; rfl, by rw [HQ.out]; exact HX.out, HB.out⟩
    · have HQ := Lib.hid (show recBytesOf r o t = recBytes r o t by unfold recBytesOf; rw [HR.out, hbs]; rfl)
      have hbb : (0 ≤ o ∧ o ≤ 99999) ∧ (0 ≤ t ∧ t ≤ 99999) := by simpa [baseB, inB] using hbs
      have HS0 := Lib.hid hbs
      clear hbs
      go_wp2_with fail
      refine (l3Bytes_any r A A' c c' F o t w2 (hk.below b2) (hv.below b2) HR.out hbb.1 hbb.2).mono ?_
      rintro e w4 ⟨v, rfl, HA, hb4⟩
      have HAA := Lib.hid (App.from HA b2.size)
      have HB := Lib.hid (bthen b2 hb4)
      clear HA hb4 b2 b1 hb2 hbb
      go_wp2
      go_ret2
      exact ⟨_, by rw [HR.out, HS0.out]; rfl, by rw [HQ.out]; exact HAA.out, HB.out⟩

theorem rdV_far {l : List Int} {i : Nat} (h : l.length ≤ i) : rdV l i = none := rdGo_end _ _ _ _ _ h
set_option maxHeartbeats 2000000 in
theorem RecordFromS_any (l : List Int) (A : Option Addr) (c : Nat) (F : Nat → Prop) (i o t : Int) (w : World) (h : Ints w F A c l) (hn : l.length ≤ 4194304) :
    Calls Try.prog 16 #[.slice A l.length c, .int .i64 i, .int .i64 o, .int .i64 t] w fun e w' =>
      ∃ vk vv, e = .returned (.tuple #[.agg ((recQ (recFromOf l i o t)).vals vk vv), .int .i64 (nextOf (recFromOf l i o t) : Nat), .bool (recFromOf l i o t).isSome]) ∧ Copied w w' (recQ (recFromOf l i o t)) vk vv := by
  by_cases hgood : bytesB l = true ∧ 0 ≤ i ∧ baseB o t = true
  · obtain ⟨hb, hi, hbs⟩ := hgood
    have HQ : recFromOf l i o t = rdAt l i o t := by unfold recFromOf; rw [hb, hbs]; rfl
    rw [HQ]
    clear HQ
    have hbb : (0 ≤ o ∧ o ≤ 99999) ∧ (0 ≤ t ∧ t ≤ 99999) := by simpa [baseB, inB] using hbs
    have HB := Lib.hid hb
    have HS := Lib.hid hbs
    have HBB := Lib.hid hbb
    obtain ⟨p, hp⟩ := Int.eq_ofNat_of_zero_le hi
    have hrp : rdAt l i o t = rdRec l p o t := by unfold rdAt; rw [if_neg (by omega), hp]; rfl
    have HL3 : ∀ W, Ints W F A c l → Calls Try.prog 45 #[.slice A l.length c, .int .i64 i, .int .i64 o, .int .i64 t] W fun e w' =>
      ∃ vk vv, e = .returned (.tuple #[.agg ((recQ (rdAt l i o t)).vals vk vv), .int .i64 (nextOf (rdAt l i o t) : Nat), .bool (rdAt l i o t).isSome]) ∧ Copied W w' (recQ (rdAt l i o t)) vk vv := by
      intro W hW
      by_cases hpl : p < l.length
      · subst hp
        refine l3From_gen l A c F (p : Int) o t (rdV l p) W hW hb hn hbb.1 hbb.2 (fun U hU => l1From_any l A c F p U (hW.below hU) hb (by omega)) (fun e => by rw [hrp, rdRec_first e]) (fun x hx => ⟨p, rfl, by omega, hx⟩) nx_le
      · have e0 := rdV_far (l := l) (i := p) (by omega)
        refine l3From_gen l A c F i o t none W hW hb hn hbb.1 hbb.2 (fun U hU => l1From_far l A c F i U (hW.below hU) (by omega)) (fun _ => by rw [hrp, rdRec_first e0]) (fun x hx => by cases hx) (Nat.zero_le _)
    have HL3 := Lib.hid HL3
    obtain ⟨q, hq⟩ : ∃ q, q = rdAt l i o t := ⟨_, rfl⟩
    rw [← hq] at HL3 ⊢
    clear hb hbs hq hbb hrp hp
    go_enter Try.func16, Try.ntmps16
    go_wp2_with fail
    generalize hW : World.alloc _ _ = W
    obtain ⟨hA, b1, hsW⟩ := alloc1 hW
    clear hW
    refine (l1Ok_any l A c _ W (h.below b1)).mono ?_
    rintro e w2 ⟨rfl, rfl⟩
    rw [HB.out]
    have b2 := b1
    have hA2 := hA
    go_wp2_with fail
    refine (l3Base_any o t _).mono ?_
    rintro e w3 ⟨rfl, rfl⟩
    rw [HS.out]
    go_wp2_with fail
    refine (HL3.out W (h.below b2)).mono ?_
    rintro e w4 ⟨vk, vv, rfl, hC⟩
    obtain ⟨r, hr⟩ : ∃ r, r = recQ q := ⟨_, rfl⟩
    rw [← hr] at hC ⊢
    have HR := Lib.hid hr
    obtain ⟨Ak, ck, rfl, _⟩ := AppP.row hC.key
    obtain ⟨Av, cv, rfl, _⟩ := AppP.row hC.val
    have hA4 := blk_below hA2 hC.below
    have hgk := own_ge hC.key
    have hgv := own_ge hC.val
    obtain ⟨x0, x1, x2, x3, x4, x5, xf⟩ := six hA4
    have HC := Lib.hid ((hC.from b2).chg (Chg.setCells (fun b => b = w.heap.size) (g := w.heap.size) rfl [.int .i64 r.off, .int .i64 r.time, .bool r.hk, .slice Ak r.key.length ck, .bool r.hv, .slice Av r.val.length cv] 0 w4) (Nat.le_refl _) (fun e => by have := hgk _ e; omega) (fun e => by have := hgv _ e; omega))
    clear hC hgk hgv hA4 hA hA2 b1 b2 hr
    go_wp2
    exact bodyPost_ret (v := .tuple #[.agg #[.int .i64 r.off, .int .i64 r.time, .bool r.hk, .slice Ak r.key.length ck, .bool r.hv, .slice Av r.val.length cv], .int .i64 (nextOf q : Nat), .bool q.isSome]) (by simp [results, Try.results16, go_sem, x0, x1, x2, x3, x4, x5]) rfl ⟨.slice Ak r.key.length ck, .slice Av r.val.length cv, by rw [← HR.out], by rw [← HR.out]; exact HC.out⟩
  · have HQ := Lib.hid (show recFromOf l i o t = none by
      unfold recFromOf
      split
      · rename_i h
        rw [Bool.and_eq_true] at h
        unfold rdAt
        rw [if_pos (Classical.byContradiction fun hn => hgood ⟨h.1, by omega, h.2⟩)]
      · rfl)
    rw [HQ.out]
    have HG := Lib.hid hgood
    clear hgood
    go_enter Try.func16, Try.ntmps16
    go_wp2_with fail
    generalize hW : World.alloc _ _ = W
    obtain ⟨hA, b1, hsW⟩ := alloc1 hW
    clear hW
    refine (l1Ok_any l A c _ W (h.below b1)).mono ?_
    rintro e w2 ⟨rfl, rfl⟩
    have b2 := b1
    have hA2 := hA
    obtain ⟨x0, x1, x2, x3, x4, x5, xf⟩ := six hA2
    cases hb : bytesB l
    · have HW := Lib.hid b2
      clear b1 b2 hA hA2 hb
      go_wp2
      exact bodyPost_ret (v := .tuple #[.agg ZREC, .int .i64 0, .bool false]) (by simp [results, Try.results16, go_sem, x0, x1, x2, x3, x4, x5]) rfl ⟨.slice none 0 0, .slice none 0 0, rfl, Copied.zero (HW.out.trans (zero6.below HW.out.size (fun i hi => by omega)))⟩
    · by_cases hi : i < 0
      · have HW := Lib.hid b2
        clear b1 b2 hA hA2 hb
        go_wp2
        exact bodyPost_ret (v := .tuple #[.agg ZREC, .int .i64 0, .bool false]) (by simp [results, Try.results16, go_sem, x0, x1, x2, x3, x4, x5]) rfl ⟨.slice none 0 0, .slice none 0 0, rfl, Copied.zero (HW.out.trans (zero6.below HW.out.size (fun i hi => by omega)))⟩
      · have HS := Lib.hid (show baseB o t = false by
          cases hs : baseB o t with
          | false => rfl
          | true => exact absurd ⟨hb, by omega, hs⟩ HG.out)
        have HW := Lib.hid b2
        clear b1 b2 hA hA2 hb
        go_wp2_with fail
        refine (l3Base_any o t _).mono ?_
        rintro e w3 ⟨rfl, rfl⟩
        rw [HS.out]
        go_wp2
        exact bodyPost_ret (v := .tuple #[.agg ZREC, .int .i64 0, .bool false]) (by simp [results, Try.results16, go_sem, x0, x1, x2, x3, x4, x5]) rfl ⟨.slice none 0 0, .slice none 0 0, rfl, Copied.zero (HW.out.trans (zero6.below HW.out.size (fun i hi => by omega)))⟩
end Go.Proofs.Ytfflhenldegmmaa
