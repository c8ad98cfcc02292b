/- Records from and as bytes: the program's own names. -/
import Derived.Test.YtgnjnpfeofhniaaV8
import Derived.Test.YtgnjnpfeofhniaaV9
namespace Go.Proofs.Ytgnjnpfeofhniaa
set_option linter.unusedVariables false
set_option linter.unusedSimpArgs false
open Go.RowKit

def recBytesOf (r : Rec) (o t : Int) : List Int := if recB r && baseB o t then recBytes r o t else []
set_option maxHeartbeats 2000000 in
theorem RecordBytes_any (r : Rec) (A A' : Option Addr) (c c' : Nat) (F : Nat → Prop) (o t : Int) (w : World) (hk : Ints w F A c r.key) (hv : Ints w F A' c' r.val) :
    Calls Try.prog 5 #[.agg #[.int .i64 r.off, .int .i64 r.time, .bool r.hk, .slice A r.key.length c, .bool r.hv, .slice A' r.val.length c'], .int .i64 o, .int .i64 t] w fun e w' =>
      ∃ v, e = .returned (.tuple #[v, .bool (recB r && baseB o t)]) ∧ App (Kind.int .i64) 3 w' w.heap.size v (recBytesOf r o t) ∧ Below w.heap.size w w' := by
  go_enter Try.func5, Try.ntmps5
  go_wp2_with fail
  generalize hW : World.alloc _ _ = W
  obtain ⟨hA, b1, hsW⟩ := alloc1 hW
  clear hW
  refine (RecordValid_any r A A' c c' F W (hk.below b1) (hv.below b1)).mono ?_
  rintro e w2 ⟨rfl, hb2⟩
  have b2 := bthen b1 hb2
  have hA2 := blk_below hA hb2
  cases hr : recB r
  · have HQ := Lib.hid (show recBytesOf r o t = [] by unfold recBytesOf; rw [hr]; rfl)
    have HB := Lib.hid b2
    have HR0 := Lib.hid hr
    clear hr hb2 b1 b2 hA hA2
    go_wp2
    go_ret2
    exact ⟨_, by rw [HR0.out]; rfl, by rw [HQ.out]; exact AppP.nil _ _ _ _, HB.out⟩
  · have HR := Lib.hid hr
    obtain ⟨z0, z1, z2, z3, z4, z5, zf⟩ := six hA2
    clear hr
    go_wp2_with fail
    refine (baseValid_any o t _).mono ?_
    rintro e w3 ⟨rfl, rfl⟩
    cases hbs : baseB o t
    · have HQ := Lib.hid (show recBytesOf r o t = [] by unfold recBytesOf; rw [hbs, Bool.and_false]; rfl)
      have HB := Lib.hid b2
      have HS0 := Lib.hid hbs
      clear hbs hb2 b1 b2 hA hA2
      go_wp2
      go_ret2
      exact ⟨_, by rw [HR.out, HS0.out]; rfl, by rw [HQ.out]; exact AppP.nil _ _ _ _, HB.out⟩
    · have HQ := Lib.hid (show recBytesOf r o t = recBytes r o t by unfold recBytesOf; rw [HR.out, hbs]; rfl)
      have hbb : (0 ≤ o ∧ o ≤ 99999) ∧ (0 ≤ t ∧ t ≤ 99999) := by simpa [baseB, inB] using hbs
      have HS0 := Lib.hid hbs
      clear hbs
      go_wp2_with fail
      refine (bytesFor_any r A A' c c' F o t w2 (hk.below b2) (hv.below b2) HR.out hbb.1 hbb.2).mono ?_
      rintro e w4 ⟨v, rfl, HA, hb4⟩
      have HAA := Lib.hid (App.from HA b2.size)
      have HB := Lib.hid (bthen b2 hb4)
      clear HA hb4 b2 b1 hb2 hbb
      go_wp2
      go_ret2
      exact ⟨_, by rw [HR.out, HS0.out]; rfl, by rw [HQ.out]; exact HAA.out, HB.out⟩

def recFromOf (l : List Int) (i o t : Int) : Option (Rec × Nat) := if bytesB l && baseB o t then rdAt l i o t else none
theorem recQ_none : recQ none = Rec.zero := rfl
set_option maxHeartbeats 2000000 in
theorem RecordFrom_any (l : List Int) (A : Option Addr) (c : Nat) (F : Nat → Prop) (i o t : Int) (w : World) (h : Ints w F A c l) (hn : l.length ≤ 4194304) :
    Calls Try.prog 8 #[.slice A l.length c, .int .i64 i, .int .i64 o, .int .i64 t] w fun e w' =>
      ∃ vk vv, e = .returned (.tuple #[.agg ((recQ (recFromOf l i o t)).vals vk vv), .int .i64 (nextOf (recFromOf l i o t) : Nat), .bool (recFromOf l i o t).isSome]) ∧ Copied w w' (recQ (recFromOf l i o t)) vk vv := by
  cases hb : bytesB l
  · have HQ := Lib.hid (show recFromOf l i o t = none by unfold recFromOf; rw [hb]; rfl)
    have HB := Lib.hid hb
    rw [HQ.out]
    clear hb
    go_enter Try.func8, Try.ntmps8
    go_wp2_with fail
    generalize hW : World.alloc _ _ = W
    obtain ⟨hA, b1, hsW⟩ := alloc1 hW
    clear hW
    refine (allBytes_any l A c _ W (h.below b1)).mono ?_
    rintro e w2 ⟨rfl, rfl⟩
    rw [HB.out]
    obtain ⟨x0, x1, x2, x3, x4, x5, xf⟩ := six hA
    have HW := Lib.hid b1
    clear b1 hA
    go_wp2
    exact bodyPost_ret (v := .tuple #[.agg ZREC, .int .i64 0, .bool false]) (by simp [results, Try.results8, go_sem, x0, x1, x2, x3, x4, x5]) rfl ⟨.slice none 0 0, .slice none 0 0, rfl, Copied.zero (HW.out.trans (zero6.below HW.out.size (fun i hi => by omega)))⟩
  · cases hbs : baseB o t
    · have HQ := Lib.hid (show recFromOf l i o t = none by unfold recFromOf; rw [hbs, Bool.and_false]; rfl)
      have HB := Lib.hid hb
      have HS := Lib.hid hbs
      rw [HQ.out]
      clear hb hbs
      go_enter Try.func8, Try.ntmps8
      go_wp2_with fail
      generalize hW : World.alloc _ _ = W
      obtain ⟨hA, b1, hsW⟩ := alloc1 hW
      clear hW
      refine (allBytes_any l A c _ W (h.below b1)).mono ?_
      rintro e w2 ⟨rfl, rfl⟩
      rw [HB.out]
      obtain ⟨x0, x1, x2, x3, x4, x5, xf⟩ := six hA
      have HW := Lib.hid b1
      clear b1 hA
      go_wp2_with fail
      refine (baseValid_any o t _).mono ?_
      rintro e w3 ⟨rfl, rfl⟩
      rw [HS.out]
      go_wp2
      exact bodyPost_ret (v := .tuple #[.agg ZREC, .int .i64 0, .bool false]) (by simp [results, Try.results8, go_sem, x0, x1, x2, x3, x4, x5]) rfl ⟨.slice none 0 0, .slice none 0 0, rfl, Copied.zero (HW.out.trans (zero6.below HW.out.size (fun i hi => by omega)))⟩
    · have HQ : recFromOf l i o t = rdAt l i o t := by unfold recFromOf; rw [hb, hbs]; rfl
      rw [HQ]
      clear HQ
      have hbb : (0 ≤ o ∧ o ≤ 99999) ∧ (0 ≤ t ∧ t ≤ 99999) := by simpa [baseB, inB] using hbs
      have HB := Lib.hid hb
      have HS := Lib.hid hbs
      obtain ⟨q, hq⟩ : ∃ q, q = rdAt l i o t := ⟨_, rfl⟩
      have HQ := Lib.hid hq
      rw [← hq]
      have HBB := Lib.hid hbb
      clear hb hbs hq hbb
      go_enter Try.func8, Try.ntmps8
      go_wp2_with fail
      generalize hW : World.alloc _ _ = W
      obtain ⟨hA, b1, hsW⟩ := alloc1 hW
      clear hW
      refine (allBytes_any l A c _ W (h.below b1)).mono ?_
      rintro e w2 ⟨rfl, rfl⟩
      rw [HB.out]
      go_wp2_with fail
      refine (baseValid_any o t _).mono ?_
      rintro e w3 ⟨rfl, rfl⟩
      rw [HS.out]
      go_wp2_with fail
      refine (recordAt_any l A c _ i o t W (h.below b1) HB.out hn HBB.out.1 HBB.out.2).mono ?_
      rintro e w4 ⟨vk, vv, rfl, hC⟩
      rw [← HQ.out] at hC ⊢
      obtain ⟨r, hr⟩ : ∃ r, r = recQ q := ⟨_, rfl⟩
      rw [← hr] at hC ⊢
      have HR := Lib.hid hr
      obtain ⟨Ak, ck, rfl, _⟩ := AppP.row hC.key
      obtain ⟨Av, cv, rfl, _⟩ := AppP.row hC.val
      have hA4 := blk_below hA hC.below
      have hgk := own_ge hC.key
      have hgv := own_ge hC.val
      obtain ⟨x0, x1, x2, x3, x4, x5, xf⟩ := six hA4
      have HC := Lib.hid ((hC.from b1).chg (Chg.setCells (fun b => b = w.heap.size) (g := w.heap.size) rfl [.int .i64 r.off, .int .i64 r.time, .bool r.hk, .slice Ak r.key.length ck, .bool r.hv, .slice Av r.val.length cv] 0 w4) (Nat.le_refl _) (fun e => by have := hgk _ e; omega) (fun e => by have := hgv _ e; omega))
      clear hC hgk hgv hA4 hA b1 hr
      go_wp2
      exact bodyPost_ret (v := .tuple #[.agg #[.int .i64 r.off, .int .i64 r.time, .bool r.hk, .slice Ak r.key.length ck, .bool r.hv, .slice Av r.val.length cv], .int .i64 (nextOf q : Nat), .bool q.isSome]) (by simp [results, Try.results8, go_sem, x0, x1, x2, x3, x4, x5]) rfl ⟨.slice Ak r.key.length ck, .slice Av r.val.length cv, by rw [← HR.out], by rw [← HR.out]; exact HC.out⟩
end Go.Proofs.Ytgnjnpfeofhniaa
