/- Records from and as bytes: the reference's names. -/
import Derived.Test.YtgnjnpfeofhniaaW11
namespace Go.Proofs.Ytgnjnpfeofhniaa
set_option linter.unusedVariables false
set_option linter.unusedSimpArgs false
open Go.RowKit

theorem RecordBytesS_any (r : Rec) (A A' : Option Addr) (c c' : Nat) (F : Nat → Prop) (o t : Int) (w : World) (hk : Ints w F A c r.key) (hv : Ints w F A' c' r.val) :
    Calls Try.prog 6 #[.agg #[.int .i64 r.off, .int .i64 r.time, .bool r.hk, .slice A r.key.length c, .bool r.hv, .slice A' r.val.length c'], .int .i64 o, .int .i64 t] w fun e w' =>
      ∃ v, e = .returned (.tuple #[v, .bool (recB r && baseB o t)]) ∧ App (Kind.int .i64) 3 w' w.heap.size v (recBytesOf r o t) ∧ Below w.heap.size w w' := by
  go_enter Try.func6, Try.ntmps6
  go_wp2_with fail
  generalize hW : World.alloc _ _ = W
  obtain ⟨hA, b1, hsW⟩ := alloc1 hW
  clear hW
  refine (RecordValidS_any r A A' c c' F W (hk.below b1) (hv.below b1)).mono ?_
  rintro e w2 ⟨rfl, hb2⟩
  have b2 := bthen b1 hb2
  have hA2 := blk_below hA hb2
  cases hr : recB r
  · have HQ := Lib.hid (show recBytesOf r o t = [] by unfold recBytesOf; rw [hr]; rfl)
    have HX := Lib.hid (App.lit (Kind.int .i64) 3 w2 w.heap.size b2.size)
    have HB := Lib.hid (bthen b2 (bal w2 (.cells #[] 3)))
    have HR0 := Lib.hid hr
    clear hr hb2 b1 b2 hA hA2
    go_wp2
    go_ret2
    exact ⟨_, by rw [HR0.out]; rfl, by rw [HQ.out]; exact HX.out, HB.out⟩
  · have HR := Lib.hid hr
    obtain ⟨z0, z1, z2, z3, z4, z5, zf⟩ := six hA2
    clear hr
    go_wp2_with fail
    refine (l3Base_any o t _).mono ?_
    rintro e w3 ⟨rfl, rfl⟩
    cases hbs : baseB o t
    · have HQ := Lib.hid (show recBytesOf r o t = [] by unfold recBytesOf; rw [hbs, Bool.and_false]; rfl)
      have HX := Lib.hid (App.lit (Kind.int .i64) 3 w2 w.heap.size b2.size)
      have HB := Lib.hid (bthen b2 (bal w2 (.cells #[] 3)))
      have HS0 := Lib.hid hbs
      clear hbs hb2 b1 b2 hA hA2
      go_wp2
      go_ret2
      exact ⟨_, by rw [HR.out, HS0.out]; rfl, by rw [HQ.out]; exact HX.out, HB.out⟩
    · have HQ := Lib.hid (show recBytesOf r o t = recBytes r o t by unfold recBytesOf; rw [HR.out, hbs]; rfl)
      have hbb : (0 ≤ o ∧ o ≤ 99999) ∧ (0 ≤ t ∧ t ≤ 99999) := by simpa [baseB, inB] using hbs
      have HS0 := Lib.hid hbs
      clear hbs
      go_wp2_with fail
      refine (l3Bytes_any r A A' c c' F o t w2 (hk.below b2) (hv.below b2) HR.out hbb.1 hbb.2).mono ?_
      rintro e w4 ⟨v, rfl, HA, hb4⟩
      have HAA := Lib.hid (App.from HA b2.size)
      have HB := Lib.hid (bthen b2 hb4)
      clear HA hb4 b2 b1 hb2 hbb
      go_wp2
      go_ret2
      exact ⟨_, by rw [HR.out, HS0.out]; rfl, by rw [HQ.out]; exact HAA.out, HB.out⟩

theorem rdV_far {l : List Int} {i : Nat} (h : l.length ≤ i) : rdV l i = none := rdGo_end _ _ _ _ _ h
end Go.Proofs.Ytgnjnpfeofhniaa
