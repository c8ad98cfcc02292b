/- Messages of the old form: whether they are valid. -/
import Derived.Test.YtgnjnpfeofhniaaDoorOl
import Derived.Test.YtgnjnpfeofhniaaDoorB1
import Derived.Test.YtgnjnpfeofhniaaDoorS2
namespace Go.Proofs.YtgnjnpfeofhniaaDoor
set_option linter.unusedVariables false
set_option linter.unusedSimpArgs false
open Go.RowKit

def oldB (m : Old') : Bool := recB m.rec_ && (m.timed || decide (m.time = 0))
set_option maxRecDepth 20000 in
set_option maxHeartbeats 1000000 in
theorem keptValid_any (m : Old') (A A' : Option Addr) (c c' : Nat) (F : Nat → Prop) (w : World) (h : Ints w F A c m.key) (h' : Ints w F A' c' m.val) (hkey : m.key.length ≤ 1048576) (hval : m.val.length ≤ 1048576) :
    Calls Tryd.prog 25 #[.iface 42 (OV m A c A' c')] w fun e w' => e = .returned (.bool (oldB m)) ∧ Below w.heap.size w w' := by
  have hta : ∀ W, (Instr.typeAssert (.iface 42 (OV m A c A' c')) 102 42 true).run Tryd.prog W = .ok (.tuple #[OV m A c A' c', .bool true]) W := fun _ => by kernel_rfl
  go_enter Tryd.func25, Tryd.ntmps25
  go_wp2_with fail
  generalize hW : World.alloc _ _ = W
  obtain ⟨hA, b0, hz⟩ := alloc1 hW
  clear hW
  refine (kept_any m A A' c c' _ W (h.below b0) (h'.below b0) hkey hval).mono ?_
  rintro e w1 ⟨vk, vv, rfl, hC⟩
  have hb1 := hC.below
  obtain ⟨Ak, ck, rfl, hk⟩ := AppP.row hC.key
  obtain ⟨Av, cv, rfl, hv⟩ := AppP.row hC.val
  have hA1 := blk_below hA hb1
  have b1 := bthen b0 hb1
  have hk := hk.mono (F' := fun _ => True) (fun _ _ => trivial)
  have hv := hv.mono (F' := fun _ => True) (fun _ _ => trivial)
  clear hC hb1 hA b0
  go_wp2_with fail
  refine (RecordValid_any m.rec_ Ak Av ck cv _ w1 hk hv).mono ?_
  rintro e w2 ⟨rfl, hb2⟩
  have hA2 := blk_below hA1 hb2
  have b2 := Lib.hid (bthen b1 hb2)
  obtain ⟨q0, q1, q2, q3, q4, q5, q6, qf⟩ := sev hA2
  clear hb2 b1 hA1 hk hv
  cases hr : recB m.rec_
  · have HR := Lib.hid (show oldB m = false by unfold oldB; rw [hr]; rfl)
    clear hr
    go_wp2
    go_ret
    exact ⟨by rw [HR.out]; rfl, b2.out⟩
  · cases ht : m.timed
    · by_cases h0 : m.time = 0
      · have HR := Lib.hid (show oldB m = true by unfold oldB; rw [hr, ht, h0]; rfl)
        have e0 : (m.time == 0) = true := by simp [h0]
        clear hr h0
        rw [ht] at q1
        go_wp2
        go_ret
        exact ⟨by rw [HR.out]; rfl, b2.out⟩
      · have HR := Lib.hid (show oldB m = false by unfold oldB; rw [hr, ht]; simp [h0])
        have e0 : (m.time == 0) = false := by simp [h0]
        clear hr h0
        rw [ht] at q1
        go_wp2
        go_ret
        exact ⟨by rw [HR.out]; rfl, b2.out⟩
    · have HR := Lib.hid (show oldB m = true by unfold oldB; rw [hr, ht]; rfl)
      clear hr
      rw [ht] at q1
      go_wp2
      go_ret
      exact ⟨by rw [HR.out]; rfl, b2.out⟩

set_option maxHeartbeats 1000000 in
theorem OldValid_any (m : Old') (A A' : Option Addr) (c c' : Nat) (F : Nat → Prop) (w : World) (h : Ints w F A c m.key) (h' : Ints w F A' c' m.val) (hkey : m.key.length ≤ 1048576) (hval : m.val.length ≤ 1048576) :
    Calls Tryd.prog 13 #[OV m A c A' c'] w fun e w' => e = .returned (.bool (oldB m)) ∧ Below w.heap.size w w' := by
  go_enter Tryd.func13, Tryd.ntmps13
  go_wp2_with fail
  generalize hW : World.alloc _ _ = W
  obtain ⟨hA, b0, hz⟩ := alloc1 hW
  clear hW
  refine (keptValid_any m A A' c c' _ W (h.below b0) (h'.below b0) hkey hval).mono ?_
  rintro e w1 ⟨rfl, hb1⟩
  have b1 := Lib.hid (bthen b0 hb1)
  clear hb1 b0 hA
  go_wp2
  go_ret
  exact ⟨rfl, b1.out⟩
set_option maxRecDepth 20000 in
set_option maxHeartbeats 1000000 in
theorem OldValidS_any (m : Old') (A A' : Option Addr) (c c' : Nat) (F : Nat → Prop) (w : World) (h : Ints w F A c m.key) (h' : Ints w F A' c' m.val) (hkey : m.key.length ≤ 1048576) (hval : m.val.length ≤ 1048576) :
    Calls Tryd.prog 16 #[OV m A c A' c'] w fun e w' => e = .returned (.bool (oldB m)) ∧ Below w.heap.size w w' := by
  go_enter Tryd.func16, Tryd.ntmps16
  go_wp2_with fail
  generalize hW : World.alloc _ _ = W
  obtain ⟨hA, b0, hz⟩ := alloc1 hW
  clear hW
  refine (l11_any m A A' c c' _ W (h.below b0) (h'.below b0) hkey hval).mono ?_
  rintro e w1 ⟨vk, vv, rfl, hC⟩
  have hb1 := hC.below
  obtain ⟨Ak, ck, rfl, hk⟩ := AppP.row hC.key
  obtain ⟨Av, cv, rfl, hv⟩ := AppP.row hC.val
  have hA1 := blk_below hA hb1
  have b1 := bthen b0 hb1
  have hk := hk.mono (F' := fun _ => True) (fun _ _ => trivial)
  have hv := hv.mono (F' := fun _ => True) (fun _ _ => trivial)
  clear hC hb1 hA b0
  go_wp2_with fail
  refine (RecordValidS_any m.rec_ Ak Av ck cv _ w1 hk hv).mono ?_
  rintro e w2 ⟨rfl, hb2⟩
  have hA2 := blk_below hA1 hb2
  have b2 := Lib.hid (bthen b1 hb2)
  obtain ⟨q0, q1, q2, q3, q4, q5, q6, qf⟩ := sev hA2
  clear hb2 b1 hA1 hk hv
  cases hr : recB m.rec_
  · have HR := Lib.hid (show oldB m = false by unfold oldB; rw [hr]; rfl)
    clear hr
    go_wp2
    go_ret
    exact ⟨by rw [HR.out]; rfl, b2.out⟩
  · cases ht : m.timed
    · by_cases h0 : m.time = 0
      · have HR := Lib.hid (show oldB m = true by unfold oldB; rw [hr, ht, h0]; rfl)
        have e0 : (m.time == 0) = true := by simp [h0]
        clear hr h0
        rw [ht] at q1
        go_wp2
        go_ret
        exact ⟨by rw [HR.out]; rfl, b2.out⟩
      · have HR := Lib.hid (show oldB m = false by unfold oldB; rw [hr, ht]; simp [h0])
        have e0 : (m.time == 0) = false := by simp [h0]
        clear hr h0
        rw [ht] at q1
        go_wp2
        go_ret
        exact ⟨by rw [HR.out]; rfl, b2.out⟩
    · have HR := Lib.hid (show oldB m = true by unfold oldB; rw [hr, ht]; rfl)
      clear hr
      rw [ht] at q1
      go_wp2
      go_ret
      exact ⟨by rw [HR.out]; rfl, b2.out⟩
end Go.Proofs.YtgnjnpfeofhniaaDoor
