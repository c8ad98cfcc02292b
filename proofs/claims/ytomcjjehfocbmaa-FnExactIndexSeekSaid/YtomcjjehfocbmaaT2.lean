/- The arguments are copied. Records and batches are copied out of the arguments. Segments are copied out of the arguments. -/
import Derived.Test.YtomcjjehfocbmaaGa
namespace Go.Proofs.Ytomcjjehfocbmaa
set_option linter.unusedVariables false
set_option linter.unusedSimpArgs false
section
open Go.RowKit
theorem info_int : (Try.prog.info? 3).map (fun i => (i.zero, i.size, i.bytes)) = some (some (.int .i64 0), 1, 8) := by kernel_rfl

theorem toIntS_any (l : List Int) (A : Option Addr) (c : Nat) (F : Nat → Prop) (w : World) (h : Ints w F A c l) (hsm : l.length ≤ 1048576) :
    Calls Try.prog 13 #[.slice A l.length c] w fun e w' => ∃ A' c', e = .returned (.slice A' l.length c') ∧ XInts 3 w' (fun b => w.heap.size ≤ b) A' c' l ∧ Below w.heap.size w w' := by
  have hl := h.1
  have hc := h.2.1
  obtain ⟨cs, hcs, hmk⟩ := make_any (P := Try.prog) 22 3 _ 1 8 Try.underlying22 info_int l.length (by omega) (by omega)
  have Hcs := Lib.hid hcs
  clear hcs
  go_enter Try.func13, Try.ntmps13
  go_wp2
  generalize hW : World.alloc _ _ = W
  have hB : Blk W w.heap.size 3 (l.length * 1) := by rw [← hW, ← Hcs.out]; exact Blk.new _ _ _
  have hbW : Below w.heap.size w W := by rw [← hW]; exact bal _ _
  clear hW Hcs hmk
  have hF := XKind.Fill.start (k := XKind.int .i64) (F := fun b => w.heap.size < b) (n := l.length) hB
  go_loopw [4] (fun i wr => ∃ k : Nat, k ≤ l.length ∧ i = .int .i64 k ∧ (∃ B, (XKind.int .i64).Fill 3 wr (fun b => w.heap.size < b) w.heap.size l.length B (l.take k)) ∧ Hid (Below w.heap.size w wr)) (fun i _ => l.length - (intOf i).toNat)
  case atStart => exact ⟨0, Nat.zero_le _, rfl, ⟨_, by simpa using hF⟩, Lib.hid hbW⟩
  case round =>
    obtain ⟨k, hk, rfl, ⟨B, hf⟩, hb⟩ := hrel
    by_cases hlt : k < l.length
    · obtain ⟨ad, rfl, _, hcell⟩ := (h.below hb.out).int_at hlt
      obtain ⟨v, hv⟩ := hf.2.1.some (i := k) (by simp [XKind.int, Kind.int]; exact hlt)
      have hz := hf.2.1.frozen k
      go_wp2
      have hn := hf.next (o := k) (cs := [.int .i64 l[k]]) (x := l[k]) (G := fun _ => False) (by simp [XKind.int, Kind.int]; omega) (by simp; omega) rfl (fun _ h => h.elim) (List.take_succ_eq_append_getElem hlt)
      have hb2 := Lib.hid (hb.out.setCell (p := ⟨w.heap.size, k, none⟩) (Nat.le_refl _) (.int .i64 l[k]))
      go_roundw
      case rel => exact ⟨k + 1, by omega, by go_num, hn, hb2⟩
      case measure => simp [intOf]; omega
    · go_wp2
      go_ret
      have hk2 : k = l.length := by omega
      subst hk2
      rw [List.take_length] at hf
      exact ⟨_, _, rfl, (hf.done rfl (by omega)).mono (by rintro b (rfl | hb) <;> omega), hb.out⟩
end

section
open Go.RowKit
theorem info_rec : (Try.prog.info? 85).map (fun i => (i.zero, i.size, i.bytes)) = some (some (.agg #[.int .i64 0, .int .i64 0, .bool false, .slice none 0 0, .bool false, .slice none 0 0]), 6, 80) := by kernel_rfl
theorem info_bat : (Try.prog.info? 27).map (fun i => (i.zero, i.size, i.bytes)) = some (some (.agg #[.bool false, .bool false, .int .i64 0, .int .i64 0, .int .i64 0, .slice none 0 0]), 6, 56) := by kernel_rfl

end

section
open Go.RowKit

end
end Go.Proofs.Ytomcjjehfocbmaa
