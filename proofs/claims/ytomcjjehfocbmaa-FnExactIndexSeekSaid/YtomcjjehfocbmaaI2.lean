/- Entries: copies, sizes. -/
import Derived.Test.YtomcjjehfocbmaaI1
import Derived.Test.YtomcjjehfocbmaaEe
namespace Go.Proofs.Ytomcjjehfocbmaa
set_option linter.unusedVariables false
set_option linter.unusedSimpArgs false
open Go.RowKit

theorem szEntryS_any (n c : Nat) (A : Option Addr) (left : Int) (w : World) (h0 : 0 ≤ left) (h1 : left ≤ 1048576) (hn : n ≤ 9223372036854775807) :
    Calls Try.prog 11 #[.slice A n c, .int .i64 left] w fun e w' => e = .returned (.int .i64 (szOf n left)) ∧ w = w' := by
  by_cases h : left < n
  · rw [szOf_neg h]
    go_enter Try.func11, Try.ntmps11
    go_wp2
    go_ret
    exact ⟨rfl, rfl⟩
  · rw [szOf_pos (by omega)]
    go_enter Try.func11, Try.ntmps11
    go_wp2
    go_ret
    exact ⟨rfl, rfl⟩

theorem toEntry_any (r : Ent) (w : World) :
    Calls Try.prog 41 #[.agg #[.int .i64 r.off, .int .i64 r.place]] w fun e w' => e = .returned (.agg #[.int .i64 r.off, .int .i64 r.place]) ∧ Below w.heap.size w w' := by
  go_enter Try.func41, Try.ntmps41
  go_wp2
  refine bodyPost_ret (v := .agg #[.int .i64 r.off, .int .i64 r.place]) (by simp [results, Try.results41, go_sem]) rfl ⟨rfl, ?_⟩
  exact bthen (bthen (bal _ _) (bal _ _)) (bal _ _)

theorem info_ent : (Try.prog.info? 57).map (fun i => (i.zero, i.size, i.bytes)) = some (some (.agg #[.int .i64 0, .int .i64 0]), 2, 16) := by kernel_rfl

theorem toEntryS_any (rs : List Ent) (A : Option Addr) (c : Nat) (F : Nat → Prop) (w : World) (h : Ents w F A c rs) (hn : rs.length ≤ 1048576) :
    Calls Try.prog 14 #[.slice A rs.length c] w fun e w' => ∃ A' c', e = .returned (.slice A' rs.length c') ∧ XKind.ent.Row 57 w' (fun b => w.heap.size ≤ b) A' c' rs ∧ Below w.heap.size w w' := by
  have hl := h.1
  have hc := h.2.1
  obtain ⟨cs, hcs, hmk⟩ := make_any (P := Try.prog) 31 57 _ 2 16 Try.underlying31 info_ent rs.length (by omega) (by omega)
  have Hcs := Lib.hid hcs
  clear hcs
  go_enter Try.func14, Try.ntmps14
  go_wp2
  generalize hW : World.alloc _ _ = W
  have hB : Blk W w.heap.size 57 (rs.length * 2) := by rw [← hW, ← Hcs.out]; exact Blk.new _ _ _
  have hbW : Below w.heap.size w W := by rw [← hW]; exact bal _ _
  clear hW Hcs hmk
  have hF := XKind.Fill.start (k := XKind.ent) (F := fun b => w.heap.size < b) (n := rs.length) hB
  go_loopw [4] (fun i wr => ∃ k : Nat, k ≤ rs.length ∧ i = .int .i64 k ∧ (∃ B, XKind.ent.Fill 57 wr (fun b => w.heap.size < b) w.heap.size rs.length B (rs.take k)) ∧ Hid (Below w.heap.size w wr)) (fun i _ => rs.length - (intOf i).toNat)
  case atStart => exact ⟨0, Nat.zero_le _, rfl, ⟨_, by simpa using hF⟩, Lib.hid hbW⟩
  case round =>
    obtain ⟨k, hk, rfl, ⟨B, hf⟩, hb⟩ := hrel
    by_cases hlt : k < rs.length
    · obtain ⟨ad, rfl, _, q0, q1⟩ := (h.below hb.out).ent_at hlt
      go_wp2_with fail
      refine (toEntry_any rs[k] wr).mono ?_
      rintro e w1 ⟨rfl, hb1⟩
      clear q0 q1
      have hf1 := hf.below hb1
      have room : k * 2 + 2 ≤ rs.length * 2 := by omega
      obtain ⟨v0, q0⟩ := hf1.2.1.some (i := k * 2) (by show _ < rs.length * 2; omega)
      obtain ⟨v1, q1⟩ := hf1.2.1.some (i := k * 2 + 1) (by show _ < rs.length * 2; omega)
      have z0 := hf1.2.1.frozen (k * 2)
      have z1 := hf1.2.1.frozen (k * 2 + 1)
      have hlen : (rs.take k).length = k := by simp; omega
      have hn1 := Lib.hid (hf1.next (o := k * 2) (x := rs[k]) (cs := [.int .i64 rs[k].off, .int .i64 rs[k].place]) (G := fun _ => False) (by rw [hlen]; rfl) (by rw [hlen]; exact hlt) rfl (fun i hi => hi.elim) (List.take_succ_eq_append_getElem hlt))
      have hb2 := Lib.hid (bthen hb.out hb1)
      clear hf1 hf hb1 hlen
      go_wp2
      go_roundw
      case rel => exact ⟨k + 1, by omega, by go_num, hn1.out, Lib.hid ((hb2.out.setCell (p := ⟨_, k * 2, none⟩) (Nat.le_refl _) _).setCell (p := ⟨_, k * 2 + 1, none⟩) (Nat.le_refl _) _)⟩
      case measure => simp [intOf]; omega
    · go_wp2
      go_ret
      have hk2 : k = rs.length := by omega
      subst hk2
      rw [List.take_length] at hf
      exact ⟨_, _, rfl, (hf.done rfl (by omega)).mono (by rintro b (rfl | hb) <;> omega), hb.out⟩

end Go.Proofs.Ytomcjjehfocbmaa
