/- Entries: copies, sizes. -/
import Derived.Test.YtfielhfifeggiaaI1
namespace Go.Proofs.Ytfielhfifeggiaa
open Go.RowKit

theorem szEntryS_any (n c : Nat) (A : Option Addr) (left : Int) (w : World) (h0 : 0 ≤ left) (h1 : left ≤ 1048576) (hn : n ≤ 9223372036854775807) :
    Calls Try.prog 11 #[.slice A n c, .int .i64 left] w fun e w' => e = .returned (.int .i64 (szOf n left)) ∧ w = w' := by
  by_cases h : left < n
  · rw [szOf_neg h]
    go_enter Try.func11, Try.ntmps11
    go_wp2
    go_ret
    exact ⟨rfl, rfl⟩
  · rw [szOf_pos (by omega)]
    go_enter Try.func11, Try.ntmps11
    go_wp2
    go_ret
    exact ⟨rfl, rfl⟩

theorem toEntry_any (r : Ent) (w : World) :
    Calls Try.prog 22 #[.agg #[.int .i64 r.off, .int .i64 r.place]] w fun e w' => e = .returned (.agg #[.int .i64 r.off, .int .i64 r.place]) ∧ Below w.heap.size w w' := by
  go_enter Try.func22, Try.ntmps22
  go_wp2
  refine bodyPost_ret (v := .agg #[.int .i64 r.off, .int .i64 r.place]) (by simp [results, Try.results22, go_sem]) rfl ⟨rfl, ?_⟩
  exact bthen (bthen (bal _ _) (bal _ _)) (bal _ _)

theorem eqEntry_any (a b : Ent) (w : World) :
    Calls Try.prog 17 #[.agg #[.int .i64 a.off, .int .i64 a.place], .agg #[.int .i64 b.off, .int .i64 b.place]] w fun e w' => e = .returned (.bool (decide (a = b))) ∧ Below w.heap.size w w' := by
  obtain ⟨a0, a1⟩ := a
  obtain ⟨b0, b1⟩ := b
  by_cases h0 : a0 = b0 <;> by_cases h1 : a1 = b1
  · subst h0 h1
    go_enter Try.func17, Try.ntmps17
    go_wp2
    go_ret
    exact ⟨by simp, bthen (bal _ _) (bal _ _)⟩
  · subst h0
    have n1 : (a1 != b1) = true := by simp [h1]
    go_enter Try.func17, Try.ntmps17
    go_wp2
    go_ret
    exact ⟨by simp [h1], bthen (bal _ _) (bal _ _)⟩
  all_goals
    have n1 : (a0 != b0) = true := by simp [h0]
    go_enter Try.func17, Try.ntmps17
    go_wp2
    go_ret
    exact ⟨by simp [h0], bthen (bal _ _) (bal _ _)⟩

theorem info_ent : (Try.prog.info? 35).map (fun i => (i.zero, i.size, i.bytes)) = some (some (.agg #[.int .i64 0, .int .i64 0]), 2, 16) := by kernel_rfl

theorem toEntryS_any (rs : List Ent) (A : Option Addr) (c : Nat) (F : Nat → Prop) (w : World) (h : Ents w F A c rs) (hn : rs.length ≤ 1048576) :
    Calls Try.prog 12 #[.slice A rs.length c] w fun e w' => ∃ A' c', e = .returned (.slice A' rs.length c') ∧ XKind.ent.Row 35 w' (fun b => w.heap.size ≤ b) A' c' rs ∧ Below w.heap.size w w' := by
  have hl := h.1
  have hc := h.2.1
  obtain ⟨cs, hcs, hmk⟩ := make_any (P := Try.prog) 23 35 _ 2 16 Try.underlying23 info_ent rs.length (by omega) (by omega)
  have Hcs := Lib.hid hcs
  clear hcs
  go_enter Try.func12, Try.ntmps12
  go_wp2
  generalize hW : World.alloc _ _ = W
  have hB : Blk W w.heap.size 35 (rs.length * 2) := by rw [← hW, ← Hcs.out]; exact Blk.new _ _ _
  have hbW : Below w.heap.size w W := by rw [← hW]; exact bal _ _
  clear hW Hcs hmk
  have hF := XKind.Fill.start (k := XKind.ent) (F := fun b => w.heap.size < b) (n := rs.length) hB
  go_loopw [4] (fun i wr => ∃ k : Nat, k ≤ rs.length ∧ i = .int .i64 k ∧ (∃ B, XKind.ent.Fill 35 wr (fun b => w.heap.size < b) w.heap.size rs.length B (rs.take k)) ∧ Hid (Below w.heap.size w wr)) (fun i _ => rs.length - (intOf i).toNat)
  case atStart => exact ⟨0, Nat.zero_le _, rfl, ⟨_, by simpa using hF⟩, Lib.hid hbW⟩
  case round =>
    obtain ⟨k, hk, rfl, ⟨B, hf⟩, hb⟩ := hrel
    by_cases hlt : k < rs.length
    · obtain ⟨ad, rfl, _, q0, q1⟩ := (h.below hb.out).ent_at hlt
      go_wp2_with fail
      refine (toEntry_any rs[k] wr).mono ?_
      rintro e w1 ⟨rfl, hb1⟩
      clear q0 q1
      have hf1 := hf.below hb1
      have room : k * 2 + 2 ≤ rs.length * 2 := by omega
      obtain ⟨v0, q0⟩ := hf1.2.1.some (i := k * 2) (by show _ < rs.length * 2; omega)
      obtain ⟨v1, q1⟩ := hf1.2.1.some (i := k * 2 + 1) (by show _ < rs.length * 2; omega)
      have z0 := hf1.2.1.frozen (k * 2)
      have z1 := hf1.2.1.frozen (k * 2 + 1)
      have hlen : (rs.take k).length = k := by simp; omega
      have hn1 := Lib.hid (hf1.next (o := k * 2) (x := rs[k]) (cs := [.int .i64 rs[k].off, .int .i64 rs[k].place]) (G := fun _ => False) (by rw [hlen]; rfl) (by rw [hlen]; exact hlt) rfl (fun i hi => hi.elim) (List.take_succ_eq_append_getElem hlt))
      have hb2 := Lib.hid (bthen hb.out hb1)
      clear hf1 hf hb1 hlen
      go_wp2
      go_roundw
      case rel => exact ⟨k + 1, by omega, by go_num, hn1.out, Lib.hid ((hb2.out.setCell (p := ⟨_, k * 2, none⟩) (Nat.le_refl _) _).setCell (p := ⟨_, k * 2 + 1, none⟩) (Nat.le_refl _) _)⟩
      case measure => simp [intOf]; omega
    · go_wp2
      go_ret
      have hk2 : k = rs.length := by omega
      subst hk2
      rw [List.take_length] at hf
      exact ⟨_, _, rfl, (hf.done rfl (by omega)).mono (by rintro b (rfl | hb) <;> omega), hb.out⟩

theorem take_eq_succ {α : Type} {xs ys : List α} {k : Nat} (h : xs.take k = ys.take k) (hx : k < xs.length) (hy : k < ys.length) (he : xs[k] = ys[k]) : xs.take (k + 1) = ys.take (k + 1) := by
  rw [List.take_succ_eq_append_getElem hx, List.take_succ_eq_append_getElem hy, h, he]
theorem take_eq_end {α : Type} {xs ys : List α} {k : Nat} (h : xs.take k = ys.take k) (hx : xs.length ≤ k) (hl : xs.length = ys.length) : xs = ys := by
  rwa [List.take_of_length_le hx, List.take_of_length_le (by omega)] at h
theorem ne_of_get {α : Type} {xs ys : List α} {k : Nat} (hx : k < xs.length) (hy : k < ys.length) (he : xs[k] ≠ ys[k]) : xs ≠ ys := by
  rintro rfl; exact he rfl

set_option maxHeartbeats 1000000 in
theorem eqEntryS_any (xs ys : List Ent) (A A' : Option Addr) (c c' : Nat) (F F' : Nat → Prop) (w : World) (h : Ents w F A c xs) (h' : Ents w F' A' c' ys) :
    Calls Try.prog 13 #[.slice A xs.length c, .slice A' ys.length c'] w fun e w' => e = .returned (.bool (decide (xs = ys))) ∧ Below w.heap.size w w' := by
  have hl := h.1
  have hc := h.2.1
  have hl' := h'.1
  have hc' := h'.2.1
  by_cases hlen : xs.length = ys.length
  · have n1 : ((xs.length : Int) != (ys.length : Int)) = false := by simp [hlen]
    have HL := Lib.hid hlen
    have hy1 : xs.length ≤ ys.length := by omega
    clear hlen
    go_enter Try.func13, Try.ntmps13
    go_wp2
    go_loopw [5] (fun i wr => ∃ k : Nat, k ≤ xs.length ∧ i = .int .i64 k ∧ Hid (xs.take k = ys.take k) ∧ Hid (Below w.heap.size w wr)) (fun i _ => xs.length - (intOf i).toNat)
    case atStart => exact ⟨0, Nat.zero_le _, rfl, Lib.hid (by simp), Lib.hid (Below.refl _ _)⟩
    case round =>
      obtain ⟨k, hk, rfl, ht, hb⟩ := hrel
      by_cases hlt : k < xs.length
      · have hlt' : k < ys.length := by omega
        obtain ⟨ad, rfl, _, q0, q1⟩ := (h.below hb.out).ent_at hlt
        obtain ⟨ad2, rfl, _, p0, p1⟩ := (h'.below hb.out).ent_at hlt'
        have Q0 := grow_cell q0
        have Q1 := grow_cell q1
        have P0 := grow_cell p0
        have P1 := grow_cell p1
        have hcall : ∀ g, Calls Try.prog 17 #[.agg #[.int .i64 xs[k].off, .int .i64 xs[k].place], .agg #[.int .i64 ys[k].off, .int .i64 ys[k].place]] (grow wr g) fun e w'' => e = .returned (.bool (decide (xs[k] = ys[k]))) ∧ ∃ g', w'' = grow wr g' := fun g =>
          Calls.grow_of (eqEntry_any xs[k] ys[k] _)
        clear q0 q1 p0 p1
        have hbr : ∀ g, Below w.heap.size w (grow wr g) := fun g => bthen hb.out (grow_below _ g)
        by_cases he : xs[k] = ys[k]
        · rw [decide_eq_true he] at hcall
          have HE := Lib.hid he
          clear he
          go_wp2_with fail
          refine wp_region_grow_lit (by kernel_rfl) (by kernel_rfl) ?_
          repeat (go_big_quiet_step (exact hcall _))
          refine wpQuiet_nil ?_
          rintro _ ⟨g, rfl⟩
          have hbg := Lib.hid (hbr g)
          clear hbr hcall
          go_wp2
          go_roundw
          case rel => exact ⟨k + 1, by omega, by go_num, Lib.hid (take_eq_succ ht.out hlt hlt' HE.out), hbg⟩
          case measure => simp [intOf]; omega
        · rw [decide_eq_false he] at hcall
          have HE := Lib.hid (ne_of_get hlt hlt' he)
          clear he
          go_wp2_with fail
          refine wp_region_grow_lit (by kernel_rfl) (by kernel_rfl) ?_
          repeat (go_big_quiet_step (exact hcall _))
          refine wpQuiet_nil ?_
          rintro _ ⟨g, rfl⟩
          have hbg := Lib.hid (hbr g)
          clear hbr hcall
          go_wp2
          go_ret
          exact ⟨ret_bool (decide_eq_false HE.out).symm, hbg.out⟩
      · go_wp2
        go_ret
        exact ⟨ret_bool (decide_eq_true (take_eq_end ht.out (by omega) HL.out)).symm, hb.out⟩
  · have n1 : ((xs.length : Int) != (ys.length : Int)) = true := by simp; omega
    have hne : xs ≠ ys := fun e => hlen (by rw [e])
    clear hlen
    go_enter Try.func13, Try.ntmps13
    go_wp2
    go_ret
    exact ⟨ret_bool (decide_eq_false hne).symm, Below.refl _ _⟩
end Go.Proofs.Ytfielhfifeggiaa
