/- The arguments are copied. Records and batches are copied out of the arguments. Segments are copied out of the arguments. -/
import Derived.Test.YtfkhmmekdmochaaGa
namespace Go.Proofs.Ytfkhmmekdmochaa
set_option linter.unusedVariables false
set_option linter.unusedSimpArgs false
section
open Go.RowKit
theorem info_int : (Try.prog.info? 3).map (fun i => (i.zero, i.size, i.bytes)) = some (some (.int .i64 0), 1, 8) := by kernel_rfl

theorem toIntS_any (l : List Int) (A : Option Addr) (c : Nat) (F : Nat → Prop) (w : World) (h : Ints w F A c l) (hsm : l.length ≤ 1048576) :
    Calls Try.prog 113 #[.slice A l.length c] w fun e w' => ∃ A' c', e = .returned (.slice A' l.length c') ∧ XInts 3 w' (fun b => w.heap.size ≤ b) A' c' l ∧ Below w.heap.size w w' := by
  have hl := h.1
  have hc := h.2.1
  obtain ⟨cs, hcs, hmk⟩ := make_any (P := Try.prog) 25 3 _ 1 8 Try.underlying25 info_int l.length (by omega) (by omega)
  have Hcs := Lib.hid hcs
  clear hcs
  go_enter Try.func113, Try.ntmps113
  go_wp2
  generalize hW : World.alloc _ _ = W
  have hB : Blk W w.heap.size 3 (l.length * 1) := by rw [← hW, ← Hcs.out]; exact Blk.new _ _ _
  have hbW : Below w.heap.size w W := by rw [← hW]; exact bal _ _
  clear hW Hcs hmk
  have hF := XKind.Fill.start (k := XKind.int .i64) (F := fun b => w.heap.size < b) (n := l.length) hB
  go_loopw [4] (fun i wr => ∃ k : Nat, k ≤ l.length ∧ i = .int .i64 k ∧ (∃ B, (XKind.int .i64).Fill 3 wr (fun b => w.heap.size < b) w.heap.size l.length B (l.take k)) ∧ Hid (Below w.heap.size w wr)) (fun i _ => l.length - (intOf i).toNat)
  case atStart => exact ⟨0, Nat.zero_le _, rfl, ⟨_, by simpa using hF⟩, Lib.hid hbW⟩
  case round =>
    obtain ⟨k, hk, rfl, ⟨B, hf⟩, hb⟩ := hrel
    by_cases hlt : k < l.length
    · obtain ⟨ad, rfl, _, hcell⟩ := (h.below hb.out).int_at hlt
      obtain ⟨v, hv⟩ := hf.2.1.some (i := k) (by simp [XKind.int, Kind.int]; exact hlt)
      have hz := hf.2.1.frozen k
      go_wp2
      have hn := hf.next (o := k) (cs := [.int .i64 l[k]]) (x := l[k]) (G := fun _ => False) (by simp [XKind.int, Kind.int]; omega) (by simp; omega) rfl (fun _ h => h.elim) (List.take_succ_eq_append_getElem hlt)
      have hb2 := Lib.hid (hb.out.setCell (p := ⟨w.heap.size, k, none⟩) (Nat.le_refl _) (.int .i64 l[k]))
      go_roundw
      case rel => exact ⟨k + 1, by omega, by go_num, hn, hb2⟩
      case measure => simp [intOf]; omega
    · go_wp2
      go_ret
      have hk2 : k = l.length := by omega
      subst hk2
      rw [List.take_length] at hf
      exact ⟨_, _, rfl, (hf.done rfl (by omega)).mono (by rintro b (rfl | hb) <;> omega), hb.out⟩
end

section
open Go.RowKit
theorem toRecord_any (r : Rec) (A A' : Option Addr) (c c' : Nat) (F : Nat → Prop) (w : World) (h : Ints w F A c r.key) (h' : Ints w F A' c' r.val) (hk : r.key.length ≤ 1048576) (hv : r.val.length ≤ 1048576) :
    Calls Try.prog 101 #[.agg #[.int .i64 r.off, .int .i64 r.time, .bool r.hk, .slice A r.key.length c, .bool r.hv, .slice A' r.val.length c']] w fun e w' =>
      ∃ B b B' b', e = .returned (.agg #[.int .i64 r.off, .int .i64 r.time, .bool r.hk, .slice B r.key.length b, .bool r.hv, .slice B' r.val.length b']) ∧
        (XKind.rec_ 3).X w' (fun b => w.heap.size ≤ b) r [.int .i64 r.off, .int .i64 r.time, .bool r.hk, .slice B r.key.length b, .bool r.hv, .slice B' r.val.length b'] ∧ Below w.heap.size w w' := by
  go_enter Try.func101, Try.ntmps101
  go_wp2_with fail
  generalize hW : World.alloc _ _ = W
  obtain ⟨p1, p2, p3, hbW, hsz⟩ := alloc3 hW
  have HSZ := Lib.hid hsz
  clear hW hsz
  refine (toIntS_any r.key A c F W (h.below hbW) hk).mono ?_
  rintro e w1 ⟨B, b, rfl, hX1, hb1⟩
  replace p1 := blk_below p1 hb1
  replace p2 := blk_below p2 hb1
  replace p3 := blk_below p3 hb1
  have HP := Lib.hid (And.intro p1 (And.intro p2 p3))
  obtain ⟨a0, a1, a2, a3, a4, a5, _⟩ := six p1
  obtain ⟨b0, b1, b2, b3, b4, b5, bf⟩ := six p3
  clear p1 p2 p3
  have HX1 := Lib.hid hX1
  have HB1 := Lib.hid hb1
  clear hX1 hb1
  go_wp2_with fail
  generalize hW2 : World.setCell _ _ _ = W2
  obtain ⟨p1, p2, p3⟩ := HP.out
  clear HP a0 a1 a2 a3 a4 a5 b0 b1 b2 b3 b4 b5 bf
  have hc12 : Chg (fun i => w.heap.size < i ∧ i < W.heap.size) w1 W2 := by
    rw [← hW2]
    have hs := HSZ.out
    exact (Chg.set _ _ (p := ⟨w.heap.size + 1 + 1, 3, none⟩) ⟨by simp; omega, by simp; omega⟩ _).trans (Chg.set _ _ (p := ⟨w.heap.size + 1 + 1, 4, none⟩) ⟨by simp; omega, by simp; omega⟩ _)
  have q1 := blk_far (blk_far p1 (p := ⟨w.heap.size + 1 + 1, 3, none⟩) (by simp <;> omega) (.slice B r.key.length b)) (p := ⟨w.heap.size + 1 + 1, 4, none⟩) (by simp <;> omega) (.bool r.hv)
  have q2 := blk_far (blk_far p2 (p := ⟨w.heap.size + 1 + 1, 3, none⟩) (by simp <;> omega) (.slice B r.key.length b)) (p := ⟨w.heap.size + 1 + 1, 4, none⟩) (by simp <;> omega) (.bool r.hv)
  have q3 := blk_put (blk_put p3 3 (.slice B r.key.length b)) 4 (.bool r.hv)
  rw [hW2] at q1 q2 q3
  simp only [List.setIfInBounds_toArray, List.set_cons_zero, List.set_cons_succ] at q3
  clear hW2 p1 p2 p3
  have hb02 : Below w.heap.size w W2 := (bthen hbW HB1.out).trans (hc12.below (bthen hbW HB1.out).size (fun i hi => Nat.le_of_lt hi.1))
  refine (toIntS_any r.val A' c' F W2 (h'.below hb02) hv).mono ?_
  rintro e w3 ⟨B', b', rfl, hX2, hb3⟩
  replace q1 := blk_below q1 hb3
  replace q2 := blk_below q2 hb3
  replace q3 := blk_below q3 hb3
  obtain ⟨a0, a1, a2, a3, a4, a5, af⟩ := six q2
  obtain ⟨b0, b1, b2, b3, b4, b5, bf⟩ := six q3
  clear q1 q2 q3
  have HX2 := Lib.hid hX2
  have HB3 := Lib.hid hb3
  have HB2 := Lib.hid hb02
  have HC := Lib.hid hc12
  clear hX2 hb3 hb02 hc12
  go_wp2
  refine bodyPost_ret (v := .agg #[.int .i64 r.off, .int .i64 r.time, .bool r.hk, .slice B r.key.length b, .bool r.hv, .slice B' r.val.length b']) (by simp [results, Try.results101, go_sem, a0, a1, a2, a3, a4, a5]) rfl ⟨B, b, B', b', rfl, ?_, ?_⟩
  all_goals
    have hs := HSZ.out
    have hs1 := HB1.out.size
    have hs2 := HC.out.size
    generalize hWe : World.setCell _ _ _ = We
    have hce : Chg (fun i => w.heap.size < i ∧ i < W.heap.size) w3 We := by
      rw [← hWe]
      have h1 : w.heap.size < w.heap.size + 1 ∧ w.heap.size + 1 < W.heap.size := by omega
      have h2 : w.heap.size < w.heap.size + 1 + 1 ∧ w.heap.size + 1 + 1 < W.heap.size := by omega
      exact ((((((Chg.set _ _ (p := ⟨w.heap.size + 1 + 1, 5, none⟩) h2 _).trans (Chg.set _ _ (p := ⟨w.heap.size + 1, 0, none⟩) h1 _)).trans (Chg.set _ _ (p := ⟨w.heap.size + 1, 1, none⟩) h1 _)).trans (Chg.set _ _ (p := ⟨w.heap.size + 1, 2, none⟩) h1 _)).trans (Chg.set _ _ (p := ⟨w.heap.size + 1, 3, none⟩) h1 _)).trans (Chg.set _ _ (p := ⟨w.heap.size + 1, 4, none⟩) h1 _)).trans (Chg.set _ _ (p := ⟨w.heap.size + 1, 5, none⟩) h1 _)
    have hc1 : Chg (fun i => w.heap.size < i ∧ i < W.heap.size) w1 We := (HC.out.trans (Chg.of_below HB3.out)).trans hce
  · have hx1 := HX1.out.bound
    have hx2 := HX2.out.bound
    refine ⟨B, b, B', b', rfl, fun i => W.heap.size ≤ i ∧ i < w1.heap.size, fun i => W2.heap.size ≤ i ∧ i < w3.heap.size, ?_, ?_, ?_, ?_, ?_, ?_⟩
    · intro i h1 h2; omega
    · intro i h1; omega
    · intro i h1; omega
    · have := hc1.size
      have := hce.size
      intro i h1; omega
    · exact hx1.keep (hc1.same (fun i _ h1 h2 => by omega)) hc1.size
    · exact hx2.keep (hce.same (fun i _ h1 h2 => by omega)) hce.size
  · exact (bthen hbW HB1.out).trans (hc1.below (bthen hbW HB1.out).size (fun i hi => Nat.le_of_lt hi.1))

theorem info_rec : (Try.prog.info? 79).map (fun i => (i.zero, i.size, i.bytes)) = some (some (.agg #[.int .i64 0, .int .i64 0, .bool false, .slice none 0 0, .bool false, .slice none 0 0]), 6, 80) := by kernel_rfl
theorem info_bat : (Try.prog.info? 32).map (fun i => (i.zero, i.size, i.bytes)) = some (some (.agg #[.bool false, .bool false, .int .i64 0, .int .i64 0, .int .i64 0, .slice none 0 0]), 6, 56) := by kernel_rfl

theorem toRecordS_any (rs : List Rec) (A : Option Addr) (c : Nat) (F : Nat → Prop) (w : World) (h : Recs w F A c rs) (hn : rs.length ≤ 1048576) (hsm : ∀ r ∈ rs, r.small) :
    Calls Try.prog 81 #[.slice A rs.length c] w fun e w' => ∃ A' c', e = .returned (.slice A' rs.length c') ∧ XRecs 3 79 w' (fun b => w.heap.size ≤ b) A' c' rs ∧ Below w.heap.size w w' := by
  have hl := h.1
  have hc := h.2.1
  obtain ⟨cs, hcs, hmk⟩ := make_any (P := Try.prog) 30 79 _ 6 80 Try.underlying30 info_rec rs.length (by omega) (by omega)
  have Hcs := Lib.hid hcs
  clear hcs
  go_enter Try.func81, Try.ntmps81
  go_wp2
  generalize hW : World.alloc _ _ = W
  have hB : Blk W w.heap.size 79 (rs.length * 6) := by rw [← hW, ← Hcs.out]; exact Blk.new _ _ _
  have hbW : Below w.heap.size w W := by rw [← hW]; exact bal _ _
  clear hW Hcs hmk
  have hF := XKind.Fill.start (k := XKind.rec_ 3) (F := fun b => w.heap.size < b) (n := rs.length) hB
  go_loopw [4] (fun i wr => ∃ k : Nat, k ≤ rs.length ∧ i = .int .i64 k ∧ (∃ B, (XKind.rec_ 3).Fill 79 wr (fun b => w.heap.size < b) w.heap.size rs.length B (rs.take k)) ∧ Hid (Below w.heap.size w wr)) (fun i _ => rs.length - (intOf i).toNat)
  case atStart => exact ⟨0, Nat.zero_le _, rfl, ⟨_, by simpa using hF⟩, Lib.hid hbW⟩
  case round =>
    obtain ⟨k, hk, rfl, ⟨B, hf⟩, hb⟩ := hrel
    by_cases hlt : k < rs.length
    · obtain ⟨ad, Bk, bk, Bv, bv, rfl, _, hi1, hi2, q0, q1, q2, q3, q4, q5⟩ := (h.below hb.out).rec_at hlt
      have hsmk := hsm rs[k] (List.getElem_mem hlt)
      go_wp2_with fail
      refine (toRecord_any rs[k] Bk Bv bk bv F wr hi1 hi2 hsmk.1 hsmk.2).mono ?_
      rintro e w1 ⟨B1, b1, B2, b2, rfl, hX, hb1⟩
      clear q0 q1 q2 q3 q4 q5
      have hf1 := hf.below hb1
      have room : k * 6 + 6 ≤ rs.length * 6 := by omega
      obtain ⟨v0, q0⟩ := hf1.2.1.some (i := k * 6) (by show _ < rs.length * 6; omega)
      obtain ⟨v1, q1⟩ := hf1.2.1.some (i := k * 6 + 1) (by show _ < rs.length * 6; omega)
      obtain ⟨v2, q2⟩ := hf1.2.1.some (i := k * 6 + 2) (by show _ < rs.length * 6; omega)
      obtain ⟨v3, q3⟩ := hf1.2.1.some (i := k * 6 + 3) (by show _ < rs.length * 6; omega)
      obtain ⟨v4, q4⟩ := hf1.2.1.some (i := k * 6 + 4) (by show _ < rs.length * 6; omega)
      obtain ⟨v5, q5⟩ := hf1.2.1.some (i := k * 6 + 5) (by show _ < rs.length * 6; omega)
      have z0 := hf1.2.1.frozen (k * 6)
      have z1 := hf1.2.1.frozen (k * 6 + 1)
      have z2 := hf1.2.1.frozen (k * 6 + 2)
      have z3 := hf1.2.1.frozen (k * 6 + 3)
      have z4 := hf1.2.1.frozen (k * 6 + 4)
      have z5 := hf1.2.1.frozen (k * 6 + 5)
      have hlen : (rs.take k).length = k := by simp; omega
      have hn1 := Lib.hid (hf1.next (o := k * 6) (x := rs[k]) (by rw [hlen]; rfl) (by rw [hlen]; exact hlt) hX (fun i hi => ⟨by have := hb.out.size; have := hf.2.1.lt; omega, by have := hf.2.1.lt; omega, by have := hf.1; omega⟩) (List.take_succ_eq_append_getElem hlt))
      have hb2 := Lib.hid (bthen hb.out hb1)
      clear hX hf1 hf hb1 hi1 hi2 hlen
      go_wp2
      go_roundw
      case rel => exact ⟨k + 1, by omega, by go_num, hn1.out, Lib.hid ((((((hb2.out.setCell (p := ⟨_, k * 6, none⟩) (Nat.le_refl _) _).setCell (p := ⟨_, k * 6 + 1, none⟩) (Nat.le_refl _) _).setCell (p := ⟨_, k * 6 + 2, none⟩) (Nat.le_refl _) _).setCell (p := ⟨_, k * 6 + 3, none⟩) (Nat.le_refl _) _).setCell (p := ⟨_, k * 6 + 4, none⟩) (Nat.le_refl _) _).setCell (p := ⟨_, k * 6 + 5, none⟩) (Nat.le_refl _) _)⟩
      case measure => simp [intOf]; omega
    · go_wp2
      go_ret
      have hk2 : k = rs.length := by omega
      subst hk2
      rw [List.take_length] at hf
      exact ⟨_, _, rfl, (hf.done rfl (by omega)).mono (by rintro b (rfl | hb) <;> omega), hb.out⟩

theorem toBatch_any (b : Bat) (A : Option Addr) (c : Nat) (F : Nat → Prop) (w : World) (h : Recs w F A c b.recs) (hsm : b.small) :
    Calls Try.prog 57 #[.agg #[.bool b.packed, .bool b.mark, .int .i64 b.prod, .int .i64 b.epoch, .int .i64 b.seq, .slice A b.recs.length c]] w fun e w' =>
      ∃ B d, e = .returned (.agg #[.bool b.packed, .bool b.mark, .int .i64 b.prod, .int .i64 b.epoch, .int .i64 b.seq, .slice B b.recs.length d]) ∧
        (XKind.bat 3 79).X w' (fun i => w.heap.size ≤ i) b [.bool b.packed, .bool b.mark, .int .i64 b.prod, .int .i64 b.epoch, .int .i64 b.seq, .slice B b.recs.length d] ∧ Below w.heap.size w w' := by
  go_enter Try.func57, Try.ntmps57
  go_wp2_with fail
  generalize hW : World.alloc _ _ = W
  obtain ⟨p1, p2, p3, hbW, hsz⟩ := alloc3 hW
  have HSZ := Lib.hid hsz
  clear hW hsz p1
  refine (toRecordS_any b.recs A c F W (h.below hbW) hsm.1 hsm.2).mono ?_
  rintro e w1 ⟨B, d, rfl, hX1, hb1⟩
  replace p2 := blk_below p2 hb1
  replace p3 := blk_below p3 hb1
  obtain ⟨a0, a1, a2, a3, a4, a5, af⟩ := six p2
  obtain ⟨b0, b1, b2, b3, b4, b5, bf⟩ := six p3
  clear p2 p3
  have HX1 := Lib.hid hX1
  have HB1 := Lib.hid hb1
  clear hX1 hb1
  go_wp2
  refine bodyPost_ret (v := .agg #[.bool b.packed, .bool b.mark, .int .i64 b.prod, .int .i64 b.epoch, .int .i64 b.seq, .slice B b.recs.length d]) (by simp [results, Try.results57, go_sem, a0, a1, a2, a3, a4, a5]) rfl ⟨B, d, rfl, ?_, ?_⟩
  all_goals
    have hs := HSZ.out
    have hs1 := HB1.out.size
    generalize hWe : World.setCell _ _ _ = We
    have hce : Chg (fun i => w.heap.size < i ∧ i < W.heap.size) w1 We := by
      rw [← hWe]
      have h1 : w.heap.size < w.heap.size + 1 ∧ w.heap.size + 1 < W.heap.size := by omega
      have h2 : w.heap.size < w.heap.size + 1 + 1 ∧ w.heap.size + 1 + 1 < W.heap.size := by omega
      exact ((((((Chg.set _ _ (p := ⟨w.heap.size + 1 + 1, 5, none⟩) h2 _).trans (Chg.set _ _ (p := ⟨w.heap.size + 1, 0, none⟩) h1 _)).trans (Chg.set _ _ (p := ⟨w.heap.size + 1, 1, none⟩) h1 _)).trans (Chg.set _ _ (p := ⟨w.heap.size + 1, 2, none⟩) h1 _)).trans (Chg.set _ _ (p := ⟨w.heap.size + 1, 3, none⟩) h1 _)).trans (Chg.set _ _ (p := ⟨w.heap.size + 1, 4, none⟩) h1 _)).trans (Chg.set _ _ (p := ⟨w.heap.size + 1, 5, none⟩) h1 _)
  · exact ⟨B, d, rfl, (HX1.out.keep (hce.same (fun i _ h1 h2 => by omega)) hce.size).mono (fun i hi => by omega)⟩
  · exact (bthen hbW HB1.out).trans (hce.below (bthen hbW HB1.out).size (fun i hi => Nat.le_of_lt hi.1))

theorem szIntS_any (n c : Nat) (A : Option Addr) (left : Int) (w : World) (h0 : 0 ≤ left) (h1 : left ≤ 1048576) (hn : n ≤ 9223372036854775807) :
    Calls Try.prog 112 #[.slice A n c, .int .i64 left] w fun e w' => e = .returned (.int .i64 (szOf n left)) ∧ w = w' := by
  by_cases h : left < n
  · rw [szOf_neg h]
    go_enter Try.func112, Try.ntmps112
    go_wp2
    go_ret
    exact ⟨rfl, rfl⟩
  · rw [szOf_pos (by omega)]
    go_enter Try.func112, Try.ntmps112
    go_wp2
    go_ret
    exact ⟨rfl, rfl⟩

theorem szRecord_any (r : Rec) (A A' : Option Addr) (c c' : Nat) (left : Int) (w : World) (h0 : 0 ≤ left) (h1 : left ≤ 1048576) (hk : r.key.length ≤ 9223372036854775807) (hv : r.val.length ≤ 9223372036854775807) :
    Calls Try.prog 100 #[.agg #[.int .i64 r.off, .int .i64 r.time, .bool r.hk, .slice A r.key.length c, .bool r.hv, .slice A' r.val.length c'], .int .i64 left] w fun e w' =>
      e = .returned (.int .i64 (szOf (wtR r) left)) ∧ Below w.heap.size w w' := by
  by_cases h : left < r.key.length
  · rw [szOf_neg (by unfold wtR; omega)]
    go_enter Try.func100, Try.ntmps100
    go_wp2_with (go_at_call 112; refine (szIntS_any _ _ _ _ _ h0 h1 hk).mono ?_; rintro e w' ⟨rfl, rfl⟩; rw [szOf_neg h])
    go_ret
    exact ⟨rfl, bal _ _⟩
  · by_cases h' : left - r.key.length < r.val.length
    · rw [szOf_neg (by unfold wtR; omega)]
      go_enter Try.func100, Try.ntmps100
      go_wp2_with fail
      refine (szIntS_any _ _ _ _ _ h0 h1 hk).mono ?_
      rintro e w' ⟨rfl, rfl⟩
      rw [szOf_pos (by omega)]
      go_wp2_with fail
      refine (szIntS_any _ _ _ _ _ (by omega) (by omega) hv).mono ?_
      rintro e w' ⟨rfl, rfl⟩
      rw [szOf_neg h']
      go_wp2
      go_ret
      exact ⟨rfl, bal _ _⟩
    · rw [szOf_pos (by unfold wtR; omega)]
      go_enter Try.func100, Try.ntmps100
      go_wp2_with fail
      refine (szIntS_any _ _ _ _ _ h0 h1 hk).mono ?_
      rintro e w' ⟨rfl, rfl⟩
      rw [szOf_pos (by omega)]
      go_wp2_with fail
      refine (szIntS_any _ _ _ _ _ (by omega) (by omega) hv).mono ?_
      rintro e w' ⟨rfl, rfl⟩
      rw [szOf_pos (by omega)]
      go_wp2
      go_ret
      exact ⟨ret_int (by unfold wtR; omega), bal _ _⟩

theorem szRecordS_any (rs : List Rec) (A : Option Addr) (c : Nat) (F : Nat → Prop) (left : Int) (w : World) (h : Recs w F A c rs) (h0 : 0 ≤ left) (h1 : left ≤ 1048576) :
    Calls Try.prog 80 #[.slice A rs.length c, .int .i64 left] w fun e w' => e = .returned (.int .i64 (szOf (wtRs rs) left)) ∧ Below w.heap.size w w' := by
  have hl := h.1
  have hc := h.2.1
  by_cases hs : left < rs.length
  · rw [szOf_neg (by unfold wtRs; omega)]
    go_enter Try.func80, Try.ntmps80
    go_wp2
    go_ret
    exact ⟨rfl, Below.refl _ _⟩
  · go_enter Try.func80, Try.ntmps80
    go_wp2
    go_loopw [1, 5] (fun v i wr => ∃ k : Nat, k ≤ rs.length ∧ i = .int .i64 k ∧ (∃ n : Int, v = .int .i64 n ∧ 0 ≤ n ∧ n ≤ 1048576 ∧ Hid (n = left - rs.length - ((rs.take k).map wtR).sum)) ∧ Hid (Below w.heap.size w wr)) (fun _ i _ => rs.length - (intOf i).toNat)
    case atStart => exact ⟨0, Nat.zero_le _, rfl, ⟨_, rfl, by omega, by omega, Lib.hid (by simp)⟩, Lib.hid (Below.refl _ _)⟩
    case round =>
      obtain ⟨k, hk, rfl, ⟨n, rfl, hn0, hn1, hn⟩, hb⟩ := hrel
      by_cases hlt : k < rs.length
      · obtain ⟨ad, B, b, B', b', rfl, _, hi1, hi2, q0, q1, q2, q3, q4, q5⟩ := (h.below hb.out).rec_at hlt
        have hle1 := hi1.1
        have hle2 := hi1.2.1
        have hle3 := hi2.1
        have hle4 := hi2.2.1
        by_cases hw : n < wtR rs[k]
        · go_wp2_with (go_at_call 100; refine (szRecord_any rs[k] B B' b b' n wr hn0 hn1 (by omega) (by omega)).mono ?_; rintro e w1 ⟨rfl, hb1⟩; rw [szOf_neg hw])
          go_ret
          refine ⟨ret_int ?_, bthen hb.out hb1⟩
          have h3 := hn.out
          have h4 := sum_take_le wtR rs (k + 1)
          rw [sum_take_succ wtR rs k hlt] at h4
          rw [szOf_neg]
          unfold wtRs
          omega
        · go_wp2_with (go_at_call 100; refine (szRecord_any rs[k] B B' b b' n wr hn0 hn1 (by omega) (by omega)).mono ?_; rintro e w1 ⟨rfl, hb1⟩; rw [szOf_pos (by omega)])
          go_roundw
          case rel => exact ⟨k + 1, by omega, by go_num, ⟨_, rfl, by omega, by omega, Lib.hid (by rw [sum_take_succ wtR rs k hlt, hn.out]; omega)⟩, Lib.hid (bthen hb.out hb1)⟩
          case measure => simp [intOf]; omega
      · go_wp2
        go_ret
        refine ⟨ret_int ?_, hb.out⟩
        have h3 := hn.out
        have hk2 : k = rs.length := by omega
        subst hk2
        rw [List.take_length] at h3
        rw [szOf_pos] <;> unfold wtRs <;> omega

theorem szBatch_any (b : Bat) (A : Option Addr) (c : Nat) (F : Nat → Prop) (left : Int) (w : World) (h : Recs w F A c b.recs) (h0 : 0 ≤ left) (h1 : left ≤ 1048576) :
    Calls Try.prog 56 #[.agg #[.bool b.packed, .bool b.mark, .int .i64 b.prod, .int .i64 b.epoch, .int .i64 b.seq, .slice A b.recs.length c], .int .i64 left] w fun e w' =>
      e = .returned (.int .i64 (szOf (wtB b) left)) ∧ Below w.heap.size w w' := by
  have hu : wtB b = wtRs b.recs := rfl
  rw [hu]
  clear hu
  by_cases hs : left < wtRs b.recs
  · rw [szOf_neg hs]
    go_enter Try.func56, Try.ntmps56
    go_wp2_with (go_at_call 80; refine (szRecordS_any b.recs A c F left _ (h.below (bal _ _)) h0 h1).mono ?_; rintro e w1 ⟨rfl, hb1⟩; rw [szOf_neg hs])
    go_ret
    exact ⟨rfl, bthen (bal _ _) hb1⟩
  · rw [szOf_pos (by omega)]
    go_enter Try.func56, Try.ntmps56
    go_wp2_with (go_at_call 80; refine (szRecordS_any b.recs A c F left _ (h.below (bal _ _)) h0 h1).mono ?_; rintro e w1 ⟨rfl, hb1⟩; rw [szOf_pos (by omega)])
    go_ret
    exact ⟨rfl, bthen (bal _ _) hb1⟩
end

section
open Go.RowKit

theorem toBatchS_any (bs : List Bat) (A : Option Addr) (c : Nat) (F : Nat → Prop) (w : World) (h : Bats w F A c bs) (hn : bs.length ≤ 1048576) (hsm : ∀ b ∈ bs, b.small) :
    Calls Try.prog 27 #[.slice A bs.length c] w fun e w' => ∃ A' c', e = .returned (.slice A' bs.length c') ∧ XBats 3 79 32 w' (fun b => w.heap.size ≤ b) A' c' bs ∧ Below w.heap.size w w' := by
  have hl := h.1
  have hc := h.2.1
  obtain ⟨cs, hcs, hmk⟩ := make_any (P := Try.prog) 23 32 _ 6 56 Try.underlying23 info_bat bs.length (by omega) (by omega)
  have Hcs := Lib.hid hcs
  clear hcs
  go_enter Try.func27, Try.ntmps27
  go_wp2
  generalize hW : World.alloc _ _ = W
  have hB : Blk W w.heap.size 32 (bs.length * 6) := by rw [← hW, ← Hcs.out]; exact Blk.new _ _ _
  have hbW : Below w.heap.size w W := by rw [← hW]; exact bal _ _
  clear hW Hcs hmk
  have hF := XKind.Fill.start (k := XKind.bat 3 79) (F := fun b => w.heap.size < b) (n := bs.length) hB
  go_loopw [4] (fun i wr => ∃ k : Nat, k ≤ bs.length ∧ i = .int .i64 k ∧ (∃ B, (XKind.bat 3 79).Fill 32 wr (fun b => w.heap.size < b) w.heap.size bs.length B (bs.take k)) ∧ Hid (Below w.heap.size w wr)) (fun i _ => bs.length - (intOf i).toNat)
  case atStart => exact ⟨0, Nat.zero_le _, rfl, ⟨_, by simpa using hF⟩, Lib.hid hbW⟩
  case round =>
    obtain ⟨k, hk, rfl, ⟨B, hf⟩, hb⟩ := hrel
    by_cases hlt : k < bs.length
    · obtain ⟨ad, Bk, bk, rfl, _, hi1, q0, q1, q2, q3, q4, q5⟩ := (h.below hb.out).bat_at hlt
      have hsmk := hsm bs[k] (List.getElem_mem hlt)
      go_wp2_with fail
      refine (toBatch_any bs[k] Bk bk F wr hi1 hsmk).mono ?_
      rintro e w1 ⟨B1, b1, rfl, hX, hb1⟩
      clear q0 q1 q2 q3 q4 q5
      have hf1 := hf.below hb1
      have room : k * 6 + 6 ≤ bs.length * 6 := by omega
      obtain ⟨v0, q0⟩ := hf1.2.1.some (i := k * 6) (by show _ < bs.length * 6; omega)
      obtain ⟨v1, q1⟩ := hf1.2.1.some (i := k * 6 + 1) (by show _ < bs.length * 6; omega)
      obtain ⟨v2, q2⟩ := hf1.2.1.some (i := k * 6 + 2) (by show _ < bs.length * 6; omega)
      obtain ⟨v3, q3⟩ := hf1.2.1.some (i := k * 6 + 3) (by show _ < bs.length * 6; omega)
      obtain ⟨v4, q4⟩ := hf1.2.1.some (i := k * 6 + 4) (by show _ < bs.length * 6; omega)
      obtain ⟨v5, q5⟩ := hf1.2.1.some (i := k * 6 + 5) (by show _ < bs.length * 6; omega)
      have z0 := hf1.2.1.frozen (k * 6)
      have z1 := hf1.2.1.frozen (k * 6 + 1)
      have z2 := hf1.2.1.frozen (k * 6 + 2)
      have z3 := hf1.2.1.frozen (k * 6 + 3)
      have z4 := hf1.2.1.frozen (k * 6 + 4)
      have z5 := hf1.2.1.frozen (k * 6 + 5)
      have hlen : (bs.take k).length = k := by simp; omega
      have hn1 := Lib.hid (hf1.next (o := k * 6) (x := bs[k]) (by rw [hlen]; rfl) (by rw [hlen]; exact hlt) hX (fun i hi => ⟨by have := hb.out.size; have := hf.2.1.lt; omega, by have := hf.2.1.lt; omega, by have := hf.1; omega⟩) (List.take_succ_eq_append_getElem hlt))
      have hb2 := Lib.hid (bthen hb.out hb1)
      clear hX hf1 hf hb1 hi1 hlen
      go_wp2
      go_roundw
      case rel => exact ⟨k + 1, by omega, by go_num, hn1.out, Lib.hid ((((((hb2.out.setCell (p := ⟨_, k * 6, none⟩) (Nat.le_refl _) _).setCell (p := ⟨_, k * 6 + 1, none⟩) (Nat.le_refl _) _).setCell (p := ⟨_, k * 6 + 2, none⟩) (Nat.le_refl _) _).setCell (p := ⟨_, k * 6 + 3, none⟩) (Nat.le_refl _) _).setCell (p := ⟨_, k * 6 + 4, none⟩) (Nat.le_refl _) _).setCell (p := ⟨_, k * 6 + 5, none⟩) (Nat.le_refl _) _)⟩
      case measure => simp [intOf]; omega
    · go_wp2
      go_ret
      have hk2 : k = bs.length := by omega
      subst hk2
      rw [List.take_length] at hf
      exact ⟨_, _, rfl, (hf.done rfl (by omega)).mono (by rintro b (rfl | hb) <;> omega), hb.out⟩

theorem szBatchS_any (bs : List Bat) (A : Option Addr) (c : Nat) (F : Nat → Prop) (left : Int) (w : World) (h : Bats w F A c bs) (h0 : 0 ≤ left) (h1 : left ≤ 1048576) :
    Calls Try.prog 26 #[.slice A bs.length c, .int .i64 left] w fun e w' => e = .returned (.int .i64 (szOf (wtBs bs) left)) ∧ Below w.heap.size w w' := by
  have hl := h.1
  have hc := h.2.1
  by_cases hs : left < bs.length
  · rw [szOf_neg (by unfold wtBs; omega)]
    go_enter Try.func26, Try.ntmps26
    go_wp2
    go_ret
    exact ⟨rfl, Below.refl _ _⟩
  · go_enter Try.func26, Try.ntmps26
    go_wp2
    go_loopw [1, 5] (fun v i wr => ∃ k : Nat, k ≤ bs.length ∧ i = .int .i64 k ∧ (∃ n : Int, v = .int .i64 n ∧ 0 ≤ n ∧ n ≤ 1048576 ∧ Hid (n = left - bs.length - ((bs.take k).map wtB).sum)) ∧ Hid (Below w.heap.size w wr)) (fun _ i _ => bs.length - (intOf i).toNat)
    case atStart => exact ⟨0, Nat.zero_le _, rfl, ⟨_, rfl, by omega, by omega, Lib.hid (by simp)⟩, Lib.hid (Below.refl _ _)⟩
    case round =>
      obtain ⟨k, hk, rfl, ⟨n, rfl, hn0, hn1, hn⟩, hb⟩ := hrel
      by_cases hlt : k < bs.length
      · obtain ⟨ad, B, b, rfl, _, hi1, q0, q1, q2, q3, q4, q5⟩ := (h.below hb.out).bat_at hlt
        have hle1 := hi1.1
        have hle2 := hi1.2.1
        by_cases hw : n < wtB bs[k]
        · go_wp2_with (go_at_call 56; refine (szBatch_any bs[k] B b F n wr hi1 hn0 hn1).mono ?_; rintro e w1 ⟨rfl, hb1⟩; rw [szOf_neg hw])
          go_ret
          refine ⟨ret_int ?_, bthen hb.out hb1⟩
          have h3 := hn.out
          have h4 := sum_take_le wtB bs (k + 1)
          rw [sum_take_succ wtB bs k hlt] at h4
          rw [szOf_neg]
          unfold wtBs
          omega
        · go_wp2_with (go_at_call 56; refine (szBatch_any bs[k] B b F n wr hi1 hn0 hn1).mono ?_; rintro e w1 ⟨rfl, hb1⟩; rw [szOf_pos (by omega)])
          go_roundw
          case rel => exact ⟨k + 1, by omega, by go_num, ⟨_, rfl, by omega, by omega, Lib.hid (by rw [sum_take_succ wtB bs k hlt, hn.out]; omega)⟩, Lib.hid (bthen hb.out hb1)⟩
          case measure => simp [intOf]; omega
      · go_wp2
        go_ret
        refine ⟨ret_int ?_, hb.out⟩
        have h3 := hn.out
        have hk2 : k = bs.length := by omega
        subst hk2
        rw [List.take_length] at h3
        rw [szOf_pos] <;> unfold wtBs <;> omega
end
end Go.Proofs.Ytfkhmmekdmochaa
