/- Copies of batches. -/
import Derived.Test.YtlgcajjoimcdhaaAx
import Derived.Test.YtlgcajjoimcdhaaC2
namespace Go.Proofs.Ytlgcajjoimcdhaa
set_option linter.unusedVariables false
set_option linter.unusedSimpArgs false
open Go.RowKit

theorem info_recC : (Try.prog.info? 33).map (fun i => (i.zero, i.size, i.bytes)) = some (some (.agg #[.int .i64 0, .int .i64 0, .bool false, .slice none 0 0, .bool false, .slice none 0 0]), 6, 80) := by kernel_rfl
theorem info_batC : (Try.prog.info? 30).map (fun i => (i.zero, i.size, i.bytes)) = some (some (.agg #[.bool false, .bool false, .int .i64 0, .int .i64 0, .int .i64 0, .slice none 0 0]), 6, 56) := by kernel_rfl
/-- Parts that can be copied. -/
def Rec.short (r : Rec) : Prop := r.key.length ≤ 1048576 ∧ r.val.length ≤ 1048576

set_option maxHeartbeats 2000000 in
theorem copyRecords_any (rs : List Rec) (A : Option Addr) (c : Nat) (F : Nat → Prop) (w : World) (h : Recs w F A c rs) (hn : rs.length ≤ 1000) (hsm : ∀ r ∈ rs, r.short) :
    Calls Try.prog 80 #[.slice A rs.length c] w fun e w' => ∃ v B, e = .returned v ∧ AppX RX 33 w' (fun b => w.heap.size ≤ b) B v rs ∧ Below w.heap.size w w' := by
  have hl := h.1
  have hc := h.2.1
  have hbd := h.bound bnd_rec
  obtain ⟨cs, hcs, hmk⟩ := make_room (P := Try.prog) 28 33 _ 6 80 Try.underlying28 info_recC rs.length (by omega) (by omega)
  have hX := AppX.made RX 33 w (fun b => w.heap.size ≤ b) cs rs.length (by omega) hcs (Nat.le_refl _)
  have HB1 := Lib.hid (bal w (.cells cs 33))
  have HSM := Lib.hid hsm
  clear hcs hsm
  go_enter Try.func80, Try.ntmps80
  go_wp2_with fail
  go_loopw [3, 11] (fun v i wr => ∃ k : Nat, k ≤ rs.length ∧ i = .int .i64 k ∧ (∃ B, AppX RX 33 wr (fun b => w.heap.size ≤ b) B v (rs.take k)) ∧ Hid (Below w.heap.size w wr)) (fun _ i _ => rs.length - (intOf i).toNat)
  case atStart => exact ⟨0, Nat.zero_le _, rfl, ⟨_, hX⟩, HB1⟩
  case round =>
    obtain ⟨k, hk, rfl, ⟨B, HA⟩, HB⟩ := hrel
    clear hX HB1 hmk
    by_cases hlt : k < rs.length
    · obtain ⟨ad2, C1, d1, C2, d2, rfl, _, hi1, hi2, q0, q1, q2, q3, q4, q5⟩ := (hbd.below HB.out).rec_at hlt
      obtain ⟨A1, c1, rfl, hl1, hc1⟩ := HA.toP.slice_
      have HE := Lib.hid (List.take_succ_eq_append_getElem hlt)
      have hxl : (rs.take k).length = k := by rw [List.length_take]; omega
      obtain ⟨xs, hxs⟩ : ∃ xs, xs = rs.take k := ⟨_, rfl⟩
      rw [← hxs] at HA HE hl1 hxl
      rw [← hxs]
      clear hxs
      have hxk : xs.length ≤ 999 := by omega
      have HX := Lib.hid HA
      have hsm := HSM.out _ (List.getElem_mem hlt)
      unfold Rec.short at hsm
      have hge := HX.out.ge
      have HWS := Lib.hid HB.out.size
      clear HA hxl
      go_wp2_with fail
      generalize hW : World.alloc _ _ = W
      obtain ⟨_, b1, hzW⟩ := alloc1 hW
      clear hW
      refine (copyOf_any rs[k] C1 C2 d1 d2 _ _ (hi1.below b1) (hi2.below b1) (by omega) (by omega)).mono ?_
      rintro e w4 ⟨vk, vv, rfl, hCp⟩
      obtain ⟨Ak, ck, rfl, _⟩ := AppP.row hCp.key
      obtain ⟨Av, cv, rfl, _⟩ := AppP.row hCp.val
      have b4 := bthen b1 hCp.below
      have X4 := Lib.hid (HX.out.below b4)
      have XK := Lib.hid hCp.x
      have B4 := Lib.hid (bthen HB.out b4)
      clear q0 q1 q2 q3 q4 q5 hi1 hi2 b4 b1
      go_wp2_with (at_builtin; go_loud (refine wpList_appX RX X4.out rfl _ _ 28 (.agg #[.int .i64 0, .int .i64 0, .bool false, .slice none 0 0, .bool false, .slice none 0 0]) 80 rfl Try.underlying28 (by kernel_rfl) rfl (by decide) rs[k] _ _ rfl rfl XK.out (fun b hb => ⟨by have := HWS.out; omega, by have := HX.out.1; omega⟩) (by simp [Value.oneCell']) (fun b hb => by have := B4.out.size; omega) (by omega) (by omega) ?_))
      intro v1 w5 HA5 hc5 ho5
      have B5 := Lib.hid (B4.out.trans (hc5.below B4.out.size (fun i hi => (hge i hi).1)))
      rw [← HE.out] at HA5
      clear hc5 ho5 hge X4 XK hCp
      go_wp2
      go_roundw
      case rel => exact ⟨k + 1, by omega, by go_num, ⟨_, HA5⟩, B5⟩
      case measure => simp [intOf]; omega
    · have hk2 : k = rs.length := by omega
      subst hk2
      rw [List.take_length] at HA
      go_wp2
      go_ret
      exact ⟨_, _, rfl, HA, HB.out⟩

set_option maxHeartbeats 2000000 in
theorem copyOfB_any (b : Bat) (A : Option Addr) (c : Nat) (F : Nat → Prop) (w : World) (h : Recs w F A c b.recs) (hn : b.recs.length ≤ 1000) (hsm : ∀ r ∈ b.recs, r.short) :
    Calls Try.prog 59 #[.agg #[.bool b.packed, .bool b.mark, .int .i64 b.prod, .int .i64 b.epoch, .int .i64 b.seq, .slice A b.recs.length c]] w fun e w' =>
      ∃ B d, e = .returned (.agg #[.bool b.packed, .bool b.mark, .int .i64 b.prod, .int .i64 b.epoch, .int .i64 b.seq, .slice B b.recs.length d]) ∧ XRecs 3 33 w' (fun i => w.heap.size ≤ i) B d b.recs ∧ Below w.heap.size w w' := by
  go_enter Try.func59, Try.ntmps59
  go_wp2_with fail
  generalize hW : World.alloc _ _ = W
  obtain ⟨hA, hB, b1, hsW⟩ := alloc2 hW
  clear hW
  refine (copyRecords_any b.recs A c _ _ (h.below b1) hn hsm).mono ?_
  rintro e w2 ⟨v, Bd, rfl, HX, hb2⟩
  obtain ⟨A2, c2, rfl, hr⟩ := HX.row
  have hA2 := blk_below hA hb2
  have hB2 := blk_below hB hb2
  have b2 := bthen b1 hb2
  have hr := hr.bound
  obtain ⟨q0, q1, q2, q3, q4, q5, qf⟩ := six hA2
  obtain ⟨X, hX⟩ : ∃ X, X = w2.setCell ⟨w.heap.size, 5, none⟩ (.slice A2 b.recs.length c2) := ⟨_, rfl⟩
  have hAX := blk_put hA2 5 (.slice A2 b.recs.length c2)
  rw [← hX] at hAX
  have hBX : X.heap[w.heap.size + 1]? = some (.cells #[.bool false, .bool false, .int .i64 0, .int .i64 0, .int .i64 0, .slice none 0 0] 30 (0, 0)) := by rw [hX]; exact blk_far hB2 (p := ⟨w.heap.size, 5, none⟩) (by simp) _
  have cX : Chg (fun i => i = w.heap.size) w2 X := by rw [hX]; exact Chg.set (fun i => i = w.heap.size) w2 (p := ⟨w.heap.size, 5, none⟩) rfl _
  have hAX' : X.heap[w.heap.size]? = some (.cells #[.bool b.packed, .bool b.mark, .int .i64 b.prod, .int .i64 b.epoch, .int .i64 b.seq, .slice A2 b.recs.length c2] 30 (0, 0)) := by simpa using hAX
  have hs2 := hb2.size
  have hrX := hr.keep (w' := X) (cX.same (fun i _ h1 h2 => by have := h1.1; omega)) cX.size
  have bX : Below w.heap.size w X := b2.trans (cX.below b2.size (fun i hi => by omega))
  have hzX : w.heap.size + 1 < X.heap.size := by have := cX.size; omega
  have cZ : Chg (fun i => i = w.heap.size + 1) X ((((((X.setCell ⟨w.heap.size + 1, 0, none⟩ (.bool b.packed)).setCell ⟨w.heap.size + 1, 1, none⟩ (.bool b.mark)).setCell ⟨w.heap.size + 1, 2, none⟩ (.int .i64 b.prod)).setCell ⟨w.heap.size + 1, 3, none⟩ (.int .i64 b.epoch)).setCell ⟨w.heap.size + 1, 4, none⟩ (.int .i64 b.seq)).setCell ⟨w.heap.size + 1, 5, none⟩ (.slice A2 b.recs.length c2)) :=
    Chg.setCells (fun i => i = w.heap.size + 1) rfl [.bool b.packed, .bool b.mark, .int .i64 b.prod, .int .i64 b.epoch, .int .i64 b.seq, .slice A2 b.recs.length c2] 0 X
  have HZ := Lib.hid ((hrX.keep (cZ.same (fun i _ h1 h2 => by have := h1.1; omega)) cZ.size).mono (F' := fun i => w.heap.size ≤ i) (fun i hi => by have := hi.1; omega))
  have BZ := Lib.hid (bX.trans (cZ.below bX.size (fun i hi => by omega)))
  have HX2 := Lib.hid hX
  have HBX := Lib.hid hBX
  obtain ⟨u0, u1, u2, u3, u4, u5, uf⟩ := six hB2
  clear hX hAX hAX' hBX cX hrX bX cZ HX hr hA hB hA2 hB2 b1 b2 hb2
  go_wp2
  rw [← HX2.out]
  refine bodyPost_ret (v := .agg #[.bool b.packed, .bool b.mark, .int .i64 b.prod, .int .i64 b.epoch, .int .i64 b.seq, .slice A2 b.recs.length c2]) ?_ rfl ⟨_, _, rfl, HZ.out, BZ.out⟩
  obtain ⟨z0, z1, z2, z3, z4, z5, zf⟩ := six HBX.out
  simp [results, Try.results59, go_sem, z0, z1, z2, z3, z4, z5]

set_option maxHeartbeats 2000000 in
theorem copyBatches_any (bs : List Bat) (A : Option Addr) (c : Nat) (F : Nat → Prop) (w : World) (h : Bats w F A c bs) (hn : bs.length ≤ 1000) (hln : ∀ b ∈ bs, b.recs.length ≤ 1000) (hsm : ∀ b ∈ bs, ∀ r ∈ b.recs, r.short) :
    Calls Try.prog 60 #[.slice A bs.length c] w fun e w' => ∃ v B, e = .returned v ∧ AppX BX 30 w' (fun b => w.heap.size ≤ b) B v bs ∧ Below w.heap.size w w' := by
  have hl := h.1
  have hc := h.2.1
  have hbd := h.bound bnd_bat
  obtain ⟨cs, hcs, hmk⟩ := make_room (P := Try.prog) 23 30 _ 6 56 Try.underlying23 info_batC bs.length (by omega) (by omega)
  have hX := AppX.made BX 30 w (fun b => w.heap.size ≤ b) cs bs.length (by omega) hcs (Nat.le_refl _)
  have HB1 := Lib.hid (bal w (.cells cs 30))
  have HSM := Lib.hid hsm
  have HLN := Lib.hid hln
  clear hcs hsm hln
  go_enter Try.func60, Try.ntmps60
  go_wp2_with fail
  go_loopw [3, 11] (fun v i wr => ∃ k : Nat, k ≤ bs.length ∧ i = .int .i64 k ∧ (∃ B, AppX BX 30 wr (fun b => w.heap.size ≤ b) B v (bs.take k)) ∧ Hid (Below w.heap.size w wr)) (fun _ i _ => bs.length - (intOf i).toNat)
  case atStart => exact ⟨0, Nat.zero_le _, rfl, ⟨_, hX⟩, HB1⟩
  case round =>
    obtain ⟨k, hk, rfl, ⟨B, HA⟩, HB⟩ := hrel
    clear hX HB1 hmk
    by_cases hlt : k < bs.length
    · obtain ⟨ad2, C1, d1, rfl, _, hi1, q0, q1, q2, q3, q4, q5⟩ := (hbd.below HB.out).bat_at hlt
      obtain ⟨A1, c1, rfl, hl1, hc1⟩ := HA.toP.slice_
      have HE := Lib.hid (List.take_succ_eq_append_getElem hlt)
      have hxl : (bs.take k).length = k := by rw [List.length_take]; omega
      obtain ⟨xs, hxs⟩ : ∃ xs, xs = bs.take k := ⟨_, rfl⟩
      rw [← hxs] at HA HE hl1 hxl
      rw [← hxs]
      clear hxs
      have hxk : xs.length ≤ 999 := by omega
      have HX := Lib.hid HA
      have hge := HX.out.ge
      have HWS := Lib.hid HB.out.size
      clear HA hxl
      go_wp2_with fail
      generalize hW : World.alloc _ _ = W
      obtain ⟨_, b1, hzW⟩ := alloc1 hW
      clear hW
      refine (copyOfB_any bs[k] C1 d1 _ _ (hi1.below b1) (HLN.out _ (List.getElem_mem hlt)) (HSM.out _ (List.getElem_mem hlt))).mono ?_
      rintro e w4 ⟨Bk, dk, rfl, hCp, hb4⟩
      have b4 := bthen b1 hb4
      have X4 := Lib.hid (HX.out.below b4)
      have XK := Lib.hid (show BX.X w4 (fun i => W.heap.size ≤ i) bs[k] [.bool bs[k].packed, .bool bs[k].mark, .int .i64 bs[k].prod, .int .i64 bs[k].epoch, .int .i64 bs[k].seq, .slice Bk bs[k].recs.length dk] from ⟨Bk, dk, rfl, hCp⟩)
      have B4 := Lib.hid (bthen HB.out b4)
      clear q0 q1 q2 q3 q4 q5 hi1 b4 b1 hb4 hCp
      go_wp2_with (at_builtin; go_loud (refine wpList_appX BX X4.out rfl _ _ 23 (.agg #[.bool false, .bool false, .int .i64 0, .int .i64 0, .int .i64 0, .slice none 0 0]) 56 rfl Try.underlying23 (by kernel_rfl) rfl (by decide) bs[k] _ _ rfl rfl XK.out (fun b hb => ⟨by have := HWS.out; omega, by have := HX.out.1; omega⟩) (by simp [Value.oneCell']) (fun b hb => by have := B4.out.size; omega) (by omega) (by omega) ?_))
      intro v1 w5 HA5 hc5 ho5
      have B5 := Lib.hid (B4.out.trans (hc5.below B4.out.size (fun i hi => (hge i hi).1)))
      rw [← HE.out] at HA5
      clear hc5 ho5 hge X4 XK
      go_wp2
      go_roundw
      case rel => exact ⟨k + 1, by omega, by go_num, ⟨_, HA5⟩, B5⟩
      case measure => simp [intOf]; omega
    · have hk2 : k = bs.length := by omega
      subst hk2
      rw [List.take_length] at HA
      go_wp2
      go_ret
      exact ⟨_, _, rfl, HA, HB.out⟩

set_option maxHeartbeats 2000000 in
theorem l12Batch_any (b : Bat) (A : Option Addr) (c : Nat) (F : Nat → Prop) (w : World) (h : Recs w F A c b.recs) (hn : b.recs.length ≤ 1000) (hsm : ∀ r ∈ b.recs, r.short) :
    Calls Try.prog 65 #[.agg #[.bool b.packed, .bool b.mark, .int .i64 b.prod, .int .i64 b.epoch, .int .i64 b.seq, .slice A b.recs.length c]] w fun e w' =>
      ∃ B d, e = .returned (.agg #[.bool b.packed, .bool b.mark, .int .i64 b.prod, .int .i64 b.epoch, .int .i64 b.seq, .slice B b.recs.length d]) ∧ XRecs 3 33 w' (fun i => w.heap.size ≤ i) B d b.recs ∧ Below w.heap.size w w' := by
  have hl := h.1
  have hc := h.2.1
  have hbd := h.bound bnd_rec
  have HSM := Lib.hid hsm
  clear hsm
  go_enter Try.func65, Try.ntmps65
  go_wp2_with fail
  generalize hW : World.alloc _ _ = W
  obtain ⟨hA, hB, _, b1, hsW⟩ := alloc3 hW
  have hX : AppX RX 33 W (fun i => w.heap.size + 1 < i) (w.heap.size + 1 + 1 + 1) (.slice (some ⟨w.heap.size + 1 + 1, 0, none⟩) 0 0) [] := by
    rw [← hW]
    have := AppX.lit RX 33 ((w.alloc (.cells #[.bool b.packed, .bool b.mark, .int .i64 b.prod, .int .i64 b.epoch, .int .i64 b.seq, .slice A b.recs.length c] 30)).alloc (.cells #[.bool false, .bool false, .int .i64 0, .int .i64 0, .int .i64 0, .slice none 0 0] 30)) (fun i => w.heap.size + 1 < i) (by simp)
    simpa using this
  clear hW
  have HA0 := Lib.hid hA
  have HB0 := Lib.hid hB
  have HL0 := Lib.hid b1
  clear hA hB b1
  go_loopw [3, 4] (fun v i wr => ∃ k : Nat, k ≤ b.recs.length ∧ i = .int .i64 k ∧ (∃ B, AppX RX 33 wr (fun i => w.heap.size + 1 < i) B v (b.recs.take k)) ∧
    Hid (wr.heap[w.heap.size]? = some (.cells #[.bool b.packed, .bool b.mark, .int .i64 b.prod, .int .i64 b.epoch, .int .i64 b.seq, .slice A b.recs.length c] 30 (0, 0))) ∧
    Hid (wr.heap[w.heap.size + 1]? = some (.cells #[.bool false, .bool false, .int .i64 0, .int .i64 0, .int .i64 0, .slice none 0 0] 30 (0, 0))) ∧ Hid (Below w.heap.size w wr)) (fun _ i _ => b.recs.length - (intOf i).toNat)
  case atStart => exact ⟨0, Nat.zero_le _, rfl, ⟨_, hX⟩, HA0, HB0, HL0⟩
  case round =>
    obtain ⟨k, hk, rfl, ⟨B, HA⟩, HP, HQ, HB⟩ := hrel
    clear hX HA0 HB0 HL0
    obtain ⟨p0, p1, p2, p3, p4, p5, pf⟩ := six HP.out
    have HWS := Lib.hid (show w.heap.size + 1 < wr.heap.size from (Array.getElem?_eq_some_iff.1 HQ.out).1)
    by_cases hlt : k < b.recs.length
    · obtain ⟨ad2, C1, d1, C2, d2, rfl, _, hi1, hi2, q0, q1, q2, q3, q4, q5⟩ := (hbd.below HB.out).rec_at hlt
      obtain ⟨A1, c1, rfl, hl1, hc1⟩ := HA.toP.slice_
      have HE := Lib.hid (List.take_succ_eq_append_getElem hlt)
      have hxl : (b.recs.take k).length = k := by rw [List.length_take]; omega
      obtain ⟨xs, hxs⟩ : ∃ xs, xs = b.recs.take k := ⟨_, rfl⟩
      rw [← hxs] at HA HE hl1 hxl
      rw [← hxs]
      clear hxs
      have hxk : xs.length ≤ 999 := by omega
      have HX := Lib.hid HA
      have hsm := HSM.out _ (List.getElem_mem hlt)
      unfold Rec.short at hsm
      have hge := HX.out.ge
      clear HA hxl
      go_wp2_with fail
      refine (l12Copy_any b.recs[k] C1 C2 d1 d2 _ _ hi1 hi2 (by omega) (by omega)).mono ?_
      rintro e w4 ⟨vk, vv, rfl, hCp⟩
      obtain ⟨Ak, ck, rfl, _⟩ := AppP.row hCp.key
      obtain ⟨Av, cv, rfl, _⟩ := AppP.row hCp.val
      have X4 := Lib.hid (HX.out.below hCp.below)
      have XK := Lib.hid hCp.x
      have B4 := Lib.hid (bthen HB.out hCp.below)
      have HP4 := Lib.hid (blk_below HP.out hCp.below)
      have HQ4 := Lib.hid (blk_below HQ.out hCp.below)
      have HS4 := Lib.hid hCp.below.size
      clear q0 q1 q2 q3 q4 q5 p0 p1 p2 p3 p4 p5 pf hi1 hi2
      go_wp2_with (at_builtin; go_loud (refine wpList_appX RX X4.out rfl _ _ 28 (.agg #[.int .i64 0, .int .i64 0, .bool false, .slice none 0 0, .bool false, .slice none 0 0]) 80 rfl Try.underlying28 (by kernel_rfl) rfl (by decide) b.recs[k] _ _ rfl rfl XK.out (fun b hb => ⟨by have := HWS.out; omega, by have := HX.out.1; omega⟩) (by simp [Value.oneCell']) (fun b hb => by have := HS4.out; have := HWS.out; omega) (by omega) (by omega) ?_))
      intro v1 w5 HA5 hc5 ho5
      have B5 := Lib.hid (B4.out.trans (hc5.below B4.out.size (fun i hi => by have := (hge i hi).1; omega)))
      have HP5 := Lib.hid (hc5.blk HP4.out (fun e => by have := (hge _ e).1; omega))
      have HQ5 := Lib.hid (hc5.blk HQ4.out (fun e => by have := (hge _ e).1; omega))
      rw [← HE.out] at HA5
      clear hc5 ho5 hge X4 XK hCp
      go_wp2
      go_roundw
      case rel => exact ⟨k + 1, by omega, by go_num, ⟨_, HA5⟩, HP5, HQ5, B5⟩
      case measure => simp [intOf]; omega
    · have hk2 : k = b.recs.length := by omega
      subst hk2
      rw [List.take_length] at HA
      obtain ⟨A2, c2, rfl, hr⟩ := HA.row
      have hr := hr.bound
      have hAX := blk_put HP.out 5 (.slice A2 b.recs.length c2)
      obtain ⟨X, hX⟩ : ∃ X, X = wr.setCell ⟨w.heap.size, 5, none⟩ (.slice A2 b.recs.length c2) := ⟨_, rfl⟩
      rw [← hX] at hAX
      have hBX : X.heap[w.heap.size + 1]? = some (.cells #[.bool false, .bool false, .int .i64 0, .int .i64 0, .int .i64 0, .slice none 0 0] 30 (0, 0)) := by rw [hX]; exact blk_far HQ.out (p := ⟨w.heap.size, 5, none⟩) (by simp) _
      have cX : Chg (fun i => i = w.heap.size) wr X := by rw [hX]; exact Chg.set (fun i => i = w.heap.size) wr (p := ⟨w.heap.size, 5, none⟩) rfl _
      have hs2 := HWS.out
      have hrX := hr.keep (w' := X) (cX.same (fun i _ h1 h2 => by have := h1.1; omega)) cX.size
      have bX : Below w.heap.size w X := HB.out.trans (cX.below HB.out.size (fun i hi => by omega))
      have cZ : Chg (fun i => i = w.heap.size + 1) X ((((((X.setCell ⟨w.heap.size + 1, 0, none⟩ (.bool b.packed)).setCell ⟨w.heap.size + 1, 1, none⟩ (.bool b.mark)).setCell ⟨w.heap.size + 1, 2, none⟩ (.int .i64 b.prod)).setCell ⟨w.heap.size + 1, 3, none⟩ (.int .i64 b.epoch)).setCell ⟨w.heap.size + 1, 4, none⟩ (.int .i64 b.seq)).setCell ⟨w.heap.size + 1, 5, none⟩ (.slice A2 b.recs.length c2)) :=
        Chg.setCells (fun i => i = w.heap.size + 1) rfl [.bool b.packed, .bool b.mark, .int .i64 b.prod, .int .i64 b.epoch, .int .i64 b.seq, .slice A2 b.recs.length c2] 0 X
      have HZ := Lib.hid ((hrX.keep (cZ.same (fun i _ h1 h2 => by have := h1.1; omega)) cZ.size).mono (F' := fun i => w.heap.size ≤ i) (fun i hi => by have := hi.1; omega))
      have BZ := Lib.hid (bX.trans (cZ.below bX.size (fun i hi => by omega)))
      have HX2 := Lib.hid hX
      have HBX := Lib.hid hBX
      obtain ⟨u0, u1, u2, u3, u4, u5, uf⟩ := six HQ.out
      clear hX hAX hBX cX hrX bX cZ HA hr
      go_wp2
      rw [← HX2.out]
      refine bodyPost_ret (v := .agg #[.bool b.packed, .bool b.mark, .int .i64 b.prod, .int .i64 b.epoch, .int .i64 b.seq, .slice A2 b.recs.length c2]) ?_ rfl ⟨_, _, rfl, HZ.out, BZ.out⟩
      obtain ⟨z0, z1, z2, z3, z4, z5, zf⟩ := six HBX.out
      simp [results, Try.results65, go_sem, z0, z1, z2, z3, z4, z5]
end Go.Proofs.Ytlgcajjoimcdhaa
