/- Marks: records, batches. -/
import Derived.Test.YtfflhenldegmmaaM1
namespace Go.Proofs.Ytfflhenldegmmaa
set_option linter.unusedVariables false
set_option linter.unusedSimpArgs false
open Go.RowKit

/-- One element of a row whose parts are apart: what it holds, and how the row stands when it alone is changed. -/
theorem XKind.Row.focus {α : Type} {k : XKind α} {e : TypeId} {w : World} {F : Nat → Prop} {A : Option Addr} {c : Nat} {xs : List α} (h : k.Row e w F A c xs) {i : Nat} (hi : i < xs.length) :
    ∃ g m Fi cs, A = some ⟨g, 0, none⟩ ∧ F g ∧ Blk w g e m ∧ i * k.d.sz + k.d.sz ≤ m ∧ (∀ b, Fi b → F b ∧ b ≠ g ∧ b < w.heap.size) ∧ k.X w Fi xs[i] cs ∧ (∀ q u, cs[q]? = some u → w.cell? ⟨g, i * k.d.sz + q, none⟩ = some u) ∧
      ∀ w' x' cs', Chg (fun b => b = g ∨ Fi b) w w' → Blk w' g e m → k.X w' Fi x' cs' → (∀ q u, cs'[q]? = some u → w'.cell? ⟨g, i * k.d.sz + q, none⟩ = some u) →
        (∀ p, (p < i * k.d.sz ∨ i * k.d.sz + k.d.sz ≤ p) → w'.cell? ⟨g, p, none⟩ = w.cell? ⟨g, p, none⟩) → k.Row e w' F A c (xs.set i x') := by
  obtain ⟨h1, h2, h3⟩ := h
  obtain ⟨g, m, rfl, hF, hB, hm, Fs, k1, k2, k3⟩ := h3 (by intro e; rw [e] at hi; simp at hi)
  obtain ⟨cs, hX, hc⟩ := k3 i _ (List.getElem?_eq_getElem hi)
  have hroom : i * k.d.sz + k.d.sz ≤ xs.length * k.d.sz := by rw [← Nat.succ_mul]; exact Nat.mul_le_mul_right _ hi
  refine ⟨g, m, Fs i, cs, rfl, hF, hB, by omega, fun b hb => k2 i b hb, hX, hc, fun w' x' cs' hch hB' hX' hc' hrest => ⟨by simpa using h1, h2, fun _ => ?_⟩⟩
  refine ⟨g, m, rfl, hF, hB', by simpa using hm, Fs, k1, fun j b hb => ⟨(k2 j b hb).1, (k2 j b hb).2.1, Nat.lt_of_lt_of_le (k2 j b hb).2.2 hch.size⟩, fun j y hj => ?_⟩
  by_cases hji : i = j
  · subst hji
    have : y = x' := by simpa [hi] using hj.symm
    subst this
    exact ⟨cs', hX', hc'⟩
  · rw [List.getElem?_set_ne hji] at hj
    obtain ⟨ds, hK, hd⟩ := k3 j y hj
    refine ⟨ds, k.keep (fun b hb hlt => hch.block b hlt (fun e => e.elim (fun e => (k2 j b hb).2.1 e) (fun e => hji (k1 i j b e hb)))) hch.size hK, fun q u hu => ?_⟩
    have hq : q < k.d.sz := by rw [← k.d.len (k.toK hK)]; exact (List.getElem?_eq_some_iff.1 hu).1
    rw [hrest _ ?_]
    · exact hd q u hu
    · rcases Nat.lt_or_gt_of_ne hji with hlt | hlt
      · right
        have : i * k.d.sz + k.d.sz ≤ j * k.d.sz := by rw [← Nat.succ_mul]; exact Nat.mul_le_mul_right _ hlt
        omega
      · left
        have : j * k.d.sz + k.d.sz ≤ i * k.d.sz := by rw [← Nat.succ_mul]; exact Nat.mul_le_mul_right _ hlt
        omega

def markR (r : Rec) (k : Int) : Rec := ⟨k, k + 1, (k + 2) % 3 == 0, marksI r.key.length (k + 3), (k + 3 + r.key.length) % 3 == 0, marksI r.val.length (k + 3 + r.key.length + 1)⟩
def markEnd (r : Rec) (k : Int) : Int := k + 3 + r.key.length + 1 + r.val.length
/-- The number behind the marks of the first j records. -/
def endR (rs : List Rec) (k : Int) (j : Nat) : Int := (rs.take j).foldl (fun a r => markEnd r a) k
theorem endR_succ (rs : List Rec) (k : Int) (j : Nat) (h : j < rs.length) : endR rs k (j + 1) = markEnd rs[j] (endR rs k j) := by
  unfold endR
  rw [List.take_succ_eq_append_getElem h, List.foldl_append]
  rfl
/-- The first j records marked. -/
def upR (rs : List Rec) (k : Int) : Nat → List Rec
  | 0 => rs
  | j + 1 => (upR rs k j).set j (markR ((rs[j]?).getD Rec.zero) (endR rs k j))
theorem upR_len (rs : List Rec) (k : Int) (j : Nat) : (upR rs k j).length = rs.length := by
  induction j with
  | zero => rfl
  | succ j ih => rw [upR, List.length_set, ih]
theorem upR_rest (rs : List Rec) (k : Int) (j i : Nat) (h : j ≤ i) : (upR rs k j)[i]? = rs[i]? := by
  induction j with
  | zero => rfl
  | succ j ih => rw [upR, List.getElem?_set_ne (by omega)]; exact ih (by omega)
theorem upR_done (rs : List Rec) (k : Int) (j i : Nat) (h : i < j) (hi : i < rs.length) : (upR rs k j)[i]? = some (markR rs[i] (endR rs k i)) := by
  induction j with
  | zero => omega
  | succ j ih =>
    rw [upR]
    by_cases e : i = j
    · subst e
      rw [List.getElem?_set_self (by rw [upR_len]; exact hi), List.getElem?_eq_getElem hi]
      rfl
    · rw [List.getElem?_set_ne (by omega)]
      exact ih (by omega)
theorem markEnd_ge (r : Rec) (k : Int) : k + 4 ≤ markEnd r k := by unfold markEnd; omega
theorem endR_mono (rs : List Rec) (k : Int) {i j : Nat} (h : i ≤ j) : endR rs k i ≤ endR rs k j := by
  induction j with
  | zero => have : i = 0 := by omega
            subst this; exact Int.le_refl _
  | succ j ih =>
    by_cases e : i = j + 1
    · subst e; exact Int.le_refl _
    · have h1 := ih (by omega)
      by_cases hj : j < rs.length
      · rw [endR_succ rs k j hj]
        have := markEnd_ge rs[j] (endR rs k j)
        omega
      · have : endR rs k (j + 1) = endR rs k j := by unfold endR; rw [List.take_of_length_le (by omega), List.take_of_length_le (by omega)]
        omega

theorem blkPut {w : World} {g o m : Nat} {e : TypeId} (hB : Blk w g e m) (ho : o < m) (u : Value) :
    Blk (w.setCell ⟨g, o, none⟩ u) g e m ∧ (w.setCell ⟨g, o, none⟩ u).cell? ⟨g, o, none⟩ = some u ∧ Chg (fun b => b = g) w (w.setCell ⟨g, o, none⟩ u) ∧
      ∀ p, p ≠ o → (w.setCell ⟨g, o, none⟩ u).cell? ⟨g, p, none⟩ = w.cell? ⟨g, p, none⟩ := by
  obtain ⟨v, hv⟩ := hB.some (i := o) ho
  exact ⟨hB.set _ _, World.cell?_setCell_same _ _ _ hv, Chg.set (fun b => b = g) w (p := ⟨g, o, none⟩) rfl u, fun p hp => World.cell?_setCell_other _ _ _ _ (by intro e; injection e with e1 e2; exact hp e2.symm)⟩
theorem put3 {w W : World} {g o m : Nat} {e : TypeId} {a b c : Value} (hB : Blk w g e m) (ho : o + 6 ≤ m) (hW : ((w.setCell ⟨g, o, none⟩ a).setCell ⟨g, o + 1, none⟩ b).setCell ⟨g, o + 2, none⟩ c = W) :
    Blk W g e m ∧ Chg (fun b => b = g) w W ∧ W.cell? ⟨g, o, none⟩ = some a ∧ W.cell? ⟨g, o + 1, none⟩ = some b ∧ W.cell? ⟨g, o + 2, none⟩ = some c ∧ ∀ p, (p < o ∨ o + 3 ≤ p) → W.cell? ⟨g, p, none⟩ = w.cell? ⟨g, p, none⟩ := by
  obtain ⟨B1, c1, k1, r1⟩ := blkPut hB (o := o) (by omega) a
  obtain ⟨B2, c2, k2, r2⟩ := blkPut B1 (o := o + 1) (by omega) b
  obtain ⟨B3, c3, k3, r3⟩ := blkPut B2 (o := o + 2) (by omega) c
  rw [hW] at B3 c3 k3 r3
  refine ⟨B3, (k1.trans k2).trans k3, ?_, ?_, c3, fun p hp => ?_⟩
  · rw [r3 _ (by omega), r2 _ (by omega)]; exact c1
  · rw [r3 _ (by omega)]; exact c2
  · rw [r3 _ (by omega), r2 _ (by omega), r1 _ (by omega)]
theorem Chg.cellEq {F : Nat → Prop} {a b : World} (h : Chg F a b) {g p : Nat} (hg : g < a.heap.size) (hn : ¬ F g) : b.cell? ⟨g, p, none⟩ = a.cell? ⟨g, p, none⟩ := World.cell?_of_block (a := ⟨g, p, none⟩) (h.block g hg hn)

set_option maxHeartbeats 2000000 in
theorem markRecordS_any (rs : List Rec) (A : Option Addr) (c : Nat) (F : Nat → Prop) (k : Int) (w : World) (h : XRecs 3 25 w F A c rs) (hk : 0 ≤ k) (hk1 : endR rs k rs.length ≤ 1152921504606846976) :
    Calls Try.prog 56 #[.slice A rs.length c, .int .i64 k] w fun e w' => e = .returned (.int .i64 (endR rs k rs.length)) ∧ XRecs 3 25 w' F A c (upR rs k rs.length) ∧ Chg F w w' := by
  have hl := h.1
  have hc := h.2.1
  go_enter Try.func56, Try.ntmps56
  go_wp2_with fail
  go_loopw [1, 5] (fun q i wr => ∃ j : Nat, j ≤ rs.length ∧ i = .int .i64 j ∧ q = .int .i64 (endR rs k j) ∧ Hid (XRecs 3 25 wr F A c (upR rs k j)) ∧ Hid (Chg F w wr)) (fun _ i _ => rs.length - (intOf i).toNat)
  case atStart => exact ⟨0, Nat.zero_le _, rfl, rfl, Lib.hid h, Lib.hid (Chg.refl _ _)⟩
  case round =>
    obtain ⟨j, hj, rfl, rfl, HX, HC⟩ := hrel
    by_cases hlt : j < rs.length
    · have hju : j < (upR rs k j).length := by rw [upR_len]; exact hlt
      have hel : (upR rs k j)[j] = rs[j] := by
        have := upR_rest rs k j j (Nat.le_refl _)
        rw [List.getElem?_eq_getElem hju, List.getElem?_eq_getElem hlt] at this
        injection this
      obtain ⟨g, m, Fi, cs, rfl, hF, hB, hroom, hFi, hXe, hcell, hput⟩ := HX.out.focus hju
      rw [hel] at hXe
      obtain ⟨A1, c1, A2, c2, rfl, F1, F2, hd, h1, h2, h3, X1, X2⟩ := hXe
      have s6 : (XKind.rec_ 3).d.sz = 6 := rfl
      rw [s6] at hcell hroom hput
      have q0 := hcell 0 _ rfl
      rw [Nat.add_zero] at q0
      have q1 := hcell 1 _ rfl
      have q2 := hcell 2 _ rfl
      have q3 := hcell 3 _ rfl
      have q4 := hcell 4 _ rfl
      have q5 := hcell 5 _ rfl
      have fz : ∀ i, wr.frozen? ⟨g, i, none⟩ = false := fun i => hB.frozen i
      have HP := Lib.hid hput
      have hE := endR_succ rs k j hlt
      have hm1 := endR_mono rs k (show j + 1 ≤ rs.length by omega)
      have hm0 := endR_mono rs k (Nat.zero_le j)
      have e0 : endR rs k 0 = k := rfl
      rw [e0] at hm0
      have hb4 := hE
      unfold markEnd at hb4
      obtain ⟨a, ha⟩ : ∃ a, a = endR rs k j := ⟨_, rfl⟩
      rw [← ha] at hb4 hm0 hE ⊢
      have HE := Lib.hid hE
      have HAA := Lib.hid ha
      have hlen1 : a + 4 + rs[j].key.length + rs[j].val.length ≤ 1152921504606846976 := by omega
      clear hput hcell hel hE hb4 hm1 e0 s6 ha
      have hgs := hB.lt
      have hnF1 : ¬ F1 g := fun e => (hFi g (h1 g e)).2.1 rfl
      have hnF2 : ¬ F2 g := fun e => (hFi g (h2 g e)).2.1 rfl
      go_wp2_with fail
      generalize hW1 : World.setCell _ _ _ = W1
      obtain ⟨B1, C1, w0, w1, w2, r1⟩ := put3 hB hroom hW1
      have w3 := (r1 (j * 6 + 3) (by omega)).trans q3
      have w4 := (r1 (j * 6 + 4) (by omega)).trans q4
      have w5 := (r1 (j * 6 + 5) (by omega)).trans q5
      have X11 := X1.keep (w' := W1) (C1.same (fun b _ hb e => hnF1 (e ▸ hb))) C1.size
      have X21 := X2.keep (w' := W1) (C1.same (fun b _ hb e => hnF2 (e ▸ hb))) C1.size
      clear hW1
      refine (markIntS_any rs[j].key A1 c1 F1 (a + 1 + 1 + 1) W1 X11 (by omega) (by omega) (by omega)).mono ?_
      rintro e W2 ⟨rfl, Y1, C2⟩
      have B2 := B1.keep (C2.block g B1.lt hnF1)
      have v0 := (C2.cellEq B1.lt hnF1).trans w0
      have v1 := (C2.cellEq B1.lt hnF1).trans w1
      have v2 := (C2.cellEq B1.lt hnF1).trans w2
      have v3 := (C2.cellEq B1.lt hnF1).trans w3
      have v4 := (C2.cellEq B1.lt hnF1).trans w4
      have v5 := (C2.cellEq B1.lt hnF1).trans w5
      have r2 : ∀ p, (p < j * 6 ∨ j * 6 + 6 ≤ p) → W2.cell? ⟨g, p, none⟩ = wr.cell? ⟨g, p, none⟩ := fun p hp => (C2.cellEq B1.lt hnF1).trans (r1 p (by omega))
      have X22 := X21.keep (w' := W2) (C2.same (fun b _ hb e => hd b e hb)) C2.size
      have fz2 : ∀ i, W2.frozen? ⟨g, i, none⟩ = false := fun i => B2.frozen i
      have R2 := Lib.hid r2
      have HC2 := Lib.hid ((C1.mono (F' := fun b => b = g ∨ Fi b) (fun i _ h => .inl h)).trans (C2.mono (fun i _ h => .inr (h1 i h))))
      clear q0 q1 q2 q3 q4 q5 w0 w1 w2 w3 w4 w5 fz r1 r2 X1 X2 X11 X21 C1 C2
      go_wp2_with fail
      generalize hW3 : World.setCell _ _ _ = W3
      obtain ⟨B3, c3, k3, r3⟩ := blkPut B2 (o := j * 6 + 4) (by omega) (.bool ((a + 1 + 1 + 1 + rs[j].key.length) % 3 == 0))
      rw [hW3] at B3 c3 k3 r3
      clear hW3
      have u0 := (r3 (j * 6) (by omega)).trans v0
      have u1 := (r3 (j * 6 + 1) (by omega)).trans v1
      have u2 := (r3 (j * 6 + 2) (by omega)).trans v2
      have u3 := (r3 (j * 6 + 3) (by omega)).trans v3
      have u5 := (r3 (j * 6 + 5) (by omega)).trans v5
      have Y13 := Y1.keep (w' := W3) (k3.same (fun b _ hb e => hnF1 (e ▸ hb))) k3.size
      have X23 := X22.keep (w' := W3) (k3.same (fun b _ hb e => hnF2 (e ▸ hb))) k3.size
      have HC3 := Lib.hid (HC2.out.trans (k3.mono (F' := fun b => b = g ∨ Fi b) (fun i _ h => .inl h)))
      refine (markIntS_any rs[j].val A2 c2 F2 (a + 1 + 1 + 1 + rs[j].key.length + 1) W3 X23 (by omega) (by omega) (by omega)).mono ?_
      rintro e W4 ⟨rfl, Z2, C4⟩
      have B4 := B3.keep (C4.block g B3.lt hnF2)
      have t0 := (C4.cellEq B3.lt hnF2).trans u0
      have t1 := (C4.cellEq B3.lt hnF2).trans u1
      have t2 := (C4.cellEq B3.lt hnF2).trans u2
      have t3 := (C4.cellEq B3.lt hnF2).trans u3
      have t4 := (C4.cellEq B3.lt hnF2).trans c3
      have t5 := (C4.cellEq B3.lt hnF2).trans u5
      have Z1 := Y13.keep (w' := W4) (C4.same (fun b _ hb e => hd b hb e)) C4.size
      have HC4 := HC3.out.trans (C4.mono (F' := fun b => b = g ∨ Fi b) (fun i _ h => .inr (h2 i h)))
      have e3 : a + 1 + 1 + 1 = a + 3 := by omega
      rw [e3] at Z1 t4 Z2
      have hXX : (XKind.rec_ 3).X W4 Fi (markR rs[j] a) [.int .i64 a, .int .i64 (a + 1), .bool ((a + 2) % 3 == 0), .slice A1 rs[j].key.length c1, .bool ((a + 3 + rs[j].key.length) % 3 == 0), .slice A2 rs[j].val.length c2] :=
        ⟨A1, c1, A2, c2, by simp [markR, marksI_len], F1, F2, hd, h1, h2, fun b hb => by have := h3 b hb; have := HC4.size; omega, Z1, Z2⟩
      have hfin := HP.out W4 (markR rs[j] a) _ HC4 B4 hXX (fun q u hu => by
        match q, hu with
        | 0, hu => simp at hu; subst hu; exact t0
        | 1, hu => simp at hu; subst hu; exact t1
        | 2, hu => simp at hu; subst hu; rw [show a + 2 = a + 1 + 1 by omega]; exact t2
        | 3, hu => simp at hu; subst hu; exact t3
        | 4, hu => simp at hu; subst hu; exact t4
        | 5, hu => simp at hu; subst hu; exact t5
        | q + 6, hu => simp at hu) (fun p hp => (C4.cellEq B3.lt hnF2).trans ((r3 p (by omega)).trans (R2.out p hp)))
      have hup : upR rs k (j + 1) = (upR rs k j).set j (markR rs[j] a) := by rw [upR, List.getElem?_eq_getElem hlt, HAA.out]; rfl
      rw [← hup] at hfin
      have HF := Lib.hid hfin
      have HCC := Lib.hid (HC.out.trans (HC4.mono (fun i _ hi => hi.elim (fun e => e ▸ hF) (fun e => (hFi i e).1))))
      have hnx : Hid (endR rs k (j + 1) = a + 1 + 1 + 1 + rs[j].key.length + 1 + rs[j].val.length) := Lib.hid (by rw [HE.out]; unfold markEnd; omega)
      clear t0 t1 t2 t3 t4 t5 u0 u1 u2 u3 u5 v0 v1 v2 v3 v4 v5 hfin hup hXX HC4 Z1 Z2 Y1 Y13 X22 X23 C4 k3 c3 r3 e3
      go_wp2
      go_roundw
      case rel => exact ⟨j + 1, by omega, by go_num, by rw [hnx.out], HF, HCC⟩
      case measure => simp [intOf]; omega
    · have hj2 : j = rs.length := by omega
      subst hj2
      go_wp2
      go_ret
      exact ⟨rfl, HX.out, HC.out⟩
end Go.Proofs.Ytfflhenldegmmaa
