/- Marks: ints. Marks: records, batches. Marks: held by records. Marks: one batch. Marks: batches. Marks: held by batches; one batch. Marks of small segments. -/
import Derived.Test.YtomcjjehfocbmaaAx
import Derived.Test.YtomcjjehfocbmaaGa
import Derived.Test.YtomcjjehfocbmaaT2
namespace Go.Proofs.Ytomcjjehfocbmaa
set_option linter.unusedVariables false
set_option linter.unusedSimpArgs false
section
open Go.RowKit

def marksI (n : Nat) (k : Int) : List Int := (List.range n).map (fun (i : Nat) => k + (i : Int))
theorem marksI_len (n : Nat) (k : Int) : (marksI n k).length = n := by simp [marksI]
theorem marksI_at (n : Nat) (k : Int) (i : Nat) (h : i < n) : (marksI n k)[i]'(by rw [marksI_len]; exact h) = k + i := by simp [marksI]
theorem XInts.at_ {e : TypeId} {w : World} {F : Nat → Prop} {A : Option Addr} {c : Nat} {xs : List Int} (h : XInts e w F A c xs) {i : Nat} (hi : i < xs.length) :
    ∃ g, A = some ⟨g, 0, none⟩ ∧ F g ∧ w.cell? ⟨g, i, none⟩ = some (.int .i64 xs[i]) ∧ w.frozen? ⟨g, i, none⟩ = false := by
  obtain ⟨g, m, e, hF, hB, hm, Fs, _, _, h3⟩ := h.2.2 (by intro e; rw [e] at hi; simp at hi)
  obtain ⟨cs, hX, hc⟩ := h3 i _ (List.getElem?_eq_getElem hi)
  have hX : cs = [.int .i64 xs[i]] := hX
  subst hX
  have := hc 0 _ rfl
  refine ⟨g, e, hF, ?_, hB.frozen i⟩
  have s1 : (XKind.int .i64).d.sz = 1 := rfl
  rw [s1] at this
  simpa using this
theorem XInts.set {e : TypeId} {w : World} {F : Nat → Prop} {g c : Nat} {xs : List Int} (h : XInts e w F (some ⟨g, 0, none⟩) c xs) {i : Nat} (hi : i < xs.length) (x : Int) :
    XInts e (w.setCell ⟨g, i, none⟩ (.int .i64 x)) F (some ⟨g, 0, none⟩) c (xs.set i x) := by
  obtain ⟨h1, h2, h3⟩ := h
  refine ⟨by simpa using h1, h2, fun _ => ?_⟩
  obtain ⟨g', m, e, hF, hB, hm, Fs, k1, k2, k3⟩ := h3 (by intro e; rw [e] at hi; simp at hi)
  injection e with e
  injection e with e _ _
  subst e
  refine ⟨g, m, rfl, hF, hB.set _ _, by simpa using hm, fun _ _ => False, fun _ _ _ h => h.elim, fun _ _ h => h.elim, fun j y hj => ⟨[.int .i64 y], rfl, fun q u hu => ?_⟩⟩
  have s1 : (XKind.int .i64).d.sz = 1 := rfl
  obtain ⟨rfl, rfl⟩ : q = 0 ∧ u = .int .i64 y := by
    cases q with
    | zero => exact ⟨rfl, by simpa using hu.symm⟩
    | succ q => simp at hu
  rw [s1, Nat.mul_one, Nat.add_zero]
  rw [s1, Nat.mul_one] at hm
  by_cases hji : i = j
  · subst hji
    have : y = x := by simpa [hi] using hj.symm
    subst this
    obtain ⟨v, hv⟩ := hB.some (i := i) (by omega)
    exact World.cell?_setCell_same _ _ _ hv
  · rw [List.getElem?_set_ne hji] at hj
    obtain ⟨cs, hK, hc⟩ := k3 j y hj
    have hK : cs = [.int .i64 y] := hK
    subst hK
    have := hc 0 _ rfl
    rw [s1, Nat.mul_one, Nat.add_zero] at this
    rw [World.cell?_setCell_other _ _ _ _ (by intro e; injection e with e1 e2; exact hji e2)]
    exact this
theorem marks_step {xs : List Int} {k : Int} {i : Nat} (hi : i < xs.length) : (marksI i k ++ xs.drop i).set i (k + i) = marksI (i + 1) k ++ xs.drop (i + 1) := by
  rw [List.set_append_right _ _ (by rw [marksI_len]; exact Nat.le_refl _), marksI_len, Nat.sub_self, List.drop_eq_getElem_cons hi, List.set_cons_zero]
  unfold marksI
  rw [List.range_succ, List.map_append, List.append_assoc]
  rfl
theorem markIntS_any (xs : List Int) (A : Option Addr) (c : Nat) (F : Nat → Prop) (k : Int) (w : World) (h : XInts 3 w F A c xs) (hk : 0 ≤ k) (hk1 : k ≤ 1152921504606846976) (hn : xs.length ≤ 1152921504606846976) :
    Calls Try.prog 19 #[.slice A xs.length c, .int .i64 k] w fun e w' => e = .returned (.int .i64 (k + xs.length)) ∧ XInts 3 w' F A c (marksI xs.length k) ∧ Chg F w w' := by
  have hl := h.1
  have hc := h.2.1
  go_enter Try.func19, Try.ntmps19
  go_wp2_with fail
  go_loopw [1, 5] (fun q i wr => ∃ j : Nat, j ≤ xs.length ∧ i = .int .i64 j ∧ q = .int .i64 (k + j) ∧ Hid (XInts 3 wr F A c (marksI j k ++ xs.drop j)) ∧ Hid (Chg F w wr)) (fun _ i _ => xs.length - (intOf i).toNat)
  case atStart => exact ⟨0, Nat.zero_le _, rfl, by simp, Lib.hid (by simpa [marksI] using h), Lib.hid (Chg.refl _ _)⟩
  case round =>
    obtain ⟨j, hj, rfl, rfl, HX, HC⟩ := hrel
    by_cases hlt : j < xs.length
    · have hlen : (marksI j k ++ xs.drop j).length = xs.length := by simp [marksI_len]; omega
      obtain ⟨g, rfl, hF, q0, hf⟩ := HX.out.at_ (i := j) (by rw [hlen]; exact hlt)
      have HX2 := HX.out.set (i := j) (by rw [hlen]; exact hlt) (k + j)
      rw [marks_step hlt] at HX2
      have HX3 := Lib.hid HX2
      have HC3 := Lib.hid (HC.out.trans (Chg.set F wr (p := ⟨g, j, none⟩) hF (.int .i64 (k + j))))
      clear HX2
      go_wp2
      go_roundw
      case rel => exact ⟨j + 1, by omega, by go_num, by congr 1; omega, HX3, HC3⟩
      case measure => simp [intOf]; omega
    · have hj2 : j = xs.length := by omega
      subst hj2
      have HX3 := Lib.hid (show XInts 3 wr F A c (marksI xs.length k) by have := HX.out; rwa [List.drop_length, List.append_nil] at this)
      go_wp2
      go_ret
      exact ⟨rfl, HX3.out, HC.out⟩
theorem heldIntS_any (n : Nat) (A : Option Addr) (c : Nat) (F : Nat → Prop) (k : Int) (w : World) (h : Ints w F A c (marksI n k)) (hk : 0 ≤ k) (hk1 : k ≤ 1152921504606846976) (hn : n ≤ 1152921504606846976) :
    Calls Try.prog 77 #[.slice A n c, .int .i64 k] w fun e w' => e = .returned (.int .i64 (k + n)) ∧ Below w.heap.size w w' := by
  have hl := h.1
  have hc := h.2.1
  rw [marksI_len] at hl
  go_enter Try.func77, Try.ntmps77
  go_wp2_with fail
  go_loopw [1, 5] (fun q i wr => ∃ j : Nat, j ≤ n ∧ i = .int .i64 j ∧ q = .int .i64 (k + j) ∧ Hid (Below w.heap.size w wr)) (fun _ i _ => n - (intOf i).toNat)
  case atStart => exact ⟨0, Nat.zero_le _, rfl, by simp, Lib.hid (Below.refl _ _)⟩
  case round =>
    obtain ⟨j, hj, rfl, rfl, HB⟩ := hrel
    by_cases hlt : j < n
    · obtain ⟨ad, rfl, _, q0⟩ := (h.below HB.out).int_at (j := j) (by rw [marksI_len]; exact hlt)
      rw [marksI_at n k j hlt] at q0
      go_wp2
      go_roundw
      case rel => exact ⟨j + 1, by omega, by go_num, by congr 1; omega, HB⟩
      case measure => simp [intOf]; omega
    · have hj2 : j = n := by omega
      subst hj2
      go_wp2
      go_ret
      exact ⟨rfl, HB.out⟩
end

section
open Go.RowKit

/-- One element of a row whose parts are apart: what it holds, and how the row stands when it alone is changed. -/
theorem XKind.Row.focus {α : Type} {k : XKind α} {e : TypeId} {w : World} {F : Nat → Prop} {A : Option Addr} {c : Nat} {xs : List α} (h : k.Row e w F A c xs) {i : Nat} (hi : i < xs.length) :
    ∃ g m Fi cs, A = some ⟨g, 0, none⟩ ∧ F g ∧ Blk w g e m ∧ i * k.d.sz + k.d.sz ≤ m ∧ (∀ b, Fi b → F b ∧ b ≠ g ∧ b < w.heap.size) ∧ k.X w Fi xs[i] cs ∧ (∀ q u, cs[q]? = some u → w.cell? ⟨g, i * k.d.sz + q, none⟩ = some u) ∧
      ∀ w' x' cs', Chg (fun b => b = g ∨ Fi b) w w' → Blk w' g e m → k.X w' Fi x' cs' → (∀ q u, cs'[q]? = some u → w'.cell? ⟨g, i * k.d.sz + q, none⟩ = some u) →
        (∀ p, (p < i * k.d.sz ∨ i * k.d.sz + k.d.sz ≤ p) → w'.cell? ⟨g, p, none⟩ = w.cell? ⟨g, p, none⟩) → k.Row e w' F A c (xs.set i x') := by
  obtain ⟨h1, h2, h3⟩ := h
  obtain ⟨g, m, rfl, hF, hB, hm, Fs, k1, k2, k3⟩ := h3 (by intro e; rw [e] at hi; simp at hi)
  obtain ⟨cs, hX, hc⟩ := k3 i _ (List.getElem?_eq_getElem hi)
  have hroom : i * k.d.sz + k.d.sz ≤ xs.length * k.d.sz := by rw [← Nat.succ_mul]; exact Nat.mul_le_mul_right _ hi
  refine ⟨g, m, Fs i, cs, rfl, hF, hB, by omega, fun b hb => k2 i b hb, hX, hc, fun w' x' cs' hch hB' hX' hc' hrest => ⟨by simpa using h1, h2, fun _ => ?_⟩⟩
  refine ⟨g, m, rfl, hF, hB', by simpa using hm, Fs, k1, fun j b hb => ⟨(k2 j b hb).1, (k2 j b hb).2.1, Nat.lt_of_lt_of_le (k2 j b hb).2.2 hch.size⟩, fun j y hj => ?_⟩
  by_cases hji : i = j
  · subst hji
    have : y = x' := by simpa [hi] using hj.symm
    subst this
    exact ⟨cs', hX', hc'⟩
  · rw [List.getElem?_set_ne hji] at hj
    obtain ⟨ds, hK, hd⟩ := k3 j y hj
    refine ⟨ds, k.keep (fun b hb hlt => hch.block b hlt (fun e => e.elim (fun e => (k2 j b hb).2.1 e) (fun e => hji (k1 i j b e hb)))) hch.size hK, fun q u hu => ?_⟩
    have hq : q < k.d.sz := by rw [← k.d.len (k.toK hK)]; exact (List.getElem?_eq_some_iff.1 hu).1
    rw [hrest _ ?_]
    · exact hd q u hu
    · rcases Nat.lt_or_gt_of_ne hji with hlt | hlt
      · right
        have : i * k.d.sz + k.d.sz ≤ j * k.d.sz := by rw [← Nat.succ_mul]; exact Nat.mul_le_mul_right _ hlt
        omega
      · left
        have : j * k.d.sz + k.d.sz ≤ i * k.d.sz := by rw [← Nat.succ_mul]; exact Nat.mul_le_mul_right _ hlt
        omega

def markR (r : Rec) (k : Int) : Rec := ⟨k, k + 1, (k + 2) % 3 == 0, marksI r.key.length (k + 3), (k + 3 + r.key.length) % 3 == 0, marksI r.val.length (k + 3 + r.key.length + 1)⟩
def markEnd (r : Rec) (k : Int) : Int := k + 3 + r.key.length + 1 + r.val.length
/-- The number behind the marks of the first j records. -/
def endR (rs : List Rec) (k : Int) (j : Nat) : Int := (rs.take j).foldl (fun a r => markEnd r a) k
theorem endR_succ (rs : List Rec) (k : Int) (j : Nat) (h : j < rs.length) : endR rs k (j + 1) = markEnd rs[j] (endR rs k j) := by
  unfold endR
  rw [List.take_succ_eq_append_getElem h, List.foldl_append]
  rfl
/-- The first j records marked. -/
def upR (rs : List Rec) (k : Int) : Nat → List Rec
  | 0 => rs
  | j + 1 => (upR rs k j).set j (markR ((rs[j]?).getD Rec.zero) (endR rs k j))
theorem upR_len (rs : List Rec) (k : Int) (j : Nat) : (upR rs k j).length = rs.length := by
  induction j with
  | zero => rfl
  | succ j ih => rw [upR, List.length_set, ih]
theorem upR_rest (rs : List Rec) (k : Int) (j i : Nat) (h : j ≤ i) : (upR rs k j)[i]? = rs[i]? := by
  induction j with
  | zero => rfl
  | succ j ih => rw [upR, List.getElem?_set_ne (by omega)]; exact ih (by omega)
theorem upR_done (rs : List Rec) (k : Int) (j i : Nat) (h : i < j) (hi : i < rs.length) : (upR rs k j)[i]? = some (markR rs[i] (endR rs k i)) := by
  induction j with
  | zero => omega
  | succ j ih =>
    rw [upR]
    by_cases e : i = j
    · subst e
      rw [List.getElem?_set_self (by rw [upR_len]; exact hi), List.getElem?_eq_getElem hi]
      rfl
    · rw [List.getElem?_set_ne (by omega)]
      exact ih (by omega)
theorem markEnd_ge (r : Rec) (k : Int) : k + 4 ≤ markEnd r k := by unfold markEnd; omega
theorem endR_mono (rs : List Rec) (k : Int) {i j : Nat} (h : i ≤ j) : endR rs k i ≤ endR rs k j := by
  induction j with
  | zero => have : i = 0 := by omega
            subst this; exact Int.le_refl _
  | succ j ih =>
    by_cases e : i = j + 1
    · subst e; exact Int.le_refl _
    · have h1 := ih (by omega)
      by_cases hj : j < rs.length
      · rw [endR_succ rs k j hj]
        have := markEnd_ge rs[j] (endR rs k j)
        omega
      · have : endR rs k (j + 1) = endR rs k j := by unfold endR; rw [List.take_of_length_le (by omega), List.take_of_length_le (by omega)]
        omega

theorem blkPut {w : World} {g o m : Nat} {e : TypeId} (hB : Blk w g e m) (ho : o < m) (u : Value) :
    Blk (w.setCell ⟨g, o, none⟩ u) g e m ∧ (w.setCell ⟨g, o, none⟩ u).cell? ⟨g, o, none⟩ = some u ∧ Chg (fun b => b = g) w (w.setCell ⟨g, o, none⟩ u) ∧
      ∀ p, p ≠ o → (w.setCell ⟨g, o, none⟩ u).cell? ⟨g, p, none⟩ = w.cell? ⟨g, p, none⟩ := by
  obtain ⟨v, hv⟩ := hB.some (i := o) ho
  exact ⟨hB.set _ _, World.cell?_setCell_same _ _ _ hv, Chg.set (fun b => b = g) w (p := ⟨g, o, none⟩) rfl u, fun p hp => World.cell?_setCell_other _ _ _ _ (by intro e; injection e with e1 e2; exact hp e2.symm)⟩
theorem put3 {w W : World} {g o m : Nat} {e : TypeId} {a b c : Value} (hB : Blk w g e m) (ho : o + 6 ≤ m) (hW : ((w.setCell ⟨g, o, none⟩ a).setCell ⟨g, o + 1, none⟩ b).setCell ⟨g, o + 2, none⟩ c = W) :
    Blk W g e m ∧ Chg (fun b => b = g) w W ∧ W.cell? ⟨g, o, none⟩ = some a ∧ W.cell? ⟨g, o + 1, none⟩ = some b ∧ W.cell? ⟨g, o + 2, none⟩ = some c ∧ ∀ p, (p < o ∨ o + 3 ≤ p) → W.cell? ⟨g, p, none⟩ = w.cell? ⟨g, p, none⟩ := by
  obtain ⟨B1, c1, k1, r1⟩ := blkPut hB (o := o) (by omega) a
  obtain ⟨B2, c2, k2, r2⟩ := blkPut B1 (o := o + 1) (by omega) b
  obtain ⟨B3, c3, k3, r3⟩ := blkPut B2 (o := o + 2) (by omega) c
  rw [hW] at B3 c3 k3 r3
  refine ⟨B3, (k1.trans k2).trans k3, ?_, ?_, c3, fun p hp => ?_⟩
  · rw [r3 _ (by omega), r2 _ (by omega)]; exact c1
  · rw [r3 _ (by omega)]; exact c2
  · rw [r3 _ (by omega), r2 _ (by omega), r1 _ (by omega)]
theorem Chg.cellEq {F : Nat → Prop} {a b : World} (h : Chg F a b) {g p : Nat} (hg : g < a.heap.size) (hn : ¬ F g) : b.cell? ⟨g, p, none⟩ = a.cell? ⟨g, p, none⟩ := World.cell?_of_block (a := ⟨g, p, none⟩) (h.block g hg hn)

set_option maxHeartbeats 2000000 in
theorem markRecordS_any (rs : List Rec) (A : Option Addr) (c : Nat) (F : Nat → Prop) (k : Int) (w : World) (h : XRecs 3 85 w F A c rs) (hk : 0 ≤ k) (hk1 : endR rs k rs.length ≤ 1152921504606846976) :
    Calls Try.prog 49 #[.slice A rs.length c, .int .i64 k] w fun e w' => e = .returned (.int .i64 (endR rs k rs.length)) ∧ XRecs 3 85 w' F A c (upR rs k rs.length) ∧ Chg F w w' := by
  have hl := h.1
  have hc := h.2.1
  go_enter Try.func49, Try.ntmps49
  go_wp2_with fail
  go_loopw [1, 5] (fun q i wr => ∃ j : Nat, j ≤ rs.length ∧ i = .int .i64 j ∧ q = .int .i64 (endR rs k j) ∧ Hid (XRecs 3 85 wr F A c (upR rs k j)) ∧ Hid (Chg F w wr)) (fun _ i _ => rs.length - (intOf i).toNat)
  case atStart => exact ⟨0, Nat.zero_le _, rfl, rfl, Lib.hid h, Lib.hid (Chg.refl _ _)⟩
  case round =>
    obtain ⟨j, hj, rfl, rfl, HX, HC⟩ := hrel
    by_cases hlt : j < rs.length
    · have hju : j < (upR rs k j).length := by rw [upR_len]; exact hlt
      have hel : (upR rs k j)[j] = rs[j] := by
        have := upR_rest rs k j j (Nat.le_refl _)
        rw [List.getElem?_eq_getElem hju, List.getElem?_eq_getElem hlt] at this
        injection this
      obtain ⟨g, m, Fi, cs, rfl, hF, hB, hroom, hFi, hXe, hcell, hput⟩ := HX.out.focus hju
      rw [hel] at hXe
      obtain ⟨A1, c1, A2, c2, rfl, F1, F2, hd, h1, h2, h3, X1, X2⟩ := hXe
      have s6 : (XKind.rec_ 3).d.sz = 6 := rfl
      rw [s6] at hcell hroom hput
      have q0 := hcell 0 _ rfl
      rw [Nat.add_zero] at q0
      have q1 := hcell 1 _ rfl
      have q2 := hcell 2 _ rfl
      have q3 := hcell 3 _ rfl
      have q4 := hcell 4 _ rfl
      have q5 := hcell 5 _ rfl
      have fz : ∀ i, wr.frozen? ⟨g, i, none⟩ = false := fun i => hB.frozen i
      have HP := Lib.hid hput
      have hE := endR_succ rs k j hlt
      have hm1 := endR_mono rs k (show j + 1 ≤ rs.length by omega)
      have hm0 := endR_mono rs k (Nat.zero_le j)
      have e0 : endR rs k 0 = k := rfl
      rw [e0] at hm0
      have hb4 := hE
      unfold markEnd at hb4
      obtain ⟨a, ha⟩ : ∃ a, a = endR rs k j := ⟨_, rfl⟩
      rw [← ha] at hb4 hm0 hE ⊢
      have HE := Lib.hid hE
      have HAA := Lib.hid ha
      have hlen1 : a + 4 + rs[j].key.length + rs[j].val.length ≤ 1152921504606846976 := by omega
      clear hput hcell hel hE hb4 hm1 e0 s6 ha
      have hgs := hB.lt
      have hnF1 : ¬ F1 g := fun e => (hFi g (h1 g e)).2.1 rfl
      have hnF2 : ¬ F2 g := fun e => (hFi g (h2 g e)).2.1 rfl
      go_wp2_with fail
      generalize hW1 : World.setCell _ _ _ = W1
      obtain ⟨B1, C1, w0, w1, w2, r1⟩ := put3 hB hroom hW1
      have w3 := (r1 (j * 6 + 3) (by omega)).trans q3
      have w4 := (r1 (j * 6 + 4) (by omega)).trans q4
      have w5 := (r1 (j * 6 + 5) (by omega)).trans q5
      have X11 := X1.keep (w' := W1) (C1.same (fun b _ hb e => hnF1 (e ▸ hb))) C1.size
      have X21 := X2.keep (w' := W1) (C1.same (fun b _ hb e => hnF2 (e ▸ hb))) C1.size
      clear hW1
      refine (markIntS_any rs[j].key A1 c1 F1 (a + 1 + 1 + 1) W1 X11 (by omega) (by omega) (by omega)).mono ?_
      rintro e W2 ⟨rfl, Y1, C2⟩
      have B2 := B1.keep (C2.block g B1.lt hnF1)
      have v0 := (C2.cellEq B1.lt hnF1).trans w0
      have v1 := (C2.cellEq B1.lt hnF1).trans w1
      have v2 := (C2.cellEq B1.lt hnF1).trans w2
      have v3 := (C2.cellEq B1.lt hnF1).trans w3
      have v4 := (C2.cellEq B1.lt hnF1).trans w4
      have v5 := (C2.cellEq B1.lt hnF1).trans w5
      have r2 : ∀ p, (p < j * 6 ∨ j * 6 + 6 ≤ p) → W2.cell? ⟨g, p, none⟩ = wr.cell? ⟨g, p, none⟩ := fun p hp => (C2.cellEq B1.lt hnF1).trans (r1 p (by omega))
      have X22 := X21.keep (w' := W2) (C2.same (fun b _ hb e => hd b e hb)) C2.size
      have fz2 : ∀ i, W2.frozen? ⟨g, i, none⟩ = false := fun i => B2.frozen i
      have R2 := Lib.hid r2
      have HC2 := Lib.hid ((C1.mono (F' := fun b => b = g ∨ Fi b) (fun i _ h => .inl h)).trans (C2.mono (fun i _ h => .inr (h1 i h))))
      clear q0 q1 q2 q3 q4 q5 w0 w1 w2 w3 w4 w5 fz r1 r2 X1 X2 X11 X21 C1 C2
      go_wp2_with fail
      generalize hW3 : World.setCell _ _ _ = W3
      obtain ⟨B3, c3, k3, r3⟩ := blkPut B2 (o := j * 6 + 4) (by omega) (.bool ((a + 1 + 1 + 1 + rs[j].key.length) % 3 == 0))
      rw [hW3] at B3 c3 k3 r3
      clear hW3
      have u0 := (r3 (j * 6) (by omega)).trans v0
      have u1 := (r3 (j * 6 + 1) (by omega)).trans v1
      have u2 := (r3 (j * 6 + 2) (by omega)).trans v2
      have u3 := (r3 (j * 6 + 3) (by omega)).trans v3
      have u5 := (r3 (j * 6 + 5) (by omega)).trans v5
      have Y13 := Y1.keep (w' := W3) (k3.same (fun b _ hb e => hnF1 (e ▸ hb))) k3.size
      have X23 := X22.keep (w' := W3) (k3.same (fun b _ hb e => hnF2 (e ▸ hb))) k3.size
      have HC3 := Lib.hid (HC2.out.trans (k3.mono (F' := fun b => b = g ∨ Fi b) (fun i _ h => .inl h)))
      refine (markIntS_any rs[j].val A2 c2 F2 (a + 1 + 1 + 1 + rs[j].key.length + 1) W3 X23 (by omega) (by omega) (by omega)).mono ?_
      rintro e W4 ⟨rfl, Z2, C4⟩
      have B4 := B3.keep (C4.block g B3.lt hnF2)
      have t0 := (C4.cellEq B3.lt hnF2).trans u0
      have t1 := (C4.cellEq B3.lt hnF2).trans u1
      have t2 := (C4.cellEq B3.lt hnF2).trans u2
      have t3 := (C4.cellEq B3.lt hnF2).trans u3
      have t4 := (C4.cellEq B3.lt hnF2).trans c3
      have t5 := (C4.cellEq B3.lt hnF2).trans u5
      have Z1 := Y13.keep (w' := W4) (C4.same (fun b _ hb e => hd b hb e)) C4.size
      have HC4 := HC3.out.trans (C4.mono (F' := fun b => b = g ∨ Fi b) (fun i _ h => .inr (h2 i h)))
      have e3 : a + 1 + 1 + 1 = a + 3 := by omega
      rw [e3] at Z1 t4 Z2
      have hXX : (XKind.rec_ 3).X W4 Fi (markR rs[j] a) [.int .i64 a, .int .i64 (a + 1), .bool ((a + 2) % 3 == 0), .slice A1 rs[j].key.length c1, .bool ((a + 3 + rs[j].key.length) % 3 == 0), .slice A2 rs[j].val.length c2] :=
        ⟨A1, c1, A2, c2, by simp [markR, marksI_len], F1, F2, hd, h1, h2, fun b hb => by have := h3 b hb; have := HC4.size; omega, Z1, Z2⟩
      have hfin := HP.out W4 (markR rs[j] a) _ HC4 B4 hXX (fun q u hu => by
        match q, hu with
        | 0, hu => simp at hu; subst hu; exact t0
        | 1, hu => simp at hu; subst hu; exact t1
        | 2, hu => simp at hu; subst hu; rw [show a + 2 = a + 1 + 1 by omega]; exact t2
        | 3, hu => simp at hu; subst hu; exact t3
        | 4, hu => simp at hu; subst hu; exact t4
        | 5, hu => simp at hu; subst hu; exact t5
        | q + 6, hu => simp at hu) (fun p hp => (C4.cellEq B3.lt hnF2).trans ((r3 p (by omega)).trans (R2.out p hp)))
      have hup : upR rs k (j + 1) = (upR rs k j).set j (markR rs[j] a) := by rw [upR, List.getElem?_eq_getElem hlt, HAA.out]; rfl
      rw [← hup] at hfin
      have HF := Lib.hid hfin
      have HCC := Lib.hid (HC.out.trans (HC4.mono (fun i _ hi => hi.elim (fun e => e ▸ hF) (fun e => (hFi i e).1))))
      have hnx : Hid (endR rs k (j + 1) = a + 1 + 1 + 1 + rs[j].key.length + 1 + rs[j].val.length) := Lib.hid (by rw [HE.out]; unfold markEnd; omega)
      clear t0 t1 t2 t3 t4 t5 u0 u1 u2 u3 u5 v0 v1 v2 v3 v4 v5 hfin hup hXX HC4 Z1 Z2 Y1 Y13 X22 X23 C4 k3 c3 r3 e3
      go_wp2
      go_roundw
      case rel => exact ⟨j + 1, by omega, by go_num, by rw [hnx.out], HF, HCC⟩
      case measure => simp [intOf]; omega
    · have hj2 : j = rs.length := by omega
      subst hj2
      go_wp2
      go_ret
      exact ⟨rfl, HX.out, HC.out⟩
end

section
open Go.RowKit

set_option maxHeartbeats 2000000 in
theorem heldRecordS_any (rs : List Rec) (A : Option Addr) (c : Nat) (F : Nat → Prop) (k : Int) (w : World) (h : Recs w F A c (upR rs k rs.length)) (hk : 0 ≤ k) (hk1 : endR rs k rs.length ≤ 1152921504606846976) :
    Calls Try.prog 50 #[.slice A rs.length c, .int .i64 k] w fun e w' => e = .returned (.int .i64 (endR rs k rs.length)) ∧ Below w.heap.size w w' := by
  have hl := h.1
  have hc := h.2.1
  rw [upR_len] at hl
  go_enter Try.func50, Try.ntmps50
  go_wp2_with fail
  go_loopw [1, 5] (fun q i wr => ∃ j : Nat, j ≤ rs.length ∧ i = .int .i64 j ∧ q = .int .i64 (endR rs k j) ∧ Hid (Below w.heap.size w wr)) (fun _ i _ => rs.length - (intOf i).toNat)
  case atStart => exact ⟨0, Nat.zero_le _, rfl, rfl, Lib.hid (Below.refl _ _)⟩
  case round =>
    obtain ⟨j, hj, rfl, rfl, HB⟩ := hrel
    by_cases hlt : j < rs.length
    · have hju : j < (upR rs k rs.length).length := by rw [upR_len]; exact hlt
      have hel : (upR rs k rs.length)[j] = markR rs[j] (endR rs k j) := by
        have := upR_done rs k rs.length j hlt hlt
        rw [List.getElem?_eq_getElem hju] at this
        injection this
      obtain ⟨ad, C1, d1, C2, d2, rfl, _, i1, i2, q0, q1, q2, q3, q4, q5⟩ := (h.below HB.out).rec_at hju
      rw [hel] at i1 i2 q0 q1 q2 q3 q4 q5
      have hE := endR_succ rs k j hlt
      have hm1 := endR_mono rs k (show j + 1 ≤ rs.length by omega)
      have hm0 := endR_mono rs k (Nat.zero_le j)
      have e0 : endR rs k 0 = k := rfl
      rw [e0] at hm0
      have hb4 := hE
      unfold markEnd at hb4
      obtain ⟨a, ha⟩ : ∃ a, a = endR rs k j := ⟨_, rfl⟩
      rw [← ha] at hb4 hm0 hE i1 i2 q0 q1 q2 q3 q4 q5 ⊢
      have HE := Lib.hid hE
      have hlen1 : a + 4 + rs[j].key.length + rs[j].val.length ≤ 1152921504606846976 := by omega
      obtain ⟨nk, hnk⟩ : ∃ nk, nk = rs[j].key.length := ⟨_, rfl⟩
      obtain ⟨nv, hnv⟩ : ∃ nv, nv = rs[j].val.length := ⟨_, rfl⟩
      simp only [markR, marksI_len] at i1 i2 q0 q1 q2 q3 q4 q5
      rw [← hnk] at i1 i2 q3 q4 hlen1
      rw [← hnv] at i2 q5 hlen1
      rw [show a + 2 = a + 1 + 1 by omega] at q2
      rw [show a + 3 = a + 1 + 1 + 1 by omega] at i1 i2 q4
      have HNX : Hid (endR rs k (j + 1) = a + 1 + 1 + 1 + nk + 1 + nv) := Lib.hid (by rw [HE.out, hnk, hnv]; unfold markEnd; omega)
      clear hel hE hb4 hm1 e0 ha hnk hnv HE
      go_wp2_with fail
      refine (heldIntS_any nk C1 d1 _ (a + 1 + 1 + 1) wr i1 (by omega) (by omega) (by omega)).mono ?_
      rintro e w1 ⟨rfl, hb1⟩
      have p4 := below_cell hb1 q4
      have p5 := below_cell hb1 q5
      have i21 := i2.below hb1
      have HB1 := Lib.hid (bthen HB.out hb1)
      clear q0 q1 q2 q3 q4 q5 hb1 i1 i2
      go_wp2_with fail
      refine (heldIntS_any nv C2 d2 _ (a + 1 + 1 + 1 + nk + 1) w1 i21 (by omega) (by omega) (by omega)).mono ?_
      rintro e w2 ⟨rfl, hb2⟩
      have HB2 := Lib.hid (bthen HB1.out hb2)
      clear hb2 i21 p4 p5
      go_wp2
      go_roundw
      case rel => exact ⟨j + 1, by omega, by go_num, by rw [HNX.out], HB2⟩
      case measure => simp [intOf]; omega
    · have hj2 : j = rs.length := by omega
      subst hj2
      go_wp2
      go_ret
      exact ⟨rfl, HB.out⟩
end

section
open Go.RowKit

theorem endR_ge (rs : List Rec) (k : Int) (j : Nat) : k ≤ endR rs k j := by
  have := endR_mono rs k (Nat.zero_le j)
  exact this
theorem markBatch_any (b : Bat) (A : Option Addr) (c : Nat) (F : Nat → Prop) (k : Int) (w : World) (h : XRecs 3 85 w F A c b.recs) (hk : 0 ≤ k) (hk1 : endR b.recs k b.recs.length ≤ 1152921504606846976) :
    Calls Try.prog 21 #[.agg #[.bool b.packed, .bool b.mark, .int .i64 b.prod, .int .i64 b.epoch, .int .i64 b.seq, .slice A b.recs.length c], .int .i64 k] w fun e w' =>
      e = .returned (.int .i64 (endR b.recs k b.recs.length)) ∧ Chg F w w' := by
  go_enter Try.func21, Try.ntmps21
  go_wp2_with fail
  generalize hW : World.alloc _ _ = W
  obtain ⟨hA, b1, hz⟩ := alloc1 hW
  clear hW
  refine (markRecordS_any b.recs A c F k W (h.below b1) hk hk1).mono ?_
  rintro e W2 ⟨rfl, _, C2⟩
  have HC := Lib.hid ((Chg.of_below (F := F) b1).trans C2)
  clear C2 b1 hA
  go_wp2
  go_ret
  exact ⟨rfl, HC.out⟩
end

section
open Go.RowKit

def endB (bs : List Bat) (k : Int) (j : Nat) : Int := (bs.take j).foldl (fun a b => endR b.recs (a + 5) b.recs.length) k
theorem endB_succ (bs : List Bat) (k : Int) (j : Nat) (h : j < bs.length) : endB bs k (j + 1) = endR bs[j].recs (endB bs k j + 5) bs[j].recs.length := by
  unfold endB
  rw [List.take_succ_eq_append_getElem h, List.foldl_append]
  rfl
theorem endB_mono (bs : List Bat) (k : Int) {i j : Nat} (h : i ≤ j) : endB bs k i ≤ endB bs k j := by
  induction j with
  | zero => have : i = 0 := by omega
            subst this; exact Int.le_refl _
  | succ j ih =>
    by_cases e : i = j + 1
    · subst e; exact Int.le_refl _
    · have h1 := ih (by omega)
      by_cases hj : j < bs.length
      · rw [endB_succ bs k j hj]
        have := endR_ge bs[j].recs (endB bs k j + 5) bs[j].recs.length
        omega
      · have : endB bs k (j + 1) = endB bs k j := by unfold endB; rw [List.take_of_length_le (by omega), List.take_of_length_le (by omega)]
        omega
theorem put5 {w W : World} {g o m : Nat} {e : TypeId} {a b c d f : Value} (hB : Blk w g e m) (ho : o + 6 ≤ m) (hW : ((((w.setCell ⟨g, o, none⟩ a).setCell ⟨g, o + 1, none⟩ b).setCell ⟨g, o + 2, none⟩ c).setCell ⟨g, o + 3, none⟩ d).setCell ⟨g, o + 4, none⟩ f = W) :
    Blk W g e m ∧ Chg (fun b => b = g) w W ∧ W.cell? ⟨g, o, none⟩ = some a ∧ W.cell? ⟨g, o + 1, none⟩ = some b ∧ W.cell? ⟨g, o + 2, none⟩ = some c ∧ W.cell? ⟨g, o + 3, none⟩ = some d ∧ W.cell? ⟨g, o + 4, none⟩ = some f ∧ ∀ p, (p < o ∨ o + 5 ≤ p) → W.cell? ⟨g, p, none⟩ = w.cell? ⟨g, p, none⟩ := by
  obtain ⟨B3, C3, c1, c2, c3, r3⟩ := put3 hB ho rfl (a := a) (b := b) (c := c)
  obtain ⟨B4, c4, k4, r4⟩ := blkPut B3 (o := o + 3) (by omega) d
  obtain ⟨B5, c5, k5, r5⟩ := blkPut B4 (o := o + 4) (by omega) f
  rw [hW] at B5 c5 k5 r5
  refine ⟨B5, (C3.trans k4).trans k5, ?_, ?_, ?_, ?_, c5, fun p hp => ?_⟩
  · rw [r5 _ (by omega), r4 _ (by omega)]; exact c1
  · rw [r5 _ (by omega), r4 _ (by omega)]; exact c2
  · rw [r5 _ (by omega), r4 _ (by omega)]; exact c3
  · rw [r5 _ (by omega)]; exact c4
  · rw [r5 _ (by omega), r4 _ (by omega), r3 _ (by omega)]

def markB (b : Bat) (a : Int) : Bat := ⟨a % 3 == 0, (a + 1) % 3 == 0, a + 1 + 1, a + 1 + 1 + 1, a + 1 + 1 + 1 + 1, upR b.recs (a + 5) b.recs.length⟩
/-- The first j batches marked. -/
def upBat (bs : List Bat) (k : Int) : Nat → List Bat
  | 0 => bs
  | j + 1 => (upBat bs k j).set j (markB (batAt bs j) (endB bs k j))
theorem upBat_len (bs : List Bat) (k : Int) (j : Nat) : (upBat bs k j).length = bs.length := by
  induction j with
  | zero => rfl
  | succ j ih => rw [upBat, List.length_set, ih]
theorem upBat_done (bs : List Bat) (k : Int) (j i : Nat) (h : i < j) (hi : i < bs.length) : (upBat bs k j)[i]? = some (markB bs[i] (endB bs k i)) := by
  induction j with
  | zero => omega
  | succ j ih =>
    rw [upBat]
    by_cases e : j = i
    · subst e
      rw [List.getElem?_set_self (by rw [upBat_len]; exact hi), batAt_eq hi]
    · rw [List.getElem?_set_ne e]
      exact ih (by omega)

set_option maxHeartbeats 2000000 in
theorem markBatchS_up (bs : List Bat) (A : Option Addr) (c : Nat) (F : Nat → Prop) (k : Int) (w : World) (h : XBats 3 85 27 w F A c bs) (hk : 0 ≤ k) (hk1 : endB bs k bs.length ≤ 1152921504606846976) :
    Calls Try.prog 34 #[.slice A bs.length c, .int .i64 k] w fun e w' => e = .returned (.int .i64 (endB bs k bs.length)) ∧ XBats 3 85 27 w' F A c (upBat bs k bs.length) ∧ Chg F w w' := by
  have hl := h.1
  have hc := h.2.1
  go_enter Try.func34, Try.ntmps34
  go_wp2_with fail
  go_loopw [1, 5] (fun q i wr => ∃ j : Nat, j ≤ bs.length ∧ i = .int .i64 j ∧ q = .int .i64 (endB bs k j) ∧ (∃ ys, Hid (ys = upBat bs k j) ∧ Hid (ys.length = bs.length ∧ (∀ i, j ≤ i → ys[i]? = bs[i]?) ∧ XBats 3 85 27 wr F A c ys)) ∧ Hid (Chg F w wr)) (fun _ i _ => bs.length - (intOf i).toNat)
  case atStart => exact ⟨0, Nat.zero_le _, rfl, rfl, ⟨bs, Lib.hid rfl, Lib.hid ⟨rfl, fun _ _ => rfl, h⟩⟩, Lib.hid (Chg.refl _ _)⟩
  case round =>
    obtain ⟨j, hj, rfl, rfl, ⟨ys, HU, HY⟩, HC⟩ := hrel
    by_cases hlt : j < bs.length
    · have hju : j < ys.length := by rw [HY.out.1]; exact hlt
      have hel : ys[j] = bs[j] := by
        have := HY.out.2.1 j (Nat.le_refl _)
        rw [List.getElem?_eq_getElem hju, List.getElem?_eq_getElem hlt] at this
        injection this
      obtain ⟨g, m, Fi, cs, rfl, hF, hB, hroom, hFi, hXe, hcell, hput⟩ := HY.out.2.2.focus hju
      rw [hel] at hXe
      obtain ⟨A1, c1, rfl, X1⟩ := hXe
      have s6 : (XKind.bat 3 85).d.sz = 6 := rfl
      rw [s6] at hcell hroom hput
      have q0 := hcell 0 _ rfl
      rw [Nat.add_zero] at q0
      have q1 := hcell 1 _ rfl
      have q2 := hcell 2 _ rfl
      have q3 := hcell 3 _ rfl
      have q4 := hcell 4 _ rfl
      have q5 := hcell 5 _ rfl
      have fz : ∀ i, wr.frozen? ⟨g, i, none⟩ = false := fun i => hB.frozen i
      have HP := Lib.hid hput
      have hE := endB_succ bs k j hlt
      have hm1 := endB_mono bs k (show j + 1 ≤ bs.length by omega)
      have hm0 := endB_mono bs k (Nat.zero_le j)
      have e0 : endB bs k 0 = k := rfl
      rw [e0] at hm0
      obtain ⟨a, ha⟩ : ∃ a, a = endB bs k j := ⟨_, rfl⟩
      rw [← ha] at hm0 hE ⊢
      have HE := Lib.hid hE
      have HAA := Lib.hid ha
      have hge := endR_ge bs[j].recs (a + 5) bs[j].recs.length
      have hle : endR bs[j].recs (a + 5) bs[j].recs.length ≤ 1152921504606846976 := by omega
      have hnF : ¬ Fi g := fun e => (hFi g e).2.1 rfl
      clear hput hcell hel hE hm1 e0 s6 ha
      go_wp2_with fail
      generalize hW1 : World.setCell _ _ _ = W1
      obtain ⟨B1, C1, w0, w1, w2, w3, w4, r1⟩ := put5 hB hroom hW1
      have w5 := (r1 (j * 6 + 5) (by omega)).trans q5
      have X11 := X1.keep (w' := W1) (C1.same (fun b _ hb e => hnF (e ▸ hb))) C1.size
      clear hW1
      rw [show a + 1 + 1 + 1 + 1 + 1 = a + 5 by omega]
      refine (markRecordS_any bs[j].recs A1 c1 Fi (a + 5) W1 X11 (by omega) hle).mono ?_
      rintro e W2 ⟨rfl, Y1, C2⟩
      have B2 := B1.keep (C2.block g B1.lt hnF)
      have t0 := (C2.cellEq B1.lt hnF).trans w0
      have t1 := (C2.cellEq B1.lt hnF).trans w1
      have t2 := (C2.cellEq B1.lt hnF).trans w2
      have t3 := (C2.cellEq B1.lt hnF).trans w3
      have t4 := (C2.cellEq B1.lt hnF).trans w4
      have t5 := (C2.cellEq B1.lt hnF).trans w5
      have HC2 := (C1.mono (F' := fun b => b = g ∨ Fi b) (fun i _ h => .inl h)).trans (C2.mono (fun i _ h => .inr h))
      obtain ⟨nb, hnb⟩ : ∃ nb : Bat, nb = ⟨a % 3 == 0, (a + 1) % 3 == 0, a + 1 + 1, a + 1 + 1 + 1, a + 1 + 1 + 1 + 1, upR bs[j].recs (a + 5) bs[j].recs.length⟩ := ⟨_, rfl⟩
      have hXX : (XKind.bat 3 85).X W2 Fi nb [.bool (a % 3 == 0), .bool ((a + 1) % 3 == 0), .int .i64 (a + 1 + 1), .int .i64 (a + 1 + 1 + 1), .int .i64 (a + 1 + 1 + 1 + 1), .slice A1 bs[j].recs.length c1] := by
        subst hnb
        exact ⟨A1, c1, by simp [upR_len], Y1⟩
      have HUU := Lib.hid (show ys.set j nb = upBat bs k (j + 1) by rw [upBat, ← HU.out, ← HAA.out, batAt_eq hlt, hnb]; rfl)
      have hfin := HP.out W2 nb _ HC2 B2 hXX (fun q u hu => by
        match q, hu with
        | 0, hu => simp at hu; subst hu; exact t0
        | 1, hu => simp at hu; subst hu; exact t1
        | 2, hu => simp at hu; subst hu; exact t2
        | 3, hu => simp at hu; subst hu; exact t3
        | 4, hu => simp at hu; subst hu; exact t4
        | 5, hu => simp at hu; subst hu; exact t5
        | q + 6, hu => simp at hu) (fun p hp => (C2.cellEq B1.lt hnF).trans (r1 p (by omega)))
      have HYY := Lib.hid (show (ys.set j nb).length = bs.length ∧ (∀ i, j + 1 ≤ i → (ys.set j nb)[i]? = bs[i]?) ∧ XBats 3 85 27 W2 F (some ⟨g, 0, none⟩) c (ys.set j nb) from
        ⟨by rw [List.length_set]; exact HY.out.1, fun i hi => by rw [List.getElem?_set_ne (by omega)]; exact HY.out.2.1 i (by omega), hfin⟩)
      have HCC := Lib.hid (HC.out.trans (HC2.mono (fun i _ hi => hi.elim (fun e => e ▸ hF) (fun e => (hFi i e).1))))
      clear t0 t1 t2 t3 t4 t5 w0 w1 w2 w3 w4 w5 q0 q1 q2 q3 q4 q5 fz r1 hfin hXX hnb HC2 C1 C2 Y1 X1 X11
      go_wp2
      go_roundw
      case rel => exact ⟨j + 1, by omega, by go_num, by rw [HE.out], ⟨_, HUU, HYY⟩, HCC⟩
      case measure => simp [intOf]; omega
    · have hj2 : j = bs.length := by omega
      subst hj2
      have HX := Lib.hid HY.out.2.2
      rw [HU.out] at HX
      go_wp2
      go_ret
      exact ⟨rfl, HX.out, HC.out⟩
theorem markBatchS_any (bs : List Bat) (A : Option Addr) (c : Nat) (F : Nat → Prop) (k : Int) (w : World) (h : XBats 3 85 27 w F A c bs) (hk : 0 ≤ k) (hk1 : endB bs k bs.length ≤ 1152921504606846976) :
    Calls Try.prog 34 #[.slice A bs.length c, .int .i64 k] w fun e w' => e = .returned (.int .i64 (endB bs k bs.length)) ∧ Chg F w w' :=
  (markBatchS_up bs A c F k w h hk hk1).mono (fun _ _ h => ⟨h.1, h.2.2⟩)
end

section
open Go.RowKit

set_option maxHeartbeats 2000000 in
theorem heldBatchS_any (bs : List Bat) (A : Option Addr) (c : Nat) (F : Nat → Prop) (k : Int) (w : World) (h : Bats w F A c (upBat bs k bs.length)) (hk : 0 ≤ k) (hk1 : endB bs k bs.length ≤ 1152921504606846976) :
    Calls Try.prog 35 #[.slice A bs.length c, .int .i64 k] w fun e w' => e = .returned (.int .i64 (endB bs k bs.length)) ∧ Below w.heap.size w w' := by
  have hl := h.1
  have hc := h.2.1
  rw [upBat_len] at hl
  go_enter Try.func35, Try.ntmps35
  go_wp2_with fail
  go_loopw [1, 5] (fun q i wr => ∃ j : Nat, j ≤ bs.length ∧ i = .int .i64 j ∧ q = .int .i64 (endB bs k j) ∧ Hid (Below w.heap.size w wr)) (fun _ i _ => bs.length - (intOf i).toNat)
  case atStart => exact ⟨0, Nat.zero_le _, rfl, rfl, Lib.hid (Below.refl _ _)⟩
  case round =>
    obtain ⟨j, hj, rfl, rfl, HB⟩ := hrel
    by_cases hlt : j < bs.length
    · have hju : j < (upBat bs k bs.length).length := by rw [upBat_len]; exact hlt
      have hel : (upBat bs k bs.length)[j] = markB bs[j] (endB bs k j) := by
        have := upBat_done bs k bs.length j hlt hlt
        rw [List.getElem?_eq_getElem hju] at this
        injection this
      obtain ⟨ad, B1, b1, rfl, _, hr, q0, q1, q2, q3, q4, q5⟩ := (h.below HB.out).bat_at hju
      rw [hel] at hr q0 q1 q2 q3 q4 q5
      have hE := endB_succ bs k j hlt
      have hm1 := endB_mono bs k (show j + 1 ≤ bs.length by omega)
      have hm0 := endB_mono bs k (Nat.zero_le j)
      have e0 : endB bs k 0 = k := rfl
      rw [e0] at hm0
      obtain ⟨a, ha⟩ : ∃ a, a = endB bs k j := ⟨_, rfl⟩
      rw [← ha] at hm0 hE hr q0 q1 q2 q3 q4 q5 ⊢
      have HE := Lib.hid hE
      have hge := endR_ge bs[j].recs (a + 5) bs[j].recs.length
      have hle : endR bs[j].recs (a + 5) bs[j].recs.length ≤ 1152921504606846976 := by omega
      simp only [markB, upR_len] at hr q0 q1 q2 q3 q4 q5
      clear hel hE hm1 e0 ha
      go_wp2_with fail
      rw [show a + 1 + 1 + 1 + 1 + 1 = a + 5 by omega]
      refine (heldRecordS_any bs[j].recs B1 b1 _ (a + 5) wr hr (by omega) hle).mono ?_
      rintro e w1 ⟨rfl, hb1⟩
      have HB1 := Lib.hid (bthen HB.out hb1)
      clear q0 q1 q2 q3 q4 q5 hb1 hr
      go_wp2
      go_roundw
      case rel => exact ⟨j + 1, by omega, by go_num, by rw [HE.out], HB1⟩
      case measure => simp [intOf]; omega
    · have hj2 : j = bs.length := by omega
      subst hj2
      go_wp2
      go_ret
      exact ⟨rfl, HB.out⟩
end

section
open Go.RowKit

theorem endR_le (rs : List Rec) (k : Int) : endR rs k rs.length ≤ k + 5 * (wtRs rs : Int) := by
  have : ∀ j, j ≤ rs.length → endR rs k j ≤ k + 4 * (j : Int) + (((rs.take j).map wtR).sum : Int) := by
    intro j
    induction j with
    | zero => intro _; simp [endR]
    | succ j ih =>
      intro hj
      have h1 := ih (by omega)
      rw [endR_succ rs k j (by omega), sum_take_succ wtR rs j (by omega)]
      unfold markEnd wtR
      push_cast
      unfold wtR at h1
      omega
  have h := this rs.length (Nat.le_refl _)
  rw [List.take_length] at h
  unfold wtRs
  push_cast
  omega
theorem endB_le (bs : List Bat) (k : Int) : endB bs k bs.length ≤ k + 5 * (wtBs bs : Int) := by
  have : ∀ j, j ≤ bs.length → endB bs k j ≤ k + 5 * (j : Int) + 5 * (((bs.take j).map wtB).sum : Int) := by
    intro j
    induction j with
    | zero => intro _; simp [endB]
    | succ j ih =>
      intro hj
      have h1 := ih (by omega)
      rw [endB_succ bs k j (by omega), sum_take_succ wtB bs j (by omega)]
      have h2 := endR_le bs[j].recs (endB bs k j + 5)
      have h3 : (wtB bs[j] : Int) = (wtRs bs[j].recs : Int) := rfl
      push_cast
      omega
  have h := this bs.length (Nat.le_refl _)
  rw [List.take_length] at h
  unfold wtBs
  push_cast
  omega
end
end Go.Proofs.Ytomcjjehfocbmaa
