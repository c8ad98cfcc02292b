/- Marks: batches. -/
import Derived.Test.YtlgcajjoimcdhaaM3
namespace Go.Proofs.Ytlgcajjoimcdhaa
set_option linter.unusedVariables false
set_option linter.unusedSimpArgs false
open Go.RowKit

def endB (bs : List Bat) (k : Int) (j : Nat) : Int := (bs.take j).foldl (fun a b => endR b.recs (a + 5) b.recs.length) k
theorem endB_succ (bs : List Bat) (k : Int) (j : Nat) (h : j < bs.length) : endB bs k (j + 1) = endR bs[j].recs (endB bs k j + 5) bs[j].recs.length := by
  unfold endB
  rw [List.take_succ_eq_append_getElem h, List.foldl_append]
  rfl
theorem endR_ge (rs : List Rec) (k : Int) (j : Nat) : k ≤ endR rs k j := by
  have := endR_mono rs k (Nat.zero_le j)
  exact this
theorem endB_mono (bs : List Bat) (k : Int) {i j : Nat} (h : i ≤ j) : endB bs k i ≤ endB bs k j := by
  induction j with
  | zero => have : i = 0 := by omega
            subst this; exact Int.le_refl _
  | succ j ih =>
    by_cases e : i = j + 1
    · subst e; exact Int.le_refl _
    · have h1 := ih (by omega)
      by_cases hj : j < bs.length
      · rw [endB_succ bs k j hj]
        have := endR_ge bs[j].recs (endB bs k j + 5) bs[j].recs.length
        omega
      · have : endB bs k (j + 1) = endB bs k j := by unfold endB; rw [List.take_of_length_le (by omega), List.take_of_length_le (by omega)]
        omega
theorem put5 {w W : World} {g o m : Nat} {e : TypeId} {a b c d f : Value} (hB : Blk w g e m) (ho : o + 6 ≤ m) (hW : ((((w.setCell ⟨g, o, none⟩ a).setCell ⟨g, o + 1, none⟩ b).setCell ⟨g, o + 2, none⟩ c).setCell ⟨g, o + 3, none⟩ d).setCell ⟨g, o + 4, none⟩ f = W) :
    Blk W g e m ∧ Chg (fun b => b = g) w W ∧ W.cell? ⟨g, o, none⟩ = some a ∧ W.cell? ⟨g, o + 1, none⟩ = some b ∧ W.cell? ⟨g, o + 2, none⟩ = some c ∧ W.cell? ⟨g, o + 3, none⟩ = some d ∧ W.cell? ⟨g, o + 4, none⟩ = some f ∧ ∀ p, (p < o ∨ o + 5 ≤ p) → W.cell? ⟨g, p, none⟩ = w.cell? ⟨g, p, none⟩ := by
  obtain ⟨B3, C3, c1, c2, c3, r3⟩ := put3 hB ho rfl (a := a) (b := b) (c := c)
  obtain ⟨B4, c4, k4, r4⟩ := blkPut B3 (o := o + 3) (by omega) d
  obtain ⟨B5, c5, k5, r5⟩ := blkPut B4 (o := o + 4) (by omega) f
  rw [hW] at B5 c5 k5 r5
  refine ⟨B5, (C3.trans k4).trans k5, ?_, ?_, ?_, ?_, c5, fun p hp => ?_⟩
  · rw [r5 _ (by omega), r4 _ (by omega)]; exact c1
  · rw [r5 _ (by omega), r4 _ (by omega)]; exact c2
  · rw [r5 _ (by omega), r4 _ (by omega)]; exact c3
  · rw [r5 _ (by omega)]; exact c4
  · rw [r5 _ (by omega), r4 _ (by omega), r3 _ (by omega)]

def markB (b : Bat) (a : Int) : Bat := ⟨a % 3 == 0, (a + 1) % 3 == 0, a + 1 + 1, a + 1 + 1 + 1, a + 1 + 1 + 1 + 1, upR b.recs (a + 5) b.recs.length⟩
/-- The first j batches marked. -/
def upBat (bs : List Bat) (k : Int) : Nat → List Bat
  | 0 => bs
  | j + 1 => (upBat bs k j).set j (markB (batAt bs j) (endB bs k j))
theorem upBat_len (bs : List Bat) (k : Int) (j : Nat) : (upBat bs k j).length = bs.length := by
  induction j with
  | zero => rfl
  | succ j ih => rw [upBat, List.length_set, ih]
theorem upBat_done (bs : List Bat) (k : Int) (j i : Nat) (h : i < j) (hi : i < bs.length) : (upBat bs k j)[i]? = some (markB bs[i] (endB bs k i)) := by
  induction j with
  | zero => omega
  | succ j ih =>
    rw [upBat]
    by_cases e : j = i
    · subst e
      rw [List.getElem?_set_self (by rw [upBat_len]; exact hi), batAt_eq hi]
    · rw [List.getElem?_set_ne e]
      exact ih (by omega)

set_option maxHeartbeats 2000000 in
theorem markBatchS_up (bs : List Bat) (A : Option Addr) (c : Nat) (F : Nat → Prop) (k : Int) (w : World) (h : XBats 3 33 30 w F A c bs) (hk : 0 ≤ k) (hk1 : endB bs k bs.length ≤ 1152921504606846976) :
    Calls Try.prog 31 #[.slice A bs.length c, .int .i64 k] w fun e w' => e = .returned (.int .i64 (endB bs k bs.length)) ∧ XBats 3 33 30 w' F A c (upBat bs k bs.length) ∧ Chg F w w' := by
  have hl := h.1
  have hc := h.2.1
  go_enter Try.func31, Try.ntmps31
  go_wp2_with fail
  go_loopw [1, 5] (fun q i wr => ∃ j : Nat, j ≤ bs.length ∧ i = .int .i64 j ∧ q = .int .i64 (endB bs k j) ∧ (∃ ys, Hid (ys = upBat bs k j) ∧ Hid (ys.length = bs.length ∧ (∀ i, j ≤ i → ys[i]? = bs[i]?) ∧ XBats 3 33 30 wr F A c ys)) ∧ Hid (Chg F w wr)) (fun _ i _ => bs.length - (intOf i).toNat)
  case atStart => exact ⟨0, Nat.zero_le _, rfl, rfl, ⟨bs, Lib.hid rfl, Lib.hid ⟨rfl, fun _ _ => rfl, h⟩⟩, Lib.hid (Chg.refl _ _)⟩
  case round =>
    obtain ⟨j, hj, rfl, rfl, ⟨ys, HU, HY⟩, HC⟩ := hrel
    by_cases hlt : j < bs.length
    · have hju : j < ys.length := by rw [HY.out.1]; exact hlt
      have hel : ys[j] = bs[j] := by
        have := HY.out.2.1 j (Nat.le_refl _)
        rw [List.getElem?_eq_getElem hju, List.getElem?_eq_getElem hlt] at this
        injection this
      obtain ⟨g, m, Fi, cs, rfl, hF, hB, hroom, hFi, hXe, hcell, hput⟩ := HY.out.2.2.focus hju
      rw [hel] at hXe
      obtain ⟨A1, c1, rfl, X1⟩ := hXe
      have s6 : (XKind.bat 3 33).d.sz = 6 := rfl
      rw [s6] at hcell hroom hput
      have q0 := hcell 0 _ rfl
      rw [Nat.add_zero] at q0
      have q1 := hcell 1 _ rfl
      have q2 := hcell 2 _ rfl
      have q3 := hcell 3 _ rfl
      have q4 := hcell 4 _ rfl
      have q5 := hcell 5 _ rfl
      have fz : ∀ i, wr.frozen? ⟨g, i, none⟩ = false := fun i => hB.frozen i
      have HP := Lib.hid hput
      have hE := endB_succ bs k j hlt
      have hm1 := endB_mono bs k (show j + 1 ≤ bs.length by omega)
      have hm0 := endB_mono bs k (Nat.zero_le j)
      have e0 : endB bs k 0 = k := rfl
      rw [e0] at hm0
      obtain ⟨a, ha⟩ : ∃ a, a = endB bs k j := ⟨_, rfl⟩
      rw [← ha] at hm0 hE ⊢
      have HE := Lib.hid hE
      have HAA := Lib.hid ha
      have hge := endR_ge bs[j].recs (a + 5) bs[j].recs.length
      have hle : endR bs[j].recs (a + 5) bs[j].recs.length ≤ 1152921504606846976 := by omega
      have hnF : ¬ Fi g := fun e => (hFi g e).2.1 rfl
      clear hput hcell hel hE hm1 e0 s6 ha
      go_wp2_with fail
      generalize hW1 : World.setCell _ _ _ = W1
      obtain ⟨B1, C1, w0, w1, w2, w3, w4, r1⟩ := put5 hB hroom hW1
      have w5 := (r1 (j * 6 + 5) (by omega)).trans q5
      have X11 := X1.keep (w' := W1) (C1.same (fun b _ hb e => hnF (e ▸ hb))) C1.size
      clear hW1
      rw [show a + 1 + 1 + 1 + 1 + 1 = a + 5 by omega]
      refine (markRecordS_any bs[j].recs A1 c1 Fi (a + 5) W1 X11 (by omega) hle).mono ?_
      rintro e W2 ⟨rfl, Y1, C2⟩
      have B2 := B1.keep (C2.block g B1.lt hnF)
      have t0 := (C2.cellEq B1.lt hnF).trans w0
      have t1 := (C2.cellEq B1.lt hnF).trans w1
      have t2 := (C2.cellEq B1.lt hnF).trans w2
      have t3 := (C2.cellEq B1.lt hnF).trans w3
      have t4 := (C2.cellEq B1.lt hnF).trans w4
      have t5 := (C2.cellEq B1.lt hnF).trans w5
      have HC2 := (C1.mono (F' := fun b => b = g ∨ Fi b) (fun i _ h => .inl h)).trans (C2.mono (fun i _ h => .inr h))
      obtain ⟨nb, hnb⟩ : ∃ nb : Bat, nb = ⟨a % 3 == 0, (a + 1) % 3 == 0, a + 1 + 1, a + 1 + 1 + 1, a + 1 + 1 + 1 + 1, upR bs[j].recs (a + 5) bs[j].recs.length⟩ := ⟨_, rfl⟩
      have hXX : (XKind.bat 3 33).X W2 Fi nb [.bool (a % 3 == 0), .bool ((a + 1) % 3 == 0), .int .i64 (a + 1 + 1), .int .i64 (a + 1 + 1 + 1), .int .i64 (a + 1 + 1 + 1 + 1), .slice A1 bs[j].recs.length c1] := by
        subst hnb
        exact ⟨A1, c1, by simp [upR_len], Y1⟩
      have HUU := Lib.hid (show ys.set j nb = upBat bs k (j + 1) by rw [upBat, ← HU.out, ← HAA.out, batAt_eq hlt, hnb]; rfl)
      have hfin := HP.out W2 nb _ HC2 B2 hXX (fun q u hu => by
        match q, hu with
        | 0, hu => simp at hu; subst hu; exact t0
        | 1, hu => simp at hu; subst hu; exact t1
        | 2, hu => simp at hu; subst hu; exact t2
        | 3, hu => simp at hu; subst hu; exact t3
        | 4, hu => simp at hu; subst hu; exact t4
        | 5, hu => simp at hu; subst hu; exact t5
        | q + 6, hu => simp at hu) (fun p hp => (C2.cellEq B1.lt hnF).trans (r1 p (by omega)))
      have HYY := Lib.hid (show (ys.set j nb).length = bs.length ∧ (∀ i, j + 1 ≤ i → (ys.set j nb)[i]? = bs[i]?) ∧ XBats 3 33 30 W2 F (some ⟨g, 0, none⟩) c (ys.set j nb) from
        ⟨by rw [List.length_set]; exact HY.out.1, fun i hi => by rw [List.getElem?_set_ne (by omega)]; exact HY.out.2.1 i (by omega), hfin⟩)
      have HCC := Lib.hid (HC.out.trans (HC2.mono (fun i _ hi => hi.elim (fun e => e ▸ hF) (fun e => (hFi i e).1))))
      clear t0 t1 t2 t3 t4 t5 w0 w1 w2 w3 w4 w5 q0 q1 q2 q3 q4 q5 fz r1 hfin hXX hnb HC2 C1 C2 Y1 X1 X11
      go_wp2
      go_roundw
      case rel => exact ⟨j + 1, by omega, by go_num, by rw [HE.out], ⟨_, HUU, HYY⟩, HCC⟩
      case measure => simp [intOf]; omega
    · have hj2 : j = bs.length := by omega
      subst hj2
      have HX := Lib.hid HY.out.2.2
      rw [HU.out] at HX
      go_wp2
      go_ret
      exact ⟨rfl, HX.out, HC.out⟩
theorem markBatchS_any (bs : List Bat) (A : Option Addr) (c : Nat) (F : Nat → Prop) (k : Int) (w : World) (h : XBats 3 33 30 w F A c bs) (hk : 0 ≤ k) (hk1 : endB bs k bs.length ≤ 1152921504606846976) :
    Calls Try.prog 31 #[.slice A bs.length c, .int .i64 k] w fun e w' => e = .returned (.int .i64 (endB bs k bs.length)) ∧ Chg F w w' :=
  (markBatchS_up bs A c F k w h hk hk1).mono (fun _ _ h => ⟨h.1, h.2.2⟩)
end Go.Proofs.Ytlgcajjoimcdhaa
