/- Plain: scanning a segment. No program in sight. -/
import Derived.Test.YtomcjjehfocbmaaPd
namespace Go.Proofs.Ytomcjjehfocbmaa
set_option linter.unusedVariables false
set_option linter.unusedSimpArgs false

open Classical in
/-- The batch at a place, if one stands there. -/
noncomputable def rdBat (l : List Int) (p : Nat) : Option Bat := if h : ∃ b, BatAt l p b then some h.choose else none
theorem rdBat_rd (l : List Int) (p : Nat) : RdBat l p (rdBat l p) := by
  unfold rdBat
  split
  · rename_i h; exact h.choose_spec
  · rename_i h; exact fun b hb => h ⟨b, hb⟩
theorem rdBat_of {l : List Int} {p : Nat} {r : Option Bat} (h : RdBat l p r) : rdBat l p = r := (rdBat_rd l p).uniq h
theorem rdBat_some {l : List Int} {p : Nat} {b : Bat} (h : BatAt l p b) : rdBat l p = some b := rdBat_of (r := some b) h
theorem rdBat_none {l : List Int} {p : Nat} (h : ∀ b, ¬ BatAt l p b) : rdBat l p = none := rdBat_of (r := none) h
theorem rdBat_at {l : List Int} {p : Nat} {b : Bat} (h : rdBat l p = some b) : BatAt l p b := by
  have := rdBat_rd l p
  rw [h] at this
  exact this

/-- A head, or less, whose bytes are not all there. -/
def tornB (l : List Int) (p : Nat) : Bool := decide (l.length < p + 18) || decide ((l.length : Int) < p + 7 + num2 l (p + 3))
def lastOf (bs : List Bat) : Int := match bs.getLast? with | none => -1 | some b => b.last
theorem lastOf_nil : lastOf [] = -1 := rfl
theorem lastOf_snoc (bs : List Bat) (b : Bat) : lastOf (bs ++ [b]) = b.last := by simp [lastOf]
theorem lastOf_at {bs : List Bat} (h : 0 < bs.length) : lastOf bs = bs[bs.length - 1].last := by
  unfold lastOf
  rw [List.getLast?_eq_getElem?, List.getElem?_eq_getElem (by omega)]
/-- Scanning on: so many batches at most, at a place, behind what was found. -/
noncomputable def scanGo (l : List Int) : Nat → Nat → List Bat → List Bat × Nat × Int
  | 0, p, bs => (bs, p, 0)
  | f + 1, p, bs =>
    if p = l.length then (bs, p, 0) else if tornB l p = true then (bs, p, 1) else
    match rdBat l p with
    | none => (bs, p, 2)
    | some b => if b.first ≤ lastOf bs then (bs, p, 3) else scanGo l f (p + (batBytes b).length) (bs ++ [b])
noncomputable def scanOf (l : List Int) : List Bat × Nat × Int := if bytesB l = true then scanGo l 8 0 [] else ([], 0, 2)
section
variable {l : List Int} {f p : Nat} {bs : List Bat} {b : Bat}
theorem scanGo_zero (l : List Int) (p : Nat) (bs : List Bat) : scanGo l 0 p bs = (bs, p, 0) := rfl
theorem scanGo_end (h : p = l.length) : scanGo l f p bs = (bs, p, 0) := by
  cases f with
  | zero => rfl
  | succ f => rw [scanGo, if_pos h]
theorem scanGo_torn (h : p ≠ l.length) (ht : tornB l p = true) : scanGo l (f + 1) p bs = (bs, p, 1) := by rw [scanGo, if_neg h, if_pos ht]
theorem scanGo_bad (h : p ≠ l.length) (ht : tornB l p = false) (hb : rdBat l p = none) : scanGo l (f + 1) p bs = (bs, p, 2) := by rw [scanGo, if_neg h, if_neg (by simp [ht]), hb]
theorem scanGo_order (h : p ≠ l.length) (ht : tornB l p = false) (hb : rdBat l p = some b) (ho : b.first ≤ lastOf bs) : scanGo l (f + 1) p bs = (bs, p, 3) := by
  rw [scanGo, if_neg h, if_neg (by simp [ht]), hb]; simp only [if_pos ho]
theorem scanGo_more (h : p ≠ l.length) (ht : tornB l p = false) (hb : rdBat l p = some b) (ho : ¬ b.first ≤ lastOf bs) : scanGo l (f + 1) p bs = scanGo l f (p + (batBytes b).length) (bs ++ [b]) := by
  rw [scanGo, if_neg h, if_neg (by simp [ht]), hb]; simp only [if_neg ho]
end
theorem BatAt.whole {l : List Int} {p : Nat} {b : Bat} (h : BatAt l p b) : tornB l p = false ∧ p ≠ l.length := by
  have h1 := h.tests
  have h2 := h.many
  have h3 := h.size
  refine ⟨?_, by omega⟩
  unfold tornB
  simp only [Bool.or_eq_false_iff, decide_eq_false_iff_not]
  rw [h2]
  omega
/-- What holds of what was found. -/
structure ScanInv (l : List Int) (p : Nat) (bs : List Bat) : Prop where
  log : logB bs = true
  le : p ≤ l.length
  at_ : p = (logCat bs).length
  bytes : l.take p = logCat bs
theorem logB_nil : logB [] = true := by rw [logB_iff]; simp
theorem ScanInv.start (l : List Int) : ScanInv l 0 [] := ⟨logB_nil, Nat.zero_le _, rfl, by simp [logCat_nil]⟩
theorem lt_last {bs : List Bat} {a b : Bat} (h : bs.Pairwise Bat.lt) (hv : ∀ x ∈ bs, batB x = true) (ha : a ∈ bs) (hl : lastOf bs < b.first) : Bat.lt a b := by
  unfold Bat.lt
  obtain ⟨i, hi, rfl⟩ := List.getElem_of_mem ha
  rw [lastOf_at (by omega)] at hl
  by_cases h2 : i = bs.length - 1
  · subst h2; exact hl
  · have h3 := (List.pairwise_iff_getElem.1 h) i (bs.length - 1) hi (by omega) (by omega)
    have h4 := first_le_last (hv _ (List.getElem_mem (show bs.length - 1 < bs.length by omega)))
    unfold Bat.lt at h3
    omega
theorem ScanInv.more {l : List Int} {p : Nat} {bs : List Bat} {b : Bat} (h : ScanInv l p bs) (h8 : bs.length < 8) (hb : BatAt l p b) (ho : lastOf bs < b.first) : ScanInv l (p + (batBytes b).length) (bs ++ [b]) := by
  obtain ⟨h0, h1, h2⟩ := (logB_iff _).1 h.log
  refine ⟨?_, hb.len, ?_, ?_⟩
  · rw [logB_iff]
    refine ⟨by simp; omega, fun x hx => ?_, ?_⟩
    · rcases List.mem_append.1 hx with hx | hx
      · exact h1 x hx
      · simp at hx; subst hx; exact hb.1
    · rw [List.pairwise_append]
      exact ⟨h2, by simp, fun a ha c hc => by simp at hc; subst hc; exact lt_last h2 h1 ha ho⟩
  · rw [logCat_append, logCat_one, List.length_append, ← h.at_]
  · rw [List.take_add, h.bytes, hb.region, logCat_append, logCat_one]
structure ScanOk (l : List Int) (r : List Bat × Nat × Int) : Prop where
  inv : ScanInv l r.2.1 r.1
  stop : r.2.2 = 0 → r.2.1 = l.length ∨ r.1.length = 8
theorem scanGo_ok (l : List Int) (f p : Nat) (bs : List Bat) (h : ScanInv l p bs) (hf : f + bs.length = 8) : ScanOk l (scanGo l f p bs) := by
  induction f generalizing p bs with
  | zero => exact ⟨h, fun _ => .inr (by show bs.length = 8; omega)⟩
  | succ f ih =>
    by_cases hp : p = l.length
    · rw [scanGo_end hp]; exact ⟨h, fun _ => .inl hp⟩
    · cases ht : tornB l p with
      | true => rw [scanGo_torn hp ht]; exact ⟨h, fun h => by cases h⟩
      | false =>
        cases hb : rdBat l p with
        | none => rw [scanGo_bad hp ht hb]; exact ⟨h, fun h => by cases h⟩
        | some b =>
          by_cases ho : b.first ≤ lastOf bs
          · rw [scanGo_order hp ht hb ho]; exact ⟨h, fun h => by cases h⟩
          · rw [scanGo_more hp ht hb ho]
            exact ih _ _ (h.more (by omega) (rdBat_at hb) (by omega)) (by simp; omega)
theorem scanOf_ok (l : List Int) : ScanOk l (scanOf l) := by
  unfold scanOf
  split
  · exact scanGo_ok l 8 0 [] (ScanInv.start l) rfl
  · exact ⟨ScanInv.start l, fun h => by cases h⟩
theorem scanOf_bytes {l : List Int} (h : (scanOf l).2.2 ≠ 2) : bytesB l = true := by
  unfold scanOf at h
  split at h
  · assumption
  · exact absurd rfl h
theorem scanOf_len {l : List Int} : (scanOf l).1.length ≤ 8 := ((logB_iff _).1 (scanOf_ok l).inv.log).1
/-- The batches that stand ahead are found one behind the other. -/
theorem cat_at {l : List Int} {bs : List Bat} (h : logB bs = true) (hl : l.take (logCat bs).length = logCat bs) {k : Nat} (hk : k < bs.length) : BatAt l (logCat (bs.take k)).length bs[k] := by
  refine ⟨(logB_all h).2 _ (List.getElem_mem hk), ?_⟩
  obtain ⟨s, hs⟩ : ∃ s, s = l.drop (logCat bs).length := ⟨_, rfl⟩
  have e : l = logCat bs ++ s := by conv => lhs; rw [← List.take_append_drop (logCat bs).length l, hl, ← hs]
  have e2 : logCat bs = logCat (bs.take k) ++ (batBytes bs[k] ++ logCat (bs.drop (k + 1))) := by
    rw [← logCat_one, ← logCat_append, ← logCat_append]
    congr 1
    rw [List.singleton_append, ← List.drop_eq_getElem_cons hk, List.take_append_drop]
  refine ⟨logCat (bs.drop (k + 1)) ++ s, ?_⟩
  rw [e2, List.append_assoc] at e
  conv => lhs; rw [e]
  rw [List.drop_left, List.append_assoc]
theorem lastOf_take {bs : List Bat} (h : logB bs = true) {k : Nat} (hk : k < bs.length) : ¬ bs[k].first ≤ lastOf (bs.take k) := by
  obtain ⟨_, h1, h2⟩ := (logB_iff _).1 h
  rcases Nat.eq_zero_or_pos k with rfl | h0
  · have := (batB_base (h1 _ (List.getElem_mem hk))).1
    simp only [List.take_zero, lastOf_nil]
    omega
  · rw [lastOf_at (by rw [List.length_take]; omega)]
    have h3 := (List.pairwise_iff_getElem.1 h2) (k - 1) k (by omega) hk (by omega)
    unfold Bat.lt at h3
    have e : (bs.take k)[(bs.take k).length - 1]'(by rw [List.length_take]; omega) = bs[k - 1] := by
      rw [List.getElem_take]
      congr 1
      rw [List.length_take]; omega
    rw [e]
    omega
theorem scan_pre {l : List Int} {bs : List Bat} (h : logB bs = true) (hl : l.take (logCat bs).length = logCat bs) (k : Nat) (hk : k ≤ bs.length) :
    scanGo l 8 0 [] = scanGo l (8 - k) (logCat (bs.take k)).length (bs.take k) := by
  have h8 := ((logB_iff _).1 h).1
  induction k with
  | zero => rfl
  | succ k ih =>
    have hb := cat_at h hl (k := k) (by omega)
    rw [ih (by omega), show 8 - k = (8 - (k + 1)) + 1 by omega, scanGo_more hb.whole.2 hb.whole.1 (rdBat_some hb) (lastOf_take h (by omega)), ← List.take_succ_eq_append_getElem (by omega), logCat_take (by omega), List.length_append]
theorem scan_pre_all {l : List Int} {bs : List Bat} (h : logB bs = true) (hl : l.take (logCat bs).length = logCat bs) : scanGo l 8 0 [] = scanGo l (8 - bs.length) (logCat bs).length bs := by
  have := scan_pre h hl bs.length (Nat.le_refl _)
  rw [List.take_length] at this
  exact this
/-- What is good is found whole. -/
theorem scan_cat {bs : List Bat} (h : logB bs = true) : scanOf (logCat bs) = (bs, (logCat bs).length, 0) := by
  unfold scanOf
  rw [if_pos (logCat_bytes (logB_all h).2), scan_pre_all h (List.take_length), scanGo_end rfl]
theorem num2_take {l : List Int} {n i : Nat} (h : i + 2 ≤ n) : num2 (l.take n) i = num2 l i := by
  unfold num2
  have e : ∀ j, j < n → (l.take n).getD j 0 = l.getD j 0 := fun j hj => by rw [List.getD_eq_getElem?_getD, List.getD_eq_getElem?_getD, List.getElem?_take_of_lt hj]
  rw [e i (by omega), e (i + 1) (by omega)]
/-- Cut in the midst of a batch. -/
theorem torn_cut {l : List Int} {p n : Nat} {b : Bat} (h : BatAt l p b) (hn : n < p + (batBytes b).length) : tornB (l.take n) p = true := by
  have h1 := h.many
  have h2 := h.len
  have h3 := batBytes_len b
  have h4 := rest_len b
  unfold tornB
  rw [List.length_take, Nat.min_eq_left (by omega)]
  simp only [Bool.or_eq_true, decide_eq_true_eq]
  by_cases hs : n < p + 18
  · exact .inl hs
  · right
    rw [num2_take (by omega), h1]
    omega
/-- A part of what is good: so many batches, the end or a torn one. -/
theorem scan_part {bs : List Bat} (h : logB bs = true) (k : Nat) (hk : k ≤ (logCat bs).length) :
    ∃ j, j ≤ bs.length ∧ (logCat (bs.take j)).length ≤ k ∧ scanOf ((logCat bs).take k) = (bs.take j, (logCat (bs.take j)).length, if (logCat (bs.take j)).length = k then 0 else 1) ∧ (∀ hj : j < bs.length, k < (logCat (bs.take (j + 1))).length) := by
  have h8 := ((logB_iff _).1 h).1
  have hby : bytesB ((logCat bs).take k) = true := List.all_eq_true.2 fun x hx => List.all_eq_true.1 (show (logCat bs).all byteB = true from logCat_bytes (logB_all h).2) x (List.mem_of_mem_take hx)
  have hex : ∀ m, m ≤ bs.length → (logCat (bs.take m)).length ≤ k → ∃ j, j ≤ bs.length ∧ (logCat (bs.take j)).length ≤ k ∧ (∀ hj : j < bs.length, k < (logCat (bs.take (j + 1))).length) := by
    intro m hm hmk
    induction hd : bs.length - m generalizing m with
    | zero => exact ⟨m, hm, hmk, fun hj => by omega⟩
    | succ d ih =>
      by_cases hc : (logCat (bs.take (m + 1))).length ≤ k
      · exact ih (m + 1) (by omega) hc (by omega)
      · exact ⟨m, hm, hmk, fun _ => by omega⟩
  obtain ⟨j, hj, hjk, hnext⟩ := hex 0 (Nat.zero_le _) (by simp [logCat_nil])
  refine ⟨j, hj, hjk, ?_, hnext⟩
  have hlj : logB (bs.take j) = true := logB_take h j
  have hpre : ((logCat bs).take k).take (logCat (bs.take j)).length = logCat (bs.take j) := by
    rw [List.take_take, Nat.min_eq_left hjk]
    conv => lhs; rw [show bs = bs.take j ++ bs.drop j from (List.take_append_drop j bs).symm, logCat_append]
    rw [show (logCat (List.take j (List.take j bs ++ List.drop j bs))).length = (logCat (bs.take j)).length by rw [List.take_append_drop], List.take_left]
  unfold scanOf
  rw [if_pos hby, scan_pre_all hlj hpre]
  have hlen : ((logCat bs).take k).length = k := by rw [List.length_take]; omega
  by_cases he : (logCat (bs.take j)).length = k
  · rw [scanGo_end (by rw [hlen, he]), if_pos he]
  · rw [if_neg he]
    have hjl : j < bs.length := by
      rcases Nat.lt_or_ge j bs.length with hh | hh
      · exact hh
      · rw [List.take_of_length_le hh] at hjk he; omega
    have hb := cat_at h (List.take_length) hjl
    have ht := torn_cut (n := k) hb (by have := hnext hjl; rw [logCat_take hjl, List.length_append] at this; exact this)
    have hz : (bs.take j).length = j := by rw [List.length_take]; omega
    rw [hz, show 8 - j = (8 - j - 1) + 1 by omega, scanGo_torn (by rw [hlen]; exact he) ht]
/-- Twice the same: the second time its offsets are not ahead. -/
theorem scan_twice {l : List Int} (h0 : (scanOf l).2.2 = 0) (hn : (scanOf l).2.1 = l.length) (hne : l.length ≠ 0) :
    scanOf (l ++ l) = ((scanOf l).1, (scanOf l).2.1, if (scanOf l).1.length = 8 then 0 else 3) := by
  have ok := (scanOf_ok l).inv
  have hby := scanOf_bytes (l := l) (by rw [h0]; decide)
  obtain ⟨bs, hbs⟩ : ∃ bs, bs = (scanOf l).1 := ⟨_, rfl⟩
  have hl : l = logCat bs := by
    have := ok.bytes
    rw [hn, List.take_length, ← hbs] at this
    exact this
  rw [hn]
  rw [← hbs] at ok ⊢
  have h8 := ((logB_iff _).1 ok.log).1
  have hll : (logCat bs).length = l.length := by rw [← hl]
  unfold scanOf
  rw [if_pos (bytesB_append hby hby), scan_pre_all (l := l ++ l) ok.log (by rw [hll, List.take_left, hl]), hll]
  by_cases he : bs.length = 8
  · rw [if_pos he, he]
    exact scanGo_zero _ _ _
  · rw [if_neg he]
    have hpos : 0 < bs.length := by
      rcases Nat.eq_zero_or_pos bs.length with hh | hh
      · rw [List.length_eq_zero_iff.1 hh] at hl; rw [hl] at hne; exact absurd rfl hne
      · exact hh
    have hb0 : BatAt l 0 bs[0] := cat_at ok.log (by rw [hll, List.take_length, hl]) hpos
    have hb : BatAt (l ++ l) l.length bs[0] := by
      obtain ⟨hv, s, hs⟩ := hb0
      exact ⟨hv, s, by rw [List.drop_left]; simpa using hs⟩
    obtain ⟨_, hv, hp⟩ := (logB_iff _).1 ok.log
    have hfl : bs[0].first ≤ lastOf bs := by
      rw [lastOf_at hpos]
      have h1 := first_le_last (hv _ (List.getElem_mem hpos))
      by_cases hz : bs.length - 1 = 0
      · have e : bs[bs.length - 1] = bs[0] := by congr 1
        rw [e]; exact h1
      · have h2 := (List.pairwise_iff_getElem.1 hp) 0 (bs.length - 1) hpos (by omega) (by omega)
        have h3 := first_le_last (hv _ (List.getElem_mem (show bs.length - 1 < bs.length by omega)))
        unfold Bat.lt at h2
        omega
    rw [show 8 - bs.length = (8 - bs.length - 1) + 1 by omega, scanGo_order hb.whole.2 hb.whole.1 (rdBat_some hb) hfl]
/-- Seeking on: so many batches at most; n: the number of the next one. -/
noncomputable def seekGo (l : List Int) (o : Int) : Nat → Nat → Nat → Option (Bat × Nat)
  | 0, _, _ => none
  | f + 1, p, n =>
    match rdBat l p with
    | none => none
    | some b => if o ≤ b.last then some (b, n) else seekGo l o f (p + (batBytes b).length) (n + 1)
theorem seekGo_none {l : List Int} {o : Int} {f p n : Nat} (h : rdBat l p = none) : seekGo l o f p n = none := by
  cases f with
  | zero => rfl
  | succ f => rw [seekGo, h]
theorem seekGo_here {l : List Int} {o : Int} {f p n : Nat} {b : Bat} (h : rdBat l p = some b) (ho : o ≤ b.last) : seekGo l o (f + 1) p n = some (b, n) := by rw [seekGo, h]; simp only [if_pos ho]
theorem seekGo_on {l : List Int} {o : Int} {f p n : Nat} {b : Bat} (h : rdBat l p = some b) (ho : ¬ o ≤ b.last) : seekGo l o (f + 1) p n = seekGo l o f (p + (batBytes b).length) (n + 1) := by rw [seekGo, h]; simp only [if_neg ho]

/-- The entries' places are the batches'. -/
theorem idxTo_at (bs : List Bat) (e : Int) (k : Nat) (hk : k ≤ bs.length) : ∀ x ∈ idxTo bs e k, ∃ j, ∃ hj : j < k, x = ⟨(bs[j]'(by omega)).first, placeAt bs j⟩ := by
  induction k with
  | zero => intro x hx; simp [idxTo] at hx
  | succ k ih =>
    intro x hx
    by_cases hf : farP e (idxTo bs e k) (placeAt bs k)
    · rw [idxTo_yes (by omega) hf] at hx
      rcases List.mem_append.1 hx with hx | hx
      · obtain ⟨j, hj, h⟩ := ih (by omega) x hx
        exact ⟨j, by omega, h⟩
      · simp at hx
        exact ⟨k, by omega, hx⟩
    · rw [idxTo_no hf] at hx
      obtain ⟨j, hj, h⟩ := ih (by omega) x hx
      exact ⟨j, by omega, h⟩
theorem idx_lt {bs : List Bat} (h : logB bs = true) {i j : Nat} (hij : i < j) (hj : j < bs.length) : Ent.lt ⟨(bs[i]'(by omega)).first, placeAt bs i⟩ ⟨bs[j].first, placeAt bs j⟩ := by
  obtain ⟨_, hv, hp⟩ := (logB_iff _).1 h
  have h1 := (List.pairwise_iff_getElem.1 hp) i j (by omega) hj hij
  have h2 := first_le_last (hv _ (List.getElem_mem (show i < bs.length by omega)))
  have h3 := placeAt_step (bs := bs) (k := i) (by omega)
  have h4 := placeAt_mono (bs := bs) (j := i + 1) (k := j) (by omega)
  unfold Bat.lt at h1
  refine ⟨?_, ?_⟩
  · show (bs[i]'(by omega)).first < bs[j].first; omega
  · show placeAt bs i < placeAt bs j; omega
theorem idxTo_pair {bs : List Bat} (h : logB bs = true) (e : Int) (k : Nat) (hk : k ≤ bs.length) : (idxTo bs e k).Pairwise Ent.lt := by
  induction k with
  | zero => simp [idxTo]
  | succ k ih =>
    by_cases hf : farP e (idxTo bs e k) (placeAt bs k)
    · rw [idxTo_yes (by omega) hf, List.pairwise_append]
      refine ⟨ih (by omega), by simp, fun a ha c hc => ?_⟩
      obtain ⟨j, hj, rfl⟩ := idxTo_at bs e k (by omega) a ha
      simp at hc
      subst hc
      exact idx_lt h hj (by omega)
    · rw [idxTo_no hf]; exact ih (by omega)
theorem idxTo_ents {bs : List Bat} (h : logB bs = true) (e : Int) : entsB (idxTo bs e bs.length) = true := by
  rw [entsB_iff]
  refine ⟨Nat.le_trans (idxTo_len bs e bs.length) (logB_all h).1, fun x hx => ?_, idxTo_pair h e _ (Nat.le_refl _)⟩
  obtain ⟨j, hj, rfl⟩ := idxTo_at bs e _ (Nat.le_refl _) x hx
  have h1 := (batB_base ((logB_all h).2 _ (List.getElem_mem hj))).1
  have h2 := placeAt_range h j
  simp only [entB, inB, Bool.and_eq_true, decide_eq_true_eq]
  omega
theorem idx_bat {bs : List Bat} (h : logB bs = true) {e : Int} {x : Ent} (hx : x ∈ idxTo bs e bs.length) : ∃ b p, x.place = ((p : Nat) : Int) ∧ x.off = b.first ∧ BatAt (logCat bs) p b := by
  obtain ⟨j, hj, rfl⟩ := idxTo_at bs e _ (Nat.le_refl _) x hx
  exact ⟨bs[j], _, rfl, rfl, cat_at h (List.take_length) hj⟩
end Go.Proofs.Ytomcjjehfocbmaa
