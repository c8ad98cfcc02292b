/- The program's matches. -/
import Derived.Test.YtgnjnpfeofhniaaRq
import Derived.Stop.RegionWithIn
namespace Go.Proofs.Ytgnjnpfeofhniaa
set_option linter.unusedVariables false
set_option linter.unusedSimpArgs false
open Go.RowKit Go.Shelf
attribute [local go_sem] Oper.semAt_some

def natInts (ps : List Nat) : List Int := ps.map Int.ofNat
theorem natInts_len (ps : List Nat) : (natInts ps).length = ps.length := by simp [natInts]
theorem natInts_getD (ps : List Nat) (j : Nat) : (natInts ps).getD j 0 = ((ps.getD j 0 : Nat) : Int) := by
  unfold natInts
  rw [List.getD_eq_getElem?_getD, List.getD_eq_getElem?_getD, List.getElem?_map]
  cases ps[j]? <;> simp
theorem getD_mem {ps : List Nat} {j : Nat} (h : j < ps.length) : ps.getD j 0 ∈ ps := by
  rw [List.getD_eq_getElem?_getD, List.getElem?_eq_getElem h]
  exact List.getElem_mem h
theorem matchGo_near {l : List Int} {i : Nat} (xs t : List Nat) (s : Nat × Nat) (h : ∀ p ∈ xs, i - p ≤ 200) : matchGo l i (xs ++ t) s = matchGo l i t (xs.foldl (fun s p => updB l i (i - p) s) s) := by
  induction xs generalizing s with
  | nil => rfl
  | cons p xs ih =>
    rw [List.cons_append]
    conv => lhs; unfold matchGo
    have := h p (by simp)
    rw [if_neg (by omega), ih _ (fun q hq => h q (by simp [hq]))]
    rfl
/-- The places that came. -/
def plAt (ps : List Nat) (pre : List (Ix (natInts ps).length)) : List Nat := (pre.map (·.1)).map (fun j => ps.getD j 0)
theorem plAt_snoc (ps : List Nat) (pre : List (Ix (natInts ps).length)) (x : Ix (natInts ps).length) : plAt ps (pre ++ [x]) = plAt ps pre ++ [ps.getD x.1 0] := by simp [plAt]
theorem range_getD (ps : List Nat) : (List.range ps.length).map (fun j => ps.getD j 0) = ps := by
  apply List.ext_getElem
  · simp
  · intro n h1 h2
    simp [List.getD_eq_getElem?_getD, h2]
theorem plAt_all {ps : List Nat} {pre : List (Ix (natInts ps).length)} (h : pre.map (·.1) = (List.range (natInts ps).length).reverse) : plAt ps pre = ps.reverse := by
  unfold plAt
  rw [h, show List.range (natInts ps).length = List.range ps.length by rw [natInts_len], List.map_reverse, range_getD]
theorem plAt_pre {ps : List Nat} {pre : List (Ix (natInts ps).length)} (h : pre.map (·.1) <+: (List.range (natInts ps).length).reverse) : plAt ps pre <+: ps.reverse := by
  have := h.map (fun j => ps.getD j 0)
  rw [show List.range (natInts ps).length = List.range ps.length by rw [natInts_len], List.map_reverse, range_getD] at this
  exact this
def stAt (l : List Int) (i : Nat) (xs : List Nat) : Nat × Nat := xs.foldl (fun s p => updB l i (i - p) s) (0, 0)
theorem stAt_snoc (l : List Int) (i : Nat) (xs : List Nat) (p : Nat) : stAt l i (xs ++ [p]) = updB l i (i - p) (stAt l i xs) := by simp [stAt]
theorem match_done {l : List Int} {i : Nat} {ps : List Nat} {pre : List (Ix (natInts ps).length)} (h : pre.map (·.1) = (List.range (natInts ps).length).reverse) (hn : ∀ p ∈ plAt ps pre, i - p ≤ 200) : matchN l i ps = stAt l i (plAt ps pre) := by
  unfold matchN stAt
  rw [plAt_all h] at hn ⊢
  have := matchGo_near (l := l) (i := i) ps.reverse [] (0, 0) hn
  rw [List.append_nil] at this
  rw [this]
  rfl
theorem match_stop {l : List Int} {i : Nat} {ps : List Nat} {ini : List (Ix (natInts ps).length)} {last : Ix (natInts ps).length} (h : (ini ++ [last]).map (·.1) <+: (List.range (natInts ps).length).reverse) (hn : ∀ p ∈ plAt ps ini, i - p ≤ 200)
    (hf : 200 < i - ps.getD last.1 0) : matchN l i ps = stAt l i (plAt ps ini) := by
  obtain ⟨t, ht⟩ := plAt_pre h
  rw [plAt_snoc, List.append_assoc] at ht
  unfold matchN stAt
  rw [← ht, matchGo_near _ _ _ hn]
  show matchGo l i (ps.getD last.1 0 :: t) _ = _
  unfold matchGo
  rw [if_pos hf]
theorem near_snoc {i : Nat} {ps : List Nat} {pre : List (Ix (natInts ps).length)} {x : Ix (natInts ps).length} (h : ∀ p ∈ plAt ps pre, i - p ≤ 200) (hx : i - ps.getD x.1 0 ≤ 200) : ∀ p ∈ plAt ps (pre ++ [x]), i - p ≤ 200 := by
  intro p hp
  rw [plAt_snoc] at hp
  rcases List.mem_append.1 hp with hp | hp
  · exact h p hp
  · simp at hp; subst hp; exact hx
theorem alloc5 {w W : World} {a b c d : Obj} (h : (((w.alloc a).alloc b).alloc c).alloc d = W) :
    W.heap[w.heap.size]? = some a ∧ W.heap[w.heap.size + 1]? = some b ∧ W.heap[w.heap.size + 1 + 1]? = some c ∧ W.heap[w.heap.size + 1 + 1 + 1]? = some d ∧ Below w.heap.size w W ∧ W.heap.size = w.heap.size + 1 + 1 + 1 + 1 := by
  generalize hX : (w.alloc a).alloc b = X at h
  obtain ⟨p1, p2, p3, p4⟩ := alloc2 hX
  obtain ⟨q1, q2, q3, q4⟩ := alloc2 h
  rw [p4] at q1 q2 q4
  exact ⟨blk_below p1 q3, blk_below p2 q3, q1, q2, bthen p3 q3, q4⟩

def KeepI (l : List Int) (i : Nat) (w : World) (A : Option Addr) (c : Nat) (s : Nat × Nat) (W : World) : Prop :=
  W.heap[w.heap.size]? = some (.cells #[.slice A l.length c] 23 (0, 0)) ∧ W.heap[w.heap.size + 1]? = some (.cells #[.int .i64 (i : Int)] 3 (0, 0)) ∧
  W.heap[w.heap.size + 1 + 1]? = some (.cells #[.int .i64 (s.1 : Nat)] 3 (0, 0)) ∧ W.heap[w.heap.size + 1 + 1 + 1]? = some (.cells #[.int .i64 (s.2 : Nat)] 3 (0, 0)) ∧ Hid (Below w.heap.size w W)
theorem KeepI.own (l : List Int) (i : Nat) (w : World) (A : Option Addr) (c : Nat) {β : Type} {B : Nat} (hB : w.heap.size ≤ B) (f : β → Nat × Nat) : OwnFrom B (fun s W => KeepI l i w A c (f s) W) :=
  OwnFrom.and (ownBlkR _ _ _ _) (OwnFrom.and (ownBlkR _ _ _ _) (OwnFrom.and (ownBlkR _ _ _ (fun s => #[.int .i64 ((f s).1 : Nat)])) (OwnFrom.and (ownBlkR _ _ _ (fun s => #[.int .i64 ((f s).2 : Nat)])) (ownHbR (Nat.le_refl _) hB))))
theorem KeepI.below {l : List Int} {i : Nat} {w : World} {A : Option Addr} {c : Nat} {s : Nat × Nat} {W W' : World} (h : KeepI l i w A c s W) (hb : Below W.heap.size W W') : KeepI l i w A c s W' :=
  ⟨blk_below h.1 hb, blk_below h.2.1 hb, blk_below h.2.2.1 hb, blk_below h.2.2.2.1 hb, Lib.hid (h.2.2.2.2.out.trans (hb.mono h.2.2.2.2.out.size))⟩
def StopM (l : List Int) (i : Nat) (w : World) (A : Option Addr) (c : Nat) (ps : List Nat) (pre : List (Ix (natInts ps).length)) (W : World) : Prop :=
  ∃ ini last, (pre = ini ++ [last] ∧ (∀ p ∈ plAt ps ini, i - p ≤ 200) ∧ 200 < i - ps.getD last.1 0) ∧ KeepI l i w A c (stAt l i (plAt ps ini)) W
/-- Behind a round that has found a longer one. -/
theorem KeepI.set {l : List Int} {i : Nat} {w : World} {A : Option Addr} {c : Nat} {s : Nat × Nat} {W W1 : World} {B : Nat} (h : KeepI l i w A c s W) (hb : Below W.heap.size W W1) (a b : Nat) :
    KeepsFrom B W ((W1.setCell ⟨w.heap.size + 1 + 1, 0, none⟩ (.int .i64 (a : Int))).setCell ⟨w.heap.size + 1 + 1 + 1, 0, none⟩ (.int .i64 (b : Int))) ∧
    Kpb w.heap.size (w.heap.size + 1 + 1 + 1 + 1) W ((W1.setCell ⟨w.heap.size + 1 + 1, 0, none⟩ (.int .i64 (a : Int))).setCell ⟨w.heap.size + 1 + 1 + 1, 0, none⟩ (.int .i64 (b : Int))) ∧
    KeepI l i w A c (a, b) ((W1.setCell ⟨w.heap.size + 1 + 1, 0, none⟩ (.int .i64 (a : Int))).setCell ⟨w.heap.size + 1 + 1 + 1, 0, none⟩ (.int .i64 (b : Int))) := by
  have h1 := h.below hb
  have hc : Chg (fun x => x = w.heap.size + 1 + 1 ∨ x = w.heap.size + 1 + 1 + 1) W ((W1.setCell ⟨w.heap.size + 1 + 1, 0, none⟩ (.int .i64 (a : Int))).setCell ⟨w.heap.size + 1 + 1 + 1, 0, none⟩ (.int .i64 (b : Int))) :=
    (Chg.of_below (F := fun x => x = w.heap.size + 1 + 1 ∨ x = w.heap.size + 1 + 1 + 1) hb).trans ((Chg.set _ W1 (p := ⟨w.heap.size + 1 + 1, 0, none⟩) (.inl rfl) _).trans (Chg.set _ _ (p := ⟨w.heap.size + 1 + 1 + 1, 0, none⟩) (.inr rfl) _))
  have hsz := h.2.2.2.2.out.size
  refine ⟨keepsChgR hc ?_, Kpb.chg hsz hc (fun x hx => by omega), hc.blk h.1 (by omega), hc.blk h.2.1 (by omega), ?_, ?_, Lib.hid (h.2.2.2.2.out.trans (hc.below hsz (fun x hx => by omega)))⟩
  · rintro x (rfl | rfl)
    · exact ⟨_, h.2.2.1, rfl⟩
    · exact ⟨_, h.2.2.2.1, rfl⟩
  · have := blk_put h1.2.2.1 0 (.int .i64 (a : Int))
    exact blk_far (by simpa using this) (p := ⟨w.heap.size + 1 + 1 + 1, 0, none⟩) (by simp) _
  · have h2 := blk_far h1.2.2.2.1 (p := ⟨w.heap.size + 1 + 1, 0, none⟩) (by simp) (.int .i64 (a : Int))
    have := blk_put h2 0 (.int .i64 (b : Int))
    simpa using this

theorem KeepI.setD {l : List Int} {i : Nat} {w : World} {A : Option Addr} {c : Nat} {s : Nat × Nat} {W W1 : World} {B : Nat} (h : KeepI l i w A c s W) (hb : Below W.heap.size W W1) (a b : Nat) :
    KeepsFrom B W ((W1.setCell ⟨w.heap.size + 1 + 1, 0, none⟩ (.int .i64 (a : Int))).setCell ⟨w.heap.size + 1 + 1 + 1, 0, none⟩ (.int .i64 (b : Int))).drew ∧ Kpb w.heap.size (w.heap.size + 1 + 1 + 1 + 1) W ((W1.setCell ⟨w.heap.size + 1 + 1, 0, none⟩ (.int .i64 (a : Int))).setCell ⟨w.heap.size + 1 + 1 + 1, 0, none⟩ (.int .i64 (b : Int))).drew ∧ KeepI l i w A c (a, b) ((W1.setCell ⟨w.heap.size + 1 + 1, 0, none⟩ (.int .i64 (a : Int))).setCell ⟨w.heap.size + 1 + 1 + 1, 0, none⟩ (.int .i64 (b : Int))).drew := by
  obtain ⟨h1, h2, h3, h4, h5, h6, h7⟩ := h.set (B := B) hb a b
  exact ⟨⟨h1.size, h1.same⟩, ⟨h2.1.drew, h2.2⟩, h3, h4, h5, h6, Lib.hid h7.out.drew⟩

end Go.Proofs.Ytgnjnpfeofhniaa
