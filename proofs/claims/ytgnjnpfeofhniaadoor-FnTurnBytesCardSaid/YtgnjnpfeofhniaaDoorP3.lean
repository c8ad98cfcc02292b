/- The program's matches. -/
import Derived.Test.YtgnjnpfeofhniaaDoorRq
import Derived.Stop.RegionWithIn
namespace Go.Proofs.YtgnjnpfeofhniaaDoor
set_option linter.unusedVariables false
set_option linter.unusedSimpArgs false
open Go.RowKit Go.Shelf
attribute [local go_sem] Oper.semAt_some

def natInts (ps : List Nat) : List Int := ps.map Int.ofNat
theorem natInts_len (ps : List Nat) : (natInts ps).length = ps.length := by simp [natInts]
theorem natInts_getD (ps : List Nat) (j : Nat) : (natInts ps).getD j 0 = ((ps.getD j 0 : Nat) : Int) := by
  unfold natInts
  rw [List.getD_eq_getElem?_getD, List.getD_eq_getElem?_getD, List.getElem?_map]
  cases ps[j]? <;> simp
theorem getD_mem {ps : List Nat} {j : Nat} (h : j < ps.length) : ps.getD j 0 ∈ ps := by
  rw [List.getD_eq_getElem?_getD, List.getElem?_eq_getElem h]
  exact List.getElem_mem h
theorem matchGo_near {l : List Int} {i : Nat} (xs t : List Nat) (s : Nat × Nat) (h : ∀ p ∈ xs, i - p ≤ 200) : matchGo l i (xs ++ t) s = matchGo l i t (xs.foldl (fun s p => updB l i (i - p) s) s) := by
  induction xs generalizing s with
  | nil => rfl
  | cons p xs ih =>
    rw [List.cons_append]
    conv => lhs; unfold matchGo
    have := h p (by simp)
    rw [if_neg (by omega), ih _ (fun q hq => h q (by simp [hq]))]
    rfl
/-- The places that came. -/
def plAt (ps : List Nat) (pre : List (Ix (natInts ps).length)) : List Nat := (pre.map (·.1)).map (fun j => ps.getD j 0)
theorem plAt_snoc (ps : List Nat) (pre : List (Ix (natInts ps).length)) (x : Ix (natInts ps).length) : plAt ps (pre ++ [x]) = plAt ps pre ++ [ps.getD x.1 0] := by simp [plAt]
theorem range_getD (ps : List Nat) : (List.range ps.length).map (fun j => ps.getD j 0) = ps := by
  apply List.ext_getElem
  · simp
  · intro n h1 h2
    simp [List.getD_eq_getElem?_getD, h2]
theorem plAt_all {ps : List Nat} {pre : List (Ix (natInts ps).length)} (h : pre.map (·.1) = (List.range (natInts ps).length).reverse) : plAt ps pre = ps.reverse := by
  unfold plAt
  rw [h, show List.range (natInts ps).length = List.range ps.length by rw [natInts_len], List.map_reverse, range_getD]
theorem plAt_pre {ps : List Nat} {pre : List (Ix (natInts ps).length)} (h : pre.map (·.1) <+: (List.range (natInts ps).length).reverse) : plAt ps pre <+: ps.reverse := by
  have := h.map (fun j => ps.getD j 0)
  rw [show List.range (natInts ps).length = List.range ps.length by rw [natInts_len], List.map_reverse, range_getD] at this
  exact this
def stAt (l : List Int) (i : Nat) (xs : List Nat) : Nat × Nat := xs.foldl (fun s p => updB l i (i - p) s) (0, 0)
theorem stAt_snoc (l : List Int) (i : Nat) (xs : List Nat) (p : Nat) : stAt l i (xs ++ [p]) = updB l i (i - p) (stAt l i xs) := by simp [stAt]
theorem match_done {l : List Int} {i : Nat} {ps : List Nat} {pre : List (Ix (natInts ps).length)} (h : pre.map (·.1) = (List.range (natInts ps).length).reverse) (hn : ∀ p ∈ plAt ps pre, i - p ≤ 200) : matchN l i ps = stAt l i (plAt ps pre) := by
  unfold matchN stAt
  rw [plAt_all h] at hn ⊢
  have := matchGo_near (l := l) (i := i) ps.reverse [] (0, 0) hn
  rw [List.append_nil] at this
  rw [this]
  rfl
theorem match_stop {l : List Int} {i : Nat} {ps : List Nat} {ini : List (Ix (natInts ps).length)} {last : Ix (natInts ps).length} (h : (ini ++ [last]).map (·.1) <+: (List.range (natInts ps).length).reverse) (hn : ∀ p ∈ plAt ps ini, i - p ≤ 200)
    (hf : 200 < i - ps.getD last.1 0) : matchN l i ps = stAt l i (plAt ps ini) := by
  obtain ⟨t, ht⟩ := plAt_pre h
  rw [plAt_snoc, List.append_assoc] at ht
  unfold matchN stAt
  rw [← ht, matchGo_near _ _ _ hn]
  show matchGo l i (ps.getD last.1 0 :: t) _ = _
  unfold matchGo
  rw [if_pos hf]
theorem near_snoc {i : Nat} {ps : List Nat} {pre : List (Ix (natInts ps).length)} {x : Ix (natInts ps).length} (h : ∀ p ∈ plAt ps pre, i - p ≤ 200) (hx : i - ps.getD x.1 0 ≤ 200) : ∀ p ∈ plAt ps (pre ++ [x]), i - p ≤ 200 := by
  intro p hp
  rw [plAt_snoc] at hp
  rcases List.mem_append.1 hp with hp | hp
  · exact h p hp
  · simp at hp; subst hp; exact hx
theorem alloc5 {w W : World} {a b c d : Obj} (h : (((w.alloc a).alloc b).alloc c).alloc d = W) :
    W.heap[w.heap.size]? = some a ∧ W.heap[w.heap.size + 1]? = some b ∧ W.heap[w.heap.size + 1 + 1]? = some c ∧ W.heap[w.heap.size + 1 + 1 + 1]? = some d ∧ Below w.heap.size w W ∧ W.heap.size = w.heap.size + 1 + 1 + 1 + 1 := by
  generalize hX : (w.alloc a).alloc b = X at h
  obtain ⟨p1, p2, p3, p4⟩ := alloc2 hX
  obtain ⟨q1, q2, q3, q4⟩ := alloc2 h
  rw [p4] at q1 q2 q4
  exact ⟨blk_below p1 q3, blk_below p2 q3, q1, q2, bthen p3 q3, q4⟩

def KeepI (l : List Int) (i : Nat) (w : World) (A : Option Addr) (c : Nat) (s : Nat × Nat) (W : World) : Prop :=
  W.heap[w.heap.size]? = some (.cells #[.slice A l.length c] 32 (0, 0)) ∧ W.heap[w.heap.size + 1]? = some (.cells #[.int .i64 (i : Int)] 3 (0, 0)) ∧
  W.heap[w.heap.size + 1 + 1]? = some (.cells #[.int .i64 (s.1 : Nat)] 3 (0, 0)) ∧ W.heap[w.heap.size + 1 + 1 + 1]? = some (.cells #[.int .i64 (s.2 : Nat)] 3 (0, 0)) ∧ Hid (Below w.heap.size w W)
theorem KeepI.own (l : List Int) (i : Nat) (w : World) (A : Option Addr) (c : Nat) {β : Type} {B : Nat} (hB : w.heap.size ≤ B) (f : β → Nat × Nat) : OwnFrom B (fun s W => KeepI l i w A c (f s) W) :=
  OwnFrom.and (ownBlkR _ _ _ _) (OwnFrom.and (ownBlkR _ _ _ _) (OwnFrom.and (ownBlkR _ _ _ (fun s => #[.int .i64 ((f s).1 : Nat)])) (OwnFrom.and (ownBlkR _ _ _ (fun s => #[.int .i64 ((f s).2 : Nat)])) (ownHbR (Nat.le_refl _) hB))))
theorem KeepI.below {l : List Int} {i : Nat} {w : World} {A : Option Addr} {c : Nat} {s : Nat × Nat} {W W' : World} (h : KeepI l i w A c s W) (hb : Below W.heap.size W W') : KeepI l i w A c s W' :=
  ⟨blk_below h.1 hb, blk_below h.2.1 hb, blk_below h.2.2.1 hb, blk_below h.2.2.2.1 hb, Lib.hid (h.2.2.2.2.out.trans (hb.mono h.2.2.2.2.out.size))⟩
def StopM (l : List Int) (i : Nat) (w : World) (A : Option Addr) (c : Nat) (ps : List Nat) (pre : List (Ix (natInts ps).length)) (W : World) : Prop :=
  ∃ ini last, (pre = ini ++ [last] ∧ (∀ p ∈ plAt ps ini, i - p ≤ 200) ∧ 200 < i - ps.getD last.1 0) ∧ KeepI l i w A c (stAt l i (plAt ps ini)) W
/-- Behind a round that has found a longer one. -/
theorem KeepI.set {l : List Int} {i : Nat} {w : World} {A : Option Addr} {c : Nat} {s : Nat × Nat} {W W1 : World} {B : Nat} (h : KeepI l i w A c s W) (hb : Below W.heap.size W W1) (a b : Nat) :
    KeepsFrom B W ((W1.setCell ⟨w.heap.size + 1 + 1, 0, none⟩ (.int .i64 (a : Int))).setCell ⟨w.heap.size + 1 + 1 + 1, 0, none⟩ (.int .i64 (b : Int))) ∧
    Kpb w.heap.size (w.heap.size + 1 + 1 + 1 + 1) W ((W1.setCell ⟨w.heap.size + 1 + 1, 0, none⟩ (.int .i64 (a : Int))).setCell ⟨w.heap.size + 1 + 1 + 1, 0, none⟩ (.int .i64 (b : Int))) ∧
    KeepI l i w A c (a, b) ((W1.setCell ⟨w.heap.size + 1 + 1, 0, none⟩ (.int .i64 (a : Int))).setCell ⟨w.heap.size + 1 + 1 + 1, 0, none⟩ (.int .i64 (b : Int))) := by
  have h1 := h.below hb
  have hc : Chg (fun x => x = w.heap.size + 1 + 1 ∨ x = w.heap.size + 1 + 1 + 1) W ((W1.setCell ⟨w.heap.size + 1 + 1, 0, none⟩ (.int .i64 (a : Int))).setCell ⟨w.heap.size + 1 + 1 + 1, 0, none⟩ (.int .i64 (b : Int))) :=
    (Chg.of_below (F := fun x => x = w.heap.size + 1 + 1 ∨ x = w.heap.size + 1 + 1 + 1) hb).trans ((Chg.set _ W1 (p := ⟨w.heap.size + 1 + 1, 0, none⟩) (.inl rfl) _).trans (Chg.set _ _ (p := ⟨w.heap.size + 1 + 1 + 1, 0, none⟩) (.inr rfl) _))
  have hsz := h.2.2.2.2.out.size
  refine ⟨keepsChgR hc ?_, Kpb.chg hsz hc (fun x hx => by omega), hc.blk h.1 (by omega), hc.blk h.2.1 (by omega), ?_, ?_, Lib.hid (h.2.2.2.2.out.trans (hc.below hsz (fun x hx => by omega)))⟩
  · rintro x (rfl | rfl)
    · exact ⟨_, h.2.2.1, rfl⟩
    · exact ⟨_, h.2.2.2.1, rfl⟩
  · have := blk_put h1.2.2.1 0 (.int .i64 (a : Int))
    exact blk_far (by simpa using this) (p := ⟨w.heap.size + 1 + 1 + 1, 0, none⟩) (by simp) _
  · have h2 := blk_far h1.2.2.2.1 (p := ⟨w.heap.size + 1 + 1, 0, none⟩) (by simp) (.int .i64 (a : Int))
    have := blk_put h2 0 (.int .i64 (b : Int))
    simpa using this

theorem KeepI.setD {l : List Int} {i : Nat} {w : World} {A : Option Addr} {c : Nat} {s : Nat × Nat} {W W1 : World} {B : Nat} (h : KeepI l i w A c s W) (hb : Below W.heap.size W W1) (a b : Nat) :
    KeepsFrom B W ((W1.setCell ⟨w.heap.size + 1 + 1, 0, none⟩ (.int .i64 (a : Int))).setCell ⟨w.heap.size + 1 + 1 + 1, 0, none⟩ (.int .i64 (b : Int))).drew ∧ Kpb w.heap.size (w.heap.size + 1 + 1 + 1 + 1) W ((W1.setCell ⟨w.heap.size + 1 + 1, 0, none⟩ (.int .i64 (a : Int))).setCell ⟨w.heap.size + 1 + 1 + 1, 0, none⟩ (.int .i64 (b : Int))).drew ∧ KeepI l i w A c (a, b) ((W1.setCell ⟨w.heap.size + 1 + 1, 0, none⟩ (.int .i64 (a : Int))).setCell ⟨w.heap.size + 1 + 1 + 1, 0, none⟩ (.int .i64 (b : Int))).drew := by
  obtain ⟨h1, h2, h3, h4, h5, h6, h7⟩ := h.set (B := B) hb a b
  exact ⟨⟨h1.size, h1.same⟩, ⟨h2.1.drew, h2.2⟩, h3, h4, h5, h6, Lib.hid h7.out.drew⟩

set_option maxRecDepth 100000 in
set_option maxHeartbeats 4000000 in
theorem matchAt_any (l : List Int) (A : Option Addr) (c : Nat) (F : Nat → Prop) (i : Nat) (ps : List Nat) (B : Option Addr) (d : Nat) (G : Nat → Prop) (w : World) (h : Ints w F A c l) (h' : Ints w G B d (natInts ps)) (hn : l.length ≤ 1048576) (hi : i ≤ l.length) (hp : ∀ p ∈ ps, p < i) :
    Calls Tryd.prog 58 #[.slice A l.length c, .int .i64 (i : Int), .slice B ps.length d] w fun e w' => e = .returned (.tuple #[.int .i64 ((matchN l i ps).1 : Nat), .int .i64 ((matchN l i ps).2 : Nat)]) ∧ Below w.heap.size w w' := by
  have hl := h.1
  have hc := h.2.1
  have hl' := h'.1
  have hc' := h'.2.1
  have hpl : ∀ x : Ix (natInts ps).length, ps.getD x.1 0 < i := fun x => hp _ (getD_mem (Nat.lt_of_lt_of_le x.2 (Nat.le_of_eq (natInts_len ps))))
  have HPL := Lib.hid hpl
  clear hpl hp
  rw [← natInts_len]
  obtain ⟨qs, hqs⟩ : ∃ qs, qs = natInts ps := ⟨_, rfl⟩
  have hb' := (h'.bound (bnd_int .i64)).mono (F' := fun b => b < w.heap.size) (fun b hb => hb.2)
  rw [← hqs] at h' hl' hb' ⊢
  have HQS := Lib.hid hqs
  clear hqs
  refine (callsIn_wide (n := 8)).1 ?_
  refine callsIn_of_wp_marks Tryd.func58 rfl trivial ?_ rfl
  simp only [Tryd.ntmps58, List.size_toArray, List.length_cons, List.length_nil, Nat.reduceAdd, Nat.reduceSub, Array.replicate_succ, Array.replicate_zero, List.push_toArray, List.append_toArray, List.nil_append, List.cons_append]
  gi_wp2_with fail
  generalize hW : World.alloc _ _ = W
  obtain ⟨hA, hB, hC, hD, b1, hsW⟩ := alloc5 hW
  clear hW
  refine ⟨trivial, (backward_in Fence.wide _ trivial rfl _ _ _ _).mono ?_⟩
  rintro e w3 ⟨rfl, hw3⟩
  obtain ⟨hE3, b3, hz3⟩ := alloc1 hw3.symm
  have hA3 := blk_below hA b3
  have hB3 := blk_below hB b3
  have hC3 := blk_below hC b3
  have hD3 := blk_below hD b3
  have bb := bthen b1 b3
  rw [hsW] at hE3
  have hL3 := hb'.below bb
  clear hw3 hA hB hC hD
  gi_wp2_with fail
  have HSQ := backward_stops Fence.wide 7 trivial rfl (by omega) (w.heap.size + 1 + 1 + 1 + 1) w.heap.size d B qs hl' hc' w3 hE3 bb.size hL3
  have hK0 : KeepI l i w A c (stAt l i (plAt ps [])) w3 := ⟨hA3, hB3, hC3, hD3, Lib.hid bb⟩
  have hw3s := bb.size
  obtain rfl := HQS.out
  refine wpIn_rangeFunc_ownH rfl (by omega) (gf := 72) (lb := #[.pointer (some ⟨w.heap.size + 1 + 1 + 1 + 1, 0, none⟩)]) rfl trivial (enters_of Tryd.func72 (by kernel_rfl) rfl)
    HSQ Kpb.trans (Kpb.book bb.size) (Below.refl _ _) (fun _ => rfl)
    (fun pre W => KeepI l i w A c (stAt l i (plAt ps pre)) W ∧ ∀ p ∈ plAt ps pre, i - p ≤ 200)
    (fun c' pre W => c' = .exit 0 ∧ StopM l i w A c ps pre W)
    (OwnFrom.and (KeepI.own l i w A c hw3s (fun pre => stAt l i (plAt ps pre))) (ownFrom_pure _ _))
    (fun c' => fun s X Y row hs hg hr => by
      obtain ⟨e1, ini, last, e2, e3⟩ := hs
      exact ⟨e1, ini, last, e2, KeepI.own l i w A c hw3s (fun _ : Unit => stAt l i (plAt ps ini)) () X Y row e3 hg hr⟩)
    ⟨hK0, fun p hp => by simp [plAt] at hp⟩
    (fun x a' W => a' = { tmps := #[.slice A l.length c, .int .i64 (i : Int), .slice B (natInts ps).length d, .pointer (some ⟨w.heap.size, 0, none⟩), .pointer (some ⟨w.heap.size + 1, 0, none⟩), undef, .int .i64 0, .int .i64 0, .pointer (some ⟨w.heap.size + 1 + 1, 0, none⟩), .pointer (some ⟨w.heap.size + 1 + 1 + 1, 0, none⟩), undef, .int .i64 ((natInts ps).getD x.1 0), undef, .slice B (natInts ps).length d, .func (.func 72) #[] #[.pointer (some ⟨w.heap.size + 1 + 1 + 1 + 1, 0, none⟩)], .int .i64 (x.1 : Nat), .int .i64 ((natInts ps).getD x.1 0), undef, undef, undef, undef, undef, undef, undef, undef, undef, undef, undef, undef, undef, undef, undef, undef, undef, undef, undef, undef, undef, undef, undef, undef, undef, undef, undef, undef, undef, undef, undef, undef, undef, undef, undef, undef, undef, undef, undef, undef], defers := [] })
    (fun x a' s X Y row hs hg hr => hs) ?assign ?body ?done ?stop
  case assign =>
    rintro l' pre x W K hI hK
    dsimp only [encIx] at hK ⊢
    gi_wp2
    exact hK _ _ (KeepsFrom.refl _ _) ⟨Below.refl _ _, fun _ _ h => h⟩ hI rfl
  case body =>
    rintro l' pre x a' W hl'' ⟨r, hr⟩ ⟨hK, hnear⟩ rfl hlt
    have hpi := HPL.out x
    have hq := natInts_getD ps x.1
    obtain ⟨p, hpp⟩ : ∃ p, p = ps.getD x.1 0 := ⟨_, rfl⟩
    rw [← hpp] at hpi hq
    rw [hq]
    have HPP := Lib.hid hpp
    have HQ := Lib.hid hq
    clear hpp hq
    obtain ⟨s, hs⟩ : ∃ s, s = stAt l i (plAt ps pre) := ⟨_, rfl⟩
    rw [← hs] at hK
    have HS := Lib.hid hs
    clear hs
    obtain ⟨i1, i2, i3, i4, i5⟩ := id hK
    have hlW := h.below i5.out
    have HK := Lib.hid hK
    have HN := Lib.hid hnear
    obtain ⟨a0, af⟩ := oneR i1
    obtain ⟨a1, bf⟩ := oneR i2
    obtain ⟨a2, cf⟩ := oneR i3
    obtain ⟨a3, df⟩ := oneR i4
    clear i1 i2 i3 i4 hr hK hnear hE3 hA3 hB3 hC3 hD3 HSQ hK0 hL3
    by_cases hfar : 200 < i - p
    · have HF := Lib.hid hfar
      gi_wp2
      exact ⟨KeepsFrom.refl _ _, rfl, pre, x, ⟨rfl, HN.out, by rw [← HPP.out]; exact HF.out⟩, by rw [← HS.out]; exact HK.out⟩
    · have HF := Lib.hid (show i - p ≤ 200 by omega)
      gi_wp2
      clear hfar
      gi_loopw [12] (fun q wr => ∃ n : Nat, n ≤ 66 ∧ i + n ≤ l.length ∧ q = .int .i64 n ∧ Hid (longGo l i (i - p) (66 - n) n = longN l i (i - p)) ∧ Hid (Below W.heap.size W wr)) (fun q _ => 66 - (intOf q).toNat)
      case atStart => exact ⟨0, Nat.zero_le _, hi, rfl, Lib.hid rfl, Lib.hid (Below.refl _ _)⟩
      case round =>
        obtain ⟨n, hn66, hin, rfl, ht, hbw⟩ := hrel
        obtain ⟨m, hm⟩ : ∃ m, m = i + n := ⟨_, rfl⟩
        have hm1 : IntKind.i64.wrap ((i : Int) + (n : Int)) = (m : Int) := by rw [IntWalk.i64_in _ (by omega)]; omega
        obtain ⟨j, hj⟩ : ∃ j, j = p + n := ⟨_, rfl⟩
        have hj1 : IntKind.i64.wrap ((p : Int) + (n : Int)) = (j : Int) := by rw [IntWalk.i64_in _ (by omega)]; omega
        have hjm : i + n - (i - p) = j := by omega
        have HDW := Lib.hid (fun k => show Below W.heap.size W (wr.drewN k) from bthen hbw.out (below_drewN _ _))
        have hHK := HK.out.below hbw.out
        clear a0 af a1 bf a2 cf a3 df
        obtain ⟨a0, af⟩ := oneR hHK.1
        obtain ⟨a1, bf⟩ := oneR hHK.2.1
        clear hHK
        by_cases h2 : n < 66
        · have d2 : decide ((n : Int) < 66) = true := by simp; omega
          by_cases h1 : m < l.length
          · have d1 : decide ((m : Int) < (l.length : Int)) = true := by simp; omega
            have hjl : j < l.length := by omega
            obtain ⟨ad, rfl, _, q⟩ := (hlW.below hbw.out).int_at h1
            obtain ⟨ad', ha, _, q'⟩ := (hlW.below hbw.out).int_at hjl
            injection ha with ha
            subst ha
            by_cases he : l[j] = l[m]
            · have d3 : (l[j] == l[m]) = true := by simp [he]
              have HT := Lib.hid (show longGo l i (i - p) (66 - (n + 1)) (n + 1) = longN l i (i - p) by
                rw [← ht.out, show 66 - n = 66 - (n + 1) + 1 by omega, longGo_more]
                rw [hjm, ← hm, getD_at h1, getD_at hjl]
                exact ⟨h1, he.symm⟩)
              have hin2 : i + (n + 1) ≤ l.length := by omega
              clear he hj hm hjm
              gi_wp2
              refine wpIn_region_drew_r (by kernel_rfl) (by kernel_rfl) (by kernel_rfl) ?_
              repeat (go_big_quiet_step (fail))
              refine wpQuiet_nil ?_
              rintro _ ⟨kd, rfl⟩
              have HBK := Lib.hid (HDW.out kd)
              clear HDW
              gi_wp2
              go_roundw
              case rel => exact ⟨n + 1, by omega, hin2, by go_num, HT, HBK⟩
              case measure => simp [intOf]; omega
            · have d3 : (l[j] == l[m]) = false := by simp [he]
              have HT := Lib.hid (show longN l i (i - p) = n by
                rw [← ht.out, longGo_stop]
                rw [hjm, ← hm, getD_at h1, getD_at hjl]
                exact fun h' => he h'.2.symm)
              clear he hj hm hjm ht
              gi_wp2
              refine wpIn_region_drew_r (by kernel_rfl) (by kernel_rfl) (by kernel_rfl) ?_
              repeat (go_big_quiet_step (fail))
              refine wpQuiet_nil ?_
              rintro _ ⟨kd, rfl⟩
              have HBK := Lib.hid (HDW.out kd)
              clear HDW
              generalize hV : World.drewN wr kd = V at HBK ⊢
              clear hV
              obtain ⟨a0, af⟩ := oneR (blk_below HK.out.1 HBK.out)
              obtain ⟨a1, bf⟩ := oneR (blk_below HK.out.2.1 HBK.out)
              obtain ⟨a2, cf⟩ := oneR (blk_below HK.out.2.2.1 HBK.out)
              obtain ⟨a3, df⟩ := oneR (blk_below HK.out.2.2.2.1 HBK.out)
              by_cases hgt : s.1 < n
              · have hgti : decide (((s.1 : Nat) : Int) < (n : Int)) = true := by simp; omega
                obtain ⟨bk, hbk⟩ : ∃ bk, bk = i - p := ⟨_, rfl⟩
                have hwb : IntKind.i64.wrap ((i : Int) - (p : Int)) = (bk : Int) := by rw [IntWalk.i64_in _ (by omega)]; omega
                have HU := Lib.hid (show (n, bk) = stAt l i (plAt ps (pre ++ [x])) by
                  rw [plAt_snoc, stAt_snoc, ← HS.out, ← HPP.out, hbk]
                  unfold updB
                  rw [HT.out, if_pos hgt])
                have HFN := Lib.hid (near_snoc (x := x) HN.out (by rw [← HPP.out]; exact HF.out))
                have HST := Lib.hid (HK.out.setD (B := w3.heap.size) HBK.out n bk)
                clear HT hbk
                gi_wp2
                gi_region_with (fail)
                all_goals
                  gi_wp2
                  exact ⟨HST.out.1, HST.out.2.1, by rw [← HU.out]; exact HST.out.2.2, HFN.out⟩
              · have HU := Lib.hid (show s = stAt l i (plAt ps (pre ++ [x])) by
                  rw [plAt_snoc, stAt_snoc, ← HS.out, ← HPP.out]
                  unfold updB
                  rw [HT.out, if_neg hgt])
                have HK2 := Lib.hid (HK.out.below HBK.out)
                clear HT
                gi_wp2
                exact ⟨keepsChgR (Chg.of_below (F := fun _ => False) HBK.out) (fun _ h => h.elim), Kpb.below i5.out.size HBK.out, by rw [← HU.out]; exact HK2.out, near_snoc HN.out (by rw [← HPP.out]; exact HF.out)⟩
          · have d1 : decide ((m : Int) < (l.length : Int)) = false := by simp; omega
            have HT := Lib.hid (show longN l i (i - p) = n by
              rw [← ht.out, longGo_stop]
              rw [← hm]
              exact fun h' => h1 h'.1)
            clear hj hm hjm ht
            gi_wp2
            refine wpIn_region_drew_r (by kernel_rfl) (by kernel_rfl) (by kernel_rfl) ?_
            repeat (go_big_quiet_step (fail))
            refine wpQuiet_nil ?_
            rintro _ ⟨kd, rfl⟩
            have HBK := Lib.hid (HDW.out kd)
            clear HDW
            generalize hV : World.drewN wr kd = V at HBK ⊢
            clear hV
            obtain ⟨a0, af⟩ := oneR (blk_below HK.out.1 HBK.out)
            obtain ⟨a1, bf⟩ := oneR (blk_below HK.out.2.1 HBK.out)
            obtain ⟨a2, cf⟩ := oneR (blk_below HK.out.2.2.1 HBK.out)
            obtain ⟨a3, df⟩ := oneR (blk_below HK.out.2.2.2.1 HBK.out)
            by_cases hgt : s.1 < n
            · have hgti : decide (((s.1 : Nat) : Int) < (n : Int)) = true := by simp; omega
              obtain ⟨bk, hbk⟩ : ∃ bk, bk = i - p := ⟨_, rfl⟩
              have hwb : IntKind.i64.wrap ((i : Int) - (p : Int)) = (bk : Int) := by rw [IntWalk.i64_in _ (by omega)]; omega
              have HU := Lib.hid (show (n, bk) = stAt l i (plAt ps (pre ++ [x])) by
                rw [plAt_snoc, stAt_snoc, ← HS.out, ← HPP.out, hbk]
                unfold updB
                rw [HT.out, if_pos hgt])
              have HFN := Lib.hid (near_snoc (x := x) HN.out (by rw [← HPP.out]; exact HF.out))
              have HST := Lib.hid (HK.out.setD (B := w3.heap.size) HBK.out n bk)
              clear HT hbk
              gi_wp2
              gi_region_with (fail)
              all_goals
                gi_wp2
                exact ⟨HST.out.1, HST.out.2.1, by rw [← HU.out]; exact HST.out.2.2, HFN.out⟩
            · have HU := Lib.hid (show s = stAt l i (plAt ps (pre ++ [x])) by
                rw [plAt_snoc, stAt_snoc, ← HS.out, ← HPP.out]
                unfold updB
                rw [HT.out, if_neg hgt])
              have HK2 := Lib.hid (HK.out.below HBK.out)
              clear HT
              gi_wp2
              exact ⟨keepsChgR (Chg.of_below (F := fun _ => False) HBK.out) (fun _ h => h.elim), Kpb.below i5.out.size HBK.out, by rw [← HU.out]; exact HK2.out, near_snoc HN.out (by rw [← HPP.out]; exact HF.out)⟩
        · have d2 : decide ((n : Int) < 66) = false := by simp; omega
          have HT := Lib.hid (show longN l i (i - p) = n by rw [← ht.out, show 66 - n = 0 by omega]; rfl)
          clear hj hm hjm ht
          gi_wp2
          refine wpIn_region_drew_r (by kernel_rfl) (by kernel_rfl) (by kernel_rfl) ?_
          repeat (go_big_quiet_step (fail))
          refine wpQuiet_nil ?_
          rintro _ ⟨kd, rfl⟩
          have HBK := Lib.hid (HDW.out kd)
          clear HDW
          generalize hV : World.drewN wr kd = V at HBK ⊢
          clear hV
          obtain ⟨a0, af⟩ := oneR (blk_below HK.out.1 HBK.out)
          obtain ⟨a1, bf⟩ := oneR (blk_below HK.out.2.1 HBK.out)
          obtain ⟨a2, cf⟩ := oneR (blk_below HK.out.2.2.1 HBK.out)
          obtain ⟨a3, df⟩ := oneR (blk_below HK.out.2.2.2.1 HBK.out)
          by_cases hgt : s.1 < n
          · have hgti : decide (((s.1 : Nat) : Int) < (n : Int)) = true := by simp; omega
            obtain ⟨bk, hbk⟩ : ∃ bk, bk = i - p := ⟨_, rfl⟩
            have hwb : IntKind.i64.wrap ((i : Int) - (p : Int)) = (bk : Int) := by rw [IntWalk.i64_in _ (by omega)]; omega
            have HU := Lib.hid (show (n, bk) = stAt l i (plAt ps (pre ++ [x])) by
              rw [plAt_snoc, stAt_snoc, ← HS.out, ← HPP.out, hbk]
              unfold updB
              rw [HT.out, if_pos hgt])
            have HFN := Lib.hid (near_snoc (x := x) HN.out (by rw [← HPP.out]; exact HF.out))
            have HST := Lib.hid (HK.out.setD (B := w3.heap.size) HBK.out n bk)
            clear HT hbk
            gi_wp2
            gi_region_with (fail)
            all_goals
              gi_wp2
              exact ⟨HST.out.1, HST.out.2.1, by rw [← HU.out]; exact HST.out.2.2, HFN.out⟩
          · have HU := Lib.hid (show s = stAt l i (plAt ps (pre ++ [x])) by
              rw [plAt_snoc, stAt_snoc, ← HS.out, ← HPP.out]
              unfold updB
              rw [HT.out, if_neg hgt])
            have HK2 := Lib.hid (HK.out.below HBK.out)
            clear HT
            gi_wp2
            exact ⟨keepsChgR (Chg.of_below (F := fun _ => False) HBK.out) (fun _ h => h.elim), Kpb.below i5.out.size HBK.out, by rw [← HU.out]; exact HK2.out, near_snoc HN.out (by rw [← HPP.out]; exact HF.out)⟩
  case done =>
    rintro D ys W hD hS ⟨hK, hnear⟩ hKd
    obtain ⟨i1, i2, i3, i4, i5⟩ := id hK
    obtain ⟨a2, cf⟩ := oneR i3
    obtain ⟨a3, df⟩ := oneR i4
    have HF := Lib.hid (match_done (l := l) (i := i) hS hnear)
    have HK := Lib.hid hK
    clear hS hnear hK i1 i2 i3 i4 HSQ hK0 hL3 hE3 hA3 hB3 hC3 hD3
    gi_wp2
    refine wpIn_wide.2 ?_
    go_quiet (fail)
    generalize hV : World.drewN W _ = V
    have hKV : V.heap[D]? = some (.deferred (some [])) := by rw [← hV]; exact hKd
    have HBV := Lib.hid (show Below w.heap.size w V by rw [← hV]; exact i5.out.trans ((below_drewN W _).mono i5.out.size))
    clear hV hKd a2 cf a3 df i5 HK
    gi_wp2
    refine ⟨by simp, .inl ⟨_, _, rfl, run_takeDeferred hKV, ?_⟩⟩
    refine ⟨.tuple #[.int .i64 ((stAt l i (plAt ps ys)).1 : Nat), .int .i64 ((stAt l i (plAt ps ys)).2 : Nat)], ?_, by rw [HF.out], HBV.out.trans (belowK_b (w := w) (Nat.le_refl _) V D _ _ (by omega) hKV rfl rfl)⟩
    simp [results, Tryd.f58, go_sem]
  case stop =>
    rintro D c' pre W hD hSp ⟨rfl, ini, last, ⟨rfl, hnear, hfar⟩, hK⟩ hKd
    obtain ⟨i1, i2, i3, i4, i5⟩ := id hK
    obtain ⟨a2, cf⟩ := oneR i3
    obtain ⟨a3, df⟩ := oneR i4
    have HF := Lib.hid (match_stop (l := l) (i := i) hSp hnear hfar)
    have HK := Lib.hid hK
    clear hSp hnear hK i1 i2 i3 i4 HSQ hK0 hL3 hE3 hA3 hB3 hC3 hD3 hfar
    gi_wp2
    refine wpIn_wide.2 ?_
    go_quiet (fail)
    generalize hV : World.drewN W _ = V
    have hKV : V.heap[D]? = some (.deferred (some [])) := by rw [← hV]; exact hKd
    have HBV := Lib.hid (show Below w.heap.size w V by rw [← hV]; exact i5.out.trans ((below_drewN W _).mono i5.out.size))
    clear hV hKd a2 cf a3 df i5 HK
    gi_wp2
    refine ⟨by simp, .inl ⟨_, _, rfl, run_takeDeferred hKV, ?_⟩⟩
    refine ⟨.tuple #[.int .i64 ((stAt l i (plAt ps ini)).1 : Nat), .int .i64 ((stAt l i (plAt ps ini)).2 : Nat)], ?_, by rw [HF.out], HBV.out.trans (belowK_b (w := w) (Nat.le_refl _) V D _ _ (by omega) hKV rfl rfl)⟩
    simp [results, Tryd.f58, go_sem]
end Go.Proofs.YtgnjnpfeofhniaaDoor
