/- impl.pack: the closure that tells what is plain. -/
import Derived.Test.YtfflhenldegmmaaP4
import Derived.Test.YtfflhenldegmmaaC0
namespace Go.Proofs.Ytfflhenldegmmaa
set_option linter.unusedVariables false
set_option linter.unusedSimpArgs false
open Go.RowKit Go.Shelf
attribute [local go_sem] Oper.semAt_some

def HoldI (W : World) (b : Nat) (v : Value) : Prop := W.heap[b]? = some (.cells #[v] 23 (0, 0))
theorem HoldI.one {W : World} {b : Nat} {v : Value} (h : HoldI W b v) : W.cell? ⟨b, 0, none⟩ = some v ∧ ∀ i, W.frozen? ⟨b, i, none⟩ = false := oneR h
theorem HoldI.chg {G : Nat → Prop} {W W' : World} {b : Nat} {v : Value} (h : HoldI W b v) (hc : Chg G W W') (hn : ¬ G b) : HoldI W' b v := hc.blk h hn
theorem HoldI.lt {W : World} {b : Nat} {v : Value} (h : HoldI W b v) : b < W.heap.size := (Array.getElem?_eq_some_iff.1 h).1
theorem HoldI.set {W : World} {b : Nat} {v : Value} (h : HoldI W b v) (u : Value) : HoldI (W.setCell ⟨b, 0, none⟩ u) b u := by
  have := blk_put h 0 u
  simpa [HoldI] using this
theorem Kind.Row.recap {α : Type} {d : Kind α} {w : World} {F : Nat → Prop} {A : Option Addr} {c c' : Nat} {xs : List α} (h : d.Row w F A c xs) (h1 : xs.length ≤ c') (h2 : c' ≤ 9223372036854775807) : d.Row w F A c' xs := ⟨h1, h2, h.2.2⟩
theorem piece_row {w : World} {F : Nat → Prop} {A : Option Addr} {c : Nat} {p : List Int} (h : Ints w F A c p) (j : Nat) : Ints w F (Option.map (fun x => x.add (64 * j)) A) (pieceL p.length j) ((p.drop (64 * j)).take 64) := by
  by_cases hlt : 64 * j < p.length
  · have h1 := (h.cut (64 * j) (by omega)).take 64
    have hc : cutAddr A (64 * j) c 1 = Option.map (fun x => x.add (64 * j)) A := by
      have := h.1
      unfold cutAddr
      rw [if_neg (by omega), Nat.mul_one]
    have h1' : Ints w F (cutAddr A (64 * j) c 1) (c - 64 * j) ((p.drop (64 * j)).take 64) := h1
    rw [hc] at h1'
    refine h1'.recap (by unfold pieceL; rw [List.length_take, List.length_drop]; omega) (by unfold pieceL; omega)
  · have e : (p.drop (64 * j)).take 64 = [] := by rw [List.drop_eq_nil_of_le (by omega)]; rfl
    rw [e]
    exact Kind.Row.nil _ _ (by unfold pieceL; omega)
theorem piece_len (p : List Int) (j : Nat) : ((p.drop (64 * j)).take 64).length = pieceL p.length j := by unfold pieceL; rw [List.length_take, List.length_drop]
theorem piecesAt_len (p : List Int) (js : List Nat) : (piecesAt p js).length ≤ 65 * js.length := by
  induction js with
  | nil => simp [piecesAt]
  | cons j t ih =>
    have : piecesAt p (j :: t) = pieceAt p j ++ piecesAt p t := by simp [piecesAt]
    rw [this, List.length_append, List.length_cons]
    unfold pieceAt
    rw [List.length_cons, List.length_take]
    omega
/-- Nothing of it left, the room kept. -/
theorem AppP.zero {α : Type} {d : Kind α} {e : TypeId} {w : World} {P : Nat → Prop} {A : Option Addr} {n c : Nat} {xs : List α} (h : AppP d e w P (.slice A n c) xs) : AppP d e w P (.slice A 0 c) [] := by
  obtain ⟨F, inner, ⟨h1, h2⟩, hP, _, _⟩ := h
  refine ⟨fun _ => False, [], ⟨by simp, ?_⟩, fun k hk => hP k (by cases A <;> exact hk), fun b hb => hb.elim, fun j x hj => by simp at hj⟩
  rcases h2 with ⟨e1, _⟩ | ⟨g, cap, cur, e1, hg, hh, hn, hc, hs, _⟩
  · injection e1 with e1 e2 e3
    subst e1 e3
    exact .inl ⟨rfl, rfl⟩
  · injection e1 with e1 e2 e3
    subst e1 e3
    exact .inr ⟨g, c, cur, rfl, hg, hh, Nat.zero_le _, hc, hs, by simp⟩
theorem AppP.row_of {α : Type} {d : Kind α} {e : TypeId} {w : World} {P : Nat → Prop} {A : Option Addr} {n c : Nat} {xs : List α} (h : AppP d e w P (.slice A n c) xs) : n = xs.length ∧ n ≤ c ∧ c ≤ 9223372036854775807 ∧ d.Row w P A c xs := by
  obtain ⟨A', c', e1, hr⟩ := AppP.row h
  injection e1 with e1 e2 e3
  subst e1 e2 e3
  exact ⟨rfl, hr.1, hr.2.1, hr⟩

theorem AppP.tight {α : Type} {d : Kind α} (hfl : d.Flat) {e : TypeId} {w : World} {P : Nat → Prop} {v : Value} {xs : List α} (h : AppP d e w P v xs) : AppP d e w (fun b => v.ownBlock = some b) v xs := by
  obtain ⟨F, inner, h1, h2, h3, h4⟩ := h
  exact ⟨fun _ => False, inner, h1, fun k hk => hk, fun b hb => hb.elim, fun j x hj => by obtain ⟨cs, hc, hi⟩ := h4 j x hj; exact ⟨cs, hfl _ _ _ _ _ hc, hi⟩⟩

/-- What holds while the pieces are told. -/
def FlI (xs ps : List Int) (bo : Nat) (vo : Value) (Po : Nat → Prop) (w3 : World) (pre : List Nat) (W : World) : Prop :=
  ∃ v, HoldI W bo v ∧ AppP (Kind.int .i64) 3 W Po v (xs ++ piecesAt ps pre) ∧ (v.ownBlock = vo.ownBlock ∨ ∃ b, v.ownBlock = some b ∧ w3.heap.size ≤ b) ∧ Hid (Chg (fun b => b = bo ∨ vo.ownBlock = some b) w3 W)
theorem chg_grown {G : Nat → Prop} {w X Y : World} {row : Option Nat} (h : Chg G w X) (hg : X.grownBy Y row) (hr : ∀ r, row = some r → w.heap.size ≤ r) : Chg G w Y :=
  h.then (G := fun b => row = some b) ⟨hg.os, hg.tape, hg.output, hg.size, fun b hb hn => hg.block b hb (fun e => hn e.symm)⟩ (fun i hi hG => by have := hr i hG; omega)
theorem FlI.own (xs ps : List Int) (bo : Nat) (vo : Value) (Po : Nat → Prop) (w3 : World) : OwnFrom w3.heap.size (FlI xs ps bo vo Po w3) := by
  rintro s X Y row ⟨v, h1, h2, h3, h4⟩ hg hr
  refine ⟨v, (grownBy_keeps_cells hg (fun r e => (hr r e).2) h1 rfl).trans h1, AppP.keepOwn (flat_int _) h2 (fun k hk => ?_), h3, Lib.hid (chg_grown h4.out hg (fun r e => (hr r e).1))⟩
  obtain ⟨cs, hcs⟩ := AppP.cells h2 hk
  exact grownBy_keeps_cells hg (fun r e => (hr r e).2) hcs rfl

/-- What holds behind it. -/
def FlF (bp bo : Nat) (v v' : Value) (ys : List Int) (Po Pp G : Nat → Prop) (w : World) (_ : Unit) (W : World) : Prop :=
  HoldI W bo v ∧ HoldI W bp v' ∧ AppP (Kind.int .i64) 3 W Po v ys ∧ AppP (Kind.int .i64) 3 W Pp v' [] ∧ Hid (Chg G w W)
theorem appP_own {P : Nat → Prop} {v : Value} {xs : List Int} {X Y : World} {row : Option Nat} (h : AppP (Kind.int .i64) 3 X P v xs) (hg : X.grownBy Y row) (hr : ∀ r, row = some r → ∃ o : Obj, X.heap[r]? = some o ∧ o.isCells = false) : AppP (Kind.int .i64) 3 Y P v xs :=
  AppP.keepOwn (flat_int _) h (fun k hk => by
    obtain ⟨cs, hcs⟩ := AppP.cells h hk
    exact grownBy_keeps_cells hg hr hcs rfl)
theorem FlF.own (bp bo : Nat) (v v' : Value) (ys : List Int) (Po Pp G : Nat → Prop) (w : World) : OwnFrom w.heap.size (FlF bp bo v v' ys Po Pp G w) := by
  rintro s X Y row ⟨h1, h2, h3, h4, h5⟩ hg hr
  exact ⟨(grownBy_keeps_cells hg (fun r e => (hr r e).2) h1 rfl).trans h1, (grownBy_keeps_cells hg (fun r e => (hr r e).2) h2 rfl).trans h2, appP_own h3 hg (fun r e => (hr r e).2), appP_own h4 hg (fun r e => (hr r e).2), Lib.hid (chg_grown h5.out hg (fun r e => (hr r e).1))⟩

set_option maxRecDepth 100000 in
set_option maxHeartbeats 4000000 in
theorem flush_any (w : World) (bp bo : Nat) (A : Option Addr) (c : Nat) (vo : Value) (ps xs : List Int) (Pp Po : Nat → Prop) (hbp : HoldI w bp (.slice A ps.length c)) (hbo : HoldI w bo vo) (hne : bp ≠ bo)
    (HP : AppP (Kind.int .i64) 3 w Pp (.slice A ps.length c) ps) (HO : AppP (Kind.int .i64) 3 w Po vo xs)
    (hPo : ∀ b, Po b → b ≠ bp ∧ b ≠ bo ∧ (Value.slice A ps.length c).ownBlock ≠ some b) (hPp : ∀ b, Pp b → b ≠ bp ∧ b ≠ bo) (hnew : ∀ b, w.heap.size ≤ b → Po b) (hx : xs.length ≤ 4194304) (hp : ps.length ≤ 4194304) :
    Calls Try.prog 89 #[.pointer (some ⟨bp, 0, none⟩), .pointer (some ⟨bo, 0, none⟩)] w fun e w' => (∃ v, e = .returned v) ∧ ∃ vo' vp', HoldI w' bo vo' ∧ HoldI w' bp vp' ∧ AppP (Kind.int .i64) 3 w' Po vo' (xs ++ plainB ps) ∧
      AppP (Kind.int .i64) 3 w' Pp vp' [] ∧ vp'.ownBlock = (Value.slice A ps.length c).ownBlock ∧ (vo'.ownBlock = vo.ownBlock ∨ ∃ b, vo'.ownBlock = some b ∧ w.heap.size ≤ b) ∧ Chg (fun b => b = bp ∨ b = bo ∨ vo.ownBlock = some b) w w' := by
  obtain ⟨_, hnc, hcm, hrow⟩ := AppP.row_of (AppP.tight (flat_int _) HP)
  obtain ⟨p0, pf⟩ := hbp.one
  refine (callsIn_wide (n := 8)).1 ?_
  refine callsIn_of_wp_marks Try.func89 rfl trivial ?_ rfl
  simp only [Try.ntmps89, List.size_toArray, List.length_cons, List.length_nil, Nat.reduceAdd, Nat.reduceSub, Array.replicate_succ, Array.replicate_zero, List.push_toArray, List.append_toArray, List.nil_append, List.cons_append]
  gi_wp2_with fail
  refine ⟨trivial, (chunk_in _ _ _ _ _).mono ?_⟩
  rintro e w3 ⟨rfl, hw3⟩
  obtain ⟨hS3, hN3, b3, hz3⟩ := alloc2 hw3.symm
  clear hw3
  have hbp3 : HoldI w3 bp (.slice A ps.length c) := blk_below hbp b3
  have hbo3 : HoldI w3 bo vo := blk_below hbo b3
  have HO3 := AppP.below HO b3
  have HP3 := AppP.below HP b3
  have hrow3 := hrow.below b3
  have HSQ := chunk_stops 7 (by omega) w.heap.size (w.heap.size + 1) ps.length c A hnc hcm (by omega) w3 hS3 hN3
  have hw3s := b3.size
  gi_wp2_with fail
  have hI0 : FlI xs ps bo vo Po w3 [] w3 := ⟨vo, hbo3, by simpa [piecesAt] using HO3, .inl rfl, Lib.hid (Chg.refl _ _)⟩
  have hbos := hbo.lt
  have hbps := hbp.lt
  refine wpIn_rangeFunc_ownH rfl (by omega) (gf := 100) (lb := #[.pointer (some ⟨w.heap.size, 0, none⟩), .pointer (some ⟨w.heap.size + 1, 0, none⟩)]) rfl trivial (enters_of Try.func100 (by kernel_rfl) rfl)
    HSQ Kpc.trans (fun W l o o' _ h hc _ => Kpc.book W l o o' h hc) (Below.refl _ _) (fun _ => rfl)
    (FlI xs ps bo vo Po w3) (fun _ _ _ => False)
    (FlI.own xs ps bo vo Po w3)
    (fun c' => fun s X Y row hs hg hr => hs)
    hI0
    (fun x a' W => a' = { tmps := #[.pointer (some ⟨bp, 0, none⟩), .pointer (some ⟨bo, 0, none⟩), .slice (Option.map (fun y => y.add (64 * x)) A) (pieceL ps.length x) (pieceL ps.length x), .slice A ps.length c, .func (.func 100) #[] #[.pointer (some ⟨w.heap.size, 0, none⟩), .pointer (some ⟨w.heap.size + 1, 0, none⟩)], .slice (Option.map (fun y => y.add (64 * x)) A) (pieceL ps.length x) (pieceL ps.length x), undef, undef, undef, undef, undef, undef, undef, undef, undef, undef], defers := [] })
    (fun x a' s X Y row hs hg hr => hs) ?assign ?body ?done ?stop
  case assign =>
    rintro l' pre x W K hI hK
    dsimp only [encC] at hK ⊢
    gi_wp2
    exact hK _ _ (KeepsFrom.refl _ _) (Kpc.refl _ _ _) hI rfl
  case body =>
    rintro l' pre x a' W hl'' ⟨r, hr⟩ ⟨v, i1, i2, i3, i4⟩ rfl hlt
    obtain ⟨o0, of⟩ := i1.one
    have hPv : ∀ b, v.ownBlock = some b → b ≠ bp ∧ b ≠ bo := fun b hb => ⟨(hPo b (AppP.ne i2 hb)).1, (hPo b (AppP.ne i2 hb)).2.1⟩
    have hvs : ∀ b, v.ownBlock = some b → b ≠ w.heap.size ∧ b ≠ w.heap.size + 1 := fun b hb => by
      rcases i3 with i3 | ⟨b', e1, h1⟩
      · have := AppP.own_lt HO (k := b) (by rw [← i3]; exact hb)
        omega
      · rw [hb] at e1
        injection e1 with e1
        omega
    have hrW : Ints W (fun b => (Value.slice A ps.length c).ownBlock = some b) A c ps := hrow3.keep (i4.out.same (fun i hi hPi => by
      rintro (rfl | h)
      · exact (hPp _ (AppP.ne HP hPi)).2 rfl
      · exact (hPo _ (AppP.ne HO h)).2.2 hPi))
    have hprow := piece_row hrW x
    have hpL := piece_len ps x
    have hpl := piecesAt_len ps pre
    have hN : piecesN ps.length ≤ 65537 := by unfold piecesN; omega
    have hd64 : pieceL ps.length x ≤ 64 := by unfold pieceL; omega
    have hsn := Lib.hid (piecesAt_snoc ps pre x)
    have hsx : pieceAt ps x = (((pieceL ps.length x : Nat) : Int) - 1) :: (ps.drop (64 * x)).take 64 := rfl
    have hWs := i4.out.size
    obtain ⟨Y, hY⟩ : ∃ Y, Y = (ps.drop (64 * x)).take 64 := ⟨_, rfl⟩
    obtain ⟨d, hd⟩ : ∃ d, d = pieceL ps.length x := ⟨_, rfl⟩
    obtain ⟨B, hB⟩ : ∃ B, B = Option.map (fun y => Addr.add y (64 * x)) A := ⟨_, rfl⟩
    obtain ⟨zs, hzs⟩ : ∃ zs, zs = xs ++ piecesAt ps pre := ⟨_, rfl⟩
    have hzl : zs.length ≤ 8519680 := by rw [hzs, List.length_append]; omega
    have HZ := Lib.hid (show xs ++ piecesAt ps (pre ++ [x]) = zs ++ [(d : Int) - 1] ++ Y by rw [hsn.out, hsx, ← hd, ← hY, hzs]; simp)
    rw [← hY, ← hB, ← hd] at hprow
    rw [← hY, ← hd] at hpL
    rw [← hd] at hd64
    rw [← hzs] at i2
    rw [← hB, ← hd]
    have hwr : IntKind.i64.wrap ((d : Int) - 1) = (d : Int) - 1 := by rw [IntWalk.i64_in _ (by omega)]
    have hnewW : ∀ b, W.heap.size ≤ b → Po b := fun b hb => hnew b (by omega)
    have HI2 := Lib.hid i2
    have HI4 := i4
    have HI1 := Lib.hid i1
    clear hY hd hB hzs hsx hpl hN hsn hrW HSQ hI0 hS3 hN3 hbp3 hbo3 HO3 HP3 hrow3 hr i1 i4
    gi_wp2_with (gi_at_builtin; go_loud (refine wpListIn_appP (Kind.int .i64) i2 rfl _ _ 23 (.int .i64 0) 8 rfl Try.underlying23 (by kernel_rfl) rfl (by decide) ((d : Int) - 1) [.int .i64 ((d : Int) - 1)] (fun _ => False) rfl rfl rfl (fun _ h => h.elim) (by simp [Value.oneCell']) hnewW (by omega) (by omega) ?_))
    intro v1 W1 HA1 hc1 ho1
    obtain ⟨us, hus⟩ : ∃ us, us = zs ++ [(d : Int) - 1] := ⟨_, rfl⟩
    have hul : us.length ≤ 8519681 := by rw [hus, List.length_append]; simp; omega
    rw [← hus] at HA1 HZ
    have hprow1 := hprow.keep (hc1.same (fun i hi hPi hv => (hPo _ (AppP.ne i2 hv)).2.2 hPi))
    have hW1 := hc1.size
    clear i2 hprow hus
    gi_wp2_with (gi_at_builtin; go_loud (refine wpListIn_appF (Kind.int .i64) HA1 rfl _ _ 23 (.int .i64 0) 8 rfl Try.underlying23 (by kernel_rfl) rfl (bnd_int .i64) (onec_int .i64) (flat_int .i64) rfl rfl hpL hprow1 (fun b hb => hnewW b (by omega)) (by omega) (by omega) ?_))
    intro v2 W2 HA2 hc2 ho2
    obtain ⟨qs, hqs⟩ : ∃ qs, qs = us ++ Y := ⟨_, rfl⟩
    rw [← hqs] at HA2 HZ
    obtain ⟨A2, c2, rfl, _, _⟩ := HA2.slice_
    have HC2 : Hid (Chg (fun b => v.ownBlock = some b) W W2) := Lib.hid (hc1.then hc2 (fun i hi he => by
      rcases ho1 with h | ⟨b, h, hb⟩
      · rw [h] at he; exact he
      · rw [h] at he; injection he with he; omega))
    have HO2 : Hid ((Value.slice A2 qs.length c2).ownBlock = v.ownBlock ∨ ∃ b, (Value.slice A2 qs.length c2).ownBlock = some b ∧ W.heap.size ≤ b) := Lib.hid (by
      rcases ho2 with h | ⟨b, h, hb⟩
      · rw [h]; exact ho1
      · exact .inr ⟨b, h, by omega⟩)
    have HI1' : HoldI W2 bo v := HI1.out.chg HC2.out (fun e => (hPv _ e).2 rfl)
    obtain ⟨o0', of'⟩ := HI1'.one
    have HH := Lib.hid HI1'
    have HA := Lib.hid HA2
    have HP1 : Hid ((Value.slice A2 qs.length c2).ownBlock ≠ some bo) := Lib.hid (fun e => (hPo _ (AppP.ne HA2 e)).2.1 rfl)
    clear o0 of hc1 hc2 HA1 HA2 hprow1 ho1 ho2 HI1' hqs
    gi_wp2
    obtain ⟨T, hT⟩ : ∃ T, T = W2.setCell ⟨bo, 0, none⟩ (.slice A2 qs.length c2) := ⟨_, rfl⟩
    rw [← hT]
    have hcT : Chg (fun b => b = bo ∨ v.ownBlock = some b) W T := by
      rw [hT]
      exact (HC2.out.mono (fun i _ h => .inr h)).trans (Chg.set _ W2 (p := ⟨bo, 0, none⟩) (.inl rfl) _)
    have hHT : HoldI T bo (.slice A2 qs.length c2) := by rw [hT]; exact HH.out.set _
    have hAT : AppP (Kind.int .i64) 3 T Po (.slice A2 qs.length c2) qs := by
      refine AppP.keepOwn (flat_int _) HA.out (fun k hk => ?_)
      rw [hT]
      exact Below.heap_setCell W2 ⟨bo, 0, none⟩ _ k (fun e => HP1.out (by rw [← show k = bo from e]; exact hk))
    clear hT
    refine ⟨keepsChgR hcT ?_, Kpc.chg hcT ?_ ?_, ⟨_, hHT, by rw [HZ.out]; exact hAT, ?_, Lib.hid (HI4.out.then hcT ?_)⟩⟩
    · rintro b (rfl | hb)
      · exact ⟨_, HI1.out, rfl⟩
      · obtain ⟨cs, hcs⟩ := AppP.cells HI2.out hb
        exact ⟨_, hcs, rfl⟩
    · rintro (e | e)
      · omega
      · exact (hvs _ e).1 rfl
    · rintro (e | e)
      · omega
      · exact (hvs _ e).2 rfl
    · rcases HO2.out with h | ⟨b, h, hb⟩
      · rw [h]; exact i3
      · exact .inr ⟨b, h, by omega⟩
    · rintro i hi (rfl | h)
      · exact .inl rfl
      · rcases i3 with i3 | ⟨b', e1, h1⟩
        · rw [i3] at h; exact .inr h
        · rw [h] at e1; injection e1 with e1; omega
  case done =>
    rintro D ys W hD rfl ⟨v, i1, i2, i3, i4⟩ hKd
    rw [pieces_all _ _ (Nat.le_refl _)] at i2
    have hbW : HoldI W bp (.slice A ps.length c) := hbp3.chg i4.out (by
      rintro (e | e)
      · exact hne e
      · exact (hPo _ (AppP.ne HO e)).1 rfl)
    have hPW := HP3.keepOwn (flat_int _) (fun k hk => i4.out.block k (AppP.own_lt HP3 hk) (by
      rintro (e | e)
      · exact (hPp _ (AppP.ne HP hk)).2 e
      · exact (hPo _ (AppP.ne HO e)).2.2 hk))
    obtain ⟨p0', pf'⟩ := hbW.one
    clear p0 pf HSQ hI0 hS3 hN3
    gi_wp2
    obtain ⟨T, hT⟩ : ∃ T, T = W.setCell ⟨bp, 0, none⟩ (.slice A 0 c) := ⟨_, rfl⟩
    rw [← hT]
    have hcT : Chg (fun b => b = bp) W T := by rw [hT]; exact Chg.set (fun b => b = bp) W (p := ⟨bp, 0, none⟩) rfl _
    have hKT : T.heap[D]? = some (.deferred (some [])) := hcT.blk hKd (by omega)
    have hZ : AppP (Kind.int .i64) 3 T Pp (.slice A 0 c) [] := AppP.zero (AppP.keepOwn (flat_int _) hPW (fun k hk => hcT.block k (AppP.own_lt hPW hk) (fun e => (hPp _ (AppP.ne HP hk)).1 e)))
    have hF : FlF bp bo v (.slice A 0 c) (xs ++ plainB ps) Po Pp (fun b => b = bp ∨ b = bo ∨ vo.ownBlock = some b) w () T := by
      refine ⟨i1.chg hcT (fun e => hne e.symm), by rw [hT]; exact hbW.set _, AppP.keepOwn (flat_int _) i2 (fun k hk => hcT.block k (AppP.own_lt i2 hk) (fun e => (hPo _ (AppP.ne i2 hk)).1 e)), hZ, Lib.hid ?_⟩
      refine ((Chg.of_below b3).trans (i4.out.then (G := fun b => b = bo ∨ vo.ownBlock = some b) (Chg.refl _ _) (fun _ _ h => h) |>.mono (fun i _ h => ?_))).then hcT (fun i _ h => .inl h)
      exact .inr h
    have hF2 := (FlF.own bp bo v (.slice A 0 c) (xs ++ plainB ps) Po Pp _ w).putObj (.deferred none) hF (by omega) hKT rfl
    clear hT
    refine ⟨by simp, .inl ⟨_, _, rfl, run_takeDeferred hKT, ?_⟩⟩
    refine ⟨_, results_none rfl _ _ _, ⟨_, rfl⟩, v, .slice A 0 c, hF2.1, hF2.2.1, hF2.2.2.1, hF2.2.2.2.1, ?_, ?_, hF2.2.2.2.2.out⟩
    · cases A <;> rfl
    · rcases i3 with h | ⟨b, h, hb⟩
      · exact .inl h
      · exact .inr ⟨b, h, by omega⟩
  case stop =>
    rintro D c' pre W hD hSp hf hKd
    exact hf.elim
end Go.Proofs.Ytfflhenldegmmaa
