/- A map from three bytes to places: its entries and its rows. -/
import Derived.Test.YtfflhenldegmmaaP5
import Derived.Maps.Keyed
import Derived.Maps.Range
import Derived.DeepKeys4
import Derived.WideKeyEntry
namespace Go.Proofs.Ytfflhenldegmmaa
set_option linter.unusedVariables false
set_option linter.unusedSimpArgs false
open Go.RowKit Go.Shelf Go.WideElems Go.Maps
open Go.ChangeMaps (setBlock heap_setBlock_same)

theorem tripleLaid : laidOutB Try.prog = true := by kernel_rfl
theorem tripleRow : (107 : TypeId) < Try.prog.types.size := of_decide_eq_true (by kernel_rfl)
theorem tripleWide : (match Try.prog.underlying 107 with | some (.array _ _) | some (.struct _) => true | _ => false) = true := by kernel_rfl
set_option maxRecDepth 100000 in
theorem tripleLaw : WideMaps.KeyLaw Try.prog 107 := deep_law_laid tripleLaid (m := 2) (by omega) tripleRow (by kernel_rfl) tripleWide
theorem tripleKeyT : Try.prog.keyType 107 = true := by kernel_rfl
theorem tripleCells : Try.prog.cellsOf 107 = 3 := by kernel_rfl
theorem intCells : Try.prog.cellsOf 3 = 1 := by kernel_rfl
def keyV (k : Int × Int × Int) : Value := .agg #[.int .i64 k.1, .int .i64 k.2.1, .int .i64 k.2.2]
theorem keyV_inj {k k' : Int × Int × Int} (h : keyV k = keyV k') : k = k' := by
  unfold keyV at h
  simp at h
  exact Prod.ext h.1 (Prod.ext h.2.1 h.2.2)
def byteK (k : Int × Int × Int) : Prop := (0 ≤ k.1 ∧ k.1 ≤ 255) ∧ (0 ≤ k.2.1 ∧ k.2.1 ≤ 255) ∧ (0 ≤ k.2.2 ∧ k.2.2 ≤ 255)
theorem byte_wf {x : Int} (h : 0 ≤ x ∧ x ≤ 255) : (Lit.int .i64 x).wf = true := WalkArith.wf_i64 (by omega)
theorem keyV_lit {k : Int × Int × Int} (h : byteK k) : ∃ kl, keyOf Try.prog 107 (keyV k) = some kl := by
  obtain ⟨m, hm⟩ : ∃ m, Try.prog.types.size = m + 1 := Nat.exists_eq_succ_of_ne_zero (Nat.ne_of_gt (Nat.lt_of_le_of_lt (Nat.zero_le _) tripleRow))
  obtain ⟨h1, h2, h3⟩ := h
  have one : ∀ x : Int, (Lit.int .i64 x).wf = true → Try.prog.keyLits (m + 1) 3 [.int .i64 x] = some [.int .i64 x] := fun x hx => by
    unfold Program.keyLits
    rw [Try.underlying3]
    simp [hx]
  have hl : Try.prog.keyLits (m + 1 + 1) 107 [.int .i64 k.1, .int .i64 k.2.1, .int .i64 k.2.2] = some [.int .i64 k.1, .int .i64 k.2.1, .int .i64 k.2.2] := by
    unfold Program.keyLits
    rw [Try.underlying107]
    simp [tripleCells, intCells, List.range_succ, one _ (byte_wf h1), one _ (byte_wf h2), one _ (byte_wf h3)]
  refine ⟨.string (keyBytes [.int .i64 k.1, .int .i64 k.2.1, .int .i64 k.2.2]), ?_⟩
  unfold keyV keyOf
  rw [Try.underlying107]
  simp only [tripleKeyT, Bool.true_and]
  rw [if_pos (by simp [Value.formed, Try.underlying107, tripleCells]), hm]
  simp only [Value.cells]
  rw [hl]
  rfl

abbrev R0 : Value → Option (DataW Unit × List MemPlace) := fun _ => some (.nil, [])
section
variable {P : Program} {w : World} {t k e : TypeId} {b : Nat} {es es' : Array MapEntry} {clock clock' : Nat}
/-- Who stands in a map behind a store. -/
theorem store_who (K : WideMaps.KeyLaw P k) (ht : P.underlying t = some (.map k e)) (hb : w.heap[b]? = some (.map es clock)) (F : Fit P k R0 es clock) (hroom : es.size < maxLen) {key val : Value} {kl : Lit} (hkey : keyOf P k key = some kl)
    (hrun : (Instr.mapUpdate t (.map (some b)) key val).run P w = .ok () (setBlock w b (.map es' clock'))) :
    Fit P k R0 es' clock' ∧ es'.size ≤ es.size + 1 ∧ (∀ x' ∈ es'.toList, (x' ∈ es.toList ∧ x'.key ≠ key) ∨ (x'.key = key ∧ x'.val = val)) ∧ (∀ x ∈ es.toList, x.key ≠ key → x ∈ es'.toList) ∧ ∃ x' ∈ es'.toList, x'.key = key := by
  obtain ⟨es2, clock2, hrun2, F2, _, _, _, hwho⟩ := Maps.fit_store (R' := R0) (val := val) (Keyed.of_law K) ht hb F hroom (fun _ _ _ _ h => h) hkey rfl
  have same : ∀ {o o' : Obj}, setBlock w b o = setBlock w b o' → o = o' := fun {o o'} h => by
    have h1 := heap_setBlock_same hb o
    rw [h, heap_setBlock_same hb o'] at h1
    injection h1 with h1
    exact h1.symm
  rw [hrun] at hrun2
  obtain ⟨rfl, rfl⟩ : es' = es2 ∧ clock' = clock2 := by
    have := same (by simpa using hrun2 : setBlock w b (.map es' clock') = setBlock w b (.map es2 clock2))
    simpa using this
  refine ⟨F2, ?_⟩
  rcases K.find w hkey es.toList F.keys with ⟨h1, h2⟩ | ⟨j, e0, h1, h2, h3⟩
  · have hr3 : (Instr.mapUpdate t (.map (some b)) key val).run P w = .ok () (setBlock w b (.map (es.push ⟨key, val, clock⟩) (clock + 1))) := by
      simp [Instr.mapUpdate, run_underlying ht, MapKept.run_getObj_map hb, K.check w false hkey, h1, MapKept.run_setObj_map _ hb, Result.andThen, setBlock]
    rw [hrun] at hr3
    obtain ⟨rfl, _⟩ : es' = es.push ⟨key, val, clock⟩ ∧ clock' = clock + 1 := by
      have := same (by simpa using hr3 : setBlock w b (.map es' clock') = setBlock w b (.map (es.push ⟨key, val, clock⟩) (clock + 1)))
      simpa using this
    exact ⟨by simp, hwho, fun x hx _ => by simp [Array.toList_push, hx], ⟨_, by simp [Array.toList_push]; exact .inr rfl, rfl⟩⟩
  · have hr3 : (Instr.mapUpdate t (.map (some b)) key val).run P w = .ok () (setBlock w b (.map (es.modify j (fun e' => { e' with key := key, val := val })) clock)) := by
      have hj : es[j]? = some e0 := by simpa using h2
      simp [Instr.mapUpdate, run_underlying ht, MapKept.run_getObj_map hb, K.check w false hkey, h1, hj, h3, K.stays w hkey, MapKept.run_setObj_map _ hb, Result.andThen, setBlock]
    rw [hrun] at hr3
    obtain ⟨rfl, _⟩ : es' = es.modify j (fun e' => { e' with key := key, val := val }) ∧ clock' = clock := by
      have := same (by simpa using hr3 : setBlock w b (.map es' clock') = setBlock w b (.map (es.modify j (fun e' => { e' with key := key, val := val })) clock))
      simpa using this
    refine ⟨by simp, hwho, fun x hx hne => ?_, ⟨{ e0 with key := key, val := val }, ?_, rfl⟩⟩
    · obtain ⟨i, hi⟩ := List.mem_iff_getElem?.1 hx
      refine List.mem_iff_getElem?.2 ⟨i, ?_⟩
      rw [Array.toList_modify, List.getElem?_modify]
      by_cases hij : j = i
      · subst hij
        rw [h2] at hi
        injection hi with hi
        subst hi
        exact absurd h3 hne
      · simp [hij, hi]
    · refine List.mem_iff_getElem?.2 ⟨j, ?_⟩
      rw [Array.toList_modify, List.getElem?_modify]
      simp [h2]
end

/-- The places that were seen ahead of i: a map in block b, each row in a block of P, each its own. -/
def SeenI (l : List Int) (i b : Nat) (P : Nat → Prop) (W : World) : Prop :=
  ∃ es clock, W.heap[b]? = some (.map es clock) ∧ Fit Try.prog 107 R0 es clock ∧ es.size ≤ i ∧
    (∀ x ∈ es.toList, ∃ k, x.key = keyV k ∧ AppP (Kind.int .i64) 3 W P x.val (natInts (seenOf l i k))) ∧
    (∀ k, seenOf l i k ≠ [] → ∃ x ∈ es.toList, x.key = keyV k) ∧
    ∀ x ∈ es.toList, ∀ y ∈ es.toList, x.key ≠ y.key → ∀ g, x.val.ownBlock = some g → y.val.ownBlock ≠ some g
theorem SeenI.lt {l : List Int} {i b : Nat} {P : Nat → Prop} {W : World} (h : SeenI l i b P W) : b < W.heap.size := by
  obtain ⟨es, clock, h1, _⟩ := h
  exact (Array.getElem?_eq_some_iff.1 h1).1
theorem SeenI.keep {l : List Int} {i b : Nat} {P P' G : Nat → Prop} {W W' : World} (h : SeenI l i b P W) (hc : Chg G W W') (hb : ¬ G b) (hP : ∀ x, x < W.heap.size → P x → ¬ G x ∧ P' x) : SeenI l i b P' W' := by
  obtain ⟨es, clock, h1, h2, h3, h4, h5, h6⟩ := h
  refine ⟨es, clock, hc.blk h1 hb, h2, h3, fun x hx => ?_, h5, h6⟩
  obtain ⟨k, hk, ha⟩ := h4 x hx
  exact ⟨k, hk, AppP.keepOwn (flat_int _) (AppP.mono ha (fun g hlt hg => (hP g hlt hg).2)) (fun g hg => hc.block g (AppP.own_lt ha hg) (hP g (AppP.own_lt ha hg) (AppP.ne ha hg)).1)⟩
theorem SeenI.made (l : List Int) (P : Nat → Prop) (w : World) : SeenI l 0 w.heap.size P (w.alloc (.map #[] 0)) :=
  ⟨#[], 0, (MapKept.heap_alloc w _).1, ⟨by simp, MapKept.stamped_empty 0, by simp⟩, Nat.le_refl _, by simp, fun k hk => absurd (seenOf_zero l k) hk, by simp⟩
theorem zeroRow (w : World) : (zeroValue 23).run Try.prog w = .ok (.slice none 0 0) w := by kernel_rfl
theorem fit_keys_apart {es : Array MapEntry} {clock : Nat} (F : Fit Try.prog 107 R0 es clock) : es.toList.Pairwise (fun x y => x.key ≠ y.key) := by
  have h := Maps.fit_apart (Keyed.of_law tripleLaw) F
  rw [List.pairwise_map] at h
  exact h.imp (fun {x y} hne e => hne (by simp [rg, rd, e]))
theorem SeenI.look {l : List Int} {i b : Nat} {P : Nat → Prop} {W : World} (h : SeenI l i b P W) {k : Int × Int × Int} (hk : byteK k) :
    ∃ v, (∀ W' : World, W'.heap[b]? = W.heap[b]? → (Instr.lookup 105 (.map (some b)) (keyV k) false).run Try.prog W' = .ok v W') ∧ AppP (Kind.int .i64) 3 W P v (natInts (seenOf l i k)) := by
  obtain ⟨es, clock, h1, h2, h3, h4, h5, h6⟩ := h
  obtain ⟨kl, hkl⟩ := keyV_lit hk
  have look := fun (W' : World) (hb : W'.heap[b]? = some (.map es clock)) => Maps.fit_look (t := 105) false (Keyed.of_law tripleLaw) Try.underlying105 (zeroRow W') hb h2 hkl
  rcases look W h1 with ⟨_, hno, _⟩ | ⟨e0, y, hm0, hk0, _, _⟩
  · refine ⟨.slice none 0 0, fun W' hW => ?_, ?_⟩
    · rcases look W' (hW.trans h1) with ⟨hrun, _⟩ | ⟨e0, y, hm0, hk0, _⟩
      · exact hrun
      · exact absurd hk0 (hno e0 hm0)
    · have : seenOf l i k = [] := Classical.byContradiction fun hn => by
        obtain ⟨x, hx, hxk⟩ := h5 k hn
        exact hno x hx hxk
      rw [this]
      exact AppP.nil _ _ _ _
  · refine ⟨e0.val, fun W' hW => ?_, ?_⟩
    · rcases look W' (hW.trans h1) with ⟨_, hno, _⟩ | ⟨e1, y, hm1, hk1, hrun, _⟩
      · exact absurd hk0 (hno e0 hm0)
      · rw [entry_eq_of_key (fit_keys_apart h2) hm0 hm1 (by rw [hk0, hk1])]
        exact hrun
    · obtain ⟨k', hk', ha⟩ := h4 e0 hm0
      rw [hk0] at hk'
      rw [keyV_inj hk']
      exact ha
/-- Where there is no key. -/
theorem SeenI.step0 {l : List Int} {i b : Nat} {P : Nat → Prop} {W : World} (h : SeenI l i b P W) (hi : ¬ i + 3 ≤ l.length) : SeenI l (i + 1) b P W := by
  have e : ∀ k, seenOf l (i + 1) k = seenOf l i k := fun k => by rw [seenOf_succ, if_neg (fun hh => hi hh.1), List.append_nil]
  obtain ⟨es, clock, h1, h2, h3, h4, h5, h6⟩ := h
  exact ⟨es, clock, h1, h2, by omega, fun x hx => by obtain ⟨k, hk, ha⟩ := h4 x hx; exact ⟨k, hk, by rw [e]; exact ha⟩, fun k hk => h5 k (by rw [e] at hk; exact hk), h6⟩
theorem blk_setBlock {W : World} {b g : Nat} {es : Array MapEntry} {clock : Nat} (hb : W.heap[b]? = some (.map es clock)) (o : Obj) (hne : g ≠ b) : (setBlock W b o).heap[g]? = W.heap[g]? := ChangeMaps.heap_setBlock_other hb o hne
theorem chg_setBlock {G : Nat → Prop} {W : World} {b : Nat} {es : Array MapEntry} {clock : Nat} (hb : W.heap[b]? = some (.map es clock)) (o : Obj) (hG : G b) : Chg G W (setBlock W b o) :=
  ⟨rfl, rfl, rfl, by simp [setBlock], fun g _ hn => blk_setBlock hb o (fun e => hn (e ▸ hG))⟩
theorem natInts_snoc (ps : List Nat) (i : Nat) : natInts (ps ++ [i]) = natInts ps ++ [(i : Int)] := by simp [natInts]
/-- The entry at a key: what is there; and what a store of a longer row leaves. -/
theorem SeenI.entry {l : List Int} {i b : Nat} {P : Nat → Prop} {W : World} (h : SeenI l i b P W) (hk : byteK (key3 l i)) (hi : i + 3 ≤ l.length) (him : i ≤ 1048576) :
    ∃ (v0 : Value) (st : Nat) (o1 : Obj), (Instr.mapEntry 105 (.map (some b)) (keyV (key3 l i))).run Try.prog W = .ok (.tuple #[v0, goInt st]) (setBlock W b o1) ∧ AppP (Kind.int .i64) 3 W P v0 (natInts (seenOf l i (key3 l i))) ∧
      (∃ es clock, W.heap[b]? = some (.map es clock)) ∧
      ∀ (W1 W2 : World) (v1 : Value), Chg (fun g => g = b ∨ v0.ownBlock = some g) W W2 → W2.heap[b]? = some o1 → AppP (Kind.int .i64) 3 W2 P v1 (natInts (seenOf l (i + 1) (key3 l i))) → (v1.ownBlock = v0.ownBlock ∨ ∃ g, v1.ownBlock = some g ∧ W.heap.size ≤ g) →
        ∃ o2, (Instr.entryStore 105 (.map (some b)) (goInt st) v1).run Try.prog W2 = .ok () (setBlock W2 b o2) ∧ SeenI l (i + 1) b P (setBlock W2 b o2) ∧ (∃ es clock, W2.heap[b]? = some (.map es clock)) := by
  obtain ⟨es, clock, h1, h2, h3, h4, h5, h6⟩ := h
  obtain ⟨kl, hkl⟩ := keyV_lit hk
  obtain ⟨v0, st, es1, clock1, hrun, hwho, hst⟩ := entry_then_store (t := 105) tripleLaw Try.underlying105 zeroRow h1 h2 hkl
  have hother : ∀ k, k ≠ key3 l i → seenOf l (i + 1) k = seenOf l i k := fun k hne => by rw [seenOf_succ, if_neg (fun hh => hne hh.2.symm), List.append_nil]
  have hown0 : ∀ x ∈ es.toList, x.key ≠ keyV (key3 l i) → ∀ g, x.val.ownBlock = some g → v0.ownBlock ≠ some g := fun x hx hne g hg => by
    rcases hwho with ⟨e0, hm0, hk0, rfl⟩ | ⟨_, rfl⟩
    · exact h6 x hx e0 hm0 (by rw [hk0]; exact hne) g hg
    · simp [Value.ownBlock]
  refine ⟨v0, st, .map es1 clock1, hrun, ?_, ⟨es, clock, h1⟩, fun W1 W2 v1 hc hb1 hv1 hown => ?_⟩
  · rcases hwho with ⟨e0, hm0, hk0, rfl⟩ | ⟨hno, rfl⟩
    · obtain ⟨k', hk', ha⟩ := h4 e0 hm0
      rw [hk0] at hk'
      rw [keyV_inj hk']
      exact ha
    · have : seenOf l i (key3 l i) = [] := Classical.byContradiction fun hn => by
        obtain ⟨x, hx, hxk⟩ := h5 _ hn
        exact hno x hx hxk
      rw [this]
      exact AppP.nil _ _ _ _
  · obtain ⟨es', clock', hr1, hr2⟩ := hst W2 v1 hb1
    obtain ⟨F', hsz, hw2, hkeep, hhas⟩ := store_who tripleLaw Try.underlying105 h1 h2 (by simp only [maxLen]; omega) hkl hr2
    have hb3 := heap_setBlock_same hb1 (.map es' clock')
    have hchg := chg_setBlock (G := fun g => g = b) hb1 (.map es' clock') rfl
    have hold : ∀ x ∈ es.toList, x.key ≠ keyV (key3 l i) → ∃ k, x.key = keyV k ∧ AppP (Kind.int .i64) 3 (setBlock W2 b (.map es' clock')) P x.val (natInts (seenOf l (i + 1) k)) := fun x hx hne => by
      obtain ⟨k, hk2, ha⟩ := h4 x hx
      refine ⟨k, hk2, ?_⟩
      rw [hother k (fun e => hne (by rw [hk2, e]))]
      refine AppP.keepOwn (flat_int _) ha (fun g hg => ?_)
      have hgb : g ≠ b := fun e => by
        obtain ⟨cs, hcs⟩ := AppP.cells ha hg
        rw [e, h1] at hcs
        cases hcs
      rw [blk_setBlock hb1 _ hgb]
      exact hc.block g (AppP.own_lt ha hg) (by
        rintro (e | e)
        · exact hgb e
        · exact hown0 x hx hne g hg e)
    have hnew : AppP (Kind.int .i64) 3 (setBlock W2 b (.map es' clock')) P v1 (natInts (seenOf l (i + 1) (key3 l i))) := AppP.keepOwn (flat_int _) hv1 (fun g hg => blk_setBlock hb1 _ (fun e => by
      obtain ⟨cs, hcs⟩ := AppP.cells hv1 hg
      rw [e, hb1] at hcs
      cases hcs))
    have hapart : ∀ x ∈ es.toList, x.key ≠ keyV (key3 l i) → ∀ g, x.val.ownBlock = some g → v1.ownBlock ≠ some g := fun x hx hne g hg e => by
      rcases hown with h | ⟨g', e1, h⟩
      · rw [h] at e
        exact hown0 x hx hne g hg e
      · obtain ⟨k, hk2, ha⟩ := h4 x hx
        have := AppP.own_lt ha hg
        rw [e] at e1
        injection e1 with e1
        omega
    refine ⟨.map es' clock', hr1, ⟨es', clock', hb3, F', by omega, fun x hx => ?_, fun k hkn => ?_, fun x hx y hy hne g hg hgy => ?_⟩, ⟨es1, clock1, hb1⟩⟩
    · rcases hw2 x hx with ⟨hx', hne⟩ | ⟨hxk, hxv⟩
      · exact hold x hx' hne
      · exact ⟨_, hxk, by rw [hxv]; exact hnew⟩
    · by_cases hkk : k = key3 l i
      · rw [hkk]; exact hhas
      · rw [hother k hkk] at hkn
        obtain ⟨x, hx, hxk⟩ := h5 k hkn
        exact ⟨x, hkeep x hx (fun e => hkk (keyV_inj (by rw [← hxk, e]))), hxk⟩
    · rcases hw2 x hx with ⟨hx', hnx⟩ | ⟨hxk, hxv⟩
      · rcases hw2 y hy with ⟨hy', hny⟩ | ⟨hyk, hyv⟩
        · exact h6 x hx' y hy' hne g hg hgy
        · rw [hyv] at hgy
          exact hapart x hx' hnx g hg hgy
      · rcases hw2 y hy with ⟨hy', hny⟩ | ⟨hyk, hyv⟩
        · rw [hxv] at hg
          exact hapart y hy' hny g hgy hg
        · exact hne (by rw [hxk, hyk])
end Go.Proofs.Ytfflhenldegmmaa
