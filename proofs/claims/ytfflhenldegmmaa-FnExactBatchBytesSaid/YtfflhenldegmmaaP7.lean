/- impl.pack: the closure that remembers places. -/
import Derived.Test.YtfflhenldegmmaaP6
import Derived.Test.YtfflhenldegmmaaMi
namespace Go.Proofs.Ytfflhenldegmmaa
set_option linter.unusedVariables false
set_option linter.unusedSimpArgs false
open Go.RowKit Go.Shelf Go.WideElems Go.Maps
open Go.ChangeMaps (setBlock heap_setBlock_same)

theorem bytes_key {l : List Int} (hb : bytesB l = true) {i : Nat} (hi : i + 3 ≤ l.length) : byteK (key3 l i) := by
  have h : ∀ j, j < l.length → 0 ≤ l.getD j 0 ∧ l.getD j 0 ≤ 255 := fun j hj => by
    have := List.all_eq_true.1 (show l.all byteB = true from hb) l[j] (List.getElem_mem hj)
    rw [getD_at hj]
    simpa [byteB] using this
  exact ⟨h _ (by omega), h _ (by omega), h _ (by omega)⟩
set_option maxRecDepth 20000 in
set_option maxHeartbeats 2000000 in
theorem see_any (l : List Int) (A : Option Addr) (c : Nat) (F : Nat → Prop) (i bb bs b : Nat) (P : Nat → Prop) (w : World) (h : Ints w F A c l) (hn : l.length ≤ 1048576) (hby : bytesB l = true) (hi : i < l.length)
    (hbb : w.heap[bb]? = some (.cells #[.slice A l.length c] 23 (0, 0))) (hbs : w.heap[bs]? = some (.cells #[.map (some b)] 105 (0, 0))) (hS : SeenI l i b P w) (hnew : ∀ x, w.heap.size ≤ x → P x) (hPb : ¬ P b) :
    Calls Try.prog 91 #[.int .i64 (i : Int), .pointer (some ⟨bb, 0, none⟩), .pointer (some ⟨bs, 0, none⟩)] w fun e w' => (∃ v, e = .returned v) ∧ SeenI l (i + 1) b P w' ∧ Chg (fun x => x = b ∨ P x) w w' := by
  have hl := h.1
  have hc := h.2.1
  obtain ⟨z0, zf⟩ := oneR hbb
  obtain ⟨m0, mf⟩ := oneR hbs
  go_enter Try.func91, Try.ntmps91
  by_cases h3 : i + 3 ≤ l.length
  · have hk := bytes_key hby h3
    have s1 : ∀ W : World, (Instr.slice 23 (.slice A l.length c) (some (.int .i64 (i : Int))) (some (.int .i64 ((i : Int) + 3))) none).run Try.prog W = .ok (.slice (cutAddr A i c 1) 3 (c - i)) W := fun W => by
      have := run_between Try.underlying23 info_intP A l.length c i (i + 3) _ _ rfl (show (((i : Int) + 3) : Int) = ((i + 3 : Nat) : Int) by omega) (by omega) (by omega) W
      rw [show i + 3 - i = 3 by omega] at this
      exact this
    have hw1 : IntKind.i64.wrap ((i : Int) + 3) = (i : Int) + 3 := by rw [IntWalk.i64_in _ (by omega)]
    obtain ⟨ad, rfl, hpad, q0⟩ := h.int_at (show i < l.length from hi)
    have hcut : cutAddr (some ad) i c 1 = some (ad.add i) := by unfold cutAddr; rw [if_neg (by omega)]; simp
    rw [hcut] at s1
    have s2 : ∀ W : World, (Instr.arrayAt 107 (.slice (some (ad.add i)) 3 (c - i))).run Try.prog W = .ok (.pointer (some (ad.add i))) W := fun W => by
      simp [Instr.arrayAt, run_underlying Try.underlying107]
    obtain ⟨_, ea, _, q1⟩ := h.int_at (show i + 1 < l.length by omega)
    injection ea with ea
    subst ea
    obtain ⟨_, ea, _, q2⟩ := h.int_at (show i + 2 < l.length by omega)
    injection ea with ea
    subst ea
    rw [add_succ ad i 0] at q1
    rw [add_succ ad i 1] at q2
    have hkv : keyV (key3 l i) = .agg #[.int .i64 l[i], .int .i64 l[i + 1], .int .i64 l[i + 2]] := by
      unfold keyV key3
      rw [getD_at hi, getD_at (show i + 1 < l.length by omega), getD_at (show i + 2 < l.length by omega)]
    have HKV := Lib.hid hkv
    obtain ⟨w1, hw1'⟩ : ∃ w1, w1 = w.alloc (.cells #[.int .i64 l[i], .int .i64 l[i + 1], .int .i64 l[i + 2]] 107) := ⟨_, rfl⟩
    have b1 : Below w.heap.size w w1 := by rw [hw1']; exact bal _ _
    have z1 : w1.heap.size = w.heap.size + 1 := by rw [hw1']; simp
    obtain ⟨w2, hw2⟩ : ∃ w2, w2 = w1.alloc (.cells #[.int .i64 (i : Int)] 3) := ⟨_, rfl⟩
    have b2 : Below w1.heap.size w1 w2 := by rw [hw2]; exact bal _ _
    have z2 : w2.heap.size = w1.heap.size + 1 := by rw [hw2]; simp
    have hcell : w2.heap[w1.heap.size]? = some (.cells #[.int .i64 (i : Int)] 3 (0, 0)) := by rw [hw2]; exact heap_alloc_new _ _
    have b12 := bthen b1 b2
    have hS2 : SeenI l i b P w2 := hS.keep (Chg.of_below (F := fun _ => False) b12) (fun h => h) (fun x _ hx => ⟨fun h => h, hx⟩)
    obtain ⟨v0, st, o1, hrun, hv0, ⟨es, clock, hbE⟩, hst⟩ := hS2.entry hk h3 (by omega)
    obtain ⟨w3, hw3⟩ : ∃ w3, w3 = setBlock w2 b o1 := ⟨_, rfl⟩
    rw [← hw3] at hrun
    have hbk := heap_setBlock_same hbE o1
    rw [← hw3] at hbk
    have hc3 : Chg (fun g => g = b) w2 w3 := by rw [hw3]; exact chg_setBlock hbE o1 rfl
    have hv3 : AppP (Kind.int .i64) 3 w3 P v0 (natInts (seenOf l i (key3 l i))) := AppP.keepOwn (flat_int _) hv0 (fun g hg => hc3.block g (AppP.own_lt hv0 hg) (fun e => hPb (by rw [← show g = b from e]; exact AppP.ne hv0 hg)))
    have hcell3 : w3.heap[w1.heap.size]? = some (.cells #[.int .i64 (i : Int)] 3 (0, 0)) := hc3.blk hcell (fun e => by
      have h1 := (Array.getElem?_eq_some_iff.1 hbE).1
      rw [← show w1.heap.size = b from e, hcell] at hbE
      cases hbE)
    have hY : Ints w3 (fun _ => True) (some ⟨w1.heap.size, 0, none⟩) 1 [(i : Int)] := by
      have h0 := App.ints 3 w1 w1.heap.size (Nat.le_refl _) [(i : Int)] (by simp)
      have h1 : AppP (Kind.int .i64) 3 w2 (fun x => w1.heap.size ≤ x) (.slice (some ⟨w1.heap.size, 0, none⟩) 1 1) [(i : Int)] := by rw [hw2]; exact h0
      have h2 := AppP.keepOwn (flat_int _) h1 (fun g hg => hc3.block g (AppP.own_lt h1 hg) (fun e => by
        have h3 := hS.lt
        have h4 : w1.heap.size ≤ g := AppP.ne h1 hg
        have h5 : g = b := e
        omega))
      exact ((AppP.row_of h2).2.2.2).mono (fun _ _ => trivial)
    rw [HKV.out, hw2, hw1'] at hrun
    rw [z1] at hY
    have hrun' : (Instr.mapEntry 105 (.map (some b)) (.agg #[.int .i64 l[i], .int .i64 l[i + 1], .int .i64 l[i + 2]])).run Try.prog ((w.alloc (.cells #[.int .i64 l[i], .int .i64 l[i + 1], .int .i64 l[i + 2]] 107)).alloc (.cells #[.int .i64 (i : Int)] 3)) = .ok (.tuple #[v0, .int .i64 (st : Int)]) w3 := hrun
    have m0' : (w.alloc (.cells #[.int .i64 l[i], .int .i64 l[i + 1], .int .i64 l[i + 2]] 107)).cell? ⟨bs, 0, none⟩ = some (.map (some b)) := below_cell (bal _ _) m0
    have HST := Lib.hid hst
    have HC3 := Lib.hid hc3
    have HBK := Lib.hid hbk
    have hln := seenOf_len l i (key3 l i)
    clear hcut hkv hrun hst hw3 hw2 hw1' hc3 hbk hcell hcell3 hv0 hS2 hbE
    go_wp2_with (at_builtin; go_loud (refine wpList_appF (Kind.int .i64) (ys := [(i : Int)]) hv3 rfl _ _ 23 (.int .i64 0) 8 rfl Try.underlying23 (by kernel_rfl) rfl (bnd_int .i64) (onec_int .i64) (flat_int .i64) rfl rfl rfl hY (fun x hx => hnew x (by have := HC3.out.size; omega)) (by rw [natInts_len]; simp; omega) (by rw [natInts_len]; simp; omega) ?_))
    intro v1 w4 hv4 hc4 ho4
    have hC : Chg (fun g => g = b ∨ v0.ownBlock = some g) w2 w4 := (HC3.out.mono (fun g _ h => .inl h)).then hc4 (fun g _ h => .inr h)
    have hvb : v0.ownBlock ≠ some b := fun e => hPb (AppP.ne hv3 e)
    have hb4 : w4.heap[b]? = some o1 := (hc4.block b (by have := (Array.getElem?_eq_some_iff.1 HBK.out).1; exact this) hvb).trans HBK.out
    have hl4 : natInts (seenOf l i (key3 l i)) ++ [(i : Int)] = natInts (seenOf l (i + 1) (key3 l i)) := by
      rw [← natInts_snoc, seenOf_succ, if_pos ⟨h3, rfl⟩]
    rw [hl4] at hv4
    obtain ⟨A4, c4, rfl, _, _⟩ := hv4.slice_
    obtain ⟨o2, hr4, hS4, es4, cl4, hb5⟩ := HST.out w4 w4 _ hC hb4 hv4 (by
      rcases ho4 with h | ⟨g, h, hg⟩
      · exact .inl h
      · exact .inr ⟨g, h, by have := HC3.out.size; omega⟩)
    have hr4' : (Instr.entryStore 105 (.map (some b)) (.int .i64 (st : Int)) (.slice A4 (natInts (seenOf l (i + 1) (key3 l i))).length c4)).run Try.prog w4 = .ok () (setBlock w4 b o2) := hr4
    obtain ⟨w5, hw5⟩ : ∃ w5, w5 = setBlock w4 b o2 := ⟨_, rfl⟩
    rw [← hw5] at hr4' hS4
    have hC5 : Chg (fun x => x = b ∨ P x) w w5 := by
      refine (Chg.of_below b12).trans ((hC.mono (fun g hg h => ?_)).trans ?_)
      · rcases h with h | h
        · exact .inl h
        · exact .inr (AppP.ne hv3 h)
      · rw [hw5]; exact chg_setBlock hb5 o2 (.inl rfl)
    have HS4 := Lib.hid hS4
    have HC5 := Lib.hid hC5
    clear hr4 hS4 hC5 hw5 hb5 hl4 hb4 hC hv4 hc4 ho4
    go_wp2
    go_end0
    exact ⟨⟨_, rfl⟩, HS4.out, HC5.out⟩
  · have HS := Lib.hid (hS.step0 h3)
    go_wp2
    go_end0
    exact ⟨⟨_, rfl⟩, HS.out, Chg.refl _ _⟩
end Go.Proofs.Ytfflhenldegmmaa
