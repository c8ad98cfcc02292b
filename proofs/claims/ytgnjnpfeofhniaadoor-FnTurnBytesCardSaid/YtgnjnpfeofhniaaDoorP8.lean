/- slices.Chunk of ints; appending inside a round. impl.pack: the closure that tells what is plain. A map from three bytes to places: its entries and its rows. impl.pack: the closure that remembers places. impl.pack. -/
import Derived.Test.YtgnjnpfeofhniaaDoorP3
import Derived.Test.YtgnjnpfeofhniaaDoorGa
import Derived.Maps.Keyed
import Derived.Maps.Range
import Derived.DeepKeys4
import Derived.WideKeyEntry
namespace Go.Proofs.YtgnjnpfeofhniaaDoor
set_option linter.unusedVariables false
set_option linter.unusedSimpArgs false
section
open Go.RowKit Go.Shelf
attribute [local go_sem] Oper.semAt_some

/-- Two boxes are kept. -/
def Kpc (b1 b2 : Nat) (W W' : World) : Prop := ∀ (T : TypeId) (cs : Array Value), (W.heap[b1]? = some (.cells cs T (0, 0)) → W'.heap[b1]? = some (.cells cs T (0, 0))) ∧ (W.heap[b2]? = some (.cells cs T (0, 0)) → W'.heap[b2]? = some (.cells cs T (0, 0)))
theorem Kpc.refl (b1 b2 : Nat) (W : World) : Kpc b1 b2 W W := fun _ _ => ⟨fun h => h, fun h => h⟩
theorem Kpc.trans {b1 b2 : Nat} {A B C : World} (h : Kpc b1 b2 A B) (k : Kpc b1 b2 B C) : Kpc b1 b2 A C := fun T cs => ⟨fun hb => (k T cs).1 ((h T cs).1 hb), fun hb => (k T cs).2 ((h T cs).2 hb)⟩
theorem putObj_cells {W : World} {l b : Nat} {o o' : Obj} {cs : Array Value} {T : TypeId} (h : W.heap[l]? = some o) (hc : o.isCells = false) (hb : W.heap[b]? = some (.cells cs T (0, 0))) : (W.putObj l o').heap[b]? = some (.cells cs T (0, 0)) := by
  refine ((grownBy_putObj' W l o').block b (Array.getElem?_eq_some_iff.1 hb).1 (fun e => ?_)).trans hb
  injection e with e
  subst e
  rw [h] at hb
  injection hb with hb
  rw [hb] at hc
  simp [Obj.isCells] at hc
theorem Kpc.book {b1 b2 : Nat} (W : World) (l : Nat) (o o' : Obj) (h : W.heap[l]? = some o) (hc : o.isCells = false) : Kpc b1 b2 W (W.putObj l o') := fun _ _ => ⟨fun hb => putObj_cells h hc hb, fun hb => putObj_cells h hc hb⟩
theorem Kpc.below {b1 b2 : Nat} {W W' : World} (h : Below W.heap.size W W') : Kpc b1 b2 W W' := fun _ _ => ⟨fun hb => blk_below hb h, fun hb => blk_below hb h⟩
theorem Kpc.chg {b1 b2 : Nat} {G : Nat → Prop} {W W' : World} (h : Chg G W W') (h1 : ¬ G b1) (h2 : ¬ G b2) : Kpc b1 b2 W W' := fun _ _ => ⟨fun hb => h.blk hb h1, fun hb => h.blk hb h2⟩

/-- How many pieces; what a piece is. -/
def piecesN (m : Nat) : Nat := (m + 63) / 64
def pieceL (m j : Nat) : Nat := min 64 (m - 64 * j)
def encC (A : Option Addr) (m j : Nat) : Array Value := #[.slice (Option.map (fun x => x.add (64 * j)) A) (pieceL m j) (pieceL m j)]
theorem range_prefix {k n : Nat} (h : k ≤ n) : List.range k <+: List.range n := by
  obtain ⟨d, rfl⟩ : ∃ d, n = k + d := ⟨n - k, by omega⟩
  rw [List.range_add]
  exact List.prefix_append _ _

/-- Reslicing from l to h, the room cut at h. -/
theorem run_between3 {P : Program} {t e : TypeId} {z : Value} {s b : Nat} (ht : P.underlying t = some (.slice e)) (hinfo : (P.info? e).map (fun i => (i.zero, i.size, i.bytes)) = some (some z, s, b)) (A : Option Addr) (n cap l h : Nat) (L H : Int) (hL : L = (l : Int)) (hH : H = (h : Int)) (hlh : l ≤ h) (hh : h ≤ cap) (w : World) :
    (Instr.slice t (.slice A n cap) (some (.int .i64 L)) (some (.int .i64 H)) (some (.int .i64 H))).run P w = .ok (.slice (cutAddr A l h s) (h - l) (h - l)) w := by
  subst hL hH
  obtain ⟨i, hi, _, hs, _⟩ := info_of hinfo
  have he : P.elem t = e := by simp [Program.elem, ht]
  rw [run_slice_lhm (P := P) (w := w) t A n cap (by rw [he]; exact ht) .i64 .i64 .i64 (l : Int) (h : Int) (h : Int) (by omega) (by omega) (by omega) (by omega)]
  rw [he]
  simp [sizeOf, typeInfo, hi, hs, sliced, cutAddr, Result.andThen]

set_option maxRecDepth 100000 in
set_option maxHeartbeats 2000000 in
theorem chunk1_in (n : Nat) (hn : 1 ≤ n) (l Bs Bn m c : Nat) (A : Option Addr) (hbl : m ≤ c) (hcl : c ≤ 9223372036854775807) (hm : m ≤ 16777216)
    (J Jx : List Nat → World → Prop) (W : World)
    (hY : ∀ pre x W1, J pre W1 → pre.length < piecesN m → YieldAt Fence.wide (n - 1) Tryd.prog l (encC A m x) W1 fun e W' => (e = .returned (.bool true) ∧ J (pre ++ [x]) W' ∧ Kpc Bs Bn W1 W') ∨ (e = .returned (.bool false) ∧ Jx (pre ++ [x]) W'))
    (hBs : W.heap[Bs]? = some (.cells #[.slice A m c] 32 (0, 0))) (hBn : W.heap[Bn]? = some (.cells #[.int .i64 64] 3 (0, 0))) (h0 : J [] W) (hA : ∀ W' k pre, J pre W' → J pre (W'.drewN k)) :
    CallsIn Fence.wide n Tryd.prog 68 #[.func (.yield l) #[] #[], .pointer (some ⟨Bs, 0, none⟩), .pointer (some ⟨Bn, 0, none⟩)] W fun e W' => (∃ v, e = .returned v) ∧
      ((∃ ys, ys = List.range (piecesN m) ∧ J ys W') ∨ (∃ pre, pre <+: List.range (piecesN m) ∧ Jx pre W')) := by
  obtain ⟨z0, zf⟩ := oneR hBs
  obtain ⟨n0, nf⟩ := oneR hBn
  refine callsIn_of_wp Tryd.func68 rfl trivial ?_ rfl
  simp only [Tryd.ntmps68, List.size_toArray, List.length_cons, List.length_nil, Nat.reduceAdd, Nat.reduceSub, Array.replicate_succ, Array.replicate_zero, List.push_toArray, List.append_toArray, List.nil_append, List.cons_append]
  gi_wp2
  gi_loopw [4] (fun i wr => ∃ k : Nat, k ≤ piecesN m ∧ i = .int .i64 (64 * k : Nat) ∧ J (List.range k) wr ∧ Hid (Kpc Bs Bn W wr)) (fun i _ => m + 64 - (intOf i).toNat)
  case atStart => exact ⟨0, Nat.zero_le _, by simp, h0, Lib.hid (Kpc.refl _ _ _)⟩
  case round =>
    obtain ⟨k, hk, rfl, hJs, hkp⟩ := hrel
    clear z0 zf n0 nf
    obtain ⟨z0, zf⟩ := oneR ((hkp.out _ _).1 hBs)
    obtain ⟨n0, nf⟩ := oneR ((hkp.out _ _).2 hBn)
    obtain ⟨q, hq⟩ : ∃ q, q = 64 * k := ⟨_, rfl⟩
    rw [← hq]
    by_cases hlt : q < m
    · have hk2 : k < piecesN m := by unfold piecesN; omega
      obtain ⟨d, hd⟩ : ∃ d, d = pieceL m k := ⟨_, rfl⟩
      have hd1 : d = min 64 (m - q) := by rw [hd, hq]; rfl
      have hqd : q + d ≤ m := by omega
      have hd0 : 1 ≤ d := by omega
      have s1 : ∀ W : World, (Instr.slice 32 (.slice A m c) (some (.int .i64 (q : Int))) none none).run Tryd.prog W = .ok (.slice (cutAddr A q c 1) (m - q) (c - q)) W := fun W =>
        run_cut Tryd.underlying32 info_intP A m c q _ rfl (by omega) W
      have s2 : ∀ W : World, (Instr.slice 32 (.slice A m c) (some (.int .i64 (q : Int))) (some (.int .i64 ((q : Int) + (d : Int)))) (some (.int .i64 ((q : Int) + (d : Int))))).run Tryd.prog W = .ok (.slice (cutAddr A q (q + d) 1) d d) W := fun W => by
        have := run_between3 Tryd.underlying32 info_intP A m c q (q + d) _ _ rfl (show (((q : Int) + (d : Int)) : Int) = ((q + d : Nat) : Int) by omega) (by omega) (by omega) W
        rw [show q + d - q = d by omega] at this
        exact this
      have hw1 : IntKind.i64.wrap ((q : Int) + (d : Int)) = (q : Int) + (d : Int) := by rw [IntWalk.i64_in _ (by omega)]
      have hsub : ((m - q : Nat) : Int) = (m : Int) - (q : Int) := by omega
      have HPL : Hid ((List.range k).length < piecesN m) := Lib.hid (by simpa using hk2)
      have HRS := Lib.hid (show List.range k ++ [k] = List.range (k + 1) by rw [List.range_succ])
      have HENC := Lib.hid (show encC A m k = #[.slice (Option.map (fun x => x.add q) A) d d] by unfold encC; rw [← hd, ← hq])
      have HQ := Lib.hid hq
      have HPK := Lib.hid (show k + 1 ≤ piecesN m from hk2)
      have blkz0 : ∀ V : World, Hid (Kpc Bs Bn W V) → V.cell? ⟨Bs, 0, none⟩ = some (.slice A m c) := fun V h => (oneR ((h.out _ _).1 hBs)).1
      have blkz1 : ∀ V : World, Hid (Kpc Bs Bn W V) → ∀ i, V.frozen? ⟨Bs, i, none⟩ = false := fun V h => (oneR ((h.out _ _).1 hBs)).2
      have blkn0 : ∀ V : World, Hid (Kpc Bs Bn W V) → V.cell? ⟨Bn, 0, none⟩ = some (.int .i64 64) := fun V h => (oneR ((h.out _ _).2 hBn)).1
      have blkn1 : ∀ V : World, Hid (Kpc Bs Bn W V) → ∀ i, V.frozen? ⟨Bn, i, none⟩ = false := fun V h => (oneR ((h.out _ _).2 hBn)).2
      by_cases h64 : m - q < 64
      · have hmd : d = m - q := by omega
        rw [hmd] at s2 hw1 HENC hd0 hqd
        clear hq hd hd1 hk2 hmd
        gi_wp2
        refine wpIn_wide.2 ?_
        go_quiet (fail)
        generalize hV : World.drewN wr _ = V
        have hbV : Below wr.heap.size wr V := by rw [← hV]; exact below_drewN _ _
        have hJV : J (List.range k) V := by rw [← hV]; exact hA _ _ _ hJs
        clear hV
        have hkV := Lib.hid (hkp.out.trans (Kpc.below hbV))
        have z0 := blkz0 _ hkV
        have zf := blkz1 _ hkV
        clear n0 nf hkp
        obtain ⟨fn, tmps, assign, body, hy, hR⟩ := hY (List.range k) k V hJV HPL.out
        rw [HENC.out] at hy
        clear hJs hJV hbV
        gi_wp2
        refine hR.mono ?_
        rintro e W3 (⟨rfl, hJ3, hk3⟩ | ⟨rfl, hJx3⟩)
        · rw [HRS.out] at hJ3
          have hkp3 := Lib.hid (hkV.out.trans hk3)
          have n0 := blkn0 _ hkp3
          have nf := blkn1 _ hkp3
          clear hy hR hk3 hkV z0 zf
          have hk3 : k + 1 ≤ piecesN m := HPK.out
          have hq3 : q = 64 * k := HQ.out
          gi_wp2
          go_roundw
          case rel => exact ⟨k + 1, hk3, by congr 1 <;> omega, hJ3, hkp3⟩
          case measure => simp [intOf]; omega
        · rw [HRS.out] at hJx3
          have hpx : Hid (List.range (k + 1) <+: List.range (piecesN m)) := Lib.hid (range_prefix HPK.out)
          clear hy hR
          gi_wp2
          refine bodyPost_ret (results_none rfl _ _ _) rfl ?_
          exact ⟨⟨_, rfl⟩, .inr ⟨_, hpx.out, hJx3⟩⟩
      · have hmd : d = 64 := by omega
        subst hmd
        clear hq hd hd1 hk2
        gi_wp2
        refine wpIn_wide.2 ?_
        go_quiet (fail)
        generalize hV : World.drewN wr _ = V
        have hbV : Below wr.heap.size wr V := by rw [← hV]; exact below_drewN _ _
        have hJV : J (List.range k) V := by rw [← hV]; exact hA _ _ _ hJs
        clear hV
        have hkV := Lib.hid (hkp.out.trans (Kpc.below hbV))
        have z0 := blkz0 _ hkV
        have zf := blkz1 _ hkV
        clear n0 nf hkp
        obtain ⟨fn, tmps, assign, body, hy, hR⟩ := hY (List.range k) k V hJV HPL.out
        rw [HENC.out] at hy
        clear hJs hJV hbV
        gi_wp2
        refine hR.mono ?_
        rintro e W3 (⟨rfl, hJ3, hk3⟩ | ⟨rfl, hJx3⟩)
        · rw [HRS.out] at hJ3
          have hkp3 := Lib.hid (hkV.out.trans hk3)
          have n0 := blkn0 _ hkp3
          have nf := blkn1 _ hkp3
          clear hy hR hk3 hkV z0 zf
          have hk3 : k + 1 ≤ piecesN m := HPK.out
          have hq3 : q = 64 * k := HQ.out
          gi_wp2
          go_roundw
          case rel => exact ⟨k + 1, hk3, by congr 1 <;> omega, hJ3, hkp3⟩
          case measure => simp [intOf]; omega
        · rw [HRS.out] at hJx3
          have hpx : Hid (List.range (k + 1) <+: List.range (piecesN m)) := Lib.hid (range_prefix HPK.out)
          clear hy hR
          gi_wp2
          refine bodyPost_ret (results_none rfl _ _ _) rfl ?_
          exact ⟨⟨_, rfl⟩, .inr ⟨_, hpx.out, hJx3⟩⟩
    · have hkK : k = piecesN m := by unfold piecesN at *; omega
      subst hkK
      gi_wp2
      go_end0
      exact ⟨⟨_, rfl⟩, .inl ⟨_, rfl, hJs⟩⟩
/-- slices.Chunk(s, 64). -/
theorem chunk_in (n : Nat) (A : Option Addr) (m c : Nat) (w : World) :
    CallsIn Fence.wide n Tryd.prog 56 #[.slice A m c, .int .i64 64] w fun e w' => e = .returned (.func (.func 68) #[] #[.pointer (some ⟨w.heap.size, 0, none⟩), .pointer (some ⟨w.heap.size + 1, 0, none⟩)]) ∧ w' = (w.alloc (.cells #[.slice A m c] 32)).alloc (.cells #[.int .i64 64] 3) := by
  refine callsIn_of_wp Tryd.func56 rfl trivial ?_ rfl
  simp only [Tryd.ntmps56, List.size_toArray, List.length_cons, List.length_nil, Nat.reduceAdd, Nat.reduceSub, Array.replicate_succ, Array.replicate_zero, List.push_toArray, List.append_toArray, List.nil_append, List.cons_append]
  gi_wp2
  go_ret
  exact ⟨rfl, rfl⟩
theorem chunk_stops (n : Nat) (hn : 1 ≤ n) (Bs Bn m c : Nat) (A : Option Addr) (hbl : m ≤ c) (hcl : c ≤ 9223372036854775807) (hm : m ≤ 16777216)
    (w : World) (hBs : w.heap[Bs]? = some (.cells #[.slice A m c] 32 (0, 0))) (hBn : w.heap[Bn]? = some (.cells #[.int .i64 64] 3 (0, 0))) :
    SeqStopsK Fence.wide n Tryd.prog 68 #[.pointer (some ⟨Bs, 0, none⟩), .pointer (some ⟨Bn, 0, none⟩)] (encC A m) (Kpc Bs Bn) (fun ys => ys = List.range (piecesN m)) (fun pre => pre <+: List.range (piecesN m)) (piecesN m) w := fun l J Jx W hW hJ _ hY h0 => by
  have hb : Below w.heap.size w W := hW
  exact chunk1_in n hn l Bs Bn m c A hbl hcl hm J Jx W hY (blk_below hBs hb) (blk_below hBn hb) h0 (fun W' k pre hj => hJ pre W' (W'.drewN k) none hj ⟨rfl, rfl, rfl, Nat.le_refl _, fun _ _ _ => rfl⟩ (fun r e => by cases e))

/-- The pieces. -/
def pieceAt (p : List Int) (j : Nat) : List Int := (((pieceL p.length j : Nat) : Int) - 1) :: (p.drop (64 * j)).take 64
def piecesAt (p : List Int) (js : List Nat) : List Int := js.flatMap (pieceAt p)
theorem piecesAt_snoc (p : List Int) (js : List Nat) (j : Nat) : piecesAt p (js ++ [j]) = piecesAt p js ++ pieceAt p j := by simp [piecesAt]
theorem pieces_all (f : Nat) (p : List Int) (hf : p.length ≤ f) : piecesAt p (List.range (piecesN p.length)) = plainB p := by
  induction f generalizing p with
  | zero =>
    have : p = [] := List.length_eq_zero_iff.1 (by omega)
    subst this
    rfl
  | succ f ih =>
    by_cases hp : p = []
    · subst hp; rfl
    · have hl : 0 < p.length := List.length_pos_iff.2 hp
      rw [plainB_step hp]
      have e : piecesN p.length = piecesN (p.drop 64).length + 1 := by unfold piecesN; rw [List.length_drop]; omega
      rw [e, List.range_succ_eq_map]
      unfold piecesAt
      rw [List.flatMap_cons, List.flatMap_map]
      have e2 : (List.range (piecesN (p.drop 64).length)).flatMap (fun a => pieceAt p (Nat.succ a)) = piecesAt (p.drop 64) (List.range (piecesN (p.drop 64).length)) := by
        unfold piecesAt
        congr 1
        funext a
        unfold pieceAt pieceL
        rw [List.length_drop, List.drop_drop, show 64 + 64 * a = 64 * Nat.succ a by omega, show p.length - 64 * Nat.succ a = p.length - 64 - 64 * a by omega]
      rw [e2, ih (p.drop 64) (by rw [List.length_drop]; omega)]
      unfold pieceAt pieceL
      simp

section
variable {P : Program} {ops : Array Oper} {rest : List Oper} {o : Oper} {a : Act} {Q : Exit → Act → World → Prop} {α : Type} {F : Fence} {nF : Nat}
theorem run_appP1 (d : Kind α) {e : TypeId} {W : World} {R : Nat → Prop} {v : Value} {xs : List α} (HO : AppP d e W R v xs) (t ty : TypeId) (z : Value) (bytes : Nat)
    (ht : P.underlying t = some (.slice e)) (hinfo : (P.info? e).map (fun i => (i.zero, i.size, i.bytes)) = some (some z, d.sz, bytes)) (hz : z.cells.size = d.sz) (hs0 : 0 < d.sz)
    (p : α) (cs : List Value) (G : Nat → Prop)
    (hp : d.K W G p cs) (hG : ∀ b, G b → R b ∧ b < W.heap.size ∧ v.ownBlock ≠ some b) (h1 : ∀ u ∈ cs, u.oneCell' = true)
    (hnew : ∀ b, W.heap.size ≤ b → R b) (h63 : xs.length + 1 ≤ 1099511627776) (hl : (xs.length + 1) * bytes ≤ 140737488355328) :
    ∃ v1 w1, (Builtin.append_ #[t, t] ty #[v, .slice (some ⟨W.heap.size, 0, none⟩) 1 1]).run P (W.alloc (.cells cs.toArray e)) = .ok v1 w1 ∧ AppP d e w1 R v1 (xs ++ [p]) ∧ Chg (fun b => v.ownBlock = some b) W w1 ∧ (v1.ownBlock = v.ownBlock ∨ ∃ b, v1.ownBlock = some b ∧ W.heap.size ≤ b) := by
  obtain ⟨F, inner, hown, hP, hF, hE⟩ := HO
  obtain ⟨i0, hi, hz0, hz1, hz2⟩ := info_of hinfo
  have hlen := d.len hp
  obtain ⟨v', w', hrun, h2, h3, _, h5⟩ := run_append_own_at (P := P) (W.alloc (.cells cs.toArray e)) 0 t ty e i0 z d.sz bytes ht hi hz0 hz1 hz2 hz hs0 v xs.length inner (hown.alloc _)
    ⟨W.heap.size, 0, none⟩ 1 1 cs (by rw [hlen]; omega) (fun j u hu => by
      have hadd : (⟨W.heap.size, 0, none⟩ : Addr).add j = ⟨W.heap.size, j, none⟩ := by unfold Addr.add; split <;> simp_all
      rw [hadd, cell_of_row _ _ _ _ _ _ (heap_alloc_new W (.cells cs.toArray e))]
      simpa using hu) h1 (by simp only [maxLen]; omega) (by exact hl) (by simp)
  have hsz : (W.alloc (.cells cs.toArray e)).heap.size = W.heap.size + 1 := by simp
  have hg : Chg (fun b => v.ownBlock = some b) W w' := ⟨h3.os, h3.tape, h3.output, by have := h3.size; rw [hsz] at this; omega, fun b hb hn => (h3.block b (by rw [hsz]; omega) (fun e => hn e.symm)).trans (Below.heap_alloc W _ b hb)⟩
  have ho : v'.ownBlock = v.ownBlock ∨ ∃ b, v'.ownBlock = some b ∧ W.heap.size ≤ b := by
    rcases h5 with h5 | h5
    · exact .inl h5
    · exact .inr ⟨_, h5, by rw [hsz]; omega⟩
  exact ⟨v', w', hrun, AppP.add hown hF hE hp hG (by simpa using h2) hg hP hnew ho, hg, ho⟩
theorem wpListIn_appP (d : Kind α) {e : TypeId} {W : World} {R : Nat → Prop} {v : Value} {xs : List α} (HO : AppP d e W R v xs) (hgd : o.guard = none) (s x : Operand) (t : TypeId) (z : Value) (bytes : Nat)
    (ho : o.op = .call { callee := .builtin .append, args := #[s, x], argTypes := #[t, t] })
    (ht : P.underlying t = some (.slice e)) (hinfo : (P.info? e).map (fun i => (i.zero, i.size, i.bytes)) = some (some z, d.sz, bytes)) (hz : z.cells.size = d.sz) (hs0 : 0 < d.sz)
    (p : α) (cs : List Value) (G : Nat → Prop) (hs : a.eval s = v) (hx : a.eval x = .slice (some ⟨W.heap.size, 0, none⟩) 1 1)
    (hp : d.K W G p cs) (hG : ∀ b, G b → R b ∧ b < W.heap.size ∧ v.ownBlock ≠ some b) (h1 : ∀ u ∈ cs, u.oneCell' = true)
    (hnew : ∀ b, W.heap.size ≤ b → R b) (h63 : xs.length + 1 ≤ 1099511627776) (hl : (xs.length + 1) * bytes ≤ 140737488355328)
    (h : ∀ v1 w1, AppP d e w1 R v1 (xs ++ [p]) → Chg (fun b => v.ownBlock = some b) W w1 → (v1.ownBlock = v.ownBlock ∨ ∃ b, v1.ownBlock = some b ∧ W.heap.size ≤ b) → wpListIn F nF P ops Q rest (a.put o.dst v1) w1) :
    wpListIn F nF P ops Q (o :: rest) a (W.alloc (.cells cs.toArray e)) := by
  obtain ⟨v1, w1, hrun, h2, h3, h4⟩ := run_appP1 (P := P) d HO t o.type z bytes ht hinfo hz hs0 p cs G hp hG h1 hnew h63 hl
  refine wpListIn_plain hgd fun K hK => ?_
  unfold Oper.wpIn
  refine ⟨by simp [Oper.about, ho, resolve, Target.leads, Sem.run_pure], ?_⟩
  rw [Oper.semAt_plain F _ _ (by rw [ho]; intro c hc'; cases hc')]
  simp [execOp, ho, resolve, invoke, builtin, hs, hx, hrun, Result.andThen]
  exact hK _ _ (h v1 w1 h2 h3 h4)
theorem wpListIn_appF (d : Kind α) {e : TypeId} {W : World} {R : Nat → Prop} {v : Value} {xs ys : List α} (HO : AppP d e W R v xs) (hgd : o.guard = none) (s x : Operand) (t : TypeId) (z : Value) (bytes : Nat)
    (ho : o.op = .call { callee := .builtin .append, args := #[s, x], argTypes := #[t, t] })
    (ht : P.underlying t = some (.slice e)) (hinfo : (P.info? e).map (fun i => (i.zero, i.size, i.bytes)) = some (some z, d.sz, bytes)) (hz : z.cells.size = d.sz)
    (hb : d.Bnd) (h1 : d.One) (hfl : d.Flat) {A : Option Addr} {c n : Nat} {G : Nat → Prop} (hs : a.eval s = v) (hx : a.eval x = .slice A n c) (hn : ys.length = n) (hy : d.Row W G A c ys)
    (hnew : ∀ b, W.heap.size ≤ b → R b) (h63 : xs.length + ys.length ≤ 1099511627776) (hl : (xs.length + ys.length) * bytes ≤ 140737488355328)
    (h : ∀ v1 w1, AppP d e w1 R v1 (xs ++ ys) → Chg (fun b => v.ownBlock = some b) W w1 → (v1.ownBlock = v.ownBlock ∨ ∃ b, v1.ownBlock = some b ∧ W.heap.size ≤ b) → wpListIn F nF P ops Q rest (a.put o.dst v1) w1) :
    wpListIn F nF P ops Q (o :: rest) a W := by
  subst hn
  obtain ⟨v1, w1, hrun, h2, h3, h4⟩ := run_appF (P := P) d HO t o.type z bytes ht hinfo hz hb h1 hfl hy hnew h63 hl
  refine wpListIn_plain hgd fun K hK => ?_
  unfold Oper.wpIn
  refine ⟨by simp [Oper.about, ho, resolve, Target.leads, Sem.run_pure], ?_⟩
  rw [Oper.semAt_plain F _ _ (by rw [ho]; intro c hc'; cases hc')]
  simp [execOp, ho, resolve, invoke, builtin, hs, hx, hrun, Result.andThen]
  exact hK _ _ (h v1 w1 h2 h3 h4)
end
end

section
open Go.RowKit Go.Shelf
attribute [local go_sem] Oper.semAt_some

def HoldI (W : World) (b : Nat) (v : Value) : Prop := W.heap[b]? = some (.cells #[v] 32 (0, 0))
theorem HoldI.one {W : World} {b : Nat} {v : Value} (h : HoldI W b v) : W.cell? ⟨b, 0, none⟩ = some v ∧ ∀ i, W.frozen? ⟨b, i, none⟩ = false := oneR h
theorem HoldI.chg {G : Nat → Prop} {W W' : World} {b : Nat} {v : Value} (h : HoldI W b v) (hc : Chg G W W') (hn : ¬ G b) : HoldI W' b v := hc.blk h hn
theorem HoldI.lt {W : World} {b : Nat} {v : Value} (h : HoldI W b v) : b < W.heap.size := (Array.getElem?_eq_some_iff.1 h).1
theorem HoldI.set {W : World} {b : Nat} {v : Value} (h : HoldI W b v) (u : Value) : HoldI (W.setCell ⟨b, 0, none⟩ u) b u := by
  have := blk_put h 0 u
  simpa [HoldI] using this
theorem Kind.Row.recap {α : Type} {d : Kind α} {w : World} {F : Nat → Prop} {A : Option Addr} {c c' : Nat} {xs : List α} (h : d.Row w F A c xs) (h1 : xs.length ≤ c') (h2 : c' ≤ 9223372036854775807) : d.Row w F A c' xs := ⟨h1, h2, h.2.2⟩
theorem piece_row {w : World} {F : Nat → Prop} {A : Option Addr} {c : Nat} {p : List Int} (h : Ints w F A c p) (j : Nat) : Ints w F (Option.map (fun x => x.add (64 * j)) A) (pieceL p.length j) ((p.drop (64 * j)).take 64) := by
  by_cases hlt : 64 * j < p.length
  · have h1 := (h.cut (64 * j) (by omega)).take 64
    have hc : cutAddr A (64 * j) c 1 = Option.map (fun x => x.add (64 * j)) A := by
      have := h.1
      unfold cutAddr
      rw [if_neg (by omega), Nat.mul_one]
    have h1' : Ints w F (cutAddr A (64 * j) c 1) (c - 64 * j) ((p.drop (64 * j)).take 64) := h1
    rw [hc] at h1'
    refine h1'.recap (by unfold pieceL; rw [List.length_take, List.length_drop]; omega) (by unfold pieceL; omega)
  · have e : (p.drop (64 * j)).take 64 = [] := by rw [List.drop_eq_nil_of_le (by omega)]; rfl
    rw [e]
    exact Kind.Row.nil _ _ (by unfold pieceL; omega)
theorem piece_len (p : List Int) (j : Nat) : ((p.drop (64 * j)).take 64).length = pieceL p.length j := by unfold pieceL; rw [List.length_take, List.length_drop]
theorem piecesAt_len (p : List Int) (js : List Nat) : (piecesAt p js).length ≤ 65 * js.length := by
  induction js with
  | nil => simp [piecesAt]
  | cons j t ih =>
    have : piecesAt p (j :: t) = pieceAt p j ++ piecesAt p t := by simp [piecesAt]
    rw [this, List.length_append, List.length_cons]
    unfold pieceAt
    rw [List.length_cons, List.length_take]
    omega
/-- Nothing of it left, the room kept. -/
theorem AppP.zero {α : Type} {d : Kind α} {e : TypeId} {w : World} {P : Nat → Prop} {A : Option Addr} {n c : Nat} {xs : List α} (h : AppP d e w P (.slice A n c) xs) : AppP d e w P (.slice A 0 c) [] := by
  obtain ⟨F, inner, ⟨h1, h2⟩, hP, _, _⟩ := h
  refine ⟨fun _ => False, [], ⟨by simp, ?_⟩, fun k hk => hP k (by cases A <;> exact hk), fun b hb => hb.elim, fun j x hj => by simp at hj⟩
  rcases h2 with ⟨e1, _⟩ | ⟨g, cap, cur, e1, hg, hh, hn, hc, hs, _⟩
  · injection e1 with e1 e2 e3
    subst e1 e3
    exact .inl ⟨rfl, rfl⟩
  · injection e1 with e1 e2 e3
    subst e1 e3
    exact .inr ⟨g, c, cur, rfl, hg, hh, Nat.zero_le _, hc, hs, by simp⟩
theorem AppP.row_of {α : Type} {d : Kind α} {e : TypeId} {w : World} {P : Nat → Prop} {A : Option Addr} {n c : Nat} {xs : List α} (h : AppP d e w P (.slice A n c) xs) : n = xs.length ∧ n ≤ c ∧ c ≤ 9223372036854775807 ∧ d.Row w P A c xs := by
  obtain ⟨A', c', e1, hr⟩ := AppP.row h
  injection e1 with e1 e2 e3
  subst e1 e2 e3
  exact ⟨rfl, hr.1, hr.2.1, hr⟩

theorem AppP.tight {α : Type} {d : Kind α} (hfl : d.Flat) {e : TypeId} {w : World} {P : Nat → Prop} {v : Value} {xs : List α} (h : AppP d e w P v xs) : AppP d e w (fun b => v.ownBlock = some b) v xs := by
  obtain ⟨F, inner, h1, h2, h3, h4⟩ := h
  exact ⟨fun _ => False, inner, h1, fun k hk => hk, fun b hb => hb.elim, fun j x hj => by obtain ⟨cs, hc, hi⟩ := h4 j x hj; exact ⟨cs, hfl _ _ _ _ _ hc, hi⟩⟩

/-- What holds while the pieces are told. -/
def FlI (xs ps : List Int) (bo : Nat) (vo : Value) (Po : Nat → Prop) (w3 : World) (pre : List Nat) (W : World) : Prop :=
  ∃ v, HoldI W bo v ∧ AppP (Kind.int .i64) 3 W Po v (xs ++ piecesAt ps pre) ∧ (v.ownBlock = vo.ownBlock ∨ ∃ b, v.ownBlock = some b ∧ w3.heap.size ≤ b) ∧ Hid (Chg (fun b => b = bo ∨ vo.ownBlock = some b) w3 W)
theorem chg_grown {G : Nat → Prop} {w X Y : World} {row : Option Nat} (h : Chg G w X) (hg : X.grownBy Y row) (hr : ∀ r, row = some r → w.heap.size ≤ r) : Chg G w Y :=
  h.then (G := fun b => row = some b) ⟨hg.os, hg.tape, hg.output, hg.size, fun b hb hn => hg.block b hb (fun e => hn e.symm)⟩ (fun i hi hG => by have := hr i hG; omega)
theorem FlI.own (xs ps : List Int) (bo : Nat) (vo : Value) (Po : Nat → Prop) (w3 : World) : OwnFrom w3.heap.size (FlI xs ps bo vo Po w3) := by
  rintro s X Y row ⟨v, h1, h2, h3, h4⟩ hg hr
  refine ⟨v, (grownBy_keeps_cells hg (fun r e => (hr r e).2) h1 rfl).trans h1, AppP.keepOwn (flat_int _) h2 (fun k hk => ?_), h3, Lib.hid (chg_grown h4.out hg (fun r e => (hr r e).1))⟩
  obtain ⟨cs, hcs⟩ := AppP.cells h2 hk
  exact grownBy_keeps_cells hg (fun r e => (hr r e).2) hcs rfl

/-- What holds behind it. -/
def FlF (bp bo : Nat) (v v' : Value) (ys : List Int) (Po Pp G : Nat → Prop) (w : World) (_ : Unit) (W : World) : Prop :=
  HoldI W bo v ∧ HoldI W bp v' ∧ AppP (Kind.int .i64) 3 W Po v ys ∧ AppP (Kind.int .i64) 3 W Pp v' [] ∧ Hid (Chg G w W)
theorem appP_own {P : Nat → Prop} {v : Value} {xs : List Int} {X Y : World} {row : Option Nat} (h : AppP (Kind.int .i64) 3 X P v xs) (hg : X.grownBy Y row) (hr : ∀ r, row = some r → ∃ o : Obj, X.heap[r]? = some o ∧ o.isCells = false) : AppP (Kind.int .i64) 3 Y P v xs :=
  AppP.keepOwn (flat_int _) h (fun k hk => by
    obtain ⟨cs, hcs⟩ := AppP.cells h hk
    exact grownBy_keeps_cells hg hr hcs rfl)
theorem FlF.own (bp bo : Nat) (v v' : Value) (ys : List Int) (Po Pp G : Nat → Prop) (w : World) : OwnFrom w.heap.size (FlF bp bo v v' ys Po Pp G w) := by
  rintro s X Y row ⟨h1, h2, h3, h4, h5⟩ hg hr
  exact ⟨(grownBy_keeps_cells hg (fun r e => (hr r e).2) h1 rfl).trans h1, (grownBy_keeps_cells hg (fun r e => (hr r e).2) h2 rfl).trans h2, appP_own h3 hg (fun r e => (hr r e).2), appP_own h4 hg (fun r e => (hr r e).2), Lib.hid (chg_grown h5.out hg (fun r e => (hr r e).1))⟩

set_option maxRecDepth 100000 in
set_option maxHeartbeats 4000000 in
theorem flush_any (w : World) (bp bo : Nat) (A : Option Addr) (c : Nat) (vo : Value) (ps xs : List Int) (Pp Po : Nat → Prop) (hbp : HoldI w bp (.slice A ps.length c)) (hbo : HoldI w bo vo) (hne : bp ≠ bo)
    (HP : AppP (Kind.int .i64) 3 w Pp (.slice A ps.length c) ps) (HO : AppP (Kind.int .i64) 3 w Po vo xs)
    (hPo : ∀ b, Po b → b ≠ bp ∧ b ≠ bo ∧ (Value.slice A ps.length c).ownBlock ≠ some b) (hPp : ∀ b, Pp b → b ≠ bp ∧ b ≠ bo) (hnew : ∀ b, w.heap.size ≤ b → Po b) (hx : xs.length ≤ 4194304) (hp : ps.length ≤ 4194304) :
    Calls Tryd.prog 55 #[.pointer (some ⟨bp, 0, none⟩), .pointer (some ⟨bo, 0, none⟩)] w fun e w' => (∃ v, e = .returned v) ∧ ∃ vo' vp', HoldI w' bo vo' ∧ HoldI w' bp vp' ∧ AppP (Kind.int .i64) 3 w' Po vo' (xs ++ plainB ps) ∧
      AppP (Kind.int .i64) 3 w' Pp vp' [] ∧ vp'.ownBlock = (Value.slice A ps.length c).ownBlock ∧ (vo'.ownBlock = vo.ownBlock ∨ ∃ b, vo'.ownBlock = some b ∧ w.heap.size ≤ b) ∧ Chg (fun b => b = bp ∨ b = bo ∨ vo.ownBlock = some b) w w' := by
  obtain ⟨_, hnc, hcm, hrow⟩ := AppP.row_of (AppP.tight (flat_int _) HP)
  obtain ⟨p0, pf⟩ := hbp.one
  refine (callsIn_wide (n := 8)).1 ?_
  refine callsIn_of_wp_marks Tryd.func55 rfl trivial ?_ rfl
  simp only [Tryd.ntmps55, List.size_toArray, List.length_cons, List.length_nil, Nat.reduceAdd, Nat.reduceSub, Array.replicate_succ, Array.replicate_zero, List.push_toArray, List.append_toArray, List.nil_append, List.cons_append]
  gi_wp2_with fail
  refine ⟨trivial, (chunk_in _ _ _ _ _).mono ?_⟩
  rintro e w3 ⟨rfl, hw3⟩
  obtain ⟨hS3, hN3, b3, hz3⟩ := alloc2 hw3.symm
  clear hw3
  have hbp3 : HoldI w3 bp (.slice A ps.length c) := blk_below hbp b3
  have hbo3 : HoldI w3 bo vo := blk_below hbo b3
  have HO3 := AppP.below HO b3
  have HP3 := AppP.below HP b3
  have hrow3 := hrow.below b3
  have HSQ := chunk_stops 7 (by omega) w.heap.size (w.heap.size + 1) ps.length c A hnc hcm (by omega) w3 hS3 hN3
  have hw3s := b3.size
  gi_wp2_with fail
  have hI0 : FlI xs ps bo vo Po w3 [] w3 := ⟨vo, hbo3, by simpa [piecesAt] using HO3, .inl rfl, Lib.hid (Chg.refl _ _)⟩
  have hbos := hbo.lt
  have hbps := hbp.lt
  refine wpIn_rangeFunc_ownH rfl (by omega) (gf := 68) (lb := #[.pointer (some ⟨w.heap.size, 0, none⟩), .pointer (some ⟨w.heap.size + 1, 0, none⟩)]) rfl trivial (enters_of Tryd.func68 (by kernel_rfl) rfl)
    HSQ Kpc.trans (fun W l o o' _ h hc _ => Kpc.book W l o o' h hc) (Below.refl _ _) (fun _ => rfl)
    (FlI xs ps bo vo Po w3) (fun _ _ _ => False)
    (FlI.own xs ps bo vo Po w3)
    (fun c' => fun s X Y row hs hg hr => hs)
    hI0
    (fun x a' W => a' = { tmps := #[.pointer (some ⟨bp, 0, none⟩), .pointer (some ⟨bo, 0, none⟩), .slice (Option.map (fun y => y.add (64 * x)) A) (pieceL ps.length x) (pieceL ps.length x), .slice A ps.length c, .func (.func 68) #[] #[.pointer (some ⟨w.heap.size, 0, none⟩), .pointer (some ⟨w.heap.size + 1, 0, none⟩)], .slice (Option.map (fun y => y.add (64 * x)) A) (pieceL ps.length x) (pieceL ps.length x), undef, undef, undef, undef, undef, undef, undef, undef, undef, undef], defers := [] })
    (fun x a' s X Y row hs hg hr => hs) ?assign ?body ?done ?stop
  case assign =>
    rintro l' pre x W K hI hK
    dsimp only [encC] at hK ⊢
    gi_wp2
    exact hK _ _ (KeepsFrom.refl _ _) (Kpc.refl _ _ _) hI rfl
  case body =>
    rintro l' pre x a' W hl'' ⟨r, hr⟩ ⟨v, i1, i2, i3, i4⟩ rfl hlt
    obtain ⟨o0, of⟩ := i1.one
    have hPv : ∀ b, v.ownBlock = some b → b ≠ bp ∧ b ≠ bo := fun b hb => ⟨(hPo b (AppP.ne i2 hb)).1, (hPo b (AppP.ne i2 hb)).2.1⟩
    have hvs : ∀ b, v.ownBlock = some b → b ≠ w.heap.size ∧ b ≠ w.heap.size + 1 := fun b hb => by
      rcases i3 with i3 | ⟨b', e1, h1⟩
      · have := AppP.own_lt HO (k := b) (by rw [← i3]; exact hb)
        omega
      · rw [hb] at e1
        injection e1 with e1
        omega
    have hrW : Ints W (fun b => (Value.slice A ps.length c).ownBlock = some b) A c ps := hrow3.keep (i4.out.same (fun i hi hPi => by
      rintro (rfl | h)
      · exact (hPp _ (AppP.ne HP hPi)).2 rfl
      · exact (hPo _ (AppP.ne HO h)).2.2 hPi))
    have hprow := piece_row hrW x
    have hpL := piece_len ps x
    have hpl := piecesAt_len ps pre
    have hN : piecesN ps.length ≤ 65537 := by unfold piecesN; omega
    have hd64 : pieceL ps.length x ≤ 64 := by unfold pieceL; omega
    have hsn := Lib.hid (piecesAt_snoc ps pre x)
    have hsx : pieceAt ps x = (((pieceL ps.length x : Nat) : Int) - 1) :: (ps.drop (64 * x)).take 64 := rfl
    have hWs := i4.out.size
    obtain ⟨Y, hY⟩ : ∃ Y, Y = (ps.drop (64 * x)).take 64 := ⟨_, rfl⟩
    obtain ⟨d, hd⟩ : ∃ d, d = pieceL ps.length x := ⟨_, rfl⟩
    obtain ⟨B, hB⟩ : ∃ B, B = Option.map (fun y => Addr.add y (64 * x)) A := ⟨_, rfl⟩
    obtain ⟨zs, hzs⟩ : ∃ zs, zs = xs ++ piecesAt ps pre := ⟨_, rfl⟩
    have hzl : zs.length ≤ 8519680 := by rw [hzs, List.length_append]; omega
    have HZ := Lib.hid (show xs ++ piecesAt ps (pre ++ [x]) = zs ++ [(d : Int) - 1] ++ Y by rw [hsn.out, hsx, ← hd, ← hY, hzs]; simp)
    rw [← hY, ← hB, ← hd] at hprow
    rw [← hY, ← hd] at hpL
    rw [← hd] at hd64
    rw [← hzs] at i2
    rw [← hB, ← hd]
    have hwr : IntKind.i64.wrap ((d : Int) - 1) = (d : Int) - 1 := by rw [IntWalk.i64_in _ (by omega)]
    have hnewW : ∀ b, W.heap.size ≤ b → Po b := fun b hb => hnew b (by omega)
    have HI2 := Lib.hid i2
    have HI4 := i4
    have HI1 := Lib.hid i1
    clear hY hd hB hzs hsx hpl hN hsn hrW HSQ hI0 hS3 hN3 hbp3 hbo3 HO3 HP3 hrow3 hr i1 i4
    gi_wp2_with (gi_at_builtin; go_loud (refine wpListIn_appP (Kind.int .i64) i2 rfl _ _ 32 (.int .i64 0) 8 rfl Tryd.underlying32 (by kernel_rfl) rfl (by decide) ((d : Int) - 1) [.int .i64 ((d : Int) - 1)] (fun _ => False) rfl rfl rfl (fun _ h => h.elim) (by simp [Value.oneCell']) hnewW (by omega) (by omega) ?_))
    intro v1 W1 HA1 hc1 ho1
    obtain ⟨us, hus⟩ : ∃ us, us = zs ++ [(d : Int) - 1] := ⟨_, rfl⟩
    have hul : us.length ≤ 8519681 := by rw [hus, List.length_append]; simp; omega
    rw [← hus] at HA1 HZ
    have hprow1 := hprow.keep (hc1.same (fun i hi hPi hv => (hPo _ (AppP.ne i2 hv)).2.2 hPi))
    have hW1 := hc1.size
    clear i2 hprow hus
    gi_wp2_with (gi_at_builtin; go_loud (refine wpListIn_appF (Kind.int .i64) HA1 rfl _ _ 32 (.int .i64 0) 8 rfl Tryd.underlying32 (by kernel_rfl) rfl (bnd_int .i64) (onec_int .i64) (flat_int .i64) rfl rfl hpL hprow1 (fun b hb => hnewW b (by omega)) (by omega) (by omega) ?_))
    intro v2 W2 HA2 hc2 ho2
    obtain ⟨qs, hqs⟩ : ∃ qs, qs = us ++ Y := ⟨_, rfl⟩
    rw [← hqs] at HA2 HZ
    obtain ⟨A2, c2, rfl, _, _⟩ := HA2.slice_
    have HC2 : Hid (Chg (fun b => v.ownBlock = some b) W W2) := Lib.hid (hc1.then hc2 (fun i hi he => by
      rcases ho1 with h | ⟨b, h, hb⟩
      · rw [h] at he; exact he
      · rw [h] at he; injection he with he; omega))
    have HO2 : Hid ((Value.slice A2 qs.length c2).ownBlock = v.ownBlock ∨ ∃ b, (Value.slice A2 qs.length c2).ownBlock = some b ∧ W.heap.size ≤ b) := Lib.hid (by
      rcases ho2 with h | ⟨b, h, hb⟩
      · rw [h]; exact ho1
      · exact .inr ⟨b, h, by omega⟩)
    have HI1' : HoldI W2 bo v := HI1.out.chg HC2.out (fun e => (hPv _ e).2 rfl)
    obtain ⟨o0', of'⟩ := HI1'.one
    have HH := Lib.hid HI1'
    have HA := Lib.hid HA2
    have HP1 : Hid ((Value.slice A2 qs.length c2).ownBlock ≠ some bo) := Lib.hid (fun e => (hPo _ (AppP.ne HA2 e)).2.1 rfl)
    clear o0 of hc1 hc2 HA1 HA2 hprow1 ho1 ho2 HI1' hqs
    gi_wp2
    obtain ⟨T, hT⟩ : ∃ T, T = W2.setCell ⟨bo, 0, none⟩ (.slice A2 qs.length c2) := ⟨_, rfl⟩
    rw [← hT]
    have hcT : Chg (fun b => b = bo ∨ v.ownBlock = some b) W T := by
      rw [hT]
      exact (HC2.out.mono (fun i _ h => .inr h)).trans (Chg.set _ W2 (p := ⟨bo, 0, none⟩) (.inl rfl) _)
    have hHT : HoldI T bo (.slice A2 qs.length c2) := by rw [hT]; exact HH.out.set _
    have hAT : AppP (Kind.int .i64) 3 T Po (.slice A2 qs.length c2) qs := by
      refine AppP.keepOwn (flat_int _) HA.out (fun k hk => ?_)
      rw [hT]
      exact Below.heap_setCell W2 ⟨bo, 0, none⟩ _ k (fun e => HP1.out (by rw [← show k = bo from e]; exact hk))
    clear hT
    refine ⟨keepsChgR hcT ?_, Kpc.chg hcT ?_ ?_, ⟨_, hHT, by rw [HZ.out]; exact hAT, ?_, Lib.hid (HI4.out.then hcT ?_)⟩⟩
    · rintro b (rfl | hb)
      · exact ⟨_, HI1.out, rfl⟩
      · obtain ⟨cs, hcs⟩ := AppP.cells HI2.out hb
        exact ⟨_, hcs, rfl⟩
    · rintro (e | e)
      · omega
      · exact (hvs _ e).1 rfl
    · rintro (e | e)
      · omega
      · exact (hvs _ e).2 rfl
    · rcases HO2.out with h | ⟨b, h, hb⟩
      · rw [h]; exact i3
      · exact .inr ⟨b, h, by omega⟩
    · rintro i hi (rfl | h)
      · exact .inl rfl
      · rcases i3 with i3 | ⟨b', e1, h1⟩
        · rw [i3] at h; exact .inr h
        · rw [h] at e1; injection e1 with e1; omega
  case done =>
    rintro D ys W hD rfl ⟨v, i1, i2, i3, i4⟩ hKd
    rw [pieces_all _ _ (Nat.le_refl _)] at i2
    have hbW : HoldI W bp (.slice A ps.length c) := hbp3.chg i4.out (by
      rintro (e | e)
      · exact hne e
      · exact (hPo _ (AppP.ne HO e)).1 rfl)
    have hPW := HP3.keepOwn (flat_int _) (fun k hk => i4.out.block k (AppP.own_lt HP3 hk) (by
      rintro (e | e)
      · exact (hPp _ (AppP.ne HP hk)).2 e
      · exact (hPo _ (AppP.ne HO e)).2.2 hk))
    obtain ⟨p0', pf'⟩ := hbW.one
    clear p0 pf HSQ hI0 hS3 hN3
    gi_wp2
    obtain ⟨T, hT⟩ : ∃ T, T = W.setCell ⟨bp, 0, none⟩ (.slice A 0 c) := ⟨_, rfl⟩
    rw [← hT]
    have hcT : Chg (fun b => b = bp) W T := by rw [hT]; exact Chg.set (fun b => b = bp) W (p := ⟨bp, 0, none⟩) rfl _
    have hKT : T.heap[D]? = some (.deferred (some [])) := hcT.blk hKd (by omega)
    have hZ : AppP (Kind.int .i64) 3 T Pp (.slice A 0 c) [] := AppP.zero (AppP.keepOwn (flat_int _) hPW (fun k hk => hcT.block k (AppP.own_lt hPW hk) (fun e => (hPp _ (AppP.ne HP hk)).1 e)))
    have hF : FlF bp bo v (.slice A 0 c) (xs ++ plainB ps) Po Pp (fun b => b = bp ∨ b = bo ∨ vo.ownBlock = some b) w () T := by
      refine ⟨i1.chg hcT (fun e => hne e.symm), by rw [hT]; exact hbW.set _, AppP.keepOwn (flat_int _) i2 (fun k hk => hcT.block k (AppP.own_lt i2 hk) (fun e => (hPo _ (AppP.ne i2 hk)).1 e)), hZ, Lib.hid ?_⟩
      refine ((Chg.of_below b3).trans (i4.out.then (G := fun b => b = bo ∨ vo.ownBlock = some b) (Chg.refl _ _) (fun _ _ h => h) |>.mono (fun i _ h => ?_))).then hcT (fun i _ h => .inl h)
      exact .inr h
    have hF2 := (FlF.own bp bo v (.slice A 0 c) (xs ++ plainB ps) Po Pp _ w).putObj (.deferred none) hF (by omega) hKT rfl
    clear hT
    refine ⟨by simp, .inl ⟨_, _, rfl, run_takeDeferred hKT, ?_⟩⟩
    refine ⟨_, results_none rfl _ _ _, ⟨_, rfl⟩, v, .slice A 0 c, hF2.1, hF2.2.1, hF2.2.2.1, hF2.2.2.2.1, ?_, ?_, hF2.2.2.2.2.out⟩
    · cases A <;> rfl
    · rcases i3 with h | ⟨b, h, hb⟩
      · exact .inl h
      · exact .inr ⟨b, h, by omega⟩
  case stop =>
    rintro D c' pre W hD hSp hf hKd
    exact hf.elim
end

section
open Go.RowKit Go.Shelf Go.WideElems Go.Maps
open Go.ChangeMaps (setBlock heap_setBlock_same)

theorem tripleLaid : laidOutB Tryd.prog = true := by kernel_rfl
theorem tripleRow : (111 : TypeId) < Tryd.prog.types.size := of_decide_eq_true (by kernel_rfl)
theorem tripleWide : (match Tryd.prog.underlying 111 with | some (.array _ _) | some (.struct _) => true | _ => false) = true := by kernel_rfl
set_option maxRecDepth 100000 in
theorem tripleLaw : WideMaps.KeyLaw Tryd.prog 111 := deep_law_laid tripleLaid (m := 2) (by omega) tripleRow (by kernel_rfl) tripleWide
theorem tripleKeyT : Tryd.prog.keyType 111 = true := by kernel_rfl
theorem tripleCells : Tryd.prog.cellsOf 111 = 3 := by kernel_rfl
theorem intCells : Tryd.prog.cellsOf 3 = 1 := by kernel_rfl
def keyV (k : Int × Int × Int) : Value := .agg #[.int .i64 k.1, .int .i64 k.2.1, .int .i64 k.2.2]
theorem keyV_inj {k k' : Int × Int × Int} (h : keyV k = keyV k') : k = k' := by
  unfold keyV at h
  simp at h
  exact Prod.ext h.1 (Prod.ext h.2.1 h.2.2)
def byteK (k : Int × Int × Int) : Prop := (0 ≤ k.1 ∧ k.1 ≤ 255) ∧ (0 ≤ k.2.1 ∧ k.2.1 ≤ 255) ∧ (0 ≤ k.2.2 ∧ k.2.2 ≤ 255)
theorem byte_wf {x : Int} (h : 0 ≤ x ∧ x ≤ 255) : (Lit.int .i64 x).wf = true := WalkArith.wf_i64 (by omega)
theorem keyV_lit {k : Int × Int × Int} (h : byteK k) : ∃ kl, keyOf Tryd.prog 111 (keyV k) = some kl := by
  obtain ⟨m, hm⟩ : ∃ m, Tryd.prog.types.size = m + 1 := Nat.exists_eq_succ_of_ne_zero (Nat.ne_of_gt (Nat.lt_of_le_of_lt (Nat.zero_le _) tripleRow))
  obtain ⟨h1, h2, h3⟩ := h
  have one : ∀ x : Int, (Lit.int .i64 x).wf = true → Tryd.prog.keyLits (m + 1) 3 [.int .i64 x] = some [.int .i64 x] := fun x hx => by
    unfold Program.keyLits
    rw [Tryd.underlying3]
    simp [hx]
  have hl : Tryd.prog.keyLits (m + 1 + 1) 111 [.int .i64 k.1, .int .i64 k.2.1, .int .i64 k.2.2] = some [.int .i64 k.1, .int .i64 k.2.1, .int .i64 k.2.2] := by
    unfold Program.keyLits
    rw [Tryd.underlying111]
    simp [tripleCells, intCells, List.range_succ, one _ (byte_wf h1), one _ (byte_wf h2), one _ (byte_wf h3)]
  refine ⟨.string (keyBytes [.int .i64 k.1, .int .i64 k.2.1, .int .i64 k.2.2]), ?_⟩
  unfold keyV keyOf
  rw [Tryd.underlying111]
  simp only [tripleKeyT, Bool.true_and]
  rw [if_pos (by simp [Value.formed, Tryd.underlying111, tripleCells]), hm]
  simp only [Value.cells]
  rw [hl]
  rfl

abbrev R0 : Value → Option (DataW Unit × List MemPlace) := fun _ => some (.nil, [])
section
variable {P : Program} {w : World} {t k e : TypeId} {b : Nat} {es es' : Array MapEntry} {clock clock' : Nat}
/-- Who stands in a map behind a store. -/
theorem store_who (K : WideMaps.KeyLaw P k) (ht : P.underlying t = some (.map k e)) (hb : w.heap[b]? = some (.map es clock)) (F : Fit P k R0 es clock) (hroom : es.size < maxLen) {key val : Value} {kl : Lit} (hkey : keyOf P k key = some kl)
    (hrun : (Instr.mapUpdate t (.map (some b)) key val).run P w = .ok () (setBlock w b (.map es' clock'))) :
    Fit P k R0 es' clock' ∧ es'.size ≤ es.size + 1 ∧ (∀ x' ∈ es'.toList, (x' ∈ es.toList ∧ x'.key ≠ key) ∨ (x'.key = key ∧ x'.val = val)) ∧ (∀ x ∈ es.toList, x.key ≠ key → x ∈ es'.toList) ∧ ∃ x' ∈ es'.toList, x'.key = key := by
  obtain ⟨es2, clock2, hrun2, F2, _, _, _, hwho⟩ := Maps.fit_store (R' := R0) (val := val) (Keyed.of_law K) ht hb F hroom (fun _ _ _ _ h => h) hkey rfl
  have same : ∀ {o o' : Obj}, setBlock w b o = setBlock w b o' → o = o' := fun {o o'} h => by
    have h1 := heap_setBlock_same hb o
    rw [h, heap_setBlock_same hb o'] at h1
    injection h1 with h1
    exact h1.symm
  rw [hrun] at hrun2
  obtain ⟨rfl, rfl⟩ : es' = es2 ∧ clock' = clock2 := by
    have := same (by simpa using hrun2 : setBlock w b (.map es' clock') = setBlock w b (.map es2 clock2))
    simpa using this
  refine ⟨F2, ?_⟩
  rcases K.find w hkey es.toList F.keys with ⟨h1, h2⟩ | ⟨j, e0, h1, h2, h3⟩
  · have hr3 : (Instr.mapUpdate t (.map (some b)) key val).run P w = .ok () (setBlock w b (.map (es.push ⟨key, val, clock⟩) (clock + 1))) := by
      simp [Instr.mapUpdate, run_underlying ht, MapKept.run_getObj_map hb, K.check w false hkey, h1, MapKept.run_setObj_map _ hb, Result.andThen, setBlock]
    rw [hrun] at hr3
    obtain ⟨rfl, _⟩ : es' = es.push ⟨key, val, clock⟩ ∧ clock' = clock + 1 := by
      have := same (by simpa using hr3 : setBlock w b (.map es' clock') = setBlock w b (.map (es.push ⟨key, val, clock⟩) (clock + 1)))
      simpa using this
    exact ⟨by simp, hwho, fun x hx _ => by simp [Array.toList_push, hx], ⟨_, by simp [Array.toList_push]; exact .inr rfl, rfl⟩⟩
  · have hr3 : (Instr.mapUpdate t (.map (some b)) key val).run P w = .ok () (setBlock w b (.map (es.modify j (fun e' => { e' with key := key, val := val })) clock)) := by
      have hj : es[j]? = some e0 := by simpa using h2
      simp [Instr.mapUpdate, run_underlying ht, MapKept.run_getObj_map hb, K.check w false hkey, h1, hj, h3, K.stays w hkey, MapKept.run_setObj_map _ hb, Result.andThen, setBlock]
    rw [hrun] at hr3
    obtain ⟨rfl, _⟩ : es' = es.modify j (fun e' => { e' with key := key, val := val }) ∧ clock' = clock := by
      have := same (by simpa using hr3 : setBlock w b (.map es' clock') = setBlock w b (.map (es.modify j (fun e' => { e' with key := key, val := val })) clock))
      simpa using this
    refine ⟨by simp, hwho, fun x hx hne => ?_, ⟨{ e0 with key := key, val := val }, ?_, rfl⟩⟩
    · obtain ⟨i, hi⟩ := List.mem_iff_getElem?.1 hx
      refine List.mem_iff_getElem?.2 ⟨i, ?_⟩
      rw [Array.toList_modify, List.getElem?_modify]
      by_cases hij : j = i
      · subst hij
        rw [h2] at hi
        injection hi with hi
        subst hi
        exact absurd h3 hne
      · simp [hij, hi]
    · refine List.mem_iff_getElem?.2 ⟨j, ?_⟩
      rw [Array.toList_modify, List.getElem?_modify]
      simp [h2]
end

/-- The places that were seen ahead of i: a map in block b, each row in a block of P, each its own. -/
def SeenI (l : List Int) (i b : Nat) (P : Nat → Prop) (W : World) : Prop :=
  ∃ es clock, W.heap[b]? = some (.map es clock) ∧ Fit Tryd.prog 111 R0 es clock ∧ es.size ≤ i ∧
    (∀ x ∈ es.toList, ∃ k, x.key = keyV k ∧ AppP (Kind.int .i64) 3 W P x.val (natInts (seenOf l i k))) ∧
    (∀ k, seenOf l i k ≠ [] → ∃ x ∈ es.toList, x.key = keyV k) ∧
    ∀ x ∈ es.toList, ∀ y ∈ es.toList, x.key ≠ y.key → ∀ g, x.val.ownBlock = some g → y.val.ownBlock ≠ some g
theorem SeenI.lt {l : List Int} {i b : Nat} {P : Nat → Prop} {W : World} (h : SeenI l i b P W) : b < W.heap.size := by
  obtain ⟨es, clock, h1, _⟩ := h
  exact (Array.getElem?_eq_some_iff.1 h1).1
theorem SeenI.keep {l : List Int} {i b : Nat} {P P' G : Nat → Prop} {W W' : World} (h : SeenI l i b P W) (hc : Chg G W W') (hb : ¬ G b) (hP : ∀ x, x < W.heap.size → P x → ¬ G x ∧ P' x) : SeenI l i b P' W' := by
  obtain ⟨es, clock, h1, h2, h3, h4, h5, h6⟩ := h
  refine ⟨es, clock, hc.blk h1 hb, h2, h3, fun x hx => ?_, h5, h6⟩
  obtain ⟨k, hk, ha⟩ := h4 x hx
  exact ⟨k, hk, AppP.keepOwn (flat_int _) (AppP.mono ha (fun g hlt hg => (hP g hlt hg).2)) (fun g hg => hc.block g (AppP.own_lt ha hg) (hP g (AppP.own_lt ha hg) (AppP.ne ha hg)).1)⟩
theorem SeenI.made (l : List Int) (P : Nat → Prop) (w : World) : SeenI l 0 w.heap.size P (w.alloc (.map #[] 0)) :=
  ⟨#[], 0, (MapKept.heap_alloc w _).1, ⟨by simp, MapKept.stamped_empty 0, by simp⟩, Nat.le_refl _, by simp, fun k hk => absurd (seenOf_zero l k) hk, by simp⟩
theorem zeroRow (w : World) : (zeroValue 32).run Tryd.prog w = .ok (.slice none 0 0) w := by kernel_rfl
theorem fit_keys_apart {es : Array MapEntry} {clock : Nat} (F : Fit Tryd.prog 111 R0 es clock) : es.toList.Pairwise (fun x y => x.key ≠ y.key) := by
  have h := Maps.fit_apart (Keyed.of_law tripleLaw) F
  rw [List.pairwise_map] at h
  exact h.imp (fun {x y} hne e => hne (by simp [rg, rd, e]))
theorem SeenI.look {l : List Int} {i b : Nat} {P : Nat → Prop} {W : World} (h : SeenI l i b P W) {k : Int × Int × Int} (hk : byteK k) :
    ∃ v, (∀ W' : World, W'.heap[b]? = W.heap[b]? → (Instr.lookup 109 (.map (some b)) (keyV k) false).run Tryd.prog W' = .ok v W') ∧ AppP (Kind.int .i64) 3 W P v (natInts (seenOf l i k)) := by
  obtain ⟨es, clock, h1, h2, h3, h4, h5, h6⟩ := h
  obtain ⟨kl, hkl⟩ := keyV_lit hk
  have look := fun (W' : World) (hb : W'.heap[b]? = some (.map es clock)) => Maps.fit_look (t := 109) false (Keyed.of_law tripleLaw) Tryd.underlying109 (zeroRow W') hb h2 hkl
  rcases look W h1 with ⟨_, hno, _⟩ | ⟨e0, y, hm0, hk0, _, _⟩
  · refine ⟨.slice none 0 0, fun W' hW => ?_, ?_⟩
    · rcases look W' (hW.trans h1) with ⟨hrun, _⟩ | ⟨e0, y, hm0, hk0, _⟩
      · exact hrun
      · exact absurd hk0 (hno e0 hm0)
    · have : seenOf l i k = [] := Classical.byContradiction fun hn => by
        obtain ⟨x, hx, hxk⟩ := h5 k hn
        exact hno x hx hxk
      rw [this]
      exact AppP.nil _ _ _ _
  · refine ⟨e0.val, fun W' hW => ?_, ?_⟩
    · rcases look W' (hW.trans h1) with ⟨_, hno, _⟩ | ⟨e1, y, hm1, hk1, hrun, _⟩
      · exact absurd hk0 (hno e0 hm0)
      · rw [entry_eq_of_key (fit_keys_apart h2) hm0 hm1 (by rw [hk0, hk1])]
        exact hrun
    · obtain ⟨k', hk', ha⟩ := h4 e0 hm0
      rw [hk0] at hk'
      rw [keyV_inj hk']
      exact ha
/-- Where there is no key. -/
theorem SeenI.step0 {l : List Int} {i b : Nat} {P : Nat → Prop} {W : World} (h : SeenI l i b P W) (hi : ¬ i + 3 ≤ l.length) : SeenI l (i + 1) b P W := by
  have e : ∀ k, seenOf l (i + 1) k = seenOf l i k := fun k => by rw [seenOf_succ, if_neg (fun hh => hi hh.1), List.append_nil]
  obtain ⟨es, clock, h1, h2, h3, h4, h5, h6⟩ := h
  exact ⟨es, clock, h1, h2, by omega, fun x hx => by obtain ⟨k, hk, ha⟩ := h4 x hx; exact ⟨k, hk, by rw [e]; exact ha⟩, fun k hk => h5 k (by rw [e] at hk; exact hk), h6⟩
theorem blk_setBlock {W : World} {b g : Nat} {es : Array MapEntry} {clock : Nat} (hb : W.heap[b]? = some (.map es clock)) (o : Obj) (hne : g ≠ b) : (setBlock W b o).heap[g]? = W.heap[g]? := ChangeMaps.heap_setBlock_other hb o hne
theorem chg_setBlock {G : Nat → Prop} {W : World} {b : Nat} {es : Array MapEntry} {clock : Nat} (hb : W.heap[b]? = some (.map es clock)) (o : Obj) (hG : G b) : Chg G W (setBlock W b o) :=
  ⟨rfl, rfl, rfl, by simp [setBlock], fun g _ hn => blk_setBlock hb o (fun e => hn (e ▸ hG))⟩
theorem natInts_snoc (ps : List Nat) (i : Nat) : natInts (ps ++ [i]) = natInts ps ++ [(i : Int)] := by simp [natInts]
/-- The entry at a key: what is there; and what a store of a longer row leaves. -/
theorem SeenI.entry {l : List Int} {i b : Nat} {P : Nat → Prop} {W : World} (h : SeenI l i b P W) (hk : byteK (key3 l i)) (hi : i + 3 ≤ l.length) (him : i ≤ 1048576) :
    ∃ (v0 : Value) (st : Nat) (o1 : Obj), (Instr.mapEntry 109 (.map (some b)) (keyV (key3 l i))).run Tryd.prog W = .ok (.tuple #[v0, goInt st]) (setBlock W b o1) ∧ AppP (Kind.int .i64) 3 W P v0 (natInts (seenOf l i (key3 l i))) ∧
      (∃ es clock, W.heap[b]? = some (.map es clock)) ∧
      ∀ (W1 W2 : World) (v1 : Value), Chg (fun g => g = b ∨ v0.ownBlock = some g) W W2 → W2.heap[b]? = some o1 → AppP (Kind.int .i64) 3 W2 P v1 (natInts (seenOf l (i + 1) (key3 l i))) → (v1.ownBlock = v0.ownBlock ∨ ∃ g, v1.ownBlock = some g ∧ W.heap.size ≤ g) →
        ∃ o2, (Instr.entryStore 109 (.map (some b)) (goInt st) v1).run Tryd.prog W2 = .ok () (setBlock W2 b o2) ∧ SeenI l (i + 1) b P (setBlock W2 b o2) ∧ (∃ es clock, W2.heap[b]? = some (.map es clock)) := by
  obtain ⟨es, clock, h1, h2, h3, h4, h5, h6⟩ := h
  obtain ⟨kl, hkl⟩ := keyV_lit hk
  obtain ⟨v0, st, es1, clock1, hrun, hwho, hst⟩ := entry_then_store (t := 109) tripleLaw Tryd.underlying109 zeroRow h1 h2 hkl
  have hother : ∀ k, k ≠ key3 l i → seenOf l (i + 1) k = seenOf l i k := fun k hne => by rw [seenOf_succ, if_neg (fun hh => hne hh.2.symm), List.append_nil]
  have hown0 : ∀ x ∈ es.toList, x.key ≠ keyV (key3 l i) → ∀ g, x.val.ownBlock = some g → v0.ownBlock ≠ some g := fun x hx hne g hg => by
    rcases hwho with ⟨e0, hm0, hk0, rfl⟩ | ⟨_, rfl⟩
    · exact h6 x hx e0 hm0 (by rw [hk0]; exact hne) g hg
    · simp [Value.ownBlock]
  refine ⟨v0, st, .map es1 clock1, hrun, ?_, ⟨es, clock, h1⟩, fun W1 W2 v1 hc hb1 hv1 hown => ?_⟩
  · rcases hwho with ⟨e0, hm0, hk0, rfl⟩ | ⟨hno, rfl⟩
    · obtain ⟨k', hk', ha⟩ := h4 e0 hm0
      rw [hk0] at hk'
      rw [keyV_inj hk']
      exact ha
    · have : seenOf l i (key3 l i) = [] := Classical.byContradiction fun hn => by
        obtain ⟨x, hx, hxk⟩ := h5 _ hn
        exact hno x hx hxk
      rw [this]
      exact AppP.nil _ _ _ _
  · obtain ⟨es', clock', hr1, hr2⟩ := hst W2 v1 hb1
    obtain ⟨F', hsz, hw2, hkeep, hhas⟩ := store_who tripleLaw Tryd.underlying109 h1 h2 (by simp only [maxLen]; omega) hkl hr2
    have hb3 := heap_setBlock_same hb1 (.map es' clock')
    have hchg := chg_setBlock (G := fun g => g = b) hb1 (.map es' clock') rfl
    have hold : ∀ x ∈ es.toList, x.key ≠ keyV (key3 l i) → ∃ k, x.key = keyV k ∧ AppP (Kind.int .i64) 3 (setBlock W2 b (.map es' clock')) P x.val (natInts (seenOf l (i + 1) k)) := fun x hx hne => by
      obtain ⟨k, hk2, ha⟩ := h4 x hx
      refine ⟨k, hk2, ?_⟩
      rw [hother k (fun e => hne (by rw [hk2, e]))]
      refine AppP.keepOwn (flat_int _) ha (fun g hg => ?_)
      have hgb : g ≠ b := fun e => by
        obtain ⟨cs, hcs⟩ := AppP.cells ha hg
        rw [e, h1] at hcs
        cases hcs
      rw [blk_setBlock hb1 _ hgb]
      exact hc.block g (AppP.own_lt ha hg) (by
        rintro (e | e)
        · exact hgb e
        · exact hown0 x hx hne g hg e)
    have hnew : AppP (Kind.int .i64) 3 (setBlock W2 b (.map es' clock')) P v1 (natInts (seenOf l (i + 1) (key3 l i))) := AppP.keepOwn (flat_int _) hv1 (fun g hg => blk_setBlock hb1 _ (fun e => by
      obtain ⟨cs, hcs⟩ := AppP.cells hv1 hg
      rw [e, hb1] at hcs
      cases hcs))
    have hapart : ∀ x ∈ es.toList, x.key ≠ keyV (key3 l i) → ∀ g, x.val.ownBlock = some g → v1.ownBlock ≠ some g := fun x hx hne g hg e => by
      rcases hown with h | ⟨g', e1, h⟩
      · rw [h] at e
        exact hown0 x hx hne g hg e
      · obtain ⟨k, hk2, ha⟩ := h4 x hx
        have := AppP.own_lt ha hg
        rw [e] at e1
        injection e1 with e1
        omega
    refine ⟨.map es' clock', hr1, ⟨es', clock', hb3, F', by omega, fun x hx => ?_, fun k hkn => ?_, fun x hx y hy hne g hg hgy => ?_⟩, ⟨es1, clock1, hb1⟩⟩
    · rcases hw2 x hx with ⟨hx', hne⟩ | ⟨hxk, hxv⟩
      · exact hold x hx' hne
      · exact ⟨_, hxk, by rw [hxv]; exact hnew⟩
    · by_cases hkk : k = key3 l i
      · rw [hkk]; exact hhas
      · rw [hother k hkk] at hkn
        obtain ⟨x, hx, hxk⟩ := h5 k hkn
        exact ⟨x, hkeep x hx (fun e => hkk (keyV_inj (by rw [← hxk, e]))), hxk⟩
    · rcases hw2 x hx with ⟨hx', hnx⟩ | ⟨hxk, hxv⟩
      · rcases hw2 y hy with ⟨hy', hny⟩ | ⟨hyk, hyv⟩
        · exact h6 x hx' y hy' hne g hg hgy
        · rw [hyv] at hgy
          exact hapart x hx' hnx g hg hgy
      · rcases hw2 y hy with ⟨hy', hny⟩ | ⟨hyk, hyv⟩
        · rw [hxv] at hg
          exact hapart y hy' hny g hgy hg
        · exact hne (by rw [hxk, hyk])
end

section
open Go.RowKit Go.Shelf Go.WideElems Go.Maps
open Go.ChangeMaps (setBlock heap_setBlock_same)

theorem bytes_key {l : List Int} (hb : bytesB l = true) {i : Nat} (hi : i + 3 ≤ l.length) : byteK (key3 l i) := by
  have h : ∀ j, j < l.length → 0 ≤ l.getD j 0 ∧ l.getD j 0 ≤ 255 := fun j hj => by
    have := List.all_eq_true.1 (show l.all byteB = true from hb) l[j] (List.getElem_mem hj)
    rw [getD_at hj]
    simpa [byteB] using this
  exact ⟨h _ (by omega), h _ (by omega), h _ (by omega)⟩
set_option maxRecDepth 20000 in
set_option maxHeartbeats 2000000 in
theorem see_any (l : List Int) (A : Option Addr) (c : Nat) (F : Nat → Prop) (i bb bs b : Nat) (P : Nat → Prop) (w : World) (h : Ints w F A c l) (hn : l.length ≤ 1048576) (hby : bytesB l = true) (hi : i < l.length)
    (hbb : w.heap[bb]? = some (.cells #[.slice A l.length c] 32 (0, 0))) (hbs : w.heap[bs]? = some (.cells #[.map (some b)] 109 (0, 0))) (hS : SeenI l i b P w) (hnew : ∀ x, w.heap.size ≤ x → P x) (hPb : ¬ P b) :
    Calls Tryd.prog 57 #[.int .i64 (i : Int), .pointer (some ⟨bb, 0, none⟩), .pointer (some ⟨bs, 0, none⟩)] w fun e w' => (∃ v, e = .returned v) ∧ SeenI l (i + 1) b P w' ∧ Chg (fun x => x = b ∨ P x) w w' := by
  have hl := h.1
  have hc := h.2.1
  obtain ⟨z0, zf⟩ := oneR hbb
  obtain ⟨m0, mf⟩ := oneR hbs
  go_enter Tryd.func57, Tryd.ntmps57
  by_cases h3 : i + 3 ≤ l.length
  · have hk := bytes_key hby h3
    have s1 : ∀ W : World, (Instr.slice 32 (.slice A l.length c) (some (.int .i64 (i : Int))) (some (.int .i64 ((i : Int) + 3))) none).run Tryd.prog W = .ok (.slice (cutAddr A i c 1) 3 (c - i)) W := fun W => by
      have := run_between Tryd.underlying32 info_intP A l.length c i (i + 3) _ _ rfl (show (((i : Int) + 3) : Int) = ((i + 3 : Nat) : Int) by omega) (by omega) (by omega) W
      rw [show i + 3 - i = 3 by omega] at this
      exact this
    have hw1 : IntKind.i64.wrap ((i : Int) + 3) = (i : Int) + 3 := by rw [IntWalk.i64_in _ (by omega)]
    obtain ⟨ad, rfl, hpad, q0⟩ := h.int_at (show i < l.length from hi)
    have hcut : cutAddr (some ad) i c 1 = some (ad.add i) := by unfold cutAddr; rw [if_neg (by omega)]; simp
    rw [hcut] at s1
    have s2 : ∀ W : World, (Instr.arrayAt 111 (.slice (some (ad.add i)) 3 (c - i))).run Tryd.prog W = .ok (.pointer (some (ad.add i))) W := fun W => by
      simp [Instr.arrayAt, run_underlying Tryd.underlying111]
    obtain ⟨_, ea, _, q1⟩ := h.int_at (show i + 1 < l.length by omega)
    injection ea with ea
    subst ea
    obtain ⟨_, ea, _, q2⟩ := h.int_at (show i + 2 < l.length by omega)
    injection ea with ea
    subst ea
    rw [add_succ ad i 0] at q1
    rw [add_succ ad i 1] at q2
    have hkv : keyV (key3 l i) = .agg #[.int .i64 l[i], .int .i64 l[i + 1], .int .i64 l[i + 2]] := by
      unfold keyV key3
      rw [getD_at hi, getD_at (show i + 1 < l.length by omega), getD_at (show i + 2 < l.length by omega)]
    have HKV := Lib.hid hkv
    obtain ⟨w1, hw1'⟩ : ∃ w1, w1 = w.alloc (.cells #[.int .i64 l[i], .int .i64 l[i + 1], .int .i64 l[i + 2]] 111) := ⟨_, rfl⟩
    have b1 : Below w.heap.size w w1 := by rw [hw1']; exact bal _ _
    have z1 : w1.heap.size = w.heap.size + 1 := by rw [hw1']; simp
    obtain ⟨w2, hw2⟩ : ∃ w2, w2 = w1.alloc (.cells #[.int .i64 (i : Int)] 3) := ⟨_, rfl⟩
    have b2 : Below w1.heap.size w1 w2 := by rw [hw2]; exact bal _ _
    have z2 : w2.heap.size = w1.heap.size + 1 := by rw [hw2]; simp
    have hcell : w2.heap[w1.heap.size]? = some (.cells #[.int .i64 (i : Int)] 3 (0, 0)) := by rw [hw2]; exact heap_alloc_new _ _
    have b12 := bthen b1 b2
    have hS2 : SeenI l i b P w2 := hS.keep (Chg.of_below (F := fun _ => False) b12) (fun h => h) (fun x _ hx => ⟨fun h => h, hx⟩)
    obtain ⟨v0, st, o1, hrun, hv0, ⟨es, clock, hbE⟩, hst⟩ := hS2.entry hk h3 (by omega)
    obtain ⟨w3, hw3⟩ : ∃ w3, w3 = setBlock w2 b o1 := ⟨_, rfl⟩
    rw [← hw3] at hrun
    have hbk := heap_setBlock_same hbE o1
    rw [← hw3] at hbk
    have hc3 : Chg (fun g => g = b) w2 w3 := by rw [hw3]; exact chg_setBlock hbE o1 rfl
    have hv3 : AppP (Kind.int .i64) 3 w3 P v0 (natInts (seenOf l i (key3 l i))) := AppP.keepOwn (flat_int _) hv0 (fun g hg => hc3.block g (AppP.own_lt hv0 hg) (fun e => hPb (by rw [← show g = b from e]; exact AppP.ne hv0 hg)))
    have hcell3 : w3.heap[w1.heap.size]? = some (.cells #[.int .i64 (i : Int)] 3 (0, 0)) := hc3.blk hcell (fun e => by
      have h1 := (Array.getElem?_eq_some_iff.1 hbE).1
      rw [← show w1.heap.size = b from e, hcell] at hbE
      cases hbE)
    have hY : Ints w3 (fun _ => True) (some ⟨w1.heap.size, 0, none⟩) 1 [(i : Int)] := by
      have h0 := App.ints 3 w1 w1.heap.size (Nat.le_refl _) [(i : Int)] (by simp)
      have h1 : AppP (Kind.int .i64) 3 w2 (fun x => w1.heap.size ≤ x) (.slice (some ⟨w1.heap.size, 0, none⟩) 1 1) [(i : Int)] := by rw [hw2]; exact h0
      have h2 := AppP.keepOwn (flat_int _) h1 (fun g hg => hc3.block g (AppP.own_lt h1 hg) (fun e => by
        have h3 := hS.lt
        have h4 : w1.heap.size ≤ g := AppP.ne h1 hg
        have h5 : g = b := e
        omega))
      exact ((AppP.row_of h2).2.2.2).mono (fun _ _ => trivial)
    rw [HKV.out, hw2, hw1'] at hrun
    rw [z1] at hY
    have hrun' : (Instr.mapEntry 109 (.map (some b)) (.agg #[.int .i64 l[i], .int .i64 l[i + 1], .int .i64 l[i + 2]])).run Tryd.prog ((w.alloc (.cells #[.int .i64 l[i], .int .i64 l[i + 1], .int .i64 l[i + 2]] 111)).alloc (.cells #[.int .i64 (i : Int)] 3)) = .ok (.tuple #[v0, .int .i64 (st : Int)]) w3 := hrun
    have m0' : (w.alloc (.cells #[.int .i64 l[i], .int .i64 l[i + 1], .int .i64 l[i + 2]] 111)).cell? ⟨bs, 0, none⟩ = some (.map (some b)) := below_cell (bal _ _) m0
    have HST := Lib.hid hst
    have HC3 := Lib.hid hc3
    have HBK := Lib.hid hbk
    have hln := seenOf_len l i (key3 l i)
    clear hcut hkv hrun hst hw3 hw2 hw1' hc3 hbk hcell hcell3 hv0 hS2 hbE
    go_wp2_with (at_builtin; go_loud (refine wpList_appF (Kind.int .i64) (ys := [(i : Int)]) hv3 rfl _ _ 32 (.int .i64 0) 8 rfl Tryd.underlying32 (by kernel_rfl) rfl (bnd_int .i64) (onec_int .i64) (flat_int .i64) rfl rfl rfl hY (fun x hx => hnew x (by have := HC3.out.size; omega)) (by rw [natInts_len]; simp; omega) (by rw [natInts_len]; simp; omega) ?_))
    intro v1 w4 hv4 hc4 ho4
    have hC : Chg (fun g => g = b ∨ v0.ownBlock = some g) w2 w4 := (HC3.out.mono (fun g _ h => .inl h)).then hc4 (fun g _ h => .inr h)
    have hvb : v0.ownBlock ≠ some b := fun e => hPb (AppP.ne hv3 e)
    have hb4 : w4.heap[b]? = some o1 := (hc4.block b (by have := (Array.getElem?_eq_some_iff.1 HBK.out).1; exact this) hvb).trans HBK.out
    have hl4 : natInts (seenOf l i (key3 l i)) ++ [(i : Int)] = natInts (seenOf l (i + 1) (key3 l i)) := by
      rw [← natInts_snoc, seenOf_succ, if_pos ⟨h3, rfl⟩]
    rw [hl4] at hv4
    obtain ⟨A4, c4, rfl, _, _⟩ := hv4.slice_
    obtain ⟨o2, hr4, hS4, es4, cl4, hb5⟩ := HST.out w4 w4 _ hC hb4 hv4 (by
      rcases ho4 with h | ⟨g, h, hg⟩
      · exact .inl h
      · exact .inr ⟨g, h, by have := HC3.out.size; omega⟩)
    have hr4' : (Instr.entryStore 109 (.map (some b)) (.int .i64 (st : Int)) (.slice A4 (natInts (seenOf l (i + 1) (key3 l i))).length c4)).run Tryd.prog w4 = .ok () (setBlock w4 b o2) := hr4
    obtain ⟨w5, hw5⟩ : ∃ w5, w5 = setBlock w4 b o2 := ⟨_, rfl⟩
    rw [← hw5] at hr4' hS4
    have hC5 : Chg (fun x => x = b ∨ P x) w w5 := by
      refine (Chg.of_below b12).trans ((hC.mono (fun g hg h => ?_)).trans ?_)
      · rcases h with h | h
        · exact .inl h
        · exact .inr (AppP.ne hv3 h)
      · rw [hw5]; exact chg_setBlock hb5 o2 (.inl rfl)
    have HS4 := Lib.hid hS4
    have HC5 := Lib.hid hC5
    clear hr4 hS4 hC5 hw5 hb5 hl4 hb4 hC hv4 hc4 ho4
    go_wp2
    go_end0
    exact ⟨⟨_, rfl⟩, HS4.out, HC5.out⟩
  · have HS := Lib.hid (hS.step0 h3)
    go_wp2
    go_end0
    exact ⟨⟨_, rfl⟩, HS.out, Chg.refl _ _⟩
end

section
open Go.RowKit Go.Shelf

/-- The blocks of packing: the bytes' variable, out's, plain's, the map, its variable. -/
structure Bxs where
  n0 : Nat
  bb : Nat
  bo : Nat
  bp : Nat
  b : Nat
  bs : Nat
def Bxs.Ok (x : Bxs) : Prop := (x.n0 ≤ x.bb ∧ x.n0 ≤ x.bo ∧ x.n0 ≤ x.bp ∧ x.n0 ≤ x.b ∧ x.n0 ≤ x.bs) ∧ x.bb ≠ x.bo ∧ x.bb ≠ x.bp ∧ x.bb ≠ x.b ∧ x.bb ≠ x.bs ∧ x.bo ≠ x.bp ∧ x.bo ≠ x.b ∧ x.bo ≠ x.bs ∧ x.bp ≠ x.b ∧ x.bp ≠ x.bs ∧ x.b ≠ x.bs
def Bxs.Far (x : Bxs) (k : Nat) : Prop := x.n0 ≤ k ∧ k ≠ x.bb ∧ k ≠ x.bo ∧ k ≠ x.bp ∧ k ≠ x.b ∧ k ≠ x.bs
def Bxs.OutP (x : Bxs) (vp : Value) (k : Nat) : Prop := x.Far k ∧ vp.ownBlock ≠ some k
def Bxs.SeenP (x : Bxs) (vo vp : Value) (k : Nat) : Prop := x.Far k ∧ vo.ownBlock ≠ some k ∧ vp.ownBlock ≠ some k
structure PkI (x : Bxs) (l : List Int) (A : Option Addr) (c : Nat) (i : Nat) (xs ps : List Int) (vo vp : Value) (w W : World) : Prop where
  ok : x.Ok
  out : HoldI W x.bo vo
  plain : HoldI W x.bp vp
  bytes : HoldI W x.bb (.slice A l.length c)
  mp : W.heap[x.bs]? = some (.cells #[.map (some x.b)] 109 (0, 0))
  rowO : AppP (Kind.int .i64) 3 W (x.OutP vp) vo xs
  rowP : AppP (Kind.int .i64) 3 W x.Far vp ps
  seen : SeenI l i x.b (x.SeenP vo vp) W
  base : w.heap.size = x.n0
  below : Below w.heap.size w W
section
variable {x : Bxs} {l : List Int} {A : Option Addr} {c i : Nat} {xs ps : List Int} {vo vp : Value} {w W W' : World}
theorem PkI.lts (h : PkI x l A c i xs ps vo vp w W) : x.bb < W.heap.size ∧ x.bo < W.heap.size ∧ x.bp < W.heap.size ∧ x.b < W.heap.size ∧ x.bs < W.heap.size :=
  ⟨h.bytes.lt, h.out.lt, h.plain.lt, h.seen.lt, (Array.getElem?_eq_some_iff.1 h.mp).1⟩
theorem PkI.far (h : PkI x l A c i xs ps vo vp w W) {k : Nat} (hk : W.heap.size ≤ k) : x.Far k := by
  have h1 := h.lts
  have h2 := h.below.size
  have h3 := h.base
  exact ⟨by omega, by omega, by omega, by omega, by omega, by omega⟩
theorem PkI.outNew (h : PkI x l A c i xs ps vo vp w W) {k : Nat} (hk : W.heap.size ≤ k) : x.OutP vp k := ⟨h.far hk, fun e => by have := AppP.own_lt h.rowP e; omega⟩
theorem PkI.seenNew (h : PkI x l A c i xs ps vo vp w W) {k : Nat} (hk : W.heap.size ≤ k) : x.SeenP vo vp k := ⟨h.far hk, fun e => by have := AppP.own_lt h.rowO e; omega, fun e => by have := AppP.own_lt h.rowP e; omega⟩
theorem PkI.grow (h : PkI x l A c i xs ps vo vp w W) (hb : Below W.heap.size W W') : PkI x l A c i xs ps vo vp w W' :=
  ⟨h.ok, blk_below h.out hb, blk_below h.plain hb, blk_below h.bytes hb, blk_below h.mp hb, AppP.below h.rowO hb, AppP.below h.rowP hb, h.seen.keep (Chg.of_below (F := fun _ => False) hb) (fun h => h) (fun _ _ hx => ⟨fun h => h, hx⟩), h.base, bthen h.below hb⟩
/-- plain has become longer. -/
theorem PkI.setP (h : PkI x l A c i xs ps vo vp w W) {W1 : World} {v1 : Value} {ps1 : List Int} (ha : AppP (Kind.int .i64) 3 W1 x.Far v1 ps1) (hc : Chg (fun k => vp.ownBlock = some k) W W1) (ho : v1.ownBlock = vp.ownBlock ∨ ∃ k, v1.ownBlock = some k ∧ W.heap.size ≤ k) :
    PkI x l A c i xs ps1 vo v1 w (W1.setCell ⟨x.bp, 0, none⟩ v1) := by
  have hF := fun k (hk : vp.ownBlock = some k) => AppP.ne h.rowP hk
  obtain ⟨ok1, ok2⟩ := h.ok
  have hl := h.lts
  have hbel := h.below.size
  have hbase := h.base
  obtain ⟨T, hT⟩ : ∃ T, T = W1.setCell ⟨x.bp, 0, none⟩ v1 := ⟨_, rfl⟩
  rw [← hT]
  have hcT : Chg (fun k => vp.ownBlock = some k ∨ k = x.bp) W T := by
    rw [hT]
    exact (hc.mono (fun _ _ e => .inl e)).trans (Chg.set (fun k => vp.ownBlock = some k ∨ k = x.bp) W1 (p := ⟨x.bp, 0, none⟩) (.inr rfl) v1)
  have hsT : Chg (fun k => k = x.bp) W1 T := by rw [hT]; exact Chg.set (fun k => k = x.bp) W1 (p := ⟨x.bp, 0, none⟩) rfl v1
  have hP1 : HoldI W1 x.bp vp := h.plain.chg hc (fun e => by have := hF _ e; exact this.2.2.2.1 rfl)
  have hne : ∀ k, k < W.heap.size → vp.ownBlock ≠ some k → v1.ownBlock ≠ some k := fun k hk e e1 => by
    rcases ho with h1 | ⟨k', e2, h1⟩
    · exact e (by rw [← h1]; exact e1)
    · rw [e1] at e2; injection e2 with e2; omega
  refine ⟨⟨ok1, ok2⟩, h.out.chg hcT ?_, by rw [hT]; exact hP1.set _, h.bytes.chg hcT ?_, hcT.blk h.mp ?_, ?_, ?_, h.seen.keep hcT ?_ ?_, h.base, h.below.trans (hcT.below hbel ?_)⟩
  · rintro (e | e)
    · exact (hF _ e).2.2.1 rfl
    · omega
  · rintro (e | e)
    · exact (hF _ e).2.1 rfl
    · omega
  · rintro (e | e)
    · exact (hF _ e).2.2.2.2.2 rfl
    · omega
  · refine AppP.keepOwn (flat_int _) (AppP.mono h.rowO (fun k hk hP => ⟨hP.1, hne k hk hP.2⟩)) (fun k hk => hcT.block k (AppP.own_lt h.rowO hk) ?_)
    have := AppP.ne h.rowO hk
    rintro (e | e)
    · exact this.2 e
    · exact this.1.2.2.2.1 e
  · exact AppP.keepOwn (flat_int _) ha (fun k hk => hsT.block k (AppP.own_lt ha hk) (fun e => (AppP.ne ha hk).2.2.2.1 e))
  · rintro (e | e)
    · exact (hF _ e).2.2.2.2.1 rfl
    · omega
  · intro k hk hP
    refine ⟨?_, hP.1, hP.2.1, hne k hk hP.2.2⟩
    rintro (e | e)
    · exact hP.2.2 e
    · exact hP.1.2.2.2.1 e
  · rintro k (e | e)
    · have := (hF _ e).1; omega
    · omega
/-- out has become longer. -/
theorem PkI.setO (h : PkI x l A c i xs ps vo vp w W) {W1 : World} {v1 : Value} {xs1 : List Int} (ha : AppP (Kind.int .i64) 3 W1 (x.OutP vp) v1 xs1) (hc : Chg (fun k => vo.ownBlock = some k) W W1) (ho : v1.ownBlock = vo.ownBlock ∨ ∃ k, v1.ownBlock = some k ∧ W.heap.size ≤ k) :
    PkI x l A c i xs1 ps v1 vp w (W1.setCell ⟨x.bo, 0, none⟩ v1) := by
  have hF := fun k (hk : vo.ownBlock = some k) => AppP.ne h.rowO hk
  obtain ⟨ok1, ok2⟩ := h.ok
  have hl := h.lts
  have hbel := h.below.size
  have hbase := h.base
  obtain ⟨T, hT⟩ : ∃ T, T = W1.setCell ⟨x.bo, 0, none⟩ v1 := ⟨_, rfl⟩
  rw [← hT]
  have hcT : Chg (fun k => vo.ownBlock = some k ∨ k = x.bo) W T := by
    rw [hT]
    exact (hc.mono (fun _ _ e => .inl e)).trans (Chg.set (fun k => vo.ownBlock = some k ∨ k = x.bo) W1 (p := ⟨x.bo, 0, none⟩) (.inr rfl) v1)
  have hsT : Chg (fun k => k = x.bo) W1 T := by rw [hT]; exact Chg.set (fun k => k = x.bo) W1 (p := ⟨x.bo, 0, none⟩) rfl v1
  have hO1 : HoldI W1 x.bo vo := h.out.chg hc (fun e => by have := hF _ e; exact this.1.2.2.1 rfl)
  have hne : ∀ k, k < W.heap.size → vo.ownBlock ≠ some k → v1.ownBlock ≠ some k := fun k hk e e1 => by
    rcases ho with h1 | ⟨k', e2, h1⟩
    · exact e (by rw [← h1]; exact e1)
    · rw [e1] at e2; injection e2 with e2; omega
  refine ⟨⟨ok1, ok2⟩, by rw [hT]; exact hO1.set _, h.plain.chg hcT ?_, h.bytes.chg hcT ?_, hcT.blk h.mp ?_, ?_, ?_, h.seen.keep hcT ?_ ?_, h.base, h.below.trans (hcT.below hbel ?_)⟩
  · rintro (e | e)
    · exact (hF _ e).1.2.2.2.1 rfl
    · omega
  · rintro (e | e)
    · exact (hF _ e).1.2.1 rfl
    · omega
  · rintro (e | e)
    · exact (hF _ e).1.2.2.2.2.2 rfl
    · omega
  · exact AppP.keepOwn (flat_int _) ha (fun k hk => hsT.block k (AppP.own_lt ha hk) (fun e => (AppP.ne ha hk).1.2.2.1 e))
  · refine AppP.keepOwn (flat_int _) h.rowP (fun k hk => hcT.block k (AppP.own_lt h.rowP hk) ?_)
    rintro (e | e)
    · exact (hF _ e).2 hk
    · exact (AppP.ne h.rowP hk).2.2.1 e
  · rintro (e | e)
    · exact (hF _ e).1.2.2.2.2.1 rfl
    · omega
  · intro k hk hP
    refine ⟨?_, hP.1, hne k hk hP.2.1, hP.2.2⟩
    rintro (e | e)
    · exact hP.2.1 e
    · exact hP.1.2.2.1 e
  · rintro k (e | e)
    · have := (hF _ e).1.1; omega
    · omega
/-- What is plain has been told. -/
theorem PkI.flush (h : PkI x l A c i xs ps vo vp w W) {vo' vp' : Value} {xs1 : List Int} (h1 : HoldI W' x.bo vo') (h2 : HoldI W' x.bp vp') (ha : AppP (Kind.int .i64) 3 W' (x.OutP vp) vo' xs1) (hb : AppP (Kind.int .i64) 3 W' x.Far vp' []) (hv : vp'.ownBlock = vp.ownBlock)
    (ho : vo'.ownBlock = vo.ownBlock ∨ ∃ k, vo'.ownBlock = some k ∧ W.heap.size ≤ k) (hc : Chg (fun k => k = x.bp ∨ k = x.bo ∨ vo.ownBlock = some k) W W') : PkI x l A c i xs1 [] vo' vp' w W' := by
  have hF := fun k (hk : vo.ownBlock = some k) => AppP.ne h.rowO hk
  obtain ⟨ok1, ok2⟩ := h.ok
  have hl := h.lts
  have hbel := h.below.size
  have hbase := h.base
  have hne : ∀ k, k < W.heap.size → vo.ownBlock ≠ some k → vo'.ownBlock ≠ some k := fun k hk e e1 => by
    rcases ho with h1 | ⟨k', e2, h1⟩
    · exact e (by rw [← h1]; exact e1)
    · rw [e1] at e2; injection e2 with e2; omega
  refine ⟨⟨ok1, ok2⟩, h1, h2, h.bytes.chg hc ?_, hc.blk h.mp ?_, AppP.mono ha (fun k _ hP => ⟨hP.1, by rw [hv]; exact hP.2⟩), hb, h.seen.keep hc ?_ ?_, h.base, h.below.trans (hc.below hbel ?_)⟩
  · rintro (e | e | e)
    · omega
    · omega
    · exact (hF _ e).1.2.1 rfl
  · rintro (e | e | e)
    · omega
    · omega
    · exact (hF _ e).1.2.2.2.2.2 rfl
  · rintro (e | e | e)
    · omega
    · omega
    · exact (hF _ e).1.2.2.2.2.1 rfl
  · intro k hk hP
    refine ⟨?_, hP.1, hne k hk hP.2.1, by rw [hv]; exact hP.2.2⟩
    rintro (e | e | e)
    · exact hP.1.2.2.2.1 e
    · exact hP.1.2.2.1 e
    · exact hP.2.1 e
  · rintro k (e | e | e)
    · omega
    · omega
    · have := (hF _ e).1.1; omega
/-- A place has been remembered. -/
theorem PkI.see (h : PkI x l A c i xs ps vo vp w W) (hs : SeenI l (i + 1) x.b (x.SeenP vo vp) W') (hc : Chg (fun k => k = x.b ∨ x.SeenP vo vp k) W W') : PkI x l A c (i + 1) xs ps vo vp w W' := by
  obtain ⟨ok1, ok2⟩ := h.ok
  have hl := h.lts
  have hbel := h.below.size
  have hbase := h.base
  refine ⟨⟨ok1, ok2⟩, h.out.chg hc ?_, h.plain.chg hc ?_, h.bytes.chg hc ?_, hc.blk h.mp ?_, AppP.keepOwn (flat_int _) h.rowO (fun k hk => hc.block k (AppP.own_lt h.rowO hk) ?_), AppP.keepOwn (flat_int _) h.rowP (fun k hk => hc.block k (AppP.own_lt h.rowP hk) ?_), hs, h.base, h.below.trans (hc.below hbel ?_)⟩
  · rintro (e | e)
    · omega
    · exact e.1.2.2.1 rfl
  · rintro (e | e)
    · omega
    · exact e.1.2.2.2.1 rfl
  · rintro (e | e)
    · omega
    · exact e.1.2.1 rfl
  · rintro (e | e)
    · omega
    · exact e.1.2.2.2.2.2 rfl
  · have := (AppP.ne h.rowO hk).1
    rintro (e | e)
    · exact this.2.2.2.2.1 e
    · exact e.2.1 hk
  · have := AppP.ne h.rowP hk
    rintro (e | e)
    · exact this.2.2.2.2.1 e
    · exact e.2.2 hk
  · rintro k (e | e)
    · omega
    · have := e.1.1; omega
end
end
end Go.Proofs.YtgnjnpfeofhniaaDoor
