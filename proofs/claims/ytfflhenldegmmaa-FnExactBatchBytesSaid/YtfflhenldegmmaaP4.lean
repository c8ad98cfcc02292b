/- slices.Chunk of ints; appending inside a round. -/
import Derived.Test.YtfflhenldegmmaaP3
namespace Go.Proofs.Ytfflhenldegmmaa
set_option linter.unusedVariables false
set_option linter.unusedSimpArgs false
open Go.RowKit Go.Shelf
attribute [local go_sem] Oper.semAt_some

/-- Two boxes are kept. -/
def Kpc (b1 b2 : Nat) (W W' : World) : Prop := ∀ (T : TypeId) (cs : Array Value), (W.heap[b1]? = some (.cells cs T (0, 0)) → W'.heap[b1]? = some (.cells cs T (0, 0))) ∧ (W.heap[b2]? = some (.cells cs T (0, 0)) → W'.heap[b2]? = some (.cells cs T (0, 0)))
theorem Kpc.refl (b1 b2 : Nat) (W : World) : Kpc b1 b2 W W := fun _ _ => ⟨fun h => h, fun h => h⟩
theorem Kpc.trans {b1 b2 : Nat} {A B C : World} (h : Kpc b1 b2 A B) (k : Kpc b1 b2 B C) : Kpc b1 b2 A C := fun T cs => ⟨fun hb => (k T cs).1 ((h T cs).1 hb), fun hb => (k T cs).2 ((h T cs).2 hb)⟩
theorem putObj_cells {W : World} {l b : Nat} {o o' : Obj} {cs : Array Value} {T : TypeId} (h : W.heap[l]? = some o) (hc : o.isCells = false) (hb : W.heap[b]? = some (.cells cs T (0, 0))) : (W.putObj l o').heap[b]? = some (.cells cs T (0, 0)) := by
  refine ((grownBy_putObj' W l o').block b (Array.getElem?_eq_some_iff.1 hb).1 (fun e => ?_)).trans hb
  injection e with e
  subst e
  rw [h] at hb
  injection hb with hb
  rw [hb] at hc
  simp [Obj.isCells] at hc
theorem Kpc.book {b1 b2 : Nat} (W : World) (l : Nat) (o o' : Obj) (h : W.heap[l]? = some o) (hc : o.isCells = false) : Kpc b1 b2 W (W.putObj l o') := fun _ _ => ⟨fun hb => putObj_cells h hc hb, fun hb => putObj_cells h hc hb⟩
theorem Kpc.below {b1 b2 : Nat} {W W' : World} (h : Below W.heap.size W W') : Kpc b1 b2 W W' := fun _ _ => ⟨fun hb => blk_below hb h, fun hb => blk_below hb h⟩
theorem Kpc.chg {b1 b2 : Nat} {G : Nat → Prop} {W W' : World} (h : Chg G W W') (h1 : ¬ G b1) (h2 : ¬ G b2) : Kpc b1 b2 W W' := fun _ _ => ⟨fun hb => h.blk hb h1, fun hb => h.blk hb h2⟩

/-- How many pieces; what a piece is. -/
def piecesN (m : Nat) : Nat := (m + 63) / 64
def pieceL (m j : Nat) : Nat := min 64 (m - 64 * j)
def encC (A : Option Addr) (m j : Nat) : Array Value := #[.slice (Option.map (fun x => x.add (64 * j)) A) (pieceL m j) (pieceL m j)]
theorem range_prefix {k n : Nat} (h : k ≤ n) : List.range k <+: List.range n := by
  obtain ⟨d, rfl⟩ : ∃ d, n = k + d := ⟨n - k, by omega⟩
  rw [List.range_add]
  exact List.prefix_append _ _

/-- Reslicing from l to h, the room cut at h. -/
theorem run_between3 {P : Program} {t e : TypeId} {z : Value} {s b : Nat} (ht : P.underlying t = some (.slice e)) (hinfo : (P.info? e).map (fun i => (i.zero, i.size, i.bytes)) = some (some z, s, b)) (A : Option Addr) (n cap l h : Nat) (L H : Int) (hL : L = (l : Int)) (hH : H = (h : Int)) (hlh : l ≤ h) (hh : h ≤ cap) (w : World) :
    (Instr.slice t (.slice A n cap) (some (.int .i64 L)) (some (.int .i64 H)) (some (.int .i64 H))).run P w = .ok (.slice (cutAddr A l h s) (h - l) (h - l)) w := by
  subst hL hH
  obtain ⟨i, hi, _, hs, _⟩ := info_of hinfo
  have he : P.elem t = e := by simp [Program.elem, ht]
  rw [run_slice_lhm (P := P) (w := w) t A n cap (by rw [he]; exact ht) .i64 .i64 .i64 (l : Int) (h : Int) (h : Int) (by omega) (by omega) (by omega) (by omega)]
  rw [he]
  simp [sizeOf, typeInfo, hi, hs, sliced, cutAddr, Result.andThen]

set_option maxRecDepth 100000 in
set_option maxHeartbeats 2000000 in
theorem chunk1_in (n : Nat) (hn : 1 ≤ n) (l Bs Bn m c : Nat) (A : Option Addr) (hbl : m ≤ c) (hcl : c ≤ 9223372036854775807) (hm : m ≤ 16777216)
    (J Jx : List Nat → World → Prop) (W : World)
    (hY : ∀ pre x W1, J pre W1 → pre.length < piecesN m → YieldAt Fence.wide (n - 1) Try.prog l (encC A m x) W1 fun e W' => (e = .returned (.bool true) ∧ J (pre ++ [x]) W' ∧ Kpc Bs Bn W1 W') ∨ (e = .returned (.bool false) ∧ Jx (pre ++ [x]) W'))
    (hBs : W.heap[Bs]? = some (.cells #[.slice A m c] 23 (0, 0))) (hBn : W.heap[Bn]? = some (.cells #[.int .i64 64] 3 (0, 0))) (h0 : J [] W) (hA : ∀ W' k pre, J pre W' → J pre (W'.drewN k)) :
    CallsIn Fence.wide n Try.prog 100 #[.func (.yield l) #[] #[], .pointer (some ⟨Bs, 0, none⟩), .pointer (some ⟨Bn, 0, none⟩)] W fun e W' => (∃ v, e = .returned v) ∧
      ((∃ ys, ys = List.range (piecesN m) ∧ J ys W') ∨ (∃ pre, pre <+: List.range (piecesN m) ∧ Jx pre W')) := by
  obtain ⟨z0, zf⟩ := oneR hBs
  obtain ⟨n0, nf⟩ := oneR hBn
  refine callsIn_of_wp Try.func100 rfl trivial ?_ rfl
  simp only [Try.ntmps100, List.size_toArray, List.length_cons, List.length_nil, Nat.reduceAdd, Nat.reduceSub, Array.replicate_succ, Array.replicate_zero, List.push_toArray, List.append_toArray, List.nil_append, List.cons_append]
  gi_wp2
  gi_loopw [4] (fun i wr => ∃ k : Nat, k ≤ piecesN m ∧ i = .int .i64 (64 * k : Nat) ∧ J (List.range k) wr ∧ Hid (Kpc Bs Bn W wr)) (fun i _ => m + 64 - (intOf i).toNat)
  case atStart => exact ⟨0, Nat.zero_le _, by simp, h0, Lib.hid (Kpc.refl _ _ _)⟩
  case round =>
    obtain ⟨k, hk, rfl, hJs, hkp⟩ := hrel
    clear z0 zf n0 nf
    obtain ⟨z0, zf⟩ := oneR ((hkp.out _ _).1 hBs)
    obtain ⟨n0, nf⟩ := oneR ((hkp.out _ _).2 hBn)
    obtain ⟨q, hq⟩ : ∃ q, q = 64 * k := ⟨_, rfl⟩
    rw [← hq]
    by_cases hlt : q < m
    · have hk2 : k < piecesN m := by unfold piecesN; omega
      obtain ⟨d, hd⟩ : ∃ d, d = pieceL m k := ⟨_, rfl⟩
      have hd1 : d = min 64 (m - q) := by rw [hd, hq]; rfl
      have hqd : q + d ≤ m := by omega
      have hd0 : 1 ≤ d := by omega
      have s1 : ∀ W : World, (Instr.slice 23 (.slice A m c) (some (.int .i64 (q : Int))) none none).run Try.prog W = .ok (.slice (cutAddr A q c 1) (m - q) (c - q)) W := fun W =>
        run_cut Try.underlying23 info_intP A m c q _ rfl (by omega) W
      have s2 : ∀ W : World, (Instr.slice 23 (.slice A m c) (some (.int .i64 (q : Int))) (some (.int .i64 ((q : Int) + (d : Int)))) (some (.int .i64 ((q : Int) + (d : Int))))).run Try.prog W = .ok (.slice (cutAddr A q (q + d) 1) d d) W := fun W => by
        have := run_between3 Try.underlying23 info_intP A m c q (q + d) _ _ rfl (show (((q : Int) + (d : Int)) : Int) = ((q + d : Nat) : Int) by omega) (by omega) (by omega) W
        rw [show q + d - q = d by omega] at this
        exact this
      have hw1 : IntKind.i64.wrap ((q : Int) + (d : Int)) = (q : Int) + (d : Int) := by rw [IntWalk.i64_in _ (by omega)]
      have hsub : ((m - q : Nat) : Int) = (m : Int) - (q : Int) := by omega
      have HPL : Hid ((List.range k).length < piecesN m) := Lib.hid (by simpa using hk2)
      have HRS := Lib.hid (show List.range k ++ [k] = List.range (k + 1) by rw [List.range_succ])
      have HENC := Lib.hid (show encC A m k = #[.slice (Option.map (fun x => x.add q) A) d d] by unfold encC; rw [← hd, ← hq])
      have HQ := Lib.hid hq
      have HPK := Lib.hid (show k + 1 ≤ piecesN m from hk2)
      have blkz0 : ∀ V : World, Hid (Kpc Bs Bn W V) → V.cell? ⟨Bs, 0, none⟩ = some (.slice A m c) := fun V h => (oneR ((h.out _ _).1 hBs)).1
      have blkz1 : ∀ V : World, Hid (Kpc Bs Bn W V) → ∀ i, V.frozen? ⟨Bs, i, none⟩ = false := fun V h => (oneR ((h.out _ _).1 hBs)).2
      have blkn0 : ∀ V : World, Hid (Kpc Bs Bn W V) → V.cell? ⟨Bn, 0, none⟩ = some (.int .i64 64) := fun V h => (oneR ((h.out _ _).2 hBn)).1
      have blkn1 : ∀ V : World, Hid (Kpc Bs Bn W V) → ∀ i, V.frozen? ⟨Bn, i, none⟩ = false := fun V h => (oneR ((h.out _ _).2 hBn)).2
      by_cases h64 : m - q < 64
      · have hmd : d = m - q := by omega
        rw [hmd] at s2 hw1 HENC hd0 hqd
        clear hq hd hd1 hk2 hmd
        gi_wp2
        refine wpIn_wide.2 ?_
        go_quiet (fail)
        generalize hV : World.drewN wr _ = V
        have hbV : Below wr.heap.size wr V := by rw [← hV]; exact below_drewN _ _
        have hJV : J (List.range k) V := by rw [← hV]; exact hA _ _ _ hJs
        clear hV
        have hkV := Lib.hid (hkp.out.trans (Kpc.below hbV))
        have z0 := blkz0 _ hkV
        have zf := blkz1 _ hkV
        clear n0 nf hkp
        obtain ⟨fn, tmps, assign, body, hy, hR⟩ := hY (List.range k) k V hJV HPL.out
        rw [HENC.out] at hy
        clear hJs hJV hbV
        gi_wp2
        refine hR.mono ?_
        rintro e W3 (⟨rfl, hJ3, hk3⟩ | ⟨rfl, hJx3⟩)
        · rw [HRS.out] at hJ3
          have hkp3 := Lib.hid (hkV.out.trans hk3)
          have n0 := blkn0 _ hkp3
          have nf := blkn1 _ hkp3
          clear hy hR hk3 hkV z0 zf
          have hk3 : k + 1 ≤ piecesN m := HPK.out
          have hq3 : q = 64 * k := HQ.out
          gi_wp2
          go_roundw
          case rel => exact ⟨k + 1, hk3, by congr 1 <;> omega, hJ3, hkp3⟩
          case measure => simp [intOf]; omega
        · rw [HRS.out] at hJx3
          have hpx : Hid (List.range (k + 1) <+: List.range (piecesN m)) := Lib.hid (range_prefix HPK.out)
          clear hy hR
          gi_wp2
          refine bodyPost_ret (results_none rfl _ _ _) rfl ?_
          exact ⟨⟨_, rfl⟩, .inr ⟨_, hpx.out, hJx3⟩⟩
      · have hmd : d = 64 := by omega
        subst hmd
        clear hq hd hd1 hk2
        gi_wp2
        refine wpIn_wide.2 ?_
        go_quiet (fail)
        generalize hV : World.drewN wr _ = V
        have hbV : Below wr.heap.size wr V := by rw [← hV]; exact below_drewN _ _
        have hJV : J (List.range k) V := by rw [← hV]; exact hA _ _ _ hJs
        clear hV
        have hkV := Lib.hid (hkp.out.trans (Kpc.below hbV))
        have z0 := blkz0 _ hkV
        have zf := blkz1 _ hkV
        clear n0 nf hkp
        obtain ⟨fn, tmps, assign, body, hy, hR⟩ := hY (List.range k) k V hJV HPL.out
        rw [HENC.out] at hy
        clear hJs hJV hbV
        gi_wp2
        refine hR.mono ?_
        rintro e W3 (⟨rfl, hJ3, hk3⟩ | ⟨rfl, hJx3⟩)
        · rw [HRS.out] at hJ3
          have hkp3 := Lib.hid (hkV.out.trans hk3)
          have n0 := blkn0 _ hkp3
          have nf := blkn1 _ hkp3
          clear hy hR hk3 hkV z0 zf
          have hk3 : k + 1 ≤ piecesN m := HPK.out
          have hq3 : q = 64 * k := HQ.out
          gi_wp2
          go_roundw
          case rel => exact ⟨k + 1, hk3, by congr 1 <;> omega, hJ3, hkp3⟩
          case measure => simp [intOf]; omega
        · rw [HRS.out] at hJx3
          have hpx : Hid (List.range (k + 1) <+: List.range (piecesN m)) := Lib.hid (range_prefix HPK.out)
          clear hy hR
          gi_wp2
          refine bodyPost_ret (results_none rfl _ _ _) rfl ?_
          exact ⟨⟨_, rfl⟩, .inr ⟨_, hpx.out, hJx3⟩⟩
    · have hkK : k = piecesN m := by unfold piecesN at *; omega
      subst hkK
      gi_wp2
      go_end0
      exact ⟨⟨_, rfl⟩, .inl ⟨_, rfl, hJs⟩⟩
/-- slices.Chunk(s, 64). -/
theorem chunk_in (n : Nat) (A : Option Addr) (m c : Nat) (w : World) :
    CallsIn Fence.wide n Try.prog 90 #[.slice A m c, .int .i64 64] w fun e w' => e = .returned (.func (.func 100) #[] #[.pointer (some ⟨w.heap.size, 0, none⟩), .pointer (some ⟨w.heap.size + 1, 0, none⟩)]) ∧ w' = (w.alloc (.cells #[.slice A m c] 23)).alloc (.cells #[.int .i64 64] 3) := by
  refine callsIn_of_wp Try.func90 rfl trivial ?_ rfl
  simp only [Try.ntmps90, List.size_toArray, List.length_cons, List.length_nil, Nat.reduceAdd, Nat.reduceSub, Array.replicate_succ, Array.replicate_zero, List.push_toArray, List.append_toArray, List.nil_append, List.cons_append]
  gi_wp2
  go_ret
  exact ⟨rfl, rfl⟩
theorem chunk_stops (n : Nat) (hn : 1 ≤ n) (Bs Bn m c : Nat) (A : Option Addr) (hbl : m ≤ c) (hcl : c ≤ 9223372036854775807) (hm : m ≤ 16777216)
    (w : World) (hBs : w.heap[Bs]? = some (.cells #[.slice A m c] 23 (0, 0))) (hBn : w.heap[Bn]? = some (.cells #[.int .i64 64] 3 (0, 0))) :
    SeqStopsK Fence.wide n Try.prog 100 #[.pointer (some ⟨Bs, 0, none⟩), .pointer (some ⟨Bn, 0, none⟩)] (encC A m) (Kpc Bs Bn) (fun ys => ys = List.range (piecesN m)) (fun pre => pre <+: List.range (piecesN m)) (piecesN m) w := fun l J Jx W hW hJ _ hY h0 => by
  have hb : Below w.heap.size w W := hW
  exact chunk1_in n hn l Bs Bn m c A hbl hcl hm J Jx W hY (blk_below hBs hb) (blk_below hBn hb) h0 (fun W' k pre hj => hJ pre W' (W'.drewN k) none hj ⟨rfl, rfl, rfl, Nat.le_refl _, fun _ _ _ => rfl⟩ (fun r e => by cases e))

/-- The pieces. -/
def pieceAt (p : List Int) (j : Nat) : List Int := (((pieceL p.length j : Nat) : Int) - 1) :: (p.drop (64 * j)).take 64
def piecesAt (p : List Int) (js : List Nat) : List Int := js.flatMap (pieceAt p)
theorem piecesAt_snoc (p : List Int) (js : List Nat) (j : Nat) : piecesAt p (js ++ [j]) = piecesAt p js ++ pieceAt p j := by simp [piecesAt]
theorem pieces_all (f : Nat) (p : List Int) (hf : p.length ≤ f) : piecesAt p (List.range (piecesN p.length)) = plainB p := by
  induction f generalizing p with
  | zero =>
    have : p = [] := List.length_eq_zero_iff.1 (by omega)
    subst this
    rfl
  | succ f ih =>
    by_cases hp : p = []
    · subst hp; rfl
    · have hl : 0 < p.length := List.length_pos_iff.2 hp
      rw [plainB_step hp]
      have e : piecesN p.length = piecesN (p.drop 64).length + 1 := by unfold piecesN; rw [List.length_drop]; omega
      rw [e, List.range_succ_eq_map]
      unfold piecesAt
      rw [List.flatMap_cons, List.flatMap_map]
      have e2 : (List.range (piecesN (p.drop 64).length)).flatMap (fun a => pieceAt p (Nat.succ a)) = piecesAt (p.drop 64) (List.range (piecesN (p.drop 64).length)) := by
        unfold piecesAt
        congr 1
        funext a
        unfold pieceAt pieceL
        rw [List.length_drop, List.drop_drop, show 64 + 64 * a = 64 * Nat.succ a by omega, show p.length - 64 * Nat.succ a = p.length - 64 - 64 * a by omega]
      rw [e2, ih (p.drop 64) (by rw [List.length_drop]; omega)]
      unfold pieceAt pieceL
      simp

section
variable {P : Program} {ops : Array Oper} {rest : List Oper} {o : Oper} {a : Act} {Q : Exit → Act → World → Prop} {α : Type} {F : Fence} {nF : Nat}
theorem run_appP1 (d : Kind α) {e : TypeId} {W : World} {R : Nat → Prop} {v : Value} {xs : List α} (HO : AppP d e W R v xs) (t ty : TypeId) (z : Value) (bytes : Nat)
    (ht : P.underlying t = some (.slice e)) (hinfo : (P.info? e).map (fun i => (i.zero, i.size, i.bytes)) = some (some z, d.sz, bytes)) (hz : z.cells.size = d.sz) (hs0 : 0 < d.sz)
    (p : α) (cs : List Value) (G : Nat → Prop)
    (hp : d.K W G p cs) (hG : ∀ b, G b → R b ∧ b < W.heap.size ∧ v.ownBlock ≠ some b) (h1 : ∀ u ∈ cs, u.oneCell' = true)
    (hnew : ∀ b, W.heap.size ≤ b → R b) (h63 : xs.length + 1 ≤ 1099511627776) (hl : (xs.length + 1) * bytes ≤ 140737488355328) :
    ∃ v1 w1, (Builtin.append_ #[t, t] ty #[v, .slice (some ⟨W.heap.size, 0, none⟩) 1 1]).run P (W.alloc (.cells cs.toArray e)) = .ok v1 w1 ∧ AppP d e w1 R v1 (xs ++ [p]) ∧ Chg (fun b => v.ownBlock = some b) W w1 ∧ (v1.ownBlock = v.ownBlock ∨ ∃ b, v1.ownBlock = some b ∧ W.heap.size ≤ b) := by
  obtain ⟨F, inner, hown, hP, hF, hE⟩ := HO
  obtain ⟨i0, hi, hz0, hz1, hz2⟩ := info_of hinfo
  have hlen := d.len hp
  obtain ⟨v', w', hrun, h2, h3, _, h5⟩ := run_append_own_at (P := P) (W.alloc (.cells cs.toArray e)) 0 t ty e i0 z d.sz bytes ht hi hz0 hz1 hz2 hz hs0 v xs.length inner (hown.alloc _)
    ⟨W.heap.size, 0, none⟩ 1 1 cs (by rw [hlen]; omega) (fun j u hu => by
      have hadd : (⟨W.heap.size, 0, none⟩ : Addr).add j = ⟨W.heap.size, j, none⟩ := by unfold Addr.add; split <;> simp_all
      rw [hadd, cell_of_row _ _ _ _ _ _ (heap_alloc_new W (.cells cs.toArray e))]
      simpa using hu) h1 (by simp only [maxLen]; omega) (by exact hl) (by simp)
  have hsz : (W.alloc (.cells cs.toArray e)).heap.size = W.heap.size + 1 := by simp
  have hg : Chg (fun b => v.ownBlock = some b) W w' := ⟨h3.os, h3.tape, h3.output, by have := h3.size; rw [hsz] at this; omega, fun b hb hn => (h3.block b (by rw [hsz]; omega) (fun e => hn e.symm)).trans (Below.heap_alloc W _ b hb)⟩
  have ho : v'.ownBlock = v.ownBlock ∨ ∃ b, v'.ownBlock = some b ∧ W.heap.size ≤ b := by
    rcases h5 with h5 | h5
    · exact .inl h5
    · exact .inr ⟨_, h5, by rw [hsz]; omega⟩
  exact ⟨v', w', hrun, AppP.add hown hF hE hp hG (by simpa using h2) hg hP hnew ho, hg, ho⟩
theorem wpListIn_appP (d : Kind α) {e : TypeId} {W : World} {R : Nat → Prop} {v : Value} {xs : List α} (HO : AppP d e W R v xs) (hgd : o.guard = none) (s x : Operand) (t : TypeId) (z : Value) (bytes : Nat)
    (ho : o.op = .call { callee := .builtin .append, args := #[s, x], argTypes := #[t, t] })
    (ht : P.underlying t = some (.slice e)) (hinfo : (P.info? e).map (fun i => (i.zero, i.size, i.bytes)) = some (some z, d.sz, bytes)) (hz : z.cells.size = d.sz) (hs0 : 0 < d.sz)
    (p : α) (cs : List Value) (G : Nat → Prop) (hs : a.eval s = v) (hx : a.eval x = .slice (some ⟨W.heap.size, 0, none⟩) 1 1)
    (hp : d.K W G p cs) (hG : ∀ b, G b → R b ∧ b < W.heap.size ∧ v.ownBlock ≠ some b) (h1 : ∀ u ∈ cs, u.oneCell' = true)
    (hnew : ∀ b, W.heap.size ≤ b → R b) (h63 : xs.length + 1 ≤ 1099511627776) (hl : (xs.length + 1) * bytes ≤ 140737488355328)
    (h : ∀ v1 w1, AppP d e w1 R v1 (xs ++ [p]) → Chg (fun b => v.ownBlock = some b) W w1 → (v1.ownBlock = v.ownBlock ∨ ∃ b, v1.ownBlock = some b ∧ W.heap.size ≤ b) → wpListIn F nF P ops Q rest (a.put o.dst v1) w1) :
    wpListIn F nF P ops Q (o :: rest) a (W.alloc (.cells cs.toArray e)) := by
  obtain ⟨v1, w1, hrun, h2, h3, h4⟩ := run_appP1 (P := P) d HO t o.type z bytes ht hinfo hz hs0 p cs G hp hG h1 hnew h63 hl
  refine wpListIn_plain hgd fun K hK => ?_
  unfold Oper.wpIn
  refine ⟨by simp [Oper.about, ho, resolve, Target.leads, Sem.run_pure], ?_⟩
  rw [Oper.semAt_plain F _ _ (by rw [ho]; intro c hc'; cases hc')]
  simp [execOp, ho, resolve, invoke, builtin, hs, hx, hrun, Result.andThen]
  exact hK _ _ (h v1 w1 h2 h3 h4)
theorem wpListIn_appF (d : Kind α) {e : TypeId} {W : World} {R : Nat → Prop} {v : Value} {xs ys : List α} (HO : AppP d e W R v xs) (hgd : o.guard = none) (s x : Operand) (t : TypeId) (z : Value) (bytes : Nat)
    (ho : o.op = .call { callee := .builtin .append, args := #[s, x], argTypes := #[t, t] })
    (ht : P.underlying t = some (.slice e)) (hinfo : (P.info? e).map (fun i => (i.zero, i.size, i.bytes)) = some (some z, d.sz, bytes)) (hz : z.cells.size = d.sz)
    (hb : d.Bnd) (h1 : d.One) (hfl : d.Flat) {A : Option Addr} {c n : Nat} {G : Nat → Prop} (hs : a.eval s = v) (hx : a.eval x = .slice A n c) (hn : ys.length = n) (hy : d.Row W G A c ys)
    (hnew : ∀ b, W.heap.size ≤ b → R b) (h63 : xs.length + ys.length ≤ 1099511627776) (hl : (xs.length + ys.length) * bytes ≤ 140737488355328)
    (h : ∀ v1 w1, AppP d e w1 R v1 (xs ++ ys) → Chg (fun b => v.ownBlock = some b) W w1 → (v1.ownBlock = v.ownBlock ∨ ∃ b, v1.ownBlock = some b ∧ W.heap.size ≤ b) → wpListIn F nF P ops Q rest (a.put o.dst v1) w1) :
    wpListIn F nF P ops Q (o :: rest) a W := by
  subst hn
  obtain ⟨v1, w1, hrun, h2, h3, h4⟩ := run_appF (P := P) d HO t o.type z bytes ht hinfo hz hb h1 hfl hy hnew h63 hl
  refine wpListIn_plain hgd fun K hK => ?_
  unfold Oper.wpIn
  refine ⟨by simp [Oper.about, ho, resolve, Target.leads, Sem.run_pure], ?_⟩
  rw [Oper.semAt_plain F _ _ (by rw [ho]; intro c hc'; cases hc')]
  simp [execOp, ho, resolve, invoke, builtin, hs, hx, hrun, Result.andThen]
  exact hK _ _ (h v1 w1 h2 h3 h4)
end
end Go.Proofs.Ytfflhenldegmmaa
