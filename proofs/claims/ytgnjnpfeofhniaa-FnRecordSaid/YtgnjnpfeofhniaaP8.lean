/- slices.Chunk of ints; appending inside a round. impl.pack: the closure that tells what is plain. A map from three bytes to places: its entries and its rows. impl.pack: the closure that remembers places. impl.pack. -/
import Derived.Test.YtgnjnpfeofhniaaP3
import Derived.Test.YtgnjnpfeofhniaaGa
import Derived.Maps.Keyed
import Derived.Maps.Range
import Derived.DeepKeys4
import Derived.WideKeyEntry
namespace Go.Proofs.Ytgnjnpfeofhniaa
set_option linter.unusedVariables false
set_option linter.unusedSimpArgs false
section
open Go.RowKit Go.Shelf
attribute [local go_sem] Oper.semAt_some

/-- Two boxes are kept. -/
def Kpc (b1 b2 : Nat) (W W' : World) : Prop := ∀ (T : TypeId) (cs : Array Value), (W.heap[b1]? = some (.cells cs T (0, 0)) → W'.heap[b1]? = some (.cells cs T (0, 0))) ∧ (W.heap[b2]? = some (.cells cs T (0, 0)) → W'.heap[b2]? = some (.cells cs T (0, 0)))
theorem Kpc.refl (b1 b2 : Nat) (W : World) : Kpc b1 b2 W W := fun _ _ => ⟨fun h => h, fun h => h⟩
theorem Kpc.trans {b1 b2 : Nat} {A B C : World} (h : Kpc b1 b2 A B) (k : Kpc b1 b2 B C) : Kpc b1 b2 A C := fun T cs => ⟨fun hb => (k T cs).1 ((h T cs).1 hb), fun hb => (k T cs).2 ((h T cs).2 hb)⟩
theorem putObj_cells {W : World} {l b : Nat} {o o' : Obj} {cs : Array Value} {T : TypeId} (h : W.heap[l]? = some o) (hc : o.isCells = false) (hb : W.heap[b]? = some (.cells cs T (0, 0))) : (W.putObj l o').heap[b]? = some (.cells cs T (0, 0)) := by
  refine ((grownBy_putObj' W l o').block b (Array.getElem?_eq_some_iff.1 hb).1 (fun e => ?_)).trans hb
  injection e with e
  subst e
  rw [h] at hb
  injection hb with hb
  rw [hb] at hc
  simp [Obj.isCells] at hc
theorem Kpc.book {b1 b2 : Nat} (W : World) (l : Nat) (o o' : Obj) (h : W.heap[l]? = some o) (hc : o.isCells = false) : Kpc b1 b2 W (W.putObj l o') := fun _ _ => ⟨fun hb => putObj_cells h hc hb, fun hb => putObj_cells h hc hb⟩
theorem Kpc.below {b1 b2 : Nat} {W W' : World} (h : Below W.heap.size W W') : Kpc b1 b2 W W' := fun _ _ => ⟨fun hb => blk_below hb h, fun hb => blk_below hb h⟩
theorem Kpc.chg {b1 b2 : Nat} {G : Nat → Prop} {W W' : World} (h : Chg G W W') (h1 : ¬ G b1) (h2 : ¬ G b2) : Kpc b1 b2 W W' := fun _ _ => ⟨fun hb => h.blk hb h1, fun hb => h.blk hb h2⟩

/-- How many pieces; what a piece is. -/
def piecesN (m : Nat) : Nat := (m + 63) / 64
def pieceL (m j : Nat) : Nat := min 64 (m - 64 * j)
def encC (A : Option Addr) (m j : Nat) : Array Value := #[.slice (Option.map (fun x => x.add (64 * j)) A) (pieceL m j) (pieceL m j)]
theorem range_prefix {k n : Nat} (h : k ≤ n) : List.range k <+: List.range n := by
  obtain ⟨d, rfl⟩ : ∃ d, n = k + d := ⟨n - k, by omega⟩
  rw [List.range_add]
  exact List.prefix_append _ _

/-- Reslicing from l to h, the room cut at h. -/
theorem run_between3 {P : Program} {t e : TypeId} {z : Value} {s b : Nat} (ht : P.underlying t = some (.slice e)) (hinfo : (P.info? e).map (fun i => (i.zero, i.size, i.bytes)) = some (some z, s, b)) (A : Option Addr) (n cap l h : Nat) (L H : Int) (hL : L = (l : Int)) (hH : H = (h : Int)) (hlh : l ≤ h) (hh : h ≤ cap) (w : World) :
    (Instr.slice t (.slice A n cap) (some (.int .i64 L)) (some (.int .i64 H)) (some (.int .i64 H))).run P w = .ok (.slice (cutAddr A l h s) (h - l) (h - l)) w := by
  subst hL hH
  obtain ⟨i, hi, _, hs, _⟩ := info_of hinfo
  have he : P.elem t = e := by simp [Program.elem, ht]
  rw [run_slice_lhm (P := P) (w := w) t A n cap (by rw [he]; exact ht) .i64 .i64 .i64 (l : Int) (h : Int) (h : Int) (by omega) (by omega) (by omega) (by omega)]
  rw [he]
  simp [sizeOf, typeInfo, hi, hs, sliced, cutAddr, Result.andThen]

/-- The pieces. -/
def pieceAt (p : List Int) (j : Nat) : List Int := (((pieceL p.length j : Nat) : Int) - 1) :: (p.drop (64 * j)).take 64
def piecesAt (p : List Int) (js : List Nat) : List Int := js.flatMap (pieceAt p)
theorem piecesAt_snoc (p : List Int) (js : List Nat) (j : Nat) : piecesAt p (js ++ [j]) = piecesAt p js ++ pieceAt p j := by simp [piecesAt]
theorem pieces_all (f : Nat) (p : List Int) (hf : p.length ≤ f) : piecesAt p (List.range (piecesN p.length)) = plainB p := by
  induction f generalizing p with
  | zero =>
    have : p = [] := List.length_eq_zero_iff.1 (by omega)
    subst this
    rfl
  | succ f ih =>
    by_cases hp : p = []
    · subst hp; rfl
    · have hl : 0 < p.length := List.length_pos_iff.2 hp
      rw [plainB_step hp]
      have e : piecesN p.length = piecesN (p.drop 64).length + 1 := by unfold piecesN; rw [List.length_drop]; omega
      rw [e, List.range_succ_eq_map]
      unfold piecesAt
      rw [List.flatMap_cons, List.flatMap_map]
      have e2 : (List.range (piecesN (p.drop 64).length)).flatMap (fun a => pieceAt p (Nat.succ a)) = piecesAt (p.drop 64) (List.range (piecesN (p.drop 64).length)) := by
        unfold piecesAt
        congr 1
        funext a
        unfold pieceAt pieceL
        rw [List.length_drop, List.drop_drop, show 64 + 64 * a = 64 * Nat.succ a by omega, show p.length - 64 * Nat.succ a = p.length - 64 - 64 * a by omega]
      rw [e2, ih (p.drop 64) (by rw [List.length_drop]; omega)]
      unfold pieceAt pieceL
      simp

section
variable {P : Program} {ops : Array Oper} {rest : List Oper} {o : Oper} {a : Act} {Q : Exit → Act → World → Prop} {α : Type} {F : Fence} {nF : Nat}
theorem run_appP1 (d : Kind α) {e : TypeId} {W : World} {R : Nat → Prop} {v : Value} {xs : List α} (HO : AppP d e W R v xs) (t ty : TypeId) (z : Value) (bytes : Nat)
    (ht : P.underlying t = some (.slice e)) (hinfo : (P.info? e).map (fun i => (i.zero, i.size, i.bytes)) = some (some z, d.sz, bytes)) (hz : z.cells.size = d.sz) (hs0 : 0 < d.sz)
    (p : α) (cs : List Value) (G : Nat → Prop)
    (hp : d.K W G p cs) (hG : ∀ b, G b → R b ∧ b < W.heap.size ∧ v.ownBlock ≠ some b) (h1 : ∀ u ∈ cs, u.oneCell' = true)
    (hnew : ∀ b, W.heap.size ≤ b → R b) (h63 : xs.length + 1 ≤ 1099511627776) (hl : (xs.length + 1) * bytes ≤ 140737488355328) :
    ∃ v1 w1, (Builtin.append_ #[t, t] ty #[v, .slice (some ⟨W.heap.size, 0, none⟩) 1 1]).run P (W.alloc (.cells cs.toArray e)) = .ok v1 w1 ∧ AppP d e w1 R v1 (xs ++ [p]) ∧ Chg (fun b => v.ownBlock = some b) W w1 ∧ (v1.ownBlock = v.ownBlock ∨ ∃ b, v1.ownBlock = some b ∧ W.heap.size ≤ b) := by
  obtain ⟨F, inner, hown, hP, hF, hE⟩ := HO
  obtain ⟨i0, hi, hz0, hz1, hz2⟩ := info_of hinfo
  have hlen := d.len hp
  obtain ⟨v', w', hrun, h2, h3, _, h5⟩ := run_append_own_at (P := P) (W.alloc (.cells cs.toArray e)) 0 t ty e i0 z d.sz bytes ht hi hz0 hz1 hz2 hz hs0 v xs.length inner (hown.alloc _)
    ⟨W.heap.size, 0, none⟩ 1 1 cs (by rw [hlen]; omega) (fun j u hu => by
      have hadd : (⟨W.heap.size, 0, none⟩ : Addr).add j = ⟨W.heap.size, j, none⟩ := by unfold Addr.add; split <;> simp_all
      rw [hadd, cell_of_row _ _ _ _ _ _ (heap_alloc_new W (.cells cs.toArray e))]
      simpa using hu) h1 (by simp only [maxLen]; omega) (by exact hl) (by simp)
  have hsz : (W.alloc (.cells cs.toArray e)).heap.size = W.heap.size + 1 := by simp
  have hg : Chg (fun b => v.ownBlock = some b) W w' := ⟨h3.os, h3.tape, h3.output, by have := h3.size; rw [hsz] at this; omega, fun b hb hn => (h3.block b (by rw [hsz]; omega) (fun e => hn e.symm)).trans (Below.heap_alloc W _ b hb)⟩
  have ho : v'.ownBlock = v.ownBlock ∨ ∃ b, v'.ownBlock = some b ∧ W.heap.size ≤ b := by
    rcases h5 with h5 | h5
    · exact .inl h5
    · exact .inr ⟨_, h5, by rw [hsz]; omega⟩
  exact ⟨v', w', hrun, AppP.add hown hF hE hp hG (by simpa using h2) hg hP hnew ho, hg, ho⟩
theorem wpListIn_appP (d : Kind α) {e : TypeId} {W : World} {R : Nat → Prop} {v : Value} {xs : List α} (HO : AppP d e W R v xs) (hgd : o.guard = none) (s x : Operand) (t : TypeId) (z : Value) (bytes : Nat)
    (ho : o.op = .call { callee := .builtin .append, args := #[s, x], argTypes := #[t, t] })
    (ht : P.underlying t = some (.slice e)) (hinfo : (P.info? e).map (fun i => (i.zero, i.size, i.bytes)) = some (some z, d.sz, bytes)) (hz : z.cells.size = d.sz) (hs0 : 0 < d.sz)
    (p : α) (cs : List Value) (G : Nat → Prop) (hs : a.eval s = v) (hx : a.eval x = .slice (some ⟨W.heap.size, 0, none⟩) 1 1)
    (hp : d.K W G p cs) (hG : ∀ b, G b → R b ∧ b < W.heap.size ∧ v.ownBlock ≠ some b) (h1 : ∀ u ∈ cs, u.oneCell' = true)
    (hnew : ∀ b, W.heap.size ≤ b → R b) (h63 : xs.length + 1 ≤ 1099511627776) (hl : (xs.length + 1) * bytes ≤ 140737488355328)
    (h : ∀ v1 w1, AppP d e w1 R v1 (xs ++ [p]) → Chg (fun b => v.ownBlock = some b) W w1 → (v1.ownBlock = v.ownBlock ∨ ∃ b, v1.ownBlock = some b ∧ W.heap.size ≤ b) → wpListIn F nF P ops Q rest (a.put o.dst v1) w1) :
    wpListIn F nF P ops Q (o :: rest) a (W.alloc (.cells cs.toArray e)) := by
  obtain ⟨v1, w1, hrun, h2, h3, h4⟩ := run_appP1 (P := P) d HO t o.type z bytes ht hinfo hz hs0 p cs G hp hG h1 hnew h63 hl
  refine wpListIn_plain hgd fun K hK => ?_
  unfold Oper.wpIn
  refine ⟨by simp [Oper.about, ho, resolve, Target.leads, Sem.run_pure], ?_⟩
  rw [Oper.semAt_plain F _ _ (by rw [ho]; intro c hc'; cases hc')]
  simp [execOp, ho, resolve, invoke, builtin, hs, hx, hrun, Result.andThen]
  exact hK _ _ (h v1 w1 h2 h3 h4)
theorem wpListIn_appF (d : Kind α) {e : TypeId} {W : World} {R : Nat → Prop} {v : Value} {xs ys : List α} (HO : AppP d e W R v xs) (hgd : o.guard = none) (s x : Operand) (t : TypeId) (z : Value) (bytes : Nat)
    (ho : o.op = .call { callee := .builtin .append, args := #[s, x], argTypes := #[t, t] })
    (ht : P.underlying t = some (.slice e)) (hinfo : (P.info? e).map (fun i => (i.zero, i.size, i.bytes)) = some (some z, d.sz, bytes)) (hz : z.cells.size = d.sz)
    (hb : d.Bnd) (h1 : d.One) (hfl : d.Flat) {A : Option Addr} {c n : Nat} {G : Nat → Prop} (hs : a.eval s = v) (hx : a.eval x = .slice A n c) (hn : ys.length = n) (hy : d.Row W G A c ys)
    (hnew : ∀ b, W.heap.size ≤ b → R b) (h63 : xs.length + ys.length ≤ 1099511627776) (hl : (xs.length + ys.length) * bytes ≤ 140737488355328)
    (h : ∀ v1 w1, AppP d e w1 R v1 (xs ++ ys) → Chg (fun b => v.ownBlock = some b) W w1 → (v1.ownBlock = v.ownBlock ∨ ∃ b, v1.ownBlock = some b ∧ W.heap.size ≤ b) → wpListIn F nF P ops Q rest (a.put o.dst v1) w1) :
    wpListIn F nF P ops Q (o :: rest) a W := by
  subst hn
  obtain ⟨v1, w1, hrun, h2, h3, h4⟩ := run_appF (P := P) d HO t o.type z bytes ht hinfo hz hb h1 hfl hy hnew h63 hl
  refine wpListIn_plain hgd fun K hK => ?_
  unfold Oper.wpIn
  refine ⟨by simp [Oper.about, ho, resolve, Target.leads, Sem.run_pure], ?_⟩
  rw [Oper.semAt_plain F _ _ (by rw [ho]; intro c hc'; cases hc')]
  simp [execOp, ho, resolve, invoke, builtin, hs, hx, hrun, Result.andThen]
  exact hK _ _ (h v1 w1 h2 h3 h4)
end
end

section
open Go.RowKit Go.Shelf
attribute [local go_sem] Oper.semAt_some

def HoldI (W : World) (b : Nat) (v : Value) : Prop := W.heap[b]? = some (.cells #[v] 23 (0, 0))
theorem HoldI.one {W : World} {b : Nat} {v : Value} (h : HoldI W b v) : W.cell? ⟨b, 0, none⟩ = some v ∧ ∀ i, W.frozen? ⟨b, i, none⟩ = false := oneR h
theorem HoldI.chg {G : Nat → Prop} {W W' : World} {b : Nat} {v : Value} (h : HoldI W b v) (hc : Chg G W W') (hn : ¬ G b) : HoldI W' b v := hc.blk h hn
theorem HoldI.lt {W : World} {b : Nat} {v : Value} (h : HoldI W b v) : b < W.heap.size := (Array.getElem?_eq_some_iff.1 h).1
theorem HoldI.set {W : World} {b : Nat} {v : Value} (h : HoldI W b v) (u : Value) : HoldI (W.setCell ⟨b, 0, none⟩ u) b u := by
  have := blk_put h 0 u
  simpa [HoldI] using this
theorem Kind.Row.recap {α : Type} {d : Kind α} {w : World} {F : Nat → Prop} {A : Option Addr} {c c' : Nat} {xs : List α} (h : d.Row w F A c xs) (h1 : xs.length ≤ c') (h2 : c' ≤ 9223372036854775807) : d.Row w F A c' xs := ⟨h1, h2, h.2.2⟩
theorem piece_row {w : World} {F : Nat → Prop} {A : Option Addr} {c : Nat} {p : List Int} (h : Ints w F A c p) (j : Nat) : Ints w F (Option.map (fun x => x.add (64 * j)) A) (pieceL p.length j) ((p.drop (64 * j)).take 64) := by
  by_cases hlt : 64 * j < p.length
  · have h1 := (h.cut (64 * j) (by omega)).take 64
    have hc : cutAddr A (64 * j) c 1 = Option.map (fun x => x.add (64 * j)) A := by
      have := h.1
      unfold cutAddr
      rw [if_neg (by omega), Nat.mul_one]
    have h1' : Ints w F (cutAddr A (64 * j) c 1) (c - 64 * j) ((p.drop (64 * j)).take 64) := h1
    rw [hc] at h1'
    refine h1'.recap (by unfold pieceL; rw [List.length_take, List.length_drop]; omega) (by unfold pieceL; omega)
  · have e : (p.drop (64 * j)).take 64 = [] := by rw [List.drop_eq_nil_of_le (by omega)]; rfl
    rw [e]
    exact Kind.Row.nil _ _ (by unfold pieceL; omega)
theorem piece_len (p : List Int) (j : Nat) : ((p.drop (64 * j)).take 64).length = pieceL p.length j := by unfold pieceL; rw [List.length_take, List.length_drop]
theorem piecesAt_len (p : List Int) (js : List Nat) : (piecesAt p js).length ≤ 65 * js.length := by
  induction js with
  | nil => simp [piecesAt]
  | cons j t ih =>
    have : piecesAt p (j :: t) = pieceAt p j ++ piecesAt p t := by simp [piecesAt]
    rw [this, List.length_append, List.length_cons]
    unfold pieceAt
    rw [List.length_cons, List.length_take]
    omega
/-- Nothing of it left, the room kept. -/
theorem AppP.zero {α : Type} {d : Kind α} {e : TypeId} {w : World} {P : Nat → Prop} {A : Option Addr} {n c : Nat} {xs : List α} (h : AppP d e w P (.slice A n c) xs) : AppP d e w P (.slice A 0 c) [] := by
  obtain ⟨F, inner, ⟨h1, h2⟩, hP, _, _⟩ := h
  refine ⟨fun _ => False, [], ⟨by simp, ?_⟩, fun k hk => hP k (by cases A <;> exact hk), fun b hb => hb.elim, fun j x hj => by simp at hj⟩
  rcases h2 with ⟨e1, _⟩ | ⟨g, cap, cur, e1, hg, hh, hn, hc, hs, _⟩
  · injection e1 with e1 e2 e3
    subst e1 e3
    exact .inl ⟨rfl, rfl⟩
  · injection e1 with e1 e2 e3
    subst e1 e3
    exact .inr ⟨g, c, cur, rfl, hg, hh, Nat.zero_le _, hc, hs, by simp⟩
theorem AppP.row_of {α : Type} {d : Kind α} {e : TypeId} {w : World} {P : Nat → Prop} {A : Option Addr} {n c : Nat} {xs : List α} (h : AppP d e w P (.slice A n c) xs) : n = xs.length ∧ n ≤ c ∧ c ≤ 9223372036854775807 ∧ d.Row w P A c xs := by
  obtain ⟨A', c', e1, hr⟩ := AppP.row h
  injection e1 with e1 e2 e3
  subst e1 e2 e3
  exact ⟨rfl, hr.1, hr.2.1, hr⟩

theorem AppP.tight {α : Type} {d : Kind α} (hfl : d.Flat) {e : TypeId} {w : World} {P : Nat → Prop} {v : Value} {xs : List α} (h : AppP d e w P v xs) : AppP d e w (fun b => v.ownBlock = some b) v xs := by
  obtain ⟨F, inner, h1, h2, h3, h4⟩ := h
  exact ⟨fun _ => False, inner, h1, fun k hk => hk, fun b hb => hb.elim, fun j x hj => by obtain ⟨cs, hc, hi⟩ := h4 j x hj; exact ⟨cs, hfl _ _ _ _ _ hc, hi⟩⟩

/-- What holds while the pieces are told. -/
def FlI (xs ps : List Int) (bo : Nat) (vo : Value) (Po : Nat → Prop) (w3 : World) (pre : List Nat) (W : World) : Prop :=
  ∃ v, HoldI W bo v ∧ AppP (Kind.int .i64) 3 W Po v (xs ++ piecesAt ps pre) ∧ (v.ownBlock = vo.ownBlock ∨ ∃ b, v.ownBlock = some b ∧ w3.heap.size ≤ b) ∧ Hid (Chg (fun b => b = bo ∨ vo.ownBlock = some b) w3 W)
theorem chg_grown {G : Nat → Prop} {w X Y : World} {row : Option Nat} (h : Chg G w X) (hg : X.grownBy Y row) (hr : ∀ r, row = some r → w.heap.size ≤ r) : Chg G w Y :=
  h.then (G := fun b => row = some b) ⟨hg.os, hg.tape, hg.output, hg.size, fun b hb hn => hg.block b hb (fun e => hn e.symm)⟩ (fun i hi hG => by have := hr i hG; omega)
theorem FlI.own (xs ps : List Int) (bo : Nat) (vo : Value) (Po : Nat → Prop) (w3 : World) : OwnFrom w3.heap.size (FlI xs ps bo vo Po w3) := by
  rintro s X Y row ⟨v, h1, h2, h3, h4⟩ hg hr
  refine ⟨v, (grownBy_keeps_cells hg (fun r e => (hr r e).2) h1 rfl).trans h1, AppP.keepOwn (flat_int _) h2 (fun k hk => ?_), h3, Lib.hid (chg_grown h4.out hg (fun r e => (hr r e).1))⟩
  obtain ⟨cs, hcs⟩ := AppP.cells h2 hk
  exact grownBy_keeps_cells hg (fun r e => (hr r e).2) hcs rfl

/-- What holds behind it. -/
def FlF (bp bo : Nat) (v v' : Value) (ys : List Int) (Po Pp G : Nat → Prop) (w : World) (_ : Unit) (W : World) : Prop :=
  HoldI W bo v ∧ HoldI W bp v' ∧ AppP (Kind.int .i64) 3 W Po v ys ∧ AppP (Kind.int .i64) 3 W Pp v' [] ∧ Hid (Chg G w W)
theorem appP_own {P : Nat → Prop} {v : Value} {xs : List Int} {X Y : World} {row : Option Nat} (h : AppP (Kind.int .i64) 3 X P v xs) (hg : X.grownBy Y row) (hr : ∀ r, row = some r → ∃ o : Obj, X.heap[r]? = some o ∧ o.isCells = false) : AppP (Kind.int .i64) 3 Y P v xs :=
  AppP.keepOwn (flat_int _) h (fun k hk => by
    obtain ⟨cs, hcs⟩ := AppP.cells h hk
    exact grownBy_keeps_cells hg hr hcs rfl)
theorem FlF.own (bp bo : Nat) (v v' : Value) (ys : List Int) (Po Pp G : Nat → Prop) (w : World) : OwnFrom w.heap.size (FlF bp bo v v' ys Po Pp G w) := by
  rintro s X Y row ⟨h1, h2, h3, h4, h5⟩ hg hr
  exact ⟨(grownBy_keeps_cells hg (fun r e => (hr r e).2) h1 rfl).trans h1, (grownBy_keeps_cells hg (fun r e => (hr r e).2) h2 rfl).trans h2, appP_own h3 hg (fun r e => (hr r e).2), appP_own h4 hg (fun r e => (hr r e).2), Lib.hid (chg_grown h5.out hg (fun r e => (hr r e).1))⟩

end

section
open Go.RowKit Go.Shelf Go.WideElems Go.Maps
open Go.ChangeMaps (setBlock heap_setBlock_same)

theorem tripleLaid : laidOutB Try.prog = true := by kernel_rfl
theorem intCells : Try.prog.cellsOf 3 = 1 := by kernel_rfl
def keyV (k : Int × Int × Int) : Value := .agg #[.int .i64 k.1, .int .i64 k.2.1, .int .i64 k.2.2]
theorem keyV_inj {k k' : Int × Int × Int} (h : keyV k = keyV k') : k = k' := by
  unfold keyV at h
  simp at h
  exact Prod.ext h.1 (Prod.ext h.2.1 h.2.2)
def byteK (k : Int × Int × Int) : Prop := (0 ≤ k.1 ∧ k.1 ≤ 255) ∧ (0 ≤ k.2.1 ∧ k.2.1 ≤ 255) ∧ (0 ≤ k.2.2 ∧ k.2.2 ≤ 255)
theorem byte_wf {x : Int} (h : 0 ≤ x ∧ x ≤ 255) : (Lit.int .i64 x).wf = true := WalkArith.wf_i64 (by omega)
abbrev R0 : Value → Option (DataW Unit × List MemPlace) := fun _ => some (.nil, [])
section
variable {P : Program} {w : World} {t k e : TypeId} {b : Nat} {es es' : Array MapEntry} {clock clock' : Nat}
/-- Who stands in a map behind a store. -/
theorem store_who (K : WideMaps.KeyLaw P k) (ht : P.underlying t = some (.map k e)) (hb : w.heap[b]? = some (.map es clock)) (F : Fit P k R0 es clock) (hroom : es.size < maxLen) {key val : Value} {kl : Lit} (hkey : keyOf P k key = some kl)
    (hrun : (Instr.mapUpdate t (.map (some b)) key val).run P w = .ok () (setBlock w b (.map es' clock'))) :
    Fit P k R0 es' clock' ∧ es'.size ≤ es.size + 1 ∧ (∀ x' ∈ es'.toList, (x' ∈ es.toList ∧ x'.key ≠ key) ∨ (x'.key = key ∧ x'.val = val)) ∧ (∀ x ∈ es.toList, x.key ≠ key → x ∈ es'.toList) ∧ ∃ x' ∈ es'.toList, x'.key = key := by
  obtain ⟨es2, clock2, hrun2, F2, _, _, _, hwho⟩ := Maps.fit_store (R' := R0) (val := val) (Keyed.of_law K) ht hb F hroom (fun _ _ _ _ h => h) hkey rfl
  have same : ∀ {o o' : Obj}, setBlock w b o = setBlock w b o' → o = o' := fun {o o'} h => by
    have h1 := heap_setBlock_same hb o
    rw [h, heap_setBlock_same hb o'] at h1
    injection h1 with h1
    exact h1.symm
  rw [hrun] at hrun2
  obtain ⟨rfl, rfl⟩ : es' = es2 ∧ clock' = clock2 := by
    have := same (by simpa using hrun2 : setBlock w b (.map es' clock') = setBlock w b (.map es2 clock2))
    simpa using this
  refine ⟨F2, ?_⟩
  rcases K.find w hkey es.toList F.keys with ⟨h1, h2⟩ | ⟨j, e0, h1, h2, h3⟩
  · have hr3 : (Instr.mapUpdate t (.map (some b)) key val).run P w = .ok () (setBlock w b (.map (es.push ⟨key, val, clock⟩) (clock + 1))) := by
      simp [Instr.mapUpdate, run_underlying ht, MapKept.run_getObj_map hb, K.check w false hkey, h1, MapKept.run_setObj_map _ hb, Result.andThen, setBlock]
    rw [hrun] at hr3
    obtain ⟨rfl, _⟩ : es' = es.push ⟨key, val, clock⟩ ∧ clock' = clock + 1 := by
      have := same (by simpa using hr3 : setBlock w b (.map es' clock') = setBlock w b (.map (es.push ⟨key, val, clock⟩) (clock + 1)))
      simpa using this
    exact ⟨by simp, hwho, fun x hx _ => by simp [Array.toList_push, hx], ⟨_, by simp [Array.toList_push]; exact .inr rfl, rfl⟩⟩
  · have hr3 : (Instr.mapUpdate t (.map (some b)) key val).run P w = .ok () (setBlock w b (.map (es.modify j (fun e' => { e' with key := key, val := val })) clock)) := by
      have hj : es[j]? = some e0 := by simpa using h2
      simp [Instr.mapUpdate, run_underlying ht, MapKept.run_getObj_map hb, K.check w false hkey, h1, hj, h3, K.stays w hkey, MapKept.run_setObj_map _ hb, Result.andThen, setBlock]
    rw [hrun] at hr3
    obtain ⟨rfl, _⟩ : es' = es.modify j (fun e' => { e' with key := key, val := val }) ∧ clock' = clock := by
      have := same (by simpa using hr3 : setBlock w b (.map es' clock') = setBlock w b (.map (es.modify j (fun e' => { e' with key := key, val := val })) clock))
      simpa using this
    refine ⟨by simp, hwho, fun x hx hne => ?_, ⟨{ e0 with key := key, val := val }, ?_, rfl⟩⟩
    · obtain ⟨i, hi⟩ := List.mem_iff_getElem?.1 hx
      refine List.mem_iff_getElem?.2 ⟨i, ?_⟩
      rw [Array.toList_modify, List.getElem?_modify]
      by_cases hij : j = i
      · subst hij
        rw [h2] at hi
        injection hi with hi
        subst hi
        exact absurd h3 hne
      · simp [hij, hi]
    · refine List.mem_iff_getElem?.2 ⟨j, ?_⟩
      rw [Array.toList_modify, List.getElem?_modify]
      simp [h2]
end

theorem zeroRow (w : World) : (zeroValue 23).run Try.prog w = .ok (.slice none 0 0) w := by kernel_rfl
theorem blk_setBlock {W : World} {b g : Nat} {es : Array MapEntry} {clock : Nat} (hb : W.heap[b]? = some (.map es clock)) (o : Obj) (hne : g ≠ b) : (setBlock W b o).heap[g]? = W.heap[g]? := ChangeMaps.heap_setBlock_other hb o hne
theorem chg_setBlock {G : Nat → Prop} {W : World} {b : Nat} {es : Array MapEntry} {clock : Nat} (hb : W.heap[b]? = some (.map es clock)) (o : Obj) (hG : G b) : Chg G W (setBlock W b o) :=
  ⟨rfl, rfl, rfl, by simp [setBlock], fun g _ hn => blk_setBlock hb o (fun e => hn (e ▸ hG))⟩
theorem natInts_snoc (ps : List Nat) (i : Nat) : natInts (ps ++ [i]) = natInts ps ++ [(i : Int)] := by simp [natInts]
end

section
open Go.RowKit Go.Shelf Go.WideElems Go.Maps
open Go.ChangeMaps (setBlock heap_setBlock_same)

theorem bytes_key {l : List Int} (hb : bytesB l = true) {i : Nat} (hi : i + 3 ≤ l.length) : byteK (key3 l i) := by
  have h : ∀ j, j < l.length → 0 ≤ l.getD j 0 ∧ l.getD j 0 ≤ 255 := fun j hj => by
    have := List.all_eq_true.1 (show l.all byteB = true from hb) l[j] (List.getElem_mem hj)
    rw [getD_at hj]
    simpa [byteB] using this
  exact ⟨h _ (by omega), h _ (by omega), h _ (by omega)⟩
end

section
open Go.RowKit Go.Shelf

/-- The blocks of packing: the bytes' variable, out's, plain's, the map, its variable. -/
structure Bxs where
  n0 : Nat
  bb : Nat
  bo : Nat
  bp : Nat
  b : Nat
  bs : Nat
def Bxs.Ok (x : Bxs) : Prop := (x.n0 ≤ x.bb ∧ x.n0 ≤ x.bo ∧ x.n0 ≤ x.bp ∧ x.n0 ≤ x.b ∧ x.n0 ≤ x.bs) ∧ x.bb ≠ x.bo ∧ x.bb ≠ x.bp ∧ x.bb ≠ x.b ∧ x.bb ≠ x.bs ∧ x.bo ≠ x.bp ∧ x.bo ≠ x.b ∧ x.bo ≠ x.bs ∧ x.bp ≠ x.b ∧ x.bp ≠ x.bs ∧ x.b ≠ x.bs
def Bxs.Far (x : Bxs) (k : Nat) : Prop := x.n0 ≤ k ∧ k ≠ x.bb ∧ k ≠ x.bo ∧ k ≠ x.bp ∧ k ≠ x.b ∧ k ≠ x.bs
def Bxs.OutP (x : Bxs) (vp : Value) (k : Nat) : Prop := x.Far k ∧ vp.ownBlock ≠ some k
def Bxs.SeenP (x : Bxs) (vo vp : Value) (k : Nat) : Prop := x.Far k ∧ vo.ownBlock ≠ some k ∧ vp.ownBlock ≠ some k
section
variable {x : Bxs} {l : List Int} {A : Option Addr} {c i : Nat} {xs ps : List Int} {vo vp : Value} {w W W' : World}
end
end
end Go.Proofs.Ytgnjnpfeofhniaa
