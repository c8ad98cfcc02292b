/- Reading predicates for rows in memory (kinds), and what keeps them. No program in sight. The plain meaning: records, batches, segments. No program in sight. Rows of a call's own memory: no two parts share a block. No program in sight. -/
import Derived.WalkKit
import Derived.KernelRfl
import Derived.RowKit
import Derived.RowKit3
import Derived.Below
import Derived.Deep.Draws
import Derived.Laws.AppendOwn
import Derived.Laws.OwnMore
import Derived.Laws.Slices
import Derived.Laws.IdiomCopy
namespace Go.Proofs.YtgnjnpfeofhniaaDoor
set_option linter.unusedVariables false
set_option linter.unusedSimpArgs false
section
open Go.RowKit

/-- w' has w's blocks of F. -/
def Same (F : Nat → Prop) (w w' : World) : Prop := ∀ b, F b → b < w.heap.size → w'.heap[b]? = w.heap[b]?

theorem cell_lt {w : World} {a : Addr} {v : Value} (h : w.cell? a = some v) : a.block < w.heap.size := World.block_lt_of_cell? w a h
theorem Same.cell {F : Nat → Prop} {w w' : World} (h : Same F w w') {a : Addr} {v : Value} (hF : F a.block) (hc : w.cell? a = some v) : w'.cell? a = some v :=
  (World.cell?_of_block (h _ hF (cell_lt hc))).trans hc
theorem Same.of_below {F : Nat → Prop} {w w' : World} (h : Below w.heap.size w w') : Same F w w' := fun b _ hb => h.block b hb
theorem add_block (a : Addr) (n : Nat) : (a.add n).block = a.block := by unfold Addr.add; split <;> rfl
theorem add_add (a : Addr) (i j : Nat) : (a.add i).add j = a.add (i + j) := by
  unfold Addr.add
  by_cases hi : i = 0 <;> by_cases hj : j = 0 <;> simp [hi, hj, Nat.add_assoc]
theorem add_succ (ad : Addr) (m j : Nat) : ad.add (m + (j + 1)) = ⟨(ad.add m).block, (ad.add m).off + (j + 1), none⟩ := by
  rw [← add_add]; simp [Addr.add]

structure Kind (α : Type) where
  sz : Nat
  K : World → (Nat → Prop) → α → List Value → Prop
  len : ∀ {w F x cs}, K w F x cs → cs.length = sz
  keep : ∀ {w w' F x cs}, Same F w w' → K w F x cs → K w' F x cs
  mono : ∀ {w F F' x cs}, (∀ b, F b → F' b) → K w F x cs → K w F' x cs

namespace Kind
variable {α : Type}
/-- The elements of a row at A. -/
def Row (d : Kind α) (w : World) (F : Nat → Prop) (A : Option Addr) (c : Nat) (xs : List α) : Prop :=
  xs.length ≤ c ∧ c ≤ 9223372036854775807 ∧ (xs ≠ [] → ∃ ad, A = some ad ∧ F ad.block ∧ ∀ (j : Nat) x, xs[j]? = some x → ∃ cs, d.K w F x cs ∧ ∀ i v, cs[i]? = some v → w.cell? (ad.add (j * d.sz + i)) = some v)
variable {d : Kind α} {w w' : World} {F F' : Nat → Prop} {A : Option Addr} {c : Nat} {xs : List α}
theorem Row.keep (h : d.Row w F A c xs) (hs : Same F w w') : d.Row w' F A c xs := by
  refine ⟨h.1, h.2.1, fun hx => ?_⟩
  obtain ⟨ad, e, hF, hc⟩ := h.2.2 hx
  refine ⟨ad, e, hF, fun j x hj => ?_⟩
  obtain ⟨cs, hK, hcell⟩ := hc j x hj
  exact ⟨cs, d.keep hs hK, fun i v hv => hs.cell (by rw [add_block]; exact hF) (hcell i v hv)⟩
theorem Row.mono (h : d.Row w F A c xs) (hF : ∀ b, F b → F' b) : d.Row w F' A c xs := by
  refine ⟨h.1, h.2.1, fun hx => ?_⟩
  obtain ⟨ad, e, h1, hc⟩ := h.2.2 hx
  refine ⟨ad, e, hF _ h1, fun j x hj => ?_⟩
  obtain ⟨cs, hK, hcell⟩ := hc j x hj
  exact ⟨cs, d.mono hF hK, hcell⟩
theorem Row.below (h : d.Row w F A c xs) (hb : Below w.heap.size w w') : d.Row w' F A c xs := h.keep (Same.of_below hb)
theorem Row.nil (A : Option Addr) (c : Nat) (hc : c ≤ 9223372036854775807) : d.Row w F A c [] := ⟨Nat.zero_le _, hc, fun h => absurd rfl h⟩
theorem Row.get (h : d.Row w F A c xs) {j : Nat} (hj : j < xs.length) :
    ∃ ad cs, A = some ad ∧ F ad.block ∧ d.K w F xs[j] cs ∧ ∀ i v, cs[i]? = some v → w.cell? (ad.add (j * d.sz + i)) = some v := by
  obtain ⟨ad, e, hF, hc⟩ := h.2.2 (by rintro rfl; simp at hj)
  obtain ⟨cs, hK, hcell⟩ := hc j _ (List.getElem?_eq_getElem hj)
  exact ⟨ad, cs, e, hF, hK, hcell⟩

def int (k : IntKind) : Kind Int where
  sz := 1
  K := fun _ _ x cs => cs = [.int k x]
  len := by rintro _ _ _ _ rfl; rfl
  keep := fun _ h => h
  mono := fun _ h => h
/-- A byte. -/
def byte : Kind Int where
  sz := 1
  K := fun _ _ x cs => cs = [.int .u8 x] ∧ 0 ≤ x ∧ x ≤ 255
  len := by rintro _ _ _ _ ⟨rfl, _⟩; rfl
  keep := fun _ h => h
  mono := fun _ h => h
def bool : Kind Bool where
  sz := 1
  K := fun _ _ x cs => cs = [.bool x]
  len := by rintro _ _ _ _ rfl; rfl
  keep := fun _ h => h
  mono := fun _ h => h
def slice (d : Kind α) : Kind (List α) where
  sz := 1
  K := fun w F xs cs => ∃ A c, cs = [.slice A xs.length c] ∧ d.Row w F A c xs
  len := by rintro _ _ _ _ ⟨A, c, rfl, _⟩; rfl
  keep := by rintro _ _ _ _ _ hs ⟨A, c, rfl, h⟩; exact ⟨A, c, rfl, h.keep hs⟩
  mono := by rintro _ _ _ _ _ hF ⟨A, c, rfl, h⟩; exact ⟨A, c, rfl, h.mono hF⟩
end Kind

abbrev Ints (w : World) (F : Nat → Prop) (A : Option Addr) (c : Nat) (xs : List Int) : Prop := (Kind.int .i64).Row w F A c xs

theorem Kind.Row.int_at {k : IntKind} {w : World} {F : Nat → Prop} {A : Option Addr} {c : Nat} {xs : List Int} (h : (Kind.int k).Row w F A c xs) {j : Nat} (hj : j < xs.length) :
    ∃ ad, A = some ad ∧ F ad.block ∧ w.cell? (ad.add j) = some (.int k xs[j]) := by
  obtain ⟨ad, cs, e, hF, hK, hc⟩ := h.get hj
  have hK' : cs = [.int k xs[j]] := hK
  subst hK'
  have := hc 0 _ rfl
  exact ⟨ad, e, hF, by simpa [Kind.int] using this⟩

theorem Kind.Row.byte_at {w : World} {F : Nat → Prop} {A : Option Addr} {c : Nat} {xs : List Int} (h : Kind.byte.Row w F A c xs) {j : Nat} (hj : j < xs.length) :
    ∃ ad, A = some ad ∧ F ad.block ∧ w.cell? (ad.add j) = some (.int .u8 xs[j]) ∧ 0 ≤ xs[j] ∧ xs[j] ≤ 255 := by
  obtain ⟨ad, cs, e, hF, ⟨hK, h0, h1⟩, hc⟩ := h.get hj
  have hK' : cs = [.int .u8 xs[j]] := hK
  subst hK'
  have := hc 0 _ rfl
  exact ⟨ad, e, hF, by simpa [Kind.byte] using this, h0, h1⟩

/-! records, batches, entries -/
structure Rec where
  off : Int
  time : Int
  hk : Bool
  key : List Int
  hv : Bool
  val : List Int
  deriving DecidableEq
structure Bat where
  packed : Bool
  mark : Bool
  prod : Int
  epoch : Int
  seq : Int
  recs : List Rec
  deriving DecidableEq
structure Ent where
  off : Int
  place : Int
  deriving DecidableEq

def Kind.rec_ : Kind Rec where
  sz := 6
  K := fun w F r cs => ∃ A c A' c', cs = [.int .i64 r.off, .int .i64 r.time, .bool r.hk, .slice A r.key.length c, .bool r.hv, .slice A' r.val.length c'] ∧ Ints w F A c r.key ∧ Ints w F A' c' r.val
  len := by rintro _ _ _ _ ⟨A, c, A', c', rfl, _⟩; rfl
  keep := by rintro _ _ _ _ _ hs ⟨A, c, A', c', rfl, h, h'⟩; exact ⟨A, c, A', c', rfl, h.keep hs, h'.keep hs⟩
  mono := by rintro _ _ _ _ _ hF ⟨A, c, A', c', rfl, h, h'⟩; exact ⟨A, c, A', c', rfl, h.mono hF, h'.mono hF⟩
abbrev Recs (w : World) (F : Nat → Prop) (A : Option Addr) (c : Nat) (xs : List Rec) : Prop := Kind.rec_.Row w F A c xs
def Kind.bat : Kind Bat where
  sz := 6
  K := fun w F b cs => ∃ A c, cs = [.bool b.packed, .bool b.mark, .int .i64 b.prod, .int .i64 b.epoch, .int .i64 b.seq, .slice A b.recs.length c] ∧ Recs w F A c b.recs
  len := by rintro _ _ _ _ ⟨A, c, rfl, _⟩; rfl
  keep := by rintro _ _ _ _ _ hs ⟨A, c, rfl, h⟩; exact ⟨A, c, rfl, h.keep hs⟩
  mono := by rintro _ _ _ _ _ hF ⟨A, c, rfl, h⟩; exact ⟨A, c, rfl, h.mono hF⟩
abbrev Bats (w : World) (F : Nat → Prop) (A : Option Addr) (c : Nat) (xs : List Bat) : Prop := Kind.bat.Row w F A c xs
def Kind.ent : Kind Ent where
  sz := 2
  K := fun _ _ e cs => cs = [.int .i64 e.off, .int .i64 e.place]
  len := by rintro _ _ _ _ rfl; rfl
  keep := fun _ h => h
  mono := fun _ h => h
abbrev Ents (w : World) (F : Nat → Prop) (A : Option Addr) (c : Nat) (xs : List Ent) : Prop := Kind.ent.Row w F A c xs

/-- The record at place j of a row, as the walk spells its cells. -/
theorem Kind.Row.rec_at {w : World} {F : Nat → Prop} {A : Option Addr} {c : Nat} {xs : List Rec} (h : Recs w F A c xs) {j : Nat} (hj : j < xs.length) :
    ∃ ad B b B' b', A = some ad ∧ F ad.block ∧ Ints w F B b xs[j].key ∧ Ints w F B' b' xs[j].val ∧
      w.cell? (ad.add (j * 6)) = some (.int .i64 xs[j].off) ∧ w.cell? ⟨(ad.add (j * 6)).block, (ad.add (j * 6)).off + 1, none⟩ = some (.int .i64 xs[j].time) ∧
      w.cell? ⟨(ad.add (j * 6)).block, (ad.add (j * 6)).off + 2, none⟩ = some (.bool xs[j].hk) ∧ w.cell? ⟨(ad.add (j * 6)).block, (ad.add (j * 6)).off + 3, none⟩ = some (.slice B xs[j].key.length b) ∧
      w.cell? ⟨(ad.add (j * 6)).block, (ad.add (j * 6)).off + 4, none⟩ = some (.bool xs[j].hv) ∧ w.cell? ⟨(ad.add (j * 6)).block, (ad.add (j * 6)).off + 5, none⟩ = some (.slice B' xs[j].val.length b') := by
  obtain ⟨ad, cs, e, hF, ⟨B, b, B', b', rfl, h1, h2⟩, hc⟩ := h.get hj
  refine ⟨ad, B, b, B', b', e, hF, h1, h2, hc 0 _ rfl, ?_, ?_, ?_, ?_, ?_⟩ <;> rw [← add_succ]
  · exact hc 1 _ rfl
  · exact hc 2 _ rfl
  · exact hc 3 _ rfl
  · exact hc 4 _ rfl
  · exact hc 5 _ rfl
theorem Kind.Row.bat_at {w : World} {F : Nat → Prop} {A : Option Addr} {c : Nat} {xs : List Bat} (h : Bats w F A c xs) {j : Nat} (hj : j < xs.length) :
    ∃ ad B b, A = some ad ∧ F ad.block ∧ Recs w F B b xs[j].recs ∧
      w.cell? (ad.add (j * 6)) = some (.bool xs[j].packed) ∧ w.cell? ⟨(ad.add (j * 6)).block, (ad.add (j * 6)).off + 1, none⟩ = some (.bool xs[j].mark) ∧
      w.cell? ⟨(ad.add (j * 6)).block, (ad.add (j * 6)).off + 2, none⟩ = some (.int .i64 xs[j].prod) ∧ w.cell? ⟨(ad.add (j * 6)).block, (ad.add (j * 6)).off + 3, none⟩ = some (.int .i64 xs[j].epoch) ∧
      w.cell? ⟨(ad.add (j * 6)).block, (ad.add (j * 6)).off + 4, none⟩ = some (.int .i64 xs[j].seq) ∧ w.cell? ⟨(ad.add (j * 6)).block, (ad.add (j * 6)).off + 5, none⟩ = some (.slice B xs[j].recs.length b) := by
  obtain ⟨ad, cs, e, hF, ⟨B, b, rfl, h1⟩, hc⟩ := h.get hj
  refine ⟨ad, B, b, e, hF, h1, hc 0 _ rfl, ?_, ?_, ?_, ?_, ?_⟩ <;> rw [← add_succ]
  · exact hc 1 _ rfl
  · exact hc 2 _ rfl
  · exact hc 3 _ rfl
  · exact hc 4 _ rfl
  · exact hc 5 _ rfl
theorem Kind.Row.ent_at {w : World} {F : Nat → Prop} {A : Option Addr} {c : Nat} {xs : List Ent} (h : Ents w F A c xs) {j : Nat} (hj : j < xs.length) :
    ∃ ad, A = some ad ∧ F ad.block ∧ w.cell? (ad.add (j * 2)) = some (.int .i64 xs[j].off) ∧ w.cell? ⟨(ad.add (j * 2)).block, (ad.add (j * 2)).off + 1, none⟩ = some (.int .i64 xs[j].place) := by
  obtain ⟨ad, cs, e, hF, hK, hc⟩ := h.get hj
  have hK' : cs = [.int .i64 xs[j].off, .int .i64 xs[j].place] := hK
  subst hK'
  refine ⟨ad, e, hF, hc 0 _ rfl, ?_⟩
  rw [← add_succ]
  exact hc 1 _ rfl
end

section
def byteB (n : Int) : Bool := decide (0 ≤ n) && decide (n ≤ 255)
def bytesB (l : List Int) : Bool := l.all byteB
def inB (n l h : Int) : Bool := decide (l ≤ n) && decide (n ≤ h)
def partB (has : Bool) (l : List Int) : Bool := if has then decide (l.length ≤ 12) && bytesB l else l.length == 0
def baseB (o t : Int) : Bool := inB o 0 99999 && inB t 0 99999
def recB (r : Rec) : Bool := baseB r.off r.time && partB r.hk r.key && partB r.hv r.val

theorem bytesB_take_succ (l : List Int) (k : Nat) (h : k < l.length) : bytesB (l.take (k + 1)) = (bytesB (l.take k) && byteB l[k]) := by
  unfold bytesB
  rw [List.take_succ_eq_append_getElem h, List.all_append]; simp
theorem bytesB_false_of (l : List Int) (k : Nat) (h : k < l.length) (hb : byteB l[k] = false) : bytesB l = false := by
  unfold bytesB
  rw [List.all_eq_false]
  exact ⟨l[k], List.getElem_mem h, by simp [hb]⟩

def allUpto (p : Nat → Bool) (n : Nat) : Bool := (List.range n).all p
theorem allUpto_zero (p : Nat → Bool) : allUpto p 0 = true := rfl
theorem allUpto_succ (p : Nat → Bool) (n : Nat) : allUpto p (n + 1) = (allUpto p n && p n) := by
  unfold allUpto; rw [List.range_succ, List.all_append]; simp
theorem allUpto_false {p : Nat → Bool} {n k : Nat} (hk : k < n) (h : p k = false) : allUpto p n = false := by
  unfold allUpto; rw [List.all_eq_false]; exact ⟨k, List.mem_range.2 hk, by simp [h]⟩
theorem allUpto_iff {p : Nat → Bool} {n : Nat} : allUpto p n = true ↔ ∀ k, k < n → p k = true := by
  unfold allUpto; rw [List.all_eq_true]; simp [List.mem_range]

def Rec.zero : Rec := ⟨0, 0, false, [], false, []⟩
def Bat.zero : Bat := ⟨false, false, 0, 0, 0, []⟩
def Ent.zero : Ent := ⟨0, 0⟩
def recAt (rs : List Rec) (k : Nat) : Rec := rs.getD k Rec.zero
def batAt (bs : List Bat) (k : Nat) : Bat := bs.getD k Bat.zero
def entAt (es : List Ent) (k : Nat) : Ent := es.getD k Ent.zero
theorem recAt_eq {rs : List Rec} {k : Nat} (h : k < rs.length) : recAt rs k = rs[k] := by unfold recAt; simp [h]
theorem batAt_eq {bs : List Bat} {k : Nat} (h : k < bs.length) : batAt bs k = bs[k] := by unfold batAt; simp [h]
theorem entAt_eq {es : List Ent} {k : Nat} (h : k < es.length) : entAt es k = es[k] := by unfold entAt; simp [h]

def Bat.first (b : Bat) : Int := (recAt b.recs 0).off
def Bat.last (b : Bat) : Int := (recAt b.recs (b.recs.length - 1)).off
def recStep (rs : List Rec) (k : Nat) : Bool := recB (recAt rs k) && (k == 0 || decide ((recAt rs (k - 1)).off < (recAt rs k).off))
def recsB (rs : List Rec) : Bool := allUpto (recStep rs) rs.length
def headB (b : Bat) : Bool := if b.prod == 255 then b.epoch == 0 && b.seq == 0 && !b.mark else inB b.prod 0 254 && inB b.epoch 0 99 && inB b.seq 0 9999
def manyB (b : Bat) : Bool := inB b.recs.length 1 6 && (!b.mark || b.recs.length == 1)
def batB (b : Bat) : Bool := headB b && manyB b && recsB b.recs
def batStep (bs : List Bat) (k : Nat) : Bool := batB (batAt bs k) && (k == 0 || decide ((batAt bs (k - 1)).last < (batAt bs k).first))
def logB (bs : List Bat) : Bool := decide (bs.length ≤ 8) && allUpto (batStep bs) bs.length
def entB (e : Ent) : Bool := inB e.off 0 99999 && inB e.place 0 99999
def entStep (es : List Ent) (k : Nat) : Bool := entB (entAt es k) && (k == 0 || (decide ((entAt es (k - 1)).off < (entAt es k).off) && decide ((entAt es (k - 1)).place < (entAt es k).place)))
def entsB (es : List Ent) : Bool := decide (es.length ≤ 8) && allUpto (entStep es) es.length

theorem recStep_bad {rs : List Rec} {k : Nat} (h : k < rs.length) (hR : recB rs[k] = false) : recStep rs k = false := by unfold recStep; rw [recAt_eq h, hR]; rfl
theorem recStep_first {rs : List Rec} {k : Nat} (h : k < rs.length) (hR : recB rs[k] = true) (h0 : k = 0) : recStep rs k = true := by unfold recStep; rw [recAt_eq h, hR]; simp [h0]
theorem recStep_next {rs : List Rec} {k : Nat} (h : k < rs.length) (h1 : k - 1 < rs.length) (hR : recB rs[k] = true) (hc : rs[k - 1].off < rs[k].off) : recStep rs k = true := by unfold recStep; rw [recAt_eq h, recAt_eq h1, hR]; simp [hc]
theorem recStep_fall {rs : List Rec} {k : Nat} (h : k < rs.length) (h1 : k - 1 < rs.length) (h0 : k ≠ 0) (hc : rs[k].off ≤ rs[k - 1].off) : recStep rs k = false := by
  have : ¬ rs[k - 1].off < rs[k].off := by omega
  unfold recStep; rw [recAt_eq h, recAt_eq h1]; simp [h0, this]
theorem batStep_bad {bs : List Bat} {k : Nat} (h : k < bs.length) (hR : batB bs[k] = false) : batStep bs k = false := by unfold batStep; rw [batAt_eq h, hR]; rfl
theorem batStep_first {bs : List Bat} {k : Nat} (h : k < bs.length) (hR : batB bs[k] = true) (h0 : k = 0) : batStep bs k = true := by unfold batStep; rw [batAt_eq h, hR]; simp [h0]
theorem batStep_next {bs : List Bat} {k : Nat} (h : k < bs.length) (h1 : k - 1 < bs.length) (hR : batB bs[k] = true) (hc : bs[k - 1].last < bs[k].first) : batStep bs k = true := by unfold batStep; rw [batAt_eq h, batAt_eq h1, hR]; simp [hc]
theorem batStep_fall {bs : List Bat} {k : Nat} (h : k < bs.length) (h1 : k - 1 < bs.length) (h0 : k ≠ 0) (hc : bs[k].first ≤ bs[k - 1].last) : batStep bs k = false := by
  have : ¬ bs[k - 1].last < bs[k].first := by omega
  unfold batStep; rw [batAt_eq h, batAt_eq h1]; simp [h0, this]
theorem entStep_bad {es : List Ent} {k : Nat} (h : k < es.length) (hR : entB es[k] = false) : entStep es k = false := by unfold entStep; rw [entAt_eq h, hR]; rfl
theorem entStep_first {es : List Ent} {k : Nat} (h : k < es.length) (hR : entB es[k] = true) (h0 : k = 0) : entStep es k = true := by unfold entStep; rw [entAt_eq h, hR]; simp [h0]
theorem entStep_next {es : List Ent} {k : Nat} (h : k < es.length) (h1 : k - 1 < es.length) (hR : entB es[k] = true) (hc : es[k - 1].off < es[k].off) (hd : es[k - 1].place < es[k].place) : entStep es k = true := by unfold entStep; rw [entAt_eq h, entAt_eq h1, hR]; simp [hc, hd]
theorem entStep_fall {es : List Ent} {k : Nat} (h : k < es.length) (h1 : k - 1 < es.length) (h0 : k ≠ 0) (hc : es[k].off ≤ es[k - 1].off ∨ es[k].place ≤ es[k - 1].place) : entStep es k = false := by
  have : ¬ (es[k - 1].off < es[k].off ∧ es[k - 1].place < es[k].place) := by omega
  unfold entStep; rw [entAt_eq h, entAt_eq h1]; simp [h0]; intro _ h2; exact Classical.byContradiction fun h3 => this ⟨h2, by omega⟩
theorem manyB_mark {b : Bat} (h : manyB b = true) : inB b.recs.length 1 6 = true ∧ (b.mark = true → ((b.recs.length : Int) != 1) = false) := by
  simp only [manyB, Bool.and_eq_true] at h
  refine ⟨h.1, fun hm => ?_⟩
  have := h.2
  rw [hm] at this
  simp at this
  simp [this]
theorem batB_pos {b : Bat} (h : batB b = true) : 0 < b.recs.length := by
  simp only [batB, manyB, Bool.and_eq_true] at h
  have := h.1.2.1
  simp [inB] at this
  omega
theorem batStep_batB {bs : List Bat} {k : Nat} (h : k < bs.length) (hs : batStep bs k = true) : batB bs[k] = true := by
  simp only [batStep, Bool.and_eq_true] at hs
  rw [← batAt_eq h]; exact hs.1

/-! sizes -/
def szOf (n : Nat) (left : Int) : Int := if left < n then -1 else left - n
theorem szOf_neg {n : Nat} {left : Int} (h : left < n) : szOf n left = -1 := if_pos h
theorem szOf_pos {n : Nat} {left : Int} (h : (n : Int) ≤ left) : szOf n left = left - n := if_neg (by omega)
def wtR (r : Rec) : Nat := r.key.length + r.val.length
def wtRs (rs : List Rec) : Nat := rs.length + (rs.map wtR).sum
def wtB (b : Bat) : Nat := wtRs b.recs
def wtBs (bs : List Bat) : Nat := bs.length + (bs.map wtB).sum
theorem sum_take_succ {α : Type} (f : α → Nat) (l : List α) (k : Nat) (h : k < l.length) : ((l.take (k + 1)).map f).sum = ((l.take k).map f).sum + f l[k] := by
  rw [List.take_succ_eq_append_getElem h, List.map_append, List.sum_append]; simp
theorem sum_take_le {α : Type} (f : α → Nat) (l : List α) (k : Nat) : ((l.take k).map f).sum ≤ (l.map f).sum := by
  induction l generalizing k with
  | nil => simp
  | cons a t ih =>
    cases k with
    | zero => simp
    | succ k => simpa using ih k
theorem le_sum {α : Type} (f : α → Nat) (l : List α) {x : α} (h : x ∈ l) : f x ≤ (l.map f).sum := by
  induction l with
  | nil => simp at h
  | cons a t ih =>
    rcases List.mem_cons.1 h with rfl | h
    · simp
    · simp; have := ih h; omega
def Rec.small (r : Rec) : Prop := r.key.length ≤ 1048576 ∧ r.val.length ≤ 1048576
def Bat.small (b : Bat) : Prop := b.recs.length ≤ 1048576 ∧ ∀ r ∈ b.recs, r.small
theorem Rec.small_of {r : Rec} (h : wtR r ≤ 1048576) : r.small := by unfold wtR at h; exact ⟨by omega, by omega⟩
theorem Bat.small_of {b : Bat} (h : wtB b ≤ 1048576) : b.small := by
  unfold wtB wtRs at h
  exact ⟨by omega, fun r hr => Rec.small_of (by have := le_sum wtR b.recs hr; omega)⟩
theorem small_of_wtBs {bs : List Bat} (h : wtBs bs ≤ 1048576) : bs.length ≤ 1048576 ∧ ∀ b ∈ bs, b.small := by
  unfold wtBs at h
  exact ⟨by omega, fun b hb => Bat.small_of (by have := le_sum wtB bs hb; omega)⟩
end

section
open Go.RowKit

/-- w' is w but for the blocks of F and new ones. -/
structure Chg (F : Nat → Prop) (w w' : World) : Prop where
  os : w'.os = w.os
  tape : w'.tape = w.tape
  output : w'.output = w.output
  size : w.heap.size ≤ w'.heap.size
  block : ∀ b, b < w.heap.size → ¬ F b → w'.heap[b]? = w.heap[b]?
theorem Chg.refl (F : Nat → Prop) (w : World) : Chg F w w := ⟨rfl, rfl, rfl, Nat.le_refl _, fun _ _ _ => rfl⟩
theorem Chg.trans {F : Nat → Prop} {a b c : World} (h : Chg F a b) (k : Chg F b c) : Chg F a c :=
  ⟨k.os.trans h.os, k.tape.trans h.tape, k.output.trans h.output, Nat.le_trans h.size k.size, fun i hi hn => (k.block i (Nat.lt_of_lt_of_le hi h.size) hn).trans (h.block i hi hn)⟩
theorem Chg.mono {F F' : Nat → Prop} {a b : World} (h : Chg F a b) (hF : ∀ i, i < a.heap.size → F i → F' i) : Chg F' a b :=
  ⟨h.os, h.tape, h.output, h.size, fun i hi hn => h.block i hi (fun hf => hn (hF i hi hf))⟩
theorem Chg.of_below {F : Nat → Prop} {a b : World} (h : Below a.heap.size a b) : Chg F a b := ⟨h.os, h.tape, h.output, h.size, fun i hi _ => h.block i hi⟩
theorem Chg.below {F : Nat → Prop} {a b : World} {B : Nat} (h : Chg F a b) (hB : B ≤ a.heap.size) (hF : ∀ i, F i → B ≤ i) : Below B a b :=
  ⟨h.os, h.tape, h.output, h.size, fun i hi => h.block i (Nat.lt_of_lt_of_le hi hB) (fun hf => Nat.not_lt.2 (hF i hf) hi)⟩
theorem Chg.set (F : Nat → Prop) (w : World) {p : Addr} (hp : F p.block) (u : Value) : Chg F w (w.setCell p u) :=
  ⟨rfl, rfl, rfl, by simp, fun i _ hn => Below.heap_setCell w p u i (fun e => hn (e ▸ hp))⟩
theorem Chg.same {F G : Nat → Prop} {a b : World} (h : Chg F a b) (hd : ∀ i, i < a.heap.size → G i → ¬ F i) : Same G a b := fun i hi hlt => h.block i hlt (hd i hlt hi)
theorem Chg.cell {F : Nat → Prop} {a b : World} (h : Chg F a b) {p : Addr} {v : Value} (hc : a.cell? p = some v) (hn : ¬ F p.block) : b.cell? p = some v :=
  (World.cell?_of_block (h.block _ (cell_lt hc) hn)).trans hc
theorem Chg.setCells (F : Nat → Prop) {g : Nat} (hg : F g) : ∀ (vs : List Value) (o : Nat) (w : World), Chg F w (w.setCells g o vs)
  | [], _, w => Chg.refl F w
  | v :: r, o, w => (Chg.set F w (p := ⟨g, o, none⟩) hg v).trans (Chg.setCells F hg r (o + 1) _)

/-- A block of m cells, none frozen. -/
def Blk (w : World) (g : Nat) (e : TypeId) (m : Nat) : Prop := ∃ cs : Array Value, w.heap[g]? = some (.cells cs e (0, 0)) ∧ cs.size = m
theorem Blk.lt {w : World} {g : Nat} {e : TypeId} {m : Nat} (h : Blk w g e m) : g < w.heap.size := by
  obtain ⟨cs, hb, _⟩ := h
  exact (Array.getElem?_eq_some_iff.1 hb).1
theorem Blk.keep {w w' : World} {g : Nat} {e : TypeId} {m : Nat} (h : Blk w g e m) (hg : w'.heap[g]? = w.heap[g]?) : Blk w' g e m := by
  obtain ⟨cs, hb, hm⟩ := h
  exact ⟨cs, hg.trans hb, hm⟩
theorem Blk.frozen {w : World} {g : Nat} {e : TypeId} {m : Nat} (h : Blk w g e m) (i : Nat) : w.frozen? ⟨g, i, none⟩ = false := by
  obtain ⟨cs, hb, _⟩ := h
  simp [World.frozen?, hb]
theorem Blk.some {w : World} {g : Nat} {e : TypeId} {m i : Nat} (h : Blk w g e m) (hi : i < m) : ∃ v, w.cell? ⟨g, i, none⟩ = some v := by
  obtain ⟨cs, hb, rfl⟩ := h
  exact ⟨cs[i], by simp [World.cell?, hb, hi]⟩
theorem Blk.set {w : World} {g : Nat} {e : TypeId} {m : Nat} (h : Blk w g e m) (p : Addr) (u : Value) : Blk (w.setCell p u) g e m := by
  obtain ⟨cs, hb, hm⟩ := h
  by_cases hp : g = p.block
  · subst hp
    refine ⟨if p.spot.isSome then cs else cs.setIfInBounds p.off u, ?_, ?_⟩
    · simp [World.setCell, Array.getElem?_modify, hb]
    · split <;> simp [hm]
  · exact ⟨cs, (Below.heap_setCell w p u g hp).trans hb, hm⟩
theorem Blk.setCells {g : Nat} {e : TypeId} {m : Nat} (b : Nat) : ∀ (vs : List Value) (o : Nat) (w : World), Blk w g e m → Blk (w.setCells b o vs) g e m
  | [], _, _, h => h
  | _ :: r, o, _, h => Blk.setCells b r (o + 1) _ (h.set _ _)
theorem Blk.new (w : World) (cs : Array Value) (e : TypeId) : Blk (w.alloc (.cells cs e)) w.heap.size e cs.size := ⟨cs, heap_alloc_new w _, rfl⟩

structure XKind (α : Type) where
  d : Kind α
  X : World → (Nat → Prop) → α → List Value → Prop
  toK : ∀ {w F x cs}, X w F x cs → d.K w F x cs
  keep : ∀ {w w' F x cs}, Same F w w' → w.heap.size ≤ w'.heap.size → X w F x cs → X w' F x cs
  mono : ∀ {w F F' x cs}, (∀ b, F b → F' b) → X w F x cs → X w F' x cs
  bound : ∀ {w F x cs}, X w F x cs → X w (fun b => F b ∧ b < w.heap.size) x cs

namespace XKind
variable {α : Type}
/-- The elements of a row of one's own: block g, the elements' parts in blocks apart. -/
def Els (k : XKind α) (w : World) (F : Nat → Prop) (g : Nat) (xs : List α) : Prop :=
  ∃ Fs : Nat → Nat → Prop, (∀ i j b, Fs i b → Fs j b → i = j) ∧ (∀ i b, Fs i b → F b ∧ b ≠ g ∧ b < w.heap.size) ∧
    ∀ j x, xs[j]? = some x → ∃ cs, k.X w (Fs j) x cs ∧ ∀ i v, cs[i]? = some v → w.cell? ⟨g, j * k.d.sz + i, none⟩ = some v
def Row (k : XKind α) (e : TypeId) (w : World) (F : Nat → Prop) (A : Option Addr) (c : Nat) (xs : List α) : Prop :=
  xs.length ≤ c ∧ c ≤ 9223372036854775807 ∧ (xs ≠ [] → ∃ g m, A = some ⟨g, 0, none⟩ ∧ F g ∧ Blk w g e m ∧ xs.length * k.d.sz ≤ m ∧ k.Els w F g xs)
variable {k : XKind α} {e : TypeId} {w w' : World} {F F' : Nat → Prop} {A : Option Addr} {c g : Nat} {xs : List α}

theorem Els.keep (h : k.Els w F g xs) (hs : Same F w w') (hsz : w.heap.size ≤ w'.heap.size) (hg : w'.heap[g]? = w.heap[g]?) : k.Els w' F g xs := by
  obtain ⟨Fs, h1, h2, h3⟩ := h
  refine ⟨Fs, h1, fun i b hb => ?_, fun j x hx => ?_⟩
  · obtain ⟨p, q, r⟩ := h2 i b hb
    exact ⟨p, q, Nat.lt_of_lt_of_le r hsz⟩
  · obtain ⟨cs, hX, hc⟩ := h3 j x hx
    exact ⟨cs, k.keep (fun b hb hlt => hs b (h2 j b hb).1 hlt) hsz hX, fun i v hv => (World.cell?_of_block (a := ⟨g, _, none⟩) hg).trans (hc i v hv)⟩
theorem Row.keep (h : k.Row e w F A c xs) (hs : Same F w w') (hsz : w.heap.size ≤ w'.heap.size) : k.Row e w' F A c xs := by
  refine ⟨h.1, h.2.1, fun hx => ?_⟩
  obtain ⟨g, m, rfl, hF, hB, hm, hE⟩ := h.2.2 hx
  exact ⟨g, m, rfl, hF, hB.keep (hs g hF hB.lt), hm, hE.keep hs hsz (hs g hF hB.lt)⟩
theorem Row.mono (h : k.Row e w F A c xs) (hF : ∀ b, F b → F' b) : k.Row e w F' A c xs := by
  refine ⟨h.1, h.2.1, fun hx => ?_⟩
  obtain ⟨g, m, rfl, h1, hB, hm, Fs, h2, h3, h4⟩ := h.2.2 hx
  exact ⟨g, m, rfl, hF _ h1, hB, hm, Fs, h2, fun i b hb => ⟨hF _ (h3 i b hb).1, (h3 i b hb).2⟩, h4⟩
theorem Row.bound (h : k.Row e w F A c xs) : k.Row e w (fun b => F b ∧ b < w.heap.size) A c xs := by
  refine ⟨h.1, h.2.1, fun hx => ?_⟩
  obtain ⟨g, m, rfl, h1, hB, hm, Fs, h2, h3, h4⟩ := h.2.2 hx
  exact ⟨g, m, rfl, ⟨h1, hB.lt⟩, hB, hm, Fs, h2, fun i b hb => ⟨⟨(h3 i b hb).1, (h3 i b hb).2.2⟩, (h3 i b hb).2⟩, h4⟩
theorem Row.toK (h : k.Row e w F A c xs) : k.d.Row w F A c xs := by
  refine ⟨h.1, h.2.1, fun hx => ?_⟩
  obtain ⟨g, m, rfl, hF, hB, hm, Fs, h1, h2, h3⟩ := h.2.2 hx
  refine ⟨_, rfl, hF, fun j x hj => ?_⟩
  obtain ⟨cs, hX, hc⟩ := h3 j x hj
  exact ⟨cs, k.d.mono (fun b hb => (h2 j b hb).1) (k.toK hX), fun i v hv => by
    have hadd : (⟨g, 0, none⟩ : Addr).add (j * k.d.sz + i) = ⟨g, j * k.d.sz + i, none⟩ := by unfold Addr.add; split <;> simp_all
    rw [hadd]; exact hc i v hv⟩
theorem Row.below (h : k.Row e w F A c xs) (hb : Below w.heap.size w w') : k.Row e w' F A c xs := h.keep (Same.of_below hb) hb.size
theorem Row.nil (A : Option Addr) (c : Nat) (hc : c ≤ 9223372036854775807) : k.Row e w F A c [] := ⟨Nat.zero_le _, hc, fun h => absurd rfl h⟩

def int (kd : IntKind) : XKind Int where
  d := Kind.int kd
  X := fun _ _ x cs => cs = [.int kd x]
  toK := fun h => h
  keep := fun _ _ h => h
  mono := fun _ h => h
  bound := fun h => h
end XKind

abbrev XInts (e : TypeId) (w : World) (F : Nat → Prop) (A : Option Addr) (c : Nat) (xs : List Int) : Prop := (XKind.int .i64).Row e w F A c xs

/-- ei: the number of the type 'int'. -/
def XKind.rec_ (ei : TypeId) : XKind Rec where
  d := Kind.rec_
  X := fun w F r cs => ∃ A c A' c', cs = [.int .i64 r.off, .int .i64 r.time, .bool r.hk, .slice A r.key.length c, .bool r.hv, .slice A' r.val.length c'] ∧
    ∃ F1 F2 : Nat → Prop, (∀ b, F1 b → ¬ F2 b) ∧ (∀ b, F1 b → F b) ∧ (∀ b, F2 b → F b) ∧ (∀ b, F1 b ∨ F2 b → b < w.heap.size) ∧ XInts ei w F1 A c r.key ∧ XInts ei w F2 A' c' r.val
  toK := by
    rintro w F r cs ⟨A, c, A', c', rfl, F1, F2, _, h1, h2, _, ha, hb⟩
    exact ⟨A, c, A', c', rfl, ha.toK.mono h1, hb.toK.mono h2⟩
  keep := by
    rintro w w' F r cs hs hsz ⟨A, c, A', c', rfl, F1, F2, hd, h1, h2, h3, ha, hb⟩
    exact ⟨A, c, A', c', rfl, F1, F2, hd, h1, h2, fun b hb => Nat.lt_of_lt_of_le (h3 b hb) hsz, ha.keep (fun b hb => hs b (h1 b hb)) hsz, hb.keep (fun b hb => hs b (h2 b hb)) hsz⟩
  mono := by
    rintro w F F' r cs hF ⟨A, c, A', c', rfl, F1, F2, hd, h1, h2, h3, ha, hb⟩
    exact ⟨A, c, A', c', rfl, F1, F2, hd, fun b hb => hF b (h1 b hb), fun b hb => hF b (h2 b hb), h3, ha, hb⟩
  bound := by
    rintro w F r cs ⟨A, c, A', c', rfl, F1, F2, hd, h1, h2, h3, ha, hb⟩
    exact ⟨A, c, A', c', rfl, F1, F2, hd, fun b hb => ⟨h1 b hb, h3 b (.inl hb)⟩, fun b hb => ⟨h2 b hb, h3 b (.inr hb)⟩, h3, ha, hb⟩
abbrev XRecs (ei er : TypeId) (w : World) (F : Nat → Prop) (A : Option Addr) (c : Nat) (xs : List Rec) : Prop := (XKind.rec_ ei).Row er w F A c xs
def XKind.bat (ei er : TypeId) : XKind Bat where
  d := Kind.bat
  X := fun w F b cs => ∃ A c, cs = [.bool b.packed, .bool b.mark, .int .i64 b.prod, .int .i64 b.epoch, .int .i64 b.seq, .slice A b.recs.length c] ∧ XRecs ei er w F A c b.recs
  toK := by
    rintro w F b cs ⟨A, c, rfl, h⟩
    exact ⟨A, c, rfl, h.toK⟩
  keep := by
    rintro w w' F b cs hs hsz ⟨A, c, rfl, h⟩
    exact ⟨A, c, rfl, h.keep hs hsz⟩
  mono := by
    rintro w F F' b cs hF ⟨A, c, rfl, h⟩
    exact ⟨A, c, rfl, h.mono hF⟩
  bound := by
    rintro w F b cs ⟨A, c, rfl, h⟩
    exact ⟨A, c, rfl, h.bound⟩
abbrev XBats (ei er eb : TypeId) (w : World) (F : Nat → Prop) (A : Option Addr) (c : Nat) (xs : List Bat) : Prop := (XKind.bat ei er).Row eb w F A c xs
def XKind.ent : XKind Ent where
  d := Kind.ent
  X := fun _ _ e cs => cs = [.int .i64 e.off, .int .i64 e.place]
  toK := fun h => h
  keep := fun _ _ h => h
  mono := fun _ h => h
  bound := fun h => h

/-! A row that is being filled: block g of n elements, the first ones there. -/
namespace XKind
variable {α : Type} {k : XKind α} {e : TypeId} {w w' : World} {F : Nat → Prop} {g n B : Nat} {xs : List α}
def Fill (k : XKind α) (e : TypeId) (w : World) (F : Nat → Prop) (g n B : Nat) (xs : List α) : Prop :=
  B ≤ w.heap.size ∧ Blk w g e (n * k.d.sz) ∧ ∃ Fs : Nat → Nat → Prop, (∀ i j b, Fs i b → Fs j b → i = j) ∧ (∀ i b, Fs i b → F b ∧ b ≠ g ∧ b < B) ∧
    ∀ j x, xs[j]? = some x → ∃ cs, k.X w (Fs j) x cs ∧ ∀ i v, cs[i]? = some v → w.cell? ⟨g, j * k.d.sz + i, none⟩ = some v
theorem Fill.start (h : Blk w g e (n * k.d.sz)) : k.Fill e w F g n w.heap.size [] :=
  ⟨Nat.le_refl _, h, fun _ _ => False, fun _ _ _ h _ => h.elim, fun _ _ h => h.elim, fun j x hj => by simp at hj⟩
theorem Fill.keep (h : k.Fill e w F g n B xs) (hs : Same (fun b => b = g ∨ F b) w w') (hsz : w.heap.size ≤ w'.heap.size) : k.Fill e w' F g n B xs := by
  obtain ⟨h0, hB, Fs, h1, h2, h3⟩ := h
  have hg := hs g (.inl rfl) hB.lt
  refine ⟨Nat.le_trans h0 hsz, hB.keep hg, Fs, h1, h2, fun j x hj => ?_⟩
  obtain ⟨cs, hX, hc⟩ := h3 j x hj
  exact ⟨cs, k.keep (fun b hb hlt => hs b (.inr (h2 j b hb).1) hlt) hsz hX, fun i v hv => (World.cell?_of_block (a := ⟨g, _, none⟩) hg).trans (hc i v hv)⟩
theorem Fill.below (h : k.Fill e w F g n B xs) (hb : Below w.heap.size w w') : k.Fill e w' F g n B xs := h.keep (Same.of_below hb) hb.size
/-- One element more: its cells are stored, its parts are younger than all there. -/
theorem Fill.step (h : k.Fill e w F g n B xs) (hlt : xs.length < n) {G : Nat → Prop} {x : α} {cs : List Value} (hX : k.X w G x cs) (hG : ∀ b, G b → F b ∧ b ≠ g ∧ B ≤ b) :
    k.Fill e (w.setCells g (xs.length * k.d.sz) cs) F g n w.heap.size (xs ++ [x]) := by
  obtain ⟨h0, hB, Fs, h1, h2, h3⟩ := h
  have hlen : cs.length = k.d.sz := k.d.len (k.toK hX)
  have hroom : xs.length * k.d.sz + k.d.sz ≤ n * k.d.sz := by rw [← Nat.succ_mul]; exact Nat.mul_le_mul_right _ hlt
  have hsz : (w.setCells g (xs.length * k.d.sz) cs).heap.size = w.heap.size := by
    have : ∀ (vs : List Value) (o : Nat) (w : World), (w.setCells g o vs).heap.size = w.heap.size := by
      intro vs
      induction vs with
      | nil => intro o w; rfl
      | cons v r ih => intro o w; rw [World.setCells, ih]; simp
    exact this _ _ _
  have hkeep : ∀ b, b ≠ g → (w.setCells g (xs.length * k.d.sz) cs).heap[b]? = w.heap[b]? := by
    intro b hb
    have : ∀ (vs : List Value) (o : Nat) (w : World), (w.setCells g o vs).heap[b]? = w.heap[b]? := by
      intro vs
      induction vs with
      | nil => intro o w; rfl
      | cons v r ih => intro o w; rw [World.setCells, ih]; exact Below.heap_setCell w _ v b hb
    exact this _ _ _
  have hXb := k.bound hX
  refine ⟨by rw [hsz]; exact Nat.le_refl _, Blk.setCells _ _ _ _ hB, fun i b => (i < xs.length ∧ Fs i b) ∨ (i = xs.length ∧ G b ∧ b < w.heap.size), ?_, ?_, ?_⟩
  · rintro i j b (⟨p, q⟩ | ⟨p, q, r⟩) (⟨p', q'⟩ | ⟨p', q', r'⟩)
    · exact h1 i j b q q'
    · have := (h2 i b q).2.2; have := (hG b q').2.2; omega
    · have := (h2 j b q').2.2; have := (hG b q).2.2; omega
    · omega
  · rintro i b (⟨p, q⟩ | ⟨p, q, r⟩)
    · obtain ⟨a1, a2, a3⟩ := h2 i b q
      exact ⟨a1, a2, by omega⟩
    · exact ⟨(hG b q).1, (hG b q).2.1, r⟩
  · intro j y hj
    by_cases hjl : j < xs.length
    · rw [List.getElem?_append_left hjl] at hj
      obtain ⟨ds, hY, hc⟩ := h3 j y hj
      refine ⟨ds, k.mono (fun b hb => .inl ⟨hjl, hb⟩) (k.keep (fun b hb _ => hkeep b (h2 j b hb).2.1) (by rw [hsz]; exact Nat.le_refl _) hY), fun i v hv => ?_⟩
      have hdl : ds.length = k.d.sz := k.d.len (k.toK hY)
      have hi : i < k.d.sz := by rw [← hdl]; exact (List.getElem?_eq_some_iff.1 hv).1
      rw [World.cell?_setCells_out g cs _ w _ (fun _ _ => Or.inl ?_)]
      · exact hc i v hv
      · have : j * k.d.sz + k.d.sz ≤ xs.length * k.d.sz := by rw [← Nat.succ_mul]; exact Nat.mul_le_mul_right _ hjl
        show j * k.d.sz + i < _
        omega
    · have hjeq : j = xs.length := by
        have := (List.getElem?_eq_some_iff.1 hj).1
        simp at this
        omega
      subst hjeq
      rw [List.getElem?_append_right (Nat.le_refl _)] at hj
      simp at hj
      subst hj
      refine ⟨cs, k.mono (fun b hb => .inr ⟨rfl, hb⟩) (k.keep (fun b hb _ => hkeep b (hG b hb.1).2.1) (by rw [hsz]; exact Nat.le_refl _) hXb), fun i v hv => ?_⟩
      obtain ⟨hil, hv'⟩ := List.getElem?_eq_some_iff.1 hv
      subst hv'
      exact World.cell?_setCells_in g cs _ w (fun i hi => by
        obtain ⟨v, hv⟩ := hB.some (i := xs.length * k.d.sz + i) (by omega)
        rw [hv]; rfl) i hil
theorem Fill.next (h : k.Fill e w F g n B xs) {o : Nat} (ho : o = xs.length * k.d.sz) (hlt : xs.length < n) {G : Nat → Prop} {x : α} {cs : List Value} (hX : k.X w G x cs) (hG : ∀ b, G b → F b ∧ b ≠ g ∧ B ≤ b) {ys : List α} (hy : ys = xs ++ [x]) :
    ∃ B', k.Fill e (w.setCells g o cs) F g n B' ys := by
  subst ho hy
  exact ⟨_, h.step hlt hX hG⟩
theorem Fill.done (h : k.Fill e w F g n B xs) (hn : xs.length = n) (hc : n ≤ 140737488355328) : k.Row e w (fun b => b = g ∨ F b) (some ⟨g, 0, none⟩) n xs := by
  obtain ⟨h0, hB, Fs, h1, h2, h3⟩ := h
  subst hn
  exact ⟨Nat.le_refl _, Nat.le_trans hc (by omega), fun _ => ⟨g, _, rfl, .inl rfl, hB, Nat.le_refl _, Fs, h1, fun i b hb => ⟨.inr (h2 i b hb).1, (h2 i b hb).2.1, Nat.lt_of_lt_of_le (h2 i b hb).2.2 h0⟩, h3⟩⟩
end XKind
end
end Go.Proofs.YtgnjnpfeofhniaaDoor
