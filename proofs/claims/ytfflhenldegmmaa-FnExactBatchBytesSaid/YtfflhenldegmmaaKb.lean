/- Reading predicates for rows in memory (kinds), and what keeps them. No program in sight. -/
import Derived.WalkKit
import Derived.KernelRfl
import Derived.RowKit
import Derived.RowKit3
import Derived.Below
import Derived.Deep.Draws
import Derived.Laws.AppendOwn
import Derived.Laws.OwnMore
import Derived.Laws.Slices
namespace Go.Proofs.Ytfflhenldegmmaa
set_option linter.unusedVariables false
set_option linter.unusedSimpArgs false
open Go.RowKit

/-- w' has w's blocks of F. -/
def Same (F : Nat → Prop) (w w' : World) : Prop := ∀ b, F b → b < w.heap.size → w'.heap[b]? = w.heap[b]?

theorem cell_lt {w : World} {a : Addr} {v : Value} (h : w.cell? a = some v) : a.block < w.heap.size := World.block_lt_of_cell? w a h
theorem Same.cell {F : Nat → Prop} {w w' : World} (h : Same F w w') {a : Addr} {v : Value} (hF : F a.block) (hc : w.cell? a = some v) : w'.cell? a = some v :=
  (World.cell?_of_block (h _ hF (cell_lt hc))).trans hc
theorem Same.of_below {F : Nat → Prop} {w w' : World} (h : Below w.heap.size w w') : Same F w w' := fun b _ hb => h.block b hb
theorem add_block (a : Addr) (n : Nat) : (a.add n).block = a.block := by unfold Addr.add; split <;> rfl
theorem add_add (a : Addr) (i j : Nat) : (a.add i).add j = a.add (i + j) := by
  unfold Addr.add
  by_cases hi : i = 0 <;> by_cases hj : j = 0 <;> simp [hi, hj, Nat.add_assoc]
theorem add_succ (ad : Addr) (m j : Nat) : ad.add (m + (j + 1)) = ⟨(ad.add m).block, (ad.add m).off + (j + 1), none⟩ := by
  rw [← add_add]; simp [Addr.add]

structure Kind (α : Type) where
  sz : Nat
  K : World → (Nat → Prop) → α → List Value → Prop
  len : ∀ {w F x cs}, K w F x cs → cs.length = sz
  keep : ∀ {w w' F x cs}, Same F w w' → K w F x cs → K w' F x cs
  mono : ∀ {w F F' x cs}, (∀ b, F b → F' b) → K w F x cs → K w F' x cs

namespace Kind
variable {α : Type}
/-- The elements of a row at A. -/
def Row (d : Kind α) (w : World) (F : Nat → Prop) (A : Option Addr) (c : Nat) (xs : List α) : Prop :=
  xs.length ≤ c ∧ c ≤ 9223372036854775807 ∧ (xs ≠ [] → ∃ ad, A = some ad ∧ F ad.block ∧ ∀ (j : Nat) x, xs[j]? = some x → ∃ cs, d.K w F x cs ∧ ∀ i v, cs[i]? = some v → w.cell? (ad.add (j * d.sz + i)) = some v)
variable {d : Kind α} {w w' : World} {F F' : Nat → Prop} {A : Option Addr} {c : Nat} {xs : List α}
theorem Row.keep (h : d.Row w F A c xs) (hs : Same F w w') : d.Row w' F A c xs := by
  refine ⟨h.1, h.2.1, fun hx => ?_⟩
  obtain ⟨ad, e, hF, hc⟩ := h.2.2 hx
  refine ⟨ad, e, hF, fun j x hj => ?_⟩
  obtain ⟨cs, hK, hcell⟩ := hc j x hj
  exact ⟨cs, d.keep hs hK, fun i v hv => hs.cell (by rw [add_block]; exact hF) (hcell i v hv)⟩
theorem Row.mono (h : d.Row w F A c xs) (hF : ∀ b, F b → F' b) : d.Row w F' A c xs := by
  refine ⟨h.1, h.2.1, fun hx => ?_⟩
  obtain ⟨ad, e, h1, hc⟩ := h.2.2 hx
  refine ⟨ad, e, hF _ h1, fun j x hj => ?_⟩
  obtain ⟨cs, hK, hcell⟩ := hc j x hj
  exact ⟨cs, d.mono hF hK, hcell⟩
theorem Row.below (h : d.Row w F A c xs) (hb : Below w.heap.size w w') : d.Row w' F A c xs := h.keep (Same.of_below hb)
theorem Row.nil (A : Option Addr) (c : Nat) (hc : c ≤ 9223372036854775807) : d.Row w F A c [] := ⟨Nat.zero_le _, hc, fun h => absurd rfl h⟩
theorem Row.get (h : d.Row w F A c xs) {j : Nat} (hj : j < xs.length) :
    ∃ ad cs, A = some ad ∧ F ad.block ∧ d.K w F xs[j] cs ∧ ∀ i v, cs[i]? = some v → w.cell? (ad.add (j * d.sz + i)) = some v := by
  obtain ⟨ad, e, hF, hc⟩ := h.2.2 (by rintro rfl; simp at hj)
  obtain ⟨cs, hK, hcell⟩ := hc j _ (List.getElem?_eq_getElem hj)
  exact ⟨ad, cs, e, hF, hK, hcell⟩

def int (k : IntKind) : Kind Int where
  sz := 1
  K := fun _ _ x cs => cs = [.int k x]
  len := by rintro _ _ _ _ rfl; rfl
  keep := fun _ h => h
  mono := fun _ h => h
/-- A byte. -/
def byte : Kind Int where
  sz := 1
  K := fun _ _ x cs => cs = [.int .u8 x] ∧ 0 ≤ x ∧ x ≤ 255
  len := by rintro _ _ _ _ ⟨rfl, _⟩; rfl
  keep := fun _ h => h
  mono := fun _ h => h
def bool : Kind Bool where
  sz := 1
  K := fun _ _ x cs => cs = [.bool x]
  len := by rintro _ _ _ _ rfl; rfl
  keep := fun _ h => h
  mono := fun _ h => h
def slice (d : Kind α) : Kind (List α) where
  sz := 1
  K := fun w F xs cs => ∃ A c, cs = [.slice A xs.length c] ∧ d.Row w F A c xs
  len := by rintro _ _ _ _ ⟨A, c, rfl, _⟩; rfl
  keep := by rintro _ _ _ _ _ hs ⟨A, c, rfl, h⟩; exact ⟨A, c, rfl, h.keep hs⟩
  mono := by rintro _ _ _ _ _ hF ⟨A, c, rfl, h⟩; exact ⟨A, c, rfl, h.mono hF⟩
end Kind

abbrev Ints (w : World) (F : Nat → Prop) (A : Option Addr) (c : Nat) (xs : List Int) : Prop := (Kind.int .i64).Row w F A c xs

theorem Kind.Row.int_at {k : IntKind} {w : World} {F : Nat → Prop} {A : Option Addr} {c : Nat} {xs : List Int} (h : (Kind.int k).Row w F A c xs) {j : Nat} (hj : j < xs.length) :
    ∃ ad, A = some ad ∧ F ad.block ∧ w.cell? (ad.add j) = some (.int k xs[j]) := by
  obtain ⟨ad, cs, e, hF, hK, hc⟩ := h.get hj
  have hK' : cs = [.int k xs[j]] := hK
  subst hK'
  have := hc 0 _ rfl
  exact ⟨ad, e, hF, by simpa [Kind.int] using this⟩

theorem Kind.Row.byte_at {w : World} {F : Nat → Prop} {A : Option Addr} {c : Nat} {xs : List Int} (h : Kind.byte.Row w F A c xs) {j : Nat} (hj : j < xs.length) :
    ∃ ad, A = some ad ∧ F ad.block ∧ w.cell? (ad.add j) = some (.int .u8 xs[j]) ∧ 0 ≤ xs[j] ∧ xs[j] ≤ 255 := by
  obtain ⟨ad, cs, e, hF, ⟨hK, h0, h1⟩, hc⟩ := h.get hj
  have hK' : cs = [.int .u8 xs[j]] := hK
  subst hK'
  have := hc 0 _ rfl
  exact ⟨ad, e, hF, by simpa [Kind.byte] using this, h0, h1⟩

/-! records, batches, entries -/
structure Rec where
  off : Int
  time : Int
  hk : Bool
  key : List Int
  hv : Bool
  val : List Int
  deriving DecidableEq
structure Bat where
  packed : Bool
  mark : Bool
  prod : Int
  epoch : Int
  seq : Int
  recs : List Rec
  deriving DecidableEq
structure Ent where
  off : Int
  place : Int
  deriving DecidableEq

def Kind.rec_ : Kind Rec where
  sz := 6
  K := fun w F r cs => ∃ A c A' c', cs = [.int .i64 r.off, .int .i64 r.time, .bool r.hk, .slice A r.key.length c, .bool r.hv, .slice A' r.val.length c'] ∧ Ints w F A c r.key ∧ Ints w F A' c' r.val
  len := by rintro _ _ _ _ ⟨A, c, A', c', rfl, _⟩; rfl
  keep := by rintro _ _ _ _ _ hs ⟨A, c, A', c', rfl, h, h'⟩; exact ⟨A, c, A', c', rfl, h.keep hs, h'.keep hs⟩
  mono := by rintro _ _ _ _ _ hF ⟨A, c, A', c', rfl, h, h'⟩; exact ⟨A, c, A', c', rfl, h.mono hF, h'.mono hF⟩
abbrev Recs (w : World) (F : Nat → Prop) (A : Option Addr) (c : Nat) (xs : List Rec) : Prop := Kind.rec_.Row w F A c xs
def Kind.bat : Kind Bat where
  sz := 6
  K := fun w F b cs => ∃ A c, cs = [.bool b.packed, .bool b.mark, .int .i64 b.prod, .int .i64 b.epoch, .int .i64 b.seq, .slice A b.recs.length c] ∧ Recs w F A c b.recs
  len := by rintro _ _ _ _ ⟨A, c, rfl, _⟩; rfl
  keep := by rintro _ _ _ _ _ hs ⟨A, c, rfl, h⟩; exact ⟨A, c, rfl, h.keep hs⟩
  mono := by rintro _ _ _ _ _ hF ⟨A, c, rfl, h⟩; exact ⟨A, c, rfl, h.mono hF⟩
abbrev Bats (w : World) (F : Nat → Prop) (A : Option Addr) (c : Nat) (xs : List Bat) : Prop := Kind.bat.Row w F A c xs
def Kind.ent : Kind Ent where
  sz := 2
  K := fun _ _ e cs => cs = [.int .i64 e.off, .int .i64 e.place]
  len := by rintro _ _ _ _ rfl; rfl
  keep := fun _ h => h
  mono := fun _ h => h
abbrev Ents (w : World) (F : Nat → Prop) (A : Option Addr) (c : Nat) (xs : List Ent) : Prop := Kind.ent.Row w F A c xs

/-- The record at place j of a row, as the walk spells its cells. -/
theorem Kind.Row.rec_at {w : World} {F : Nat → Prop} {A : Option Addr} {c : Nat} {xs : List Rec} (h : Recs w F A c xs) {j : Nat} (hj : j < xs.length) :
    ∃ ad B b B' b', A = some ad ∧ F ad.block ∧ Ints w F B b xs[j].key ∧ Ints w F B' b' xs[j].val ∧
      w.cell? (ad.add (j * 6)) = some (.int .i64 xs[j].off) ∧ w.cell? ⟨(ad.add (j * 6)).block, (ad.add (j * 6)).off + 1, none⟩ = some (.int .i64 xs[j].time) ∧
      w.cell? ⟨(ad.add (j * 6)).block, (ad.add (j * 6)).off + 2, none⟩ = some (.bool xs[j].hk) ∧ w.cell? ⟨(ad.add (j * 6)).block, (ad.add (j * 6)).off + 3, none⟩ = some (.slice B xs[j].key.length b) ∧
      w.cell? ⟨(ad.add (j * 6)).block, (ad.add (j * 6)).off + 4, none⟩ = some (.bool xs[j].hv) ∧ w.cell? ⟨(ad.add (j * 6)).block, (ad.add (j * 6)).off + 5, none⟩ = some (.slice B' xs[j].val.length b') := by
  obtain ⟨ad, cs, e, hF, ⟨B, b, B', b', rfl, h1, h2⟩, hc⟩ := h.get hj
  refine ⟨ad, B, b, B', b', e, hF, h1, h2, hc 0 _ rfl, ?_, ?_, ?_, ?_, ?_⟩ <;> rw [← add_succ]
  · exact hc 1 _ rfl
  · exact hc 2 _ rfl
  · exact hc 3 _ rfl
  · exact hc 4 _ rfl
  · exact hc 5 _ rfl
theorem Kind.Row.bat_at {w : World} {F : Nat → Prop} {A : Option Addr} {c : Nat} {xs : List Bat} (h : Bats w F A c xs) {j : Nat} (hj : j < xs.length) :
    ∃ ad B b, A = some ad ∧ F ad.block ∧ Recs w F B b xs[j].recs ∧
      w.cell? (ad.add (j * 6)) = some (.bool xs[j].packed) ∧ w.cell? ⟨(ad.add (j * 6)).block, (ad.add (j * 6)).off + 1, none⟩ = some (.bool xs[j].mark) ∧
      w.cell? ⟨(ad.add (j * 6)).block, (ad.add (j * 6)).off + 2, none⟩ = some (.int .i64 xs[j].prod) ∧ w.cell? ⟨(ad.add (j * 6)).block, (ad.add (j * 6)).off + 3, none⟩ = some (.int .i64 xs[j].epoch) ∧
      w.cell? ⟨(ad.add (j * 6)).block, (ad.add (j * 6)).off + 4, none⟩ = some (.int .i64 xs[j].seq) ∧ w.cell? ⟨(ad.add (j * 6)).block, (ad.add (j * 6)).off + 5, none⟩ = some (.slice B xs[j].recs.length b) := by
  obtain ⟨ad, cs, e, hF, ⟨B, b, rfl, h1⟩, hc⟩ := h.get hj
  refine ⟨ad, B, b, e, hF, h1, hc 0 _ rfl, ?_, ?_, ?_, ?_, ?_⟩ <;> rw [← add_succ]
  · exact hc 1 _ rfl
  · exact hc 2 _ rfl
  · exact hc 3 _ rfl
  · exact hc 4 _ rfl
  · exact hc 5 _ rfl
theorem Kind.Row.ent_at {w : World} {F : Nat → Prop} {A : Option Addr} {c : Nat} {xs : List Ent} (h : Ents w F A c xs) {j : Nat} (hj : j < xs.length) :
    ∃ ad, A = some ad ∧ F ad.block ∧ w.cell? (ad.add (j * 2)) = some (.int .i64 xs[j].off) ∧ w.cell? ⟨(ad.add (j * 2)).block, (ad.add (j * 2)).off + 1, none⟩ = some (.int .i64 xs[j].place) := by
  obtain ⟨ad, cs, e, hF, hK, hc⟩ := h.get hj
  have hK' : cs = [.int .i64 xs[j].off, .int .i64 xs[j].place] := hK
  subst hK'
  refine ⟨ad, e, hF, hc 0 _ rfl, ?_⟩
  rw [← add_succ]
  exact hc 1 _ rfl

end Go.Proofs.Ytfflhenldegmmaa
