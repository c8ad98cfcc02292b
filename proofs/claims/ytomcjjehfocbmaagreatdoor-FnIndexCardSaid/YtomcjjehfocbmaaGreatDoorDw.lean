/- Draws of segments: the first steps. The draw of ReadEnd. Draws of segments, from bytes. The draw of LogScan: bytes of a segment, sometimes damaged, cut or doubled. -/
import Derived.Test.YtomcjjehfocbmaaGreatDoorD5
import Derived.Test.YtomcjjehfocbmaaGreatDoorD3
import Derived.Test.YtomcjjehfocbmaaGreatDoorLb
namespace Go.Proofs.YtomcjjehfocbmaaGreatDoor
set_option linter.unusedVariables false
set_option linter.unusedSimpArgs false
section
section
open Go.RowKit

/-- A segment that was drawn. -/
structure Drawn (w w' : World) (bs : List Bat) (A : Option Addr) (c : Nat) : Prop where
  len : bs.length ≤ 9
  ok : ∀ b ∈ bs, b.ok
  row : Bats w' (fun b => w.heap.size ≤ b) A c bs
  below : Below w.heap.size w w'
theorem Drawn.after {w w1 w2 : World} {bs : List Bat} {A : Option Addr} {c : Nat} (h : Drawn w w1 bs A c) (hb : Below w1.heap.size w1 w2) : Drawn w w2 bs A c :=
  ⟨h.len, h.ok, h.row.below hb, bthen h.below hb⟩
theorem recs_ok {bs : List Bat} (hl : bs.length ≤ 9) (h : ∀ b ∈ bs, b.ok) : (bs.flatMap (·.recs)).length ≤ 45 := by
  have : ∀ l : List Bat, (∀ b ∈ l, b.ok) → (l.flatMap (·.recs)).length ≤ 5 * l.length := by
    intro l
    induction l with
    | nil => intro _; simp
    | cons a t ih =>
      intro hl
      have h1 := ih (fun b hb => hl b (by simp [hb]))
      have h2 := (hl a (by simp)).2.1
      rw [List.flatMap_cons, List.length_append, List.length_cons]
      omega
  have := this bs h
  omega
/-- The reader, and what was drawn first, in a later world. -/
theorem drawLog (bs0 : List Int) (A : Option Addr) (c : Nat) (F : Nat → Prop) (w : World) (h : Kind.byte.Row w F A c bs0) :
    Calls Tryz.prog 11 #[.slice A bs0.length c] w fun e w' => ∃ g, e = .returned (.pointer (some ⟨g, 0, none⟩)) ∧ w.heap.size ≤ g ∧ RdN w' g 0 ∧ Below w.heap.size w w' :=
  (l6Open_any bs0 A c F w h).mono fun _ _ ⟨g, h1, h2, h3, h4⟩ => ⟨g, h1, h2, ⟨0, Nat.le_refl _, h3⟩, h4⟩
/-- l92Log behind l6Open. -/
theorem l92Log_drawn (g : Nat) (w w1 : World) (hg : w.heap.size ≤ g) (hR : RdN w1 g 0) (hb : Below w.heap.size w w1) :
    Calls Tryz.prog 12 #[.pointer (some ⟨g, 0, none⟩)] w1 fun e w' => ∃ (bs : List Bat) (A : Option Addr) (c : Nat), e = .returned (.slice A bs.length c) ∧ Drawn w w' bs A c ∧ RdN w' g 5000 ∧ Bats w' (fun b => w.heap.size ≤ b ∧ b ≠ g) A c bs :=
  (l92Log_any g 0 w1 hR (by omega)).mono fun _ _ ⟨bs, A, c, h1, h2, h3, h4, h5, h6⟩ =>
    ⟨bs, A, c, h1, ⟨h2, h3, h4.mono (fun b hb' => Nat.le_trans hb.size hb'), hb.trans (h6.below hb.size (fun i (hi : i = g) => by omega))⟩, by simpa using h5, h4.mono (fun b hb' => ⟨Nat.le_trans hb.size hb', by have := hR.lt; omega⟩)⟩

theorem drawn_pick {w w1 w2 : World} {g : Nat} {bs : List Bat} {A : Option Addr} {c : Nat} (hg : w.heap.size ≤ g) (hD : Drawn w w1 bs A c) (hE : Bats w1 (fun b => w.heap.size ≤ b ∧ b ≠ g) A c bs) (hc : Chg (fun b => b = g) w1 w2) :
    Drawn w w2 bs A c ∧ Bats w2 (fun b => w.heap.size ≤ b ∧ b ≠ g) A c bs := by
  have h := hE.keep (hc.same (fun i _ h1 h2 => h1.2 h2))
  exact ⟨⟨hD.len, hD.ok, h.mono (fun b hb => hb.1), hD.below.trans (hc.below hD.below.size (fun i (hi : i = g) => by omega))⟩, h⟩
end

section
open Go.RowKit

end

section
open Go.RowKit

end
end

section
open Go.RowKit

end
end Go.Proofs.YtomcjjehfocbmaaGreatDoor
