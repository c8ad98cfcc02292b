/- Draws of entries, from bytes. -/
import Derived.Test.YtfielhfifeggiaaI3
import Derived.Test.YtfielhfifeggiaaD0
namespace Go.Proofs.Ytfielhfifeggiaa
open Go.RowKit

theorem DrawIndexValid_any (bs : List Int) (A : Option Addr) (c : Nat) (F : Nat → Prop) (w : World) (h : Kind.byte.Row w F A c bs) :
    Calls Try.prog 8 #[.slice A bs.length c] w fun e w' => ∃ (es : List Ent) (A' : Option Addr) (c' : Nat), e = .returned (.slice A' es.length c') ∧ es.length ≤ 5 ∧
      Ents w' (fun b => w.heap.size ≤ b) A' c' es ∧ Below w.heap.size w w' := by
  go_enter Try.func8, Try.ntmps8
  go_wp2_with fail
  refine (l6Open_any bs A c F _ h).mono ?_
  rintro e w1 ⟨g, rfl, hg, hR, hb1⟩
  go_wp2_with fail
  refine (l92Entries_any g 0 _ ⟨0, Nat.le_refl _, hR⟩ (by omega)).mono ?_
  rintro e w2 ⟨es, A', c', rfl, hl, hE, _, hc2⟩
  go_wp2
  go_ret
  exact ⟨es, A', c', rfl, hl, hE.mono (fun b hb => Nat.le_trans hb1.size hb), hb1.trans (hc2.below hb1.size (fun i (hi : i = g) => by omega))⟩
theorem DrawIndexFind_any (bs : List Int) (A : Option Addr) (c : Nat) (F : Nat → Prop) (w : World) (h : Kind.byte.Row w F A c bs) :
    Calls Try.prog 14 #[.slice A bs.length c] w fun e w' => ∃ (es : List Ent) (A' : Option Addr) (c' : Nat) (o : Int), e = .returned (.tuple #[.slice A' es.length c', .int .i64 o]) ∧ es.length ≤ 5 ∧
      0 ≤ o ∧ o < 40 ∧ Ents w' (fun b => w.heap.size ≤ b) A' c' es ∧ Below w.heap.size w w' := by
  go_enter Try.func14, Try.ntmps14
  go_wp2_with fail
  refine (l6Open_any bs A c F _ h).mono ?_
  rintro e w1 ⟨g, rfl, hg, hR, hb1⟩
  go_wp2_with fail
  refine (l92Entries_any g 0 _ ⟨0, Nat.le_refl _, hR⟩ (by omega)).mono ?_
  rintro e w2 ⟨es, A', c', rfl, hl, hE, hR2, hc2⟩
  have hb2 := hb1.trans (hc2.below hb1.size (fun i (hi : i = g) => by omega))
  have hg2 := hR2.lt
  have HE := hE.mono (F' := fun b => w.heap.size ≤ b ∧ b ≠ g) (fun b hb => ⟨Nat.le_trans hb1.size hb, by have := hR.lt; omega⟩)
  clear hE hc2
  go_wp2_with fail
  refine (pickN g _ 40 _ hR2 (by omega) (by omega) (by omega)).mono ?_
  rintro e w3 ⟨v3, rfl, a3, b3, r3, c3⟩
  go_wp2
  go_ret2
  exact ⟨es, A', c', v3, rfl, hl, a3, b3, (HE.keep (c3.same (fun i _ h1 h2 => h1.2 h2))).mono (fun b hb => hb.1), hb2.trans (c3.below hb2.size (fun i (hi : i = g) => by omega))⟩
end Go.Proofs.Ytfielhfifeggiaa
