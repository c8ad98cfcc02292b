/- What came in reads as entries. -/
import Derived.Test.YtfielhfifeggiaaOpG
namespace Go.Proofs.Ytfielhfifeggiaa
open Go.RowKit Go.ChangeShapes Go.WideShapes

section
variable {H : Type} {enc : TypeId × Value → H} {P : Program} {w : World} {base : Nat} {spare : Nat → Bool} {held : Bool}
theorem opens_ent {t ti : TypeId} {f0 f1 : Field} [Inhabited Ent] (ht : P.underlying t = some (.struct #[f0, f1])) (hone : Deep.oneCellFields P #[f0, f1] = true) (hC : P.cellsOf t = 2)
    (e : [f0.type, f1.type] = [ti, ti]) (hi : P.underlying ti = some (.int .i64)) : Opens enc P w base spare held t Kind.ent := by
  simp only [List.cons.injEq, and_true] at e
  obtain ⟨e0, e1⟩ := e
  intro fuel cs x h
  obtain ⟨xs, n, _, _, hcl, hlen, hg⟩ := DataW.trod_struct ht h
  rw [hC] at hcl
  match cs, hcl with
  | [c0, c1], _ =>
    obtain ⟨o0, k0⟩ := Deep.hone_of hone 0 f0 rfl
    obtain ⟨o1, k1⟩ := Deep.hone_of hone 1 f1 rfl
    match xs, hlen with
    | [y0, y1], _ =>
      have h0 : DataW.trod enc P w base spare held n f0.type [c0] = some y0 := by simpa [o0, k0] using hg 0 f0 rfl
      have h1 : DataW.trod enc P w base spare held n f1.type [c1] = some y1 := by simpa [o1, k1] using hg 1 f1 rfl
      rw [e0] at h0
      rw [e1] at h1
      obtain ⟨a0, q0⟩ := opens_int hi _ _ _ h0
      obtain ⟨a1, q1⟩ := opens_int hi _ _ _ h1
      have q0' : [c0] = [.int .i64 a0] := q0
      have q1' : [c1] = [.int .i64 a1] := q1
      simp only [List.cons.injEq, and_true] at q0' q1'
      subst q0' q1'
      exact ⟨⟨a0, a1⟩, rfl⟩
instance : Inhabited Ent := ⟨Ent.zero⟩
end
theorem cellsLEnt : Try.prog.cellsOf 46 = 2 := by kernel_rfl
section
variable {H : Type} {enc : TypeId × Value → H} {w : World} {base : Nat} {spare : Nat → Bool} {held : Bool}
theorem opens_lent : Opens enc Try.prog w base spare held 46 Kind.ent :=
  opens_ent Try.underlying46 (by kernel_rfl) cellsLEnt (by kernel_rfl) Try.underlying3
theorem opens_lents : Opens enc Try.prog w base spare held 27 (Kind.slice Kind.ent) := opens_slice Try.underlying27 cellsLEnt opens_lent
end
end Go.Proofs.Ytfielhfifeggiaa
