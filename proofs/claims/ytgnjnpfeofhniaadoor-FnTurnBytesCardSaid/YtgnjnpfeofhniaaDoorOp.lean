/- What came in reads as a list. What came in reads as bytes. What came in reads as numbers. What came in reads as entries. What came in reads as a record, as a batch. What came in reads as a list of batches. -/
import Derived.Test.YtgnjnpfeofhniaaDoorGa
import Derived.ProofKit
import Derived.OpenShut
import Derived.ChangeOld
import Derived.SizedLaws
import Derived.Deep.Slices
import Derived.Deep.Fields
namespace Go.Proofs.YtgnjnpfeofhniaaDoor
set_option linter.unusedVariables false
set_option linter.unusedSimpArgs false
section
open Go.RowKit Go.ChangeShapes Go.WideShapes

section
variable {H : Type} {enc : TypeId × Value → H} {P : Program} {w : World} {base : Nat} {spare : Nat → Bool} {held : Bool}
def Opens (enc : TypeId × Value → H) (P : Program) (w : World) (base : Nat) (spare : Nat → Bool) (held : Bool) {α : Type} (t : TypeId) (d : Kind α) : Prop :=
  ∀ fuel cs x, DataW.trod enc P w base spare held fuel t cs = some x → ∃ a : α, d.K w (fun _ => True) a cs
theorem opens_int {t : TypeId} {k : IntKind} (ht : P.underlying t = some (.int k)) : Opens enc P w base spare held t (Kind.int k) := by
  intro fuel cs x h
  obtain ⟨n, rfl, _⟩ := DataW.trod_int ht h
  exact ⟨n, rfl⟩
theorem opens_bool {t : TypeId} (ht : P.underlying t = some .bool) : Opens enc P w base spare held t Kind.bool := by
  intro fuel cs x h
  obtain ⟨n, rfl, _⟩ := DataW.trod_bool ht h
  exact ⟨n, rfl⟩
theorem opens_slice {α : Type} [Inhabited α] {d : Kind α} {t e : TypeId} (ht : P.underlying t = some (.slice e)) (hsz : P.cellsOf e = d.sz) (hd : Opens enc P w base spare held e d) : Opens enc P w base spare held t (Kind.slice d) := by
  intro fuel cs x h
  rcases Deep.open_slice ht h with ⟨rfl, _⟩ | ⟨a, len, cap, m, n, D, Pl, rfl, _, hl, hm, hmm, _, hi⟩
  · exact ⟨[], none, 0, rfl, Kind.Row.nil _ _ (by omega)⟩
  · have hlen : len ≤ m := by
      rw [hmm]
      split
      · exact hl
      · exact Nat.le_refl _
    unfold maxLen at hm
    have hex : ∀ i, i < len → ∃ x : α, ∃ cs', d.K w (fun _ => True) x cs' ∧ ∀ j v, cs'[j]? = some v → w.cell? (a.add (i * d.sz + j)) = some v := by
      intro i hil
      obtain ⟨cs', hc, ht'⟩ := hi i (by omega)
      obtain ⟨x, hK⟩ := hd _ _ _ ht'
      rw [hsz] at hc
      obtain ⟨_, hcl, hat⟩ := World.cells?_some hc
      refine ⟨x, cs', hK, fun j v hv => ?_⟩
      have hj : j < d.sz := by rw [← hcl]; exact (List.getElem?_eq_some_iff.1 hv).1
      have := hat j hj
      rw [hv, add_add] at this
      exact this
    obtain ⟨f, hf⟩ := Deep.choose_lt hex
    refine ⟨(List.range len).map f, some a, cap, by simp, by simp; exact hl, by omega, fun _ => ⟨a, rfl, trivial, fun j x hj => ?_⟩⟩
    have hjl : j < len := by
      have := (List.getElem?_eq_some_iff.1 hj).1
      simpa using this
    rw [List.getElem?_map, List.getElem?_range hjl] at hj
    simp at hj
    subst hj
    exact hf j hjl
end
end

section
open Go.RowKit Go.ChangeShapes Go.WideShapes

section
variable {H : Type} {enc : TypeId × Value → H} {P : Program} {w : World} {base : Nat} {spare : Nat → Bool} {held : Bool}
theorem opens_byte {t : TypeId} (ht : P.underlying t = some (.int .u8)) : Opens enc P w base spare held t Kind.byte := by
  intro fuel cs x h
  obtain ⟨n, rfl, _, hw⟩ := DataW.trod_int ht h
  have h2 : 0 ≤ n ∧ n ≤ 255 := by
    simp [Lit.wf, IntKind.min, IntKind.max, IntKind.bits, IntKind.signed] at hw
    omega
  exact ⟨n, rfl, h2.1, h2.2⟩
end
section
variable {H : Type} {enc : TypeId × Value → H} {w : World} {base : Nat} {spare : Nat → Bool} {held : Bool}
theorem opens_bytes : Opens enc Tryd.prog w base spare held 22 (Kind.slice Kind.byte) := opens_slice Tryd.underlying22 (by kernel_rfl) (opens_byte Tryd.underlying5)
end
end

section
open Go.RowKit Go.ChangeShapes Go.WideShapes

theorem cellsIntI : Tryd.prog.cellsOf 3 = 1 := by kernel_rfl
section
variable {H : Type} {enc : TypeId × Value → H} {w : World} {base : Nat} {spare : Nat → Bool} {held : Bool}
theorem opens_ints : Opens enc Tryd.prog w base spare held 32 (Kind.slice (Kind.int .i64)) := opens_slice Tryd.underlying32 cellsIntI (opens_int Tryd.underlying3)
end
end

section
open Go.RowKit Go.ChangeShapes Go.WideShapes

section
variable {H : Type} {enc : TypeId × Value → H} {P : Program} {w : World} {base : Nat} {spare : Nat → Bool} {held : Bool}
theorem opens_ent {t ti : TypeId} {f0 f1 : Field} [Inhabited Ent] (ht : P.underlying t = some (.struct #[f0, f1])) (hone : Deep.oneCellFields P #[f0, f1] = true) (hC : P.cellsOf t = 2)
    (e : [f0.type, f1.type] = [ti, ti]) (hi : P.underlying ti = some (.int .i64)) : Opens enc P w base spare held t Kind.ent := by
  simp only [List.cons.injEq, and_true] at e
  obtain ⟨e0, e1⟩ := e
  intro fuel cs x h
  obtain ⟨xs, n, _, _, hcl, hlen, hg⟩ := DataW.trod_struct ht h
  rw [hC] at hcl
  match cs, hcl with
  | [c0, c1], _ =>
    obtain ⟨o0, k0⟩ := Deep.hone_of hone 0 f0 rfl
    obtain ⟨o1, k1⟩ := Deep.hone_of hone 1 f1 rfl
    match xs, hlen with
    | [y0, y1], _ =>
      have h0 : DataW.trod enc P w base spare held n f0.type [c0] = some y0 := by simpa [o0, k0] using hg 0 f0 rfl
      have h1 : DataW.trod enc P w base spare held n f1.type [c1] = some y1 := by simpa [o1, k1] using hg 1 f1 rfl
      rw [e0] at h0
      rw [e1] at h1
      obtain ⟨a0, q0⟩ := opens_int hi _ _ _ h0
      obtain ⟨a1, q1⟩ := opens_int hi _ _ _ h1
      have q0' : [c0] = [.int .i64 a0] := q0
      have q1' : [c1] = [.int .i64 a1] := q1
      simp only [List.cons.injEq, and_true] at q0' q1'
      subst q0' q1'
      exact ⟨⟨a0, a1⟩, rfl⟩
instance : Inhabited Ent := ⟨Ent.zero⟩
end
section
variable {H : Type} {enc : TypeId × Value → H} {w : World} {base : Nat} {spare : Nat → Bool} {held : Bool}
end
end

section
open Go.RowKit Go.ChangeShapes Go.WideShapes

section
variable {H : Type} {enc : TypeId × Value → H} {P : Program} {w : World} {base : Nat} {spare : Nat → Bool} {held : Bool}
/-- A struct of six fields, a cell each. -/
theorem opens_six {t : TypeId} {f0 f1 f2 f3 f4 f5 : Field} (ht : P.underlying t = some (.struct #[f0, f1, f2, f3, f4, f5])) (hone : Deep.oneCellFields P #[f0, f1, f2, f3, f4, f5] = true) (hC : P.cellsOf t = 6)
    {fuel : Nat} {cs : List Value} {x : DataW H × List MemPlace} (h : DataW.trod enc P w base spare held fuel t cs = some x) :
    ∃ c0 c1 c2 c3 c4 c5, cs = [c0, c1, c2, c3, c4, c5] ∧ ∃ n y0 y1 y2 y3 y4 y5, DataW.trod enc P w base spare held n f0.type [c0] = some y0 ∧ DataW.trod enc P w base spare held n f1.type [c1] = some y1 ∧
      DataW.trod enc P w base spare held n f2.type [c2] = some y2 ∧ DataW.trod enc P w base spare held n f3.type [c3] = some y3 ∧ DataW.trod enc P w base spare held n f4.type [c4] = some y4 ∧ DataW.trod enc P w base spare held n f5.type [c5] = some y5 := by
  obtain ⟨xs, n, _, _, hcl, hlen, hg⟩ := DataW.trod_struct ht h
  rw [hC] at hcl
  match cs, hcl with
  | [c0, c1, c2, c3, c4, c5], _ =>
    obtain ⟨o0, k0⟩ := Deep.hone_of hone 0 f0 rfl
    obtain ⟨o1, k1⟩ := Deep.hone_of hone 1 f1 rfl
    obtain ⟨o2, k2⟩ := Deep.hone_of hone 2 f2 rfl
    obtain ⟨o3, k3⟩ := Deep.hone_of hone 3 f3 rfl
    obtain ⟨o4, k4⟩ := Deep.hone_of hone 4 f4 rfl
    obtain ⟨o5, k5⟩ := Deep.hone_of hone 5 f5 rfl
    match xs, hlen with
    | [y0, y1, y2, y3, y4, y5], _ =>
      exact ⟨c0, c1, c2, c3, c4, c5, rfl, n, y0, y1, y2, y3, y4, y5, by simpa [o0, k0] using hg 0 f0 rfl, by simpa [o1, k1] using hg 1 f1 rfl, by simpa [o2, k2] using hg 2 f2 rfl, by simpa [o3, k3] using hg 3 f3 rfl, by simpa [o4, k4] using hg 4 f4 rfl, by simpa [o5, k5] using hg 5 f5 rfl⟩
instance : Inhabited Rec := ⟨Rec.zero⟩
instance : Inhabited Bat := ⟨Bat.zero⟩
instance : Inhabited Ent := ⟨Ent.zero⟩
theorem opens_rec {t ti tb ts : TypeId} {n0 n1 n2 n3 n4 n5 : Field} (ht : P.underlying t = some (.struct #[n0, n1, n2, n3, n4, n5])) (hone : Deep.oneCellFields P #[n0, n1, n2, n3, n4, n5] = true) (hC : P.cellsOf t = 6)
    (e : [n0.type, n1.type, n2.type, n3.type, n4.type, n5.type] = [ti, ti, tb, ts, tb, ts]) (hi : P.underlying ti = some (.int .i64)) (hb : P.underlying tb = some .bool) (hs : P.underlying ts = some (.slice ti)) (h1 : P.cellsOf ti = 1) :
    Opens enc P w base spare held t Kind.rec_ := by
  simp only [List.cons.injEq, and_true] at e
  obtain ⟨e0, e1, e2, e3, e4, e5⟩ := e
  intro fuel cs x h
  obtain ⟨c0, c1, c2, c3, c4, c5, rfl, n, y0, y1, y2, y3, y4, y5, h0, h1', h2, h3, h4, h5⟩ := opens_six ht hone hC h
  rw [e0] at h0
  rw [e1] at h1'
  rw [e2] at h2
  rw [e3] at h3
  rw [e4] at h4
  rw [e5] at h5
  have os : Opens enc P w base spare held ts (Kind.slice (Kind.int .i64)) := opens_slice hs h1 (opens_int hi)
  obtain ⟨a0, q0⟩ := opens_int hi _ _ _ h0
  obtain ⟨a1, q1⟩ := opens_int hi _ _ _ h1'
  obtain ⟨a2, q2⟩ := opens_bool hb _ _ _ h2
  obtain ⟨a3, A, c, q3, r3⟩ := os _ _ _ h3
  obtain ⟨a4, q4⟩ := opens_bool hb _ _ _ h4
  obtain ⟨a5, A', c', q5, r5⟩ := os _ _ _ h5
  have q0' : [c0] = [.int .i64 a0] := q0
  have q1' : [c1] = [.int .i64 a1] := q1
  have q2' : [c2] = [.bool a2] := q2
  have q4' : [c4] = [.bool a4] := q4
  simp only [List.cons.injEq, and_true] at q0' q1' q2' q3 q4' q5
  subst q0' q1' q2' q3 q4' q5
  exact ⟨⟨a0, a1, a2, a3, a4, a5⟩, A, c, A', c', rfl, r3, r5⟩
theorem opens_bat {t ti tb ts er : TypeId} {n0 n1 n2 n3 n4 n5 : Field} (ht : P.underlying t = some (.struct #[n0, n1, n2, n3, n4, n5])) (hone : Deep.oneCellFields P #[n0, n1, n2, n3, n4, n5] = true) (hC : P.cellsOf t = 6)
    (e : [n0.type, n1.type, n2.type, n3.type, n4.type, n5.type] = [tb, tb, ti, ti, ti, ts]) (hi : P.underlying ti = some (.int .i64)) (hb : P.underlying tb = some .bool) (hs : P.underlying ts = some (.slice er)) (h1 : P.cellsOf er = 6)
    (hr : Opens enc P w base spare held er Kind.rec_) : Opens enc P w base spare held t Kind.bat := by
  simp only [List.cons.injEq, and_true] at e
  obtain ⟨e0, e1, e2, e3, e4, e5⟩ := e
  intro fuel cs x h
  obtain ⟨c0, c1, c2, c3, c4, c5, rfl, n, y0, y1, y2, y3, y4, y5, h0, h1', h2, h3, h4, h5⟩ := opens_six ht hone hC h
  rw [e0] at h0
  rw [e1] at h1'
  rw [e2] at h2
  rw [e3] at h3
  rw [e4] at h4
  rw [e5] at h5
  have os : Opens enc P w base spare held ts (Kind.slice Kind.rec_) := opens_slice hs h1 hr
  obtain ⟨a0, q0⟩ := opens_bool hb _ _ _ h0
  obtain ⟨a1, q1⟩ := opens_bool hb _ _ _ h1'
  obtain ⟨a2, q2⟩ := opens_int hi _ _ _ h2
  obtain ⟨a3, q3⟩ := opens_int hi _ _ _ h3
  obtain ⟨a4, q4⟩ := opens_int hi _ _ _ h4
  obtain ⟨a5, A', c', q5, r5⟩ := os _ _ _ h5
  have q0' : [c0] = [.bool a0] := q0
  have q1' : [c1] = [.bool a1] := q1
  have q2' : [c2] = [.int .i64 a2] := q2
  have q3' : [c3] = [.int .i64 a3] := q3
  have q4' : [c4] = [.int .i64 a4] := q4
  simp only [List.cons.injEq, and_true] at q0' q1' q2' q3' q4' q5
  subst q0' q1' q2' q3' q4' q5
  exact ⟨⟨a0, a1, a2, a3, a4, a5⟩, A', c', rfl, r5⟩
end
theorem cellsInt : Tryd.prog.cellsOf 3 = 1 := by kernel_rfl
section
variable {H : Type} {enc : TypeId × Value → H} {w : World} {base : Nat} {spare : Nat → Bool} {held : Bool}
end
end

section
open Go.RowKit Go.ChangeShapes Go.WideShapes
section
variable {H : Type} {enc : TypeId × Value → H} {w : World} {base : Nat} {spare : Nat → Bool} {held : Bool}
end
end
end Go.Proofs.YtgnjnpfeofhniaaDoor
