/- Records from bytes: the reference. -/
import Derived.Test.YtgnjnpfeofhniaaV4
import Derived.Test.YtgnjnpfeofhniaaW9
import Derived.Test.YtgnjnpfeofhniaaS2
import Derived.Test.YtgnjnpfeofhniaaGa
namespace Go.Proofs.Ytgnjnpfeofhniaa
set_option linter.unusedVariables false
set_option linter.unusedSimpArgs false
open Go.RowKit

theorem l3Base_any (o t : Int) (w : World) :
    Calls Try.prog 17 #[.int .i64 o, .int .i64 t] w fun e w' => e = .returned (.bool (baseB o t)) ∧ w = w' := by
  cases h1 : inB o 0 99999 <;> have H1 := Lib.hid h1 <;> clear h1
  all_goals
    go_enter Try.func17, Try.ntmps17
    go_wp2_with fail
    refine (l6In_any _ _ _ _).mono ?_
    rintro e w' ⟨rfl, rfl⟩
    rw [H1.out]
    go_wp2_with (go_at_call 26; refine (l6In_any _ _ _ _).mono ?_; rintro e w' ⟨rfl, rfl⟩)
    go_ret
    exact ⟨ret_bool (by unfold baseB; rw [H1.out]; simp), rfl⟩

def get12 (l : List Int) (i : Nat) : Option (Bool × List Int × Nat) := match rdPart l i with
  | none => none
  | some (hk, k, d) => if k.length ≤ 12 then some (hk, k, d) else none
def gHas (q : Option (Bool × List Int × Nat)) : Bool := match q with | none => false | some x => x.1
def gKey (q : Option (Bool × List Int × Nat)) : List Int := match q with | none => [] | some x => x.2.1
def gNext (q : Option (Bool × List Int × Nat)) : Nat := match q with | none => 0 | some x => x.2.2
theorem info_intW : (Try.prog.info? 3).map (fun i => (i.zero, i.size, i.bytes)) = some (some (.int .i64 0), 1, 8) := by kernel_rfl
theorem run_cutlh2 {P : Program} {t e : TypeId} {z : Value} {s b : Nat} (ht : P.underlying t = some (.slice e)) (hinfo : (P.info? e).map (fun i => (i.zero, i.size, i.bytes)) = some (some z, s, b)) (A : Option Addr) (n cap l h : Nat) (L H : Int) (hL : L = (l : Int)) (hH : H = (h : Int)) (hlh : l ≤ h) (hh : h ≤ cap) (w : World) :
    (Instr.slice t (.slice A n cap) (some (.int .i64 L)) (some (.int .i64 H)) none).run P w = .ok (.slice (cutAddr A l cap s) (h - l) (cap - l)) w := by
  subst hL hH
  obtain ⟨i, hi, _, hs, _⟩ := info_of hinfo
  have he : P.elem t = e := by simp [Program.elem, ht]
  rw [run_slice_lh (P := P) (w := w) t A n cap (by rw [he]; exact ht) .i64 .i64 (l : Int) (h : Int) (by omega) (by omega) (by omega)]
  rw [he]
  simp [sizeOf, typeInfo, hi, hs, sliced, cutAddr, Result.andThen]
theorem sameAt_far {l x : List Int} {i : Nat} (hi : i ≤ l.length) (h : l.length < i + x.length) : sameAt l i x = false := by
  unfold sameAt
  rw [beq_eq_false_iff_ne]
  intro e
  have := congrArg List.length e
  rw [List.length_take, List.length_drop] at this
  omega
end Go.Proofs.Ytgnjnpfeofhniaa
