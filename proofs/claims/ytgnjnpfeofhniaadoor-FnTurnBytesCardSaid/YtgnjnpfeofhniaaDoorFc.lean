/- Closed facts on the translation's head, by its first three words alone. -/
import Derived.Test.YtgnjnpfeofhniaaDoorRows
import Derived.WalkKit
import Derived.ProofKit
import Derived.KernelRfl
namespace Go.Proofs.YtgnjnpfeofhniaaDoor
set_option linter.unusedVariables false
set_option linter.unusedSimpArgs false
def sp : Char := Char.ofNat 32
theorem words_append (l r : List Char) : wordsSigns (l ++ sp :: r) = wordsSigns l ++ wordsSigns r := by
  induction l with
  | nil => rfl
  | cons a t ih =>
    by_cases h : a = sp
    · subst h
      show [] :: wordsSigns (t ++ sp :: r) = _
      rw [ih]; rfl
    · have step : ∀ l : List Char, wordsSigns (a :: l) = match wordsSigns l with | w :: ws => (a :: w) :: ws | [] => [[a]] := by
        intro l
        conv => lhs; unfold wordsSigns
        split
        · rename_i e; cases e
        · rename_i e; simp only [List.cons.injEq] at e; exact absurd e.1 h
        · rename_i e; simp only [List.cons.injEq] at e; obtain ⟨rfl, rfl⟩ := e; rfl
      rw [List.cons_append, step, step, ih]
      cases hw : wordsSigns t with
      | nil =>
        exfalso
        cases t with
        | nil => simp [wordsSigns] at hw
        | cons b u =>
          unfold wordsSigns at hw
          split at hw
          · cases hw
          · cases hw
          · split at hw <;> cases hw
      | cons w ws => rfl
theorem io : Tryd.prog.initOrder = "harness 28070433440d52209b2ac164055fc8a224bcc24973f5623430ff41e349b08987 cut at loop.example/recordbatches/laws.FnTurnBytes" := by kernel_rfl
theorem io1 : ("harness 28070433440d52209b2ac164055fc8a224bcc24973f5623430ff41e349b08987 cut at loop.example/recordbatches/laws.FnTurnBytes" : String) = "harness 28070433440d52209b2ac164055fc8a224bcc24973f5623430ff41e349b08987 cut" ++ (" " ++ "at loop.example/recordbatches/laws.FnTurnBytes") := by kernel_rfl
theorem pre3 : wordsSigns "harness 28070433440d52209b2ac164055fc8a224bcc24973f5623430ff41e349b08987 cut".toList = ["harness".toList, "28070433440d52209b2ac164055fc8a224bcc24973f5623430ff41e349b08987".toList, "cut".toList] := by kernel_rfl
theorem head3 : ∃ rest, behindMainWord (wordsSigns Tryd.prog.initOrder.toList) = "cut".toList :: rest := by
  refine ⟨wordsSigns "at loop.example/recordbatches/laws.FnTurnBytes".toList, ?_⟩
  rw [io, io1, String.toList_append, String.toList_append, show " ".toList = [sp] from rfl, List.singleton_append, words_append, pre3]
  have h : ∀ rest, behindMainWord (["harness".toList, "28070433440d52209b2ac164055fc8a224bcc24973f5623430ff41e349b08987".toList, "cut".toList] ++ rest) = "cut".toList :: rest := fun rest => by kernel_rfl
  exact h _
theorem strip_cut (rest : List (List Char)) : stripLifts liftWords ("cut".toList :: rest) = ([], "cut".toList :: rest) := by kernel_rfl
theorem mayEnter_of {P : Program} {rest : List (List Char)} (h : behindMainWord (wordsSigns P.initOrder.toList) = "cut".toList :: rest) (e : P.laysLater = false) (e2 : P.bearsReflect = false) (e3 : P.doorFits [] = true) : P.mayEnter = true := by
  unfold Program.mayEnter
  rw [h]
  simp only [strip_cut, e, e2, e3]
  simp
theorem lifts_of {P : Program} {rest : List (List Char)} (h : behindMainWord (wordsSigns P.initOrder.toList) = "cut".toList :: rest) : P.liftsFinal = false := by
  unfold Program.liftsFinal Program.headLifts
  rw [h]
  simp only [strip_cut]
  simp
theorem make_of {P : Program} {rest : List (List Char)} (h : behindMainWord (wordsSigns P.initOrder.toList) = "cut".toList :: rest) : P.make = some .cut := by
  unfold Program.make
  rw [h]
  simp
theorem factLays : Tryd.prog.laysLater = false := by kernel_rfl
theorem factReflect : Tryd.prog.bearsReflect = false := by kernel_rfl
theorem factDoor : Tryd.prog.doorFits [] = true := by kernel_rfl
theorem factMayEnter : Tryd.prog.mayEnter = true := by
  obtain ⟨rest, h⟩ := head3
  exact mayEnter_of h factLays factReflect factDoor
theorem factLifts : Tryd.prog.liftsFinal = false := by
  obtain ⟨rest, h⟩ := head3
  exact lifts_of h
theorem factMake : Tryd.prog.make = some .cut := by
  obtain ⟨rest, h⟩ := head3
  exact make_of h
theorem and2 {a b : Bool} (h : a = true) (k : b = true) : (a && b) = true := by rw [h, k]; rfl
end Go.Proofs.YtgnjnpfeofhniaaDoor
