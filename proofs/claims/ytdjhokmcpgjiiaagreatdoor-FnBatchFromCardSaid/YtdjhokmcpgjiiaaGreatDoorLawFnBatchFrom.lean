/- For every input the law FnBatchFrom returns true, and each argument reads behind the call as it read before. Conditions: none but the card's own (the variable that errors.As reads is tied to the program's text). -/
import Derived.Test.YtdjhokmcpgjiiaaGreatDoorRows
import Derived.Test.YtdjhokmcpgjiiaaGreatDoorLFb
import Derived.Test.YtdjhokmcpgjiiaaGreatDoorFc
import Derived.Test.YtdjhokmcpgjiiaaGreatDoorCards
import Derived.Test.YtdjhokmcpgjiiaaGreatDoorTie
import Derived.Test.YtdjhokmcpgjiiaaGreatDoorCh
import Derived.Test.YtdjhokmcpgjiiaaGreatDoorOp
import Derived.WalkKit
import Derived.ProofKit
import Derived.OpenShut
import Derived.ShutString
import Derived.ChangeOld
import Derived.Below
import Derived.SizedLaws
import Derived.Carry
namespace Go.Proofs.YtdjhokmcpgjiiaaGreatDoor.fnBatchFrom
set_option linter.unusedVariables false
set_option linter.unusedSimpArgs false
open Go.ChangeShapes Go.WideShapes Go.ChangeAt Go.RowKit
set_option linter.unusedVariables false
theorem own : ownKnob Tryz.prog.godebug = none := by kernel_rfl
theorem laidOut : laidOutB Tryz.prog = true := by kernel_rfl
set_option maxRecDepth 100000 in
theorem lifted (os : Os) (started : os.Started) (H : Type) (enc : TypeId × Value → H) :
    ReturnsInHanded {} Tryz.checked os 3 .any (fun w args => (Rows.fnBatchFromSpec.pre enc Tryz.prog Tryz.f3 [] false w args ∧ laidMetH Tryz.prog Rows.fnBatchFromRow.laid w) ∧ sizedMet enc Tryz.prog Tryz.f3 (OpenSpec.ofChange Rows.fnBatchFromSpec) false w args)
      (Rows.fnBatchFromSpec.post enc Tryz.prog Tryz.f3 false true false false) := by
  refine returnsInHanded_of_change_and (C := Tryz.checked) (X := fun w _ => laidMetH Tryz.prog Rows.fnBatchFromRow.laid w) (fun _ _ _ hh h => h.of_heap hh) own started (by kernel_rfl) Tryz.func3
    (ChangeSpec.witness_at (enc := enc) (C := Tryz.checked) (os := os) (X := fun w _ => laidMetH Tryz.prog Rows.fnBatchFromRow.laid w) false (laidWorld os) #[.slice none 0 0] 8 rfl (by kernel_rfl) (by kernel_rfl) (by kernel_rfl) (by kernel_rfl) (by kernel_rfl) (laidWorld_met os _)) ?_
  intro W base args ds gs before hval0 hW hcnd hsz0 hL _
  have hLC : LaidC W := handle_of_laid hL
  have hval : ∀ (j : Nat) t v, Tryz.f3.params[j]? = some t → args[j]? = some v → Value.okWide Tryz.prog W .any base t v := hval0
  have hW' := hW
  obtain ⟨p, q, hA0, hV, rfl, hfz, hnd⟩ := hW
  have hA : DataW.TrodAll enc Tryz.prog W 0 (fun _ => true) true Tryz.f3.params.toList args.toList ds p := hA0
  rw [Tryz.params3] at hA hval
  obtain ⟨v0, vs0, d0, ds0, p0, q0, hargs, rfl, rfl, h0, r0⟩ := trodAll_cons hA
  obtain ⟨rfl, rfl, rfl⟩ := trodAll_nil r0
  obtain rfl : args = #[v0] := by cases args; simp_all
  obtain ⟨rfl, rfl⟩ := trodVars_none hV
  have k0 := h0
  have lt0 : ∀ x ∈ p0, x.block < W.heap.size := by obtain ⟨m, hm⟩ := k0; exact DataW.trod_lt m _ _ _ hm
  obtain ⟨a0, len0, cap0, rfl⟩ := okWide_slice Tryz.underlying22 (hval 0 22 v0 rfl rfl)
  obtain ⟨z0, rfl, w0⟩ : ∃ zs, len0 = List.length zs ∧ Kind.byte.Row W (fun _ => True) a0 cap0 zs := by
    obtain ⟨fuel, hf⟩ := h0
    obtain ⟨zs, A, c, he, hr⟩ := opens_bytes fuel _ _ hf
    simp [Value.cells] at he
    obtain ⟨rfl, rfl, rfl⟩ := he
    exact ⟨zs, rfl, hr⟩
  clear hA0 hval0 hsz0 hL
  refine (batchFromLaw_walk z0 a0 cap0 W w0 hLC).mono fun e W' ⟨he, bel⟩ => ?_
  subst he
  exact ⟨_, rfl, _, _, _, [], _, [], hW', trodAll_mk1 (shut_bool Tryz.underlying4 _), (trodAll_cons_mk (Below.trod laidOut (by kernel_rfl) (of_decide_eq_true (by kernel_rfl)) k0 bel lt0) trodAll_mk0), rfl, bel.frame _, fun h => by cases h⟩
theorem k0 : (Rows.fnBatchFromRow.wf (OpenSpec.ofChange Rows.fnBatchFromSpec)) = true := by kernel_rfl
theorem k1 : (laidOutB Tryz.prog) = true := by kernel_rfl
theorem k2 : (mapsRowed Tryz.prog) = true := by kernel_rfl
theorem k3 : (Tryz.f3.params.all (Tryz.prog.readableRec ·)) = true := by kernel_rfl
theorem k4 : (namedTie Tryz.prog Rows.fnBatchFromRow.named Rows.fnBatchFromSpec.vars) = true := by kernel_rfl
theorem k5 : ((Rows.fnBatchFromRow.stops == [])) = true := by kernel_rfl
theorem k6 : ((Tryz.prog.stops == [])) = true := by kernel_rfl
theorem k7 : ((Rows.fnBatchFromRow.knobs == [])) = true := by kernel_rfl
theorem k8 : ((Tryz.prog.stopKnobs == [])) = true := by kernel_rfl
theorem k9 : ((Rows.fnBatchFromRow.inPlace == Tryz.prog.inPlace 3)) = true := by kernel_rfl
theorem k10 : ((Rows.fnBatchFromRow.unfollowed == Tryz.prog.unfollowed 3)) = true := by kernel_rfl
theorem k11 : ((Rows.fnBatchFromRow.recurses == Tryz.prog.recurses 3)) = true := by kernel_rfl
theorem k12 : ((Rows.fnBatchFromRow.named == Tryz.prog.varsNamed 3)) = true := by kernel_rfl
theorem k13 : ((Rows.fnBatchFromRow.maps == (Tryz.f3.params.toList ++ Rows.fnBatchFromSpec.plain.varTypes Tryz.prog).any (Tryz.prog.mapsRec ·))) = true := by kernel_rfl
theorem k14 : ((Rows.fnBatchFromRow.ifaces == (Tryz.f3.params.toList ++ Rows.fnBatchFromSpec.plain.varTypes Tryz.prog).any (Tryz.prog.ifacesRec ·))) = true := by kernel_rfl
theorem k15 : ((Rows.fnBatchFromRow.mapsOut == Tryz.prog.mapsAmong Tryz.f3.resultTypes.toList)) = true := by kernel_rfl
theorem k16 : ((Rows.fnBatchFromRow.loops == (Tryz.f3.params.toList ++ Rows.fnBatchFromSpec.plain.varTypes Tryz.prog).any (Tryz.prog.loopsFrom ·))) = true := by kernel_rfl
theorem k17 : ((Rows.fnBatchFromRow.wideKeys == (Tryz.f3.params.toList ++ Rows.fnBatchFromSpec.plain.varTypes Tryz.prog ++ Tryz.f3.resultTypes.toList).any (Tryz.prog.wideKeysFrom ·))) = true := by kernel_rfl
theorem k18 : (Rows.fnBatchFromSpec.vars.all (Tryz.prog.varReadable ·)) = true := by kernel_rfl
theorem k19 : (Tryz.f3.resultTypes.all (fun t => Tryz.prog.readableRec t && decide (t < Tryz.prog.types.size))) = true := by kernel_rfl
theorem k20 : ((Rows.fnBatchFromRow.ifacesOut == Tryz.f3.resultTypes.toList.any (Tryz.prog.ifacesRec ·))) = true := by kernel_rfl
theorem k21 : ((Rows.fnBatchFromRow.loopsOut == Tryz.f3.resultTypes.toList.any (Tryz.prog.loopsFrom ·))) = true := by kernel_rfl
theorem k22 : ((Rows.fnBatchFromRow.plainKeys == Tryz.prog.plainKeys)) = true := by kernel_rfl
theorem k23 : (Rows.fnBatchFromRow.shortTexts.isNone) = true := by kernel_rfl
theorem k24 : (Tryz.prog.stopsHeard) = true := by kernel_rfl
theorem k25 : (Tryz.prog.mayEnter) = true := factMayEnter
theorem k26 : ((Rows.fnBatchFromRow.lifted == Tryz.prog.liftsFinal)) = true := by show (false == Tryz.prog.liftsFinal) = true; rw [factLifts]; rfl
theorem k27 : ((Tryz.prog.make == some Rows.fnBatchFromRow.make)) = true := by show (Tryz.prog.make == some .cut) = true; rw [factMake]; rfl
theorem k28 : ((Rows.fnBatchFromRow.kinds == (if Rows.fnBatchFromRow.domain.isEmpty then [] else Tryz.f3.params.toList.map fun t => match Tryz.prog.underlying t with | some (.int k) => some k | _ => none))) = true := by kernel_rfl
theorem k29 : ((Rows.fnBatchFromRow.pinned == Rows.fnBatchFromRow.pinnedBy)) = true := by kernel_rfl
theorem k30 : ((Rows.fnBatchFromRow.veiled == (Tryz.f3.params.toList ++ Rows.fnBatchFromSpec.plain.varTypes Tryz.prog ++ Tryz.f3.resultTypes.toList).any (Tryz.prog.veiledRec ·))) = true := by kernel_rfl
theorem k31 : (Rows.fnBatchFromRow.veiledFits Tryz.prog Tryz.f3.params.toList (Tryz.f3.params.toList ++ Rows.fnBatchFromSpec.plain.varTypes Tryz.prog ++ Tryz.f3.resultTypes.toList)) = true := by kernel_rfl
theorem closed : joinedFacts Tryz.prog 3 Tryz.f3 Rows.fnBatchFromSpec Rows.fnBatchFromRow = true := by unfold joinedFacts; rw [k0, k1, k2, k3, k4, k5, k6, k7, k8, k9, k10, k11, k12, k13, k14, k15, k16, k17, k18, k19, k20, k21, k22, k23, k24, k25, k26, k27, k29, k30, k31]; simp only [Bool.true_and, Bool.and_true]; rw [if_pos (show Rows.fnBatchFromRow.domain.isEmpty = true from rfl)]; rfl
theorem over : Rows.fnBatchFromRow.holds Tryz.pinned (OpenSpec.ofChange Rows.fnBatchFromSpec) :=
  OpenClaim.holds_of_wide 3 Tryz.f3 rfl rfl rfl rfl rfl rfl rfl ⟨rfl, rfl, rfl, rfl, rfl⟩ rfl rfl rfl rfl rfl (by kernel_rfl) Tryz.func3 closed
    (of_decide_eq_true (by kernel_rfl)) (by unfold Func.isWrapper; first | (rw [if_pos (by decide +kernel)]; kernel_rfl) | (rw [if_neg (by decide +kernel)]; exact ⟨rfl, rfl⟩))
    (fun os started H enc _ => lifted os started H enc)
theorem proved : Rows.FnBatchFromCardSaid :=
  Claim7.holds_tied_plain_at .later [] [.handle] true Rows.fnBatchFromCard.stood.harness true
    over (fun _ h => by cases h) (by kernel_rfl) (fun _ h => by cases h) fnBatchFrom_row_tie rfl ⟨rfl, rfl⟩ (by kernel_rfl) rfl
    (fun f fn hf hfn => by
      obtain rfl : f = 3 := Option.some.inj ((show Tryz.prog.funcNamed "loop.example/recordbatches/laws.FnBatchFrom" = some 3 by kernel_rfl).symm.trans hf) |>.symm
      obtain rfl : fn = Tryz.f3 := (Option.some.inj (Tryz.func3.symm.trans hfn)).symm
      exact ⟨by kernel_rfl, fun j t ht => by
        rw [Tryz.params3] at ht
        have hm : t ∈ [22] := List.mem_of_getElem? (by simpa using ht)
        exact (show ∀ t ∈ [22], Tryz.prog.wantsStandIn t = false from (List.forall_mem_cons.2 ⟨by kernel_rfl, (fun _ h => by cases h)⟩)) t hm⟩)
    (by kernel_rfl)
#print axioms proved
end Go.Proofs.YtdjhokmcpgjiiaaGreatDoor.fnBatchFrom
namespace Go.Proofs.YtdjhokmcpgjiiaaGreatDoor
theorem fnBatchFrom_holds : Rows.FnBatchFromCardSaid := fnBatchFrom.proved
end Go.Proofs.YtdjhokmcpgjiiaaGreatDoor
