/- Regions that draw their order and leave the world alone, inside a round of a loop over a function. -/
import Derived.Test.YtfflhenldegmmaaGr
import Derived.Test.YtfflhenldegmmaaA2
import Derived.RangeFuncNested
import Derived.OrdersIn
import Derived.Deep.QuietTactic
namespace Go.Proofs.Ytfflhenldegmmaa
set_option linter.unusedVariables false
set_option linter.unusedSimpArgs false
open Go.RowKit

def noDefer (o : Oper) : Bool := match o.op with | .defer _ => false | _ => true
theorem noDefer_ne {o : Oper} (h : noDefer o = true) : ∀ c, o.op ≠ .defer c := by
  intro c e
  unfold noDefer at h
  rw [e] at h
  cases h
section
variable {P : Program} {ops : Array Oper} {md : Region.Mode} {C : World → Prop} {n l : Nat}
theorem wpIn_of_quiet_r {o : Oper} {a : Act} {K : Act → Prop} {K' : Act → World → Prop} {Q' : Exit → Act → World → Prop} {w : World} (hnd : noDefer o = true) (hw : C w) (h : ∀ a w', C w' → K a → K' a w')
    (hh : o.quiet P a C K) : o.wpIn (Fence.wide.inRound l) n P a w K' Q' := by
  obtain ⟨v, h1, h2⟩ := hh
  have h3 := h1 w hw
  unfold Oper.quietAt at h3
  refine ⟨fun _ _ => trivial, ?_⟩
  rw [Oper.semAt_eq _ _ _ (noDefer_ne hnd)]
  revert h3
  generalize (execOp a.eval o).run P w = r
  intro h3
  match r, h3 with
  | .ok (.value u) w', h3 =>
    obtain ⟨e1, e2⟩ := h3
    subst e1 e2
    exact h _ _ hw h2
  | .ok .skip w', h3 =>
    obtain ⟨e1, e2⟩ := h3
    subst e1
    rw [e2] at h2
    exact h _ _ hw h2
  | .ok (.enter f args) w', h3 =>
    obtain ⟨e1, hc⟩ := h3
    subst e1
    refine ⟨fun e => (by cases e), ?_⟩
    have hc' : CallsIn Fence.wide (n - 1) P f args w' _ := callsIn_wide.2 hc
    exact CallsIn.mono (F := Fence.wide.inRound l) hc' fun e w'' he => by
      obtain ⟨rfl, hw''⟩ := he
      exact h _ _ hw'' h2
theorem wpOpIn_of_quiet_r (hnd : ops.toList.all noDefer = true) {i : Nat} {a : Act} {K : Act → Prop} {K' : Act → World → Prop} {Q' : Exit → Act → World → Prop} {w : World} (hC : C w) (h : ∀ a w', C w' → K a → K' a w') (hh : qOp P ops C i K a) :
    wpOpIn (Fence.wide.inRound l) n P ops Q' i K' a w := by
  unfold qOp at hh
  unfold wpOpIn
  cases ho : ops[i]? with
  | none => rw [ho] at hh; exact h _ _ hC hh
  | some o =>
    rw [ho] at hh
    have hmem : noDefer o = true := List.all_eq_true.1 hnd o (by
      have : ops.toList[i]? = some o := by simpa using ho
      exact List.mem_of_getElem? this)
    by_cases hw : Region.wanted o (yielded ops a.tmps) = true
    · simp only [hw, if_true] at hh ⊢
      exact wpIn_of_quiet_r hmem hC h hh
    · simp only [hw, if_false, Bool.false_eq_true] at hh ⊢
      exact ⟨fun _ _ => trivial, h _ _ hC hh⟩
theorem wpAnyIn_of_quiet_r (hnd : ops.toList.all noDefer = true) {Q : Act → Prop} {Q' : Exit → Act → World → Prop} (hQ : ∀ a w, C w → Q a → Q' .normal a w) (fuel : Nat) : ∀ (listed : Array Bool) (a : Act) (w : World), C w →
    wpAnyQ P md ops C Q fuel listed a → wpAnyIn (Fence.wide.inRound l) n P md ops Q' fuel listed a w := by
  induction fuel with
  | zero => exact fun _ _ _ hw h => ⟨h.1, hQ _ _ hw h.2⟩
  | succ fuel ih => exact fun _ _ _ hw h => ⟨fun h0 => hQ _ _ hw (h.1 h0), fun i hi => wpOpIn_of_quiet_r hnd hw (fun a' w' hw' => ih _ a' w' hw') (h.2 i hi)⟩
/-- One walk in the text's order, inside a round. -/
theorem wpIn_region_drew_r {id : Nat} {Q : Exit → Act → World → Prop} {a : Act} {w : World} {L : List Oper} (hnd : L.all noDefer = true) (hm : P.follows .mixedOrders = true) (hB : Region.lexB .any L.toArray = true)
    (h : wpQuiet P L.toArray (fun w' => ∃ k, w' = w.drewN k) (fun a' => ∀ w', (∃ k, w' = w.drewN k) → Q .normal a' w') L a) : (Code.region id L.toArray true).wpIn (Fence.wide.inRound l) n P Q a w := by
  have hB' := hB
  simp only [Region.lexB, Bool.and_eq_true] at hB'
  refine wpIn_region_any hm (wpAnyIn_of_quiet_r (C := fun w' => ∃ k, w' = w.drewN k) (by simpa using hnd) (Q := fun a' => ∀ w', (∃ k, w' = w.drewN k) → Q .normal a' w') (fun _ w' hw' h => h w' hw') _ _ _ _ ⟨1, rfl⟩ ?_)
  have := wpAnyQ_lex (C := fun w' => ∃ k, w' = w.drewN k) (md := .any) hB'.1 L 0 (Array.replicate L.toArray.size false) a (by simp) (by simpa using hB'.2) h
  simpa using this
end
end Go.Proofs.Ytfflhenldegmmaa
