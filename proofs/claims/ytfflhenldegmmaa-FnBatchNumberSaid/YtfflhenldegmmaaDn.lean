/- Draws: how many numbers. -/
import Derived.Test.YtfflhenldegmmaaD1
namespace Go.Proofs.Ytfflhenldegmmaa
set_option linter.unusedVariables false
set_option linter.unusedSimpArgs false
open Go.RowKit

/-- .. at most N numbers. -/
def RdN (w : World) (g N : Nat) : Prop := ∃ p, p ≤ N ∧ Rd w g p
theorem RdN.lt {w : World} {g N : Nat} (h : RdN w g N) : g < w.heap.size := h.elim fun _ h => h.2.lt
theorem RdN.chg {w w' : World} {g N : Nat} {F : Nat → Prop} (h : RdN w g N) (hc : Chg F w w') (hF : ∀ b, F b → g < b) : RdN w' g N := h.elim fun p h => ⟨p, h.1, h.2.chg hc hF⟩
theorem RdN.below {w w' : World} {g N : Nat} (h : RdN w g N) (hb : Below w.heap.size w w') : RdN w' g N := h.elim fun p h => ⟨p, h.1, h.2.below hb⟩
theorem RdN.le {w : World} {g N M : Nat} (h : RdN w g N) (hm : N ≤ M) : RdN w g M := h.elim fun p h => ⟨p, Nat.le_trans h.1 hm, h.2⟩
theorem pickN (g N : Nat) (n : Int) (w : World) (h : RdN w g N) (hp : N ≤ 1000000) (hn : 1 ≤ n) (hn1 : n ≤ 1000000) :
    Calls Try.prog 36 #[.pointer (some ⟨g, 0, none⟩), .int .i64 n] w fun e w' => ∃ v : Int, e = .returned (.int .i64 v) ∧ 0 ≤ v ∧ v < n ∧ RdN w' g (N + 1) ∧ Chg (fun b => b = g) w w' := by
  obtain ⟨p, hpN, hr⟩ := h
  refine (pick_any g p n w hr (by omega) hn hn1).mono ?_
  rintro e w' ⟨v, rfl, h0, h1, h2, h3⟩
  exact ⟨v, rfl, h0, h1, ⟨p + 1, by omega, h2⟩, h3⟩
theorem Chg.same_g {g : Nat} {a b c : World} (h : Chg (fun b => b = g) a b) (k : Chg (fun b => b = g) b c) : Chg (fun b => b = g) a c := h.then k (fun _ _ h => h)

theorem lit_at {w : World} {g : Nat} {t : TypeId} (xs : List Int) (h : w.heap[g]? = some (.cells (xs.map (Value.int .i64)).toArray t (0, 0))) {v : Int} (h0 : 0 ≤ v) (h1 : v < xs.length) :
    ∃ x, w.cell? ⟨g, v.toNat, none⟩ = some (.int .i64 x) := by
  have hl : v.toNat < xs.length := by omega
  exact ⟨xs[v.toNat], by simp [World.cell?, h, hl]⟩
end Go.Proofs.Ytfflhenldegmmaa
