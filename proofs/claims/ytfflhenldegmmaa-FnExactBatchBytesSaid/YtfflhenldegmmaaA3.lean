/- append(v, ys...) where the elements lead to nothing; copies of ints. -/
import Derived.Test.YtfflhenldegmmaaA2
import Derived.Lib.SliceRun
namespace Go.Proofs.Ytfflhenldegmmaa
set_option linter.unusedVariables false
set_option linter.unusedSimpArgs false
open Go.RowKit

def Kind.Flat {α : Type} (d : Kind α) : Prop := ∀ (w : World) (F F' : Nat → Prop) (x : α) (cs : List Value), d.K w F x cs → d.K w F' x cs
theorem flat_int (k : IntKind) : (Kind.int k).Flat := fun _ _ _ _ _ h => h
theorem flat_ent : Kind.ent.Flat := fun _ _ _ _ _ h => h
section
variable {P : Program} {ops : Array Oper} {rest : List Oper} {o : Oper} {a : Act} {Q : Exit → Act → World → Prop} {α : Type}
theorem run_appF (d : Kind α) {e : TypeId} {W : World} {R : Nat → Prop} {v : Value} {xs ys : List α} (HO : AppP d e W R v xs) (t ty : TypeId) (z : Value) (bytes : Nat)
    (ht : P.underlying t = some (.slice e)) (hinfo : (P.info? e).map (fun i => (i.zero, i.size, i.bytes)) = some (some z, d.sz, bytes)) (hz : z.cells.size = d.sz)
    (hb : d.Bnd) (h1 : d.One) (hfl : d.Flat) {A : Option Addr} {c : Nat} {G : Nat → Prop} (hy : d.Row W G A c ys)
    (hnew : ∀ b, W.heap.size ≤ b → R b) (h63 : xs.length + ys.length ≤ 1099511627776) (hl : (xs.length + ys.length) * bytes ≤ 140737488355328) :
    ∃ v1 w1, (Builtin.append_ #[t, t] ty #[v, .slice A ys.length c]).run P W = .ok v1 w1 ∧ AppP d e w1 R v1 (xs ++ ys) ∧ Chg (fun b => v.ownBlock = some b) W w1 ∧ (v1.ownBlock = v.ownBlock ∨ ∃ b, v1.ownBlock = some b ∧ W.heap.size ≤ b) := by
  have HO' := HO
  obtain ⟨F, inner, hown, hP, hF, hE⟩ := HO
  obtain ⟨i0, hi, hz0, hz1, hz2⟩ := info_of hinfo
  cases A with
  | none =>
    have hnil : ys = [] := Classical.byContradiction fun hx => by
      obtain ⟨ad, e, _⟩ := hy.2.2 hx
      cases e
    subst hnil
    exact ⟨v, W, run_append_own_nil (P := P) 0 t ty e i0 d.sz c ht hi v _ inner hown, by simpa using HO', Chg.refl _ _, .inl rfl⟩
  | some ad =>
    obtain ⟨news, hn1, hn2, hn3, hn4⟩ := hy.flat ys.length (Nat.le_refl _)
    obtain ⟨v', w', hrun, h2, h3, _, h5⟩ := run_append_own_at (P := P) W 0 t ty e i0 z d.sz bytes ht hi hz0 hz1 hz2 hz hb.1 v xs.length inner hown ad ys.length c news hn1 hn2
      (fun u hu => by obtain ⟨x, cs, hK, hm⟩ := hn4 u hu; exact h1 _ _ _ _ hK u hm) (by simp only [maxLen]; omega) hl (by simp)
    have hg : Chg (fun b => v.ownBlock = some b) W w' := ⟨h3.os, h3.tape, h3.output, h3.size, fun b hb hn => h3.block b hb (fun e => hn e.symm)⟩
    refine ⟨v', w', hrun, AppP.addAll (G := fun _ => False) hown hF hE (fun j x hj => by
      obtain ⟨cs, hK, hc⟩ := hn3 j x (List.getElem?_eq_some_iff.1 hj).1 hj
      exact ⟨cs, hfl _ _ _ _ _ hK, hc⟩) (fun b hb => hb.elim) h2 hg hP hnew ?_, hg, ?_⟩
    all_goals
      rcases h5 with h5 | h5
      · exact .inl h5
      · exact .inr ⟨_, h5, Nat.le_refl _⟩
theorem wpList_appF (d : Kind α) {e : TypeId} {W : World} {R : Nat → Prop} {v : Value} {xs ys : List α} (HO : AppP d e W R v xs) (hgd : o.guard = none) (s x : Operand) (t : TypeId) (z : Value) (bytes : Nat)
    (ho : o.op = .call { callee := .builtin .append, args := #[s, x], argTypes := #[t, t] })
    (ht : P.underlying t = some (.slice e)) (hinfo : (P.info? e).map (fun i => (i.zero, i.size, i.bytes)) = some (some z, d.sz, bytes)) (hz : z.cells.size = d.sz)
    (hb : d.Bnd) (h1 : d.One) (hfl : d.Flat) {A : Option Addr} {c n : Nat} {G : Nat → Prop} (hs : a.eval s = v) (hx : a.eval x = .slice A n c) (hn : ys.length = n) (hy : d.Row W G A c ys)
    (hnew : ∀ b, W.heap.size ≤ b → R b) (h63 : xs.length + ys.length ≤ 1099511627776) (hl : (xs.length + ys.length) * bytes ≤ 140737488355328)
    (h : ∀ v1 w1, AppP d e w1 R v1 (xs ++ ys) → Chg (fun b => v.ownBlock = some b) W w1 → (v1.ownBlock = v.ownBlock ∨ ∃ b, v1.ownBlock = some b ∧ W.heap.size ≤ b) → wpList P ops Q rest (a.put o.dst v1) w1) :
    wpList P ops Q (o :: rest) a W := by
  subst hn
  obtain ⟨v1, w1, hrun, h2, h3, h4⟩ := run_appF (P := P) d HO t o.type z bytes ht hinfo hz hb h1 hfl hy hnew h63 hl
  refine wpList_plain hgd fun K hK => ?_
  unfold Oper.wp execOp
  simp only [ho, resolve, invoke, builtin, Sem.run_bind, Sem.run_pure, Result.andThen_ok, List.map_toArray, List.map_cons, List.map_nil, hs, hx, hrun]
  exact hK _ _ (h v1 w1 h2 h3 h4)
theorem step_appF (d : Kind α) {e : TypeId} {W : World} {R : Nat → Prop} {v : Value} {xs ys : List α} {K : Act → World → Prop} {E : Prop} (HO : AppP d e W R v xs) (hgd : o.guard = none) (s x : Operand) (t : TypeId) (z : Value) (bytes : Nat)
    (ho : o.op = .call { callee := .builtin .append, args := #[s, x], argTypes := #[t, t] })
    (ht : P.underlying t = some (.slice e)) (hinfo : (P.info? e).map (fun i => (i.zero, i.size, i.bytes)) = some (some z, d.sz, bytes)) (hz : z.cells.size = d.sz)
    (hb : d.Bnd) (h1 : d.One) (hfl : d.Flat) {A : Option Addr} {c n : Nat} {G : Nat → Prop} (hs : a.eval s = v) (hx : a.eval x = .slice A n c) (hn : ys.length = n) (hy : d.Row W G A c ys)
    (hnew : ∀ b, W.heap.size ≤ b → R b) (h63 : xs.length + ys.length ≤ 1099511627776) (hl : (xs.length + ys.length) * bytes ≤ 140737488355328)
    (h : ∀ v1 w1, AppP d e w1 R v1 (xs ++ ys) → Chg (fun b => v.ownBlock = some b) W w1 → (v1.ownBlock = v.ownBlock ∨ ∃ b, v1.ownBlock = some b ∧ W.heap.size ≤ b) → K (a.put o.dst v1) w1) :
    if Region.wanted o (yielded ops a.tmps) = true then Oper.wp P o a W K Q else E := by
  subst hn
  have hw : Region.wanted o (yielded ops a.tmps) = true := by simp [Region.wanted, hgd]
  rw [if_pos hw]
  obtain ⟨v1, w1, hrun, h2, h3, h4⟩ := run_appF (P := P) d HO t o.type z bytes ht hinfo hz hb h1 hfl hy hnew h63 hl
  unfold Oper.wp execOp
  simp only [ho, resolve, invoke, builtin, Sem.run_bind, Sem.run_pure, Result.andThen_ok, List.map_toArray, List.map_cons, List.map_nil, hs, hx, hrun]
  exact h v1 w1 h2 h3 h4
end
end Go.Proofs.Ytfflhenldegmmaa
