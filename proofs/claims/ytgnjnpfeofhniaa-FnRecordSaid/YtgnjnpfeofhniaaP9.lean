/- impl.pack: the walk. -/
import Derived.Test.YtgnjnpfeofhniaaP8
import Derived.Test.YtgnjnpfeofhniaaPn
namespace Go.Proofs.Ytgnjnpfeofhniaa
set_option linter.unusedVariables false
set_option linter.unusedSimpArgs false
open Go.RowKit Go.Shelf

theorem alloc7 {w W : World} {o1 o2 o3 o4 o5 o6 o7 : Obj} (h : ((((((w.alloc o1).alloc o2).alloc o3).alloc o4).alloc o5).alloc o6).alloc o7 = W) :
    W.heap[w.heap.size]? = some o1 ∧ W.heap[w.heap.size + 1]? = some o2 ∧ W.heap[w.heap.size + 1 + 1]? = some o3 ∧ W.heap[w.heap.size + 1 + 1 + 1]? = some o4 ∧ W.heap[w.heap.size + 1 + 1 + 1 + 1]? = some o5 ∧ W.heap[w.heap.size + 1 + 1 + 1 + 1 + 1]? = some o6 ∧
      W.heap[w.heap.size + 1 + 1 + 1 + 1 + 1 + 1]? = some o7 ∧ Below w.heap.size w W := by
  generalize hX : (((w.alloc o1).alloc o2).alloc o3).alloc o4 = X at h
  obtain ⟨p1, p2, p3, p4, p5, p6⟩ := alloc5 hX
  generalize hY : (X.alloc o5).alloc o6 = Y at h
  obtain ⟨q1, q2, q3, q4⟩ := alloc2 hY
  obtain ⟨r1, r2, r3⟩ := alloc1 h
  rw [q4, p6] at r1
  rw [p6] at q1 q2
  have b := bthen q3 r2
  exact ⟨blk_below p1 b, blk_below p2 b, blk_below p3 b, blk_below p4 b, blk_below q1 r2, blk_below q2 r2, r1, bthen p5 b⟩
theorem appP_lit {W : World} {g : Nat} {P : Nat → Prop} (h : W.heap[g]? = some (.cells #[] 3 (0, 0))) (hP : P g) : AppP (Kind.int .i64) 3 W P (.slice (some ⟨g, 0, none⟩) 0 0) [] :=
  ⟨fun _ => False, [], ⟨by simp, .inr ⟨g, 0, #[], rfl, Nat.zero_le _, h, Nat.le_refl _, by simp [maxLen], by simp, by simp⟩⟩, fun k hk => by simp [Value.ownBlock] at hk; rw [← hk]; exact hP, fun b hb => hb.elim, fun j x hj => by simp at hj⟩
section
variable {P : Program} {ops : Array Oper} {rest : List Oper} {o : Oper} {a : Act} {Q : Exit → Act → World → Prop} {α : Type}
theorem step_appP1 (d : Kind α) {e : TypeId} {W : World} {R : Nat → Prop} {v : Value} {xs : List α} {K : Act → World → Prop} {E : Prop} (HO : AppP d e W R v xs) (hgd : o.guard = none) (s x : Operand) (t : TypeId) (z : Value) (bytes : Nat)
    (ho : o.op = .call { callee := .builtin .append, args := #[s, x], argTypes := #[t, t] })
    (ht : P.underlying t = some (.slice e)) (hinfo : (P.info? e).map (fun i => (i.zero, i.size, i.bytes)) = some (some z, d.sz, bytes)) (hz : z.cells.size = d.sz) (hs0 : 0 < d.sz)
    (p : α) (cs : List Value) (G : Nat → Prop) (hs : a.eval s = v) (hx : a.eval x = .slice (some ⟨W.heap.size, 0, none⟩) 1 1)
    (hp : d.K W G p cs) (hG : ∀ b, G b → R b ∧ b < W.heap.size ∧ v.ownBlock ≠ some b) (h1 : ∀ u ∈ cs, u.oneCell' = true)
    (hnew : ∀ b, W.heap.size ≤ b → R b) (h63 : xs.length + 1 ≤ 1099511627776) (hl : (xs.length + 1) * bytes ≤ 140737488355328)
    (h : ∀ v1 w1, AppP d e w1 R v1 (xs ++ [p]) → Chg (fun b => v.ownBlock = some b) W w1 → (v1.ownBlock = v.ownBlock ∨ ∃ b, v1.ownBlock = some b ∧ W.heap.size ≤ b) → K (a.put o.dst v1) w1) :
    if Region.wanted o (yielded ops a.tmps) = true then Oper.wp P o a (W.alloc (.cells cs.toArray e)) K Q else E := by
  have hw : Region.wanted o (yielded ops a.tmps) = true := by simp [Region.wanted, hgd]
  rw [if_pos hw]
  obtain ⟨v1, w1, hrun, h2, h3, h4⟩ := run_appP1 (P := P) d HO t o.type z bytes ht hinfo hz hs0 p cs G hp hG h1 hnew h63 hl
  unfold Oper.wp execOp
  simp only [ho, resolve, invoke, builtin, Sem.run_bind, Sem.run_pure, Result.andThen_ok, List.map_toArray, List.map_cons, List.map_nil, hs, hx, hrun]
  exact h v1 w1 h2 h3 h4
end

end Go.Proofs.Ytgnjnpfeofhniaa
