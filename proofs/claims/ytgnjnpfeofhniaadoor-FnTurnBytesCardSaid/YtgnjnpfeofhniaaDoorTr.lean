/- Messages of the old form turned into a batch: the program's and the reference's OldTurn. -/
import Derived.Test.YtgnjnpfeofhniaaDoorOt
import Derived.Test.YtgnjnpfeofhniaaDoorB3
namespace Go.Proofs.YtgnjnpfeofhniaaDoor
set_option linter.unusedVariables false
set_option linter.unusedSimpArgs false
open Go.RowKit

/-- The numbers of a region: operations, slots; the load of the row, of the message; the call and its slot; the literal and its slot; the appending and its slot; the store. -/
structure TN where
  n : Nat
  N : Nat
  jl : Nat
  jm : Nat
  jc : Nat
  yc : Nat
  jt : Nat
  yt : Nat
  ja : Nat
  ya : Nat
  js : Nat
def PostAt (m : Old') (xs : List Rec) (R : Nat → Prop) (v0 : Value) (W0 : World) (v1 : Value) (w1 : World) : Prop :=
  AppX RX 46 w1 R w1.heap.size v1 (xs ++ [m.rec_]) ∧ ∃ Wl, Below W0.heap.size W0 Wl ∧ Chg (fun b => v0.ownBlock = some b) Wl w1
structure TI (p : TN) (dst : Nat → Nat) (cst fx : Nat → Option Value) (m : Old') (v0 : Value) (xs : List Rec) (bb : Nat) (R : Nat → Prop) (W0 : World) (L : Array Bool) (a : Act) (w : World) : Prop where
  dfr : a.defers = []
  size : a.tmps.size = p.N
  fix : ∀ t v, fx t = some v → a.tmps.getD t undef = v
  smp : ∀ j, j < p.n → L.getD j false = true → ∀ v, cst j = some v → a.tmps.getD (dst j) undef = v
  oc : L.getD p.jc false = true → L.getD p.jm false = true
  oa : L.getD p.ja false = true → L.getD p.jl false = true
  ot : L.getD p.jt false = true → L.getD p.jc false = true
  oat : L.getD p.ja false = true → L.getD p.jt false = true
  os : L.getD p.js false = true → L.getD p.ja false = true
  pA : L.getD p.jc false = false → w = W0
  pC : L.getD p.jc false = true → L.getD p.jt false = false → ∃ vk vv, a.tmps.getD p.yc undef = .agg (RV m vk vv) ∧ Copied W0 w m.rec_ vk vv
  pT : L.getD p.jt false = true → L.getD p.ja false = false → ∃ Wl vk vv, w = Wl.alloc (.cells (RV m vk vv) 46) ∧ a.tmps.getD p.yt undef = .slice (some ⟨Wl.heap.size, 0, none⟩) 1 1 ∧ Copied W0 Wl m.rec_ vk vv
  pP : L.getD p.ja false = true → L.getD p.js false = false → PostAt m xs R v0 W0 (a.tmps.getD p.ya undef) w
  pS : L.getD p.js false = true → ∃ w1, w = w1.setCell ⟨bb, 5, none⟩ (a.tmps.getD p.ya undef) ∧ PostAt m xs R v0 W0 (a.tmps.getD p.ya undef) w1
theorem nof {a b : Bool} (h : a = true → b = true) (hb : b = false) : a = false := by cases a with | false => rfl | true => have := h rfl; rw [hb] at this; cases this
section
variable {p : TN} {dst : Nat → Nat} {cst fx : Nat → Option Value} {m : Old'} {v0 : Value} {xs : List Rec} {bb : Nat} {R : Nat → Prop} {W0 : World} {L : Array Bool} {T : Array Value} {w w' : World}
theorem TI.smp' (h : TI p dst cst fx m v0 xs bb R W0 L { tmps := T, defers := [] } w) {i d : Nat} {v : Value} (hL : L.size = p.n) (hi : i < p.n) (hd : dst i = d) (hdT : d < p.N) (hinj : ∀ j, j < p.n → j ≠ i → dst j ≠ d) (hv : ∀ u, cst i = some u → v = u) :
    ∀ j, j < p.n → (L.setIfInBounds i true).getD j false = true → ∀ u, cst j = some u → (T.setIfInBounds d v).getD (dst j) undef = u := by
  intro j hj hLj u hu
  have hTs : T.size = p.N := h.size
  by_cases hji : j = i
  · subst hji
    rw [hd, put_same (by omega)]
    exact hv u hu
  · rw [put_ne (Ne.symm hji)] at hLj
    exact (put_ne (Ne.symm (hinj j hj hji))).trans (h.smp j hj hLj u hu)
theorem TI.simple (h : TI p dst cst fx m v0 xs bb R W0 L { tmps := T, defers := [] } w) {i d : Nat} {v : Value} (hL : L.size = p.n) (hi : i < p.n) (hd : dst i = d) (hdT : d < p.N) (hfx : fx d = none) (hinj : ∀ j, j < p.n → j ≠ i → dst j ≠ d) (hv : ∀ u, cst i = some u → v = u)
    (hno : (i ≠ p.jc ∧ i ≠ p.jt ∧ i ≠ p.ja ∧ i ≠ p.js) ∧ (d ≠ p.yc ∧ d ≠ p.yt ∧ d ≠ p.ya)) :
    TI p dst cst fx m v0 xs bb R W0 (L.setIfInBounds i true) { tmps := T.setIfInBounds d v, defers := [] } w := by
  obtain ⟨⟨n1, n2, n3, n4⟩, m1, m2, m3⟩ := hno
  refine ⟨rfl, by simpa using h.size, fun t u hu => (put_ne (fun e => by subst e; rw [hfx] at hu; cases hu)).trans (h.fix t u hu), h.smp' hL hi hd hdT hinj hv, ?_, ?_, ?_, ?_, ?_, ?_, ?_, ?_, ?_, ?_⟩
  · rw [put_ne n1]
    intro hh
    by_cases e : i = p.jm
    · subst e; exact set_self (by omega)
    · rw [put_ne e]; exact h.oc hh
  · rw [put_ne n3]
    intro hh
    by_cases e : i = p.jl
    · subst e; exact set_self (by omega)
    · rw [put_ne e]; exact h.oa hh
  · rw [put_ne n1, put_ne n2]; exact h.ot
  · rw [put_ne n2, put_ne n3]; exact h.oat
  · rw [put_ne n3, put_ne n4]; exact h.os
  · rw [put_ne n1]; exact h.pA
  · rw [put_ne n1, put_ne n2, put_ne m1]; exact h.pC
  · rw [put_ne n2, put_ne n3, put_ne m2]; exact h.pT
  · rw [put_ne n3, put_ne n4, put_ne m3]; exact h.pP
  · rw [put_ne n4, put_ne m3]; exact h.pS
theorem TI.call (h : TI p dst cst fx m v0 xs bb R W0 L { tmps := T, defers := [] } w) (hL : L.size = p.n) (hi : p.jc < p.n) (hm : L.getD p.jm false = true) (hlist : L.getD p.jc false = false) (hd : dst p.jc = p.yc) (hdT : p.yc < p.N) (hfx : fx p.yc = none) (hinj : ∀ j, j < p.n → j ≠ p.jc → dst j ≠ p.yc) (hv : cst p.jc = none)
    (hno : p.jc ≠ p.jm ∧ p.jc ≠ p.jl ∧ p.jc ≠ p.jt ∧ p.jc ≠ p.ja ∧ p.jc ≠ p.js) {vk vv : Value} (hC : Copied W0 w' m.rec_ vk vv) :
    TI p dst cst fx m v0 xs bb R W0 (L.setIfInBounds p.jc true) { tmps := T.setIfInBounds p.yc (.agg (RV m vk vv)), defers := [] } w' := by
  obtain ⟨n1, n2, n3, n4, n5⟩ := hno
  have hTs : T.size = p.N := h.size
  have l1 := nof h.ot hlist
  have l2 := nof h.oat l1
  have l3 := nof h.os l2
  have e0 : (L.setIfInBounds p.jc true).getD p.jc false = true := set_self (by omega)
  refine ⟨rfl, by simpa using h.size, fun t u hu => (put_ne (fun e => by subst e; rw [hfx] at hu; cases hu)).trans (h.fix t u hu), h.smp' hL hi hd hdT hinj (fun u hu => by rw [hv] at hu; cases hu), ?_, ?_, ?_, ?_, ?_, ?_, ?_, ?_, ?_, ?_⟩
  · rw [put_ne n1]; exact fun _ => hm
  · rw [put_ne n2, put_ne n4]; exact h.oa
  · exact fun _ => e0
  · rw [put_ne n3, put_ne n4]; exact h.oat
  · rw [put_ne n4, put_ne n5]; exact h.os
  · rw [e0]; intro hh; cases hh
  · exact fun _ _ => ⟨vk, vv, put_same (by omega), hC⟩
  · rw [put_ne n3, l1]; intro hh; cases hh
  · rw [put_ne n4, l2]; intro hh; cases hh
  · rw [put_ne n5, l3]; intro hh; cases hh
theorem TI.lit (h : TI p dst cst fx m v0 xs bb R W0 L { tmps := T, defers := [] } w) (hL : L.size = p.n) (hi : p.jt < p.n) (hlist : L.getD p.jt false = false) (hm : L.getD p.jc false = true) (hd : dst p.jt = p.yt) (hdT : p.yt < p.N) (hfx : fx p.yt = none) (hinj : ∀ j, j < p.n → j ≠ p.jt → dst j ≠ p.yt) (hv : cst p.jt = none)
    (hno : (p.jt ≠ p.jm ∧ p.jt ≠ p.jl ∧ p.jt ≠ p.jc ∧ p.jt ≠ p.ja ∧ p.jt ≠ p.js)) {vk vv : Value} (hC : Copied W0 w m.rec_ vk vv) :
    TI p dst cst fx m v0 xs bb R W0 (L.setIfInBounds p.jt true) { tmps := T.setIfInBounds p.yt (.slice (some ⟨w.heap.size, 0, none⟩) 1 1), defers := [] } (w.alloc (.cells (RV m vk vv) 46)) := by
  obtain ⟨n1, n2, n3, n4, n5⟩ := hno
  have hTs : T.size = p.N := h.size
  have l2 := nof h.oat hlist
  have l3 := nof h.os l2
  have e0 : (L.setIfInBounds p.jt true).getD p.jt false = true := set_self (by omega)
  refine ⟨rfl, by simpa using h.size, fun t u hu => (put_ne (fun e => by subst e; rw [hfx] at hu; cases hu)).trans (h.fix t u hu), h.smp' hL hi hd hdT hinj (fun u hu => by rw [hv] at hu; cases hu), ?_, ?_, ?_, ?_, ?_, ?_, ?_, ?_, ?_, ?_⟩
  · rw [put_ne n1, put_ne n3]; exact h.oc
  · rw [put_ne n2, put_ne n4]; exact h.oa
  · rw [put_ne n3]; exact fun _ => hm
  · exact fun _ => e0
  · rw [put_ne n4, put_ne n5]; exact h.os
  · rw [put_ne n3, hm]; intro hh; cases hh
  · rw [e0]; intro _ hh; cases hh
  · exact fun _ _ => ⟨w, vk, vv, rfl, put_same (by omega), hC⟩
  · rw [put_ne n4, l2]; intro hh; cases hh
  · rw [put_ne n5, l3]; intro hh; cases hh
theorem TI.app (h : TI p dst cst fx m v0 xs bb R W0 L { tmps := T, defers := [] } w) (hL : L.size = p.n) (hi : p.ja < p.n) (hlist : L.getD p.ja false = false) (hl : L.getD p.jl false = true) (hm : L.getD p.jt false = true) (hd : dst p.ja = p.ya) (hdT : p.ya < p.N) (hfx : fx p.ya = none) (hinj : ∀ j, j < p.n → j ≠ p.ja → dst j ≠ p.ya) (hv : cst p.ja = none)
    (hno : (p.ja ≠ p.jm ∧ p.ja ≠ p.jl ∧ p.ja ≠ p.jc ∧ p.ja ≠ p.jt ∧ p.ja ≠ p.js)) {v1 : Value} (hP : PostAt m xs R v0 W0 v1 w') :
    TI p dst cst fx m v0 xs bb R W0 (L.setIfInBounds p.ja true) { tmps := T.setIfInBounds p.ya v1, defers := [] } w' := by
  obtain ⟨n1, n2, n3, n4, n5⟩ := hno
  have hTs : T.size = p.N := h.size
  have l3 := nof h.os hlist
  have hc := h.ot hm
  have e0 : (L.setIfInBounds p.ja true).getD p.ja false = true := set_self (by omega)
  refine ⟨rfl, by simpa using h.size, fun t u hu => (put_ne (fun e => by subst e; rw [hfx] at hu; cases hu)).trans (h.fix t u hu), h.smp' hL hi hd hdT hinj (fun u hu => by rw [hv] at hu; cases hu), ?_, ?_, ?_, ?_, ?_, ?_, ?_, ?_, ?_, ?_⟩
  · rw [put_ne n1, put_ne n3]; exact h.oc
  · rw [put_ne n2]; exact fun _ => hl
  · rw [put_ne n3, put_ne n4]; exact h.ot
  · rw [put_ne n4]; exact fun _ => hm
  · exact fun _ => e0
  · rw [put_ne n3, hc]; intro hh; cases hh
  · rw [put_ne n4, hm]; intro _ hh; cases hh
  · rw [e0]; intro _ hh; cases hh
  · intro _ _
    rw [put_same (by omega)]
    exact hP
  · rw [put_ne n5, l3]; intro hh; cases hh
theorem TI.store (h : TI p dst cst fx m v0 xs bb R W0 L { tmps := T, defers := [] } w) (hL : L.size = p.n) (hi : p.js < p.n) (hlist : L.getD p.js false = false) (hm : L.getD p.ja false = true) (hv : cst p.js = none)
    (hno : (p.js ≠ p.jm ∧ p.js ≠ p.jl ∧ p.js ≠ p.jc ∧ p.js ≠ p.jt ∧ p.js ≠ p.ja)) :
    TI p dst cst fx m v0 xs bb R W0 (L.setIfInBounds p.js true) { tmps := T, defers := [] } (w.setCell ⟨bb, 5, none⟩ (T.getD p.ya undef)) := by
  obtain ⟨n1, n2, n3, n4, n5⟩ := hno
  have ht := h.oat hm
  have hc := h.ot ht
  have e0 : (L.setIfInBounds p.js true).getD p.js false = true := set_self (by omega)
  refine ⟨rfl, h.size, h.fix, fun j hj hLj u hu => ?_, ?_, ?_, ?_, ?_, ?_, ?_, ?_, ?_, ?_, ?_⟩
  · by_cases hji : j = p.js
    · subst hji; rw [hv] at hu; cases hu
    · rw [put_ne (Ne.symm hji)] at hLj
      exact h.smp j hj hLj u hu
  · rw [put_ne n1, put_ne n3]; exact h.oc
  · rw [put_ne n2, put_ne n5]; exact h.oa
  · rw [put_ne n3, put_ne n4]; exact h.ot
  · rw [put_ne n4, put_ne n5]; exact h.oat
  · rw [put_ne n5]; exact fun _ => hm
  · rw [put_ne n3, hc]; intro hh; cases hh
  · rw [put_ne n4, ht]; intro _ hh; cases hh
  · rw [put_ne n5, hm]; intro _ hh; cases hh
  · rw [e0]; intro _ hh; cases hh
  · exact fun _ => ⟨w, rfl, h.pP hm hlist⟩
end
section
variable {P : Program} {ops : Array Oper} {o : Oper} {a : Act} {Q : Exit → Act → World → Prop} {α : Type}
theorem step_appX1 (k : XKind α) {e : TypeId} {W : World} {R : Nat → Prop} {B : Nat} {v : Value} {xs : List α} {K : Act → World → Prop} {E : Prop} (HO : AppX k e W R B v xs) (hgd : o.guard = none) (s x : Operand) (t : TypeId) (z : Value) (bytes : Nat)
    (ho : o.op = .call { callee := .builtin .append, args := #[s, x], argTypes := #[t, t] })
    (ht : P.underlying t = some (.slice e)) (hinfo : (P.info? e).map (fun i => (i.zero, i.size, i.bytes)) = some (some z, k.d.sz, bytes)) (hz : z.cells.size = k.d.sz) (hs0 : 0 < k.d.sz)
    (p : α) (cs : List Value) (G : Nat → Prop) (hs : a.eval s = v) (hx : a.eval x = .slice (some ⟨W.heap.size, 0, none⟩) 1 1)
    (hp : k.X W G p cs) (hG : ∀ b, G b → R b ∧ B ≤ b) (h1 : ∀ u ∈ cs, u.oneCell' = true)
    (hnew : ∀ b, W.heap.size ≤ b → R b) (h63 : xs.length + 1 ≤ 1099511627776) (hl : (xs.length + 1) * bytes ≤ 140737488355328)
    (h : ∀ v1 w1, AppX k e w1 R w1.heap.size v1 (xs ++ [p]) → Chg (fun b => v.ownBlock = some b) W w1 → K (a.put o.dst v1) w1) :
    if Region.wanted o (yielded ops a.tmps) = true then Oper.wp P o a (W.alloc (.cells cs.toArray e)) K Q else E := by
  have hw : Region.wanted o (yielded ops a.tmps) = true := by simp [Region.wanted, hgd]
  rw [if_pos hw]
  obtain ⟨v1, w1, hrun, h2, h3, h4⟩ := run_appX (P := P) k HO t o.type z bytes ht hinfo hz hs0 p cs G hp hG h1 hnew h63 hl
  unfold Oper.wp execOp
  simp only [ho, resolve, invoke, builtin, Sem.run_bind, Sem.run_pure, Result.andThen_ok, List.map_toArray, List.map_cons, List.map_nil, hs, hx, hrun]
  exact h v1 w1 h2 h3
end
theorem TI.blk {p : TN} {dst : Nat → Nat} {cst fx : Nat → Option Value} {m : Old'} {v0 : Value} {xs : List Rec} {bb : Nat} {R : Nat → Prop} {W0 : World} {L : Array Bool} {T : Array Value} {w : World} (h : TI p dst cst fx m v0 xs bb R W0 L { tmps := T, defers := [] } w) (hja : L.getD p.ja false = false) {g : Nat} {o : Obj} (hb : W0.heap[g]? = some o) : w.heap[g]? = some o := by
  cases hc : L.getD p.jc false with
  | false => rw [h.pA hc]; exact hb
  | true =>
    cases ht : L.getD p.jt false with
    | false =>
      obtain ⟨vk, vv, _, hC⟩ := h.pC hc ht
      exact blk_below hb hC.below
    | true =>
      obtain ⟨Wl, vk, vv, e, _, hC⟩ := h.pT ht hja
      rw [e]
      exact blk_below hb (bthen hC.below (bal _ _))
theorem named_frame {P : Program} {md : Region.Mode} {ops : Array Oper} {Q : Exit → Act → World → Prop} {fuel : Nat} {L : Array Bool} {T : Array Value} {w : World} (h : ∀ F0, F0 = T → wpAny P md ops Q fuel L { tmps := F0, defers := [] } w) : wpAny P md ops Q fuel L { tmps := T, defers := [] } w := h T rfl
theorem same_but {T F0 : Array Value} (hs : T.size = F0.size) (ds : List Nat) (h : ∀ t, ds.contains t = false → T.getD t undef = F0.getD t undef) : T = ds.foldl (fun A d => A.setIfInBounds d (T.getD d undef)) F0 := by
  have hsz : ∀ (ds : List Nat) (F : Array Value), (ds.foldl (fun A d => A.setIfInBounds d (T.getD d undef)) F).size = F.size := by
    intro ds
    induction ds with
    | nil => intro F; rfl
    | cons d t ih => intro F; rw [List.foldl_cons, ih]; simp
  have key : ∀ (ds : List Nat) (F : Array Value), F.size = T.size → (∀ t, ds.contains t = false → T.getD t undef = F.getD t undef) → ∀ i, T.getD i undef = (ds.foldl (fun A d => A.setIfInBounds d (T.getD d undef)) F).getD i undef := by
    intro ds
    induction ds with
    | nil => intro F _ hF i; exact hF i rfl
    | cons d t ih =>
      intro F hFs hF i
      rw [List.foldl_cons]
      refine ih _ (by simpa using hFs) (fun k hk => ?_) i
      by_cases e : d = k
      · subst e
        by_cases hd : d < F.size
        · rw [put_same hd]
        · simp [Array.getD_eq_getD_getElem?, Array.getElem?_eq_none (show T.size ≤ d by omega), Array.getElem?_eq_none (show (F.setIfInBounds d (T.getD d undef)).size ≤ d by simp; omega)]
      · rw [put_ne e]
        have hk' : ¬ k ∈ t := by simpa using hk
        exact hF k (by simp [hk', Ne.symm e])
  refine Array.ext (by rw [hsz, hs]) (fun i h1 h2 => ?_)
  have := key ds F0 hs.symm h i
  rw [Array.getD_eq_getD_getElem?, Array.getD_eq_getD_getElem?, Array.getElem?_eq_getElem h1, Array.getElem?_eq_getElem h2] at this
  simpa using this
theorem Kind.Row.old_at {w : World} {F : Nat → Prop} {A : Option Addr} {c : Nat} {xs : List Old'} (h : Olds w F A c xs) {j : Nat} (hj : j < xs.length) :
    ∃ ad B b B' b', A = some ad ∧ F ad.block ∧ Ints w F B b xs[j].key ∧ Ints w F B' b' xs[j].val ∧
      w.cell? (ad.add (j * 7)) = some (.int .i64 xs[j].off) ∧ w.cell? ⟨(ad.add (j * 7)).block, (ad.add (j * 7)).off + 1, none⟩ = some (.bool xs[j].timed) ∧
      w.cell? ⟨(ad.add (j * 7)).block, (ad.add (j * 7)).off + 2, none⟩ = some (.int .i64 xs[j].time) ∧ w.cell? ⟨(ad.add (j * 7)).block, (ad.add (j * 7)).off + 3, none⟩ = some (.slice B xs[j].key.length b) ∧
      w.cell? ⟨(ad.add (j * 7)).block, (ad.add (j * 7)).off + 4, none⟩ = some (.slice B' xs[j].val.length b') ∧ w.cell? ⟨(ad.add (j * 7)).block, (ad.add (j * 7)).off + 5, none⟩ = some (.bool xs[j].hk) ∧
      w.cell? ⟨(ad.add (j * 7)).block, (ad.add (j * 7)).off + 6, none⟩ = some (.bool xs[j].miss) := by
  obtain ⟨ad, cs, e, hF, ⟨B, b, B', b', rfl, h1, h2⟩, hc⟩ := h.get hj
  refine ⟨ad, B, b, B', b', e, hF, h1, h2, hc 0 _ rfl, ?_, ?_, ?_, ?_, ?_, ?_⟩ <;> rw [← add_succ]
  · exact hc 1 _ rfl
  · exact hc 2 _ rfl
  · exact hc 3 _ rfl
  · exact hc 4 _ rfl
  · exact hc 5 _ rfl
  · exact hc 6 _ rfl
theorem bnd_old : Kind.old.Bnd := by
  refine ⟨by decide, ?_⟩
  rintro w F m cs ⟨A, c, A', c', rfl, h1, h2⟩
  exact ⟨A, c, A', c', rfl, h1.bound (bnd_int .i64), h2.bound (bnd_int .i64)⟩
/-- The batch, and whether it is made. -/
def turnB (ms : List Old') (pk : Bool) : Bat := ⟨pk, false, 255, 0, 0, ms.map Old'.rec_⟩
def turnOk (ms : List Old') (pk : Bool) : Bool := decide (ms.length ≤ 6) && ms.all oldB && batB (turnB ms pk)
def turnR (ms : List Old') (pk : Bool) : Bat := if turnOk ms pk = true then turnB ms pk else Bat.zero
theorem turn_no {ms : List Old'} {pk : Bool} (h : turnOk ms pk = false) : turnR ms pk = Bat.zero := by unfold turnR; rw [if_neg (by simp [h])]
theorem turn_yes {ms : List Old'} {pk : Bool} (h : turnOk ms pk = true) : turnR ms pk = turnB ms pk := by unfold turnR; rw [if_pos h]
theorem take_recs {ms : List Old'} {k : Nat} (h : k < ms.length) : (ms.take (k + 1)).map Old'.rec_ = (ms.take k).map Old'.rec_ ++ [ms[k].rec_] := by rw [List.take_succ_eq_append_getElem h, List.map_append]; rfl
theorem take_all {ms : List Old'} {k : Nat} (h : k < ms.length) : (ms.take (k + 1)).all oldB = ((ms.take k).all oldB && oldB ms[k]) := by rw [List.take_succ_eq_append_getElem h, List.all_append]; simp
theorem all_bad {ms : List Old'} {k : Nat} (h : k < ms.length) (hb : oldB ms[k] = false) (pk : Bool) : turnOk ms pk = false := by
  have : ms.all oldB = false := by
    rw [← Bool.not_eq_true, List.all_eq_true]
    intro hh
    have := hh _ (List.getElem_mem h)
    rw [hb] at this
    cases this
  unfold turnOk
  rw [this]
  simp
def TurnOut (ms : List Old') (pk : Bool) (w : World) (e : Ending) (w' : World) : Prop :=
  ∃ A c, e = .returned (.tuple #[.agg #[.bool (turnR ms pk).packed, .bool (turnR ms pk).mark, .int .i64 (turnR ms pk).prod, .int .i64 (turnR ms pk).epoch, .int .i64 (turnR ms pk).seq, .slice A (turnR ms pk).recs.length c], .bool (turnOk ms pk)]) ∧
    Recs w' (fun g => w.heap.size ≤ g) A c (turnR ms pk).recs ∧ Below w.heap.size w w'
theorem TurnOut.no {ms : List Old'} {pk : Bool} {w w' : World} {e : Ending} (h : turnOk ms pk = false) (he : e = .returned (.tuple #[.agg #[.bool false, .bool false, .int .i64 0, .int .i64 0, .int .i64 0, .slice none 0 0], .bool false])) (hb : Below w.heap.size w w') : TurnOut ms pk w e w' := by
  refine ⟨none, 0, ?_, ?_, hb⟩
  · rw [he, h, turn_no h]; rfl
  · rw [turn_no h]; exact Kind.Row.nil _ _ (by omega)
theorem zeroT {w w2 : World} (hb : Below w.heap.size w w2) : Below w.heap.size w ((((((w2.setCell ⟨w.heap.size, 0, none⟩ (.bool false)).setCell ⟨w.heap.size, 1, none⟩ (.bool false)).setCell ⟨w.heap.size, 2, none⟩ (.int .i64 0)).setCell ⟨w.heap.size, 3, none⟩ (.int .i64 0)).setCell ⟨w.heap.size, 4, none⟩ (.int .i64 0)).setCell ⟨w.heap.size, 5, none⟩ (.slice none 0 0)) :=
  hb.trans ((Chg.setCells (fun b => b = w.heap.size) (g := w.heap.size) rfl [.bool false, .bool false, .int .i64 0, .int .i64 0, .int .i64 0, .slice none 0 0] 0 w2).below hb.size (fun i hi => by omega))
abbrev RT (w : World) (b : Nat) : Prop := w.heap.size + 2 ≤ b
def tiN : TN := ⟨8, 38, 1, 2, 3, 28, 4, 29, 5, 30, 7⟩
def tiD : Nat → Nat
  | 0 => 25 | 1 => 26 | 2 => 27 | 3 => 28 | 4 => 29 | 5 => 30 | 6 => 31 | 7 => 99 | _ => 98
def tiC (bb : Nat) (v0 mv lv iv av : Value) : Nat → Option Value
  | 0 => some (.pointer (some ⟨bb, 5, none⟩))
  | 1 => some v0
  | 2 => some mv
  | 6 => some (.pointer (some ⟨bb, 5, none⟩))
  | _ => none
set_option maxRecDepth 100000 in
set_option maxHeartbeats 4000000 in
theorem OldTurn_any (ms : List Old') (A : Option Addr) (c : Nat) (F : Nat → Prop) (pk : Bool) (w : World) (h : Olds w F A c ms) (hsm : ∀ m ∈ ms, m.key.length ≤ 1048576 ∧ m.val.length ≤ 1048576) :
    Calls Tryd.prog 5 #[.slice A ms.length c, .bool pk] w (TurnOut ms pk w) := by
  have hl := h.1
  have hc := h.2.1
  have hbo := h.bound bnd_old
  have HSM := Lib.hid hsm
  clear hsm h
  by_cases h6 : 6 < ms.length
  · have d6 : decide ((6 : Int) < (ms.length : Int)) = true := by simp; omega
    have HQ : Hid (turnOk ms pk = false) := Lib.hid (by unfold turnOk; rw [decide_eq_false (by omega)]; rfl)
    go_enter Tryd.func5, Tryd.ntmps5
    go_wp2
    refine bodyPost_ret (v := .tuple #[.agg #[.bool false, .bool false, .int .i64 0, .int .i64 0, .int .i64 0, .slice none 0 0], .bool false]) (by simp [results, Tryd.results5, go_sem]) rfl (.no HQ.out rfl (bal _ _))
  · have d6 : decide ((6 : Int) < (ms.length : Int)) = false := by simp; omega
    have h66 : ms.length ≤ 6 := by omega
    go_enter Tryd.func5, Tryd.ntmps5
    go_wp2_with fail
    generalize hW : World.alloc _ _ = W
    obtain ⟨hA, hB, b1, hsW⟩ := alloc2 hW
    clear hW
    have HA := Lib.hid hA
    have HB1 := Lib.hid hB
    have HW := Lib.hid b1
    clear hA hB b1
    go_loopw [17] (fun i wr => ∃ k : Nat, k ≤ ms.length ∧ i = .int .i64 (k : Int) ∧ (∃ v B, wr.heap[w.heap.size + 1]? = some (.cells #[.bool pk, .bool false, .int .i64 255, .int .i64 0, .int .i64 0, v] 28 (0, 0)) ∧ AppX RX 46 wr (RT w) B v ((ms.take k).map Old'.rec_)) ∧ wr.heap[w.heap.size]? = some (.cells #[.bool false, .bool false, .int .i64 0, .int .i64 0, .int .i64 0, .slice none 0 0] 28 (0, 0)) ∧ Hid ((ms.take k).all oldB = true) ∧ Hid (Below w.heap.size w wr)) (fun i _ => ms.length - (intOf i).toNat)
    case atStart => exact ⟨0, Nat.zero_le _, rfl, ⟨_, _, HB1.out, AppX.nil RX _ _ _⟩, HA.out, Lib.hid rfl, HW⟩
    case round =>
      obtain ⟨k, hk, rfl, ⟨v, B, hbb, hX⟩, hrb, HV, HB⟩ := hrel
      clear HA HB1 HW
      by_cases hlt : k < ms.length
      · obtain ⟨ad, K, kc, V, vc, rfl, _, hki, hvi, q0, q1, q2, q3, q4, q5, q6⟩ := (hbo.below HB.out).old_at hlt
        have hsm := HSM.out _ (List.getElem_mem hlt)
        obtain ⟨m, hm⟩ : ∃ m, m = ms[k] := ⟨_, rfl⟩
        rw [← hm] at hki hvi q0 q1 q2 q3 q4 q5 q6 hsm
        have HM := Lib.hid hm
        have hwB := HB.out.size
        clear hm
        go_wp2_with fail
        generalize hW1 : World.alloc _ _ = W1
        obtain ⟨hM1, bw1, hz1⟩ := alloc1 hW1
        clear hW1
        refine (OldValid_any m K V kc vc _ W1 (hki.below bw1) (hvi.below bw1) hsm.1 hsm.2).mono ?_
        rintro e w2 ⟨rfl, hb2⟩
        have b12 := bthen bw1 hb2
        have hM2 := blk_below hM1 hb2
        have hbb2 := blk_below hbb b12
        have hrb2 := blk_below hrb b12
        have hX2 := hX.below b12
        have hk2 := hki.below b12
        have hv2 := hvi.below b12
        have b2 := HB.out.trans (b12.mono HB.out.size)
        obtain ⟨y0, y1, y2, y3, y4, y5, y6, yf⟩ := sev hM2
        clear hki hvi hX hb2 b12 bw1 hM1 hbb q0 q1 q2 q3 q4 q5 q6
        cases hvm : oldB m
        · have HQ : Hid (turnOk ms pk = false) := Lib.hid (all_bad hlt (by rw [← HM.out]; exact hvm) pk)
          obtain ⟨x0, x1, x2, x3, x4, x5, xf⟩ := six hrb2
          have hltr := blk_lt2 hrb2
          have HB2 := Lib.hid b2
          clear hvm b2 hX2 hk2 hv2 hbb2 hrb2 hM2
          go_wp2
          refine bodyPost_ret (v := .tuple #[.agg #[.bool false, .bool false, .int .i64 0, .int .i64 0, .int .i64 0, .slice none 0 0], .bool false]) (by simp [results, Tryd.results5, go_sem, x0, x1, x2, x3, x4, x5, hltr]) rfl (.no HQ.out rfl ?_)
          exact zeroT HB2.out
        · have HVM := Lib.hid hvm
          obtain ⟨xs, hxs⟩ : ∃ xs, xs = (ms.take k).map Old'.rec_ := ⟨_, rfl⟩
          have hxl : xs.length ≤ 6 := by rw [hxs, List.length_map, List.length_take]; omega
          rw [← hxs] at hX2
          have HXS := Lib.hid hxs
          clear hvm hxs hrb
          go_wp2_with fail
          refine wp_region_any (by kernel_rfl) ?_
          change wpAny _ _ _ _ _ _ _ (World.drew w2)
          generalize hV : w2.drew = V0
          have bD : Below w2.heap.size w2 V0 := by rw [← hV]; exact ⟨rfl, rfl, rfl, Nat.le_refl _, fun _ _ => rfl⟩
          clear hV
          have hbV := blk_below hbb2 bD
          have hrV := blk_below hrb2 bD
          have hXV := hX2.below bD
          have hkV := hk2.below bD
          have hvV := hv2.below bD
          have bV := b2.trans (bD.mono b2.size)
          have hszV := bV.size
          have hszB := blk_lt2 hbV
          have hmV := blk_below hM2 bD
          clear y0 y1 y2 y3 y4 y5 y6 yf
          obtain ⟨y0, y1, y2, y3, y4, y5, y6, yf⟩ := sev hmV
          clear bD hbb2 hrb2 hX2 hk2 hv2 b2
          refine named_frame (fun F0 hF0 => ?_)
          have s0 : F0.size = 38 := by rw [hF0]; rfl
          have g6 : F0.getD 6 undef = .pointer (some ⟨w.heap.size + 1, 0, none⟩) := by rw [hF0]; rfl
          have g8 : F0.getD 8 undef = .pointer (some ⟨wr.heap.size, 0, none⟩) := by rw [hF0]; rfl
          refine wpAny_inv (TI tiN tiD (tiC (w.heap.size + 1) v (OV m K kc V vc) undef undef undef) (fun t => if [25, 26, 27, 28, 29, 30, 31].contains t then none else some (F0.getD t undef)) m v xs (w.heap.size + 1) (RT w) V0) ?step ?fin _ _ _ _ rfl (by decide) ?init
          case init =>
            refine ⟨rfl, s0, fun t u hu => ?_, fun j hj h => ?_, fun h => ?_, fun h => ?_, fun h => ?_, fun h => ?_, fun h => ?_, fun _ => rfl, fun h => ?_, fun h => ?_, fun h => ?_, fun h => ?_⟩
            · by_cases hcn : [25, 26, 27, 28, 29, 30, 31].contains t = true
              · rw [if_pos hcn] at hu; cases hu
              · rw [if_neg hcn] at hu; injection hu
            · have hj' : j < 8 := hj
              obtain rfl | rfl | rfl | rfl | rfl | rfl | rfl | rfl : j = 0 ∨ j = 1 ∨ j = 2 ∨ j = 3 ∨ j = 4 ∨ j = 5 ∨ j = 6 ∨ j = 7 := by omega
              all_goals exact absurd h (by decide)
            all_goals exact absurd h (by decide)
          case step =>
            intro L a X i hI hs hi
            obtain ⟨T, ds⟩ := a
            obtain rfl : ds = [] := hI.dfr
            have hlt2 : i < 8 := ready_lt hi
            have hL : L.size = tiN.n := hs
            have hT : T.size = tiN.N := hI.size
            have t6 : T.getD 6 undef = _ := (hI.fix 6 _ rfl).trans g6
            have t8 : T.getD 8 undef = _ := (hI.fix 8 _ rfl).trans g8
            obtain rfl | rfl | rfl | rfl | rfl | rfl | rfl | rfl : i = 0 ∨ i = 1 ∨ i = 2 ∨ i = 3 ∨ i = 4 ∨ i = 5 ∨ i = 6 ∨ i = 7 := by omega
            · refine wpOp_step rfl (fun K' hK => ?_)
              go_simp
              exact hK _ _ (hI.simple (i := 0) (d := 25) hL (by decide) rfl (by decide) rfl (by decide) (fun u hu => by injection hu) (by decide))
            · refine wpOp_step rfl (fun K' hK => ?_)
              have e25 : T.getD 25 undef = _ := hI.smp 0 (by decide) (dep hi 0 (by kernel_rfl)) _ rfl
              obtain ⟨z0, z1, z2, z3, z4, z5, zf⟩ := six (hI.blk (nof hI.oa (ready_no hi)) hbV)
              go_simp
              exact hK _ _ (hI.simple (i := 1) (d := 26) hL (by decide) rfl (by decide) rfl (by decide) (fun u hu => by injection hu) (by decide))
            · refine wpOp_step rfl (fun K' hK => ?_)
              obtain rfl := hI.pA (nof hI.oc (ready_no hi))
              go_simp
              exact hK _ _ (hI.simple (i := 2) (d := 27) hL (by decide) rfl (by decide) rfl (by decide) (fun u hu => by injection hu) (by decide))
            · refine wpOp_step rfl (fun K' hK => ?_)
              have e27 : T.getD 27 undef = _ := hI.smp 2 (by decide) (dep hi 2 (by kernel_rfl)) _ rfl
              obtain rfl := hI.pA (ready_no hi)
              go_simp
              refine (kept_any m K V kc vc _ X hkV hvV hsm.1 hsm.2).mono ?_
              rintro e X2 ⟨vk, vv, rfl, hC⟩
              dsimp only
              exact hK _ _ (hI.call hL (by decide) (dep hi 2 (by kernel_rfl)) (ready_no hi) rfl (by decide) rfl (by decide) rfl (by decide) hC)
            · refine wpOp_step rfl (fun K' hK => ?_)
              have hjc : L.getD tiN.jc false = true := dep hi 3 (by kernel_rfl)
              obtain ⟨vk, vv, ec, hC⟩ := hI.pC hjc (ready_no hi)
              have ec : T.getD 28 undef = _ := ec
              obtain ⟨Ak, ak, rfl, _⟩ := AppP.row hC.key
              obtain ⟨Av, avc, rfl, _⟩ := AppP.row hC.val
              have gc : T[28]?.getD undef = .agg (RV m (.slice Ak m.rec_.key.length ak) (.slice Av m.rec_.val.length avc)) := by rw [← Array.getD_eq_getD_getElem?]; exact ec
              go_simp
              exact hK _ _ (hI.lit hL (by decide) (ready_no hi) hjc rfl (by decide) rfl (by decide) rfl (by decide) hC)
            · refine wpOp_step rfl (fun K' hK => ?_)
              have e26 : T.getD 26 undef = _ := hI.smp 1 (by decide) (dep hi 1 (by kernel_rfl)) _ rfl
              have hjt : L.getD tiN.jt false = true := dep hi 4 (by kernel_rfl)
              obtain ⟨Wl, vk, vv, rfl, et, hC⟩ := hI.pT hjt (ready_no hi)
              have et : T.getD 29 undef = _ := et
              have hXl := hXV.below hC.below
              have hszl := hC.below.size
              refine step_appX1 RX hXl rfl (.tmp 26) (.tmp 29) 26 (.agg #[.int .i64 0, .int .i64 0, .bool false, .slice none 0 0, .bool false, .slice none 0 0]) 80 rfl Tryd.underlying26 (by kernel_rfl) rfl (by decide) m.rec_ (RV m vk vv).toList _ (show Act.eval _ _ = _ from e26) (show Act.eval _ _ = _ from et) hC.x (fun b hb => ⟨by omega, by have := hXV.1; omega⟩) (by obtain ⟨Ak, ak, rfl, _⟩ := AppP.row hC.key; obtain ⟨Av, avc, rfl, _⟩ := AppP.row hC.val; simp [Value.oneCell']) (fun b hb => by omega) (by omega) (by omega) ?_
              intro v1 w1 hA1 hc1
              exact hK _ _ (hI.app hL (by decide) (ready_no hi) (dep hi 1 (by kernel_rfl)) hjt rfl (by decide) rfl (by decide) rfl (by decide) ⟨hA1, Wl, hC.below, hc1⟩)
            · refine wpOp_step rfl (fun K' hK => ?_)
              go_simp
              exact hK _ _ (hI.simple (i := 6) (d := 31) hL (by decide) rfl (by decide) rfl (by decide) (fun u hu => by injection hu) (by decide))
            · refine wpOp_step rfl (fun K' hK => ?_)
              have e31 : T.getD 31 undef = _ := hI.smp 6 (by decide) (dep hi 6 (by kernel_rfl)) _ rfl
              have hja : L.getD tiN.ja false = true := dep hi 5 (by kernel_rfl)
              obtain ⟨hA1, Wl, hbl, hc1⟩ := hI.pP hja (ready_no hi)
              obtain ⟨A1, a1, ev, _⟩ := hA1.toP.slice_
              have ev : T.getD 30 undef = _ := ev
              have hbX := hc1.blk (blk_below hbV hbl) (fun hh => by have := (hXV.ge _ hh).1; omega)
              obtain ⟨z0, z1, z2, z3, z4, z5, zf⟩ := six hbX
              have HS := hI.store hL (by decide) (ready_no hi) hja rfl (by decide)
              rw [show T.getD tiN.ya undef = _ from ev, show (xs ++ [m.rec_]).length = xs.length + 1 from by simp] at HS
              go_simp
              exact hK _ _ HS
          case fin =>
            intro L a X hI hs hr
            have hall := all_listed hs hr (by kernel_rfl)
            obtain ⟨T, ds⟩ := a
            obtain rfl : ds = [] := hI.dfr
            obtain ⟨w1, rfl, hP⟩ := hI.pS (hall tiN.js (by decide))
            have hTf : ∀ t, [25, 26, 27, 28, 29, 30, 31].contains t = false → T.getD t undef = F0.getD t undef := fun t ht => hI.fix t _ (show (if [25, 26, 27, 28, 29, 30, 31].contains t = true then none else some (F0.getD t undef)) = some (F0.getD t undef) by rw [ht]; rfl)
            have hTe := same_but (hI.size.trans s0.symm) [25, 26, 27, 28, 29, 30, 31] hTf
            simp only [List.foldl_cons, List.foldl_nil] at hTe
            obtain ⟨x25, h25⟩ : ∃ x, x = T.getD 25 undef := ⟨_, rfl⟩
            obtain ⟨x26, h26⟩ : ∃ x, x = T.getD 26 undef := ⟨_, rfl⟩
            obtain ⟨x27, h27⟩ : ∃ x, x = T.getD 27 undef := ⟨_, rfl⟩
            obtain ⟨x28, h28⟩ : ∃ x, x = T.getD 28 undef := ⟨_, rfl⟩
            obtain ⟨x29, h29⟩ : ∃ x, x = T.getD 29 undef := ⟨_, rfl⟩
            obtain ⟨x30, h30⟩ : ∃ x, x = T.getD 30 undef := ⟨_, rfl⟩
            obtain ⟨x31, h31⟩ : ∃ x, x = T.getD 31 undef := ⟨_, rfl⟩
            rw [show T.getD tiN.ya undef = x30 from h30.symm] at hP ⊢
            rw [← h25, ← h26, ← h27, ← h28, ← h29, ← h30, ← h31] at hTe
            clear h25 h26 h27 h28 h29 h30 h31 hTf hI hs hr hall
            replace hTe := hTe.symm
            subst hTe
            subst hF0
            obtain ⟨hA1, Wl, hbl, hc1⟩ := hP
            obtain ⟨A1, a1, rfl, hl1, _⟩ := hA1.toP.slice_
            have hge := hXV.ge
            have hb1 := hc1.blk (blk_below hbV hbl) (fun hh => by have := (hge _ hh).1; omega)
            have hr1 := hc1.blk (blk_below hrV hbl) (fun hh => by have := (hge _ hh).1; omega)
            have bw := (bV.trans (hbl.mono bV.size)).trans (hc1.below (Nat.le_trans bV.size hbl.size) (fun i hi => by have := (hge _ hi).1; omega))
            have hsw := bw.size
            obtain ⟨zs, hzs⟩ : ∃ zs, zs = xs ++ [m.rec_] := ⟨_, rfl⟩
            rw [← hzs] at hA1 hl1 ⊢
            have HZ : Hid (zs = (ms.take (k + 1)).map Old'.rec_) := Lib.hid (by rw [hzs, HXS.out, HM.out, take_recs hlt])
            obtain ⟨Y, hY⟩ : ∃ Y, Y = w1.setCell ⟨w.heap.size + 1, 5, none⟩ (.slice A1 zs.length a1) := ⟨_, rfl⟩
            have cY : Chg (fun b => b = w.heap.size + 1) w1 Y := by rw [hY]; exact Chg.set (fun b => b = w.heap.size + 1) w1 (p := ⟨w.heap.size + 1, 5, none⟩) rfl _
            have hYb : Y.heap[w.heap.size + 1]? = some (.cells #[.bool pk, .bool false, .int .i64 255, .int .i64 0, .int .i64 0, .slice A1 zs.length a1] 28 (0, 0)) := by
              rw [hY]
              have := blk_put hb1 5 (.slice A1 zs.length a1)
              simpa using this
            have hYr := cY.blk hr1 (by omega)
            have hYA := hA1.chg cY (fun b _ hb e => by have : w.heap.size + 2 ≤ b := hb; omega)
            have hYw := bw.trans (cY.below bw.size (fun i hi => by omega))
            have HALL : Hid ((ms.take (k + 1)).all oldB = true) := Lib.hid (by rw [take_all hlt, HV.out, ← HM.out, HVM.out]; rfl)
            have HFIN := Lib.hid (show (∃ v B, Y.heap[w.heap.size + 1]? = some (.cells #[.bool pk, .bool false, .int .i64 255, .int .i64 0, .int .i64 0, v] 28 (0, 0)) ∧ AppX RX 46 Y (RT w) B v ((ms.take (k + 1)).map Old'.rec_)) ∧ Y.heap[w.heap.size]? = some (.cells #[.bool false, .bool false, .int .i64 0, .int .i64 0, .int .i64 0, .slice none 0 0] 28 (0, 0)) ∧ Hid ((ms.take (k + 1)).all oldB = true) ∧ Hid (Below w.heap.size w Y) from ⟨⟨_, _, hYb, by rw [← HZ.out]; exact hYA⟩, hYr, HALL, Lib.hid hYw⟩)
            rw [← hY]
            clear hzs hA1 hl1 hge hb1 hr1 bw hsw hY cY hYb hYr hYA hYw hbl hc1 hXV hbV hrV bV hkV hvV s0
            clear g6 g8
            go_wp2
            go_roundw
            case rel => exact ⟨k + 1, by omega, by go_num, HFIN.out⟩
            case measure => simp [intOf]; omega
      · have hk2 : k = ms.length := by omega
        subst hk2
        rw [List.take_length] at hX
        obtain ⟨A1, a1, rfl, hr1⟩ := hX.row
        have hX1 := hr1.toK
        obtain ⟨z0, z1, z2, z3, z4, z5, zf⟩ := six hbb
        have HV' : Hid (ms.all oldB = true) := Lib.hid (by have := HV.out; rwa [List.take_length] at this)
        clear hX hr1 HV
        rw [show ((ms.map Old'.rec_).length) = (turnB ms pk).recs.length from rfl] at z5
        go_wp2_with fail
        refine (BatchValid_any (turnB ms pk) A1 a1 _ wr hX1).mono ?_
        rintro e w2 ⟨rfl, hb2⟩
        have hrb2 := blk_below hrb hb2
        have hbb2 := blk_below hbb hb2
        have hX2 := hX1.below hb2
        have b2 := HB.out.trans (hb2.mono HB.out.size)
        obtain ⟨x0, x1, x2, x3, x4, x5, xf⟩ := six hrb2
        have hltr := blk_lt2 hrb2
        have HX2 := Lib.hid hX2
        have HB2 := Lib.hid b2
        cases hbt : batB (turnB ms pk)
        · have HQ : Hid (turnOk ms pk = false) := Lib.hid (by unfold turnOk; rw [hbt]; simp)
          clear hbt b2 hX2 hX1 hb2 hrb hbb hrb2 hbb2 z0 z1 z2 z3 z4 z5 zf
          go_wp2
          refine bodyPost_ret (v := .tuple #[.agg #[.bool false, .bool false, .int .i64 0, .int .i64 0, .int .i64 0, .slice none 0 0], .bool false]) (by simp [results, Tryd.results5, go_sem, x0, x1, x2, x3, x4, x5, hltr]) rfl (.no HQ.out rfl ?_)
          exact zeroT HB2.out
        · have HQ : Hid (turnOk ms pk = true) := Lib.hid (by unfold turnOk; rw [hbt, HV'.out, decide_eq_true h66]; rfl)
          clear z0 z1 z2 z3 z4 z5 zf
          obtain ⟨z0, z1, z2, z3, z4, z5, zf⟩ := six hbb2
          rw [show ((ms.map Old'.rec_).length) = (turnB ms pk).recs.length from rfl] at z5
          clear hbt b2 hX2 hX1 hb2 hrb hbb hrb2 hbb2
          go_wp2
          have cZ := Chg.setCells (fun b => b = w.heap.size) (g := w.heap.size) rfl [.bool pk, .bool false, .int .i64 255, .int .i64 0, .int .i64 0, .slice A1 (turnB ms pk).recs.length a1] 0 w2
          refine bodyPost_ret (v := .tuple #[.agg #[.bool pk, .bool false, .int .i64 255, .int .i64 0, .int .i64 0, .slice A1 (turnB ms pk).recs.length a1], .bool true]) (by simp [results, Tryd.results5, go_sem, x0, x1, x2, x3, x4, x5, hltr]) rfl ?_
          refine ⟨A1, a1, by rw [HQ.out, turn_yes HQ.out]; rfl, ?_, HB2.out.trans (cZ.below HB2.out.size (fun i hi => by omega))⟩
          rw [turn_yes HQ.out]
          exact (HX2.out.keep (cZ.same (fun i _ h1 h2 => by have : w.heap.size + 2 ≤ i := h1; omega))).mono (fun i (hi : w.heap.size + 2 ≤ i) => by omega)
end Go.Proofs.YtgnjnpfeofhniaaDoor
