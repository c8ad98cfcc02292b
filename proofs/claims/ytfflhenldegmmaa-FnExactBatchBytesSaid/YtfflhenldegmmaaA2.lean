/- append(v, ys...): many at once; parts of rows. -/
import Derived.Test.YtfflhenldegmmaaAp
namespace Go.Proofs.Ytfflhenldegmmaa
set_option linter.unusedVariables false
set_option linter.unusedSimpArgs false
open Go.RowKit

def Kind.One {α : Type} (d : Kind α) : Prop := ∀ (w : World) (F : Nat → Prop) (x : α) (cs : List Value), d.K w F x cs → ∀ u ∈ cs, u.oneCell' = true
theorem onec_int (k : IntKind) : (Kind.int k).One := by
  intro w F x cs h u hu
  have h' : cs = [.int k x] := h
  subst h'; simp at hu; subst hu; rfl
theorem onec_ent : Kind.ent.One := by
  intro w F x cs h u hu
  have h' : cs = [.int .i64 x.off, .int .i64 x.place] := h
  subst h'; simp at hu; rcases hu with rfl | rfl <;> rfl
theorem onec_rec : Kind.rec_.One := by
  rintro w F x cs ⟨A, c, A', c', rfl, _, _⟩ u hu
  simp at hu; rcases hu with rfl | rfl | rfl | rfl | rfl | rfl <;> rfl
theorem onec_bat : Kind.bat.One := by
  rintro w F x cs ⟨A, c, rfl, _⟩ u hu
  simp at hu; rcases hu with rfl | rfl | rfl | rfl | rfl | rfl <;> rfl

/-- What a value leads to lies in blocks that are there. -/
def Kind.Bnd {α : Type} (d : Kind α) : Prop := 0 < d.sz ∧ ∀ (w : World) (F : Nat → Prop) (x : α) (cs : List Value), d.K w F x cs → d.K w (fun b => F b ∧ b < w.heap.size) x cs
theorem Kind.Row.bound {α : Type} {d : Kind α} (hd : d.Bnd) {w : World} {F : Nat → Prop} {A : Option Addr} {c : Nat} {xs : List α} (h : d.Row w F A c xs) : d.Row w (fun b => F b ∧ b < w.heap.size) A c xs := by
  refine ⟨h.1, h.2.1, fun hx => ?_⟩
  obtain ⟨ad, e, hF, hc⟩ := h.2.2 hx
  refine ⟨ad, e, ⟨hF, ?_⟩, fun j x hj => ?_⟩
  · obtain ⟨x, r, rfl⟩ := List.exists_cons_of_ne_nil hx
    obtain ⟨cs, hK, hcell⟩ := hc 0 x rfl
    have hl := d.len hK
    have h0 : 0 < cs.length := by rw [hl]; exact hd.1
    have := cell_lt (hcell 0 _ (List.getElem?_eq_getElem h0))
    rwa [add_block] at this
  · obtain ⟨cs, hK, hcell⟩ := hc j x hj
    exact ⟨cs, hd.2 _ _ _ _ hK, hcell⟩
theorem bnd_int (k : IntKind) : (Kind.int k).Bnd := ⟨Nat.one_pos, fun _ _ _ _ h => h⟩
theorem bnd_ent : Kind.ent.Bnd := ⟨by decide, fun _ _ _ _ h => h⟩
theorem bnd_rec : Kind.rec_.Bnd := by
  refine ⟨by decide, ?_⟩
  rintro w F x cs ⟨A, c, A', c', rfl, h, h'⟩
  exact ⟨A, c, A', c', rfl, h.bound (bnd_int _), h'.bound (bnd_int _)⟩
theorem bnd_bat : Kind.bat.Bnd := by
  refine ⟨by decide, ?_⟩
  rintro w F x cs ⟨A, c, rfl, h⟩
  exact ⟨A, c, rfl, h.bound bnd_rec⟩

section
variable {α : Type} {d : Kind α} {w : World} {F : Nat → Prop} {c : Nat} {ys : List α}
theorem Kind.Row.flat {ad : Addr} (h : d.Row w F (some ad) c ys) (n : Nat) (hn : n ≤ ys.length) :
    ∃ news : List Value, news.length = n * d.sz ∧ (∀ j u, news[j]? = some u → w.cell? (ad.add j) = some u) ∧
      (∀ j x, j < n → ys[j]? = some x → ∃ cs, d.K w F x cs ∧ ∀ i u, cs[i]? = some u → news[j * d.sz + i]? = some u) ∧ ∀ u ∈ news, ∃ x cs, d.K w F x cs ∧ u ∈ cs := by
  induction n with
  | zero => exact ⟨[], by simp, by simp, fun j _ hj => by omega, by simp⟩
  | succ n ih =>
    obtain ⟨news, h1, h2, h3, h4⟩ := ih (by omega)
    obtain ⟨ad', cs, e, hF, hK, hc⟩ := h.get (j := n) hn
    obtain rfl : ad = ad' := by injection e
    have hl := d.len hK
    refine ⟨news ++ cs, by rw [List.length_append, h1, hl, Nat.succ_mul], ?_, ?_, ?_⟩
    · intro j u hu
      by_cases hj : j < news.length
      · rw [List.getElem?_append_left hj] at hu
        exact h2 j u hu
      · rw [List.getElem?_append_right (by omega)] at hu
        have := hc _ _ hu
        rwa [← h1, show news.length + (j - news.length) = j by omega] at this
    · intro j x hj hx
      by_cases hjn : j < n
      · obtain ⟨ds, hD, hd⟩ := h3 j x hjn hx
        refine ⟨ds, hD, fun i u hu => ?_⟩
        have hil : i < d.sz := by rw [← d.len hD]; exact (List.getElem?_eq_some_iff.1 hu).1
        have : j * d.sz + d.sz ≤ n * d.sz := by rw [← Nat.succ_mul]; exact Nat.mul_le_mul_right _ hjn
        rw [List.getElem?_append_left (by omega)]
        exact hd i u hu
      · have hjn' : j = n := by omega
        subst hjn'
        rw [List.getElem?_eq_getElem hn] at hx
        injection hx with hx
        subst hx
        refine ⟨cs, hK, fun i u hu => ?_⟩
        rw [List.getElem?_append_right (by omega), h1]
        simpa using hu
    · intro u hu
      rcases List.mem_append.1 hu with hu | hu
      · exact h4 u hu
      · exact ⟨_, cs, hK, hu⟩
/-- The first k of a row. -/
theorem Kind.Row.take {A : Option Addr} (h : d.Row w F A c ys) (k : Nat) : d.Row w F A c (ys.take k) := by
  refine ⟨Nat.le_trans (by simp; omega) h.1, h.2.1, fun hx => ?_⟩
  obtain ⟨ad, e, hF, hc⟩ := h.2.2 (fun e => hx (by rw [e]; simp))
  refine ⟨ad, e, hF, fun j x hj => hc j x ?_⟩
  rw [List.getElem?_take] at hj
  split at hj
  · exact hj
  · cases hj
/-- .. without the first k. -/
theorem Kind.Row.drop {ad : Addr} (h : d.Row w F (some ad) c ys) (k : Nat) (hk : k ≤ ys.length) : d.Row w F (some (ad.add (k * d.sz))) (c - k) (ys.drop k) := by
  have h1 := h.1
  have h2 := h.2.1
  refine ⟨by simp; omega, by omega, fun hx => ?_⟩
  obtain ⟨ad', e, hF, hc⟩ := h.2.2 (fun e => hx (by rw [e]; simp))
  obtain rfl : ad = ad' := by injection e
  refine ⟨_, rfl, by rw [add_block]; exact hF, fun j x hj => ?_⟩
  rw [List.getElem?_drop] at hj
  obtain ⟨cs, hK, hcell⟩ := hc _ _ hj
  refine ⟨cs, hK, fun i v hv => ?_⟩
  rw [add_add, ← Nat.add_assoc, ← Nat.add_mul]
  exact hcell i v hv
/-- A row without elements may lie anywhere. -/
theorem Kind.Row.drop_end {ad ad' : Addr} {c' : Nat} (hc : c' ≤ 9223372036854775807) (k : Nat) (hk : ys.length ≤ k) : d.Row w F (some ad') c' (ys.drop k) := by
  rw [List.drop_of_length_le hk]
  exact Kind.Row.nil _ _ hc
end

theorem own_from {v v1 : Value} {n m : Nat} (ho : v1.ownBlock = v.ownBlock ∨ ∃ b, v1.ownBlock = some b ∧ n ≤ b) (hv : ∀ k, v.ownBlock = some k → m ≤ k) (hmn : m ≤ n) : ∀ k, v1.ownBlock = some k → m ≤ k := by
  intro k hk
  rcases ho with h | ⟨b, h, hb⟩
  · exact hv k (by rw [← h]; exact hk)
  · rw [h] at hk; injection hk with hk; omega
theorem own_lit {g n c : Nat} : ∀ k, (Value.slice (some ⟨g, 0, none⟩) n c).ownBlock = some k → g ≤ k := by
  intro k h; simp [Value.ownBlock] at h; omega
/-- Where xs[l:] lies. -/
def cutAddr (A : Option Addr) (l m s : Nat) : Option Addr := if m = l then A else A.map (·.add (l * s))
theorem Kind.Row.cut {α : Type} {d : Kind α} {w : World} {F : Nat → Prop} {A : Option Addr} {c : Nat} {ys : List α} (h : d.Row w F A c ys) (k : Nat) (hk : k ≤ ys.length) : d.Row w F (cutAddr A k c d.sz) (c - k) (ys.drop k) := by
  have h1 := h.1
  have h2 := h.2.1
  by_cases he : k = ys.length
  · rw [List.drop_of_length_le (by omega)]
    exact Kind.Row.nil _ _ (by omega)
  · have hne : ys ≠ [] := by rintro rfl; simp at hk; simp at he; omega
    obtain ⟨ad, rfl, _⟩ := h.2.2 hne
    have : cutAddr (some ad) k c d.sz = some (ad.add (k * d.sz)) := by
      unfold cutAddr
      rw [if_neg (by omega)]
      rfl
    rw [this]
    exact h.drop k hk
theorem run_cut {P : Program} {t e : TypeId} {z : Value} {s b : Nat} (ht : P.underlying t = some (.slice e)) (hinfo : (P.info? e).map (fun i => (i.zero, i.size, i.bytes)) = some (some z, s, b)) (A : Option Addr) (n cap l : Nat) (L : Int) (hL : L = (l : Int)) (hl : l ≤ n) (w : World) :
    (Instr.slice t (.slice A n cap) (some (.int .i64 L)) none none).run P w = .ok (.slice (cutAddr A l cap s) (n - l) (cap - l)) w := by
  subst hL
  obtain ⟨i, hi, _, hs, _⟩ := info_of hinfo
  have he : P.elem t = e := by simp [Program.elem, ht]
  rw [run_slice_l (P := P) (w := w) t A n cap (by rw [he]; exact ht) .i64 (l : Int) (by omega) (by omega)]
  rw [he]
  simp [sizeOf, typeInfo, hi, hs, sliced, cutAddr, Result.andThen]

theorem run_cuth {P : Program} {t e : TypeId} {z : Value} {s b : Nat} (ht : P.underlying t = some (.slice e)) (hinfo : (P.info? e).map (fun i => (i.zero, i.size, i.bytes)) = some (some z, s, b)) (A : Option Addr) (n cap l : Nat) (L : Int) (hL : L = (l : Int)) (hl : l ≤ cap) (w : World) :
    (Instr.slice t (.slice A n cap) none (some (.int .i64 L)) none).run P w = .ok (.slice A l cap) w := by
  subst hL
  obtain ⟨i, hi, _, hs, _⟩ := info_of hinfo
  have he : P.elem t = e := by simp [Program.elem, ht]
  rw [run_slice_h (P := P) (w := w) t A n cap (by rw [he]; exact ht) .i64 (l : Int) (by omega) (by omega)]
  rw [he]
  by_cases hc : cap = 0
  · subst hc; simp [sizeOf, typeInfo, hi, hs, sliced, Result.andThen]
  · simp [sizeOf, typeInfo, hi, hs, sliced, Result.andThen, hc]
    cases A with
    | none => rfl
    | some ad => simp [Addr.add]

section
variable {α : Type} {d : Kind α} {e : TypeId} {w : World} {P : Nat → Prop} {v : Value} {xs : List α}
theorem AppP.addAll {W w1 : World} {v1 : Value} {ys : List α} {news inner : List Value} {F G : Nat → Prop} (ho : W.ownsRow 0 e d.sz v xs.length inner)
    (hF : ∀ b, F b → P b ∧ b < W.heap.size ∧ v.ownBlock ≠ some b) (hE : ∀ j x, xs[j]? = some x → ∃ cs, d.K W F x cs ∧ ∀ i u, cs[i]? = some u → inner[j * d.sz + i]? = some u)
    (hN : ∀ j x, ys[j]? = some x → ∃ cs, d.K W G x cs ∧ ∀ i u, cs[i]? = some u → news[j * d.sz + i]? = some u) (hG : ∀ b, G b → P b ∧ b < W.heap.size ∧ v.ownBlock ≠ some b)
    (hown : w1.ownsRow 0 e d.sz v1 (xs.length + ys.length) (inner ++ news)) (hg : Chg (fun b => v.ownBlock = some b) W w1)
    (hP : ∀ k, v.ownBlock = some k → P k) (hnew : ∀ b, W.heap.size ≤ b → P b)
    (hat : v1.ownBlock = v.ownBlock ∨ ∃ b, v1.ownBlock = some b ∧ W.heap.size ≤ b) : AppP d e w1 P v1 (xs ++ ys) := by
  have hin : inner.length = xs.length * d.sz := ho.1
  have hne : ∀ b, b < W.heap.size → v.ownBlock ≠ some b → v1.ownBlock ≠ some b := by
    intro b hb hn
    rcases hat with h | ⟨k, hk, hle⟩
    · rw [h]; exact hn
    · rw [hk]; intro h; injection h with h; omega
  refine ⟨fun b => F b ∨ G b, inner ++ news, by simpa using hown, ?_, ?_, ?_⟩
  · intro k hk
    rcases hat with h | ⟨k', hk', hle⟩
    · exact hP k (by rw [← h]; exact hk)
    · rw [hk'] at hk
      injection hk with hk
      exact hnew k (by omega)
  · rintro b (hb | hb)
    · obtain ⟨h1, h2, h3⟩ := hF b hb
      exact ⟨h1, Nat.lt_of_lt_of_le h2 hg.size, hne b h2 h3⟩
    · obtain ⟨h1, h2, h3⟩ := hG b hb
      exact ⟨h1, Nat.lt_of_lt_of_le h2 hg.size, hne b h2 h3⟩
  · intro j x hj
    by_cases hjl : j < xs.length
    · rw [List.getElem?_append_left hjl] at hj
      obtain ⟨ds, hK, hc⟩ := hE j x hj
      refine ⟨ds, d.mono (fun b hb => .inl hb) (d.keep (hg.same (fun b hlt hb => (hF b hb).2.2)) hK), fun i u hu => ?_⟩
      have hil : i < d.sz := by rw [← d.len hK]; exact (List.getElem?_eq_some_iff.1 hu).1
      have : j * d.sz + d.sz ≤ xs.length * d.sz := by rw [← Nat.succ_mul]; exact Nat.mul_le_mul_right _ hjl
      rw [List.getElem?_append_left (by omega)]
      exact hc i u hu
    · rw [List.getElem?_append_right (by omega)] at hj
      obtain ⟨ds, hK, hc⟩ := hN _ x hj
      refine ⟨ds, d.mono (fun b hb => .inr hb) (d.keep (hg.same (fun b hlt hb => (hG b hb).2.2)) hK), fun i u hu => ?_⟩
      have hsub : (j - xs.length) * d.sz = j * d.sz - xs.length * d.sz := Nat.sub_mul _ _ _
      have hle : xs.length * d.sz ≤ j * d.sz := Nat.mul_le_mul_right _ (by omega)
      have := hc i u hu
      rw [List.getElem?_append_right (by omega), hin]
      rw [hsub] at this
      rw [show j * d.sz + i - xs.length * d.sz = j * d.sz - xs.length * d.sz + i by omega]
      exact this
end

theorem App.litD {α : Type} (d : Kind α) (e : TypeId) (w : World) (base : Nat) (hb : base ≤ w.heap.size) : App d e (w.alloc (.cells #[] e)).drew base (.slice (some ⟨w.heap.size, 0, none⟩) 0 0) [] :=
  AppP.chg (App.lit d e w base hb) (G := fun _ => False) (Chg.refl _ _).drew (fun _ _ _ h => h)
section
variable {P : Program} {ops : Array Oper} {rest : List Oper} {o : Oper} {a : Act} {Q : Exit → Act → World → Prop} {α : Type}
theorem run_append_own_nil {w : World} (base : Nat) (t ty e : TypeId) (i : TypeInfo) (size c : Nat) (ht : P.underlying t = some (.slice e)) (hi : P.info? e = some i)
    (v : Value) (n : Nat) (xs : List Value) (hown : w.ownsRow base e size v n xs) :
    (Builtin.append_ #[t, t] ty #[v, .slice none 0 c]).run P w = .ok v w := by
  rcases hown.2 with ⟨rfl, rfl⟩ | ⟨g, cap, cur, rfl, _, _, hnc, _⟩
  · simp [Builtin.append_, run_underlying ht, sizeOf, typeInfo, hi, Builtin.lenOf, Builtin.firstCells]
  · simp [Builtin.append_, run_underlying ht, sizeOf, typeInfo, hi, Builtin.lenOf, Builtin.firstCells, hnc, storeCells]
/-- The run of append(v, ys...). -/
theorem run_appN (d : Kind α) {e : TypeId} {W : World} {R : Nat → Prop} {v : Value} {xs ys : List α} (HO : AppP d e W R v xs) (t ty : TypeId) (z : Value) (bytes : Nat)
    (ht : P.underlying t = some (.slice e)) (hinfo : (P.info? e).map (fun i => (i.zero, i.size, i.bytes)) = some (some z, d.sz, bytes)) (hz : z.cells.size = d.sz)
    (hb : d.Bnd) (h1 : d.One) {A : Option Addr} {c : Nat} {G : Nat → Prop} (hy : d.Row W G A c ys) (hG : ∀ b, b < W.heap.size → G b → R b ∧ v.ownBlock ≠ some b)
    (hnew : ∀ b, W.heap.size ≤ b → R b) (h63 : xs.length + ys.length ≤ 1099511627776) (hl : (xs.length + ys.length) * bytes ≤ 140737488355328) :
    ∃ v1 w1, (Builtin.append_ #[t, t] ty #[v, .slice A ys.length c]).run P W = .ok v1 w1 ∧ AppP d e w1 R v1 (xs ++ ys) ∧ Chg (fun b => v.ownBlock = some b) W w1 ∧ (v1.ownBlock = v.ownBlock ∨ ∃ b, v1.ownBlock = some b ∧ W.heap.size ≤ b) := by
  have HO' := HO
  obtain ⟨F, inner, hown, hP, hF, hE⟩ := HO
  obtain ⟨i0, hi, hz0, hz1, hz2⟩ := info_of hinfo
  cases A with
  | none =>
    have hnil : ys = [] := Classical.byContradiction fun hx => by
      obtain ⟨ad, e, _⟩ := hy.2.2 hx
      cases e
    subst hnil
    exact ⟨v, W, run_append_own_nil (P := P) 0 t ty e i0 d.sz c ht hi v _ inner hown, by simpa using HO', Chg.refl _ _, .inl rfl⟩
  | some ad =>
    have hyb := hy.bound hb
    obtain ⟨news, hn1, hn2, hn3, hn4⟩ := hyb.flat ys.length (Nat.le_refl _)
    obtain ⟨v', w', hrun, h2, h3, _, h5⟩ := run_append_own_at (P := P) W 0 t ty e i0 z d.sz bytes ht hi hz0 hz1 hz2 hz hb.1 v xs.length inner hown ad ys.length c news hn1 hn2
      (fun u hu => by obtain ⟨x, cs, hK, hm⟩ := hn4 u hu; exact h1 _ _ _ _ hK u hm) (by simp only [maxLen]; omega) hl (by simp)
    have hg : Chg (fun b => v.ownBlock = some b) W w' := ⟨h3.os, h3.tape, h3.output, h3.size, fun b hb hn => h3.block b hb (fun e => hn e.symm)⟩
    refine ⟨v', w', hrun, AppP.addAll (G := fun b => G b ∧ b < W.heap.size) hown hF hE (fun j x hj => hn3 j x (List.getElem?_eq_some_iff.1 hj).1 hj) (fun b hb => ⟨(hG b hb.2 hb.1).1, hb.2, (hG b hb.2 hb.1).2⟩) h2 hg hP hnew ?_, hg, ?_⟩
    all_goals
      rcases h5 with h5 | h5
      · exact .inl h5
      · exact .inr ⟨_, h5, Nat.le_refl _⟩
/-- append(v, ys...), behind 'at_builtin'. -/
theorem below_drewN (w : World) (n : Nat) : Below w.heap.size w (w.drewN n) := ⟨rfl, rfl, rfl, Nat.le_refl _, fun _ _ => rfl⟩
theorem wpList_appN (d : Kind α) {e : TypeId} {W : World} {R : Nat → Prop} {v : Value} {xs ys : List α} (HO : AppP d e W R v xs) (hgd : o.guard = none) (s x : Operand) (t : TypeId) (z : Value) (bytes : Nat)
    (ho : o.op = .call { callee := .builtin .append, args := #[s, x], argTypes := #[t, t] })
    (ht : P.underlying t = some (.slice e)) (hinfo : (P.info? e).map (fun i => (i.zero, i.size, i.bytes)) = some (some z, d.sz, bytes)) (hz : z.cells.size = d.sz)
    (hb : d.Bnd) (h1 : d.One) {A : Option Addr} {c n : Nat} {G : Nat → Prop} (hs : a.eval s = v) (hx : a.eval x = .slice A n c) (hn : ys.length = n) (hy : d.Row W G A c ys) (hG : ∀ b, b < W.heap.size → G b → R b ∧ v.ownBlock ≠ some b)
    (hnew : ∀ b, W.heap.size ≤ b → R b) (h63 : xs.length + ys.length ≤ 1099511627776) (hl : (xs.length + ys.length) * bytes ≤ 140737488355328)
    (h : ∀ v1 w1, AppP d e w1 R v1 (xs ++ ys) → Chg (fun b => v.ownBlock = some b) W w1 → (v1.ownBlock = v.ownBlock ∨ ∃ b, v1.ownBlock = some b ∧ W.heap.size ≤ b) → wpList P ops Q rest (a.put o.dst v1) w1) :
    wpList P ops Q (o :: rest) a W := by
  subst hn
  obtain ⟨v1, w1, hrun, h2, h3, h4⟩ := run_appN (P := P) d HO t o.type z bytes ht hinfo hz hb h1 hy hG hnew h63 hl
  refine wpList_plain hgd fun K hK => ?_
  unfold Oper.wp execOp
  simp only [ho, resolve, invoke, builtin, Sem.run_bind, Sem.run_pure, Result.andThen_ok, List.map_toArray, List.map_cons, List.map_nil, hs, hx, hrun]
  exact hK _ _ (h v1 w1 h2 h3 h4)
/-- .. at a step of a region that draws. -/
theorem step_appN (d : Kind α) {e : TypeId} {W : World} {R : Nat → Prop} {v : Value} {xs ys : List α} {K : Act → World → Prop} {E : Prop} (HO : AppP d e W R v xs) (hgd : o.guard = none) (s x : Operand) (t : TypeId) (z : Value) (bytes : Nat)
    (ho : o.op = .call { callee := .builtin .append, args := #[s, x], argTypes := #[t, t] })
    (ht : P.underlying t = some (.slice e)) (hinfo : (P.info? e).map (fun i => (i.zero, i.size, i.bytes)) = some (some z, d.sz, bytes)) (hz : z.cells.size = d.sz)
    (hb : d.Bnd) (h1 : d.One) {A : Option Addr} {c n : Nat} {G : Nat → Prop} (hs : a.eval s = v) (hx : a.eval x = .slice A n c) (hn : ys.length = n) (hy : d.Row W G A c ys) (hG : ∀ b, b < W.heap.size → G b → R b ∧ v.ownBlock ≠ some b)
    (hnew : ∀ b, W.heap.size ≤ b → R b) (h63 : xs.length + ys.length ≤ 1099511627776) (hl : (xs.length + ys.length) * bytes ≤ 140737488355328)
    (h : ∀ v1 w1, AppP d e w1 R v1 (xs ++ ys) → Chg (fun b => v.ownBlock = some b) W w1 → (v1.ownBlock = v.ownBlock ∨ ∃ b, v1.ownBlock = some b ∧ W.heap.size ≤ b) → K (a.put o.dst v1) w1) :
    if Region.wanted o (yielded ops a.tmps) = true then Oper.wp P o a W K Q else E := by
  subst hn
  have hw : Region.wanted o (yielded ops a.tmps) = true := by simp [Region.wanted, hgd]
  rw [if_pos hw]
  obtain ⟨v1, w1, hrun, h2, h3, h4⟩ := run_appN (P := P) d HO t o.type z bytes ht hinfo hz hb h1 hy hG hnew h63 hl
  unfold Oper.wp execOp
  simp only [ho, resolve, invoke, builtin, Sem.run_bind, Sem.run_pure, Result.andThen_ok, List.map_toArray, List.map_cons, List.map_nil, hs, hx, hrun]
  exact h v1 w1 h2 h3 h4
end
end Go.Proofs.Ytfflhenldegmmaa
