/- impl.pack. -/
import Derived.Test.YtfflhenldegmmaaP7
namespace Go.Proofs.Ytfflhenldegmmaa
set_option linter.unusedVariables false
set_option linter.unusedSimpArgs false
open Go.RowKit Go.Shelf

/-- The blocks of packing: the bytes' variable, out's, plain's, the map, its variable. -/
structure Bxs where
  n0 : Nat
  bb : Nat
  bo : Nat
  bp : Nat
  b : Nat
  bs : Nat
def Bxs.Ok (x : Bxs) : Prop := (x.n0 ≤ x.bb ∧ x.n0 ≤ x.bo ∧ x.n0 ≤ x.bp ∧ x.n0 ≤ x.b ∧ x.n0 ≤ x.bs) ∧ x.bb ≠ x.bo ∧ x.bb ≠ x.bp ∧ x.bb ≠ x.b ∧ x.bb ≠ x.bs ∧ x.bo ≠ x.bp ∧ x.bo ≠ x.b ∧ x.bo ≠ x.bs ∧ x.bp ≠ x.b ∧ x.bp ≠ x.bs ∧ x.b ≠ x.bs
def Bxs.Far (x : Bxs) (k : Nat) : Prop := x.n0 ≤ k ∧ k ≠ x.bb ∧ k ≠ x.bo ∧ k ≠ x.bp ∧ k ≠ x.b ∧ k ≠ x.bs
def Bxs.OutP (x : Bxs) (vp : Value) (k : Nat) : Prop := x.Far k ∧ vp.ownBlock ≠ some k
def Bxs.SeenP (x : Bxs) (vo vp : Value) (k : Nat) : Prop := x.Far k ∧ vo.ownBlock ≠ some k ∧ vp.ownBlock ≠ some k
structure PkI (x : Bxs) (l : List Int) (A : Option Addr) (c : Nat) (i : Nat) (xs ps : List Int) (vo vp : Value) (w W : World) : Prop where
  ok : x.Ok
  out : HoldI W x.bo vo
  plain : HoldI W x.bp vp
  bytes : HoldI W x.bb (.slice A l.length c)
  mp : W.heap[x.bs]? = some (.cells #[.map (some x.b)] 105 (0, 0))
  rowO : AppP (Kind.int .i64) 3 W (x.OutP vp) vo xs
  rowP : AppP (Kind.int .i64) 3 W x.Far vp ps
  seen : SeenI l i x.b (x.SeenP vo vp) W
  base : w.heap.size = x.n0
  below : Below w.heap.size w W
section
variable {x : Bxs} {l : List Int} {A : Option Addr} {c i : Nat} {xs ps : List Int} {vo vp : Value} {w W W' : World}
theorem PkI.lts (h : PkI x l A c i xs ps vo vp w W) : x.bb < W.heap.size ∧ x.bo < W.heap.size ∧ x.bp < W.heap.size ∧ x.b < W.heap.size ∧ x.bs < W.heap.size :=
  ⟨h.bytes.lt, h.out.lt, h.plain.lt, h.seen.lt, (Array.getElem?_eq_some_iff.1 h.mp).1⟩
theorem PkI.far (h : PkI x l A c i xs ps vo vp w W) {k : Nat} (hk : W.heap.size ≤ k) : x.Far k := by
  have h1 := h.lts
  have h2 := h.below.size
  have h3 := h.base
  exact ⟨by omega, by omega, by omega, by omega, by omega, by omega⟩
theorem PkI.outNew (h : PkI x l A c i xs ps vo vp w W) {k : Nat} (hk : W.heap.size ≤ k) : x.OutP vp k := ⟨h.far hk, fun e => by have := AppP.own_lt h.rowP e; omega⟩
theorem PkI.seenNew (h : PkI x l A c i xs ps vo vp w W) {k : Nat} (hk : W.heap.size ≤ k) : x.SeenP vo vp k := ⟨h.far hk, fun e => by have := AppP.own_lt h.rowO e; omega, fun e => by have := AppP.own_lt h.rowP e; omega⟩
theorem PkI.grow (h : PkI x l A c i xs ps vo vp w W) (hb : Below W.heap.size W W') : PkI x l A c i xs ps vo vp w W' :=
  ⟨h.ok, blk_below h.out hb, blk_below h.plain hb, blk_below h.bytes hb, blk_below h.mp hb, AppP.below h.rowO hb, AppP.below h.rowP hb, h.seen.keep (Chg.of_below (F := fun _ => False) hb) (fun h => h) (fun _ _ hx => ⟨fun h => h, hx⟩), h.base, bthen h.below hb⟩
/-- plain has become longer. -/
theorem PkI.setP (h : PkI x l A c i xs ps vo vp w W) {W1 : World} {v1 : Value} {ps1 : List Int} (ha : AppP (Kind.int .i64) 3 W1 x.Far v1 ps1) (hc : Chg (fun k => vp.ownBlock = some k) W W1) (ho : v1.ownBlock = vp.ownBlock ∨ ∃ k, v1.ownBlock = some k ∧ W.heap.size ≤ k) :
    PkI x l A c i xs ps1 vo v1 w (W1.setCell ⟨x.bp, 0, none⟩ v1) := by
  have hF := fun k (hk : vp.ownBlock = some k) => AppP.ne h.rowP hk
  obtain ⟨ok1, ok2⟩ := h.ok
  have hl := h.lts
  have hbel := h.below.size
  have hbase := h.base
  obtain ⟨T, hT⟩ : ∃ T, T = W1.setCell ⟨x.bp, 0, none⟩ v1 := ⟨_, rfl⟩
  rw [← hT]
  have hcT : Chg (fun k => vp.ownBlock = some k ∨ k = x.bp) W T := by
    rw [hT]
    exact (hc.mono (fun _ _ e => .inl e)).trans (Chg.set (fun k => vp.ownBlock = some k ∨ k = x.bp) W1 (p := ⟨x.bp, 0, none⟩) (.inr rfl) v1)
  have hsT : Chg (fun k => k = x.bp) W1 T := by rw [hT]; exact Chg.set (fun k => k = x.bp) W1 (p := ⟨x.bp, 0, none⟩) rfl v1
  have hP1 : HoldI W1 x.bp vp := h.plain.chg hc (fun e => by have := hF _ e; exact this.2.2.2.1 rfl)
  have hne : ∀ k, k < W.heap.size → vp.ownBlock ≠ some k → v1.ownBlock ≠ some k := fun k hk e e1 => by
    rcases ho with h1 | ⟨k', e2, h1⟩
    · exact e (by rw [← h1]; exact e1)
    · rw [e1] at e2; injection e2 with e2; omega
  refine ⟨⟨ok1, ok2⟩, h.out.chg hcT ?_, by rw [hT]; exact hP1.set _, h.bytes.chg hcT ?_, hcT.blk h.mp ?_, ?_, ?_, h.seen.keep hcT ?_ ?_, h.base, h.below.trans (hcT.below hbel ?_)⟩
  · rintro (e | e)
    · exact (hF _ e).2.2.1 rfl
    · omega
  · rintro (e | e)
    · exact (hF _ e).2.1 rfl
    · omega
  · rintro (e | e)
    · exact (hF _ e).2.2.2.2.2 rfl
    · omega
  · refine AppP.keepOwn (flat_int _) (AppP.mono h.rowO (fun k hk hP => ⟨hP.1, hne k hk hP.2⟩)) (fun k hk => hcT.block k (AppP.own_lt h.rowO hk) ?_)
    have := AppP.ne h.rowO hk
    rintro (e | e)
    · exact this.2 e
    · exact this.1.2.2.2.1 e
  · exact AppP.keepOwn (flat_int _) ha (fun k hk => hsT.block k (AppP.own_lt ha hk) (fun e => (AppP.ne ha hk).2.2.2.1 e))
  · rintro (e | e)
    · exact (hF _ e).2.2.2.2.1 rfl
    · omega
  · intro k hk hP
    refine ⟨?_, hP.1, hP.2.1, hne k hk hP.2.2⟩
    rintro (e | e)
    · exact hP.2.2 e
    · exact hP.1.2.2.2.1 e
  · rintro k (e | e)
    · have := (hF _ e).1; omega
    · omega
/-- out has become longer. -/
theorem PkI.setO (h : PkI x l A c i xs ps vo vp w W) {W1 : World} {v1 : Value} {xs1 : List Int} (ha : AppP (Kind.int .i64) 3 W1 (x.OutP vp) v1 xs1) (hc : Chg (fun k => vo.ownBlock = some k) W W1) (ho : v1.ownBlock = vo.ownBlock ∨ ∃ k, v1.ownBlock = some k ∧ W.heap.size ≤ k) :
    PkI x l A c i xs1 ps v1 vp w (W1.setCell ⟨x.bo, 0, none⟩ v1) := by
  have hF := fun k (hk : vo.ownBlock = some k) => AppP.ne h.rowO hk
  obtain ⟨ok1, ok2⟩ := h.ok
  have hl := h.lts
  have hbel := h.below.size
  have hbase := h.base
  obtain ⟨T, hT⟩ : ∃ T, T = W1.setCell ⟨x.bo, 0, none⟩ v1 := ⟨_, rfl⟩
  rw [← hT]
  have hcT : Chg (fun k => vo.ownBlock = some k ∨ k = x.bo) W T := by
    rw [hT]
    exact (hc.mono (fun _ _ e => .inl e)).trans (Chg.set (fun k => vo.ownBlock = some k ∨ k = x.bo) W1 (p := ⟨x.bo, 0, none⟩) (.inr rfl) v1)
  have hsT : Chg (fun k => k = x.bo) W1 T := by rw [hT]; exact Chg.set (fun k => k = x.bo) W1 (p := ⟨x.bo, 0, none⟩) rfl v1
  have hO1 : HoldI W1 x.bo vo := h.out.chg hc (fun e => by have := hF _ e; exact this.1.2.2.1 rfl)
  have hne : ∀ k, k < W.heap.size → vo.ownBlock ≠ some k → v1.ownBlock ≠ some k := fun k hk e e1 => by
    rcases ho with h1 | ⟨k', e2, h1⟩
    · exact e (by rw [← h1]; exact e1)
    · rw [e1] at e2; injection e2 with e2; omega
  refine ⟨⟨ok1, ok2⟩, by rw [hT]; exact hO1.set _, h.plain.chg hcT ?_, h.bytes.chg hcT ?_, hcT.blk h.mp ?_, ?_, ?_, h.seen.keep hcT ?_ ?_, h.base, h.below.trans (hcT.below hbel ?_)⟩
  · rintro (e | e)
    · exact (hF _ e).1.2.2.2.1 rfl
    · omega
  · rintro (e | e)
    · exact (hF _ e).1.2.1 rfl
    · omega
  · rintro (e | e)
    · exact (hF _ e).1.2.2.2.2.2 rfl
    · omega
  · exact AppP.keepOwn (flat_int _) ha (fun k hk => hsT.block k (AppP.own_lt ha hk) (fun e => (AppP.ne ha hk).1.2.2.1 e))
  · refine AppP.keepOwn (flat_int _) h.rowP (fun k hk => hcT.block k (AppP.own_lt h.rowP hk) ?_)
    rintro (e | e)
    · exact (hF _ e).2 hk
    · exact (AppP.ne h.rowP hk).2.2.1 e
  · rintro (e | e)
    · exact (hF _ e).1.2.2.2.2.1 rfl
    · omega
  · intro k hk hP
    refine ⟨?_, hP.1, hne k hk hP.2.1, hP.2.2⟩
    rintro (e | e)
    · exact hP.2.1 e
    · exact hP.1.2.2.1 e
  · rintro k (e | e)
    · have := (hF _ e).1.1; omega
    · omega
/-- What is plain has been told. -/
theorem PkI.flush (h : PkI x l A c i xs ps vo vp w W) {vo' vp' : Value} {xs1 : List Int} (h1 : HoldI W' x.bo vo') (h2 : HoldI W' x.bp vp') (ha : AppP (Kind.int .i64) 3 W' (x.OutP vp) vo' xs1) (hb : AppP (Kind.int .i64) 3 W' x.Far vp' []) (hv : vp'.ownBlock = vp.ownBlock)
    (ho : vo'.ownBlock = vo.ownBlock ∨ ∃ k, vo'.ownBlock = some k ∧ W.heap.size ≤ k) (hc : Chg (fun k => k = x.bp ∨ k = x.bo ∨ vo.ownBlock = some k) W W') : PkI x l A c i xs1 [] vo' vp' w W' := by
  have hF := fun k (hk : vo.ownBlock = some k) => AppP.ne h.rowO hk
  obtain ⟨ok1, ok2⟩ := h.ok
  have hl := h.lts
  have hbel := h.below.size
  have hbase := h.base
  have hne : ∀ k, k < W.heap.size → vo.ownBlock ≠ some k → vo'.ownBlock ≠ some k := fun k hk e e1 => by
    rcases ho with h1 | ⟨k', e2, h1⟩
    · exact e (by rw [← h1]; exact e1)
    · rw [e1] at e2; injection e2 with e2; omega
  refine ⟨⟨ok1, ok2⟩, h1, h2, h.bytes.chg hc ?_, hc.blk h.mp ?_, AppP.mono ha (fun k _ hP => ⟨hP.1, by rw [hv]; exact hP.2⟩), hb, h.seen.keep hc ?_ ?_, h.base, h.below.trans (hc.below hbel ?_)⟩
  · rintro (e | e | e)
    · omega
    · omega
    · exact (hF _ e).1.2.1 rfl
  · rintro (e | e | e)
    · omega
    · omega
    · exact (hF _ e).1.2.2.2.2.2 rfl
  · rintro (e | e | e)
    · omega
    · omega
    · exact (hF _ e).1.2.2.2.2.1 rfl
  · intro k hk hP
    refine ⟨?_, hP.1, hne k hk hP.2.1, by rw [hv]; exact hP.2.2⟩
    rintro (e | e | e)
    · exact hP.1.2.2.2.1 e
    · exact hP.1.2.2.1 e
    · exact hP.2.1 e
  · rintro k (e | e | e)
    · omega
    · omega
    · have := (hF _ e).1.1; omega
/-- A place has been remembered. -/
theorem PkI.see (h : PkI x l A c i xs ps vo vp w W) (hs : SeenI l (i + 1) x.b (x.SeenP vo vp) W') (hc : Chg (fun k => k = x.b ∨ x.SeenP vo vp k) W W') : PkI x l A c (i + 1) xs ps vo vp w W' := by
  obtain ⟨ok1, ok2⟩ := h.ok
  have hl := h.lts
  have hbel := h.below.size
  have hbase := h.base
  refine ⟨⟨ok1, ok2⟩, h.out.chg hc ?_, h.plain.chg hc ?_, h.bytes.chg hc ?_, hc.blk h.mp ?_, AppP.keepOwn (flat_int _) h.rowO (fun k hk => hc.block k (AppP.own_lt h.rowO hk) ?_), AppP.keepOwn (flat_int _) h.rowP (fun k hk => hc.block k (AppP.own_lt h.rowP hk) ?_), hs, h.base, h.below.trans (hc.below hbel ?_)⟩
  · rintro (e | e)
    · omega
    · exact e.1.2.2.1 rfl
  · rintro (e | e)
    · omega
    · exact e.1.2.2.2.1 rfl
  · rintro (e | e)
    · omega
    · exact e.1.2.1 rfl
  · rintro (e | e)
    · omega
    · exact e.1.2.2.2.2.2 rfl
  · have := (AppP.ne h.rowO hk).1
    rintro (e | e)
    · exact this.2.2.2.2.1 e
    · exact e.2.1 hk
  · have := AppP.ne h.rowP hk
    rintro (e | e)
    · exact this.2.2.2.2.1 e
    · exact e.2.2 hk
  · rintro k (e | e)
    · omega
    · have := e.1.1; omega
end
end Go.Proofs.Ytfflhenldegmmaa
