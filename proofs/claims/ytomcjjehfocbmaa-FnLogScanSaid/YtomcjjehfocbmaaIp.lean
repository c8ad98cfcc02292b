/- All records of a segment, each with its batch and where its parts lie. No program in sight. -/
import Derived.Test.YtomcjjehfocbmaaPn
import Derived.Test.YtomcjjehfocbmaaGa
namespace Go.Proofs.Ytomcjjehfocbmaa
set_option linter.unusedVariables false
set_option linter.unusedSimpArgs false
open Go.RowKit

structure Pr where
  b : Bat
  A : Option Addr
  c : Nat
  r : Rec
  K : Option Addr
  k : Nat
  V : Option Addr
  v : Nat
def Pr.encs (x : Pr) : Array Value :=
  #[.agg #[.bool x.b.packed, .bool x.b.mark, .int .i64 x.b.prod, .int .i64 x.b.epoch, .int .i64 x.b.seq, .slice x.A x.b.recs.length x.c],
    .agg #[.int .i64 x.r.off, .int .i64 x.r.time, .bool x.r.hk, .slice x.K x.r.key.length x.k, .bool x.r.hv, .slice x.V x.r.val.length x.v]]
abbrev Pl3 := (Option Addr × Nat) × (Option Addr × Nat)
/-- Where the parts of a row of batches lie. -/
structure Lay (w : World) (F : Nat → Prop) (A : Option Addr) (bs : List Bat) (fB : Nat → Option Addr × Nat) (fR : Nat × Nat → Pl3) : Prop where
  bat : ∀ k (hk : k < bs.length), ∃ ad, A = some ad ∧ F ad.block ∧ Recs w F (fB k).1 (fB k).2 bs[k].recs ∧
      w.cell? (ad.add (k * 6)) = some (.bool bs[k].packed) ∧ w.cell? ⟨(ad.add (k * 6)).block, (ad.add (k * 6)).off + 1, none⟩ = some (.bool bs[k].mark) ∧
      w.cell? ⟨(ad.add (k * 6)).block, (ad.add (k * 6)).off + 2, none⟩ = some (.int .i64 bs[k].prod) ∧ w.cell? ⟨(ad.add (k * 6)).block, (ad.add (k * 6)).off + 3, none⟩ = some (.int .i64 bs[k].epoch) ∧
      w.cell? ⟨(ad.add (k * 6)).block, (ad.add (k * 6)).off + 4, none⟩ = some (.int .i64 bs[k].seq) ∧ w.cell? ⟨(ad.add (k * 6)).block, (ad.add (k * 6)).off + 5, none⟩ = some (.slice (fB k).1 bs[k].recs.length (fB k).2)
  rec_ : ∀ k (hk : k < bs.length) j (hj : j < bs[k].recs.length), ∃ ad, (fB k).1 = some ad ∧ F ad.block ∧ Ints w F (fR (k, j)).1.1 (fR (k, j)).1.2 bs[k].recs[j].key ∧ Ints w F (fR (k, j)).2.1 (fR (k, j)).2.2 bs[k].recs[j].val ∧
      w.cell? (ad.add (j * 6)) = some (.int .i64 bs[k].recs[j].off) ∧ w.cell? ⟨(ad.add (j * 6)).block, (ad.add (j * 6)).off + 1, none⟩ = some (.int .i64 bs[k].recs[j].time) ∧
      w.cell? ⟨(ad.add (j * 6)).block, (ad.add (j * 6)).off + 2, none⟩ = some (.bool bs[k].recs[j].hk) ∧ w.cell? ⟨(ad.add (j * 6)).block, (ad.add (j * 6)).off + 3, none⟩ = some (.slice (fR (k, j)).1.1 bs[k].recs[j].key.length (fR (k, j)).1.2) ∧
      w.cell? ⟨(ad.add (j * 6)).block, (ad.add (j * 6)).off + 4, none⟩ = some (.bool bs[k].recs[j].hv) ∧ w.cell? ⟨(ad.add (j * 6)).block, (ad.add (j * 6)).off + 5, none⟩ = some (.slice (fR (k, j)).2.1 bs[k].recs[j].val.length (fR (k, j)).2.2)
theorem Lay.of {w : World} {F : Nat → Prop} {A : Option Addr} {c : Nat} {bs : List Bat} (h : Bats w F A c bs) : ∃ fB fR, Lay w F A bs fB fR := by
  have e1 : ∀ k : Nat, ∃ p : Option Addr × Nat, ∀ hk : k < bs.length, ∃ ad, A = some ad ∧ F ad.block ∧ Recs w F p.1 p.2 bs[k].recs ∧
      w.cell? (ad.add (k * 6)) = some (.bool bs[k].packed) ∧ w.cell? ⟨(ad.add (k * 6)).block, (ad.add (k * 6)).off + 1, none⟩ = some (.bool bs[k].mark) ∧
      w.cell? ⟨(ad.add (k * 6)).block, (ad.add (k * 6)).off + 2, none⟩ = some (.int .i64 bs[k].prod) ∧ w.cell? ⟨(ad.add (k * 6)).block, (ad.add (k * 6)).off + 3, none⟩ = some (.int .i64 bs[k].epoch) ∧
      w.cell? ⟨(ad.add (k * 6)).block, (ad.add (k * 6)).off + 4, none⟩ = some (.int .i64 bs[k].seq) ∧ w.cell? ⟨(ad.add (k * 6)).block, (ad.add (k * 6)).off + 5, none⟩ = some (.slice p.1 bs[k].recs.length p.2) := by
    intro k
    by_cases hk : k < bs.length
    · obtain ⟨ad, B, b, h1, h2, h3, h4⟩ := h.bat_at hk
      exact ⟨(B, b), fun _ => ⟨ad, h1, h2, h3, h4⟩⟩
    · exact ⟨(none, 0), fun h => absurd h hk⟩
  obtain ⟨fB, hB⟩ := Classical.skolem.1 e1
  have e2 : ∀ q : Nat × Nat, ∃ p : Pl3, ∀ (hk : q.1 < bs.length) (hj : q.2 < bs[q.1].recs.length), ∃ ad, (fB q.1).1 = some ad ∧ F ad.block ∧ Ints w F p.1.1 p.1.2 bs[q.1].recs[q.2].key ∧ Ints w F p.2.1 p.2.2 bs[q.1].recs[q.2].val ∧
      w.cell? (ad.add (q.2 * 6)) = some (.int .i64 bs[q.1].recs[q.2].off) ∧ w.cell? ⟨(ad.add (q.2 * 6)).block, (ad.add (q.2 * 6)).off + 1, none⟩ = some (.int .i64 bs[q.1].recs[q.2].time) ∧
      w.cell? ⟨(ad.add (q.2 * 6)).block, (ad.add (q.2 * 6)).off + 2, none⟩ = some (.bool bs[q.1].recs[q.2].hk) ∧ w.cell? ⟨(ad.add (q.2 * 6)).block, (ad.add (q.2 * 6)).off + 3, none⟩ = some (.slice p.1.1 bs[q.1].recs[q.2].key.length p.1.2) ∧
      w.cell? ⟨(ad.add (q.2 * 6)).block, (ad.add (q.2 * 6)).off + 4, none⟩ = some (.bool bs[q.1].recs[q.2].hv) ∧ w.cell? ⟨(ad.add (q.2 * 6)).block, (ad.add (q.2 * 6)).off + 5, none⟩ = some (.slice p.2.1 bs[q.1].recs[q.2].val.length p.2.2) := by
    rintro ⟨k, j⟩
    by_cases hk : k < bs.length
    · by_cases hj : j < bs[k].recs.length
      · obtain ⟨_, _, _, hr, _⟩ := hB k hk
        obtain ⟨ad, B, b, B', b', h1, h2, h3, h4, h5⟩ := hr.rec_at hj
        exact ⟨((B, b), (B', b')), fun _ _ => ⟨ad, h1, h2, h3, h4, h5⟩⟩
      · exact ⟨((none, 0), (none, 0)), fun _ h => absurd h hj⟩
    · exact ⟨((none, 0), (none, 0)), fun h => absurd h hk⟩
  obtain ⟨fR, hR⟩ := Classical.skolem.1 e2
  exact ⟨fB, fR, hB, fun k hk j hj => hR (k, j) hk hj⟩
theorem Lay.keep {w w' : World} {F : Nat → Prop} {A : Option Addr} {bs : List Bat} {fB : Nat → Option Addr × Nat} {fR : Nat × Nat → Pl3} (h : Lay w F A bs fB fR) (hs : Same F w w') : Lay w' F A bs fB fR where
  bat := fun k hk => by
    obtain ⟨ad, h1, h2, h3, q0, q1, q2, q3, q4, q5⟩ := h.bat k hk
    have hF : F (ad.add (k * 6)).block := by rw [add_block]; exact h2
    exact ⟨ad, h1, h2, h3.keep hs, hs.cell hF q0, hs.cell hF q1, hs.cell hF q2, hs.cell hF q3, hs.cell hF q4, hs.cell hF q5⟩
  rec_ := fun k hk j hj => by
    obtain ⟨ad, h1, h2, h3, h3', q0, q1, q2, q3, q4, q5⟩ := h.rec_ k hk j hj
    have hF : F (ad.add (j * 6)).block := by rw [add_block]; exact h2
    exact ⟨ad, h1, h2, h3.keep hs, h3'.keep hs, hs.cell hF q0, hs.cell hF q1, hs.cell hF q2, hs.cell hF q3, hs.cell hF q4, hs.cell hF q5⟩

section
variable (bs : List Bat) (fB : Nat → Option Addr × Nat) (fR : Nat × Nat → Pl3)
def prAt (k j : Nat) : Pr := ⟨batAt bs k, (fB k).1, (fB k).2, recAt (batAt bs k).recs j, (fR (k, j)).1.1, (fR (k, j)).1.2, (fR (k, j)).2.1, (fR (k, j)).2.2⟩
def prsOf (k n : Nat) : List Pr := (List.range n).map (prAt bs fB fR k)
def prsTo (k : Nat) : List Pr := (List.range k).flatMap (fun i => prsOf bs fB fR i (batAt bs i).recs.length)
def prsAt (k j : Nat) : List Pr := prsTo bs fB fR k ++ prsOf bs fB fR k j
def prs : List Pr := prsTo bs fB fR bs.length
theorem prAt_eq {k j : Nat} (hk : k < bs.length) (hj : j < bs[k].recs.length) : prAt bs fB fR k j = ⟨bs[k], (fB k).1, (fB k).2, bs[k].recs[j], (fR (k, j)).1.1, (fR (k, j)).1.2, (fR (k, j)).2.1, (fR (k, j)).2.2⟩ := by
  unfold prAt
  rw [batAt_eq hk, recAt_eq hj]
theorem prsAt_zero (k : Nat) : prsAt bs fB fR k 0 = prsTo bs fB fR k := by simp [prsAt, prsOf]
theorem prsAt_succ (k j : Nat) : prsAt bs fB fR k (j + 1) = prsAt bs fB fR k j ++ [prAt bs fB fR k j] := by
  unfold prsAt prsOf
  rw [List.range_succ, List.map_append, List.append_assoc]
  rfl
theorem prsAt_end (k : Nat) : prsAt bs fB fR k (batAt bs k).recs.length = prsTo bs fB fR (k + 1) := by
  unfold prsAt prsTo
  rw [List.range_succ, List.flatMap_append]
  simp
theorem prsTo_prefix {k : Nat} (hk : k ≤ bs.length) : prsTo bs fB fR k <+: prs bs fB fR := by
  obtain ⟨n, hn⟩ : ∃ n, bs.length = k + n := ⟨bs.length - k, by omega⟩
  unfold prs
  rw [hn]
  clear hn hk
  induction n with
  | zero => exact List.prefix_refl _
  | succ n ih =>
    refine ih.trans ?_
    rw [show k + (n + 1) = (k + n) + 1 by omega, ← prsAt_end]
    unfold prsAt
    exact List.prefix_append _ _
theorem prsAt_prefix {k j : Nat} (hk : k < bs.length) (hj : j ≤ (batAt bs k).recs.length) : prsAt bs fB fR k j <+: prs bs fB fR := by
  refine List.IsPrefix.trans ?_ (prsTo_prefix bs fB fR (k := k + 1) hk)
  rw [← prsAt_end]
  unfold prsAt prsOf
  rw [List.prefix_append_right_inj]
  obtain ⟨n, hn⟩ : ∃ n, (batAt bs k).recs.length = j + n := ⟨(batAt bs k).recs.length - j, by omega⟩
  rw [hn, List.range_add, List.map_append]
  exact List.prefix_append _ _
theorem prAt_mem {k j : Nat} (hk : k < bs.length) (hj : j < (batAt bs k).recs.length) : prAt bs fB fR k j ∈ prs bs fB fR := by
  refine (prsAt_prefix bs fB fR (k := k) (j := j + 1) hk hj).subset ?_
  rw [prsAt_succ]
  simp
theorem mem_prs {x : Pr} (h : x ∈ prs bs fB fR) : ∃ k j, ∃ hk : k < bs.length, ∃ hj : j < bs[k].recs.length, x = prAt bs fB fR k j := by
  unfold prs prsTo at h
  obtain ⟨k, hk, hx⟩ := List.mem_flatMap.1 h
  obtain ⟨j, hj, rfl⟩ := List.mem_map.1 hx
  have hk' : k < bs.length := List.mem_range.1 hk
  have hj' := List.mem_range.1 hj
  rw [batAt_eq hk'] at hj'
  exact ⟨k, j, hk', hj', rfl⟩
theorem prsOf_recs (k : Nat) : (prsOf bs fB fR k (batAt bs k).recs.length).map (·.r) = (batAt bs k).recs := by
  refine List.ext_getElem (by simp [prsOf]) fun i h1 h2 => ?_
  simp [prsOf, prAt, recAt_eq h2]
theorem prsTo_recs {k : Nat} (hk : k ≤ bs.length) : (prsTo bs fB fR k).map (·.r) = allRecs (bs.take k) := by
  induction k with
  | zero => simp [prsTo, allRecs]
  | succ k ih =>
    rw [← prsAt_end]
    unfold prsAt
    rw [List.map_append, ih (by omega), prsOf_recs, List.take_succ_eq_append_getElem (show k < bs.length by omega), allRecs_snoc, batAt_eq (show k < bs.length by omega)]
theorem prs_recs : (prs bs fB fR).map (·.r) = allRecs bs := by
  have := prsTo_recs bs fB fR (k := bs.length) (Nat.le_refl _)
  rwa [List.take_length] at this
/-- .. each with its batch. -/
def pairsOf (bs : List Bat) : List (Bat × Rec) := bs.flatMap (fun b => b.recs.map (fun r => (b, r)))
theorem prsTo_pairs {k : Nat} (hk : k ≤ bs.length) : (prsTo bs fB fR k).map (fun x => (x.b, x.r)) = pairsOf (bs.take k) := by
  induction k with
  | zero => simp [prsTo, pairsOf]
  | succ k ih =>
    have hk' : k < bs.length := by omega
    rw [← prsAt_end]
    unfold prsAt
    rw [List.map_append, ih (by omega), List.take_succ_eq_append_getElem hk']
    have e : (prsOf bs fB fR k (batAt bs k).recs.length).map (fun x => (x.b, x.r)) = bs[k].recs.map (fun r => (bs[k], r)) := by
      rw [batAt_eq hk']
      refine List.ext_getElem (by simp [prsOf]) fun i h1 h2 => ?_
      have hi : i < bs[k].recs.length := by simpa using h2
      simp [prsOf, prAt, batAt_eq hk', recAt_eq hi]
    rw [e]
    unfold pairsOf
    rw [List.flatMap_append, List.flatMap_cons, List.flatMap_nil, List.append_nil]
theorem prs_pairs : (prs bs fB fR).map (fun x => (x.b, x.r)) = pairsOf bs := by
  have := prsTo_pairs bs fB fR (k := bs.length) (Nat.le_refl _)
  rwa [List.take_length] at this
end
end Go.Proofs.Ytomcjjehfocbmaa
