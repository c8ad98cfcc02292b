/- A record at a place of bytes: the reference. -/
import Derived.Test.YtgnjnpfeofhniaaV10
import Derived.Test.YtgnjnpfeofhniaaW10
namespace Go.Proofs.Ytgnjnpfeofhniaa
set_option linter.unusedVariables false
set_option linter.unusedSimpArgs false
open Go.RowKit

def nn (q : Option (Int × Nat)) : Int := match q with | none => 0 | some x => x.1
def nx (q : Option (Int × Nat)) : Nat := match q with | none => 0 | some x => x.2
theorem rdVal_eq (q : Option (Int × Nat)) : rdVal q = .tuple #[.int .i64 (nn q), .int .i64 (nx q : Nat), .bool q.isSome] := by cases q <;> rfl
theorem nx_le {l : List Int} {i : Nat} : nx (rdV l i) ≤ l.length := by
  cases hv : rdV l i with
  | none => exact Nat.zero_le _
  | some x => obtain ⟨n, j⟩ := x; exact (rdV_bound hv).2
theorem get12_some {l : List Int} {i d : Nat} {hk : Bool} {k : List Int} (h : get12 l i = some (hk, k, d)) : rdPart l i = some (hk, k, d) ∧ k.length ≤ 12 := by
  unfold get12 at h
  split at h
  · cases h
  · rename_i a b e hr
    split at h
    · rename_i hl
      injection h with h; injection h with h1 h2; injection h2 with h2 h3
      subst h1 h2 h3
      exact ⟨hr, hl⟩
    · cases h
theorem get12_none {l : List Int} {i : Nat} (h : get12 l i = none) : rdPart l i = none ∨ ∃ hk k d, rdPart l i = some (hk, k, d) ∧ partB hk k = false := by
  unfold get12 at h
  split at h
  · rename_i hr; exact .inl hr
  · rename_i a b e hr
    split at h
    · cases h
    · rename_i hl
      refine .inr ⟨a, b, e, hr, ?_⟩
      cases hp : partB a b with
      | false => rfl
      | true => exact absurd (partB_len hp).1 hl
theorem recB_key {r : Rec} (h : partB r.hk r.key = false) : recB r = false := by unfold recB; rw [h]; simp
theorem recB_val {r : Rec} (h : partB r.hv r.val = false) : recB r = false := by unfold recB; rw [h]; simp
theorem rdRec_first {l : List Int} {i : Nat} {o t : Int} (h : rdV l i = none) : rdRec l i o t = none := by unfold rdRec; rw [h]
theorem rdRec_second {l : List Int} {i a : Nat} {m o t : Int} (h : rdV l i = some (m, a)) (h2 : rdV l a = none) : rdRec l i o t = none := by unfold rdRec; rw [h]; dsimp only; rw [h2]
theorem rdRec_third {l : List Int} {i a b : Nat} {m dt o t : Int} (h : rdV l i = some (m, a)) (h2 : rdV l a = some (dt, b)) (h3 : rdV l b = none) : rdRec l i o t = none := by unfold rdRec; rw [h]; dsimp only; rw [h2]; dsimp only; rw [h3]
theorem rdRec_key {l : List Int} {i a b c : Nat} {m dt dk o t : Int} (h : rdV l i = some (m, a)) (h2 : rdV l a = some (dt, b)) (h3 : rdV l b = some (dk, c)) (h4 : get12 l c = none) : rdRec l i o t = none := by
  unfold rdRec
  rw [h]
  dsimp only
  rw [h2]
  dsimp only
  rw [h3]
  dsimp only
  rcases get12_none h4 with h | ⟨hk, k, d, h, hp⟩
  · rw [h]
  · rw [h]
    dsimp only
    split
    · rfl
    · rename_i hv' val' e' _
      rw [if_neg (fun h => by have := recB_key (r := ⟨o + dk, t + dt, hk, k, hv', val'⟩) hp; rw [this] at h; cases h.2)]
theorem rdRec_val {l : List Int} {i a b c d : Nat} {m dt dk o t : Int} {hk : Bool} {key : List Int} (h : rdV l i = some (m, a)) (h2 : rdV l a = some (dt, b)) (h3 : rdV l b = some (dk, c)) (h4 : rdPart l c = some (hk, key, d)) (h5 : get12 l d = none) : rdRec l i o t = none := by
  unfold rdRec
  rw [h]
  dsimp only
  rw [h2]
  dsimp only
  rw [h3]
  dsimp only
  rw [h4]
  dsimp only
  rcases get12_none h5 with h | ⟨hv, k, e, h, hp⟩
  · rw [h]
  · rw [h]
    dsimp only
    rw [if_neg (fun h => by have := recB_val (r := ⟨o + dk, t + dt, hk, key, hv, k⟩) hp; rw [this] at h; cases h.2)]

end Go.Proofs.Ytgnjnpfeofhniaa
