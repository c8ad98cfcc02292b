/- The batch at a place of bytes: the program, all ways. -/
import Derived.Test.YtgnjnpfeofhniaaDoorBe
namespace Go.Proofs.YtgnjnpfeofhniaaDoor
set_option linter.unusedVariables false
set_option linter.unusedSimpArgs false
open Go.RowKit

/-- What stands at a place, also ahead of the bytes. -/
noncomputable def rdAtI (l : List Int) (i : Int) : Option Bat := if i < 0 then none else rdBat l i.toNat
theorem rdAtI_nat (l : List Int) (p : Nat) : rdAtI l (p : Int) = rdBat l p := by unfold rdAtI; rw [if_neg (by omega)]; rfl
theorem BatRes.no {l : List Int} {p : Nat} {w W : World} {e : Ending} (h : rdBat l p = none) (k : NoBat w e W) : BatRes l p w e W := .inl ⟨h, k⟩
theorem batchAt_near (l : List Int) (A : Option Addr) (c : Nat) (F : Nat → Prop) (p : Nat) (w : World) (h : Ints w F A c l) (hb : bytesB l = true) (hn : l.length ≤ 4194304) (hp : p + 18 ≤ l.length) :
    Calls Tryd.prog 22 #[.slice A l.length c, .int .i64 (p : Int)] w (BatRes l p w) := by
  by_cases h1 : (num2 l (p + 3)).toNat < 11 ∨ l.length < p + 7 + (num2 l (p + 3)).toNat
  · exact (batchAt_size l A c F p w h hb hn hp h1).mono fun e w' k => .no (none_size h1) k
  · have hsz : 11 ≤ (num2 l (p + 3)).toNat ∧ p + 7 + (num2 l (p + 3)).toNat ≤ l.length := by omega
    by_cases h2 : num2 l (p + 5) = sumB (restAt l p)
    · by_cases h3 : 3 < (restAt l p).getD 0 0 ∨ (restAt l p).getD 9 0 ≠ 0 ∨ (restAt l p).getD 10 0 ≠ 0
      · exact (batchAt_head l A c F p w h hb hn hp hsz h2 h3).mono fun e w' k => .no (none_head h3) k
      · have hhd : (restAt l p).getD 0 0 ≤ 3 ∧ (restAt l p).getD 9 0 = 0 ∧ (restAt l p).getD 10 0 = 0 := by omega
        cases h4 : baseB (num3 l p) (num3 (restAt l p) 5) with
        | false => exact (batchAt_base l A c F p w h hb hn hp hsz h2 hhd h4).mono fun e w' k => .no (none_base h4) k
        | true =>
          cases h5 : decide ((restAt l p).getD 0 0 % 2 = 1) with
          | false => exact batchAt_plain l A c F p w h hb hn hp hsz h2 hhd h5 h4
          | true =>
            cases h6 : unp ((restAt l p).drop 11) [] with
            | none => exact (batchAt_unp l A c F p w h hb hn hp hsz h2 hhd h5 h4 h6).mono fun e w' k => .no (none_rows (by unfold rowsOf; rw [if_pos (of_decide_eq_true h5)]; exact h6)) k
            | some rows => exact batchAt_packed l A c F p w h hb hn hp hsz h2 hhd h5 h4 rows h6
    · exact (batchAt_sum l A c F p w h hb hn hp hsz h2).mono fun e w' k => .no (none_sum h2) k
/-- None stands there. -/
theorem batchAt_none (l : List Int) (A : Option Addr) (c : Nat) (F : Nat → Prop) (i : Int) (w : World) (h : Ints w F A c l) (hb : bytesB l = true) (hn : l.length ≤ 4194304) (hr : rdAtI l i = none) :
    Calls Tryd.prog 22 #[.slice A l.length c, .int .i64 i] w (NoBat w) := by
  by_cases hi : i < 0 ∨ (l.length : Int) - 18 < i
  · exact batchAt_far l A c F i w h hn hi
  · obtain ⟨p, rfl⟩ := Int.eq_ofNat_of_zero_le (show 0 ≤ i by omega)
    rw [rdAtI_nat] at hr
    refine (batchAt_near l A c F p w h hb hn (by omega)).mono fun e w' k => ?_
    rcases k with ⟨_, k⟩ | ⟨b, hb, _⟩
    · exact k
    · rw [hr] at hb; cases hb
theorem batchAt_some (l : List Int) (A : Option Addr) (c : Nat) (F : Nat → Prop) (p : Nat) (w : World) (h : Ints w F A c l) (hb : bytesB l = true) (hn : l.length ≤ 4194304) {b : Bat} (hr : rdBat l p = some b) :
    Calls Tryd.prog 22 #[.slice A l.length c, .int .i64 (p : Int)] w (YesBat p b w) := by
  have hp : p + 18 ≤ l.length := by have := (rdBat_at hr).tests; omega
  refine (batchAt_near l A c F p w h hb hn hp).mono fun e w' k => ?_
  rcases k with ⟨hb, _⟩ | ⟨b', hb', k⟩
  · rw [hr] at hb; cases hb
  · rw [hr] at hb'
    injection hb' with hb'
    subst hb'
    exact k
end Go.Proofs.YtgnjnpfeofhniaaDoor
