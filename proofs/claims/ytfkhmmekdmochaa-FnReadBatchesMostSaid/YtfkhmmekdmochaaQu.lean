/- The queue of batches. -/
import Derived.Test.YtfkhmmekdmochaaB3
import Derived.Test.YtfkhmmekdmochaaC3
import Derived.Deep.LoopGhost
namespace Go.Proofs.Ytfkhmmekdmochaa
set_option linter.unusedVariables false
set_option linter.unusedSimpArgs false
open Go.RowKit

theorem oneC {w : World} {g : Nat} {t : TypeId} {v : Value} (h : w.heap[g]? = some (.cells #[v] t (0, 0))) : w.cell? ⟨g, 0, none⟩ = some v ∧ ∀ i, w.frozen? ⟨g, i, none⟩ = false := by
  refine ⟨?_, fun i => ?_⟩ <;> simp [World.cell?, World.frozen?, h]
theorem info_batR : (Try.prog.info? 32).map (fun i => (i.zero, i.size, i.bytes)) = some (some (.agg #[.bool false, .bool false, .int .i64 0, .int .i64 0, .int .i64 0, .slice none 0 0]), 6, 56) := by kernel_rfl
set_option maxHeartbeats 4000000 in
/-- All batches ahead of an offset leave the queue. -/
theorem skip_any (bs : List Bat) (A : Option Addr) (c : Nat) (F : Nat → Prop) (g : Nat) (o : Int) (w : World) (h : Bats w F A c bs) (hall : ∀ b ∈ bs, 0 < b.recs.length)
    (hg : w.heap[g]? = some (.cells #[.slice A bs.length c] 70 (0, 0))) (hF : ∀ b, F b → b ≠ g) :
    Calls Try.prog 49 #[.pointer (some ⟨g, 0, none⟩), .int .i64 o] w fun e w' => (∃ v, e = .returned v) ∧ ∃ (n : Nat) (A' : Option Addr) (c' : Nat), n ≤ bs.length ∧ (∀ i, (hi : i < n) → (bs.drop i).length ≠ 0 ∧ (batAt bs i).last < o) ∧ (∀ hi : n < bs.length, o ≤ bs[n].last) ∧
      w'.heap[g]? = some (.cells #[.slice A' (bs.drop n).length c'] 70 (0, 0)) ∧ Bats w' F A' c' (bs.drop n) ∧ Chg (fun b => b = g) w w' := by
  have hl := h.1
  have hc := h.2.1
  have hgl : g < w.heap.size := (Array.getElem?_eq_some_iff.1 hg).1
  have HALL := Lib.hid hall
  have HFF := Lib.hid hF
  have HG := Lib.hid hg
  clear hall hF hg
  go_enter Try.func49, Try.ntmps49
  go_wp2_with fail
  go_loopg [] bs.length (fun j wr => ∃ (n : Nat) (A' : Option Addr) (c' : Nat), n + j = bs.length ∧ Hid (∀ i, (hi : i < n) → (bs.drop i).length ≠ 0 ∧ (batAt bs i).last < o) ∧
    Hid (wr.heap[g]? = some (.cells #[.slice A' (bs.drop n).length c'] 70 (0, 0))) ∧ Bats wr F A' c' (bs.drop n) ∧ Hid (Chg (fun b => b = g) w wr))
  case atStart => exact ⟨0, A, c, by omega, Lib.hid (fun i hi => by omega), HG, h, Lib.hid (Chg.refl _ _)⟩
  case round =>
    obtain ⟨n, A', c', hnj, HP, HG2, hr, HC⟩ := hrel
    have hrl := hr.1
    have hrc := hr.2.1
    obtain ⟨z0, zf⟩ := oneC HG2.out
    obtain ⟨ys, hys⟩ : ∃ ys, ys = bs.drop n := ⟨_, rfl⟩
    have hyl : ys.length = bs.length - n := by rw [hys, List.length_drop]
    rw [← hys] at hr hrl z0 HG2
    by_cases h0 : 0 < ys.length
    · obtain ⟨ad2, C1, d1, rfl, _, hi1, q0, q1, q2, q3, q4, q5⟩ := hr.bat_at h0
      rw [show ad2.add (0 * 6) = ad2 from rfl] at q0 q1 q2 q3 q4 q5
      have hn : n < bs.length := by omega
      have e0 : ys[0] = bs[n] := by simp only [hys, List.getElem_drop, Nat.add_zero]
      have hpos : 0 < ys[0].recs.length := HALL.out _ (by rw [e0]; exact List.getElem_mem hn)
      have HYL := Lib.hid hyl
      have HYS := Lib.hid hys
      have HE0 := Lib.hid e0
      clear hyl hys e0
      obtain ⟨la, hla⟩ : ∃ la, la = ys[0].last := ⟨_, rfl⟩
      have HLA := Lib.hid hla
      go_wp2_with fail
      refine (last_any ys[0] C1 d1 _ _ hi1 hpos).mono ?_
      rintro e w1 ⟨rfl, hb1⟩
      rw [← hla]
      have hr1 := hr.below hb1
      have HG3 := Lib.hid (blk_below HG2.out hb1)
      have HC3 := Lib.hid (HC.out.trans (Chg.of_below (F := fun b => b = g) hb1))
      clear hb1 hi1 q0 q1 q2 q3 q4 q5 hla z0 zf
      obtain ⟨z0, zf⟩ := oneC HG3.out
      have hs1 : ∀ W : World, (Instr.slice 23 (.slice (some ad2) ys.length c') (some (.int .i64 1)) none none).run Try.prog W = .ok (.slice (cutAddr (some ad2) 1 c' 6) (ys.length - 1) (c' - 1)) W :=
        run_cut Try.underlying23 info_batR _ _ _ _ _ rfl (by omega)
      by_cases hlo : la < o
      · go_wp2
        go_roundg (bs.length - (n + 1))
        case measure => have := HYL.out; omega
        case rel =>
          have hcut := hr1.cut 1 (by omega)
          rw [HYS.out, List.drop_drop] at hcut
          refine ⟨n + 1, cutAddr (some ad2) 1 c' 6, c' - 1, by omega, Lib.hid (fun i hi => ?_), Lib.hid ?_, ?_, Lib.hid ?_⟩
          · by_cases hin : i < n
            · exact HP.out i hin
            · obtain rfl : i = n := by omega
              refine ⟨by rw [List.length_drop]; omega, ?_⟩
              rw [batAt_eq hn, ← HE0.out, ← HLA.out]
              exact hlo
          · have := blk_put HG3.out 0 (.slice (cutAddr (some ad2) 1 c' 6) (ys.length - 1) (c' - 1))
            have e : (bs.drop (n + 1)).length = ys.length - 1 := by rw [HYS.out]; simp; omega
            rw [e]
            simpa using this
          · exact hcut.keep ((Chg.set (fun b => b = g) w1 (p := ⟨g, 0, none⟩) rfl _).same (fun i _ h1 h2 => HFF.out i h1 h2))
          · exact HC3.out.trans (Chg.set (fun b => b = g) w1 (p := ⟨g, 0, none⟩) rfl _)
      · go_wp2
        go_end0
        refine ⟨⟨_, rfl⟩, n, some ad2, c', by omega, HP.out, fun _ => ?_, ?_, ?_, HC3.out⟩
        · rw [← HE0.out, ← HLA.out]; omega
        · rw [← HYS.out]; exact HG3.out
        · rw [← HYS.out]; exact hr1
    · have h00 : ys = [] := List.eq_nil_of_length_eq_zero (by omega)
      subst h00
      have HYS := Lib.hid hys
      have HN := Lib.hid (show n = bs.length by simp at hyl; omega)
      clear hys hyl
      go_wp2
      go_end0
      refine ⟨⟨_, rfl⟩, n, A', c', by have := HN.out; omega, HP.out, fun hi => by have := HN.out; omega, ?_, ?_, HC.out⟩
      · rw [← HYS.out]; exact HG2.out
      · rw [← HYS.out]; exact hr

end Go.Proofs.Ytfkhmmekdmochaa
