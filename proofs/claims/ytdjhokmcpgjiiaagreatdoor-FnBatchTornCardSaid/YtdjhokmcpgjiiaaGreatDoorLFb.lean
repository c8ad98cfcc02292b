/- The law FnBatchFrom. -/
import Derived.Test.YtdjhokmcpgjiiaaGreatDoorBg
import Derived.Test.YtdjhokmcpgjiiaaGreatDoorD3
import Derived.Test.YtdjhokmcpgjiiaaGreatDoorE3
import Derived.Test.YtdjhokmcpgjiiaaGreatDoorBt
namespace Go.Proofs.YtdjhokmcpgjiiaaGreatDoor
set_option linter.unusedVariables false
set_option linter.unusedSimpArgs false
open Go.RowKit

theorem info_intF : (Tryz.prog.info? 3).map (fun i => (i.zero, i.size, i.bytes)) = some (some (.int .i64 0), 1, 8) := by kernel_rfl
theorem bfQ_some {l : List Int} {i : Nat} {q : Option Bat} {b : Bat} {nq : Int} (hq : q = bfQ l (i : Int)) (hb : b = bfB q) (hn : nq = bfN q (i : Int)) (hs : true = q.isSome) :
    bytesB l = true ∧ BatAt l i b ∧ nq = ((i + (batBytes b).length : Nat) : Int) := by
  cases q with
  | none => cases hs
  | some s =>
    have e : b = s := hb
    subst e
    unfold bfQ at hq
    split at hq
    · rename_i hby
      rw [rdAtI_nat] at hq
      exact ⟨hby, rdBat_at hq.symm, by rw [hn]; simp [bfN]⟩
    · cases hq
set_option maxRecDepth 20000 in
set_option maxHeartbeats 4000000 in
theorem batchFromLaw_walk (b0 : List Int) (A : Option Addr) (c : Nat) (w : World) (h : Kind.byte.Row w (fun _ => True) A c b0) (hg : LaidC w) :
    Calls Tryz.prog 3 #[.slice A b0.length c] w fun e w' => e = .returned (.bool true) ∧ Below w.heap.size w w' := by
  have hl := h.1
  have hc := h.2.1
  have HG := Lib.hid hg
  clear hg
  by_cases hs : b0.length ≤ 1048576
  · go_enter Tryz.func3, Tryz.ntmps3
    go_wp2_with fail
    refine (DrawBatchFrom_any b0 A c _ _ h).mono ?_
    rintro e w0 ⟨l, A1, c1, i, rfl, hll, r0, hb0⟩
    have HG0 := Lib.hid (HG.out.below hb0)
    obtain ⟨q, hq⟩ : ∃ q, q = bfQ l (i : Int) := ⟨_, rfl⟩
    have HQ := Lib.hid hq
    go_wp2_with fail
    have HC := BatchFrom_all l A1 c1 _ (i : Int) w0 HG0.out r0 (by omega)
    rw [← hq] at HC
    refine HC.mono ?_
    rintro e w1 ⟨A2, c2, rfl, hX1, hb1⟩
    obtain ⟨b, hbb⟩ : ∃ b, b = bfB q := ⟨_, rfl⟩
    obtain ⟨nq, hnq⟩ : ∃ n, n = bfN q (i : Int) := ⟨_, rfl⟩
    obtain ⟨sq, hsq⟩ : ∃ s, s = q.isSome := ⟨_, rfl⟩
    rw [← hbb] at hX1 ⊢
    rw [← hnq, ← hsq]
    have HBB := Lib.hid hbb
    have HNQ := Lib.hid hnq
    have HSQ := Lib.hid hsq
    have hR1 := hX1.toK
    have r1 := r0.below hb1
    have b1 := bthen hb0 hb1
    clear HC hX1 hq hbb hnq hsq
    go_wp2_with fail
    generalize hW1 : World.alloc _ _ = W1
    obtain ⟨hA1, bw1, hz1⟩ := alloc1 hW1
    clear hW1
    have b1 := bthen b1 bw1
    have HC := BatchFromS_all l A1 c1 _ (i : Int) W1 (r1.below bw1) (by omega)
    rw [← HQ.out] at HC
    refine HC.mono ?_
    rintro e w2 ⟨A3, c3, rfl, hX2, hb2⟩
    rw [← HBB.out] at hX2 ⊢
    rw [← HNQ.out, ← HSQ.out]
    have hR2 := hX2.toK
    have r2 := (r1.below bw1).below hb2
    have hR12 := (hR1.below bw1).below hb2
    have hA2 := blk_below hA1 hb2
    have b2 := bthen b1 hb2
    have hlt := blk_lt hA2
    have hne : w1.heap.size ≠ w2.heap.size := by omega
    clear HC hX2 hR1 r1 r0 hA1 hb2 b1 bw1 hb1 hb0 hz1
    obtain ⟨x0, x1, x2, x3, x4, x5, xf⟩ := six hA2
    go_wp2_with fail
    generalize hW2 : World.alloc _ _ = W2
    obtain ⟨hB2, bw2, hz2⟩ := alloc1 hW2
    clear hW2
    have R1 := hR12.below bw2
    have R2 := hR2.below bw2
    have r3 := r2.below bw2
    have b3 := bthen b2 bw2
    refine (sameBatch_any b b A2 A3 c2 c3 _ _ W2 R1 R2).mono ?_
    rintro e w3 ⟨rfl, hb3⟩
    rw [decide_eq_true rfl]
    have R13 := R1.below hb3
    have R23 := R2.below hb3
    have r33 := r3.below hb3
    have b33 := bthen b3 hb3
    have hA3 := blk_below (blk_below hA2 bw2) hb3
    have hB3 := blk_below hB2 hb3
    clear R1 R2 r3 b3 hb3 hA2 hB2 bw2 hz2 hR12 hR2 r2 b2 x0 x1 x2 x3 x4 x5 xf
    obtain ⟨x0, x1, x2, x3, x4, x5, xf⟩ := six hA3
    obtain ⟨y0, y1, y2, y3, y4, y5, yf⟩ := six hB3
    cases sq
    · go_wp2_with fail
      refine (sameBatch_any b b A2 A3 c2 c3 _ _ w3 R13 R23).mono ?_
      rintro e w4 ⟨rfl, hb4⟩
      rw [decide_eq_true rfl]
      have B4 := Lib.hid (bthen b33 hb4)
      clear hb4 b33
      go_wp2
      go_ret
      exact ⟨rfl, B4.out⟩
    · obtain ⟨hby, hat, hnn⟩ := bfQ_some HQ.out HBB.out HNQ.out HSQ.out
      have hln := hat.len
      have hreg := hat.region
      have HV := Lib.hid hat.1
      obtain ⟨ob, hob⟩ : ∃ o, o = batBytes b := ⟨_, rfl⟩
      have HOB := Lib.hid (show batOut b = ob by rw [batOut_yes HV.out, hob])
      rw [← hob] at hreg hnn hln
      obtain ⟨n2, hn2⟩ : ∃ n2 : Nat, n2 = i + ob.length := ⟨_, rfl⟩
      rw [← hn2] at hnn hln
      have HN2 := Lib.hid hn2
      subst hnn
      clear hn2
      have HRG := Lib.hid hreg
      clear hob hat hreg hby
      have HA3 := Lib.hid hA3
      clear hA3 hB3
      go_wp2_with fail
      refine (BatchBytes_any b A2 c2 _ w3 R13).mono ?_
      rintro e w4 ⟨v4, rfl, HV4, hb4⟩
      rw [HV.out]
      rw [HOB.out] at HV4
      obtain ⟨Ao, co, rfl, ro⟩ := AppP.row HV4
      have hA4 := blk_below HA3.out hb4
      have R14 := R13.below hb4
      have r4 := r33.below hb4
      have b4 := bthen b33 hb4
      clear x0 x1 x2 x3 x4 x5 xf y0 y1 y2 y3 y4 y5 yf HV4 hb4 R13 R23 r33 b33
      obtain ⟨x0, x1, x2, x3, x4, x5, xf⟩ := six hA4
      go_wp2_with fail
      refine (BatchValid_any b A2 c2 _ w4 R14).mono ?_
      rintro e w5 ⟨rfl, hb5⟩
      rw [HV.out]
      have hn2 := HN2.out
      have hcl := r4.1
      have hcc := r4.2.1
      have s1 : ∀ W : World, (Instr.slice 23 (.slice A1 l.length c1) (some (.int .i64 (i : Int))) (some (.int .i64 (n2 : Int))) none).run Tryz.prog W = .ok (.slice (cutAddr A1 i c1 1) ob.length (c1 - i)) W := fun W => by
        have := run_cutlh Tryz.underlying23 info_intF A1 l.length c1 i n2 _ _ rfl rfl (by omega) (by omega) W
        rw [show n2 - i = ob.length by omega] at this
        exact this
      have hT := ((r4.cut i (by omega)).take ob.length).below hb5
      rw [HRG.out] at hT
      have ro5 := ro.below hb5
      have b5 := bthen b4 hb5
      have HHH := Lib.hid hA4
      clear hb5 b4 r4 R14 ro hcl hcc hln hll hA4 hn2 x0 x1 x2 x3 x4 x5 xf
      go_wp2_with fail
      refine (sameInts_any ob ob Ao (cutAddr A1 i c1 1) co (c1 - i) _ _ _ ro5 hT).mono ?_
      rintro e w7 ⟨rfl, hb7⟩
      rw [decide_eq_true rfl]
      have b7 := Lib.hid (bthen b5 hb7)
      clear b5 hb7 hT ro5
      go_wp2
      go_ret
      exact ⟨rfl, b7.out⟩
  · go_enter Tryz.func3, Tryz.ntmps3
    go_wp2
    go_ret
    exact ⟨rfl, Below.refl _ _⟩
end Go.Proofs.YtdjhokmcpgjiiaaGreatDoor
