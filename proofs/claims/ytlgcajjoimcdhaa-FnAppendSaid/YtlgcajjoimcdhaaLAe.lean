/- The law of appending at the end; the draw of a segment and a batch. -/
import Derived.Test.YtlgcajjoimcdhaaR6
import Derived.Test.YtlgcajjoimcdhaaDwr
import Derived.Test.YtlgcajjoimcdhaaE3
namespace Go.Proofs.Ytlgcajjoimcdhaa
set_option linter.unusedVariables false
set_option linter.unusedSimpArgs false
open Go.RowKit

theorem appd_at {bs : List Bat} {b : Bat} {xs : List Bat} (h : xs = appd bs b) : xs.length = bs.length + 1 ∧ ∀ h' : xs.length - 1 < xs.length, xs[xs.length - 1] = b.holding (renum b.recs (readEnd bs)) := by
  subst h
  refine ⟨appd_len _ _, fun h' => ?_⟩
  have := appd_last bs b
  rw [List.getElem?_eq_getElem h'] at this
  injection this
theorem renum_first {b : Bat} {bs : List Bat} (h : 0 < (b.holding (renum b.recs (readEnd bs))).recs.length) : ((b.holding (renum b.recs (readEnd bs))).recs[0]'h).off = readEnd bs := by
  have e := renum_at b.recs (readEnd bs) 0 h
  exact (congrArg Rec.off e).trans (by simp [Rec.onto])
theorem readEnd_neg {bs : List Bat} (h : 0 ≤ readEnd bs) : logB bs = true := by
  cases hv : logB bs with
  | true => rfl
  | false => unfold readEnd at h; rw [hv] at h; simp at h

set_option maxHeartbeats 4000000 in
theorem readEndAppend_walk (b0 : List Int) (A : Option Addr) (c : Nat) (w : World) (h : Kind.byte.Row w (fun _ => True) A c b0) :
    Calls Try.prog 3 #[.slice A b0.length c] w fun e w' => e = .returned (.bool true) ∧ Below w.heap.size w w' := by
  have hl := h.1
  have hc := h.2.1
  by_cases hs : b0.length ≤ 1048576
  · go_enter Try.func3, Try.ntmps3
    go_wp2_with fail
    refine (DrawReadEnd_any b0 A c _ _ h).mono ?_
    rintro e w1 ⟨bs, B, d, rfl, hD⟩
    have hB := hD.row
    have hb1 := hD.below
    have hn9 := hD.len
    have hok := hD.ok
    clear hD
    go_wp2_with fail
    refine (ReadEnd_any bs B d _ _ hB).mono ?_
    rintro e w2 ⟨rfl, hb2⟩
    have hB2 := hB.below hb2
    obtain ⟨n, hn⟩ : ∃ n, n = readEnd bs := ⟨_, rfl⟩
    rw [← hn]
    have HN := Lib.hid hn
    clear hn
    go_wp2_with fail
    refine (ReadEndS_any bs B d _ _ hB2).mono ?_
    rintro e w3 ⟨rfl, hb3⟩
    have hB3 := hB2.below hb3
    rw [← HN.out]
    have b3 := bthen (bthen hb1 hb2) hb3
    by_cases h1 : n < 0
    · go_wp2
      go_ret
      exact ⟨rfl, b3⟩
    · by_cases h0 : bs.length = 0
      · have hz : ((bs.length : Int) == 0) = true := by simp [h0]
        clear h0
        go_wp2
        go_ret
        exact ⟨rfl, b3⟩
      · have hz : ((bs.length : Int) == 0) = false := by simpa using h0
        have hpos : 0 < bs.length := by omega
        have hlog := readEnd_neg (bs := bs) (by rw [← HN.out]; omega)
        have hlp := batB_len (((logB_iff _).1 hlog).2.1 bs[0] (List.getElem_mem hpos))
        obtain ⟨ad, C, k, rfl, _, hr, q0, q1, q2, q3, q4, q5⟩ := hB3.bat_at hpos
        rw [show ad.add (0 * 6) = ad from rfl] at q0 q1 q2 q3 q4 q5
        have hdl := hB3.1
        have hdc := hB3.2.1
        clear h0 hb1 hb2 hb3 hB hB2 hlog
        go_wp2_with fail
        refine (LogAppend_any bs bs[0] (some ad) C d k _ _ w3 hB3 hr).mono ?_
        rintro e w4 ⟨v, Bd, rfl, hX, hb4⟩
        have b4 := bthen b3 hb4
        cases hq : appB bs bs[0]
        · obtain ⟨A5, c5, rfl, _⟩ := hX.row
          have HB := Lib.hid b4
          clear hX hb4 b4 hq
          go_wp2
          go_ret
          exact ⟨rfl, HB.out⟩
        · rw [logAppend_yes hq] at hX
          obtain ⟨xs, hxs⟩ : ∃ xs, xs = appd bs bs[0] := ⟨_, rfl⟩
          rw [← hxs] at hX
          obtain ⟨hxl, hxe⟩ := appd_at hxs
          have hxk : xs.length - 1 < xs.length := by omega
          have hx9 : 1 ≤ xs.length ∧ xs.length ≤ 10 := by omega
          obtain ⟨hx1, hx2⟩ := hx9
          replace hxe := hxe hxk
          have hrl : 0 < xs[xs.length - 1].recs.length := by rw [hxe]; show 0 < (renum _ _).length; rw [renum_len]; omega
          have hoff : xs[xs.length - 1].recs[0].off = n := by rw [HN.out]; simp only [hxe]; exact renum_first _
          obtain ⟨A5, c5, rfl, hJ⟩ := hX.row
          have hJ := hJ.toK
          have hjl := hJ.1
          have hjc := hJ.2.1
          obtain ⟨ad5, C5, k5, rfl, _, hr5, p0, p1, p2, p3, p4, p5⟩ := hJ.bat_at hxk
          have hrl1 := hr5.1
          have hrl2 := hr5.2.1
          obtain ⟨ad6, C6, k6, C7, k7, rfl, _, _, _, r0, r1, r2, r3, r4, r5⟩ := hr5.rec_at hrl
          rw [hoff] at r0
          rw [show ad6.add (0 * 6) = ad6 from rfl] at r0
          have HB := Lib.hid b4
          clear hX hb4 b4 hq hxe hxs hoff hJ hr5 hxl
          go_wp2
          go_ret
          exact ⟨rfl, HB.out⟩
  · go_enter Try.func3, Try.ntmps3
    go_wp2
    go_ret
    exact ⟨rfl, Below.refl _ _⟩

set_option maxHeartbeats 2000000 in
theorem DrawLogAppend_any (bs0 : List Int) (A : Option Addr) (c : Nat) (F : Nat → Prop) (w : World) (h : Kind.byte.Row w F A c bs0) :
    Calls Try.prog 19 #[.slice A bs0.length c] w fun e w' => ∃ (bs : List Bat) (A' : Option Addr) (c' : Nat) (b : Bat) (A2 : Option Addr) (c2 : Nat),
      e = .returned (.tuple #[.slice A' bs.length c', .agg #[.bool b.packed, .bool b.mark, .int .i64 b.prod, .int .i64 b.epoch, .int .i64 b.seq, .slice A2 b.recs.length c2]]) ∧ Drawn w w' bs A' c' ∧ b.ok ∧ Recs w' (fun i => w.heap.size ≤ i) A2 c2 b.recs := by
  go_enter Try.func19, Try.ntmps19
  go_wp2_with fail
  generalize hW : World.alloc _ _ = W
  obtain ⟨hA, b1, hsW⟩ := alloc1 hW
  clear hW
  refine (drawLog bs0 A c F _ (h.below b1)).mono ?_
  rintro e w1 ⟨g, rfl, hg, hR, hb1⟩
  go_wp2_with fail
  refine (l92Log_drawn g W w1 hg hR hb1).mono ?_
  rintro e w2 ⟨bs, A', c', rfl, hD, hR2, hE⟩
  clear hR hb1
  go_wp2_with fail
  refine (pickN g _ 60 _ hR2 (by omega) (by omega) (by omega)).mono ?_
  rintro e w3 ⟨v3, rfl, a3, b3, r3, c3⟩
  obtain ⟨D3, E3⟩ := drawn_pick hg hD hE c3
  clear c3 hD hE hR2
  go_wp2_with fail
  refine (l91Batch_any g _ v3 w3 r3 (by omega)).mono ?_
  rintro e w4 ⟨b, A2, c2, rfl, n1, n2, hti, hrec, r4, c4⟩
  obtain ⟨D4, _⟩ := drawn_pick hg D3 E3 c4
  have hA4 := (D4.below.block w.heap.size (by omega)).trans hA
  have hs3 := D3.below.size
  obtain ⟨z0, z1, z2, z3, z4, z5, zf⟩ := six hA4
  have cZ : Chg (fun i => i = w.heap.size) w4 ((((((w4.setCell ⟨w.heap.size, 0, none⟩ (.bool b.packed)).setCell ⟨w.heap.size, 1, none⟩ (.bool b.mark)).setCell ⟨w.heap.size, 2, none⟩ (.int .i64 b.prod)).setCell ⟨w.heap.size, 3, none⟩ (.int .i64 b.epoch)).setCell ⟨w.heap.size, 4, none⟩ (.int .i64 b.seq)).setCell ⟨w.heap.size, 5, none⟩ (.slice A2 b.recs.length c2)) :=
    Chg.setCells (fun i => i = w.heap.size) rfl [.bool b.packed, .bool b.mark, .int .i64 b.prod, .int .i64 b.epoch, .int .i64 b.seq, .slice A2 b.recs.length c2] 0 w4
  have b4 := bthen b1 D4.below
  have HD := Lib.hid (show Drawn w _ bs A' c' from ⟨D4.len, D4.ok, (D4.row.keep (cZ.same (fun i _ h1 h2 => by omega))).mono (fun i hi => by omega), b4.trans (cZ.below b4.size (fun i hi => by omega))⟩)
  have HR := Lib.hid ((hrec.keep (cZ.same (fun i _ h1 h2 => by omega))).mono (F' := fun i => w.heap.size ≤ i) (fun i hi => by omega))
  have HOK := Lib.hid (show b.ok from ⟨n1, n2, hti⟩)
  clear D3 E3 r3 D4 cZ b4 r4 c4 hrec hti n1 n2 hA4
  go_wp2
  exact bodyPost_ret (v := .tuple #[.slice A' bs.length c', .agg #[.bool b.packed, .bool b.mark, .int .i64 b.prod, .int .i64 b.epoch, .int .i64 b.seq, .slice A2 b.recs.length c2]]) (by simp [results, Try.results19, go_sem, z0, z1, z2, z3, z4, z5]) rfl ⟨bs, A', c', b, A2, c2, rfl, HD.out, HOK.out, HR.out⟩
end Go.Proofs.Ytlgcajjoimcdhaa
