/- TimesOf of the program. -/
import Derived.Test.YtlgcajjoimcdhaaTu
import Derived.Test.YtlgcajjoimcdhaaR3
import Derived.Test.YtlgcajjoimcdhaaS3
namespace Go.Proofs.Ytlgcajjoimcdhaa
set_option linter.unusedVariables false
set_option linter.unusedSimpArgs false
open Go.RowKit

theorem mostT_heap {rs : List Rec} {hs : List Int} (h : HeapOk hs) (h0 : 0 < hs.length) (hm : ∀ y, y ∈ hs ↔ ∃ r ∈ rs, r.time = y) (hp : ∀ r ∈ rs, 0 ≤ r.time) : hs[0] = mostT rs := by
  obtain ⟨r, hr, e⟩ := (hm hs[0]).1 (List.getElem_mem h0)
  refine (mostT_of (by rw [← e]; exact hp r hr) (fun s hs' => ?_) ⟨r, hr, e⟩).symm
  obtain ⟨i, hi, e'⟩ := List.getElem_of_mem ((hm s.time).2 ⟨s, hs', rfl⟩)
  rw [← e']
  exact heap_root h i hi
/-- The heap over the times of records. -/
structure Times (W : World) (g : Nat) (v : Value) (rs : List Rec) (hs : List Int) : Prop where
  box : W.heap[g]? = some (.cells #[v] 88 (0, 0))
  row : AppP (Kind.int .i64) 3 W (fun b => v.ownBlock = some b) v hs
  ok : HeapOk hs
  len : hs.length = rs.length
  mem : ∀ y, y ∈ hs ↔ ∃ r ∈ rs, r.time = y

theorem Times.keep {W W' : World} {g : Nat} {v : Value} {rs : List Rec} {hs : List Int} (h : Times W g v rs hs) (hg : W'.heap[g]? = W.heap[g]?) (hv : ∀ b, v.ownBlock = some b → W'.heap[b]? = W.heap[b]?) : Times W' g v rs hs :=
  ⟨hg.trans h.box, AppP.keepOwn (flat_int _) h.row hv, h.ok, h.len, h.mem⟩
/-- What the loop keeps: u: the row of greatest times, v: the heap's. -/
structure St (w0 : World) (g : Nat) (W : World) (u v : Value) (rs : List Rec) (hs : List Int) (ts : List Int) : Prop where
  tm : Times W g v rs hs
  out : App (Kind.int .i64) 3 W w0.heap.size u ts
  apart : ∀ b, u.ownBlock = some b → b ≠ g ∧ v.ownBlock ≠ some b
  vg : ∀ b, v.ownBlock = some b → w0.heap.size ≤ b ∧ b ≠ g
  gw : w0.heap.size ≤ g
  below : Below w0.heap.size w0 W
theorem St.after {w0 W W' : World} {g : Nat} {u v : Value} {rs : List Rec} {hs ts : List Int} (h : St w0 g W u v rs hs ts) (hb : Below W.heap.size W W') : St w0 g W' u v rs hs ts :=
  ⟨h.tm.keep (hb.block g (Array.getElem?_eq_some_iff.1 h.tm.box).1) (fun b hb' => hb.block b (AppP.own_lt h.tm.row hb')), AppP.below h.out hb, h.apart, h.vg, h.gw, bthen h.below hb⟩
theorem St.push {w0 W W' : World} {g : Nat} {u v : Value} {rs : List Rec} {hs ts : List Int} (h : St w0 g W u v rs hs ts) {hs' : List Int} {r : Rec} (hh : HeapAt (fun b => v.ownBlock = some b ∨ W.heap.size ≤ b) g W' hs') (hok : HeapOk hs') (hl : hs'.length = hs.length + 1)
    (hm : ∀ y, y ∈ hs' ↔ (y ∈ hs ∨ y = r.time)) (hc : Chg (fun b => b = g ∨ (v.ownBlock = some b ∨ W.heap.size ≤ b)) W W') : ∃ v', St w0 g W' u v' (rs ++ [r]) hs' ts := by
  obtain ⟨v', hd, HA⟩ := hh
  have hgl : g < W.heap.size := (Array.getElem?_eq_some_iff.1 h.tm.box).1
  have hu : ∀ b, u.ownBlock = some b → b < W.heap.size := fun b hb => AppP.own_lt h.out hb
  have hv' : ∀ b, v'.ownBlock = some b → v.ownBlock = some b ∨ W.heap.size ≤ b := fun b hb => AppP.ne HA hb
  refine ⟨v', ⟨hd, HA.tight, hok, by rw [hl, h.tm.len]; simp, fun y => (hm y).trans ?_⟩, AppP.keepOwn (flat_int _) h.out (fun b hb => hc.block b (hu b hb) ?_), fun b hb => ⟨(h.apart b hb).1, fun e => ?_⟩, fun b hb => ?_, h.gw, h.below.trans (hc.below h.below.size (fun i hi => ?_))⟩
  · rw [h.tm.mem y]
    constructor
    · rintro (⟨s, hs, e⟩ | e)
      · exact ⟨s, by simp [hs], e⟩
      · exact ⟨r, by simp, e.symm⟩
    · rintro ⟨s, hs, e⟩
      rcases List.mem_append.1 hs with hs | hs
      · exact .inl ⟨s, hs, e⟩
      · simp at hs; subst hs; exact .inr e.symm
  · rintro (e | e | e)
    · exact (h.apart b hb).1 e
    · exact (h.apart b hb).2 e
    · have := hu b hb; omega
  · rcases hv' b e with e | e
    · exact (h.apart b hb).2 e
    · have := hu b hb; omega
  · rcases hv' b hb with e | e
    · exact h.vg b e
    · exact ⟨Nat.le_trans h.below.size e, by omega⟩
  · rcases hi with e | e | e
    · rw [e]; exact h.gw
    · exact (h.vg i e).1
    · exact Nat.le_trans h.below.size e

set_option maxRecDepth 100000 in
set_option maxHeartbeats 4000000 in
theorem TimesOf_any (bs : List Bat) (A : Option Addr) (c : Nat) (F : Nat → Prop) (w : World) (h : Bats w F A c bs) :
    Calls Try.prog 45 #[.slice A bs.length c] w fun e w' => ∃ v, e = .returned v ∧ App (Kind.int .i64) 3 w' w.heap.size v (timesOf bs) ∧ Below w.heap.size w w' := by
  have hl := h.1
  have hc := h.2.1
  have hbd := h.bound bnd_bat
  have hL0 := App.lit (Kind.int .i64) 3 w w.heap.size (Nat.le_refl _)
  go_enter Try.func45, Try.ntmps45
  go_wp2_with fail
  have HB1 := bal w (.cells #[] 3)
  refine (LogValid_any bs A c _ _ (hbd.below HB1)).mono ?_
  rintro e w2 ⟨rfl, hb2⟩
  have hL2 := hL0.below hb2
  have hB := bthen HB1 hb2
  have hs2 : w.heap.size + 1 ≤ w2.heap.size := by have := hb2.size; simpa using this
  clear HB1 hb2 hL0
  cases hv : logB bs
  · have HL := Lib.hid hL2
    have HB := Lib.hid hB
    have e1 : timesOf bs = [] := by unfold timesOf; rw [hv]; rfl
    clear hL2 hB hv
    go_wp2
    go_ret
    exact ⟨_, rfl, by rw [e1]; exact HL.out, HB.out⟩
  · have HTN := Lib.hid (fun r (hr : r ∈ allRecs bs) => (recB_bounds (allRecs_recB hv r hr)))
    have hlen := Lib.hid (allRecs_len hv)
    have HNB := Lib.hid ((logB_iff _).1 hv).1
    have HPOS := Lib.hid (fun b hb => batB_pos (((logB_iff _).1 hv).2.1 b hb))
    have e1 : Hid (timesOf bs = timesUp bs bs.length) := Lib.hid (by unfold timesOf; rw [hv]; rfl)
    clear hv
    obtain ⟨X, hX⟩ : ∃ X, (w2.alloc (.cells #[] 3)).alloc (.cells #[.slice (some ⟨w2.heap.size, 0, none⟩) 0 0] 88) = X := ⟨_, rfl⟩
    obtain ⟨h1, h2, hbX, hzX⟩ := alloc2 hX
    have hlt1 : (w2.alloc (.cells #[] 3)).heap.size = w2.heap.size + 1 := by simp
    have HA0 : AppP (Kind.int .i64) 3 X (fun b => (Value.slice (some ⟨w2.heap.size, 0, none⟩) 0 0).ownBlock = some b) (.slice (some ⟨w2.heap.size, 0, none⟩) 0 0) [] := by
      rw [← hX]
      exact (AppP.below (App.lit (Kind.int .i64) 3 w2 w2.heap.size (Nat.le_refl _)) (bal _ _)).tight
    have HS0 : St w (w2.heap.size + 1) X (.slice (some ⟨w.heap.size, 0, none⟩) 0 0) (.slice (some ⟨w2.heap.size, 0, none⟩) 0 0) [] [] [] :=
      ⟨⟨h2, HA0, fun i hi => absurd hi (by simp), rfl, fun y => by simp⟩, AppP.below hL2 hbX, fun b hb => by simp [Value.ownBlock] at hb ⊢; omega, fun b hb => by simp [Value.ownBlock] at hb; omega, by omega, bthen hB hbX⟩
    have HX := Lib.hid hX
    have HGX := Lib.hid (show w2.heap.size + 1 < X.heap.size by omega)
    clear hX h1 h2 hbX hzX HA0 hlt1 hL2 hB
    obtain ⟨g, hg⟩ : ∃ g, g = w2.heap.size + 1 := ⟨_, rfl⟩
    rw [← hg] at HS0
    have HG := Lib.hid hg
    go_wp2_with fail
    rw [HX.out]
    rw [← hg]
    clear hg
    go_loopw [3, 18] (fun u i wr => ∃ k : Nat, k ≤ bs.length ∧ i = .int .i64 k ∧ ∃ v hs, Hid (St w g wr u v (allRecs (bs.take k)) hs (timesUp bs k))) (fun _ i _ => bs.length - (intOf i).toNat)
    case atStart => exact ⟨0, Nat.zero_le _, rfl, _, [], Lib.hid (by simpa [allRecs, timesUp] using HS0)⟩
    case round =>
      obtain ⟨k, hk, rfl, v, hs, HS⟩ := hrel
      clear HS0
      obtain ⟨wo, rfl⟩ : ∃ wo : World, wo = wr := ⟨_, rfl⟩
      by_cases hlt : k < bs.length
      · obtain ⟨ad, B, b, rfl, _, hr, q0, q1, q2, q3, q4, q5⟩ := hbd.bat_at hlt
        have hbo := HS.out.below
        have q0 := below_cell hbo q0
        have q1 := below_cell hbo q1
        have q2 := below_cell hbo q2
        have q3 := below_cell hbo q3
        have q4 := below_cell hbo q4
        have q5 := below_cell hbo q5
        have hrl := hr.1
        have hrc := hr.2.1
        have E1 := Lib.hid (allRecs_take_succ hlt)
        have hpos := HPOS.out _ (List.getElem_mem hlt)
        clear hbo
        go_wp2_with fail
        generalize hW : World.alloc _ _ = W1
        obtain ⟨hbb, hb1, hz1⟩ := alloc1 hW
        have HS1 := Lib.hid (HS.out.after hb1)
        have hgo : g < wo.heap.size := (Array.getElem?_eq_some_iff.1 HS.out.tm.box).1
        clear hW q0 q1 q2 q3 q4 q5 hb1 hz1 hbb
        go_loopw [25] (fun i wr => ∃ j : Nat, j ≤ bs[k].recs.length ∧ i = .int .i64 j ∧ ∃ v hs, Hid (St w g wr u3 v (allRecs (bs.take k) ++ bs[k].recs.take j) hs (timesUp bs k))) (fun i _ => bs[k].recs.length - (intOf i).toNat)
        case atStart => exact ⟨0, Nat.zero_le _, rfl, v, hs, Lib.hid (by simpa using HS1.out)⟩
        case round =>
          obtain ⟨j, hj, rfl, v, hs, HS⟩ := hrel
          by_cases hjl : j < bs[k].recs.length
          · obtain ⟨ad2, C1, d1, C2, d2, rfl, _, _, _, q0, q1, q2, q3, q4, q5⟩ := (hr.below HS.out.below).rec_at hjl
            have hle : hs.length < 1000 := by
              have := HS.out.tm.len
              have := hlen.out
              have := allRecs_take_le bs (k + 1)
              rw [E1.out] at this
              simp at *
              omega
            have HT := Lib.hid (show allRecs (bs.take k) ++ bs[k].recs.take (j + 1) = (allRecs (bs.take k) ++ bs[k].recs.take j) ++ [bs[k].recs[j]] by rw [List.append_assoc, List.take_succ_eq_append_getElem hjl])
            obtain ⟨rs, hrs⟩ : ∃ rs, rs = allRecs (bs.take k) ++ bs[k].recs.take j := ⟨_, rfl⟩
            rw [← hrs] at HS HT
            clear hrs
            go_wp2_with fail
            generalize hW : World.alloc _ _ = W3
            obtain ⟨hbb, hb3, hz3⟩ := alloc1 hW
            have HS3 := Lib.hid (HS.out.after hb3)
            clear hW q0 q1 q2 q3 q4 q5 hb3 hz3 hbb
            refine (heapPush_any (fun b => v.ownBlock = some b ∨ W3.heap.size ≤ b) g hs bs[k].recs[j].time W3 ⟨v, HS3.out.tm.box, AppP.mono HS3.out.tm.row (fun b _ h => .inl h)⟩ (fun b hb => .inr hb) (fun e => e.elim (fun h => (HS3.out.vg g h).2 rfl) (fun h => by have := (Array.getElem?_eq_some_iff.1 HS3.out.tm.box).1; omega)) HS3.out.tm.ok hle).mono ?_
            rintro e W4 ⟨⟨v4, rfl⟩, ⟨hs', hh, hok, hl', hm'⟩, hc4⟩
            obtain ⟨v', hS'⟩ := HS3.out.push (r := bs[k].recs[j]) hh hok hl' hm' hc4
            rw [← HT.out] at hS'
            have HS4 := Lib.hid hS'
            clear hh hok hl' hm' hc4 hS'
            go_wp2
            go_roundw
            case rel => exact ⟨j + 1, by omega, by go_num, v', hs', HS4⟩
            case measure => simp [intOf]; omega
          · have hj2 : j = bs[k].recs.length := by omega
            subst hj2
            rw [List.take_length] at HS
            have hne : 0 < hs.length := by rw [HS.out.tm.len]; simp; omega
            rw [← E1.out] at HS
            have HR := Lib.hid (show hs[0] = timeAt bs k from mostT_heap HS.out.tm.ok hne HS.out.tm.mem (fun r hr => (HTN.out r (by obtain ⟨b', hb', hr'⟩ := List.mem_flatMap.1 hr; exact List.mem_flatMap.2 ⟨b', List.mem_of_mem_take hb', hr'⟩)).2.2.1))
            obtain ⟨gq, cap, cur, rfl, _, hb, hsz, hlc, hcc, hE⟩ := HS.out.tm.row.own hne
            obtain ⟨cs0, hK0, hc0⟩ := hE 0 _ (List.getElem?_eq_getElem hne)
            have z0 : wr.cell? ⟨gq, 0, none⟩ = some (.int .i64 hs[0]) := by simpa using hc0 0 _ (by rw [hK0]; rfl)
            obtain ⟨o0, of⟩ := one HS.out.tm.box
            have HSR := Lib.hid HS.out
            have HT2 := Lib.hid (timesUp_succ bs k)
            have hlu := timesUp_len bs k
            have hk48 : k ≤ 1000 := by have := HNB.out; omega
            clear hE hc0 hK0 hb hsz HS
            rw [HR.out] at z0
            go_wp2_with (at_builtin; go_loud (refine wpList_appP (Kind.int .i64) (AppP.mono (P' := fun b => u3.ownBlock = some b ∨ wr.heap.size ≤ b) HSR.out.out.tight (fun b _ h => .inl h)) rfl _ _ 31 (.int .i64 0) 8 rfl Try.underlying31 (by kernel_rfl) rfl (by decide) (timeAt bs k) [.int .i64 (timeAt bs k)] (fun _ => False) rfl rfl rfl (fun _ h => h.elim) (by simp [Value.oneCell']) (fun b hb => .inr hb) (by rw [hlu]; omega) (by rw [hlu]; omega) ?_))
            intro u5 W5 HA5 hc5
            rw [← HT2.out] at HA5
            have hS5 : St w g W5 u5 (.slice (some ⟨gq, 0, none⟩) hs.length cap) (allRecs (bs.take (k + 1))) hs (timesUp bs (k + 1)) := by
              have hS := HSR.out
              have hgl : g < wr.heap.size := (Array.getElem?_eq_some_iff.1 hS.tm.box).1
              have hu5 : ∀ b, u5.ownBlock = some b → u3.ownBlock = some b ∨ wr.heap.size ≤ b := fun b hb => AppP.ne HA5 hb
              have hvl : ∀ b, (Value.slice (some ⟨gq, 0, none⟩) hs.length cap).ownBlock = some b → b < wr.heap.size := fun b hb => AppP.own_lt hS.tm.row hb
              refine ⟨hS.tm.keep (hc5.block g hgl (fun e => (hS.apart _ e).1 rfl)) (fun b hb => hc5.block b (hvl b hb) (fun e => (hS.apart b e).2 hb)), AppP.mono HA5 (fun b _ hb => ?_), fun b hb => ?_, hS.vg, hS.gw, hS.below.trans (hc5.below hS.below.size (fun i hi => AppP.ne hS.out hi))⟩
              · rcases hb with hb | hb
                · exact AppP.ne hS.out hb
                · exact Nat.le_trans hS.below.size hb
              · rcases hu5 b hb with e | e
                · exact hS.apart b e
                · exact ⟨by omega, fun e' => by have := hvl b e'; omega⟩
            have HS5 := Lib.hid hS5
            clear hS5 HA5 hc5 z0 o0 of hlu
            go_wp2
            go_roundw
            case rel => exact ⟨k + 1, by omega, by go_num, _, _, HS5⟩
            case measure => simp [intOf]; omega
      · have hk2 : k = bs.length := by omega
        subst hk2
        rw [List.take_length] at HS
        have HO := Lib.hid HS.out.out
        go_wp2
        go_ret
        exact ⟨_, rfl, by rw [e1.out]; exact HO.out, HS.out.below⟩
end Go.Proofs.Ytlgcajjoimcdhaa
