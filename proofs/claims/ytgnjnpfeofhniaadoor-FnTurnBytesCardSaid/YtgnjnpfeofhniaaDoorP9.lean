/- impl.pack: the walk. -/
import Derived.Test.YtgnjnpfeofhniaaDoorP8
import Derived.Test.YtgnjnpfeofhniaaDoorPn
namespace Go.Proofs.YtgnjnpfeofhniaaDoor
set_option linter.unusedVariables false
set_option linter.unusedSimpArgs false
open Go.RowKit Go.Shelf

theorem alloc7 {w W : World} {o1 o2 o3 o4 o5 o6 o7 : Obj} (h : ((((((w.alloc o1).alloc o2).alloc o3).alloc o4).alloc o5).alloc o6).alloc o7 = W) :
    W.heap[w.heap.size]? = some o1 ∧ W.heap[w.heap.size + 1]? = some o2 ∧ W.heap[w.heap.size + 1 + 1]? = some o3 ∧ W.heap[w.heap.size + 1 + 1 + 1]? = some o4 ∧ W.heap[w.heap.size + 1 + 1 + 1 + 1]? = some o5 ∧ W.heap[w.heap.size + 1 + 1 + 1 + 1 + 1]? = some o6 ∧
      W.heap[w.heap.size + 1 + 1 + 1 + 1 + 1 + 1]? = some o7 ∧ Below w.heap.size w W := by
  generalize hX : (((w.alloc o1).alloc o2).alloc o3).alloc o4 = X at h
  obtain ⟨p1, p2, p3, p4, p5, p6⟩ := alloc5 hX
  generalize hY : (X.alloc o5).alloc o6 = Y at h
  obtain ⟨q1, q2, q3, q4⟩ := alloc2 hY
  obtain ⟨r1, r2, r3⟩ := alloc1 h
  rw [q4, p6] at r1
  rw [p6] at q1 q2
  have b := bthen q3 r2
  exact ⟨blk_below p1 b, blk_below p2 b, blk_below p3 b, blk_below p4 b, blk_below q1 r2, blk_below q2 r2, r1, bthen p5 b⟩
theorem appP_lit {W : World} {g : Nat} {P : Nat → Prop} (h : W.heap[g]? = some (.cells #[] 3 (0, 0))) (hP : P g) : AppP (Kind.int .i64) 3 W P (.slice (some ⟨g, 0, none⟩) 0 0) [] :=
  ⟨fun _ => False, [], ⟨by simp, .inr ⟨g, 0, #[], rfl, Nat.zero_le _, h, Nat.le_refl _, by simp [maxLen], by simp, by simp⟩⟩, fun k hk => by simp [Value.ownBlock] at hk; rw [← hk]; exact hP, fun b hb => hb.elim, fun j x hj => by simp at hj⟩
theorem SeenI.start {l : List Int} {b : Nat} {P : Nat → Prop} {W : World} (h : W.heap[b]? = some (.map #[] 0)) : SeenI l 0 b P W :=
  ⟨#[], 0, h, ⟨by simp, MapKept.stamped_empty 0, by simp⟩, Nat.le_refl _, by simp, fun k hk => absurd (seenOf_zero l k) hk, by simp⟩
section
variable {P : Program} {ops : Array Oper} {rest : List Oper} {o : Oper} {a : Act} {Q : Exit → Act → World → Prop} {α : Type}
theorem step_appP1 (d : Kind α) {e : TypeId} {W : World} {R : Nat → Prop} {v : Value} {xs : List α} {K : Act → World → Prop} {E : Prop} (HO : AppP d e W R v xs) (hgd : o.guard = none) (s x : Operand) (t : TypeId) (z : Value) (bytes : Nat)
    (ho : o.op = .call { callee := .builtin .append, args := #[s, x], argTypes := #[t, t] })
    (ht : P.underlying t = some (.slice e)) (hinfo : (P.info? e).map (fun i => (i.zero, i.size, i.bytes)) = some (some z, d.sz, bytes)) (hz : z.cells.size = d.sz) (hs0 : 0 < d.sz)
    (p : α) (cs : List Value) (G : Nat → Prop) (hs : a.eval s = v) (hx : a.eval x = .slice (some ⟨W.heap.size, 0, none⟩) 1 1)
    (hp : d.K W G p cs) (hG : ∀ b, G b → R b ∧ b < W.heap.size ∧ v.ownBlock ≠ some b) (h1 : ∀ u ∈ cs, u.oneCell' = true)
    (hnew : ∀ b, W.heap.size ≤ b → R b) (h63 : xs.length + 1 ≤ 1099511627776) (hl : (xs.length + 1) * bytes ≤ 140737488355328)
    (h : ∀ v1 w1, AppP d e w1 R v1 (xs ++ [p]) → Chg (fun b => v.ownBlock = some b) W w1 → (v1.ownBlock = v.ownBlock ∨ ∃ b, v1.ownBlock = some b ∧ W.heap.size ≤ b) → K (a.put o.dst v1) w1) :
    if Region.wanted o (yielded ops a.tmps) = true then Oper.wp P o a (W.alloc (.cells cs.toArray e)) K Q else E := by
  have hw : Region.wanted o (yielded ops a.tmps) = true := by simp [Region.wanted, hgd]
  rw [if_pos hw]
  obtain ⟨v1, w1, hrun, h2, h3, h4⟩ := run_appP1 (P := P) d HO t o.type z bytes ht hinfo hz hs0 p cs G hp hG h1 hnew h63 hl
  unfold Oper.wp execOp
  simp only [ho, resolve, invoke, builtin, Sem.run_bind, Sem.run_pure, Result.andThen_ok, List.map_toArray, List.map_cons, List.map_nil, hs, hx, hrun]
  exact h v1 w1 h2 h3 h4
end

set_option maxRecDepth 20000 in
set_option maxHeartbeats 8000000 in
theorem pack_any (l : List Int) (A : Option Addr) (c : Nat) (F : Nat → Prop) (w : World) (h : Ints w F A c l) (hn : l.length ≤ 1048576) (hby : bytesB l = true) :
    Calls Tryd.prog 35 #[.slice A l.length c] w fun e w' => ∃ v, e = .returned v ∧ App (Kind.int .i64) 3 w' w.heap.size v (packOf l) ∧ Below w.heap.size w w' := by
  have hl := h.1
  have hc := h.2.1
  have hmm := @run_makeMap Tryd.prog
  go_enter Tryd.func35, Tryd.ntmps35
  go_wp2_with fail
  generalize hW : World.alloc _ _ = W0
  obtain ⟨p1, p2, p3, p4, p5, p6, p7, bW⟩ := alloc7 hW
  clear hW hmm
  obtain ⟨bs, hbs⟩ : ∃ bs, bs = w.heap.size + 1 + 1 + 1 + 1 + 1 + 1 := ⟨_, rfl⟩
  rw [← hbs] at p7 ⊢
  obtain ⟨b, hb⟩ : ∃ b, b = w.heap.size + 1 + 1 + 1 + 1 + 1 := ⟨_, rfl⟩
  rw [← hb] at p6 p7 ⊢
  obtain ⟨bp, hbp⟩ : ∃ bp, bp = w.heap.size + 1 + 1 + 1 + 1 := ⟨_, rfl⟩
  rw [← hbp] at p5 ⊢
  obtain ⟨bo, hbo⟩ : ∃ bo, bo = w.heap.size + 1 + 1 + 1 := ⟨_, rfl⟩
  rw [← hbo] at p4 ⊢
  have HK0 : Hid (PkI ⟨w.heap.size, w.heap.size, bo, bp, b, bs⟩ l A c 0 [] [] (.slice (some ⟨w.heap.size + 1, 0, none⟩) 0 0) (.slice (some ⟨w.heap.size + 1 + 1, 0, none⟩) 0 0) w W0) := Lib.hid
    ⟨⟨⟨by show w.heap.size ≤ w.heap.size; omega, by show w.heap.size ≤ bo; omega, by show w.heap.size ≤ bp; omega, by show w.heap.size ≤ b; omega, by show w.heap.size ≤ bs; omega⟩, by show w.heap.size ≠ bo; omega, by show w.heap.size ≠ bp; omega, by show w.heap.size ≠ b; omega, by show w.heap.size ≠ bs; omega, by show bo ≠ bp; omega, by show bo ≠ b; omega, by show bo ≠ bs; omega, by show bp ≠ b; omega, by show bp ≠ bs; omega, by show b ≠ bs; omega⟩,
      p4, p5, p1, p7, appP_lit p2 ⟨⟨by show w.heap.size ≤ _; omega, by show w.heap.size + 1 ≠ w.heap.size; omega, by show w.heap.size + 1 ≠ bo; omega, by show w.heap.size + 1 ≠ bp; omega, by show w.heap.size + 1 ≠ b; omega, by show w.heap.size + 1 ≠ bs; omega⟩, by simp [Value.ownBlock]⟩,
      appP_lit p3 ⟨by show w.heap.size ≤ _; omega, by show w.heap.size + 1 + 1 ≠ w.heap.size; omega, by show w.heap.size + 1 + 1 ≠ bo; omega, by show w.heap.size + 1 + 1 ≠ bp; omega, by show w.heap.size + 1 + 1 ≠ b; omega, by show w.heap.size + 1 + 1 ≠ bs; omega⟩, SeenI.start p6, rfl, bW⟩
  clear p1 p2 p3 p4 p5 p6 p7 bW hbs hb hbp hbo
  go_loopw [8] (fun q wr => ∃ (i f : Nat) (xs ps : List Int) (vo vp : Value), i ≤ l.length ∧ l.length ≤ i + f ∧ q = .int .i64 i ∧ ps.length ≤ i ∧ Hid (xs ++ packR l f i ps = packOf l) ∧ Hid (PkI ⟨w.heap.size, w.heap.size, bo, bp, b, bs⟩ l A c i xs ps vo vp w wr)) (fun q _ => l.length - (intOf q).toNat)
  case atStart => exact ⟨0, l.length, [], [], _, _, Nat.zero_le _, by omega, rfl, Nat.le_refl _, Lib.hid rfl, HK0⟩
  case round =>
    obtain ⟨i, f, xs, ps, vo, vp, hi, hif, rfl, hps, HE, HKW⟩ := hrel
    have HPS := Lib.hid hps
    obtain ⟨wo, rfl⟩ : ∃ wo : World, wo = wr := ⟨_, rfl⟩
    clear HK0 hps

    by_cases hlt : i < l.length
    · obtain ⟨f', rfl⟩ : ∃ f', f = f' + 1 := ⟨f - 1, by omega⟩
      have hxl : xs.length ≤ 2 * l.length := by
        have h3 := congrArg List.length HE.out
        have := packOf_len l
        rw [List.length_append] at h3
        omega
      have HX := Lib.hid hxl
      obtain ⟨zb, zbf⟩ := (show HoldI wo w.heap.size (.slice A l.length c) from HKW.out.bytes).one
      by_cases h3 : i + 3 ≤ l.length
      · have hkb := bytes_key hby h3
        obtain ⟨vl, hlk, hva⟩ := HKW.out.seen.look hkb
        obtain ⟨Av, cv, rfl, _, _⟩ := hva.slice_
        have hvr := (AppP.row_of hva).2.2.2
        obtain ⟨zm, zmf⟩ := oneR (show wo.heap[bs]? = some (.cells #[.map (some b)] 109 (0, 0)) from HKW.out.mp)
        have hSame := match_best (l := l) (i := i) h3
        have hml : (natInts (seenOf l i (key3 l i))).length = (seenOf l i (key3 l i)).length := natInts_len _
        obtain ⟨S, hS⟩ : ∃ S, S = seenOf l i (key3 l i) := ⟨_, rfl⟩
        have hSlt : ∀ p ∈ S, p < i := fun p hp => by rw [hS] at hp; exact seenOf_lt hp
        rw [← hS] at hlk hva hvr hSame hml
        rw [hml] at hlk
        obtain ⟨ad, rfl, hpad, q0⟩ := (h.below HKW.out.below).int_at hlt
        have hcall : ∀ g, Calls Tryd.prog 58 #[.slice (some ad) l.length c, .int .i64 (i : Int), .slice Av S.length cv] (grow wo g) fun e w'' => e = .returned (.tuple #[.int .i64 ((matchN l i S).1 : Nat), .int .i64 ((matchN l i S).2 : Nat)]) ∧ ∃ g', w'' = grow wo g' := fun g =>
          Calls.grow_of (matchAt_any l (some ad) c F i S Av cv _ _ ((h.below HKW.out.below).below (grow_below _ _)) (hvr.below (grow_below _ _)) hn (by omega) hSlt)
        obtain ⟨_, ea, _, q1⟩ := (h.below HKW.out.below).int_at (show i + 1 < l.length by omega)
        injection ea with ea
        subst ea
        obtain ⟨_, ea, _, q2⟩ := (h.below HKW.out.below).int_at (show i + 2 < l.length by omega)
        injection ea with ea
        subst ea
        rw [add_succ ad i 0] at q1
        rw [add_succ ad i 1] at q2
        have hkv : keyV (key3 l i) = .agg #[.int .i64 l[i], .int .i64 l[i + 1], .int .i64 l[i + 2]] := by
          unfold keyV key3
          rw [getD_at hlt, getD_at (show i + 1 < l.length by omega), getD_at (show i + 2 < l.length by omega)]
        rw [hkv] at hlk
        have s1 : ∀ W : World, (Instr.slice 32 (.slice (some ad) l.length c) (some (.int .i64 (i : Int))) (some (.int .i64 ((i : Int) + 3))) none).run Tryd.prog W = .ok (.slice (some (ad.add i)) 3 (c - i)) W := fun W => by
          have := run_between Tryd.underlying32 info_intP (some ad) l.length c i (i + 3) _ _ rfl (show (((i : Int) + 3) : Int) = ((i + 3 : Nat) : Int) by omega) (by omega) (by omega) W
          rw [show i + 3 - i = 3 by omega, show cutAddr (some ad) i c 1 = some (ad.add i) by unfold cutAddr; rw [if_neg (by omega)]; simp] at this
          exact this
        have s2 : ∀ W : World, (Instr.arrayAt 111 (.slice (some (ad.add i)) 3 (c - i))).run Tryd.prog W = .ok (.pointer (some (ad.add i))) W := fun W => by
          simp [Instr.arrayAt, run_underlying Tryd.underlying111]
        have s3 : ∀ g, (Instr.lookup 109 (.map (some b)) (.agg #[.int .i64 l[i], .int .i64 l[i + 1], .int .i64 l[i + 2]]) false).run Tryd.prog (grow wo g) = .ok (.slice Av S.length cv) (grow wo g) := fun g => hlk _ ((grow_below wo g).block b HKW.out.lts.2.2.2.1)
        have hw3 : IntKind.i64.wrap ((i : Int) + 3) = (i : Int) + 3 := by rw [IntWalk.i64_in _ (by omega)]
        have G0 := grow_cell zb
        have G1 := grow_cell zm
        have Q0 := grow_cell q0
        have Q1 := grow_cell q1
        have Q2 := grow_cell q2
        have HSM := Lib.hid hSame
        have HH := Lib.hid h
        have HKg := Lib.hid (fun g => HKW.out.grow (grow_below wo g))
        clear hlk hva hvr hml hS hSlt hkv hkb hSame zm zmf q0 q1 q2 h
        go_wp2_with fail
        refine wp_region_grow_lit (by kernel_rfl) (by kernel_rfl) ?_
        repeat (go_big_quiet_step (exact hcall _))
        refine wpQuiet_nil ?_
        rintro _ ⟨g, rfl⟩
        have h := HH.out
        have HKW := Lib.hid (HKg.out g)
        clear HKg hcall s1 s2 s3 G0 G1 Q0 Q1 Q2 zb zbf HH
        generalize hW : grow wo g = W at HKW ⊢
        clear hW
        obtain ⟨m, hm⟩ : ∃ m, m = matchN l i S := ⟨_, rfl⟩
        have HSM2 : SameB (bestN l i) m := by rw [hm]; exact HSM.out
        rw [← hm]
        clear hm HSM
        rcases HSM2 with ⟨hm0, hBest⟩ | ⟨hmB, hBest3⟩
        · obtain ⟨m1, m2⟩ := m
          have hm0' : m1 = 0 := hm0
          subst hm0'
          clear hm0
          have hps : ps.length ≤ i := HPS.out

          have HEp := Lib.hid (show xs ++ packR l f' (i + 1) (ps ++ [l[i]]) = packOf l by
            rw [← HE.out, packR_plain hlt hBest, getD_at hlt])
          obtain ⟨Ap, cp, rfl, _, _⟩ := HKW.out.rowP.slice_
          obtain ⟨_, ea, _, hcell⟩ := (h.below HKW.out.below).int_at hlt
          injection ea with ea
          subst ea
          obtain ⟨zb, zbf⟩ := (show HoldI W w.heap.size (.slice (some ad) l.length c) from HKW.out.bytes).one
          obtain ⟨zp, zpf⟩ := (show HoldI W bp (.slice Ap ps.length cp) from HKW.out.plain).one
          have bA := bal W (.cells #[.int .i64 l[i]] 3)
          have zpA := below_cell bA zp
          have bD : Below W.heap.size W W.drew := ⟨rfl, rfl, rfl, Nat.le_refl _, fun _ _ => rfl⟩
          have HKD := Lib.hid (HKW.out.grow bD)
          have HPL := Lib.hid (show ps.length + 1 ≤ 16777216 by omega)
          have hp1 : (ps ++ [l[i]]).length ≤ i + 1 := by simp; omega
          obtain ⟨qs, hqs⟩ : ∃ qs, qs = ps ++ [l[i]] := ⟨_, rfl⟩
          rw [← hqs] at HEp hp1
          have HQS := Lib.hid hqs
          have HP1 := Lib.hid hp1
          have HLT := Lib.hid hlt
          have HIF := Lib.hid (show l.length ≤ i + 1 + f' by omega)
          have hwi : IntKind.i64.wrap ((i : Int) + 1) = (i : Int) + 1 := by rw [IntWalk.i64_in _ (by omega)]
          clear hqs hp1 hBest HE HX hps
          go_wp2_with fail
          go_region_law (first
            | (go_loud (refine step_appP1 (Kind.int .i64) HKD.out.rowP rfl _ _ 32 (.int .i64 0) 8 rfl Tryd.underlying32 (by kernel_rfl) rfl (by decide) l[i] [.int .i64 l[i]] (fun _ => False) rfl rfl rfl (fun _ h => h.elim) (by simp [Value.oneCell']) (fun b hb => HKD.out.far hb) (by have := HPL.out; omega) (by have := HPL.out; omega) ?_; intro v1 w1 HA1 hc1 ho1; replace HA1 : AppP (Kind.int .i64) 3 w1 _ v1 qs := (by rw [HQS.out]; exact HA1); obtain ⟨A1, c1, rfl, _, _⟩ := HA1.slice_; have HKN := Lib.hid (HKD.out.setP HA1 hc1 ho1); obtain ⟨zw, zwf⟩ := (show HoldI w1 bp (.slice Ap ps.length cp) from (show HoldI _ bp (.slice Ap ps.length cp) from HKD.out.plain).chg hc1 (fun e => (AppP.ne HKD.out.rowP e).2.2.2.1 rfl)).one)))
          all_goals
            clear HA1 hc1 ho1 HKD HKW zb zbf zp zpf zpA hcell bA bD zw zwf
            generalize hT : World.setCell _ _ _ = T at HKN ⊢
            clear hT
            go_wp2_with fail
            refine (see_any l (some ad) c F i w.heap.size bs b _ T (h.below HKN.out.below) hn hby HLT.out HKN.out.bytes HKN.out.mp HKN.out.seen (fun k hk => HKN.out.seenNew hk) (fun e => e.1.2.2.2.2.1 rfl)).mono ?_
            rintro e w3 ⟨⟨v, rfl⟩, hS3, hC3⟩
            have HK3 := Lib.hid (HKN.out.see hS3 hC3)
            clear HKN hS3 hC3
            go_wp2
            go_roundw
            case rel => exact ⟨i + 1, f', xs, qs, vo, _, HLT.out, HIF.out, by go_num, HP1.out, HEp, HK3⟩
            case measure => have := HLT.out; simp [intOf]; omega

        · have hBest : ¬ (bestN l i).1 < 3 := by omega
          obtain ⟨m1, m2⟩ := m
          obtain ⟨n, hnn⟩ : ∃ n, n = (bestN l i).1 := ⟨_, rfl⟩
          obtain ⟨bk, hbb⟩ : ∃ bk, bk = (bestN l i).2 := ⟨_, rfl⟩
          obtain ⟨e1, e2⟩ : m1 = n ∧ m2 = bk := by rw [hnn, hbb, hmB]; exact ⟨rfl, rfl⟩
          subst e1 e2
          clear hmB hBest3
          have hps : ps.length ≤ i := HPS.out

          obtain ⟨hb3, hb66, hbe, hk1, hk2⟩ := best_pos (Nat.le_of_lt hlt) hBest
          have HEm := Lib.hid (show (xs ++ plainB ps) ++ [(m1 : Int) + 61, (m2 : Int)] ++ packR l f' (i + m1) [] = packOf l by
            rw [← HE.out, packR_match hlt hBest, ← hnn, ← hbb]
            simp)
          rw [← hnn] at hb3 hb66 hbe
          rw [← hbb] at hk1 hk2
          clear hnn hbb
          obtain ⟨Ap, cp, rfl, _, _⟩ := HKW.out.rowP.slice_
          obtain ⟨Ao, co, rfl, _, _⟩ := HKW.out.rowO.slice_
          have hok := HKW.out.ok
          have hpb := plainB_len ps
          have HLT := Lib.hid hlt
          have HIF := Lib.hid (show l.length ≤ i + m1 + f' by omega)
          have hwn : IntKind.i64.wrap ((m1 : Int) + 61) = (m1 : Int) + 61 := by rw [IntWalk.i64_in _ (by omega)]
          clear hBest HE
          go_wp2_with fail
          refine (flush_any W bp bo Ap cp (.slice Ao xs.length co) ps xs _ _ HKW.out.plain HKW.out.out (fun e => HKW.out.ok.2.2.2.2.2.1 e.symm) HKW.out.rowP HKW.out.rowO (fun k hk => ⟨hk.1.2.2.2.1, hk.1.2.2.1, hk.2⟩) (fun k hk => ⟨hk.2.2.2.1, hk.2.2.1⟩) (fun k hk => HKW.out.outNew hk) (by omega) (by omega)).mono ?_
          rintro e w3 ⟨⟨v, rfl⟩, vo', vp', f1, f2, f3, f4, f5, f6, f7⟩
          have HK3 := Lib.hid (HKW.out.flush f1 f2 f3 f4 f5 f6 f7)
          obtain ⟨zs, hzs⟩ : ∃ zs, zs = xs ++ plainB ps := ⟨_, rfl⟩
          have hzl : zs.length ≤ 4 * l.length := by rw [hzs, List.length_append]; omega
          rw [← hzs] at HK3 HEm
          clear f1 f2 f3 f4 f5 f6 f7 HKW hzs hpb hps
          obtain ⟨A3, c3, rfl, _, _⟩ := HK3.out.rowO.slice_
          obtain ⟨zo, zof⟩ := (show HoldI w3 bo (.slice A3 zs.length c3) from HK3.out.out).one
          have HI := App.ints 3 w3 w3.heap.size (Nat.le_refl _) [(m1 : Int) + 61, (m2 : Int)] (by simp)
          have hrI := (AppP.row_of HI).2.2.2
          have HK4 := Lib.hid (HK3.out.grow (bal w3 (.cells #[.int .i64 ((m1 : Int) + 61), .int .i64 (m2 : Int)] 3)))
          clear HI
          go_wp2_with (at_builtin; go_loud (refine wpList_appF (Kind.int .i64) (ys := [(m1 : Int) + 61, (m2 : Int)]) HK4.out.rowO rfl _ _ 32 (.int .i64 0) 8 rfl Tryd.underlying32 (by kernel_rfl) rfl (bnd_int .i64) (onec_int .i64) (flat_int .i64) rfl rfl rfl hrI (fun k hk => HK4.out.outNew hk) (by simp; omega) (by simp; omega) ?_))
          intro v7 w7 HX7 hc7 ho7
          obtain ⟨us, hus⟩ : ∃ us, us = zs ++ [(m1 : Int) + 61, (m2 : Int)] := ⟨_, rfl⟩
          rw [← hus] at HX7 HEm
          obtain ⟨A7, c7, rfl, _, _⟩ := HX7.slice_
          have HK7 := Lib.hid (HK4.out.setO HX7 hc7 (ho7.imp id (fun ⟨k, e, h⟩ => ⟨k, e, by simpa using h⟩)))
          obtain ⟨zo7, zof7⟩ := (show HoldI w7 bo (.slice A3 zs.length c3) from (show HoldI _ bo (.slice A3 zs.length c3) from HK4.out.out).chg hc7 (fun e => (AppP.ne HK4.out.rowO e).1.2.2.1 rfl)).one
          clear HX7 hc7 ho7 HK3 HK4 hrI zo zof hus hzl
          go_wp2_with fail
          generalize hT : World.setCell _ _ _ = T at HK7 ⊢
          clear hT zo7 zof7
          obtain ⟨W0, hW0⟩ : ∃ W0 : World, W0 = T := ⟨_, rfl⟩
          go_loopw [8, 63] (fun q q' wr2 => ∃ k : Nat, k ≤ m1 ∧ q = .int .i64 (i + k : Nat) ∧ q' = .int .i64 k ∧ Hid (PkI ⟨w.heap.size, w.heap.size, bo, bp, b, bs⟩ l (some ad) c (i + k) us [] (.slice A7 us.length c7) vp' w wr2)) (fun _ q' _ => m1 - (intOf q').toNat)
          case atStart => exact ⟨0, Nat.zero_le _, rfl, rfl, HK7⟩
          case round =>
            obtain ⟨k, hkn, rfl, rfl, HKr⟩ := hrel
            clear HK7
            by_cases hkl : k < m1
            · go_wp2_with fail
              refine (see_any l (some ad) c F (i + k) w.heap.size bs b _ _ (h.below HKr.out.below) hn hby (by omega) HKr.out.bytes HKr.out.mp HKr.out.seen (fun k hk => HKr.out.seenNew hk) (fun e => e.1.2.2.2.2.1 rfl)).mono ?_
              rintro e w8 ⟨⟨v, rfl⟩, hS3, hC3⟩
              have HK8 := Lib.hid (HKr.out.see hS3 hC3)
              clear HKr hS3 hC3
              have hwi : IntKind.i64.wrap (((i + k : Nat) : Int) + 1) = ((i + k : Nat) : Int) + 1 := by rw [IntWalk.i64_in _ (by omega)]
              have hwk : IntKind.i64.wrap ((k : Int) + 1) = (k : Int) + 1 := by rw [IntWalk.i64_in _ (by omega)]
              go_wp2
              go_roundw
              case rel => exact ⟨k + 1, by omega, by go_num, by go_num, HK8⟩
              case measure => simp [intOf]; omega
            · have hkn2 : k = m1 := by omega
              subst hkn2
              go_wp2
              go_roundw
              case rel => exact ⟨i + k, f', us, [], _, vp', by omega, HIF.out, rfl, Nat.zero_le _, HEm, HKr⟩
              case measure => have := HLT.out; simp [intOf]; omega

      · have hBest := best_short (l := l) (i := i) (by omega) h3
        have hps : ps.length ≤ i := HPS.out
        obtain ⟨W, hW⟩ : ∃ W : World, W = wo := ⟨_, rfl⟩
        subst hW
        clear zb zbf

        have HEp := Lib.hid (show xs ++ packR l f' (i + 1) (ps ++ [l[i]]) = packOf l by
          rw [← HE.out, packR_plain hlt hBest, getD_at hlt])
        obtain ⟨Ap, cp, rfl, _, _⟩ := HKW.out.rowP.slice_
        obtain ⟨ad, hAad, _, hcell⟩ := (h.below HKW.out.below).int_at hlt
        subst hAad
        obtain ⟨zb, zbf⟩ := (show HoldI W w.heap.size (.slice (some ad) l.length c) from HKW.out.bytes).one
        obtain ⟨zp, zpf⟩ := (show HoldI W bp (.slice Ap ps.length cp) from HKW.out.plain).one
        have bA := bal W (.cells #[.int .i64 l[i]] 3)
        have zpA := below_cell bA zp
        have bD : Below W.heap.size W W.drew := ⟨rfl, rfl, rfl, Nat.le_refl _, fun _ _ => rfl⟩
        have HKD := Lib.hid (HKW.out.grow bD)
        have HPL := Lib.hid (show ps.length + 1 ≤ 16777216 by omega)
        have hp1 : (ps ++ [l[i]]).length ≤ i + 1 := by simp; omega
        obtain ⟨qs, hqs⟩ : ∃ qs, qs = ps ++ [l[i]] := ⟨_, rfl⟩
        rw [← hqs] at HEp hp1
        have HQS := Lib.hid hqs
        have HP1 := Lib.hid hp1
        have HLT := Lib.hid hlt
        have HIF := Lib.hid (show l.length ≤ i + 1 + f' by omega)
        have hwi : IntKind.i64.wrap ((i : Int) + 1) = (i : Int) + 1 := by rw [IntWalk.i64_in _ (by omega)]
        clear hqs hp1 hBest HE HX hps
        go_wp2_with fail
        go_region_law (first
          | (go_loud (refine step_appP1 (Kind.int .i64) HKD.out.rowP rfl _ _ 32 (.int .i64 0) 8 rfl Tryd.underlying32 (by kernel_rfl) rfl (by decide) l[i] [.int .i64 l[i]] (fun _ => False) rfl rfl rfl (fun _ h => h.elim) (by simp [Value.oneCell']) (fun b hb => HKD.out.far hb) (by have := HPL.out; omega) (by have := HPL.out; omega) ?_; intro v1 w1 HA1 hc1 ho1; replace HA1 : AppP (Kind.int .i64) 3 w1 _ v1 qs := (by rw [HQS.out]; exact HA1); obtain ⟨A1, c1, rfl, _, _⟩ := HA1.slice_; have HKN := Lib.hid (HKD.out.setP HA1 hc1 ho1); obtain ⟨zw, zwf⟩ := (show HoldI w1 bp (.slice Ap ps.length cp) from (show HoldI _ bp (.slice Ap ps.length cp) from HKD.out.plain).chg hc1 (fun e => (AppP.ne HKD.out.rowP e).2.2.2.1 rfl)).one)))
        all_goals
          clear HA1 hc1 ho1 HKD HKW zb zbf zp zpf zpA hcell bA bD zw zwf
          generalize hT : World.setCell _ _ _ = T at HKN ⊢
          clear hT
          go_wp2_with fail
          refine (see_any l (some ad) c F i w.heap.size bs b _ T (h.below HKN.out.below) hn hby HLT.out HKN.out.bytes HKN.out.mp HKN.out.seen (fun k hk => HKN.out.seenNew hk) (fun e => e.1.2.2.2.2.1 rfl)).mono ?_
          rintro e w3 ⟨⟨v, rfl⟩, hS3, hC3⟩
          have HK3 := Lib.hid (HKN.out.see hS3 hC3)
          clear HKN hS3 hC3
          go_wp2
          go_roundw
          case rel => exact ⟨i + 1, f', xs, qs, vo, _, HLT.out, HIF.out, by go_num, HP1.out, HEp, HK3⟩
          case measure => have := HLT.out; simp [intOf]; omega

    · have hxl : xs.length ≤ 2 * l.length := by
        have h3 := congrArg List.length HE.out
        have := packOf_len l
        rw [List.length_append] at h3
        omega
      have hps : ps.length ≤ i := HPS.out
      have HEf := Lib.hid (show xs ++ plainB ps = packOf l by rw [← HE.out, packR_end (by omega)])
      obtain ⟨zb, zbf⟩ := (show HoldI wo w.heap.size (.slice A l.length c) from HKW.out.bytes).one
      obtain ⟨Ap, cp, rfl, _, _⟩ := HKW.out.rowP.slice_
      clear HE
      go_wp2_with fail
      refine (flush_any wo bp bo Ap cp vo ps xs _ _ HKW.out.plain HKW.out.out (fun e => HKW.out.ok.2.2.2.2.2.1 e.symm) HKW.out.rowP HKW.out.rowO (fun k hk => ⟨hk.1.2.2.2.1, hk.1.2.2.1, hk.2⟩) (fun k hk => ⟨hk.2.2.2.1, hk.2.2.1⟩) (fun k hk => HKW.out.outNew hk) (by omega) (by omega)).mono ?_
      rintro e w3 ⟨⟨v, rfl⟩, vo', vp', f1, f2, f3, f4, f5, f6, f7⟩
      have HK3 := Lib.hid (HKW.out.flush f1 f2 f3 f4 f5 f6 f7)
      rw [HEf.out] at HK3
      clear f1 f2 f3 f4 f5 f6 f7 HKW hps hxl
      obtain ⟨A3, c3, rfl, _, _⟩ := HK3.out.rowO.slice_
      obtain ⟨zo, zof⟩ := (show HoldI w3 bo (.slice A3 (packOf l).length c3) from HK3.out.out).one
      have HR := Lib.hid (AppP.mono HK3.out.rowO (P' := fun k => w.heap.size ≤ k) (fun k _ hk => hk.1.1))
      go_wp2
      go_ret
      exact ⟨_, rfl, HR.out, HK3.out.below⟩
end Go.Proofs.YtgnjnpfeofhniaaDoor
