/- IndexFind of the reference. -/
import Derived.Test.YtfielhfifeggiaaI5
import Derived.Laws.StructEq
namespace Go.Proofs.Ytfielhfifeggiaa
open Go.RowKit

theorem run_eql_ent (a b c d : Int) (w : World) : (binOp .eql 35 (.agg #[.int .i64 a, .int .i64 b]) (.agg #[.int .i64 c, .int .i64 d])).run Try.prog w = .ok (.bool ((a == c) && (b == d))) w := by
  have h1 := run_eql_struct (P := Try.prog) w 35 #[.int .i64 a, .int .i64 b] #[.int .i64 c, .int .i64 d]
  rw [h1]
  cases h : (a == c) <;> cases h2 : (b == d) <;> simp [go_sem, h, h2, Try.underlying35, Try.underlying3]
theorem ent_eq (a b : Ent) : decide (a = b) = ((a.off == b.off) && (a.place == b.place)) := by
  obtain ⟨a0, a1⟩ := a
  obtain ⟨b0, b1⟩ := b
  rw [Bool.eq_iff_iff]
  simp
theorem IndexFindS_any (es : List Ent) (A : Option Addr) (c : Nat) (F : Nat → Prop) (o : Int) (w : World) (h : Ents w F A c es) :
    Calls Try.prog 16 #[.slice A es.length c, .int .i64 o] w fun e w' => e = .returned (.tuple #[.agg #[.int .i64 (entOr (findI es o)).off, .int .i64 (entOr (findI es o)).place], .bool (findI es o).isSome]) ∧ Below w.heap.size w w' := by
  cases hv : entsB es
  · have e1 : findI es o = none := by unfold findI; rw [hv]; rfl
    have HV := Lib.hid hv
    rw [e1]
    clear hv e1
    go_enter Try.func16, Try.ntmps16
    go_wp2_with fail
    generalize hW : World.alloc _ _ = W
    obtain ⟨hres, b1, hsW⟩ := alloc1 hW
    clear hW
    refine (IndexValidS_any es A c _ _ (h.below b1)).mono ?_
    rintro e w2 ⟨rfl, hb2⟩
    rw [HV.out]
    obtain ⟨z0, z1, zf⟩ := two2 (blk_below hres hb2)
    have HB := Lib.hid (bthen b1 hb2)
    clear hres hb2 b1
    go_wp2
    refine bodyPost_ret (v := .tuple #[.agg #[.int .i64 0, .int .i64 0], .bool false]) (by simp [results, Try.results16, go_sem, z0, z1]) rfl ⟨rfl, ?_⟩
    exact (HB.out.setCell (p := ⟨w.heap.size, 0, none⟩) (Nat.le_refl _) _).setCell (p := ⟨w.heap.size, 1, none⟩) (Nat.le_refl _) _
  · have e1 : findI es o = findE es o := by unfold findI; rw [hv]; rfl
    have HV := Lib.hid hv
    rw [e1]
    clear hv e1
    go_enter Try.func16, Try.ntmps16
    go_wp2_with fail
    generalize hW : World.alloc _ _ = W
    obtain ⟨hres, b1, hsW⟩ := alloc1 hW
    clear hW
    refine (IndexValidS_any es A c _ _ (h.below b1)).mono ?_
    rintro e w2 ⟨rfl, hb2⟩
    rw [HV.out]
    go_wp2_with fail
    refine (l13Find_any es A c _ _ _ (h.below (bthen b1 hb2))).mono ?_
    rintro e w4 ⟨rfl, hb4⟩
    obtain ⟨z0, z1, zf⟩ := two2 (blk_below (blk_below hres hb2) hb4)
    have HB := Lib.hid (bthen (bthen b1 hb2) hb4)
    obtain ⟨r, hr⟩ : ∃ r, r = findE es o := ⟨_, rfl⟩
    rw [← hr]
    have HR := Lib.hid hr
    clear hr hres hb2 hb4 b1 h
    go_wp2
    refine bodyPost_ret (v := .tuple #[.agg #[.int .i64 (entOr r).off, .int .i64 (entOr r).place], .bool r.isSome]) (by simp [results, Try.results16, go_sem, z0, z1]) rfl ⟨by rw [HR.out], ?_⟩
    exact (HB.out.setCell (p := ⟨w.heap.size, 0, none⟩) (Nat.le_refl _) _).setCell (p := ⟨w.heap.size, 1, none⟩) (Nat.le_refl _) _
end Go.Proofs.Ytfielhfifeggiaa
