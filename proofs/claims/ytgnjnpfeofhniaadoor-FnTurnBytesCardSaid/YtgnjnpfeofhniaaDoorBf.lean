/- errors.As at a target of the program's own error type: a nil error, and an error of that type. The lines are a worked proof's, turned to this program. BatchFrom of the program. -/
import Derived.Test.YtgnjnpfeofhniaaDoorGa
import Derived.WalkKit
import Derived.LaidEql
import Derived.Stop.Asserts
import Derived.RowKitTokens
import Derived.Test.YtgnjnpfeofhniaaDoorBi
namespace Go.Proofs.YtgnjnpfeofhniaaDoor
set_option linter.unusedVariables false
set_option linter.unusedSimpArgs false
section
open Go.RowKit Go.Extern.Stop Go.Stop Go.Extern

/-- errors.As(nil, target). -/
theorem as_nil (t : Value) (w : World) :
    Calls Tryd.prog 23 #[.nilIface, t] w fun e w' => e = .returned (.bool false) ∧ w' = w := by
  go_enter Tryd.func23, Tryd.ntmps23
  go_wp2
  go_ret
  exact ⟨rfl, rfl⟩

/-! ### CLOSED FACTS ON THE MODEL's ENTRIES FOR internal/reflectlite, at this program's types: 25: *p.E · 27: **p.E · 23: error · 45: reflectlite's rtype · 1: how many package-level variables the dump has -/
theorem as_valueOf27 (t : Addr) (w : World) : (ReflectliteValue.unpack (.iface 59 (.pointer (some t)))).run Tryd.prog w
    = .ok (.agg #[.pointer (some ⟨1, 59, none⟩), .pointer (some ⟨w.heap.size, 0, none⟩), .int .u64 150]) (w.alloc (.cells #[.pointer (some t)] 59)) := by kernel_rfl
theorem as_type27 (a : Addr) (w : World) : (ReflectliteValue.methodAny (ReflectliteValue.valueError "reflectlite.Value.Type" 0) (fun t _ _ _ => ReflectliteType.toType t) #[.agg #[.pointer (some ⟨1, 59, none⟩), .pointer (some a), .int .u64 150]]).run Tryd.prog w
    = .ok (.iface 125 (.agg #[.pointer (some ⟨1, 59, none⟩)])) w := by kernel_rfl
theorem as_methodKind (h : Value) (w : World) : (Go.method 272 125 (.agg #[h]) "Kind").run Tryd.prog w = .ok (88, h) w := by kernel_rfl
theorem as_kind27 (w : World) : ((ReflectliteType.abiMethod fun t => (fun a : Nat => Value.int IntKind.u8 (a : Int)) <$> Rtype.kind t) #[.pointer (some ⟨1, 59, none⟩)]).run Tryd.prog w = .ok (.int .u8 22) w := by kernel_rfl
theorem as_kind25 (w : World) : ((ReflectliteType.abiMethod fun t => (fun a : Nat => Value.int IntKind.u8 (a : Int)) <$> Rtype.kind t) #[.pointer (some ⟨1, 57, none⟩)]).run Tryd.prog w = .ok (.int .u8 22) w := by /- 23 -/ kernel_rfl

/-! ### THE ENTRIES THAT READ OR WRITE MEMORY: laws with a premise on the cell (after Derived/Lib/ReflectliteSlice.lean's manner: each unfolding a lemma of its own, by rfl) -/
theorem rlm1 (z : Sem Value) (f : TypeId → Addr → Nat → Nat → Sem Value) (v : Value) :
    ReflectliteValue.method z f #[v] = (do match ← ReflectliteValue.parts v with | none => z | some (t, a, fl) => f t a fl (fl % 32)) := rfl
theorem as_parts27 (a : Addr) (w : World) : (ReflectliteValue.parts (.agg #[.pointer (some ⟨1, 59, none⟩), .pointer (some a), .int .u64 150])).run Tryd.prog w = .ok (some (59, a, 150)) w := by kernel_rfl
/-- (Value).IsNil at the Value of a **p.E that is not nil. -/
theorem as_isNil27 (a p : Addr) (W : World) (ha : W.cell? a = some (.pointer (some p))) :
    (ReflectliteValue.method (ReflectliteValue.valueError "reflectlite.Value.IsNil" 0) ReflectliteValue.isNil #[.agg #[.pointer (some ⟨1, 59, none⟩), .pointer (some a), .int .u64 150]]).run Tryd.prog W = .ok (.bool false) W := by
  rw [rlm1]
  simp only [Sem.run_bind, as_parts27, Result.andThen]
  simp [ReflectliteValue.isNil, loadVar, isAgg, underlying, Tryd.underlying59, ha, Result.andThen]

theorem as_methodElem (h : Value) (w : World) : (Go.method 272 125 (.agg #[h]) "Elem").run Tryd.prog w = .ok (101, .agg #[h]) w := by kernel_rfl
theorem as_methodImplements (h : Value) (w : World) : (Go.method 272 125 (.agg #[h]) "Implements").run Tryd.prog w = .ok (102, .agg #[h]) w := by kernel_rfl
theorem as_methodAssignableTo (h : Value) (w : World) : (Go.method 272 125 (.agg #[h]) "AssignableTo").run Tryd.prog w = .ok (99, .agg #[h]) w := by kernel_rfl
theorem as_elem27 (w : World) : (ReflectliteType.method ReflectliteType.elem #[.agg #[.pointer (some ⟨1, 59, none⟩)]]).run Tryd.prog w = .ok (.iface 125 (.agg #[.pointer (some ⟨1, 57, none⟩)])) w := by kernel_rfl
theorem as_implements25 (w : World) : (ReflectliteType.relation "Implements" ReflectliteType.implements_ #[.agg #[.pointer (some ⟨1, 57, none⟩)], .iface 125 (.agg #[.pointer (some ⟨1, 54, none⟩)])]).run Tryd.prog w = .ok (.bool true) w := by kernel_rfl
theorem as_typeOf25 (v : Value) (w : World) : (ReflectliteType.typeOf #[.iface 57 v]).run Tryd.prog w = .ok (.iface 125 (.agg #[.pointer (some ⟨1, 57, none⟩)])) w := by kernel_rfl
theorem as_assignable25 (w : World) : (ReflectliteType.relation "AssignableTo" ReflectliteType.assignableTo #[.agg #[.pointer (some ⟨1, 57, none⟩)], .iface 125 (.agg #[.pointer (some ⟨1, 57, none⟩)])]).run Tryd.prog w = .ok (.bool true) w := by kernel_rfl
theorem as_valueOf25 (e : Addr) (w : World) : (ReflectliteValue.unpack (.iface 57 (.pointer (some e)))).run Tryd.prog w
    = .ok (.agg #[.pointer (some ⟨1, 57, none⟩), .pointer (some ⟨w.heap.size, 0, none⟩), .int .u64 150]) (w.alloc (.cells #[.pointer (some e)] 57)) := by /- 23 -/ kernel_rfl

theorem as_elemOf27 (w : World) : (Rtype.elem? 59).run Tryd.prog w = .ok (some 57) w := by kernel_rfl
theorem as_mk25 (p : Addr) (w : World) : (ReflectliteValue.mk 57 p ReflectliteValue.flagAddr).run Tryd.prog w = .ok (.agg #[.pointer (some ⟨1, 57, none⟩), .pointer (some p), .int .u64 406]) w := by /- 23 -/ kernel_rfl
/-- (Value).Elem at the Value of a **p.E that is not nil: the Value of the *p.E variable that it points to, addressable. -/
theorem as_elemV27 (a p : Addr) (W : World) (ha : W.cell? a = some (.pointer (some p))) :
    (ReflectliteValue.method (ReflectliteValue.valueError "reflectlite.Value.Elem" 0) ReflectliteValue.elem #[.agg #[.pointer (some ⟨1, 59, none⟩), .pointer (some a), .int .u64 150]]).run Tryd.prog W
      = .ok (.agg #[.pointer (some ⟨1, 57, none⟩), .pointer (some p), .int .u64 406]) W := by
  rw [rlm1]
  simp only [Sem.run_bind, as_parts27, Result.andThen]
  simp [ReflectliteValue.elem, loadVar, isAgg, underlying, Tryd.underlying59, ha, Result.andThen, as_elemOf27, as_mk25]
theorem rls1 (v x : Value) : ReflectliteValue.set #[v, x] = (do
    let (some (dst, a, fl), some (src, b, _)) := (← ReflectliteValue.parts v, ← ReflectliteValue.parts x)
      | unsupported (.noEntry "extern/(internal/reflectlite.Value).Set.zeroValue")
    if fl / ReflectliteValue.flagAddr % 2 == 0 then unsupported (.noEntry "extern/(internal/reflectlite.Value).Set.unaddressable")
    let val ← loadVar src b
    if ← Rtype.directlyAssignable dst src then storeVar dst a val
    else if ← Rtype.implements dst src then
      if (← Rtype.kind src) == 20 then
        match val with
        | .nilIface => unsupported (.noEntry "extern/reflectlite: a nil value of one interface type handed on as a value of another")
        | _ => storeVar dst a val
      else storeVar dst a (.iface src val)
    else panicString ("reflectlite.Set: value of type " ++ (← Rtype.spelt src) ++ " is not assignable to type " ++ (← Rtype.spelt dst))
    pure (.tuple #[])) := rfl
theorem as_parts25a (a : Addr) (w : World) : (ReflectliteValue.parts (.agg #[.pointer (some ⟨1, 57, none⟩), .pointer (some a), .int .u64 406])).run Tryd.prog w = .ok (some (57, a, 406)) w := by /- 23 -/ kernel_rfl
theorem as_parts25 (a : Addr) (w : World) : (ReflectliteValue.parts (.agg #[.pointer (some ⟨1, 57, none⟩), .pointer (some a), .int .u64 150])).run Tryd.prog w = .ok (some (57, a, 150)) w := by /- 23 -/ kernel_rfl
theorem as_direct25 (w : World) : (Rtype.directlyAssignable 57 57).run Tryd.prog w = .ok true w := by kernel_rfl
theorem as_size25 (w : World) : (sizeOf 57).run Tryd.prog w = .ok 1 w := by kernel_rfl
/-- (Value).Set: the *p.E variable at 'ta' gets what the Value's own variable 'b' holds. -/
theorem as_set25 (ta b e : Addr) (old : Value) (W : World) (hb : W.cell? b = some (.pointer (some e))) (ht : W.cell? ta = some old) (hf : W.frozen? ta = false) :
    (ReflectliteValue.set #[.agg #[.pointer (some ⟨1, 57, none⟩), .pointer (some ta), .int .u64 406], .agg #[.pointer (some ⟨1, 57, none⟩), .pointer (some b), .int .u64 150]]).run Tryd.prog W
      = .ok (.tuple #[]) (W.setCell ta (.pointer (some e))) := by
  rw [rls1]
  simp only [Sem.run_bind, as_parts25a, as_parts25, Result.andThen]
  simp [ReflectliteValue.flagAddr, loadVar, isAgg, underlying, Tryd.underlying57, hb, Result.andThen, as_direct25, storeVar, Value.cells, storeCells, Addr.add]
  rw [run_store Tryd.prog W ta _ _ (by rfl)]
  simp [ht, hf]

set_option maxHeartbeats 4000000 in
theorem as_hit (e t : Addr) (old : Value) (w : World) (hg : w.cell? ⟨0, 0, none⟩ = some (.iface 125 (.agg #[.pointer (some ⟨1, 54, none⟩)]))) (ht0 : w.cell? t = some old) (hf0 : w.frozen? t = false) :
    Calls Tryd.prog 23 #[.iface 57 (.pointer (some e)), .iface 59 (.pointer (some t))] w fun ev w' => ev = .returned (.bool true) ∧ w' = ((((w.alloc (.cells #[.pointer (some t)] 59)).alloc (.cells #[.pointer (some ⟨1, 59, none⟩), .pointer (some ⟨w.heap.size, 0, none⟩), .int .u64 150] 91)).alloc (.cells #[.pointer (some ⟨1, 59, none⟩), .pointer (some ⟨w.heap.size, 0, none⟩), .int .u64 150] 91)).alloc (.cells #[.pointer (some e)] 57)).setCell t (.pointer (some e)) := by
  have h6 := @run_callFunc_extern Tryd.prog 46 _ (fun args => ReflectliteValue.unpack (args.getD 0 (.tuple #[]))) Tryd.func46 (by kernel_rfl) (by kernel_rfl) (by kernel_rfl) (by kernel_rfl)
  have h7 := @run_callFunc_extern Tryd.prog 47 _ (ReflectliteValue.methodAny (ReflectliteValue.valueError "reflectlite.Value.Type" 0) (fun t _ _ _ => ReflectliteType.toType t)) Tryd.func47 (by kernel_rfl) (by kernel_rfl) (by kernel_rfl) (by kernel_rfl)
  have h8 := @run_callFunc_extern Tryd.prog 48 _ (ReflectliteValue.method (ReflectliteValue.valueError "reflectlite.Value.IsNil" 0) ReflectliteValue.isNil) Tryd.func48 (by kernel_rfl) (by kernel_rfl) (by kernel_rfl) (by kernel_rfl)
  have h27 := @run_callFunc_extern Tryd.prog 88 _ (ReflectliteType.abiMethod fun t => do pure (.int .u8 (← Rtype.kind t))) Tryd.func88 (by kernel_rfl) (by kernel_rfl) (by kernel_rfl) (by kernel_rfl)
  have h37 := @run_callFunc_extern Tryd.prog 101 _ (ReflectliteType.method ReflectliteType.elem) Tryd.func101 (by kernel_rfl) (by kernel_rfl) (by kernel_rfl) (by kernel_rfl)
  have h38 := @run_callFunc_extern Tryd.prog 102 _ (ReflectliteType.relation "Implements" ReflectliteType.implements_) Tryd.func102 (by kernel_rfl) (by kernel_rfl) (by kernel_rfl) (by kernel_rfl)
  have h10 := @run_callFunc_extern Tryd.prog 63 _ ReflectliteType.typeOf Tryd.func63 (by kernel_rfl) (by kernel_rfl) (by kernel_rfl) (by kernel_rfl)
  have h35 := @run_callFunc_extern Tryd.prog 99 _ (ReflectliteType.relation "AssignableTo" ReflectliteType.assignableTo) Tryd.func99 (by kernel_rfl) (by kernel_rfl) (by kernel_rfl) (by kernel_rfl)
  have h11 := @run_callFunc_extern Tryd.prog 64 _ (ReflectliteValue.method (ReflectliteValue.valueError "reflectlite.Value.Elem" 0) ReflectliteValue.elem) Tryd.func64 (by kernel_rfl) (by kernel_rfl) (by kernel_rfl) (by kernel_rfl)
  have h12 := @run_callFunc_extern Tryd.prog 65 _ ReflectliteValue.set Tryd.func65 (by kernel_rfl) (by kernel_rfl) (by kernel_rfl) (by kernel_rfl)
  have tO := as_typeOf25
  have mA := as_methodAssignableTo
  have a25 := as_assignable25
  have v25 := as_valueOf25
  have f6 := as_valueOf27
  have f7 := as_type27
  have mK := as_methodKind
  have mE := as_methodElem
  have mI := as_methodImplements
  have k27 := as_kind27
  have k25 := as_kind25
  have e27 := as_elem27
  have i25 := as_implements25
  have n8 := as_isNil27 ⟨w.heap.size, 0, none⟩ t ((w.alloc (.cells #[.pointer (some t)] 59)).alloc (.cells #[.pointer (some ⟨1, 59, none⟩), .pointer (some ⟨w.heap.size, 0, none⟩), .int .u64 150] 91)) (by simp)
  have hlt : 0 < w.heap.size := by
    rcases Nat.eq_zero_or_pos w.heap.size with h0 | h
    · simp [World.cell?, h0] at hg
    · exact h
  have hg2 : ((w.alloc (.cells #[.pointer (some t)] 59)).alloc (.cells #[.pointer (some ⟨1, 59, none⟩), .pointer (some ⟨w.heap.size, 0, none⟩), .int .u64 150] 91)).cell? ⟨0, 0, none⟩ = some (.iface 125 (.agg #[.pointer (some ⟨1, 54, none⟩)])) := by
    rw [World.cell?_alloc_lt _ _ ⟨0, 0, none⟩ (by simp), World.cell?_alloc_lt _ _ ⟨0, 0, none⟩ hlt]; exact hg
  have htl : t.block < w.heap.size := by
    rcases Nat.lt_or_ge t.block w.heap.size with h | h
    · exact h
    · simp [World.cell?, Array.getElem?_eq_none h] at ht0
  have el := as_elemV27 ⟨w.heap.size, 0, none⟩ t (((w.alloc (.cells #[.pointer (some t)] 59)).alloc (.cells #[.pointer (some ⟨1, 59, none⟩), .pointer (some ⟨w.heap.size, 0, none⟩), .int .u64 150] 91)).alloc (.cells #[.pointer (some ⟨1, 59, none⟩), .pointer (some ⟨w.heap.size, 0, none⟩), .int .u64 150] 91)) (by rw [World.cell?_alloc_lt _ _ ⟨w.heap.size, 0, none⟩ (by simp; omega)]; simp)
  have st := as_set25 t ⟨w.heap.size + 1 + 1 + 1, 0, none⟩ e old ((((w.alloc (.cells #[.pointer (some t)] 59)).alloc (.cells #[.pointer (some ⟨1, 59, none⟩), .pointer (some ⟨w.heap.size, 0, none⟩), .int .u64 150] 91)).alloc (.cells #[.pointer (some ⟨1, 59, none⟩), .pointer (some ⟨w.heap.size, 0, none⟩), .int .u64 150] 91)).alloc (.cells #[.pointer (some e)] 57))
    (by rw [World.cell?_alloc_at _ _ _ _ (by simp)]; rfl)
    (by rw [World.cell?_alloc_lt _ _ t (by simp; omega), World.cell?_alloc_lt _ _ t (by simp; omega), World.cell?_alloc_lt _ _ t (by simp; omega), World.cell?_alloc_lt _ _ t htl]; exact ht0)
    (by rw [World.frozen?_alloc_old _ _ t (by simp; omega), World.frozen?_alloc_old _ _ t (by simp; omega), World.frozen?_alloc_old _ _ t (by simp; omega), World.frozen?_alloc_old _ _ t (Nat.ne_of_lt htl)]; exact hf0)
  go_enter Tryd.func23, Tryd.ntmps23
  go_wp2
  refine wp_loop_rounds 1 ?_
  rw [rounds_succ]
  go_wp2
  go_ret
  exact ⟨rfl, rfl⟩

/-- The error is found; nothing that was there turns but the target. -/
theorem as_yes (e t : Addr) (old : Value) (w : World) (hg : w.cell? ⟨0, 0, none⟩ = some (.iface 125 (.agg #[.pointer (some ⟨1, 54, none⟩)]))) (ht0 : w.cell? t = some old) (hf0 : w.frozen? t = false) :
    Calls Tryd.prog 23 #[.iface 57 (.pointer (some e)), .iface 59 (.pointer (some t))] w fun ev w' => ev = .returned (.bool true) ∧ Chg (fun b => b = t.block) w w' :=
  (as_hit e t old w hg ht0 hf0).mono fun ev w' ⟨he, hw⟩ => ⟨he, by
    subst hw
    exact (((((Chg.refl (fun b => b = t.block) w).alloc _).alloc _).alloc _).alloc _).trans (Chg.set (fun b => b = t.block) _ (p := t) rfl _)⟩
end

section
open Go.RowKit

/-- The variable that errors.As reads. -/
def LaidC (w : World) : Prop := w.cell? ⟨0, 0, none⟩ = some (.iface 125 (.agg #[.pointer (some ⟨1, 54, none⟩)]))
theorem LaidC.below {w w' : World} (h : LaidC w) (hb : Below w.heap.size w w') : LaidC w' := below_cell hb h
theorem oneb {w : World} {g : Nat} {t : TypeId} {v0 : Value} (h : w.heap[g]? = some (.cells #[v0] t (0, 0))) : w.cell? ⟨g, 0, none⟩ = some v0 ∧ ∀ i, w.frozen? ⟨g, i, none⟩ = false := by
  refine ⟨?_, fun i => ?_⟩ <;> simp [World.cell?, World.frozen?, h]
set_option maxRecDepth 20000 in
set_option maxHeartbeats 1000000 in
theorem BatchFrom_bytes (l : List Int) (A : Option Addr) (c : Nat) (F : Nat → Prop) (i : Int) (w : World) (h : Ints w F A c l) (hb : bytesB l = false) :
    Calls Tryd.prog 9 #[.slice A l.length c, .int .i64 i] w fun e w' => e = .returned (.tuple #[BZ, .int .i64 0, .bool false]) ∧ Below w.heap.size w w' := by
  have HBY := Lib.hid hb
  clear hb
  go_enter Tryd.func9, Tryd.ntmps9
  go_wp2_with fail
  refine (allBytes_any l A c F _ (h.below (bal _ _))).mono ?_
  rintro e w' ⟨rfl, rfl⟩
  rw [HBY.out]
  go_wp2
  refine bodyPost_ret (v := .tuple #[BZ, .int .i64 0, .bool false]) (by simp [results, Tryd.results9, go_sem]) rfl ⟨rfl, ?_⟩
  exact bal _ _
set_option maxRecDepth 20000 in
set_option maxHeartbeats 1000000 in
theorem BatchFrom_none (l : List Int) (A : Option Addr) (c : Nat) (F : Nat → Prop) (i : Int) (w : World) (hg : LaidC w) (h : Ints w F A c l) (hb : bytesB l = true) (hn : l.length ≤ 4194304) (hr : rdAtI l i = none) :
    Calls Tryd.prog 9 #[.slice A l.length c, .int .i64 i] w fun e w' => e = .returned (.tuple #[BZ, .int .i64 0, .bool false]) ∧ Below w.heap.size w w' := by
  have HBY := Lib.hid hb
  have HR := Lib.hid hr
  have HG := Lib.hid hg
  clear hb hr hg
  go_enter Tryd.func9, Tryd.ntmps9
  go_wp2_with fail
  generalize hW : World.alloc _ _ = W0
  obtain ⟨hA0, b0, hz0⟩ := alloc1 hW
  clear hW
  refine (allBytes_any l A c F _ (h.below b0)).mono ?_
  rintro e w' ⟨rfl, rfl⟩
  rw [HBY.out]
  go_wp2_with fail
  refine (batchAt_none l A c F i _ (h.below b0) HBY.out hn HR.out).mono ?_
  rintro e w2 ⟨⟨v, rfl, g, rfl⟩, hb2⟩
  have hA2 := blk_below hA0 hb2
  have b2 := bthen b0 hb2
  have hlt2 := blk_lt hA2
  clear hA0 hz0 hb2 b0
  go_wp2_with fail
  generalize hW : World.alloc _ _ = W3
  obtain ⟨hB3, hN3, b3, hz3⟩ := alloc2 hW
  clear hW
  have hA3 := blk_below hA2 b3
  have HB3 := Lib.hid (bthen b2 b3)
  have HG3 := Lib.hid (HG.out.below HB3.out)
  obtain ⟨t0, tf⟩ := oneb hN3
  clear hA2 b2 b3 hB3 hN3 hz3
  refine (as_yes ⟨g, 0, none⟩ ⟨w2.heap.size + 1, 0, none⟩ _ _ HG3.out t0 (tf 0)).mono ?_
  rintro e w4 ⟨rfl, c4⟩
  have hA4 := c4.blk hA3 (by show ¬ w.heap.size = w2.heap.size + 1; omega)
  have HB4 := Lib.hid (HB3.out.trans (c4.below HB3.out.size (fun i (hi : i = w2.heap.size + 1) => by omega)))
  clear c4 hA3 t0 tf
  obtain ⟨x0, x1, x2, x3, x4, x5, xf⟩ := six hA4
  go_wp2
  refine bodyPost_ret (v := .tuple #[BZ, .int .i64 0, .bool false]) (by simp [results, Tryd.results9, go_sem, x0, x1, x2, x3, x4, x5]) rfl ⟨rfl, ?_⟩
  exact HB4.out.trans (zeroB.below HB4.out.size (fun i hi => by omega))
set_option maxRecDepth 20000 in
set_option maxHeartbeats 1000000 in
theorem BatchFrom_some (l : List Int) (A : Option Addr) (c : Nat) (F : Nat → Prop) (p : Nat) (w : World) (h : Ints w F A c l) (hb : bytesB l = true) (hn : l.length ≤ 4194304) {b : Bat} (hr : rdBat l p = some b) :
    Calls Tryd.prog 9 #[.slice A l.length c, .int .i64 (p : Int)] w fun e w' => ∃ A' c', e = .returned (.tuple #[BV b A' c', .int .i64 ((p + (batBytes b).length : Nat) : Int), .bool true]) ∧ XRecs 3 46 w' (fun g => w.heap.size ≤ g) A' c' b.recs ∧ Below w.heap.size w w' := by
  have HBY := Lib.hid hb
  have HR := Lib.hid hr
  clear hb hr
  go_enter Tryd.func9, Tryd.ntmps9
  go_wp2_with fail
  generalize hW : World.alloc _ _ = W0
  obtain ⟨hA0, b0, hz0⟩ := alloc1 hW
  clear hW
  refine (allBytes_any l A c F _ (h.below b0)).mono ?_
  rintro e w' ⟨rfl, rfl⟩
  rw [HBY.out]
  go_wp2_with fail
  refine (batchAt_some l A c F p _ (h.below b0) HBY.out hn HR.out).mono ?_
  rintro e w2 ⟨A', c', rfl, HX, hb2⟩
  obtain ⟨n, hn0⟩ : ∃ n, n = p + (batBytes b).length := ⟨_, rfl⟩
  rw [← hn0]
  have HN0 := Lib.hid hn0
  clear hn0
  have hA2 := blk_below hA0 hb2
  have b2 := bthen b0 hb2
  have hlt2 := blk_lt hA2
  have HX2 := Lib.hid HX.bound
  have hz2 := hb2.size
  clear hA0 hb2 b0 HX
  go_wp2_with fail
  generalize hW : World.alloc _ _ = W3
  obtain ⟨hB3, hN3, b3, hz3⟩ := alloc2 hW
  clear hW
  have hA3 := blk_below hA2 b3
  have HB3 := Lib.hid (bthen b2 b3)
  have HX3 := Lib.hid (HX2.out.below b3)
  clear hA2 b2 b3 hN3 hz3
  refine (as_nil _ _).mono ?_
  rintro e w4 ⟨rfl, rfl⟩
  obtain ⟨x0, x1, x2, x3, x4, x5, xf⟩ := six hA3
  obtain ⟨u0, u1, u2, u3, u4, u5, uf⟩ := six hB3
  go_wp2
  have cZ := Chg.setCells (fun b => b = w.heap.size) (g := w.heap.size) rfl [.bool b.packed, .bool b.mark, .int .i64 b.prod, .int .i64 b.epoch, .int .i64 b.seq, .slice A' b.recs.length c'] 0 w4
  refine bodyPost_ret (v := .tuple #[BV b A' c', .int .i64 (n : Int), .bool true]) (by simp [results, Tryd.results9, go_sem, x0, x1, x2, x3, x4, x5]) rfl ⟨A', c', by rw [HN0.out], ?_, ?_⟩
  · exact (HX3.out.keep (cZ.same (fun i _ h1 h2 => by have := h1.1; omega)) cZ.size).mono (fun i hi => by have := hi.1; omega)
  · exact HB3.out.trans (cZ.below HB3.out.size (fun i hi => by omega))
end
end Go.Proofs.YtgnjnpfeofhniaaDoor
