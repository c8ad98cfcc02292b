/- Copies of numbers; what a copied record is. -/
import Derived.Test.YtfflhenldegmmaaA3
namespace Go.Proofs.Ytfflhenldegmmaa
set_option linter.unusedVariables false
set_option linter.unusedSimpArgs false
open Go.RowKit

theorem eqNilInts (W : World) (a : Option Addr) (n c n' c' : Nat) : (binOp .eql 23 (.slice a n c) (.slice none n' c')).run Try.prog W = .ok (.bool a.isNone) W := Lib.run_eql_slice_nil W _ _ a n c n' c' Try.underlying23
theorem Clone_any (xs : List Int) (A : Option Addr) (c : Nat) (F : Nat → Prop) (w : World) (h : Ints w F A c xs) (hsm : xs.length ≤ 1048576) :
    Calls Try.prog 99 #[.slice A xs.length c] w fun e w' => ∃ v, e = .returned v ∧ App (Kind.int .i64) 3 w' w.heap.size v xs ∧ Below w.heap.size w w' := by
  have hq := eqNilInts
  cases A with
  | none =>
    have hnil : xs = [] := Classical.byContradiction fun hx => by
      obtain ⟨ad, e, _⟩ := h.2.2 hx
      cases e
    subst hnil
    go_enter Try.func99, Try.ntmps99
    go_wp2
    go_ret
    exact ⟨_, rfl, AppP.nil _ _ _ _, Below.refl _ _⟩
  | some ad =>
    go_enter Try.func99, Try.ntmps99
    have hL := App.lit (Kind.int .i64) 3 w w.heap.size (Nat.le_refl _)
    have hh := h.below (bal w (.cells #[] 3))
    go_wp2_with (at_builtin; go_loud (refine wpList_appF (Kind.int .i64) (xs := []) (ys := xs) hL rfl _ _ 23 (.int .i64 0) 8 rfl Try.underlying23 (by kernel_rfl) rfl (bnd_int _) (onec_int _) (flat_int _) rfl rfl rfl hh (fun b hb => by simp at hb; omega) (by simp; omega) (by simp; omega) ?_))
    intro v1 w1 HA hc1 ho1
    have HA1 := Lib.hid HA
    have HB := Lib.hid ((bal w (.cells #[] 3)).trans (hc1.below (by simp) (fun i hi => own_lit _ hi)))
    clear HA hc1 ho1 hL hh
    go_wp2
    go_ret
    exact ⟨v1, rfl, by have := HA1.out; simpa using this, HB.out⟩

/-- A record's copy: its parts are its own, and apart. -/
structure Copied (w w' : World) (r : Rec) (vk vv : Value) : Prop where
  key : App (Kind.int .i64) 3 w' w.heap.size vk r.key
  val : App (Kind.int .i64) 3 w' w.heap.size vv r.val
  apart : ∀ g, vk.ownBlock = some g → vv.ownBlock ≠ some g
  below : Below w.heap.size w w'
theorem own_ge {α : Type} {d : Kind α} {e : TypeId} {w : World} {base : Nat} {v : Value} {xs : List α} (h : App d e w base v xs) : ∀ g, v.ownBlock = some g → base ≤ g := fun _ hg => AppP.ne h hg
theorem recB_small {r : Rec} (h : recB r = true) : r.key.length ≤ 12 ∧ r.val.length ≤ 12 := by
  simp only [recB, Bool.and_eq_true] at h
  have hp : ∀ (has : Bool) (l : List Int), partB has l = true → l.length ≤ 12 := by
    intro has l hl
    unfold partB at hl
    cases has
    · simp at hl; simp [hl]
    · simp at hl; exact hl.1
  exact ⟨hp _ _ h.1.2, hp _ _ h.2⟩
theorem AppP.keepOwn {α : Type} {d : Kind α} {e : TypeId} {w w' : World} {P : Nat → Prop} {v : Value} {xs : List α} (hfl : d.Flat) (h : AppP d e w P v xs) (hm : ∀ k, v.ownBlock = some k → w'.heap[k]? = w.heap[k]?) : AppP d e w' P v xs := by
  obtain ⟨F, inner, ho, hP, hF, hE⟩ := h
  refine ⟨fun _ => False, inner, own_moved ho hm, hP, fun b hb => hb.elim, fun j x hj => ?_⟩
  obtain ⟨cs, hK, hc⟩ := hE j x hj
  exact ⟨cs, d.keep (w := w) (w' := w') (F := fun _ => False) (fun b hb _ => hb.elim) (hfl _ _ _ _ _ hK), hc⟩
/-- The block of an own row holds cells. -/
theorem AppP.cells {α : Type} {d : Kind α} {e : TypeId} {w : World} {P : Nat → Prop} {v : Value} {xs : List α} (h : AppP d e w P v xs) {k : Nat} (hk : v.ownBlock = some k) : ∃ cs, w.heap[k]? = some (.cells cs e (0, 0)) := by
  obtain ⟨F, inner, ho, _, _, _⟩ := h
  rcases ho.2 with ⟨rfl, _⟩ | ⟨g, cap, cur, rfl, _, hh, _⟩
  · simp [Value.ownBlock] at hk
  · simp [Value.ownBlock] at hk
    subst hk
    exact ⟨cur, hh⟩
theorem Copied.from {w w1 w' : World} {r : Rec} {vk vv : Value} (h : Copied w1 w' r vk vv) (hb : Below w.heap.size w w1) : Copied w w' r vk vv :=
  ⟨App.from h.key hb.size, App.from h.val hb.size, h.apart, bthen hb h.below⟩
theorem Copied.chg {w a b : World} {r : Rec} {vk vv : Value} {g : Nat} (h : Copied w a r vk vv) (hc : Chg (fun i => i = g) a b) (hg : w.heap.size ≤ g) (hk : vk.ownBlock ≠ some g) (hv : vv.ownBlock ≠ some g) : Copied w b r vk vv :=
  ⟨AppP.keepOwn (flat_int _) h.key (fun k hk' => hc.block k (AppP.own_lt h.key hk') (fun (e : k = g) => hk (e ▸ hk'))), AppP.keepOwn (flat_int _) h.val (fun k hk' => hc.block k (AppP.own_lt h.val hk') (fun (e : k = g) => hv (e ▸ hk'))), h.apart, h.below.trans (hc.below h.below.size (fun i (hi : i = g) => by omega))⟩
def recOr (o : Option Rec) : Rec := o.getD Rec.zero
abbrev Rec.vals (r : Rec) (vk vv : Value) : Array Value := #[.int .i64 r.off, .int .i64 r.time, .bool r.hk, vk, .bool r.hv, vv]
theorem Copied.zero {w w' : World} (h : Below w.heap.size w w') : Copied w w' Rec.zero (.slice none 0 0) (.slice none 0 0) :=
  ⟨AppP.nil _ _ _ _, AppP.nil _ _ _ _, fun _ h => by simp [Value.ownBlock] at h, h⟩
end Go.Proofs.Ytfflhenldegmmaa
