/- Plain laws of variable numbers and of records as bytes. No program in sight. -/
import Derived.Test.YtfflhenldegmmaaPl
namespace Go.Proofs.Ytfflhenldegmmaa
set_option linter.unusedVariables false
set_option linter.unusedSimpArgs false

def foldV (n : Int) : Int := if n < 0 then -2 * n - 1 else 2 * n
def unfoldV (f : Int) : Int := if f % 2 = 1 then -((f + 1) / 2) else f / 2
theorem fold_range {n : Int} (h : -1000000 ≤ n ∧ n ≤ 1000000) : 0 ≤ foldV n ∧ foldV n ≤ 2000000 := by unfold foldV; split <;> omega
theorem unfold_fold (n : Int) : unfoldV (foldV n) = n := by unfold foldV unfoldV; split <;> (split <;> omega)
theorem fold_unfold {f : Int} (h : 0 ≤ f) : foldV (unfoldV f) = f := by unfold foldV unfoldV; split <;> (split <;> omega)
theorem unfold_range {f : Int} (h0 : 0 ≤ f) (h1 : f ≤ 2000000) : -1000000 ≤ unfoldV f ∧ unfoldV f ≤ 1000000 := by unfold unfoldV; split <;> omega
/-- A folded number as bytes. -/
def vb (f : Int) : List Int := if f < 128 then [f] else if f < 16384 then [f % 128 + 128, f / 128] else [f % 128 + 128, f / 128 % 128 + 128, f / 16384]
def varB (n : Int) : List Int := vb (foldV n)
theorem vb_len (f : Int) : 1 ≤ (vb f).length ∧ (vb f).length ≤ 3 := by unfold vb; split <;> (try split) <;> simp
theorem vb_small {f : Int} (h : f < 128) : vb f = [f] := if_pos h
theorem varB_len (n : Int) : 1 ≤ (varB n).length ∧ (varB n).length ≤ 3 := vb_len _
/-- Reading on: n bytes at most, at i; f: what was read; u: the unit. -/
def rdGo (l : List Int) : Nat → Nat → Int → Int → Option (Int × Nat)
  | 0, _, _, _ => none
  | n + 1, i, f, u =>
    match l[i]? with
    | none => none
    | some b => if b < 128 then (if (u ≠ 1 ∧ b = 0) ∨ 2000000 < f + u * b then none else some (unfoldV (f + u * b), i + 1)) else rdGo l n (i + 1) (f + u * (b - 128)) (128 * u)
def rdV (l : List Int) (i : Nat) : Option (Int × Nat) := rdGo l 3 i 0 1
theorem rdGo_end (l : List Int) (n i : Nat) (f u : Int) (h : l.length ≤ i) : rdGo l n i f u = none := by
  cases n with
  | zero => rfl
  | succ n => simp [rdGo, List.getElem?_eq_none h]
theorem rdGo_last (l : List Int) (n i : Nat) (f u : Int) (h : i < l.length) (hb : l[i] < 128) : rdGo l (n + 1) i f u = if (u ≠ 1 ∧ l[i] = 0) ∨ 2000000 < f + u * l[i] then none else some (unfoldV (f + u * l[i]), i + 1) := by
  simp [rdGo, List.getElem?_eq_getElem h, hb]
theorem rdGo_more (l : List Int) (n i : Nat) (f u : Int) (h : i < l.length) (hb : ¬ l[i] < 128) : rdGo l (n + 1) i f u = rdGo l n (i + 1) (f + u * (l[i] - 128)) (128 * u) := by
  simp [rdGo, List.getElem?_eq_getElem h, hb]
theorem rdGo_bound (l : List Int) (n i : Nat) (f u : Int) {x : Int} {j : Nat} (h : rdGo l n i f u = some (x, j)) : i < j ∧ j ≤ l.length := by
  induction n generalizing i f u with
  | zero => cases h
  | succ n ih =>
    by_cases hi : i < l.length
    · by_cases hb : l[i] < 128
      · rw [rdGo_last l n i f u hi hb] at h
        split at h
        · cases h
        · injection h with h
          injection h with h1 h2
          omega
      · rw [rdGo_more l n i f u hi hb] at h
        have := ih _ _ _ h
        omega
    · rw [rdGo_end l _ i f u (by omega)] at h
      cases h
theorem rdGo_mono (l : List Int) (m n i : Nat) (f u : Int) {x : Int × Nat} (h : rdGo (l.take m) n i f u = some x) : rdGo l n i f u = some x := by
  induction n generalizing i f u with
  | zero => cases h
  | succ n ih =>
    by_cases hi : i < (l.take m).length
    · have hi' : i < l.length := by simp at hi; omega
      have he : (l.take m)[i] = l[i] := by simp
      by_cases hb : l[i] < 128
      · rw [rdGo_last _ n i f u hi (by rw [he]; exact hb), he] at h
        rw [rdGo_last l n i f u hi' hb]
        exact h
      · rw [rdGo_more _ n i f u hi (by rw [he]; exact hb), he] at h
        rw [rdGo_more l n i f u hi' hb]
        exact ih _ _ _ h
    · rw [rdGo_end _ _ i f u (by omega)] at h
      cases h
theorem rdV_bound {l : List Int} {i : Nat} {x : Int} {j : Nat} (h : rdV l i = some (x, j)) : i < j ∧ j ≤ l.length := rdGo_bound _ _ _ _ _ h
theorem rdV_mono {l : List Int} {m i : Nat} {x : Int × Nat} (h : rdV (l.take m) i = some x) : rdV l i = some x := rdGo_mono _ _ _ _ _ _ h
theorem drop_some {l : List Int} {i : Nat} {b : Int} {s : List Int} (h : l.drop i = b :: s) : ∃ hi : i < l.length, l[i] = b ∧ l.drop (i + 1) = s := by
  have hi : i < l.length := by
    apply Classical.byContradiction
    intro hn
    rw [List.drop_of_length_le (by omega)] at h
    cases h
  rw [List.drop_eq_getElem_cons hi] at h
  injection h with h1 h2
  exact ⟨hi, h1, h2⟩
theorem rdV_vb {l s : List Int} {i : Nat} {f : Int} (h : l.drop i = vb f ++ s) (h0 : 0 ≤ f) (h1 : f ≤ 2000000) : rdV l i = some (unfoldV f, i + (vb f).length) ∧ l.drop (i + (vb f).length) = s := by
  refine ⟨?_, by rw [← List.drop_drop, h, List.drop_left]⟩
  unfold rdV
  unfold vb at h ⊢
  split at h
  · rename_i c1
    obtain ⟨hi, e, _⟩ := drop_some h
    rw [rdGo_last _ _ _ _ _ hi (by rw [e]; exact c1), if_pos c1, e, if_neg (by omega)]
    simp
  · rename_i c1
    rw [if_neg c1]
    split at h
    · rename_i c2
      obtain ⟨hi, e, h'⟩ := drop_some h
      obtain ⟨hi', e', _⟩ := drop_some h'
      rw [if_pos c2, rdGo_more _ _ _ _ _ hi (by omega), rdGo_last _ _ _ _ _ hi' (by omega), e, e', if_neg (by omega)]
      simp
      congr 1
      omega
    · rename_i c2
      obtain ⟨hi, e, h'⟩ := drop_some h
      obtain ⟨hi', e', h''⟩ := drop_some h'
      obtain ⟨hi'', e'', _⟩ := drop_some h''
      rw [if_neg c2, rdGo_more _ _ _ _ _ hi (by omega), rdGo_more _ _ _ _ _ hi' (by omega), rdGo_last _ _ _ _ _ hi'' (by omega), e, e', e'', if_neg (by omega)]
      simp
      congr 1
      omega
theorem rdV_varB {l s : List Int} {i : Nat} {n : Int} (h : l.drop i = varB n ++ s) (hn : -1000000 ≤ n ∧ n ≤ 1000000) : rdV l i = some (n, i + (varB n).length) ∧ l.drop (i + (varB n).length) = s := by
  have := rdV_vb h (fold_range hn).1 (fold_range hn).2
  rwa [unfold_fold] at this
/-- What is read was written. -/
theorem rdV_inv {l : List Int} (hb : bytesB l = true) {i j : Nat} {n : Int} (h : rdV l i = some (n, j)) : (∃ s, l.drop i = varB n ++ s) ∧ j = i + (varB n).length ∧ (-1000000 ≤ n ∧ n ≤ 1000000) := by
  have hbt : ∀ k (hk : k < l.length), 0 ≤ l[k] ∧ l[k] ≤ 255 := fun k hk => by
    unfold bytesB at hb
    have := List.all_eq_true.1 hb l[k] (List.getElem_mem hk)
    simpa [byteB] using this
  have key : ∀ f, 0 ≤ f → f ≤ 2000000 → n = unfoldV f → j = i + (vb f).length → (∃ s, l.drop i = vb f ++ s) → (∃ s, l.drop i = varB n ++ s) ∧ j = i + (varB n).length ∧ (-1000000 ≤ n ∧ n ≤ 1000000) := by
    rintro f h0 h1 rfl hj hs
    unfold varB
    rw [fold_unfold h0]
    exact ⟨hs, hj, unfold_range h0 h1⟩
  unfold rdV at h
  have hi : i < l.length := Classical.byContradiction fun hn => by
    rw [rdGo_end _ _ _ _ _ (by omega)] at h; cases h
  have b0 := hbt i hi
  by_cases c0 : l[i] < 128
  · rw [rdGo_last _ _ _ _ _ hi c0] at h
    split at h
    · cases h
    · injection h with h
      injection h with h1 h2
      refine key (l[i]) (by omega) (by omega) (by rw [← h1]; congr 1; omega) (by rw [vb_small c0]; simp; omega) ⟨l.drop (i + 1), by rw [vb_small c0, List.drop_eq_getElem_cons hi]; rfl⟩
  · rw [rdGo_more _ _ _ _ _ hi c0] at h
    have hi' : i + 1 < l.length := Classical.byContradiction fun hn => by
      rw [rdGo_end _ _ _ _ _ (by omega)] at h; cases h
    have b1 := hbt (i + 1) hi'
    by_cases c1 : l[i + 1] < 128
    · rw [rdGo_last _ _ _ _ _ hi' c1] at h
      split at h
      · cases h
      · rename_i hn
        injection h with h
        injection h with h1 h2
        have e : vb (l[i] - 128 + 128 * l[i + 1]) = [l[i], l[i + 1]] := by
          unfold vb
          rw [if_neg (by omega), if_pos (by omega)]
          congr 1
          · omega
          · congr 1; omega
        refine key (l[i] - 128 + 128 * l[i + 1]) (by omega) (by omega) (by rw [← h1]; congr 1; omega) (by rw [e]; simp; omega) ⟨l.drop (i + 1 + 1), by rw [e, List.drop_eq_getElem_cons hi, List.drop_eq_getElem_cons hi']; rfl⟩
    · rw [rdGo_more _ _ _ _ _ hi' c1] at h
      have hi'' : i + 1 + 1 < l.length := Classical.byContradiction fun hn => by
        rw [rdGo_end _ _ _ _ _ (by omega)] at h; cases h
      have b2 := hbt (i + 1 + 1) hi''
      by_cases c2 : l[i + 1 + 1] < 128
      · rw [rdGo_last _ _ _ _ _ hi'' c2] at h
        split at h
        · cases h
        · rename_i hn
          injection h with h
          injection h with h1 h2
          have e : vb (l[i] - 128 + 128 * (l[i + 1] - 128) + 16384 * l[i + 1 + 1]) = [l[i], l[i + 1], l[i + 1 + 1]] := by
            unfold vb
            rw [if_neg (by omega), if_neg (by omega)]
            congr 1
            · omega
            · congr 1
              · omega
              · congr 1; omega
          refine key (l[i] - 128 + 128 * (l[i + 1] - 128) + 16384 * l[i + 1 + 1]) (by omega) (by omega) (by rw [← h1]; congr 1; omega) (by rw [e]; simp; omega) ⟨l.drop (i + 1 + 1 + 1), by rw [e, List.drop_eq_getElem_cons hi, List.drop_eq_getElem_cons hi', List.drop_eq_getElem_cons hi'']; rfl⟩
      · rw [rdGo_more _ _ _ _ _ hi'' c2] at h
        cases h

/-- A part as bytes. -/
def partP (has : Bool) (k : List Int) : List Int := if has then varB k.length ++ k else varB (-1)
def bodyB (r : Rec) (o t : Int) : List Int := varB (r.time - t) ++ varB (r.off - o) ++ partP r.hk r.key ++ partP r.hv r.val
def recBytes (r : Rec) (o t : Int) : List Int := varB (bodyB r o t).length ++ bodyB r o t
def rdPart (l : List Int) (c : Nat) : Option (Bool × List Int × Nat) :=
  match rdV l c with
  | none => none
  | some (n, d) => if n = -1 then some (false, [], d) else if 0 ≤ n ∧ d + n.toNat ≤ l.length then some (true, (l.drop d).take n.toNat, d + n.toNat) else none
/-- A record at i for a base, and the place behind it. -/
def rdRec (l : List Int) (i : Nat) (o t : Int) : Option (Rec × Nat) :=
  match rdV l i with
  | none => none
  | some (m, a) =>
    match rdV l a with
    | none => none
    | some (dt, b) =>
      match rdV l b with
      | none => none
      | some (dk, c) =>
        match rdPart l c with
        | none => none
        | some (hk, key, d) =>
          match rdPart l d with
          | none => none
          | some (hv, val, e) => if m = (e : Int) - a ∧ recB ⟨o + dk, t + dt, hk, key, hv, val⟩ = true then some (⟨o + dk, t + dt, hk, key, hv, val⟩, e) else none

theorem partB_len {has : Bool} {k : List Int} (h : partB has k = true) : k.length ≤ 12 ∧ (has = false → k = []) := by
  unfold partB at h
  cases has
  · simp at h
    subst h
    exact ⟨by simp, fun _ => rfl⟩
  · simp at h
    exact ⟨h.1, fun h => by cases h⟩
theorem partP_len {has : Bool} {k : List Int} (h : k.length ≤ 12) : (partP has k).length ≤ 15 := by
  unfold partP
  have h1 := varB_len k.length
  have h2 := varB_len (-1)
  cases has <;> simp <;> omega
theorem recB_parts {r : Rec} (h : recB r = true) : (0 ≤ r.off ∧ r.off ≤ 99999) ∧ (0 ≤ r.time ∧ r.time ≤ 99999) ∧ partB r.hk r.key = true ∧ partB r.hv r.val = true := by
  unfold recB baseB inB at h
  simp only [Bool.and_eq_true, decide_eq_true_eq] at h
  exact ⟨h.1.1.1, h.1.1.2, h.1.2, h.2⟩
theorem bodyB_len {r : Rec} {o t : Int} (h : recB r = true) : (bodyB r o t).length ≤ 36 := by
  obtain ⟨_, _, h3, h4⟩ := recB_parts h
  have h5 := partP_len (has := r.hk) (partB_len h3).1
  have h6 := partP_len (has := r.hv) (partB_len h4).1
  have h7 := varB_len (r.time - t)
  have h8 := varB_len (r.off - o)
  unfold bodyB
  simp
  omega
theorem rdPart_bound {l : List Int} {c d : Nat} {hk : Bool} {k : List Int} (h : rdPart l c = some (hk, k, d)) : c < d ∧ d ≤ l.length := by
  unfold rdPart at h
  split at h
  · cases h
  · rename_i n e hr
    have := rdV_bound hr
    split at h
    · injection h with h; injection h with h1 h2; injection h2 with h2 h3; omega
    · split at h
      · injection h with h; injection h with h1 h2; injection h2 with h2 h3; omega
      · cases h
theorem rdPart_mono {l : List Int} {m c d : Nat} {hk : Bool} {k : List Int} (h : rdPart (l.take m) c = some (hk, k, d)) : rdPart l c = some (hk, k, d) := by
  have hbd := rdPart_bound h
  unfold rdPart at h ⊢
  split at h
  · cases h
  · rename_i n e hr
    rw [rdV_mono hr]
    have hb := rdV_bound hr
    dsimp only
    split at h
    · rename_i hn; rw [if_pos hn]; exact h
    · rename_i hn
      rw [if_neg hn]
      split at h
      · rename_i h2
        have hl : (l.take m).length ≤ l.length := by simp; omega
        rw [if_pos ⟨h2.1, by omega⟩]
        rw [← h]
        have : ((l.take m).drop e).take n.toNat = (l.drop e).take n.toNat := by
          rw [List.drop_take, List.take_take, Nat.min_eq_left]
          have := h2.2
          simp at this
          omega
        rw [this]
      · cases h
theorem rdPart_rt {l s : List Int} {i : Nat} {has : Bool} {k : List Int} (hp : partB has k = true) (h : l.drop i = partP has k ++ s) : rdPart l i = some (has, k, i + (partP has k).length) ∧ l.drop (i + (partP has k).length) = s := by
  obtain ⟨hl, hf⟩ := partB_len hp
  refine ⟨?_, by rw [← List.drop_drop, h, List.drop_left]⟩
  unfold partP at h ⊢
  cases has with
  | false =>
    have := hf rfl
    subst this
    obtain ⟨h1, _⟩ := rdV_varB (n := -1) (by simpa using h) (by omega)
    unfold rdPart
    rw [h1]
    simp
  | true =>
    obtain ⟨h1, h2⟩ := rdV_varB (n := (k.length : Int)) (s := k ++ s) (by simpa using h) (by omega)
    have hb := rdV_bound h1
    unfold rdPart
    rw [h1]
    have h3 : l.length - (i + (varB k.length).length) = k.length + s.length := by rw [← List.length_drop, h2]; simp
    dsimp only
    rw [if_neg (by omega), if_pos ⟨by omega, by simp only [Int.toNat_natCast]; omega⟩, h2]
    simp
    omega
theorem rdRec_rt {l s : List Int} {i : Nat} {r : Rec} {o t : Int} (hr : recB r = true) (hb : baseB o t = true) (h : l.drop i = recBytes r o t ++ s) : rdRec l i o t = some (r, i + (recBytes r o t).length) := by
  obtain ⟨h1, h2, h3, h4⟩ := recB_parts hr
  have hb' : (0 ≤ o ∧ o ≤ 99999) ∧ (0 ≤ t ∧ t ≤ 99999) := by simpa [baseB, inB] using hb
  have hlen := bodyB_len (o := o) (t := t) hr
  unfold recBytes at h
  obtain ⟨e1, d1⟩ := rdV_varB (n := ((bodyB r o t).length : Int)) (s := bodyB r o t ++ s) (by simpa using h) (by omega)
  obtain ⟨e2, d2⟩ := rdV_varB (n := r.time - t) (s := varB (r.off - o) ++ (partP r.hk r.key ++ (partP r.hv r.val ++ s))) (by rw [d1]; simp [bodyB]) (by omega)
  obtain ⟨e3, d3⟩ := rdV_varB (n := r.off - o) d2 (by omega)
  obtain ⟨e4, d4⟩ := rdPart_rt h3 d3
  obtain ⟨e5, d5⟩ := rdPart_rt h4 d4
  have el : (bodyB r o t).length = (varB (r.time - t)).length + (varB (r.off - o)).length + (partP r.hk r.key).length + (partP r.hv r.val).length := by simp [bodyB]; omega
  have er : (⟨o + (r.off - o), t + (r.time - t), r.hk, r.key, r.hv, r.val⟩ : Rec) = r := by
    rw [show o + (r.off - o) = r.off by omega, show t + (r.time - t) = r.time by omega]
  have el2 : (recBytes r o t).length = (varB (bodyB r o t).length).length + (bodyB r o t).length := by simp [recBytes]
  unfold rdRec
  rw [e1]
  dsimp only
  rw [e2]
  dsimp only
  rw [e3]
  dsimp only
  rw [e4]
  dsimp only
  rw [e5]
  dsimp only
  have ee : i + (varB (bodyB r o t).length).length + (varB (r.time - t)).length + (varB (r.off - o)).length + (partP r.hk r.key).length + (partP r.hv r.val).length = i + (recBytes r o t).length := by rw [el2, el]; simp only [Nat.add_assoc]
  have em : ((bodyB r o t).length : Int) = ((i + (varB (bodyB r o t).length).length + (varB (r.time - t)).length + (varB (r.off - o)).length + (partP r.hk r.key).length + (partP r.hv r.val).length : Nat) : Int) - ((i + (varB (bodyB r o t).length).length : Nat) : Int) := by
    generalize (varB (bodyB r o t).length).length = p1
    generalize (varB (r.time - t)).length = p2 at *
    generalize (varB (r.off - o)).length = p3 at *
    generalize (partP r.hk r.key).length = p4 at *
    generalize (partP r.hv r.val).length = p5 at *
    clear ee e1 e2 e3 e4 e5 d1 d2 d3 d4 d5 el2 h
    omega
  rw [er, if_pos ⟨em, hr⟩, ee]
theorem rdPart_inv {l : List Int} (hb : bytesB l = true) {c d : Nat} {hk : Bool} {k : List Int} (h : rdPart l c = some (hk, k, d)) : (∃ s, l.drop c = partP hk k ++ s) ∧ d = c + (partP hk k).length := by
  unfold rdPart at h
  split at h
  · cases h
  · rename_i n e hr
    have hbd := rdV_bound hr
    obtain ⟨⟨s, hs⟩, he, hn⟩ := rdV_inv hb hr
    split at h
    · rename_i hm
      injection h with h; injection h with h1 h2; injection h2 with h2 h3
      subst h1 h2 h3 hm
      exact ⟨⟨s, by simpa [partP] using hs⟩, by simpa [partP] using he⟩
    · split at h
      · rename_i h2
        injection h with h; injection h with h1 h3; injection h3 with h3 h4
        subst h1 h3 h4
        have hd : l.drop e = s := by rw [he, ← List.drop_drop, hs, List.drop_left]
        have hkl : ((l.drop e).take n.toNat).length = n.toNat := by rw [List.length_take, List.length_drop]; omega
        have hnn : ((((l.drop e).take n.toNat).length : Nat) : Int) = n := by rw [hkl]; omega
        refine ⟨⟨(l.drop e).drop n.toNat, ?_⟩, ?_⟩
        · unfold partP
          rw [if_pos rfl, hnn, hs, List.append_assoc, List.take_append_drop, hd]
        · unfold partP
          rw [if_pos rfl, hnn, List.length_append, hkl]
          omega
      · cases h
/-- The five readings. -/
structure Read5 (l : List Int) (i : Nat) (o t m : Int) (r : Rec) (a e : Nat) : Prop where
  ex : ∃ b c d dt dk, rdV l i = some (m, a) ∧ rdV l a = some (dt, b) ∧ rdV l b = some (dk, c) ∧ rdPart l c = some (r.hk, r.key, d) ∧ rdPart l d = some (r.hv, r.val, e) ∧ r.off = o + dk ∧ r.time = t + dt
theorem Read5.rd {l : List Int} {i a e : Nat} {o t m : Int} {r : Rec} (h : Read5 l i o t m r a e) : rdRec l i o t = if m = (e : Int) - a ∧ recB r = true then some (r, e) else none := by
  obtain ⟨b, c, d, dt, dk, e1, e2, e3, e4, e5, e6, e7⟩ := h.ex
  have er : (⟨o + dk, t + dt, r.hk, r.key, r.hv, r.val⟩ : Rec) = r := by rw [← e6, ← e7]
  unfold rdRec
  rw [e1]
  dsimp only
  rw [e2]
  dsimp only
  rw [e3]
  dsimp only
  rw [e4]
  dsimp only
  rw [e5]
  dsimp only
  rw [er]
theorem rdRec_read5 {l : List Int} {i e : Nat} {o t : Int} {r : Rec} (h : rdRec l i o t = some (r, e)) : ∃ m a, Read5 l i o t m r a e ∧ m = (e : Int) - a ∧ recB r = true := by
  unfold rdRec at h
  split at h
  · cases h
  split at h
  · cases h
  split at h
  · cases h
  split at h
  · cases h
  split at h
  · cases h
  split at h
  · rename_i m a e1 _ dt b e2 _ dk c e3 _ hk key d e4 _ hv val e' e5 hm
    injection h with h
    injection h with h1 h2
    subst h1 h2
    exact ⟨m, a, ⟨b, c, d, dt, dk, e1, e2, e3, e4, e5, rfl, rfl⟩, hm.1, hm.2⟩
  · cases h
theorem Read5.bytes {l : List Int} (hb : bytesB l = true) {i a e : Nat} {o t m : Int} {r : Rec} (h : Read5 l i o t m r a e) : (∃ s, l.drop i = varB m ++ (bodyB r o t ++ s)) ∧ a = i + (varB m).length ∧ e = a + (bodyB r o t).length ∧ e ≤ l.length ∧ (-1000000 ≤ m ∧ m ≤ 1000000) := by
  obtain ⟨b, c, d, dt, dk, e1, e2, e3, e4, e5, e6, e7⟩ := h.ex
  obtain ⟨⟨s1, h1⟩, k1, r1⟩ := rdV_inv hb e1
  obtain ⟨⟨s2, h2⟩, k2, _⟩ := rdV_inv hb e2
  obtain ⟨⟨s3, h3⟩, k3, _⟩ := rdV_inv hb e3
  obtain ⟨⟨s4, h4⟩, k4⟩ := rdPart_inv hb e4
  obtain ⟨⟨s5, h5⟩, k5⟩ := rdPart_inv hb e5
  have hbd := rdPart_bound e5
  have f1 : l.drop a = s1 := by rw [k1, ← List.drop_drop, h1, List.drop_left]
  have f2 : l.drop b = s2 := by rw [k2, ← List.drop_drop, h2, List.drop_left]
  have f3 : l.drop c = s3 := by rw [k3, ← List.drop_drop, h3, List.drop_left]
  have f4 : l.drop d = s4 := by rw [k4, ← List.drop_drop, h4, List.drop_left]
  have ed : dt = r.time - t := by omega
  have ek : dk = r.off - o := by omega
  subst ed ek
  refine ⟨⟨s5, ?_⟩, k1, ?_, hbd.2, r1⟩
  · rw [h1, ← f1, h2, ← f2, h3, ← f3, h4, ← f4, h5]
    simp [bodyB]
  · simp [bodyB]
    omega
theorem rdRec_inv {l : List Int} (hb : bytesB l = true) {i e : Nat} {o t : Int} {r : Rec} (h : rdRec l i o t = some (r, e)) : (∃ s, l.drop i = recBytes r o t ++ s) ∧ e = i + (recBytes r o t).length ∧ recB r = true ∧ e ≤ l.length := by
  obtain ⟨m, a, h5, hm, hr⟩ := rdRec_read5 h
  obtain ⟨⟨s, hs⟩, ha, he, hl, _⟩ := h5.bytes hb
  have hml : m = ((bodyB r o t).length : Int) := by omega
  subst hml
  refine ⟨⟨s, by rw [hs]; simp [recBytes]⟩, by simp [recBytes]; omega, hr, hl⟩
theorem rdRec_cut {l : List Int} {i e : Nat} {o t : Int} {r : Rec} (h : rdRec l i o t = some (r, e)) (n : Nat) (hn : n < e) : rdRec (l.take n) i o t = none := by
  cases hq : rdRec (l.take n) i o t with
  | none => rfl
  | some q =>
    exfalso
    obtain ⟨r', e'⟩ := q
    obtain ⟨m, a, h5, hm, hr⟩ := rdRec_read5 hq
    obtain ⟨b, c, d, dt, dk, e1, e2, e3, e4, e5, e6, e7⟩ := h5.ex
    have hbd := (rdPart_bound e5).2
    have h5' : Read5 l i o t m r' a e' := ⟨b, c, d, dt, dk, rdV_mono e1, rdV_mono e2, rdV_mono e3, rdPart_mono e4, rdPart_mono e5, e6, e7⟩
    have := h5'.rd
    rw [if_pos ⟨hm, hr⟩, h] at this
    injection this with this
    injection this with h1 h2
    simp at hbd
    omega
/-- Bytes begin with others at i. -/
def sameAt (l : List Int) (i : Nat) (x : List Int) : Bool := (l.drop i).take x.length == x
theorem Read5.same {l : List Int} (hb : bytesB l = true) {i a e : Nat} {o t m : Int} {r : Rec} (h : Read5 l i o t m r a e) (hr : recB r = true) : sameAt l i (recBytes r o t) = decide (m = (e : Int) - a) := by
  obtain ⟨⟨s, hs⟩, ha, he, hl, hm⟩ := h.bytes hb
  have hlen := bodyB_len (o := o) (t := t) hr
  rw [Bool.eq_iff_iff]
  simp only [sameAt, beq_iff_eq, decide_eq_true_eq]
  constructor
  · intro hq
    have h1 : l.drop i = varB ((bodyB r o t).length : Int) ++ (bodyB r o t ++ (l.drop i).drop (recBytes r o t).length) := by
      rw [← List.append_assoc, show varB ((bodyB r o t).length : Int) ++ bodyB r o t = recBytes r o t from rfl]
      conv => lhs; rw [← List.take_append_drop (recBytes r o t).length (l.drop i), hq]
    obtain ⟨e1, _⟩ := rdV_varB h1 (by omega)
    obtain ⟨b, c, d, dt, dk, e2, _⟩ := h.ex
    rw [e1] at e2
    simp only [Option.some.injEq, Prod.mk.injEq] at e2
    obtain ⟨e3, e4⟩ := e2
    rw [← e3, he]
    clear e1 h1 hq hs e4 e3 hlen hm hb ha he hl h hr
    generalize (bodyB r o t).length = L
    omega
  · intro hm'
    have hml : m = ((bodyB r o t).length : Int) := by omega
    subst hml
    rw [hs, ← List.append_assoc, show varB ((bodyB r o t).length : Int) ++ bodyB r o t = recBytes r o t from rfl, List.take_left]
end Go.Proofs.Ytfflhenldegmmaa
