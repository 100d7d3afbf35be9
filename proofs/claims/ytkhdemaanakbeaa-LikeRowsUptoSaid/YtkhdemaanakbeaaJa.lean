/- Plain facts: Jaro's matches. No condition. -/
import Derived.Test.YtkhdemaanakbeaaLj
namespace Go.Proofs.Ytkhdemaanakbeaa
open Go.RowKit Go.Pst
set_option linter.unusedSimpArgs false
set_option linter.unusedVariables false
/-- The first place below k where P holds. -/
def first (P : Nat → Bool) : Nat → Option Nat
  | 0 => none
  | k + 1 => match first P k with
    | some j => some j
    | none => if P k then some k else none
theorem first_none {P : Nat → Bool} : ∀ {k}, (∀ j, j < k → P j = false) → first P k = none
  | 0, _ => rfl
  | k + 1, h => by
    unfold first
    rw [first_none fun j hj => h j (by omega), h k (by omega)]; rfl
theorem first_some {P : Nat → Bool} {j : Nat} (hj : P j = true) (hl : ∀ i, i < j → P i = false) : ∀ {k}, j < k → first P k = some j
  | 0, h => by omega
  | k + 1, h => by
    unfold first
    by_cases e : j = k
    · rw [first_none (fun i hi => hl i (by omega)), ← e, hj]; rfl
    · rw [first_some hj hl (by omega)]
theorem first_spec {P : Nat → Bool} : ∀ {k j}, first P k = some j → j < k ∧ P j = true
  | 0, j, h => by cases h
  | k + 1, j, h => by
    unfold first at h
    cases hf : first P k with
    | some q => rw [hf] at h; cases h; have := first_spec hf; exact ⟨by omega, this.2⟩
    | none =>
      rw [hf] at h
      simp only at h
      split at h
      · cases h; exact ⟨by omega, by assumption⟩
      · cases h
def jW (n m : Nat) : Nat := max n m / 2 - 1
section
variable (m W : Nat) (fa fb : Nat → Int)
def jP (tk : Nat → Bool) (i j : Nat) : Bool := !tk j && (fb j == fa i) && decide (i ≤ j + W) && decide (j ≤ i + W)
/-- Which places of the second name are taken, and the first name's matches, after i code points. -/
def tkN : Nat → Nat → Bool
  | 0 => fun _ => false
  | i + 1 => match first (jP W fa fb (tkN i) i) m with
    | some j => fun q => q == j || tkN i q
    | none => tkN i
def lfN : Nat → List Int
  | 0 => []
  | i + 1 => match first (jP W fa fb (tkN m W fa fb i) i) m with
    | some _ => lfN i ++ [fa i]
    | none => lfN i
end
def rtL (tk : Nat → Bool) (fb : Nat → Int) : Nat → List Int
  | 0 => []
  | j + 1 => if tk j then rtL tk fb j ++ [fb j] else rtL tk fb j
theorem rtL_congr {tk tk' : Nat → Bool} (fb : Nat → Int) : ∀ k, (∀ j, j < k → tk j = tk' j) → rtL tk fb k = rtL tk' fb k
  | 0, _ => rfl
  | k + 1, h => by unfold rtL; rw [rtL_congr fb k fun j hj => h j (by omega), h k (by omega)]
theorem rtL_put {tk : Nat → Bool} (fb : Nat → Int) {j : Nat} (hj : tk j = false) : ∀ {k}, j < k → (rtL (fun q => q == j || tk q) fb k).length = (rtL tk fb k).length + 1
  | 0, h => by omega
  | k + 1, h => by
    unfold rtL
    by_cases e : j = k
    · subst e
      have hc : ∀ i, i < j → (fun q => q == j || tk q) i = tk i := fun i hi => by
        have : (i == j) = false := by simp; omega
        simp only [this, Bool.false_or]
      rw [hj, rtL_congr (tk := fun q => q == j || tk q) (tk' := tk) fb j hc]
      simp
    · have h1 : (k == j) = false := by simp; omega
      have ih := rtL_put (tk := tk) fb hj (k := k) (by omega)
      simp only [h1, Bool.false_or]
      split
      · rw [List.length_append, List.length_append, ih]; simp
      · exact ih
theorem rtL_none (fb : Nat → Int) : ∀ k, (rtL (fun _ => false) fb k).length = 0
  | 0 => rfl
  | k + 1 => by unfold rtL; simp [rtL_none fb k]
section
variable {m W : Nat} {fa fb : Nat → Int} {i j : Nat}
theorem tk_some (h : first (jP W fa fb (tkN m W fa fb i) i) m = some j) : tkN m W fa fb (i + 1) = fun q => q == j || tkN m W fa fb i q := by
  have e : tkN m W fa fb (i + 1) = (match first (jP W fa fb (tkN m W fa fb i) i) m with | some j => fun q => q == j || tkN m W fa fb i q | none => tkN m W fa fb i) := rfl
  rw [e, h]
theorem tk_none (h : first (jP W fa fb (tkN m W fa fb i) i) m = none) : tkN m W fa fb (i + 1) = tkN m W fa fb i := by
  have e : tkN m W fa fb (i + 1) = (match first (jP W fa fb (tkN m W fa fb i) i) m with | some j => fun q => q == j || tkN m W fa fb i q | none => tkN m W fa fb i) := rfl
  rw [e, h]
theorem lf_some (h : first (jP W fa fb (tkN m W fa fb i) i) m = some j) : lfN m W fa fb (i + 1) = lfN m W fa fb i ++ [fa i] := by
  have e : lfN m W fa fb (i + 1) = (match first (jP W fa fb (tkN m W fa fb i) i) m with | some _ => lfN m W fa fb i ++ [fa i] | none => lfN m W fa fb i) := rfl
  rw [e, h]
theorem lf_none (h : first (jP W fa fb (tkN m W fa fb i) i) m = none) : lfN m W fa fb (i + 1) = lfN m W fa fb i := by
  have e : lfN m W fa fb (i + 1) = (match first (jP W fa fb (tkN m W fa fb i) i) m with | some _ => lfN m W fa fb i ++ [fa i] | none => lfN m W fa fb i) := rfl
  rw [e, h]
end
theorem lf_rt (m W : Nat) (fa fb : Nat → Int) : ∀ i, (lfN m W fa fb i).length = (rtL (tkN m W fa fb i) fb m).length
  | 0 => by
    show 0 = (rtL (fun _ => false) fb m).length
    rw [rtL_none]
  | i + 1 => by
    have ih := lf_rt m W fa fb i
    cases hf : first (jP W fa fb (tkN m W fa fb i) i) m with
    | none => rw [lf_none hf, tk_none hf]; exact ih
    | some j =>
      obtain ⟨h1, h2⟩ := first_spec hf
      have h3 : tkN m W fa fb i j = false := by
        unfold jP at h2; simp only [Bool.and_eq_true, Bool.not_eq_true'] at h2; exact h2.1.1.1
      rw [lf_some hf, tk_some hf, List.length_append, rtL_put fb h3 h1, ih]; rfl
theorem lfN_len (m W : Nat) (fa fb : Nat → Int) : ∀ i, (lfN m W fa fb i).length ≤ i
  | 0 => Nat.le_refl _
  | i + 1 => by
    have := lfN_len m W fa fb i
    cases hf : first (jP W fa fb (tkN m W fa fb i) i) m with
    | none => rw [lf_none hf]; omega
    | some j => rw [lf_some hf, List.length_append]; simp; omega
theorem rtL_len (tk : Nat → Bool) (fb : Nat → Int) : ∀ k, (rtL tk fb k).length ≤ k
  | 0 => Nat.le_refl _
  | k + 1 => by
    have := rtL_len tk fb k
    unfold rtL
    split
    · rw [List.length_append]; simp; omega
    · omega
end Go.Proofs.Ytkhdemaanakbeaa
