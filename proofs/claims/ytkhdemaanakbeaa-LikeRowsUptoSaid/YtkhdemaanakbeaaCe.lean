/- The longest row that stands in both, plain: by the lengths of what is behind each two places. No condition. -/
import Derived.Test.YtkhdemaanakbeaaLe
namespace Go.Pst
set_option linter.unusedVariables false

/-- How long the longest row behind two places is. -/
def lc (n m : Nat) (a b : Nat → Int) (i j : Nat) : Nat :=
  if i < n ∧ j < m then max (if a i = b j then lc n m a b (i + 1) (j + 1) + 1 else 0) (max (lc n m a b (i + 1) j) (lc n m a b i (j + 1))) else 0
termination_by (n - i) + (m - j)

section
variable {n m : Nat} {a b : Nat → Int}
theorem lc_in {i j : Nat} (hi : i < n) (hj : j < m) : lc n m a b i j = max (if a i = b j then lc n m a b (i + 1) (j + 1) + 1 else 0) (max (lc n m a b (i + 1) j) (lc n m a b i (j + 1))) := by
  conv => lhs; unfold lc
  rw [if_pos ⟨hi, hj⟩]
theorem lc_out {i j : Nat} (h : ¬ (i < n ∧ j < m)) : lc n m a b i j = 0 := by
  unfold lc; rw [if_neg h]
theorem lc_i {i j : Nat} : lc n m a b (i + 1) j ≤ lc n m a b i j := by
  by_cases h : i < n ∧ j < m
  · rw [lc_in h.1 h.2]; omega
  · rw [lc_out (i := i + 1) (by omega)]; omega
theorem lc_j {i j : Nat} : lc n m a b i (j + 1) ≤ lc n m a b i j := by
  by_cases h : i < n ∧ j < m
  · rw [lc_in h.1 h.2]; omega
  · rw [lc_out (j := j + 1) (by omega)]; omega
theorem lc_jk {i j k : Nat} : lc n m a b i (j + k) ≤ lc n m a b i j := by
  induction k with
  | zero => exact Nat.le_refl _
  | succ k ih => exact Nat.le_trans (lc_j (i := i) (j := j + k)) ih
theorem lc_le {i j : Nat} : ∀ k, n - i ≤ k → lc n m a b i j ≤ n - i := fun k => by
  induction k generalizing i j with
  | zero => intro h; rw [lc_out (by omega)]; omega
  | succ k ih =>
    intro h
    by_cases hi : i < n
    · have st : ∀ d j, m - j ≤ d → lc n m a b i j ≤ n - i := fun d => by
        induction d with
        | zero => intro j hd; rw [lc_out (by omega)]; omega
        | succ d ihd =>
          intro j hd
          by_cases hj : j < m
          · rw [lc_in hi hj]
            have h1 := ih (i := i + 1) (j := j) (by omega)
            have h2 := ih (i := i + 1) (j := j + 1) (by omega)
            have h3 := ihd (j + 1) (by omega)
            split <;> omega
          · rw [lc_out (by omega)]; omega
      exact st _ j (Nat.le_refl _)
    · rw [lc_out (by omega)]; omega
theorem lc_n {i j : Nat} : lc n m a b i j ≤ n - i := lc_le _ (Nat.le_refl _)

/-- No match ahead of q: the row behind is that behind the next place, or it begins at q. -/
theorem lc_first {i j : Nat} (hi : i < n) : ∀ d, (∀ q, j ≤ q → q < j + d → a i ≠ b q) →
    lc n m a b i j = max (lc n m a b (i + 1) j) (lc n m a b i (j + d)) ∨ m < j + d := fun d => by
  induction d generalizing j with
  | zero => intro _; left; have := lc_i (n := n) (m := m) (a := a) (b := b) (i := i) (j := j); show lc n m a b i j = max (lc n m a b (i + 1) j) (lc n m a b i j); omega
  | succ d ih =>
    intro h
    by_cases hj : j < m
    · have h0 := h j (Nat.le_refl _) (by omega)
      have h1 := ih (j := j + 1) (fun q q1 q2 => h q (by omega) (by omega))
      rw [show j + 1 + d = j + (d + 1) by omega] at h1
      rcases h1 with h1 | h1
      · left
        rw [lc_in hi hj, if_neg h0, h1]
        have := lc_j (n := n) (m := m) (a := a) (b := b) (i := i + 1) (j := j)
        omega
      · right; omega
    · right; omega

/-- None matches: the row is that behind the next place. -/
theorem lc_none {i j : Nat} (h : ∀ q, j ≤ q → q < m → a i ≠ b q) : lc n m a b i j = lc n m a b (i + 1) j := by
  by_cases hi : i < n
  · by_cases hj : j < m
    · have h1 := lc_first (n := n) (m := m) (a := a) (b := b) (i := i) (j := j) hi (m - j) (fun q q1 q2 => h q q1 (by omega))
      rw [show j + (m - j) = m by omega] at h1
      rcases h1 with h1 | h1
      · rw [h1, lc_out (i := i) (j := m) (by omega)]; omega
      · omega
    · rw [lc_out (by omega), lc_out (by omega)]
  · rw [lc_out (by omega), lc_out (by omega)]

/-- The first that matches is at q: the row begins there, or it is that behind the next place. -/
theorem lc_match {i j q : Nat} (hi : i < n) (hq : q < m) (hj : j ≤ q) (h : ∀ k, j ≤ k → k < q → a i ≠ b k) (he : a i = b q) :
    lc n m a b i j = max (lc n m a b (i + 1) j) (lc n m a b (i + 1) (q + 1) + 1) := by
  have h1 := lc_first (n := n) (m := m) (a := a) (b := b) (i := i) (j := j) hi (q - j) (fun k k1 k2 => h k k1 (by omega))
  rw [show j + (q - j) = q by omega] at h1
  have hmono : lc n m a b (i + 1) q ≤ lc n m a b (i + 1) j := by
    have := lc_jk (n := n) (m := m) (a := a) (b := b) (i := i + 1) (j := j) (k := q - j)
    rwa [show j + (q - j) = q by omega] at this
  -- the row behind (i, q + 1) is no longer than that behind (i + 1, q + 1) and one more
  have hone : ∀ d j, m - j ≤ d → lc n m a b i j ≤ lc n m a b (i + 1) j + 1 := fun d => by
    induction d with
    | zero => intro j hd; rw [lc_out (i := i) (by omega)]; omega
    | succ d ih =>
      intro j hd
      by_cases hjm : j < m
      · rw [lc_in hi hjm]
        have h3 := ih (j + 1) (by omega)
        have h4 := lc_j (n := n) (m := m) (a := a) (b := b) (i := i + 1) (j := j)
        split <;> omega
      · rw [lc_out (i := i) (by omega)]; omega
  have h2 := hone _ (q + 1) (Nat.le_refl _)
  rcases h1 with h1 | h1
  · rw [h1, lc_in hi hq, if_pos he]; omega
  · omega

/-- Where the first one that matches stands, from a place on. -/
def firstM (m : Nat) (b : Nat → Int) (x : Int) (j : Nat) : Nat := if j < m then (if x = b j then j else firstM m b x (j + 1)) else m
termination_by m - j

/-- The row itself. -/
def cm (n m : Nat) (a b : Nat → Int) (i j : Nat) : List Int :=
  if i < n then
    (let q := firstM m b (a i) j
     if q < m ∧ lc n m a b (i + 1) (q + 1) + 1 = lc n m a b i j then a i :: cm n m a b (i + 1) (q + 1) else cm n m a b (i + 1) j)
  else []
termination_by n - i

theorem first_spec {x : Int} : ∀ d j, m - j ≤ d → (firstM m b x j < m → j ≤ firstM m b x j ∧ x = b (firstM m b x j)) ∧ (∀ k, j ≤ k → k < firstM m b x j → x ≠ b k) ∧ firstM m b x j ≤ m ∨ ¬ j ≤ m := fun d => by
  induction d with
  | zero =>
    intro j hd
    by_cases hj : j ≤ m
    · left
      unfold firstM
      rw [if_neg (by omega)]
      exact ⟨fun h => by omega, fun k h1 h2 => by omega, by omega⟩
    · exact .inr hj
  | succ d ih =>
    intro j hd
    by_cases hj : j < m
    · left
      unfold firstM
      rw [if_pos hj]
      by_cases hx : x = b j
      · rw [if_pos hx]; exact ⟨fun _ => ⟨Nat.le_refl _, hx⟩, fun k h1 h2 => by omega, by omega⟩
      · rw [if_neg hx]
        rcases ih (j + 1) (by omega) with ⟨h1, h2, h3⟩ | h
        · refine ⟨fun h => ⟨by have := (h1 h).1; omega, (h1 h).2⟩, fun k k1 k2 => ?_, h3⟩
          by_cases hk : k = j
          · rw [hk]; exact hx
          · exact h2 k (by omega) k2
        · omega
    · by_cases hj2 : j ≤ m
      · left
        unfold firstM
        rw [if_neg hj]
        exact ⟨fun h => by omega, fun k h1 h2 => by omega, by omega⟩
      · exact .inr hj2
end
end Go.Pst
