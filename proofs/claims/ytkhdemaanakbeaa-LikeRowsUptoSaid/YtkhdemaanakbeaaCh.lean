/- The longest row that stands in both, plain: how both texts find it. No condition. -/
import Derived.Test.YtkhdemaanakbeaaCe
namespace Go.Pst
set_option linter.unusedVariables false
section
variable {n m : Nat} {a b : Nat → Int}

theorem cm_out {i j : Nat} (h : ¬ i < n) : cm n m a b i j = [] := by
  unfold cm; rw [if_neg h]
theorem cm_take {i j q : Nat} (hi : i < n) (hq : firstM m b (a i) j = q) (hqm : q < m) (h : lc n m a b (i + 1) (q + 1) + 1 = lc n m a b i j) :
    cm n m a b i j = a i :: cm n m a b (i + 1) (q + 1) := by
  conv => lhs; unfold cm
  rw [if_pos hi]
  simp only [hq]
  rw [if_pos ⟨hqm, h⟩]
theorem cm_skip {i j : Nat} (hi : i < n) (h : ¬ (firstM m b (a i) j < m ∧ lc n m a b (i + 1) (firstM m b (a i) j + 1) + 1 = lc n m a b i j)) :
    cm n m a b i j = cm n m a b (i + 1) j := by
  conv => lhs; unfold cm
  rw [if_pos hi]
  simp only
  rw [if_neg h]
theorem cm_zero : ∀ k i j, n - i ≤ k → lc n m a b i j = 0 → cm n m a b i j = [] := fun k => by
  induction k with
  | zero => intro i j h _; exact cm_out (by omega)
  | succ k ih =>
    intro i j h h0
    by_cases hi : i < n
    · rw [cm_skip hi (fun h => by omega)]
      have := lc_i (n := n) (m := m) (a := a) (b := b) (i := i) (j := j)
      exact ih (i + 1) j (by omega) (by omega)
    · exact cm_out hi

theorem first_at {x : Int} {j q : Nat} (hj : j ≤ q) (hq : q < m) (hx : x = b q) (h : ∀ k, j ≤ k → k < q → x ≠ b k) : firstM m b x j = q := by
  rcases first_spec (m := m) (b := b) (x := x) _ j (Nat.le_refl _) with ⟨h1, h2, h3⟩ | h1
  · by_cases h4 : firstM m b x j < m
    · have h5 := h1 h4
      rcases Nat.lt_or_ge (firstM m b x j) q with h6 | h6
      · exact absurd h5.2 (h _ h5.1 h6)
      · rcases Nat.lt_or_ge q (firstM m b x j) with h7 | h7
        · exact absurd hx (h2 q hj h7)
        · omega
    · exact absurd hx (h2 q hj (by omega))
  · omega
theorem first_no {x : Int} {j : Nat} (hj : j ≤ m) (h : ∀ k, j ≤ k → k < m → x ≠ b k) : firstM m b x j = m := by
  rcases first_spec (m := m) (b := b) (x := x) _ j (Nat.le_refl _) with ⟨h1, h2, h3⟩ | h1
  · by_cases h4 : firstM m b x j < m
    · have h5 := h1 h4
      exact absurd h5.2 (h _ h5.1 h4)
    · omega
  · omega

/-- The first one that matches, where a longest row goes on behind one that matches. -/
theorem cm_found {p j q L : Nat} (hp : p < n) (hL : lc n m a b p j = L) (hj : j ≤ q) (hq : q < m) (he : a p = b q) (hc : lc n m a b (p + 1) (q + 1) + 1 = L)
    (h : ∀ k, j ≤ k → k < q → ¬ (a p = b k ∧ lc n m a b (p + 1) (k + 1) + 1 = L)) : cm n m a b p j = a p :: cm n m a b (p + 1) (q + 1) := by
  have hf : firstM m b (a p) j = q := by
    rcases first_spec (m := m) (b := b) (x := a p) _ j (Nat.le_refl _) with ⟨h1, h2, h3⟩ | h1
    · have h4 : firstM m b (a p) j ≤ q := by
        rcases Nat.lt_or_ge q (firstM m b (a p) j) with h7 | h7
        · exact absurd he (h2 q hj h7)
        · exact h7
      obtain ⟨h5, h6⟩ := h1 (by omega)
      rcases Nat.lt_or_ge (firstM m b (a p) j) q with h8 | h8
      · exfalso
        refine h _ h5 h8 ⟨h6, ?_⟩
        have g1 := lc_match (n := n) (m := m) (a := a) (b := b) hp (show firstM m b (a p) j < m by omega) h5 h2 h6
        have g2 := lc_jk (n := n) (m := m) (a := a) (b := b) (i := p + 1) (j := firstM m b (a p) j + 1) (k := q - firstM m b (a p) j)
        rw [show firstM m b (a p) j + 1 + (q - firstM m b (a p) j) = q + 1 by omega] at g2
        omega
      · omega
    · omega
  exact cm_take hp hf hq (by omega)

/-- None: the row is that behind the next place. -/
theorem cm_none {p j L : Nat} (hp : p < n) (hj : j ≤ m) (hL : lc n m a b p j = L) (h : ∀ k, j ≤ k → k < m → ¬ (a p = b k ∧ lc n m a b (p + 1) (k + 1) + 1 = L)) :
    cm n m a b p j = cm n m a b (p + 1) j ∧ lc n m a b (p + 1) j = L := by
  rcases first_spec (m := m) (b := b) (x := a p) _ j (Nat.le_refl _) with ⟨h1, h2, h3⟩ | h1
  · by_cases h4 : firstM m b (a p) j < m
    · obtain ⟨h5, h6⟩ := h1 h4
      have h7 := h _ h5 h4
      have g1 := lc_match (n := n) (m := m) (a := a) (b := b) hp h4 h5 h2 h6
      have h8 : ¬ lc n m a b (p + 1) (firstM m b (a p) j + 1) + 1 = L := fun e => h7 ⟨h6, e⟩
      exact ⟨cm_skip hp (fun e => h8 (by omega)), by omega⟩
    · refine ⟨cm_skip hp (fun e => h4 e.1), ?_⟩
      rw [← lc_none (fun q q1 q2 => h2 q q1 (by omega))]
      exact hL
  · omega

theorem lc_le_m {i j : Nat} : lc n m a b i j ≤ m - j := by
  have st : ∀ d i j, (n - i) + (m - j) ≤ d → lc n m a b i j ≤ m - j := fun d => by
    induction d with
    | zero => intro i j hd; rw [lc_out (by omega)]; omega
    | succ d ih =>
      intro i j hd
      by_cases h : i < n ∧ j < m
      · rw [lc_in h.1 h.2]
        have h1 := ih (i + 1) j (by omega)
        have h2 := ih (i + 1) (j + 1) (by omega)
        have h3 := ih i (j + 1) (by omega)
        split <;> omega
      · rw [lc_out h]; omega
  exact st _ i j (Nat.le_refl _)

theorem cm_length : ∀ k i j, n - i ≤ k → j ≤ m → (cm n m a b i j).length = lc n m a b i j := fun k => by
  induction k with
  | zero => intro i j h _; rw [cm_out (by omega), lc_out (by omega)]; rfl
  | succ k ih =>
    intro i j h hj
    by_cases hi : i < n
    · by_cases hc : firstM m b (a i) j < m ∧ lc n m a b (i + 1) (firstM m b (a i) j + 1) + 1 = lc n m a b i j
      · rw [cm_take hi rfl hc.1 hc.2, List.length_cons, ih _ _ (by omega) (by omega)]; exact hc.2
      · rw [cm_skip hi hc, ih _ _ (by omega) hj]
        rcases first_spec (m := m) (b := b) (x := a i) _ j (Nat.le_refl _) with ⟨h1, h2, h3⟩ | h1
        · by_cases h4 : firstM m b (a i) j < m
          · obtain ⟨h5, h6⟩ := h1 h4
            have g1 := lc_match (n := n) (m := m) (a := a) (b := b) hi h4 h5 h2 h6
            have h8 : ¬ lc n m a b (i + 1) (firstM m b (a i) j + 1) + 1 = lc n m a b i j := fun e => hc ⟨h4, e⟩
            omega
          · rw [← lc_none (fun q q1 q2 => h2 q q1 (by omega))]
        · omega
    · rw [cm_out hi, lc_out (by omega)]; rfl
end
end Go.Pst
