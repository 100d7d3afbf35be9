/- Plain facts: the usual distance is a whole number; it is the same both ways, 0 just of the same names, and lies between what the lengths ask. No program is spoken of. -/
import Derived.Test.YtkhdemaanakbeaaLi
import Derived.Test.YtkhdemaanakbeaaAd
namespace Go.Proofs.Ytkhdemaanakbeaa
open Go.Pst
set_option linter.unusedVariables false

/-- The usual distance, in whole numbers. -/
def lev (fa fb : Nat → Int) : Nat → Nat → Nat
  | 0, 0 => 0
  | i + 1, 0 => lev fa fb i 0 + 1
  | 0, j + 1 => lev fa fb 0 j + 1
  | i + 1, j + 1 =>
    if tnB fa fb (i + 1) (j + 1) then min (min (min (lev fa fb i (j + 1) + 1) (lev fa fb (i + 1) j + 1)) (lev fa fb i j + (if fa i = fb j then 0 else 1))) (lev fa fb (i - 1) (j - 1) + 1)
    else min (min (lev fa fb i (j + 1) + 1) (lev fa fb (i + 1) j + 1)) (lev fa fb i j + (if fa i = fb j then 0 else 1))
termination_by i j => (i, j)
decreasing_by all_goals (simp_wf; omega)

section
variable (fa fb : Nat → Int)

theorem lev_le : ∀ s i j, i + j = s → lev fa fb i j ≤ max i j ∧ i ≤ lev fa fb i j + j ∧ j ≤ lev fa fb i j + i := by
  intro s
  induction s using Nat.strongRecOn with
  | ind s ih =>
    intro i j hs
    cases i with
    | zero =>
      cases j with
      | zero => rw [lev]; omega
      | succ j => rw [lev]; have := ih (0 + j) (by omega) 0 j rfl; omega
    | succ i =>
      cases j with
      | zero => rw [lev]; have := ih (i + 0) (by omega) i 0 rfl; omega
      | succ j =>
        rw [lev]
        have h1 := ih (i + (j + 1)) (by omega) i (j + 1) rfl
        have h2 := ih (i + 1 + j) (by omega) (i + 1) j rfl
        have h3 := ih (i + j) (by omega) i j rfl
        have h4 := ih (i - 1 + (j - 1)) (by omega) (i - 1) (j - 1) rfl
        have hc : (if fa i = fb j then 0 else 1) ≤ 1 := by split <;> omega
        generalize (if fa i = fb j then 0 else 1) = c at *
        split
        · rename_i ht
          have : 1 < i + 1 ∧ 1 < j + 1 := by unfold tnB at ht; simp at ht; omega
          omega
        · omega

theorem lev_zero : ∀ s i j, i + j = s → (lev fa fb i j = 0 ↔ i = j ∧ ∀ k, k < i → fa k = fb k) := by
  intro s
  induction s using Nat.strongRecOn with
  | ind s ih =>
    intro i j hs
    cases i with
    | zero =>
      cases j with
      | zero => rw [lev]; simp
      | succ j => rw [lev]; simp
    | succ i =>
      cases j with
      | zero => rw [lev]; simp
      | succ j =>
        rw [lev]
        have h3 := ih (i + j) (by omega) i j rfl
        by_cases hc : fa i = fb j
        · rw [if_pos hc]
          have key : (lev fa fb i j = 0) ↔ (i + 1 = j + 1 ∧ ∀ k, k < i + 1 → fa k = fb k) := by
            rw [h3]
            constructor
            · rintro ⟨rfl, h⟩
              refine ⟨rfl, fun k hk => ?_⟩
              by_cases hk2 : k = i
              · rw [hk2]; exact hc
              · exact h k (by omega)
            · rintro ⟨h1, h⟩
              exact ⟨by omega, fun k hk => h k (by omega)⟩
          rw [← key]
          split <;> omega
        · rw [if_neg hc]
          constructor
          · intro h; split at h <;> omega
          · rintro ⟨h1, h⟩
            obtain rfl : i = j := by omega
            exact absurd (h i (by omega)) hc

theorem tn_symm (i j : Nat) : tnB fa fb i j = tnB fb fa j i := by
  unfold tnB
  rw [Bool.eq_iff_iff]
  simp only [Bool.and_eq_true, decide_eq_true_eq, beq_iff_eq]
  constructor <;> (rintro ⟨⟨⟨h1, h2⟩, h3⟩, h4⟩; exact ⟨⟨⟨h2, h1⟩, h4.symm⟩, h3.symm⟩)

theorem lev_symm : ∀ s i j, i + j = s → lev fa fb i j = lev fb fa j i := by
  intro s
  induction s using Nat.strongRecOn with
  | ind s ih =>
    intro i j hs
    cases i with
    | zero =>
      cases j with
      | zero => rw [lev, lev]
      | succ j => rw [lev, lev, ih (0 + j) (by omega) 0 j rfl]
    | succ i =>
      cases j with
      | zero => rw [lev, lev, ih (i + 0) (by omega) i 0 rfl]
      | succ j =>
        rw [lev, lev, ih (i + (j + 1)) (by omega) i (j + 1) rfl, ih (i + 1 + j) (by omega) (i + 1) j rfl, ih (i + j) (by omega) i j rfl, ih (i - 1 + (j - 1)) (by omega) (i - 1) (j - 1) rfl, tn_symm fa fb (i + 1) (j + 1)]
        have hc : (if fa i = fb j then 0 else 1) = (if fb j = fa i then 0 else 1) := by
          by_cases h : fa i = fb j
          · rw [if_pos h, if_pos h.symm]
          · rw [if_neg h, if_neg (fun e => h e.symm)]
        rw [hc, Nat.min_comm (lev fb fa (j + 1) i + 1)]
end

theorem fl_one : fl 1 = 4607182418800017408 := by decide +kernel

/-- With the usual costs the table's numbers are these whole numbers. -/
theorem tab_lev (p : Nat → Int × Int × Nat) (fa fb : Nat → Int) : ∀ s i j, i + j = s → s < 2 ^ 50 →
    tabT 4607182418800017408 4607182418800017408 4607182418800017408 4607182418800017408 p 0 fa fb i j = fl (lev fa fb i j) := by
  rw [← fl_one]
  have T := tabT_is (fl 1) (fl 1) (fl 1) (fl 1) p 0 fa fb
  generalize tabT (fl 1) (fl 1) (fl 1) (fl 1) p 0 fa fb = t at *
  have ho : ∀ i j, othV p 0 (fl 1) (fa i) (fb j) = fl (if fa i = fb j then 0 else 1) := fun i j => by
    unfold othV putV
    by_cases h : fa i = fb j
    · rw [if_pos h, if_pos h, fl_zero]
    · rw [if_neg h, if_neg h]
  have hp : (2 : Nat) ^ 50 + 2 < 2 ^ 53 := by decide
  intro s
  induction s using Nat.strongRecOn with
  | ind s ih =>
    intro i j hs hlt
    cases i with
    | zero =>
      cases j with
      | zero => rw [T.z, lev, fl_zero]
      | succ j =>
        have hl := (lev_le fa fb (0 + j) 0 j rfl).1
        rw [T.i, lev, ih (0 + j) (by omega) 0 j rfl (by omega), add_fl (by omega) (by omega) (by omega)]
    | succ i =>
      cases j with
      | zero =>
        have hl := (lev_le fa fb (i + 0) i 0 rfl).1
        rw [T.o, lev, ih (i + 0) (by omega) i 0 rfl (by omega), add_fl (by omega) (by omega) (by omega)]
      | succ j =>
        have l1 := (lev_le fa fb _ i (j + 1) rfl).1
        have l2 := (lev_le fa fb _ (i + 1) j rfl).1
        have l3 := (lev_le fa fb _ i j rfl).1
        have l4 := (lev_le fa fb _ (i - 1) (j - 1) rfl).1
        have e1 := ih (i + (j + 1)) (by omega) i (j + 1) rfl (by omega)
        have e2 := ih (i + 1 + j) (by omega) (i + 1) j rfl (by omega)
        have e3 := ih (i + j) (by omega) i j rfl (by omega)
        have hc : (if fa i = fb j then 0 else 1) ≤ 1 := by split <;> omega
        have hX : minF (minF (addN (t i (j + 1)) (fl 1)) (addN (t (i + 1) j) (fl 1))) (addN (t i j) (othV p 0 (fl 1) (fa i) (fb j))) =
            fl (min (min (lev fa fb i (j + 1) + 1) (lev fa fb (i + 1) j + 1)) (lev fa fb i j + (if fa i = fb j then 0 else 1))) := by
          rw [e1, e2, e3, ho]
          generalize (if fa i = fb j then 0 else 1) = c at *
          rw [add_fl (by omega) (by omega) (by omega), add_fl (by omega) (by omega) (by omega), add_fl (by omega) (by omega) (by omega), min_fl (by omega) (by omega), min_fl (by omega) (by omega)]
        rw [lev]
        cases ht : tnB fa fb (i + 1) (j + 1)
        · rw [T.s i j ht, hX]; rfl
        · have hij : 1 < i + 1 ∧ 1 < j + 1 := by unfold tnB at ht; simp at ht; omega
          obtain ⟨i2, rfl⟩ : ∃ i2, i = i2 + 1 := ⟨i - 1, by omega⟩
          obtain ⟨j2, rfl⟩ : ∃ j2, j = j2 + 1 := ⟨j - 1, by omega⟩
          have e4 := ih (i2 + j2) (by omega) i2 j2 rfl (by omega)
          rw [T.t i2 j2 ht, hX, e4, if_pos rfl]
          simp only [Nat.add_sub_cancel] at l4 ⊢
          generalize (if fa (i2 + 1) = fb (j2 + 1) then 0 else 1) = c at *
          rw [add_fl (by omega) (by omega) (by omega), min_fl (by omega) (by omega)]

end Go.Proofs.Ytkhdemaanakbeaa
