/- Minimum and Maximum. Condition: the bits fit. -/
import Derived.Test.YtpemchghaddgdaaRh
namespace Go.Proofs.Ytpemchghaddgdaa
open Go.RowKit Go.Pst
set_option maxRecDepth 20000
set_option linter.unusedSimpArgs false
set_option linter.unusedVariables false

def minT (a b : Nat) : Nat := if nan64 a then a else if nan64 b then b else if keyT a ≤ keyT b then a else b
def maxT (a b : Nat) : Nat := if nan64 a then a else if nan64 b then b else if keyT b ≤ keyT a then a else b


theorem minimum_any (a b : Nat) (w : World) (ha : a < 2 ^ 64) (hb : b < 2 ^ 64) :
    Calls Try.prog 51 #[.float .f64 a, .float .f64 b] w fun en w' => en = .returned (.float .f64 (minT a b)) ∧ w = w' := by
  obtain ⟨r, hr⟩ : ∃ r, r = minT a b := ⟨_, rfl⟩
  rw [← hr]
  unfold minT at hr
  have H1 := Lib.hid fun w => none_any a w
  have H2 := Lib.hid fun w => none_any b w
  have H3 := Lib.hid fun w => order_any a b w ha hb
  have hc : (cmpI (keyT a) (keyT b) ≤ 0) ↔ keyT a ≤ keyT b := by unfold cmpI; (repeat' split) <;> omega
  replace hr : r = if nan64 a = true then a else if nan64 b = true then b else if cmpI (keyT a) (keyT b) ≤ 0 then a else b := by rw [hr]; simp only [hc]
  generalize cmpI (keyT a) (keyT b) = c at *
  clear hc ha hb
  cases hna : nan64 a
  · rw [hna] at hr H1
    cases hnb : nan64 b
    · rw [hnb] at hr H2
      simp only [Bool.false_eq_true, if_false] at hr
      by_cases h : c ≤ 0
      · rw [if_pos h] at hr
        subst hr
        go_enter Try.func51, Try.ntmps51
        go_wp2_with fail
        refine (H1.out _).mono ?_
        rintro en w' ⟨rfl, rfl⟩
        go_wp2_with fail
        refine (H2.out _).mono ?_
        rintro en w' ⟨rfl, rfl⟩
        go_wp2_with fail
        refine (H3.out _).mono ?_
        rintro en w' ⟨rfl, rfl⟩
        go_wp2_with fail
        go_ret
        exact ⟨rfl, rfl⟩
      · rw [if_neg h] at hr
        subst hr
        go_enter Try.func51, Try.ntmps51
        go_wp2_with fail
        refine (H1.out _).mono ?_
        rintro en w' ⟨rfl, rfl⟩
        go_wp2_with fail
        refine (H2.out _).mono ?_
        rintro en w' ⟨rfl, rfl⟩
        go_wp2_with fail
        refine (H3.out _).mono ?_
        rintro en w' ⟨rfl, rfl⟩
        go_wp2_with fail
        go_ret
        exact ⟨rfl, rfl⟩
    · rw [hnb] at hr H2
      simp only [Bool.false_eq_true, if_false, if_true] at hr
      subst hr
      go_enter Try.func51, Try.ntmps51
      go_wp2_with fail
      refine (H1.out _).mono ?_
      rintro en w' ⟨rfl, rfl⟩
      go_wp2_with fail
      refine (H2.out _).mono ?_
      rintro en w' ⟨rfl, rfl⟩
      go_wp2_with fail
      go_ret
      exact ⟨rfl, rfl⟩
  · rw [hna] at hr H1
    simp only [if_true] at hr
    subst hr
    clear H2 H3
    go_enter Try.func51, Try.ntmps51
    go_wp2_with fail
    refine (H1.out _).mono ?_
    rintro en w' ⟨rfl, rfl⟩
    go_wp2_with fail
    go_ret
    exact ⟨rfl, rfl⟩
theorem maximum_any (a b : Nat) (w : World) (ha : a < 2 ^ 64) (hb : b < 2 ^ 64) :
    Calls Try.prog 52 #[.float .f64 a, .float .f64 b] w fun en w' => en = .returned (.float .f64 (maxT a b)) ∧ w = w' := by
  obtain ⟨r, hr⟩ : ∃ r, r = maxT a b := ⟨_, rfl⟩
  rw [← hr]
  unfold maxT at hr
  have H1 := Lib.hid fun w => none_any a w
  have H2 := Lib.hid fun w => none_any b w
  have H3 := Lib.hid fun w => order_any a b w ha hb
  have hc : (0 ≤ cmpI (keyT a) (keyT b)) ↔ keyT b ≤ keyT a := by unfold cmpI; (repeat' split) <;> omega
  replace hr : r = if nan64 a = true then a else if nan64 b = true then b else if 0 ≤ cmpI (keyT a) (keyT b) then a else b := by rw [hr]; simp only [hc]
  generalize cmpI (keyT a) (keyT b) = c at *
  clear hc ha hb
  cases hna : nan64 a
  · rw [hna] at hr H1
    cases hnb : nan64 b
    · rw [hnb] at hr H2
      simp only [Bool.false_eq_true, if_false] at hr
      by_cases h : 0 ≤ c
      · rw [if_pos h] at hr
        subst hr
        go_enter Try.func52, Try.ntmps52
        go_wp2_with fail
        refine (H1.out _).mono ?_
        rintro en w' ⟨rfl, rfl⟩
        go_wp2_with fail
        refine (H2.out _).mono ?_
        rintro en w' ⟨rfl, rfl⟩
        go_wp2_with fail
        refine (H3.out _).mono ?_
        rintro en w' ⟨rfl, rfl⟩
        go_wp2_with fail
        go_ret
        exact ⟨rfl, rfl⟩
      · rw [if_neg h] at hr
        subst hr
        go_enter Try.func52, Try.ntmps52
        go_wp2_with fail
        refine (H1.out _).mono ?_
        rintro en w' ⟨rfl, rfl⟩
        go_wp2_with fail
        refine (H2.out _).mono ?_
        rintro en w' ⟨rfl, rfl⟩
        go_wp2_with fail
        refine (H3.out _).mono ?_
        rintro en w' ⟨rfl, rfl⟩
        go_wp2_with fail
        go_ret
        exact ⟨rfl, rfl⟩
    · rw [hnb] at hr H2
      simp only [Bool.false_eq_true, if_false, if_true] at hr
      subst hr
      go_enter Try.func52, Try.ntmps52
      go_wp2_with fail
      refine (H1.out _).mono ?_
      rintro en w' ⟨rfl, rfl⟩
      go_wp2_with fail
      refine (H2.out _).mono ?_
      rintro en w' ⟨rfl, rfl⟩
      go_wp2_with fail
      go_ret
      exact ⟨rfl, rfl⟩
  · rw [hna] at hr H1
    simp only [if_true] at hr
    subst hr
    clear H2 H3
    go_enter Try.func52, Try.ntmps52
    go_wp2_with fail
    refine (H1.out _).mono ?_
    rintro en w' ⟨rfl, rfl⟩
    go_wp2_with fail
    go_ret
    exact ⟨rfl, rfl⟩

end Go.Proofs.Ytpemchghaddgdaa
