/- The way back through the table: the same number, one step, and what steps there are. Conditions: places within the names. -/
import Derived.Test.YtkhdemaanakbeaaLi
namespace Go.Proofs.Ytkhdemaanakbeaa
open Go.RowKit Go.Pst
set_option maxRecDepth 20000
set_option linter.unusedSimpArgs false
set_option linter.unusedVariables false
attribute [local go_sem] x64bits
/-- real.Same. -/
theorem msame_any (a b : Nat) (w : World) : Calls Try.prog 69 #[.float .f64 a, .float .f64 b] w fun en w' => en = .returned (.bool (cn a == cn b)) ∧ w = w' := by
  have HN := Lib.hid fun x w => none_any x w
  obtain ⟨r, hr⟩ : ∃ r, r = (cn a == cn b) := ⟨_, rfl⟩
  rw [← hr]
  cases hna : nan64 a
  · have h1 : r = ((a : Int) == (b : Int)) := by
      rw [hr, cn_of a hna, Bool.eq_iff_iff]
      simp only [beq_iff_eq]
      cases hnb : nan64 b
      · rw [cn_of b hnb]; omega
      · constructor
        · intro h; rw [h, cn_nan, hnb] at hna; cases hna
        · intro h; have : a = b := by omega
          rw [this, hnb] at hna; cases hna
    have HA := Lib.hid fun w => none_any a w
    rw [hna] at HA
    have HR := Lib.hid h1
    clear hr h1 hna
    go_enter Try.func69, Try.ntmps69
    go_wp2_with fail
    refine (HA.out _).mono ?_
    rintro en w' ⟨rfl, rfl⟩
    go_wp2_with fail
    go_ret
    exact ⟨by rw [HR.out]; first | rfl | simp, rfl⟩
  · cases hnb : nan64 b
    · have h1 : r = ((a : Int) == (b : Int)) := by
        rw [hr, cn_of b hnb, Bool.eq_iff_iff]
        simp only [beq_iff_eq]
        constructor
        · intro h; rw [← h, cn_nan, hna] at hnb; cases hnb
        · intro h; have : a = b := by omega
          rw [this, hnb] at hna; cases hna
      have HA := Lib.hid fun w => none_any a w
      have HB := Lib.hid fun w => none_any b w
      rw [hna] at HA
      rw [hnb] at HB
      have HR := Lib.hid h1
      clear hr h1 hna hnb
      go_enter Try.func69, Try.ntmps69
      go_wp2_with fail
      refine (HA.out _).mono ?_
      rintro en w' ⟨rfl, rfl⟩
      go_wp2_with fail
      refine (HB.out _).mono ?_
      rintro en w' ⟨rfl, rfl⟩
      go_wp2_with fail
      go_ret
      exact ⟨by rw [HR.out]; first | rfl | simp, rfl⟩
    · have h1 : r = true := by rw [hr, cn_of_nan a hna, cn_of_nan b hnb]; exact beq_self_eq_true _
      have HA := Lib.hid fun w => none_any a w
      have HB := Lib.hid fun w => none_any b w
      rw [hna] at HA
      rw [hnb] at HB
      have HR := Lib.hid h1
      clear hr h1 hna hnb
      go_enter Try.func69, Try.ntmps69
      go_wp2_with fail
      refine (HA.out _).mono ?_
      rintro en w' ⟨rfl, rfl⟩
      go_wp2_with fail
      refine (HB.out _).mono ?_
      rintro en w' ⟨rfl, rfl⟩
      go_wp2_with fail
      go_ret
      exact ⟨by rw [HR.out]; rfl, rfl⟩
section
variable (T : Nat → Nat → Nat) (cO cX cT : Nat) (p : Nat → Int × Int × Nat) (np : Nat) (fa fb : Nat → Int)
/-- May the step to (i, j) be an exchange, a turn, a taking out? -/
def bkA (i j : Nat) : Bool := decide (0 < i) && decide (0 < j) && (addN (T (i - 1) (j - 1)) (othV p np cX (fa (i - 1)) (fb (j - 1))) == T i j)
def bkT (i j : Nat) : Bool := tnB fa fb i j && (addN (T (i - 2) (j - 2)) cT == T i j)
def bkO (i j : Nat) : Bool := decide (j = 0) || (decide (0 < i) && (addN (T (i - 1) j) cO == T i j))
/-- The kind of the step. -/
def bkK (i j : Nat) : Nat := if bkA T cX p np fa fb i j then (if fa (i - 1) = fb (j - 1) then 1 else 2) else if bkT T cT fa fb i j then 5 else if bkO T cO i j then 3 else 4
end
def edK (fa fb : Nat → Int) (k i j : Nat) : Int × Int × Int :=
  if k = 1 then (1, fa (i - 1), fb (j - 1)) else if k = 2 then (2, fa (i - 1), fb (j - 1)) else if k = 5 then (5, fa (i - 2), fa (i - 1)) else if k = 3 then (3, fa (i - 1), 0) else (4, 0, fb (j - 1))
def prK (k i j : Nat) : Nat × Nat := if k = 1 then (i - 1, j - 1) else if k = 2 then (i - 1, j - 1) else if k = 5 then (i - 2, j - 2) else if k = 3 then (i - 1, j) else (i, j - 1)
/-- What the step to (i, j) is: within the names. -/
theorem bk_in {T : Nat → Nat → Nat} {cO cX cT : Nat} {p : Nat → Int × Int × Nat} {np : Nat} {fa fb : Nat → Int} {i j : Nat} (h : 0 < i ∨ 0 < j) :
    (bkK T cO cX cT p np fa fb i j = 1 ∧ 0 < i ∧ 0 < j ∧ fa (i - 1) = fb (j - 1) ∧ bkA T cX p np fa fb i j = true) ∨
    (bkK T cO cX cT p np fa fb i j = 2 ∧ 0 < i ∧ 0 < j ∧ fa (i - 1) ≠ fb (j - 1) ∧ bkA T cX p np fa fb i j = true) ∨
    (bkK T cO cX cT p np fa fb i j = 5 ∧ 1 < i ∧ 1 < j ∧ tnB fa fb i j = true ∧ bkA T cX p np fa fb i j = false ∧ bkT T cT fa fb i j = true) ∨
    (bkK T cO cX cT p np fa fb i j = 3 ∧ 0 < i ∧ bkA T cX p np fa fb i j = false ∧ bkT T cT fa fb i j = false ∧ bkO T cO i j = true) ∨
    (bkK T cO cX cT p np fa fb i j = 4 ∧ 0 < j ∧ bkA T cX p np fa fb i j = false ∧ bkT T cT fa fb i j = false ∧ bkO T cO i j = false) := by
  unfold bkK
  cases hA : bkA T cX p np fa fb i j
  · rw [if_neg Bool.false_ne_true]
    cases hT : bkT T cT fa fb i j
    · rw [if_neg Bool.false_ne_true]
      cases hO : bkO T cO i j
      · rw [if_neg Bool.false_ne_true]
        refine .inr (.inr (.inr (.inr ⟨rfl, ?_, rfl, rfl, rfl⟩)))
        unfold bkO at hO
        rw [Bool.or_eq_false_iff, decide_eq_false_iff_not] at hO
        omega
      · rw [if_pos rfl]
        refine .inr (.inr (.inr (.inl ⟨rfl, ?_, rfl, rfl, rfl⟩)))
        unfold bkO at hO
        rw [Bool.or_eq_true, decide_eq_true_eq, Bool.and_eq_true, decide_eq_true_eq] at hO
        omega
    · rw [if_pos rfl]
      have h2 := hT
      unfold bkT at h2
      rw [Bool.and_eq_true] at h2
      have h3 := h2.1
      unfold tnB at h3
      simp only [Bool.and_eq_true, decide_eq_true_eq] at h3
      exact .inr (.inr (.inl ⟨rfl, h3.1.1.1, h3.1.1.2, h2.1, rfl, rfl⟩))
  · rw [if_pos rfl]
    have h2 := hA
    unfold bkA at h2
    simp only [Bool.and_eq_true, decide_eq_true_eq] at h2
    by_cases e : fa (i - 1) = fb (j - 1)
    · rw [if_pos e]; exact .inl ⟨rfl, h2.1.1, h2.1.2, e, rfl⟩
    · rw [if_neg e]; exact .inr (.inl ⟨rfl, h2.1.1, h2.1.2, e, rfl⟩)
end Go.Proofs.Ytkhdemaanakbeaa
