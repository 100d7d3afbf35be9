/- Small contracts for TotalCancels: same on two numbers, the size of a number; a number less itself. No condition. -/
import Derived.Test.YtjakjnmfndfehaaKc
namespace Go.Proofs.Ytjakjnmfndfehaa
open Go Ieee Go.RowKit Go.Pst
set_option maxRecDepth 20000
set_option linter.unusedSimpArgs false
set_option linter.unusedVariables false
theorem self_fin {b : Nat} (h : finB b) : arV .sub b b = 0 := by
  rw [arV_sub_fin h h, if_pos (by omega)]
  have e1 : (negB b && !negB b) = false := by cases negB b <;> rfl
  have e2 : (valZ b - valZ b).natAbs = 0 := by omega
  rw [e1, e2]; decide +kernel
theorem self_not {b : Nat} (hb : b < 2 ^ 64) (h : ¬ finB b) : arV .sub b b = NC := by
  unfold arV arN arD floatBits
  show (match ((Ieee.double.read b).sum (Ieee.double.read b).opposite).map Ieee.double.write with | some r => r | none => NC) = _
  rcases three_kinds hb with ⟨h1, h2⟩ | ⟨h1, h2, h3, h4⟩ | h1
  · rw [sum_nan_left (by rw [← h1]; exact isNaN64 b)]; rfl
  · rw [h4]; cases negB b <;> rfl
  · exact absurd h1 h
/-- A sum is finite of finite numbers alone. -/
theorem add_fin_both {a b : Nat} (ha : a < 2 ^ 64) (hb : b < 2 ^ 64) (h : finB (arV .add a b)) : finB a ∧ finB b := by
  have nc : ¬ finB NC := fun g => by have := g.2.1; revert this; decide
  have ni : ∀ s, ¬ finB (wrd s 9218868437227405312) := fun s g => by have := g.2.2; revert this; cases s <;> decide
  rcases three_kinds ha with ⟨h1, h2⟩ | ⟨h1, h2, h3, h4⟩ | h1
  · rw [arV_nan (.inl h1)] at h; exact absurd h nc
  · rcases three_kinds hb with ⟨g1, g2⟩ | ⟨g1, g2, g3, g4⟩ | g1
    · rw [arV_nan (.inr g1)] at h; exact absurd h nc
    · rw [arV_inf2 h4 g4] at h
      split at h
      · exact absurd h (ni _)
      · exact absurd h nc
    · rw [arV_infl h4 g1] at h; exact absurd h (ni _)
  · rcases three_kinds hb with ⟨g1, g2⟩ | ⟨g1, g2, g3, g4⟩ | g1
    · rw [arV_nan (.inr g1)] at h; exact absurd h nc
    · rw [arV_infr h1 g4] at h; exact absurd h (ni _)
    · exact ⟨h1, g1⟩
def K42 : Nat := 2042
def MX8 : Nat := 9205357638345293823
theorem mx8 : valZ MX8 = ((9007199254740991 * 2 ^ K42 : Nat) : Int) := by decide +kernel
theorem siz_fin {b : Nat} (h : finB b) : finB (sizV b) ∧ valZ (sizV b) = (magN b : Int) := by
  have h0 : finB 0 := ⟨by omega, by decide, by decide⟩
  have v0 : valZ 0 = 0 := by decide
  unfold sizV
  rw [flt_fin h h0, v0, mag_abs]
  by_cases hz : valZ b < 0
  · rw [decide_eq_true hz, if_pos rfl]
    exact ⟨(flip_fin h).1, by rw [(flip_fin h).2]; omega⟩
  · rw [decide_eq_false hz, if_neg Bool.false_ne_true]
    exact ⟨h, by omega⟩
theorem siz_small {b : Nat} (h : finB b) (hs : fgt .f64 (sizV b) MX8 = false) : magN b < 2 ^ K95 := by
  have hm : finB MX8 := ⟨by decide, by decide, by decide⟩
  obtain ⟨g1, g2⟩ := siz_fin h
  rw [fgt_fin g1 hm, g2, mx8, decide_eq_false_iff_not] at hs
  have e : K95 = 53 + K42 := by decide
  rw [e, Nat.pow_add]
  have hP := Nat.two_pow_pos K42
  generalize 2 ^ K42 = P at *
  omega
attribute [local go_sem] run_fneg m64bits
theorem size_any (b : Nat) (w : World) : Calls Try.prog 32 #[.float .f64 b] w fun en w' => en = .returned (.float .f64 (sizV b)) ∧ w = w' := by
  obtain ⟨r, hr⟩ : ∃ r, r = sizV b := ⟨_, rfl⟩
  rw [← hr]
  unfold sizV at hr
  cases h : flt .f64 b 0
  · rw [h, if_neg Bool.false_ne_true] at hr
    rw [hr]
    clear hr
    go_enter Try.func32, Try.ntmps32
    go_wp2_with fail
    go_ret
    exact ⟨rfl, rfl⟩
  · rw [h, if_pos rfl] at hr
    have HR := Lib.hid hr.symm
    clear hr
    go_enter Try.func32, Try.ntmps32
    go_wp2_with fail
    go_ret
    exact ⟨congrArg (fun x => Ending.returned (Value.float .f64 x)) HR.out, rfl⟩
theorem pSame_num (a b : Nat) (w : World) (h : nan64 a = false) : Calls Try.prog 73 #[.float .f64 a, .float .f64 b] w fun en w' => en = .returned (.bool ((a : Int) == (b : Int))) ∧ w = w' := by
  have ha := fun w => pnone_any a w
  rw [h] at ha
  have HA := Lib.hid ha
  clear ha h
  obtain ⟨r, hr⟩ : ∃ r, r = ((a : Int) == (b : Int)) := ⟨_, rfl⟩
  rw [← hr]
  go_enter Try.func73, Try.ntmps73
  go_wp2_with fail
  refine (HA.out _).mono ?_
  rintro en w' ⟨rfl, rfl⟩
  go_wp2_with fail
  go_ret
  exact ⟨by first | rfl | (rw [hr]; rfl) | (simp [hr]), rfl⟩
theorem psame_num (a b : Nat) (w : World) (h : nan64 a = false) : Calls Try.prog 20 #[.float .f64 a, .float .f64 b] w fun en w' => en = .returned (.bool ((a : Int) == (b : Int))) ∧ w = w' := by
  have HS := Lib.hid fun w => pSame_num a b w h
  clear h
  generalize ((a : Int) == (b : Int)) = r at *
  go_enter Try.func20, Try.ntmps20
  go_wp2_with fail
  refine (HS.out _).mono ?_
  rintro en w' ⟨rfl, rfl⟩
  go_wp2_with fail
  go_ret
  exact ⟨rfl, rfl⟩
end Go.Proofs.Ytjakjnmfndfehaa
