/- Plain facts: floats up to which no number they are; sums; the lesser one; the table of two names. No program is spoken of. -/
import Derived.Test.YtjakjnmfndfehaaWh
import Derived.Test.YtjakjnmfndfehaaRn
namespace Go.Pst
open Go Ieee
set_option linter.unusedVariables false

def NC : Nat := 9221120237041090560
/-- A float, all no numbers as one. -/
def cn (x : Nat) : Nat := if nan64 x then NC else x

theorem nanNC : nan64 NC = true := by decide
theorem cn_nan (x : Nat) : nan64 (cn x) = nan64 x := by unfold cn; cases h : nan64 x <;> simp [h, nanNC]
theorem cn_cn (x : Nat) : cn (cn x) = cn x := by unfold cn; cases h : nan64 x <;> simp [h, nanNC]
theorem cn_of (x : Nat) (h : nan64 x = false) : cn x = x := by unfold cn; rw [h]; rfl
theorem cn_of_nan (x : Nat) (h : nan64 x = true) : cn x = NC := by unfold cn; rw [h]; rfl
theorem cn_eq {x y : Nat} (h : cn x = y) (hn : nan64 y = false) : x = y := by
  have : nan64 x = false := by rw [← cn_nan, h]; exact hn
  rw [← h, cn_of x this]

theorem isNaN64 (x : Nat) : (FloatKind.f64.format.read x).isNaN = nan64 x := by
  show (Ieee.double.read x).isNaN = _
  unfold Format.read nan64
  simp only [sw64, bin64, ir64]
  by_cases h1 : x % 9223372036854775808 < 4503599627370496
  · rw [if_pos h1, decide_eq_false (by omega)]; rfl
  · rw [if_neg h1]
    by_cases h2 : x % 9223372036854775808 < 9218868437227405312
    · rw [if_pos h2, decide_eq_false (by omega)]; rfl
    · rw [if_neg h2]
      by_cases h3 : x % 9223372036854775808 = 9218868437227405312
      · rw [if_pos h3, decide_eq_false (by omega)]; rfl
      · rw [if_neg h3, decide_eq_true (by omega)]; rfl

theorem veq_of_cn {u v : Nat} (h : cn u = cn v) : Reg.Veq (.float .f64 u) (.float .f64 v) := by
  by_cases hu : nan64 u = true
  · have hv : nan64 v = true := by rw [← cn_nan, ← h, cn_nan]; exact hu
    exact .inr ⟨.f64, u, v, rfl, rfl, by rw [isNaN64]; exact hu, by rw [isNaN64]; exact hv⟩
  · simp only [Bool.not_eq_true] at hu
    have hv : nan64 v = false := by rw [← cn_nan, ← h, cn_nan]; exact hu
    rw [cn_of u hu, cn_of v hv] at h
    rw [h]; exact .inl rfl

theorem cn_of_veq {u : Value} {v : Nat} (h : Reg.Veq u (.float .f64 v)) : ∃ x, u = .float .f64 x ∧ cn x = cn v := by
  obtain ⟨x, rfl, h | ⟨h1, h2⟩⟩ := Reg.Veq.of_float h
  · exact ⟨x, rfl, by rw [h]⟩
  · rw [isNaN64] at h1 h2
    exact ⟨x, rfl, by rw [cn_of_nan _ h1, cn_of_nan _ h2]⟩

/-! ### Sums and the like, all no numbers as one -/
def arN (r : Option Nat) : Nat := match r with | some r => r | none => NC
def addN (x y : Nat) : Nat := arN (Ieee.double.add x y)

theorem read_cn (x : Nat) (h : x < 2 ^ 64) : nan64 x = false → Ieee.double.read (cn x) = Ieee.double.read x := fun hn => by rw [cn_of x hn]

theorem write_nan (d : Datum) (h : d.isNaN = false) : nan64 (Ieee.double.write d) = false ∧ Ieee.double.write d < 2 ^ 64 := by
  cases d with
  | number s m p => rw [write64]; exact ⟨nan_wrd _ _ (rnd_lt m p), (wrd_lt _ _ (rnd_lt63 m p)).1⟩
  | infinity s => cases s <;> decide
  | nan s t => cases h

theorem sum_some {a b c : Datum} (h : a.sum b = some c) : c.isNaN = false := by
  unfold Datum.sum at h
  split at h
  · cases h
  · cases h
  · split at h
    · cases h; rfl
    · cases h
  · cases h; rfl
  · cases h; rfl
  · cases h; rfl

theorem sum_nan_left {a b : Datum} (h : a.isNaN = true) : a.sum b = none := by
  cases a with
  | nan s t => cases b <;> rfl
  | _ => cases h
theorem sum_nan_right {a b : Datum} (h : b.isNaN = true) : a.sum b = none := by
  cases b with
  | nan s t => cases a <;> rfl
  | _ => cases h

theorem add_some {x y r : Nat} (h : Ieee.double.add x y = some r) : nan64 r = false ∧ r < 2 ^ 64 := by
  unfold Format.add at h
  cases hs : (Ieee.double.read x).sum (Ieee.double.read y) with
  | none => rw [hs] at h; cases h
  | some c => rw [hs] at h; cases h; exact write_nan c (sum_some hs)

theorem add_nan {x y : Nat} (h : nan64 x = true ∨ nan64 y = true) : Ieee.double.add x y = none := by
  unfold Format.add
  rcases h with h | h
  · rw [sum_nan_left (by rw [← h]; exact isNaN64 x)]; rfl
  · rw [sum_nan_right (by rw [← h]; exact isNaN64 y)]; rfl

theorem add_cn (x y : Nat) : Ieee.double.add (cn x) (cn y) = Ieee.double.add x y := by
  by_cases h : nan64 x = true ∨ nan64 y = true
  · rw [add_nan h, add_nan (by rw [cn_nan, cn_nan]; exact h)]
  · have h1 : nan64 x = false := by cases hx : nan64 x <;> simp_all
    have h2 : nan64 y = false := by cases hx : nan64 y <;> simp_all
    rw [cn_of x h1, cn_of y h2]

theorem addN_cn (x y : Nat) : addN (cn x) (cn y) = addN x y := by unfold addN; rw [add_cn]

theorem cn_addN (x y : Nat) : cn (addN x y) = addN x y := by
  unfold addN arN
  cases h : Ieee.double.add x y with
  | none => exact cn_of_nan _ nanNC
  | some r => exact cn_of _ (add_some h).1

theorem addN_lt (x y : Nat) : addN x y < 2 ^ 64 := by
  unfold addN arN
  cases h : Ieee.double.add x y with
  | none => decide
  | some r => exact (add_some h).2

/-! ### The total order, the lesser one -/
def ordK (b : Nat) : Int := if b < 9223372036854775808 then b else 9223372036854775807 - b
def minF (x y : Nat) : Nat := if nan64 x then x else if nan64 y then y else if ordK x ≤ ordK y then x else y

theorem minF_cn (x y : Nat) (hx : cn x = x) (hy : cn y = y) : cn (minF x y) = minF x y := by
  unfold minF; (repeat' split) <;> assumption
theorem minF_lt (x y : Nat) (hx : x < 2 ^ 64) (hy : y < 2 ^ 64) : minF x y < 2 ^ 64 := by
  unfold minF; (repeat' split) <;> assumption
theorem cn_minF (x y : Nat) : cn (minF x y) = minF (cn x) (cn y) := by
  unfold minF
  rw [cn_nan, cn_nan]
  cases hx : nan64 x
  · cases hy : nan64 y
    · rw [cn_of x hx, cn_of y hy]; simp only [Bool.false_eq_true, if_false]; split
      · exact cn_of x hx
      · exact cn_of y hy
    · simp
  · simp

/-! ### The table -/
/-- cI, cO, cT: what putting in, taking out, changing about costs; pt i j: what a's i-th costs for b's j-th, from 0 on; tn i j: they and those ahead stand changed about. -/
def tab (cI cO cT : Nat) (pt : Nat → Nat → Nat) (tn : Nat → Nat → Bool) : Nat → Nat → Nat
  | 0, 0 => 0
  | i + 1, 0 => addN (tab cI cO cT pt tn i 0) cO
  | 0, j + 1 => addN (tab cI cO cT pt tn 0 j) cI
  | i + 1, j + 1 =>
    if tn i j then minF (minF (minF (addN (tab cI cO cT pt tn i (j + 1)) cO) (addN (tab cI cO cT pt tn (i + 1) j) cI)) (addN (tab cI cO cT pt tn i j) (pt i j))) (addN (tab cI cO cT pt tn (i - 1) (j - 1)) cT)
    else minF (minF (addN (tab cI cO cT pt tn i (j + 1)) cO) (addN (tab cI cO cT pt tn (i + 1) j) cI)) (addN (tab cI cO cT pt tn i j) (pt i j))
termination_by i j => (i, j)
decreasing_by all_goals (simp_wf; omega)

section
variable (cI cO cT : Nat) (pt : Nat → Nat → Nat) (tn : Nat → Nat → Bool)
theorem tab_cn (i j : Nat) : cn (tab cI cO cT pt tn i j) = tab cI cO cT pt tn i j ∧ tab cI cO cT pt tn i j < 2 ^ 64 := by
  cases i with
  | zero =>
    cases j with
    | zero => rw [tab]; exact ⟨by decide, by decide⟩
    | succ j => rw [tab]; exact ⟨cn_addN _ _, addN_lt _ _⟩
  | succ i =>
    cases j with
    | zero => rw [tab]; exact ⟨cn_addN _ _, addN_lt _ _⟩
    | succ j =>
      rw [tab]
      split
      · exact ⟨minF_cn _ _ (minF_cn _ _ (minF_cn _ _ (cn_addN _ _) (cn_addN _ _)) (cn_addN _ _)) (cn_addN _ _), minF_lt _ _ (minF_lt _ _ (minF_lt _ _ (addN_lt _ _) (addN_lt _ _)) (addN_lt _ _)) (addN_lt _ _)⟩
      · exact ⟨minF_cn _ _ (minF_cn _ _ (cn_addN _ _) (cn_addN _ _)) (cn_addN _ _), minF_lt _ _ (minF_lt _ _ (addN_lt _ _) (addN_lt _ _)) (addN_lt _ _)⟩
end

end Go.Pst
