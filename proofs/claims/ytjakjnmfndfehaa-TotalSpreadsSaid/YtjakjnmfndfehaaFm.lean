/- Plain facts: finite floats as whole numbers in units of 2^-1074: what can be had exactly, sums, differences, halves, comparisons. No condition. -/
import Derived.Test.YtjakjnmfndfehaaMd
namespace Go.Pst
open Go Ieee Go.RowKit
set_option linter.unusedVariables false
set_option linter.unusedSimpArgs false

/-- A float has just this size. -/
def Rep (n : Nat) : Prop := rv (rz n) = n ∧ rz n < 9218868437227405312

theorem rep_mul (m j : Nat) (hm : m < 2 ^ 53) (hj : j ≤ 2045) : Rep (m * 2 ^ j) := by
  rcases Nat.lt_or_ge j 2045 with h | h
  · have := rv_exact m j hm (by omega)
    rw [rnd_rz] at this
    exact this
  · obtain ⟨k, hk⟩ : ∃ k, j = k + 1 := ⟨j - 1, by omega⟩
    rcases Nat.lt_or_ge m (2 ^ 52) with h2 | h2
    · have := rv_exact (2 * m) k (by omega) (by omega)
      have e : 2 * m * 2 ^ k = m * 2 ^ j := by rw [hk, Nat.pow_succ, Nat.mul_comm 2 m, Nat.mul_assoc, Nat.mul_comm 2]
      rw [rnd_rz, e] at this
      exact this
    · have hr := rnd_normal m (-1074 + ((j : Nat) : Int)) h2 hm
      rw [rnd_rz, if_pos (by omega), show (-1074 + ((j : Nat) : Int) + 1074).toNat = 2045 by omega] at hr
      have hv : rz (m * 2 ^ j) = 2045 * 4503599627370496 + m := by omega
      unfold Rep
      rw [hv]
      refine ⟨?_, by omega⟩
      have e1 : expF (2045 * 4503599627370496 + m) = 2046 := by unfold expF; omega
      have e2 : mantB (2045 * 4503599627370496 + m) = m := by unfold mantB; rw [e1, if_neg (by decide)]; omega
      have e3 : placeB (2045 * 4503599627370496 + m) = j := by unfold placeB; rw [e1]; omega
      unfold rv
      rw [e2, e3]

theorem rep_float {b : Nat} (h : b < 9218868437227405312) : Rep (rv b) ∧ rz (rv b) = b := by
  have hb : b < 2 ^ 64 := by omega
  have hm : b % 9223372036854775808 = b := Nat.mod_eq_of_lt (by omega)
  have hn : nan64 b = false := by unfold nan64; rw [hm]; exact decide_eq_false (by omega)
  have hi : infB b = false := by unfold infB; rw [hm]; exact decide_eq_false (by omega)
  have h1 := rnd_read b hb hn hi
  rw [rnd_rz, hm] at h1
  have h2 : rz (rv b) = b := h1
  refine ⟨?_, h2⟩
  unfold Rep
  rw [h2]; exact ⟨rfl, h⟩

/-- The size of a finite float. -/
def magN (b : Nat) : Nat := mantB b * 2 ^ placeB b
theorem magN_rv (b : Nat) : magN b = rv (b % 9223372036854775808) := (rv_mod b).symm
theorem fin_lt {b : Nat} (h : finB b) : b % 9223372036854775808 < 9218868437227405312 := by
  obtain ⟨_, hn, hi⟩ := h
  unfold nan64 at hn; unfold infB at hi
  simp only [decide_eq_false_iff_not] at hn hi
  omega
theorem rep_mag {b : Nat} (h : finB b) : Rep (magN b) ∧ rz (magN b) = b % 9223372036854775808 := by
  rw [magN_rv]; exact rep_float (fin_lt h)
theorem valZ_mag (b : Nat) : valZ b = sgn (negB b) (magN b) := valZ_eq b
theorem mag_abs (b : Nat) : magN b = (valZ b).natAbs := by
  rw [valZ_mag]; unfold sgn; generalize magN b = z; cases negB b <;> simp

/-- A float by its sign and size. -/
def zF (s : Bool) (n : Nat) : Nat := wrd s (rz n)
theorem zF_fin {n : Nat} (h : Rep n) (s : Bool) : finB (zF s n) ∧ negB (zF s n) = s ∧ valZ (zF s n) = sgn s n ∧ magN (zF s n) = n := by
  unfold zF
  obtain ⟨h1, h2⟩ := h
  obtain ⟨g1, g2, g3⟩ := wrd_lt s (rz n) (by omega)
  have hv : valZ (wrd s (rz n)) = sgn s n := by
    rw [valZ_wrd _ _ (by omega), h1]
    unfold sgn
    cases s
    · rfl
    · rfl
  refine ⟨⟨g1, nan_wrd _ _ (by omega), by unfold infB; rw [g2]; exact decide_eq_false (by omega)⟩, g3, hv, ?_⟩
  rw [magN_rv, g2, h1]
theorem zF_of {b : Nat} (h : finB b) : b = zF (negB b) (magN b) := by
  unfold zF; rw [(rep_mag h).2, wrd_mod b h.1]

/-! ### Comparisons -/
theorem flt_fin {x y : Nat} (hx : finB x) (hy : finB y) : flt .f64 x y = decide (valZ x < valZ y) := by
  rw [flt64, hx.2.1, hy.2.1]
  have := key_lt_iff x y hx.1 hy.1 hx.2.1 hy.2.1
  rw [Bool.eq_iff_iff]; simp [this]
theorem fgt_fin {x y : Nat} (hx : finB x) (hy : finB y) : fgt .f64 x y = decide (valZ y < valZ x) := by
  rw [fgt64, hx.2.1, hy.2.1]
  have := key_lt_iff y x hy.1 hx.1 hy.2.1 hx.2.1
  rw [Bool.eq_iff_iff]; simp [this]
theorem feq_fin {x y : Nat} (hx : finB x) (hy : finB y) : feq .f64 x y = decide (valZ x = valZ y) := by
  rw [feq64, hx.2.1, hy.2.1]
  have := key_eq_iff x y hx.1 hy.1 hx.2.1 hy.2.1
  rw [Bool.eq_iff_iff]; simp [this]

/-! ### Exact differences and sums -/
theorem sub_fin' {x y : Nat} (hx : finB x) (hy : finB y) : arD .sub x y =
    some (wrd (if valZ x - valZ y = 0 then negB x && !negB y else decide (valZ x - valZ y < 0)) (rz (valZ x - valZ y).natAbs)) := by
  show ((Ieee.double.read x).sum (Ieee.double.read y).opposite).map Ieee.double.write = _
  rw [read_fin hx, read_fin hy]
  show ((Datum.number (negB x) (mantB x) (-1074 + (placeB x : Nat))).sum (.number (!negB y) (mantB y) (-1074 + (placeB y : Nat)))).map Ieee.double.write = _
  rw [sum_num]
  have e : sgn (!negB y) (mantB y * 2 ^ placeB y) = -valZ y := by
    rw [valZ_eq]; unfold sgn; cases negB y <;> simp
  rw [e, ← valZ_eq x, ← Int.sub_eq_add_neg]

theorem add_fin' {x y : Nat} (hx : finB x) (hy : finB y) : arD .add x y =
    some (wrd (if valZ x + valZ y = 0 then negB x && negB y else decide (valZ x + valZ y < 0)) (rz (valZ x + valZ y).natAbs)) := add_fin hx hy

theorem add_exact {x y : Nat} (hx : finB x) (hy : finB y) (hr : Rep (valZ x + valZ y).natAbs) :
    ∃ r, arD .add x y = some r ∧ finB r ∧ valZ r = valZ x + valZ y ∧ negB r = (if valZ x + valZ y = 0 then negB x && negB y else decide (valZ x + valZ y < 0)) := by
  refine ⟨_, add_fin' hx hy, ?_⟩
  generalize valZ x + valZ y = d at *
  obtain ⟨g1, g2, g3, g4⟩ := zF_fin hr (if d = 0 then negB x && negB y else decide (d < 0))
  refine ⟨g1, ?_, g2⟩
  show valZ (zF _ _) = d
  rw [g3]
  unfold sgn
  by_cases h0 : d = 0
  · subst h0; simp
  · rw [if_neg h0]
    by_cases hd : d < 0
    · rw [decide_eq_true hd, if_pos rfl]; omega
    · rw [decide_eq_false hd, if_neg (by simp)]; omega

theorem sub_exact {x y : Nat} (hx : finB x) (hy : finB y) (hr : Rep (valZ x - valZ y).natAbs) :
    ∃ r, arD .sub x y = some r ∧ finB r ∧ valZ r = valZ x - valZ y ∧ negB r = (if valZ x - valZ y = 0 then negB x && !negB y else decide (valZ x - valZ y < 0)) := by
  refine ⟨_, sub_fin' hx hy, ?_⟩
  generalize valZ x - valZ y = d at *
  obtain ⟨g1, g2, g3, g4⟩ := zF_fin hr (if d = 0 then negB x && !negB y else decide (d < 0))
  refine ⟨g1, ?_, g2⟩
  show valZ (zF _ _) = d
  rw [g3]
  unfold sgn
  by_cases h0 : d = 0
  · subst h0; simp
  · rw [if_neg h0]
    by_cases hd : d < 0
    · rw [decide_eq_true hd, if_pos rfl]; omega
    · rw [decide_eq_false hd, if_neg (by simp)]; omega

/-- A difference of two that are no farther than a factor of two apart is exact. -/
theorem rep_diff {x y : Nat} (hx : finB x) (hy : finB y) (h1 : magN y ≤ 2 * magN x) (h2 : magN x ≤ 2 * magN y) (n : Nat) (hn : (n : Int) = magN x - magN y ∨ (n : Int) = magN y - magN x) : Rep n := by
  have px : placeB x ≤ 2045 := by have := fin_lt hx; unfold placeB expF; omega
  have py : placeB y ≤ 2045 := by have := fin_lt hy; unfold placeB expF; omega
  have mx := mant_lt x
  have my := mant_lt y
  have bx : magN x < 2 ^ 53 * 2 ^ placeB x := Nat.mul_lt_mul_of_pos_right mx (Nat.two_pow_pos _)
  have by' : magN y < 2 ^ 53 * 2 ^ placeB y := Nat.mul_lt_mul_of_pos_right my (Nat.two_pow_pos _)
  have key : ∀ (p A B : Nat), p ≤ 2045 → magN x = A * 2 ^ p → magN y = B * 2 ^ p → n < 2 ^ 53 * 2 ^ p → Rep n := fun p A B hp ea eb hlt => by
    have hp0 := Nat.two_pow_pos p
    obtain ⟨k, hk⟩ : ∃ k, n = k * 2 ^ p := by
      rcases hn with h | h
      · refine ⟨A - B, ?_⟩
        rw [Nat.sub_mul, ← ea, ← eb]; omega
      · refine ⟨B - A, ?_⟩
        rw [Nat.sub_mul, ← ea, ← eb]; omega
    rw [hk] at hlt ⊢
    exact rep_mul k p (Nat.lt_of_mul_lt_mul_right hlt) hp
  rcases Nat.le_total (placeB x) (placeB y) with h | h
  · refine key (placeB x) (mantB x) (mantB y * 2 ^ (placeB y - placeB x)) px rfl ?_ (by omega)
    rw [Nat.mul_assoc, ← Nat.pow_add, show placeB y - placeB x + placeB x = placeB y by omega]; rfl
  · refine key (placeB y) (mantB x * 2 ^ (placeB x - placeB y)) (mantB y) py ?_ rfl (by omega)
    rw [Nat.mul_assoc, ← Nat.pow_add, show placeB x - placeB y + placeB y = placeB x by omega]; rfl

theorem rep_twice {y : Nat} (hy : finB y) (h : y % 9223372036854775808 ≤ 9214364837600034815) : Rep (2 * magN y) := by
  have := rep_mul (mantB y) (placeB y + 1) (mant_lt y) (by unfold placeB expF; omega)
  rw [Nat.pow_succ, ← Nat.mul_assoc, Nat.mul_comm _ 2] at this
  exact this

theorem half_float {y : Nat} (hy : finB y) (h : 9007199254740992 ≤ y) (hn : negB y = false) : ∃ r, arD .mul 4602678819172646912 y = some r ∧ finB r ∧ 2 * valZ r = valZ y := by
  obtain ⟨f1, f2, f3, f4⟩ := fin_pow 1022 (by omega) (by omega)
  rw [show 1022 * 4503599627370496 = 4602678819172646912 from rfl] at f1 f2 f3 f4
  have hlt := fin_lt hy
  have hy63 : y < 9223372036854775808 := by unfold negB at hn; simpa using hn
  have hp1 : 1 ≤ placeB y := by unfold placeB expF; omega
  have hp2 : placeB y ≤ 2045 := by unfold placeB expF; omega
  refine ⟨_, arD_mul_fin f1 hy, ?_⟩
  rw [f2, hn, f3, f4, Bool.xor_false]
  have e := rnd_shift 52 11 (mantB y) 52 (-1074 + ((placeB y - 1 : Nat) : Int))
  have e2 : rndN 52 11 (4503599627370496 * mantB y) (-1074 + ((1022 - 1 : Nat) : Int) + (-1074 + (placeB y : Nat))) = rz (mantB y * 2 ^ (placeB y - 1)) := by
    rw [← rnd_rz, ← e, show (2 : Nat) ^ 52 = 4503599627370496 from rfl, Nat.mul_comm]
    congr 1
    omega
  rw [e2]
  have hr := rep_mul (mantB y) (placeB y - 1) (mant_lt y) (by omega)
  obtain ⟨g1, g2, g3, g4⟩ := zF_fin hr false
  refine ⟨g1, ?_⟩
  show 2 * valZ (zF false _) = _
  rw [g3, valZ_mag, hn]
  show 2 * ((mantB y * 2 ^ (placeB y - 1) : Nat) : Int) = ((mantB y * 2 ^ placeB y : Nat) : Int)
  obtain ⟨q, hq⟩ : ∃ q, placeB y = q + 1 := ⟨placeB y - 1, by omega⟩
  rw [hq, Nat.add_sub_cancel, Nat.pow_succ, ← Nat.mul_assoc]
  omega
end Go.Pst
