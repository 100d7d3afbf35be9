/- Plain facts: sums and differences of floats that are not too great, as whole numbers; Two loses nothing. No condition. -/
import Derived.Test.YtjakjnmfndfehaaKa
namespace Go.Proofs.Ytjakjnmfndfehaa
open Go Ieee Go.Pst
set_option linter.unusedVariables false
set_option linter.unusedSimpArgs false
def K95 : Nat := 2095
theorem k95 : 4 * 2 ^ K95 ≤ 2 ^ K97 := by
  have e : K97 = K95 + 2 := by decide
  rw [e, Nat.pow_add]
  generalize 2 ^ K95 = x
  omega
theorem fz_fin {x : Nat} (h : finB x) : Fz (valZ x) := by
  refine ⟨placeB x, Int.ofNat_dvd_left.2 ?_, ?_⟩
  · rw [← mag_abs]; exact Nat.dvd_mul_left _ _
  · rw [← mag_abs]
    have : mantB x < 9007199254740992 := by unfold mantB; split <;> omega
    exact Nat.mul_le_mul_right _ (Nat.le_of_lt this)
theorem wrd_fin {n : Nat} (s : Bool) (h : n < 2 ^ K97) : finB (wrd s (rz n)) ∧ valZ (wrd s (rz n)) = sgn s (rv (rz n)) := by
  obtain ⟨k, k0, k1, k2, k3⟩ := rz_spec h
  obtain ⟨g1, g2, g3⟩ := wrd_lt s (rz n) (by omega)
  exact ⟨⟨g1, nan_wrd _ _ (by omega), by unfold infB; rw [g2]; exact decide_eq_false (by omega)⟩, valZ_wrd _ _ (by omega)⟩
theorem RZ_zero : RZ 0 = 0 := RZ_id (by show (0 : Nat) < 2 ^ K97; exact Nat.two_pow_pos _) Fz_zero
theorem add_R {x y : Nat} (hx : finB x) (hy : finB y) (h : (valZ x + valZ y).natAbs < 2 ^ K97) : finB (arV .add x y) ∧ valZ (arV .add x y) = RZ (valZ x + valZ y) := by
  rw [arV_add_fin hx hy]
  obtain ⟨g1, g2⟩ := wrd_fin (if valZ x + valZ y = 0 then negB x && negB y else decide (valZ x + valZ y < 0)) h
  refine ⟨g1, g2.trans ?_⟩
  split
  · rename_i h0
    rw [h0, RZ_zero]
    have : rv (rz (Int.natAbs 0)) = 0 := by
      have h1 := RZ_zero
      unfold RZ sgn at h1
      simpa using h1
    rw [this]; unfold sgn; cases (negB x && negB y) <;> rfl
  · rfl
theorem arV_sub_fin {x y : Nat} (hx : finB x) (hy : finB y) : arV .sub x y = wrd (if valZ x - valZ y = 0 then negB x && !negB y else decide (valZ x - valZ y < 0)) (rz (valZ x - valZ y).natAbs) := by
  unfold arV arN
  rw [sub_fin' hx hy]
theorem sub_R {x y : Nat} (hx : finB x) (hy : finB y) (h : (valZ x - valZ y).natAbs < 2 ^ K97) : finB (arV .sub x y) ∧ valZ (arV .sub x y) = RZ (valZ x - valZ y) := by
  rw [arV_sub_fin hx hy]
  obtain ⟨g1, g2⟩ := wrd_fin (if valZ x - valZ y = 0 then negB x && !negB y else decide (valZ x - valZ y < 0)) h
  refine ⟨g1, g2.trans ?_⟩
  split
  · rename_i h0
    rw [h0, RZ_zero]
    have : rv (rz (Int.natAbs 0)) = 0 := by
      have h1 := RZ_zero
      unfold RZ sgn at h1
      simpa using h1
    rw [this]; unfold sgn; cases (negB x && !negB y) <;> rfl
  · rfl
/-- Two loses nothing. -/
theorem two_exact {a b : Nat} (ha : finB a) (hb : finB b) (hA : magN a < 2 ^ K95) (hB : magN b < 2 ^ K95) :
    finB (twS a b) ∧ finB (twL a b) ∧ valZ (twS a b) + valZ (twL a b) = valZ a + valZ b ∧ valZ (twS a b) = RZ (valZ a + valZ b) := by
  rw [mag_abs] at hA hB
  have K := knuth (a := valZ a) (b := valZ b) (M := ((2 ^ K95 : Nat) : Int)) (by rw [Int.natAbs_natCast]; exact k95) (fz_fin ha) (fz_fin hb) (by rw [Int.natAbs_natCast]; exact hA) (by rw [Int.natAbs_natCast]; exact hB) rfl rfl rfl rfl rfl rfl
  obtain ⟨k1, k2, k3, k4, k5, k6, k7⟩ := K
  obtain ⟨s1, s2⟩ := add_R ha hb k2
  have s2' : valZ (twS a b) = RZ (valZ a + valZ b) := s2
  have s1' : finB (twS a b) := s1
  rw [← s2'] at k1 k3 k4 k5 k6 k7
  obtain ⟨t1, t2⟩ := sub_R s1' ha k3
  have t2' : valZ (twT a b) = RZ (valZ (twS a b) - valZ a) := t2
  have t1' : finB (twT a b) := t1
  rw [← t2'] at k1 k4 k5 k6 k7
  obtain ⟨v1, v2⟩ := sub_R s1' t1' k4
  rw [← v2] at k1 k5 k7
  obtain ⟨x1, x2⟩ := sub_R ha v1 k5
  rw [← x2] at k1 k7
  obtain ⟨y1, y2⟩ := sub_R hb t1' k6
  rw [← y2] at k1 k7
  obtain ⟨e1, e2⟩ := add_R x1 y1 k7
  rw [← e2] at k1
  exact ⟨s1', e1, k1, s2'⟩
end Go.Proofs.Ytjakjnmfndfehaa
