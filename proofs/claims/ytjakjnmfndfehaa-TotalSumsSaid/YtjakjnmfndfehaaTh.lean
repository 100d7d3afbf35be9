/- A finite number as a whole number: its digits and its power, plain; the product for every power. No condition. -/
import Derived.Test.YtjakjnmfndfehaaTg
namespace Go.Pst
open Go Ieee
set_option linter.unusedVariables false
set_option linter.unusedSimpArgs false

/-- A whole number times a power of two, what goes below 1 left off. -/
def pwZ (M : Nat) (q : Int) : Nat := if q < 0 then M / 2 ^ (-q).toNat else M * 2 ^ q.toNat
theorem pwZ_mul (m t : Nat) (q : Int) (h : 0 ≤ (t : Int) + q) : pwZ (m * 2 ^ t) q = m * 2 ^ ((t : Int) + q).toNat := by
  unfold pwZ
  by_cases hq : q < 0
  · rw [if_pos hq]
    obtain ⟨d, hd⟩ : ∃ d : Nat, (d : Int) = (t : Int) + q := ⟨((t : Int) + q).toNat, by omega⟩
    rw [show t = d + (-q).toNat by omega, Nat.pow_add, ← Nat.mul_assoc, Nat.mul_div_cancel _ (Nat.two_pow_pos _)]
    congr 2; omega
  · rw [if_neg hq, Nat.mul_assoc, ← Nat.pow_add]; congr 2; omega
theorem pwZ_zero (q : Int) : pwZ 0 q = 0 := by unfold pwZ; split <;> simp

/-- Digits and power, as Frexp has them. -/
def frM (b : Nat) : Nat := if mantB b = 0 then 0 else nM b
def frE (b : Nat) : Int := if mantB b = 0 then 0 else lgB b + 1
theorem frM_lt (b : Nat) : frM b < 2 ^ 53 := by
  unfold frM; split
  · decide
  · exact (nM_bd ‹_›).2
theorem place_fin {b : Nat} (h : finB b) : placeB b ≤ 2045 := by
  obtain ⟨h1, h2, h3⟩ := h
  unfold placeB expF
  have : b / 4503599627370496 % 2048 ≠ 2047 := by
    intro e
    unfold nan64 at h2; unfold infB at h3
    simp only [decide_eq_false_iff_not] at h2 h3
    omega
  omega
theorem frE_bd {b : Nat} (h : finB b) : -1074 ≤ frE b ∧ frE b ≤ 1024 := by
  unfold frE
  split
  · omega
  · rename_i h0
    have := log_lt h0
    have := place_fin h
    unfold lgB; omega
theorem frM_one {b : Nat} (h : finB b) : pwZ (frM b) (1074 + (frE b - 53)) = magN b := by
  unfold frM frE magN
  by_cases h0 : mantB b = 0
  · rw [if_pos h0, h0, pwZ_zero, Nat.zero_mul]
  · rw [if_neg h0, if_neg h0]
    have h1 := log_lt h0
    unfold nM lgB
    rw [pwZ_mul _ _ _ (by omega)]
    congr 2; omega
theorem frM_two {a b : Nat} (ha : finB a) (hb : finB b) : pwZ (frM a * frM b) (2148 + (frE a - 53) + (frE b - 53)) = magN a * magN b := by
  unfold frM frE magN
  by_cases h0 : mantB a = 0
  · rw [if_pos h0, h0, Nat.zero_mul, pwZ_zero, Nat.zero_mul, Nat.zero_mul]
  · by_cases h1 : mantB b = 0
    · rw [if_pos h1, h1, Nat.mul_zero, pwZ_zero, Nat.zero_mul, Nat.mul_zero]
    · rw [if_neg h0, if_neg h1, if_neg h0, if_neg h1]
      have g0 := log_lt h0
      have g1 := log_lt h1
      unfold nM lgB
      rw [show mantB a * 2 ^ (52 - (mantB a).log2) * (mantB b * 2 ^ (52 - (mantB b).log2)) = mantB a * mantB b * 2 ^ ((52 - (mantB a).log2) + (52 - (mantB b).log2)) by
        rw [Nat.pow_add]; simp only [Nat.mul_assoc, Nat.mul_comm, Nat.mul_left_comm]]
      rw [pwZ_mul _ _ _ (by omega)]
      rw [show mantB a * 2 ^ placeB a * (mantB b * 2 ^ placeB b) = mantB a * mantB b * 2 ^ (placeB a + placeB b) by
        rw [Nat.pow_add]; simp only [Nat.mul_assoc, Nat.mul_comm, Nat.mul_left_comm]]
      congr 2; omega

theorem abs_fin {b : Nat} (h : finB b) : finB (b % 9223372036854775808) ∧ negB (b % 9223372036854775808) = false ∧ mantB (b % 9223372036854775808) = mantB b ∧ placeB (b % 9223372036854775808) = placeB b := by
  obtain ⟨h1, h2, h3⟩ := h
  refine ⟨⟨by omega, ?_, ?_⟩, ?_, ?_, ?_⟩
  · unfold nan64 at *; rw [Nat.mod_mod]; exact h2
  · unfold infB at *; rw [Nat.mod_mod]; exact h3
  · unfold negB; exact decide_eq_false (by omega)
  · unfold mantB expF
    rw [show b % 9223372036854775808 / 4503599627370496 % 2048 = b / 4503599627370496 % 2048 by omega, show b % 9223372036854775808 % 4503599627370496 = b % 4503599627370496 by omega]
  · unfold placeB expF
    rw [show b % 9223372036854775808 / 4503599627370496 % 2048 = b / 4503599627370496 % 2048 by omega]

/-- The fraction that Frexp gives. -/
def frF (b : Nat) : Nat := if mantB b = 0 then 0 else Go.Proofs.Ytjakjnmfndfehaa.frB (b % 9223372036854775808)
theorem frF_mul {b : Nat} (h : finB b) : arD .mul (frF b) 4845873199050653696 = some (fl (frM b)) := by
  unfold frF frM
  by_cases h0 : mantB b = 0
  · rw [if_pos h0, if_pos h0, fl_zero]
    obtain ⟨fy, y1, y2, y3⟩ := fin_pow 1076 (by omega) (by omega)
    have f0 : finB 0 := ⟨by omega, by decide, by decide⟩
    have m0 : mantB 0 = 0 := by decide
    have n0 : negB 0 = false := by decide
    rw [show (4845873199050653696 : Nat) = 1076 * 4503599627370496 from rfl, arD_mul_fin f0 fy, m0, n0, y1, Nat.zero_mul]
    have r0 : ∀ E, rndN 52 11 0 E = 0 := fun E => by unfold rndN; rw [if_pos rfl]
    rw [r0]
    unfold wrd
    simp only [Bool.false_xor, Bool.false_eq_true, if_false]
  · rw [if_neg h0, if_neg h0]
    obtain ⟨a1, a2, a3, a4⟩ := abs_fin h
    obtain ⟨b1, b2⟩ := nM_bd h0
    have e1 : nM (b % 9223372036854775808) = nM b := by unfold nM; rw [a3]
    unfold Go.Proofs.Ytjakjnmfndfehaa.frB
    rw [a2, e1]
    unfold wrd
    simp only [Bool.false_eq_true, if_false]
    obtain ⟨M, hM⟩ : ∃ M, M = nM b := ⟨_, rfl⟩
    rw [← hM] at b1 b2 ⊢
    have fx : finB (1021 * 4503599627370496 + M) ∧ negB (1021 * 4503599627370496 + M) = false ∧ mantB (1021 * 4503599627370496 + M) = M ∧ placeB (1021 * 4503599627370496 + M) = 1021 := by
      have e1 : (1021 * 4503599627370496 + M) % 9223372036854775808 = 1021 * 4503599627370496 + M := Nat.mod_eq_of_lt (by omega)
      have e2 : (1021 * 4503599627370496 + M) / 4503599627370496 % 2048 = 1022 := by omega
      have e3 : (1021 * 4503599627370496 + M) % 4503599627370496 = M - 4503599627370496 := by omega
      refine ⟨⟨by omega, ?_, ?_⟩, ?_, ?_, ?_⟩
      · unfold nan64; rw [e1]; exact decide_eq_false (by omega)
      · unfold infB; rw [e1]; exact decide_eq_false (by omega)
      · unfold negB; exact decide_eq_false (by omega)
      · unfold mantB expF; rw [e2, if_neg (by omega), e3]; omega
      · unfold placeB expF; rw [e2]
    obtain ⟨fy, y1, y2, y3⟩ := fin_pow 1076 (by omega) (by omega)
    obtain ⟨f1, f2, f3, f4⟩ := fx
    rw [show (4845873199050653696 : Nat) = 1076 * 4503599627370496 from rfl, arD_mul_fin f1 fy, f2, y1, f3, y2, f4, y3]
    have h := rnd_shift 52 11 M 52 0
    rw [show (-1074 + ((1021 : Nat) : Int) + (-1074 + ((1076 - 1 : Nat) : Int))) = 0 - ((52 : Nat) : Int) from by decide, show M * 4503599627370496 = M * 2 ^ 52 by omega, h]
    unfold wrd fl
    simp only [Bool.false_xor, Bool.false_eq_true, if_false]

theorem fl_u64 {n : Nat} (h : n < 2 ^ 53) : floatToIntVal .f64 (fl n) .u64 = some (n : Int) := by
  have h0 := int_fl h
  unfold floatToIntVal at h0 ⊢
  generalize Ieee.Datum.toInt Toward.zero (FloatKind.f64.decode (fl n)) = o at *
  cases o with
  | none => simp at h0
  | some z =>
    simp only at h0 ⊢
    have e1 : IntKind.i64.min = -9223372036854775808 := rfl
    have e2 : IntKind.i64.max = 9223372036854775807 := rfl
    have e3 : IntKind.u64.min = 0 := rfl
    have e4 : IntKind.u64.max = 18446744073709551615 := rfl
    rw [e1, e2] at h0
    rw [e3, e4]
    split at h0
    · injection h0 with h0; subst h0; rw [if_pos (by omega)]
    · cases h0
end Go.Pst
namespace Go.Proofs.Ytjakjnmfndfehaa
open Go.RowKit Go.Pst
theorem product_any (a b : Nat) (q : Int) (w : World) (ha : a < W64) (hb : b < W64) (h1 : -127 ≤ q) (h2 : q < 65536) :
    Calls Try.prog 107 #[.int .u64 a, .int .u64 b, .int .i64 q] w (ProdPost (pwZ (a * b) q) w) := by
  have hm := fun w => mul64_any a b ha hb w
  have hlo : a * b % 18446744073709551616 < W64 := Nat.mod_lt _ w64_pos
  have hhi : a * b / 18446744073709551616 < W64 := Nat.div_lt_of_lt_mul (by
    have := Nat.mul_lt_mul_of_lt_of_le ha (Nat.le_of_lt hb) w64_pos
    exact this)
  have e : a * b % 18446744073709551616 + a * b / 18446744073709551616 * W64 = a * b := by
    rw [Nat.mul_comm (a * b / 18446744073709551616)]; exact Nat.mod_add_div _ _
  unfold pwZ
  by_cases hq : q < 0
  · obtain ⟨n, hn⟩ : ∃ n : Nat, q = -(n : Int) := ⟨(-q).toNat, by omega⟩
    subst hn
    rw [if_pos hq, show (- -(n : Int)).toNat = n by omega, ← e]
    by_cases hn : n < 64
    · exact product_low a b n _ _ w hm hlo hhi (by omega) hn
    · exact product_low2 a b n _ _ w hm hlo hhi (by omega) (by omega)
  · obtain ⟨p, hp⟩ : ∃ p : Nat, q = (p : Int) := ⟨q.toNat, by omega⟩
    subst hp
    rw [if_neg hq, Int.toNat_natCast, ← e]
    exact product_high a b p _ _ w hm hlo hhi (by omega)
end Go.Proofs.Ytjakjnmfndfehaa
