/- Plain facts: finite floats brought to 53 digits, products, signs. No condition. -/
import Derived.Test.YtjakjnmfndfehaaAd
import Derived.Test.YtjakjnmfndfehaaSq
namespace Go.Pst
open Go Ieee
set_option linter.unusedVariables false
set_option linter.unusedSimpArgs false

/-- The place of a finite float's first digit. -/
def lgB (b : Nat) : Int := ((mantB b).log2 : Int) + (placeB b : Int) - 1074
/-- Its digits, brought to 53. -/
def nM (b : Nat) : Nat := mantB b * 2 ^ (52 - (mantB b).log2)
def nF (b : Nat) : Nat := if expF b = 0 then (mantB b).log2 + 1 else expF b

theorem mant_sub {b : Nat} (h : expF b = 0) : mantB b < 2 ^ 52 ∧ mantB b = b % 4503599627370496 ∧ placeB b = 0 := by
  unfold mantB placeB; rw [if_pos h, h]; exact ⟨Nat.mod_lt _ (by omega), rfl, rfl⟩
theorem mant_norm {b : Nat} (h : expF b ≠ 0) : 2 ^ 52 ≤ mantB b ∧ mantB b < 2 ^ 53 ∧ (mantB b).log2 = 52 ∧ mantB b = 4503599627370496 + b % 4503599627370496 ∧ placeB b = expF b - 1 := by
  have h1 : mantB b = 4503599627370496 + b % 4503599627370496 := by unfold mantB; rw [if_neg h]
  have h2 : b % 4503599627370496 < 4503599627370496 := Nat.mod_lt _ (by omega)
  refine ⟨by omega, by omega, log2_is (by omega) (by omega), h1, rfl⟩

theorem nM_norm {b : Nat} (h : expF b ≠ 0) : nM b = mantB b := by unfold nM; rw [(mant_norm h).2.2.1]; simp

theorem log_lt {b : Nat} (h : mantB b ≠ 0) : (mantB b).log2 ≤ 52 := by
  have := (Nat.log2_lt h).2 (mant_lt b); omega

theorem nM_bd {b : Nat} (h : mantB b ≠ 0) : 2 ^ 52 ≤ nM b ∧ nM b < 2 ^ 53 := by
  have h1 := Nat.log2_self_le h
  have h2 : mantB b < 2 ^ ((mantB b).log2 + 1) := Nat.lt_log2_self
  have h3 := log_lt h
  unfold nM
  generalize (mantB b).log2 = L at *
  have h4 : 2 ^ L * 2 ^ (52 - L) ≤ mantB b * 2 ^ (52 - L) := Nat.mul_le_mul_right _ h1
  have h5 : mantB b * 2 ^ (52 - L) < 2 ^ (L + 1) * 2 ^ (52 - L) := Nat.mul_lt_mul_of_pos_right h2 (Nat.two_pow_pos _)
  rw [← Nat.pow_add, show L + (52 - L) = 52 by omega] at h4
  rw [← Nat.pow_add, show L + 1 + (52 - L) = 53 by omega] at h5
  exact ⟨h4, h5⟩

theorem nF_bd {b : Nat} (hn : nan64 b = false) (hi : infB b = false) (h : mantB b ≠ 0) : 1 ≤ nF b ∧ nF b ≤ 2046 := by
  unfold nan64 at hn; unfold infB at hi
  simp only [decide_eq_false_iff_not] at hn hi
  have := log_lt h
  unfold nF expF
  split <;> omega

/-- The normalized one. -/
def nrm (b : Nat) : Nat := nF b * 4503599627370496 + nM b - 4503599627370496

theorem nrm_norm {b : Nat} (h : expF b ≠ 0) : nrm b = b % 9223372036854775808 := by
  unfold nrm nF
  rw [if_neg h, nM_norm h, (mant_norm h).2.2.2.1]
  unfold expF at *
  omega

theorem mul_fin {x y : Nat} (hx : finB x) (hy : finB y) :
    Ieee.double.mul x y = some (wrd (negB x ^^ negB y) (rndN 52 11 (mantB x * mantB y) (-1074 + (placeB x : Nat) + (-1074 + (placeB y : Nat))))) := by
  unfold Format.mul
  rw [read_fin hx, read_fin hy]
  simp only [Datum.product, Option.map_some, write64]

/-- A subnormal number times 2^52. -/
theorem nrm_sub {b : Nat} (h : expF b = 0) (h0 : mantB b ≠ 0) : rndN 52 11 (mantB b * 4503599627370496) (-1074 + (placeB b : Nat)) = nrm b := by
  obtain ⟨h1, -, h2⟩ := mant_sub h
  have h3 := Nat.log2_self_le h0
  have h4 : mantB b < 2 ^ ((mantB b).log2 + 1) := Nat.lt_log2_self
  have h5 := nM_bd h0
  have hL : (mantB b).log2 < 52 := (Nat.log2_lt h0).2 h1
  have e52 : (4503599627370496 : Nat) = 2 ^ 52 := by decide
  have hM0 : mantB b * 4503599627370496 ≠ 0 := by omega
  have hl : (mantB b * 4503599627370496).log2 = (mantB b).log2 + 52 := by
    rw [e52]
    apply log2_is
    · rw [Nat.pow_add]; exact Nat.mul_le_mul_right _ h3
    · rw [show (mantB b).log2 + 52 + 1 = (mantB b).log2 + 1 + 52 by omega, Nat.pow_add]; exact Nat.mul_lt_mul_of_pos_right h4 (by decide)
  have hk : kap 52 11 (mantB b * 4503599627370496) (-1074 + (placeB b : Nat)) = (mantB b).log2 := by
    unfold kap; rw [hl, lst64, h2]; omega
  have hkept : keptN 52 11 (mantB b * 4503599627370496) (-1074 + (placeB b : Nat)) = nM b := by
    unfold keptN; rw [hk, if_pos (by omega), Int.toNat_natCast]
    have : mantB b * 4503599627370496 = nM b * 2 ^ (mantB b).log2 := by
      unfold nM; rw [Nat.mul_assoc, ← Nat.pow_add, show 52 - (mantB b).log2 + (mantB b).log2 = 52 by omega, ← e52]
    rw [this]
    unfold rne
    rw [Nat.mul_div_cancel _ (Nat.two_pow_pos _), Nat.mul_mod_left, if_neg (by have := Nat.two_pow_pos (mantB b).log2; omega)]
    omega
  have hr : ∀ M E, M ≠ 0 → rndN 52 11 M E = min ((E + kap 52 11 M E - lst 52 11).toNat * 2 ^ 52 + keptN 52 11 M E) ((2 ^ 11 - 1) * 2 ^ 52) := fun M E h => by unfold rndN; rw [if_neg h]
  have hq : nrm b = ((mantB b).log2 + 1) * 4503599627370496 + nM b - 4503599627370496 := by unfold nrm nF; rw [if_pos h]
  have hk2 := hr (mantB b * 4503599627370496) (-1074 + ((placeB b : Nat) : Int)) hM0
  have hz : (-1074 + ((placeB b : Nat) : Int) + (((mantB b).log2 : Nat) : Int) - -1074).toNat = (mantB b).log2 := by rw [h2]; omega
  rw [hkept, hk, lst64, inf64, hz, ← e52] at hk2
  rw [hk2, hq]
  clear hk2 hr hq hkept hk hl hM0 hz
  generalize (mantB b).log2 = L at *
  generalize nM b = N at *
  omega

/-- A float with another one's sign. -/
def csN (a b : Nat) : Nat := wrd (negB b) (a % 9223372036854775808)

theorem csN_bits {a b : Nat} (ha : a < 2 ^ 64) (hb : b < 2 ^ 64) : bits .or .u64 (bits .andNot .u64 (a : Int) 9223372036854775808) (bits .and .u64 (b : Int) 9223372036854775808) = ((csN a b : Nat) : Int) := by
  have e1 : bits .andNot .u64 (a : Int) ((9223372036854775808 : Nat) : Int) = ((a % 2 ^ 63 : Nat) : Int) := by
    rw [u64_andNot_nat a 9223372036854775808 (by omega) (by omega), show 18446744073709551615 - 9223372036854775808 = 2 ^ 63 - 1 from rfl, Nat.and_two_pow_sub_one_eq_mod]
  have e2 : bits .and .u64 (b : Int) ((9223372036854775808 : Nat) : Int) = ((b &&& 2 ^ 63 : Nat) : Int) := and_pow (n := 63) hb (by omega)
  rw [show (9223372036854775808 : Int) = ((9223372036854775808 : Nat) : Int) from rfl, e1, e2, or64 (by omega) (Nat.lt_of_le_of_lt Nat.and_le_left hb)]
  congr 1
  unfold csN wrd negB
  have hh : b &&& 2 ^ 63 = if 9223372036854775808 ≤ b then 2 ^ 63 else 0 := by
    apply Nat.eq_of_testBit_eq
    intro i
    rw [Nat.testBit_and, Nat.testBit_two_pow]
    by_cases hi : 63 = i
    · subst hi
      have : b.testBit 63 = decide (9223372036854775808 ≤ b) := by
        rw [Nat.testBit_eq_decide_div_mod_eq]
        rw [decide_eq_decide]
        omega
      rw [this]
      by_cases h : 9223372036854775808 ≤ b
      · rw [if_pos h, Nat.testBit_two_pow_self]; simp [h]
      · rw [if_neg h]; simp [h]
    · have : decide (63 = i) = false := decide_eq_false hi
      rw [this, Bool.and_false]
      split
      · rw [Nat.testBit_two_pow]; simp [hi]
      · simp
  rw [hh]
  by_cases h : 9223372036854775808 ≤ b
  · rw [if_pos h, decide_eq_true h, if_pos rfl]
    have := Nat.two_pow_add_eq_or_of_lt (i := 63) (b := a % 2 ^ 63) (Nat.mod_lt _ (by omega)) 1
    rw [Nat.or_comm]
    rw [Nat.mul_one] at this
    rw [← this]
  · rw [if_neg h, decide_eq_false h, Nat.or_zero]
    simp

theorem csN_lt (a b : Nat) : csN a b < 2 ^ 64 := (wrd_lt _ _ (Nat.mod_lt _ (by omega))).1
theorem csN_nan (a b : Nat) : nan64 (csN a b) = nan64 a := by
  unfold nan64 csN; rw [(wrd_lt _ _ (Nat.mod_lt _ (by omega))).2.1]

theorem flt_small (b : Nat) (hn : nan64 b = false) : flt .f64 (b % 9223372036854775808) 4503599627370496 = decide (expF b = 0) := by
  rw [flt64]
  have n1 : nan64 (b % 9223372036854775808) = false := by unfold nan64 at hn ⊢; rw [Nat.mod_mod]; exact hn
  have n2 : nan64 4503599627370496 = false := by decide
  have k2 : key64 4503599627370496 = 4503599627370496 := rfl
  have k1 : key64 (b % 9223372036854775808) = ((b % 9223372036854775808 : Nat) : Int) := by
    unfold key64; rw [if_neg (by omega), Nat.mod_mod]
  rw [n1, n2, k1, k2]
  unfold expF nan64 at *
  simp only [decide_eq_false_iff_not] at hn
  rw [Bool.eq_iff_iff]
  simp
  omega

theorem fgt_inf (b : Nat) : fgt .f64 (b % 9223372036854775808) 9218868437227405311 = infB b := by
  rw [fgt64]
  have n2 : nan64 9218868437227405311 = false := by decide
  have k2 : key64 9218868437227405311 = 9218868437227405311 := rfl
  have k1 : key64 (b % 9223372036854775808) = ((b % 9223372036854775808 : Nat) : Int) := by
    unfold key64; rw [if_neg (by omega), Nat.mod_mod]
  rw [n2, k1, k2]
  unfold nan64 infB
  rw [Nat.mod_mod]
  rw [Bool.eq_iff_iff]
  simp
  omega

theorem feq_zero (b : Nat) (hb : b < 2 ^ 64) : feq .f64 b 0 = decide (b % 9223372036854775808 = 0) := by
  rw [feq64]
  have n0 : nan64 0 = false := rfl
  have k0 : key64 0 = 0 := rfl
  rw [n0, k0]
  unfold nan64 key64
  rw [Bool.eq_iff_iff]
  by_cases h : b / 9223372036854775808 % 2 = 1
  · rw [if_pos h]; simp; omega
  · rw [if_neg h]; simp; omega

theorem mant_zero {b : Nat} : mantB b = 0 ↔ b % 9223372036854775808 = 0 := by
  unfold mantB expF
  split <;> omega

theorem arD_mul_fin {x y : Nat} (hx : finB x) (hy : finB y) : arD .mul x y = some (wrd (negB x ^^ negB y) (rndN 52 11 (mantB x * mantB y) (-1074 + (placeB x : Nat) + (-1074 + (placeB y : Nat))))) := by
  rw [← mul_fin hx hy]; rfl
theorem arU_some {op : BinOp} {x y r : Nat} (h : arD op x y = some r) (w : World) : arU op w x y = r := by unfold arU; rw [h]
theorem arN_some {op : BinOp} {x y r : Nat} (h : arD op x y = some r) : (arD op x y).isNone = false := by rw [h]; rfl
theorem arV_some {op : BinOp} {x y r : Nat} (h : arD op x y = some r) : arV op x y = r := by unfold arV; rw [h]; rfl
theorem wIf_off (w : World) : wIf false w = w := rfl

theorem fin_pow (e : Nat) (h1 : 1 ≤ e) (h2 : e ≤ 2046) : finB (e * 4503599627370496) ∧ negB (e * 4503599627370496) = false ∧ mantB (e * 4503599627370496) = 4503599627370496 ∧ placeB (e * 4503599627370496) = e - 1 := by
  unfold finB negB nan64 infB mantB placeB expF
  have e1 : e * 4503599627370496 % 9223372036854775808 = e * 4503599627370496 := Nat.mod_eq_of_lt (by omega)
  have e2 : e * 4503599627370496 / 4503599627370496 % 2048 = e := by omega
  rw [e1, e2]
  refine ⟨⟨by omega, by simp; omega, by simp; omega⟩, by simp; omega, ?_, rfl⟩
  rw [if_neg (by omega)]; omega
end Go.Pst
