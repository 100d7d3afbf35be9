/- The model's floats in whole numbers: what a word of 64 bits stands for, and which word is written. No condition but that a float's bits fit. -/
import Derived.Test.YtjakjnmfndfehaaNv
import Derived.Test.YtjakjnmfndfehaaFk
import Ieee.Arith
namespace Go.Pst
open Go Ieee
set_option linter.unusedVariables false

/-- The word of a sign and the rest of its bits. -/
def wrd (neg : Bool) (r : Nat) : Nat := if neg then 9223372036854775808 + r else r
def negB (b : Nat) : Bool := decide (9223372036854775808 ≤ b)
def expF (b : Nat) : Nat := b / 4503599627370496 % 2048
def mantB (b : Nat) : Nat := if expF b = 0 then b % 4503599627370496 else 4503599627370496 + b % 4503599627370496
def placeB (b : Nat) : Nat := expF b - 1
def infB (b : Nat) : Bool := decide (b % 9223372036854775808 = 9218868437227405312)

theorem cut_even (neg : Bool) (n k : Nat) : Toward.even.cut neg n k = rne n k := by
  unfold Toward.cut rne
  simp only [Nat.shiftLeft_eq, Nat.one_mul]
  have hl : n < 2 ^ (n.log2 + 1) := Nat.lt_log2_self
  by_cases h : k ≤ n.log2 + 2
  · rw [Nat.min_eq_left h]
    congr 1
    generalize 2 ^ k = g
    generalize n % g = r
    generalize n / g = q
    by_cases h1 : g < 2 * r
    · simp [h1]
    · by_cases h2 : g = 2 * r
      · by_cases h3 : q % 2 = 1
        · simp [h2, h3]
        · simp [h2, h3]
      · simp [h1, h2]
  · rw [Nat.min_eq_right (by omega)]
    have h2 : 2 * n < 2 ^ (n.log2 + 2) := by rw [Nat.pow_succ]; omega
    have h3 : 2 ^ (n.log2 + 2) ≤ 2 ^ k := Nat.pow_le_pow_right (by omega) (by omega)
    have h4 : 2 * n < 2 ^ k := Nat.lt_of_lt_of_le h2 h3
    generalize 2 ^ k = z at *
    generalize 2 ^ (n.log2 + 2) = y at *
    rw [Nat.div_eq_of_lt (show n < y by omega), Nat.mod_eq_of_lt (show n < y by omega), Nat.div_eq_of_lt (show n < z by omega), Nat.mod_eq_of_lt (show n < z by omega), if_neg (by omega)]
    have e1 : decide (y < 2 * n) = false := by simp; omega
    have e2 : (y == 2 * n) = false := by simp; omega
    rw [e1, e2]; rfl

theorem cut_zero (neg : Bool) (n k : Nat) : Toward.zero.cut neg n k = n / 2 ^ k := by
  unfold Toward.cut
  simp only [Nat.shiftLeft_eq, Nat.one_mul]
  have hl : n < 2 ^ (n.log2 + 1) := Nat.lt_log2_self
  show n / _ + 0 = _
  by_cases h : k ≤ n.log2 + 2
  · rw [Nat.min_eq_left h, Nat.add_zero]
  · rw [Nat.min_eq_right (by omega)]
    have h2 : 2 * n < 2 ^ (n.log2 + 2) := by rw [Nat.pow_succ]; omega
    have h3 : 2 ^ (n.log2 + 2) ≤ 2 ^ k := Nat.pow_le_pow_right (by omega) (by omega)
    have h4 : 2 * n < 2 ^ k := Nat.lt_of_lt_of_le h2 h3
    generalize 2 ^ k = z at *
    generalize 2 ^ (n.log2 + 2) = y at *
    rw [Nat.div_eq_of_lt (show n < y by omega), Nat.div_eq_of_lt (show n < z by omega)]

theorem lp64 : Ieee.double.leastPlace = -1074 := by decide
theorem bin64 : Ieee.double.binade = 4503599627370496 := by decide
theorem ir64 : Ieee.double.infRung = 9218868437227405312 := by decide
theorem sw64 : Ieee.double.signWeight = 9223372036854775808 := by decide
theorem fb64 : Ieee.double.fractionBits = 52 := rfl

theorem word64 (neg : Bool) (r : Nat) : Ieee.double.word neg r = wrd neg r := by
  unfold Format.word wrd; rw [sw64]

/-- **WRITING ROUNDS.** -/
theorem nearest64 (neg : Bool) (m : Nat) (p : Int) : Ieee.double.nearest neg m p = wrd neg (rndN 52 11 m p) := by
  unfold Format.nearest rndN
  by_cases h0 : m = 0
  · rw [if_pos h0, if_pos h0, word64]
  · rw [if_neg h0, if_neg h0, word64]
    simp only [cut_even, lp64, bin64, ir64, fb64, lst64]
    have hk : kap 52 11 m p = max ((m.log2 : Int) - (52 : Nat)) (lst 52 11 - p) := rfl
    rw [lst64] at hk
    have hx : max (p + (m.log2 : Int) - ((52 : Nat) : Int)) (-1074) = p + kap 52 11 m p := by omega
    rw [hx]
    unfold keptN
    have h1 : (p - (p + kap 52 11 m p)).toNat = (-(kap 52 11 m p)).toNat := by omega
    have h2 : (p + kap 52 11 m p - p).toNat = (kap 52 11 m p).toNat := by omega
    rw [h1, h2, Nat.shiftLeft_eq]
    by_cases hk0 : 0 ≤ kap 52 11 m p
    · rw [if_pos hk0, show (-(kap 52 11 m p)).toNat = 0 by omega, Nat.pow_zero, Nat.mul_one]
    · rw [if_neg hk0, show (kap 52 11 m p).toNat = 0 by omega, rne_zero]

theorem write64 (neg : Bool) (m : Nat) (p : Int) : Ieee.double.write (.number neg m p) = wrd neg (rndN 52 11 m p) := nearest64 neg m p

/-- **READING.** -/
theorem read64 (b : Nat) (h : b < 2 ^ 64) : Ieee.double.read b =
    if nan64 b then .nan (negB b) (b % 9223372036854775808 - 9218868437227405312)
    else if infB b then .infinity (negB b) else .number (negB b) (mantB b) (-1074 + (placeB b : Nat)) := by
  have hs : (b / 9223372036854775808 % 2 == 1) = negB b := by unfold negB; rw [Bool.eq_iff_iff]; simp; omega
  unfold Format.read nan64 infB mantB placeB expF
  simp only [sw64, bin64, ir64, lp64, hs, decide_eq_true_eq]
  by_cases h1 : b % 9223372036854775808 < 4503599627370496
  · rw [if_pos h1, if_neg (by omega), if_neg (by omega), if_pos (by omega), show b / 4503599627370496 % 2048 - 1 = 0 by omega, show b % 9223372036854775808 = b % 4503599627370496 by omega]
    rfl
  · rw [if_neg h1]
    by_cases h2 : b % 9223372036854775808 < 9218868437227405312
    · rw [if_pos h2, if_neg (by omega), if_neg (by omega), if_neg (by omega),
        show b % 9223372036854775808 % 4503599627370496 = b % 4503599627370496 by omega, show b % 9223372036854775808 / 4503599627370496 - 1 = b / 4503599627370496 % 2048 - 1 by omega]
    · rw [if_neg h2]
      by_cases h3 : b % 9223372036854775808 = 9218868437227405312
      · rw [if_pos h3, if_neg (by omega), if_pos h3]
      · rw [if_neg h3, if_pos (by omega)]

theorem parts_fin (b : Nat) (h : b < 2 ^ 64) (hn : nan64 b = false) (hi : infB b = false) :
    (partsN 52 11 b).neg = negB b ∧ (partsN 52 11 b).mant = mantB b ∧ ((partsN 52 11 b).kind ≠ 0 → (partsN 52 11 b).exp = -1074 + (placeB b : Nat)) ∧
    (partsN 52 11 b).kind = (if b % 9223372036854775808 = 0 then 0 else if expF b = 0 then 1 else 2) ∧ (mantB b = 0 ↔ b % 9223372036854775808 = 0) ∧ ((partsN 52 11 b).kind = 0 → (partsN 52 11 b).exp = 0) := by
  have hp := parts64_num b h
  generalize partsN 52 11 b = p at *
  unfold nan64 at hn
  unfold infB at hi
  simp only [decide_eq_false_iff_not] at hn hi
  have h1 : ¬ b / 4503599627370496 % 2048 = 2047 := by omega
  rw [if_neg h1] at hp
  unfold mantB placeB negB expF
  by_cases h2 : 0 < b / 4503599627370496 % 2048
  · rw [if_pos h2] at hp
    subst hp
    dsimp only
    rw [if_neg (by omega), if_neg (by omega), if_neg (by omega)]
    refine ⟨rfl, by simp, fun _ => by omega, rfl, by omega, fun h => by omega⟩
  · rw [if_neg h2] at hp
    by_cases h3 : 0 < b % 4503599627370496
    · rw [if_pos h3] at hp
      subst hp
      dsimp only
      rw [if_pos (by omega), if_neg (by omega), if_pos (by omega)]
      refine ⟨rfl, rfl, fun _ => by omega, rfl, by omega, fun h => by omega⟩
    · rw [if_neg h3] at hp
      subst hp
      dsimp only
      rw [if_pos (by omega), if_pos (by omega)]
      refine ⟨rfl, by omega, fun h => by omega, rfl, by omega, fun _ => rfl⟩

theorem wrd_mod (b : Nat) (h : b < 2 ^ 64) : wrd (negB b) (b % 9223372036854775808) = b := by
  unfold wrd negB
  by_cases h1 : 9223372036854775808 ≤ b
  · rw [decide_eq_true h1, if_pos rfl]; omega
  · rw [decide_eq_false h1, if_neg (by simp)]; omega

theorem wrd_signed (neg : Bool) (r : Nat) (h : r < 9223372036854775808) : signedBits 52 11 neg r = wrd neg r := by
  unfold signedBits wrd
  cases neg
  · rfl
  · simp only [if_true]
    rw [Nat.or_comm]
    exact (Nat.two_pow_add_eq_or_of_lt (i := 63) h 1).symm

/-- A float's own number, written, is it again. -/
theorem rnd_read (b : Nat) (h : b < 2 ^ 64) (hn : nan64 b = false) (hi : infB b = false) : rndN 52 11 (mantB b) (-1074 + (placeB b : Nat)) = b % 9223372036854775808 := by
  unfold nan64 at hn
  unfold infB at hi
  simp only [decide_eq_false_iff_not] at hn hi
  unfold mantB placeB expF
  by_cases h1 : b / 4503599627370496 % 2048 = 0
  · rw [if_pos h1, h1]
    have := rnd_sub (b % 4503599627370496) (by omega)
    rw [show ((0 - 1 : Nat) : Int) = 0 by decide, Int.add_zero, this]; omega
  · rw [if_neg h1, rnd_normal _ _ (by omega) (by omega), if_pos (by omega)]
    rw [show (-1074 + ((b / 4503599627370496 % 2048 - 1 : Nat) : Int) + 1074).toNat = b / 4503599627370496 % 2048 - 1 by omega]
    omega

theorem rnd_shift (f e M k : Nat) (E : Int) : rndN f e (M * 2 ^ k) (E - k) = rndN f e M E := by
  induction k with
  | zero => simp
  | succ k ih =>
    have := rnd_double f e (M * 2 ^ k) (E - k)
    rw [show E - ((k + 1 : Nat) : Int) = E - k - 1 by omega, Nat.pow_succ, ← Nat.mul_assoc, Nat.mul_comm (M * 2 ^ k) 2, this, ih]

/-! ### Whole-number values -/
/-- A rung's number in units of 2^-1074. -/
def rv (r : Nat) : Nat := mantB r * 2 ^ placeB r

theorem rv_eq (r : Nat) (h : r ≤ 9218868437227405312) : rv r = rval Ieee.double r := by
  unfold rv rval mantB placeB expF
  rw [bin64]
  by_cases h1 : r < 4503599627370496
  · rw [if_pos h1, if_pos (by omega), show r / 4503599627370496 % 2048 - 1 = 0 by omega]; omega
  · rw [if_neg h1, if_neg (by omega), show r / 4503599627370496 % 2048 = r / 4503599627370496 by omega]

theorem rv_lt_iff {r s : Nat} (h : r ≤ 9218868437227405312) (h2 : s ≤ 9218868437227405312) : rv r < rv s ↔ r < s := by
  rw [rv_eq r h, rv_eq s h2]; exact rval_lt_iff _
theorem rv_inj {r s : Nat} (h : r ≤ 9218868437227405312) (h2 : s ≤ 9218868437227405312) : rv r = rv s ↔ r = s := by
  rw [rv_eq r h, rv_eq s h2]; exact rval_inj _

/-- Where nothing is rounded, the rung's number is the number. -/
theorem rv_exact (m j : Nat) (h0 : m < 2 ^ 53) (hj : j ≤ 2044) : rv (rndN 52 11 m (-1074 + (j : Nat))) = m * 2 ^ j ∧ rndN 52 11 m (-1074 + (j : Nat)) < 9218868437227405312 := by
  by_cases hm : m = 0
  · subst hm; unfold rndN; rw [if_pos rfl]; exact ⟨by simp [rv, mantB, expF], by decide⟩
  have hl : m.log2 < 53 := (Nat.log2_lt hm).2 h0
  have hlo : 2 ^ m.log2 ≤ m := Nat.log2_self_le hm
  have hhi : m < 2 ^ (m.log2 + 1) := Nat.lt_log2_self
  unfold rndN
  rw [if_neg hm, inf64, lst64]
  have hk : kap 52 11 m (-1074 + (j : Nat)) = max ((m.log2 : Int) - (52 : Nat)) (lst 52 11 - (-1074 + (j : Nat))) := rfl
  rw [lst64] at hk
  obtain ⟨d, hd⟩ : ∃ d : Nat, d = min (52 - m.log2) j := ⟨_, rfl⟩
  have hk2 : kap 52 11 m (-1074 + (j : Nat)) = -(d : Int) := by omega
  have hkept : keptN 52 11 m (-1074 + (j : Nat)) = m * 2 ^ d := by
    unfold keptN
    rw [hk2]
    by_cases h : 0 ≤ -(d : Int)
    · rw [if_pos h, show (-(d : Int)).toNat = 0 by omega, rne_zero, show d = 0 by omega]; simp
    · rw [if_neg h, show (- -(d : Int)).toNat = d by omega]
  rw [hkept, hk2, show (-1074 + (j : Int) + -(d : Int) - -1074).toNat = j - d by omega]
  have hub : m * 2 ^ d < 2 ^ 53 := by
    have : m * 2 ^ d < 2 ^ (m.log2 + 1) * 2 ^ d := Nat.mul_lt_mul_of_pos_right hhi (Nat.two_pow_pos _)
    rw [← Nat.pow_add] at this
    exact Nat.lt_of_lt_of_le this (Nat.pow_le_pow_right (by omega) (by omega))
  have hlb : d < j → 2 ^ 52 ≤ m * 2 ^ d := fun hdj => by
    have : 2 ^ m.log2 * 2 ^ d ≤ m * 2 ^ d := Nat.mul_le_mul_right _ hlo
    rw [← Nat.pow_add, show m.log2 + d = 52 by omega] at this
    exact this
  have hmul : m * 2 ^ j = m * 2 ^ d * 2 ^ (j - d) := by rw [Nat.mul_assoc, ← Nat.pow_add]; congr 2; omega
  rw [hmul]
  have ht : j - d ≤ 2044 := by omega
  have hlt : d < j ∨ j - d = 0 := by omega
  generalize m * 2 ^ d = n at *
  generalize j - d = t at *
  clear hk hk2 hkept hmul hd
  have hmin : min (t * 2 ^ 52 + n) 9218868437227405312 = t * 4503599627370496 + n := by omega
  rw [hmin]
  refine ⟨?_, by omega⟩
  unfold rv mantB placeB expF
  by_cases hn : n < 2 ^ 52
  · have ht0 : t = 0 := by rcases hlt with h | h; · have := hlb h; omega
                           · exact h
    subst ht0
    rw [if_pos (by omega), show (0 * 4503599627370496 + n) / 4503599627370496 % 2048 - 1 = 0 by omega]
    simp; omega
  · rw [if_neg (by omega), show (t * 4503599627370496 + n) / 4503599627370496 % 2048 - 1 = t by omega, show 4503599627370496 + (t * 4503599627370496 + n) % 4503599627370496 = n by omega]

end Go.Pst
