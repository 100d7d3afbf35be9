/- Plain facts: the sum of two floats is that of their numbers, rounded once; whole numbers as floats. No program is spoken of. -/
import Derived.Test.YtjakjnmfndfehaaLq
namespace Go.Pst
open Go Ieee
set_option linter.unusedVariables false

/-- n * 2^-1074, rounded. -/
def rz (n : Nat) : Nat := rndN 52 11 n (-1074)

theorem rnd_rz (t c : Nat) : rndN 52 11 t (-1074 + (c : Nat)) = rz (t * 2 ^ c) := by
  unfold rz
  have := rnd_shift 52 11 t c (-1074 + (c : Nat))
  rw [show -1074 + (c : Int) - (c : Nat) = -1074 by omega] at this
  exact this.symm

def finB (b : Nat) : Prop := b < 2 ^ 64 ∧ nan64 b = false ∧ infB b = false

theorem read_fin {b : Nat} (h : finB b) : Ieee.double.read b = .number (negB b) (mantB b) (-1074 + (placeB b : Nat)) := by
  rw [read64 b h.1, h.2.1, h.2.2]; rfl

theorem valZ_eq (b : Nat) : valZ b = sgn (negB b) (mantB b * 2 ^ placeB b) := by
  unfold valZ sgn; rw [rv_mod]

theorem natAbs_mul_pow (t : Int) (c : Nat) : (t * ((2 ^ c : Nat) : Int)).natAbs = t.natAbs * 2 ^ c := by
  rw [Int.natAbs_mul]; rfl

theorem mul_pow_lt (t : Int) (c : Nat) : t * ((2 ^ c : Nat) : Int) < 0 ↔ t < 0 := by
  have hp : (0 : Int) < ((2 ^ c : Nat) : Int) := by have := Nat.two_pow_pos c; omega
  constructor
  · intro h
    rcases Int.lt_or_le t 0 with h1 | h1
    · exact h1
    · have := Int.mul_nonneg h1 (Int.le_of_lt hp); omega
  · intro h; exact Int.mul_neg_of_neg_of_pos h hp

theorem mul_pow_zero (t : Int) (c : Nat) : t * ((2 ^ c : Nat) : Int) = 0 ↔ t = 0 := by
  have hp : (0 : Int) < ((2 ^ c : Nat) : Int) := by have := Nat.two_pow_pos c; omega
  constructor
  · intro h
    rcases Int.mul_eq_zero.1 h with h | h
    · exact h
    · omega
  · intro h; rw [h, Int.zero_mul]

/-- The sum of two numbers, as a datum's word. -/
theorem sum_num (s t : Bool) (m n i j : Nat) :
    (((Datum.number s m (-1074 + (i : Nat))).sum (.number t n (-1074 + (j : Nat)))).map Ieee.double.write) =
      some (wrd (if sgn s (m * 2 ^ i) + sgn t (n * 2 ^ j) = 0 then s && t else decide (sgn s (m * 2 ^ i) + sgn t (n * 2 ^ j) < 0)) (rz (sgn s (m * 2 ^ i) + sgn t (n * 2 ^ j)).natAbs)) := by
  obtain ⟨c, hc⟩ : ∃ c, c = min i j := ⟨_, rfl⟩
  have hb : min (-1074 + (i : Int)) (-1074 + (j : Int)) = -1074 + (c : Nat) := by omega
  unfold Datum.sum
  simp only [hb, signed_eq]
  have h1 : (-1074 + (i : Int) - (-1074 + (c : Nat))).toNat = i - c := by omega
  have h2 : (-1074 + (j : Int) - (-1074 + (c : Nat))).toNat = j - c := by omega
  rw [h1, h2]
  have e1 : sgn s (m * 2 ^ i) = sgn s (m * 2 ^ (i - c)) * ((2 ^ c : Nat) : Int) := by rw [sgn_mul, Nat.mul_assoc, ← Nat.pow_add]; congr 3; omega
  have e2 : sgn t (n * 2 ^ j) = sgn t (n * 2 ^ (j - c)) * ((2 ^ c : Nat) : Int) := by rw [sgn_mul, Nat.mul_assoc, ← Nat.pow_add]; congr 3; omega
  rw [e1, e2, ← Int.add_mul]
  generalize sgn s (m * 2 ^ (i - c)) + sgn t (n * 2 ^ (j - c)) = x
  simp only [Option.map_some, write64, rnd_rz, natAbs_mul_pow]
  congr 2
  by_cases hx : x = 0
  · rw [if_pos hx, if_pos ((mul_pow_zero x c).2 hx)]
  · rw [if_neg hx, if_neg (fun h => hx ((mul_pow_zero x c).1 h))]
    rw [decide_eq_decide]; exact (mul_pow_lt x c).symm

/-- **THE SUM OF TWO FINITE FLOATS.** -/
theorem add_fin {x y : Nat} (hx : finB x) (hy : finB y) : Ieee.double.add x y =
    some (wrd (if valZ x + valZ y = 0 then negB x && negB y else decide (valZ x + valZ y < 0)) (rz (valZ x + valZ y).natAbs)) := by
  unfold Format.add
  rw [read_fin hx, read_fin hy, sum_num, valZ_eq, valZ_eq]

/-! ### Whole numbers -/
/-- The float of a whole number from 0 on. -/
def fl (n : Nat) : Nat := rndN 52 11 n 0

def K74 : Nat := 1074
theorem k74 : -1074 + ((K74 : Nat) : Int) = 0 := by decide

theorem fl_rz (n : Nat) : fl n = rz (n * 2 ^ K74) := by
  have := rnd_rz n K74
  rw [k74] at this; exact this

theorem fl_rv {n : Nat} (h : n < 2 ^ 53) : rv (fl n) = n * 2 ^ K74 ∧ fl n < 9218868437227405312 := by
  have := rv_exact n K74 h (by decide)
  rw [k74] at this; exact this

theorem fl_fin {n : Nat} (h : n < 2 ^ 53) : finB (fl n) ∧ negB (fl n) = false ∧ valZ (fl n) = ((n * 2 ^ K74 : Nat) : Int) := by
  obtain ⟨h1, h2⟩ := fl_rv h
  have hm : fl n % 9223372036854775808 = fl n := Nat.mod_eq_of_lt (by omega)
  have hn : negB (fl n) = false := by unfold negB; rw [decide_eq_false (by omega)]
  refine ⟨⟨by omega, by unfold nan64; rw [hm]; exact decide_eq_false (by omega), by unfold infB; rw [hm]; exact decide_eq_false (by omega)⟩, hn, ?_⟩
  unfold valZ; rw [hn, hm, h1]; rfl

theorem fl_zero : fl 0 = 0 := by unfold fl rndN; rw [if_pos rfl]

theorem add_fl {a b : Nat} (ha : a < 2 ^ 53) (hb : b < 2 ^ 53) (hs : a + b < 2 ^ 53) : addN (fl a) (fl b) = fl (a + b) := by
  obtain ⟨f1, n1, v1⟩ := fl_fin ha
  obtain ⟨f2, n2, v2⟩ := fl_fin hb
  unfold addN
  rw [add_fin f1 f2, v1, v2, n1, n2, fl_rz (a + b)]
  have e : ((a * 2 ^ K74 : Nat) : Int) + ((b * 2 ^ K74 : Nat) : Int) = (((a + b) * 2 ^ K74 : Nat) : Int) := by rw [Nat.add_mul]; omega
  rw [e]
  generalize (a + b) * 2 ^ K74 = z
  unfold arN wrd
  have h1 : ¬ ((z : Int) < 0) := by omega
  by_cases hz : (z : Int) = 0
  · rw [if_pos hz]; simp
  · rw [if_neg hz, decide_eq_false h1]; simp

theorem lt_mul_pow (a b k : Nat) : a * 2 ^ k < b * 2 ^ k ↔ a < b := by
  have hp : 0 < 2 ^ k := Nat.two_pow_pos _
  constructor
  · intro h; exact Nat.lt_of_mul_lt_mul_right h
  · intro h; exact Nat.mul_lt_mul_of_pos_right h hp
theorem eq_mul_pow (a b k : Nat) : a * 2 ^ k = b * 2 ^ k ↔ a = b :=
  ⟨fun h => Nat.eq_of_mul_eq_mul_right (Nat.two_pow_pos _) h, fun h => by rw [h]⟩

theorem fl_lt_iff {a b : Nat} (ha : a < 2 ^ 53) (hb : b < 2 ^ 53) : fl a < fl b ↔ a < b := by
  obtain ⟨h1, h2⟩ := fl_rv ha
  obtain ⟨h3, h4⟩ := fl_rv hb
  rw [← rv_lt_iff (by omega) (by omega), h1, h3, lt_mul_pow]

theorem min_fl {a b : Nat} (ha : a < 2 ^ 53) (hb : b < 2 ^ 53) : minF (fl a) (fl b) = fl (min a b) := by
  obtain ⟨f1, -, -⟩ := fl_fin ha
  obtain ⟨f2, -, -⟩ := fl_fin hb
  have h1 := (fl_rv ha).2
  have h2 := (fl_rv hb).2
  unfold minF ordK
  rw [f1.2.1, f2.2.1]
  simp only [Bool.false_eq_true, if_false]
  rw [if_pos (show fl a < 9223372036854775808 by omega), if_pos (show fl b < 9223372036854775808 by omega)]
  have h := fl_lt_iff hb ha
  by_cases hab : a ≤ b
  · rw [if_pos (by omega), Nat.min_eq_left hab]
  · rw [if_neg (by omega), Nat.min_eq_right (by omega)]

theorem key_fl {a : Nat} (ha : a < 2 ^ 53) : key64 (fl a) = (fl a : Int) ∧ nan64 (fl a) = false := by
  obtain ⟨f1, -, -⟩ := fl_fin ha
  have h1 := (fl_rv ha).2
  refine ⟨?_, f1.2.1⟩
  unfold key64; rw [if_neg (by omega), Nat.mod_eq_of_lt (by omega)]

theorem fl_inj {a b : Nat} (ha : a < 2 ^ 53) (hb : b < 2 ^ 53) : fl a = fl b ↔ a = b := by
  have h1 := fl_lt_iff ha hb
  have h2 := fl_lt_iff hb ha
  omega

theorem feq_fl {a b : Nat} (ha : a < 2 ^ 53) (hb : b < 2 ^ 53) : feq .f64 (fl a) (fl b) = (a == b) := by
  rw [feq64, (key_fl ha).2, (key_fl hb).2, (key_fl ha).1, (key_fl hb).1]
  have := fl_inj ha hb
  rw [Bool.eq_iff_iff]; simp; omega
theorem flt_fl {a b : Nat} (ha : a < 2 ^ 53) (hb : b < 2 ^ 53) : flt .f64 (fl a) (fl b) = decide (a < b) := by
  rw [flt64, (key_fl ha).2, (key_fl hb).2, (key_fl ha).1, (key_fl hb).1]
  have := fl_lt_iff ha hb
  rw [Bool.eq_iff_iff]; simp; omega
theorem fgt_fl {a b : Nat} (ha : a < 2 ^ 53) (hb : b < 2 ^ 53) : fgt .f64 (fl a) (fl b) = decide (b < a) := by
  rw [fgt64, (key_fl ha).2, (key_fl hb).2, (key_fl ha).1, (key_fl hb).1]
  have := fl_lt_iff hb ha
  rw [Bool.eq_iff_iff]; simp; omega

/-- An int made a float. -/
theorem near_fl (n : Int) : FloatKind.f64.nearest n = wrd (decide (n < 0)) (fl n.natAbs) := by
  show Ieee.double.write (.number (decide (n < 0)) n.natAbs 0) = _
  rw [write64]; rfl

/-- A float of a whole number made an int. -/
theorem int_fl {n : Nat} (h : n < 2 ^ 53) : floatToIntVal .f64 (fl n) .i64 = some (n : Int) := by
  obtain ⟨f1, n1, v1⟩ := fl_fin h
  unfold floatToIntVal
  have hd : FloatKind.f64.decode (fl n) = .number (negB (fl n)) (mantB (fl n)) (-1074 + (placeB (fl n) : Nat)) := read_fin f1
  rw [hd, n1]
  unfold Datum.toInt Datum.integral
  simp only [cut_zero, signed_eq, Nat.shiftLeft_eq]
  have hv : mantB (fl n) * 2 ^ placeB (fl n) = n * 2 ^ K74 := by
    rw [valZ_eq, n1] at v1
    unfold sgn at v1
    rw [if_neg Bool.false_ne_true] at v1
    exact Int.ofNat.inj v1
  have hq : mantB (fl n) * 2 ^ (-1074 + (placeB (fl n) : Int)).toNat / 2 ^ (-(-1074 + (placeB (fl n) : Int))).toNat = n := by
    generalize mantB (fl n) = M at *
    generalize placeB (fl n) = P at *
    by_cases hp : 1074 ≤ P
    · rw [show (-1074 + (P : Int)).toNat = P - 1074 by omega, show (-(-1074 + (P : Int))).toNat = 0 by omega, Nat.pow_zero, Nat.div_one]
      have e : 2 ^ P = 2 ^ (P - 1074) * 2 ^ K74 := by rw [← Nat.pow_add]; congr 1; unfold K74; omega
      rw [e, ← Nat.mul_assoc] at hv
      exact (eq_mul_pow _ _ _).1 hv
    · rw [show (-1074 + (P : Int)).toNat = 0 by omega, show (-(-1074 + (P : Int))).toNat = 1074 - P by omega, Nat.pow_zero, Nat.mul_one]
      have e : 2 ^ K74 = 2 ^ (1074 - P) * 2 ^ P := by rw [← Nat.pow_add]; congr 1; unfold K74; omega
      rw [e, ← Nat.mul_assoc] at hv
      have := Nat.eq_of_mul_eq_mul_right (Nat.two_pow_pos P) hv
      rw [this, Nat.mul_div_cancel _ (Nat.two_pow_pos _)]
  rw [hq]
  unfold sgn
  simp only [Bool.false_eq_true, if_false, Nat.pow_zero, Nat.mul_one]
  rw [if_pos (by simp [IntKind.min, IntKind.max, IntKind.signed, IntKind.bits]; omega)]

end Go.Pst
