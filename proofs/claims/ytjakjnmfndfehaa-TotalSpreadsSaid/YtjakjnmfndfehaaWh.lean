/- Plain facts: the whole number nearest to a float, a float without what stands behind the point, a float as a whole number. No condition but that a float's bits fit. -/
import Derived.Test.YtjakjnmfndfehaaIe
namespace Go.Pst
open Go Ieee
set_option linter.unusedVariables false

/-- The bits of the nearest whole number. -/
def evB (b : Nat) : Nat := if nan64 b || infB b || decide (1074 ≤ placeB b) then b else wrd (negB b) (rndN 52 11 (rne (mantB b) (1074 - placeB b)) 0)
/-- The bits without what stands behind the point. -/
def trB (b : Nat) : Nat := if nan64 b || infB b || decide (1074 ≤ placeB b) then b else wrd (negB b) (rndN 52 11 (mantB b / 2 ^ (1074 - placeB b)) 0)

theorem mant_lt (b : Nat) : mantB b < 2 ^ 53 := by unfold mantB expF; split <;> omega
theorem place_lt (b : Nat) : placeB b ≤ 2046 := by unfold placeB expF; omega

theorem integral64 (b : Nat) (way : Toward) (g : Nat → Nat → Nat) (hb : b < 2 ^ 64) (hn : nan64 b = false) (hcut : ∀ neg n k, way.cut neg n k = g n k) (hg0 : ∀ n, g n 0 = n) :
    Ieee.double.write ((Ieee.double.read b).integral way) = if infB b || decide (1074 ≤ placeB b) then b else wrd (negB b) (rndN 52 11 (g (mantB b) (1074 - placeB b)) 0) := by
  rw [read64 b hb, hn]
  simp only [Bool.false_eq_true, if_false]
  cases hi : infB b
  · simp only [Bool.false_eq_true, if_false, Bool.false_or]
    unfold Datum.integral
    simp only [hcut, write64, Nat.shiftLeft_eq]
    by_cases hp : 1074 ≤ placeB b
    · rw [decide_eq_true hp, if_pos rfl, show (-(-1074 + (placeB b : Int))).toNat = 0 by omega, hg0]
      have h1 := rnd_shift 52 11 (mantB b) (-1074 + (placeB b : Int)).toNat (-1074 + (placeB b : Int))
      rw [show -1074 + (placeB b : Int) - ((-1074 + (placeB b : Int)).toNat : Int) = 0 by omega] at h1
      rw [h1, rnd_read b hb hn hi, wrd_mod b hb]
    · rw [decide_eq_false hp, if_neg (by simp), show (-1074 + (placeB b : Int)).toNat = 0 by omega, show (-(-1074 + (placeB b : Int))).toNat = 1074 - placeB b by omega]
      simp
  · simp only [if_true, Bool.true_or]
    show Ieee.double.word (negB b) Ieee.double.infRung = b
    rw [word64, ir64]
    unfold infB at hi
    simp only [decide_eq_true_eq] at hi
    rw [← hi, wrd_mod b hb]

theorem even64 (b : Nat) (hb : b < 2 ^ 64) (hn : nan64 b = false) : Ieee.double.write ((Ieee.double.read b).integral .even) = evB b := by
  rw [integral64 b .even rne hb hn cut_even rne_zero]; unfold evB; rw [hn, Bool.false_or]
theorem trunc64 (b : Nat) (hb : b < 2 ^ 64) (hn : nan64 b = false) : Ieee.double.write ((Ieee.double.read b).integral .zero) = trB b := by
  rw [integral64 b .zero (fun n k => n / 2 ^ k) hb hn cut_zero (by simp)]; unfold trB; rw [hn, Bool.false_or]

theorem wrd_lt (neg : Bool) (r : Nat) (h : r < 9223372036854775808) : wrd neg r < 2 ^ 64 ∧ wrd neg r % 9223372036854775808 = r ∧ negB (wrd neg r) = neg := by
  unfold wrd negB
  cases neg
  · rw [if_neg (by simp)]; exact ⟨by omega, by omega, by simp; omega⟩
  · rw [if_pos rfl]; exact ⟨by omega, by omega, by simp⟩

theorem rnd_lt63 (m : Nat) (E : Int) : rndN 52 11 m E < 9223372036854775808 := Nat.lt_of_le_of_lt (rnd_lt m E) (by decide)

theorem evB_lt (b : Nat) (hb : b < 2 ^ 64) : evB b < 2 ^ 64 := by 
  unfold evB
  split
  · exact hb
  · exact (wrd_lt _ _ (rnd_lt63 _ _)).1
theorem trB_lt (b : Nat) (hb : b < 2 ^ 64) : trB b < 2 ^ 64 := by 
  unfold trB
  split
  · exact hb
  · exact (wrd_lt _ _ (rnd_lt63 _ _)).1

/-- The number of a finite float, in units of 2^-1074, with its sign. -/
def valZ (b : Nat) : Int := if negB b then -(rv (b % 9223372036854775808) : Int) else (rv (b % 9223372036854775808) : Int)

theorem rv_mod (b : Nat) : rv (b % 9223372036854775808) = mantB b * 2 ^ placeB b := by
  unfold rv mantB placeB expF
  rw [show b % 9223372036854775808 / 4503599627370496 % 2048 = b / 4503599627370496 % 2048 by omega, show b % 9223372036854775808 % 4503599627370496 = b % 4503599627370496 by omega]

theorem neg_div (b : Nat) (hb : b < 2 ^ 64) : (b / 9223372036854775808 % 2 = 1) ↔ negB b = true := by unfold negB; simp; omega

theorem key_lt_iff (x y : Nat) (hx : x < 2 ^ 64) (hy : y < 2 ^ 64) (nx : nan64 x = false) (ny : nan64 y = false) : key64 x < key64 y ↔ valZ x < valZ y := by
  unfold nan64 at nx ny
  simp only [decide_eq_false_iff_not] at nx ny
  have h1 := @rv_lt_iff (x % 9223372036854775808) (y % 9223372036854775808) (by omega) (by omega)
  have h2 := @rv_lt_iff (y % 9223372036854775808) (x % 9223372036854775808) (by omega) (by omega)
  have hz : rv 0 = 0 := by decide
  have h3 := @rv_lt_iff 0 (x % 9223372036854775808) (by omega) (by omega)
  have h4 := @rv_lt_iff 0 (y % 9223372036854775808) (by omega) (by omega)
  rw [hz] at h3 h4
  unfold key64 valZ
  simp only [neg_div x hx, neg_div y hy]
  generalize x % 9223372036854775808 = r at *
  generalize y % 9223372036854775808 = s at *
  generalize rv r = p at *
  generalize rv s = q at *
  cases negB x <;> cases negB y <;> simp only [Bool.false_eq_true, if_false, if_true] <;> omega

theorem key_eq_iff (x y : Nat) (hx : x < 2 ^ 64) (hy : y < 2 ^ 64) (nx : nan64 x = false) (ny : nan64 y = false) : key64 x = key64 y ↔ valZ x = valZ y := by
  have h1 := key_lt_iff x y hx hy nx ny
  have h2 := key_lt_iff y x hy hx ny nx
  omega

theorem nan_wrd (neg : Bool) (r : Nat) (h : r ≤ 9218868437227405312) : nan64 (wrd neg r) = false := by
  unfold nan64; rw [(wrd_lt neg r (by omega)).2.1]; simp; omega

theorem valZ_wrd (neg : Bool) (r : Nat) (h : r ≤ 9218868437227405312) : valZ (wrd neg r) = if neg then -(rv r : Int) else rv r := by
  unfold valZ; rw [(wrd_lt neg r (by omega)).2.1, (wrd_lt neg r (by omega)).2.2]

/-- A whole number below 2^53, as a float's rung. -/
theorem rv_whole (n : Nat) (h : n < 2 ^ 53) : rv (rndN 52 11 n 0) = n * 2 ^ 1074 ∧ rndN 52 11 n 0 < 9218868437227405312 := rv_exact n 1074 h (by omega)

/-- Cut toward 0 it is the same number just where nothing stood behind the point. -/
theorem trunc_eq (b : Nat) (hb : b < 2 ^ 64) (hn : nan64 b = false) (hi : infB b = false) (hp : placeB b < 1074) :
    (key64 b = key64 (trB b)) ↔ mantB b % 2 ^ (1074 - placeB b) = 0 := by
  have htn : trB b = wrd (negB b) (rndN 52 11 (mantB b / 2 ^ (1074 - placeB b)) 0) := by
    unfold trB; rw [hn, hi, decide_eq_false (by omega)]; simp
  have hm : mantB b / 2 ^ (1074 - placeB b) < 2 ^ 53 := Nat.lt_of_le_of_lt (Nat.div_le_self _ _) (mant_lt b)
  obtain ⟨r1, r2⟩ := rv_whole _ hm
  rw [key_eq_iff b _ hb (trB_lt b hb) hn (by rw [htn]; exact nan_wrd _ _ (by omega)), htn, valZ_wrd _ _ (by omega), r1]
  unfold valZ
  rw [rv_mod]
  obtain ⟨k, hk⟩ : ∃ k, k = 1074 - placeB b := ⟨_, rfl⟩
  rw [← hk]
  have hp2 : (2 : Nat) ^ 1074 = 2 ^ k * 2 ^ placeB b := by rw [← Nat.pow_add]; congr 1; omega
  have hpos : 0 < 2 ^ placeB b := Nat.two_pow_pos _
  have key : (mantB b * 2 ^ placeB b = mantB b / 2 ^ k * 2 ^ 1074) ↔ mantB b % 2 ^ k = 0 := by
    rw [hp2, ← Nat.mul_assoc]
    have hdm := Nat.div_add_mod (mantB b) (2 ^ k)
    constructor
    · intro h
      have := Nat.eq_of_mul_eq_mul_right hpos h
      rw [Nat.mul_comm] at hdm; omega
    · intro h
      rw [h, Nat.add_zero, Nat.mul_comm] at hdm
      rw [hdm]
  rw [← key]
  generalize mantB b * 2 ^ placeB b = p
  generalize mantB b / 2 ^ k * 2 ^ 1074 = q
  cases negB b <;> simp only [Bool.false_eq_true, if_false, if_true] <;> omega

end Go.Pst
