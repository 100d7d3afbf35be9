/- Plain facts: roots in whole numbers, with one digit more that tells whether anything is left: rounded, it does not matter how many digits are taken. No condition. -/
import Derived.Test.YtjakjnmfndfehaaWh
namespace Go.Pst
open Go Ieee
set_option linter.unusedVariables false

theorem rne_mid {P d r w k R M : Nat} (hR : 2 ^ k = 2 * R * P) (hd0 : 0 < d) (hd : d < P) (hM : M = w * P + d) (hr : r = w % (2 * R)) (hR0 : 0 < R) :
    rne M k = w / (2 * R) + if R ≤ r then 1 else 0 := by
  have hP : 0 < P := by omega
  have hrl : r < 2 * R := by rw [hr]; exact Nat.mod_lt _ (by omega)
  have hdiv : M / 2 ^ k = w / (2 * R) := by
    rw [hR, Nat.mul_comm (2 * R) P, ← Nat.div_div_eq_div_mul, hM, Nat.mul_comm w P, Nat.mul_add_div hP, Nat.div_eq_of_lt hd, Nat.add_zero]
  have hmod : M % 2 ^ k = r * P + d := by
    have h1 := Nat.div_add_mod M (2 ^ k)
    rw [hdiv, hR] at h1
    have h2 := Nat.div_add_mod w (2 * R)
    rw [← hr] at h2
    have h3 : M = (2 * R * (w / (2 * R)) + r) * P + d := by rw [h2]; exact hM
    rw [Nat.add_mul] at h3
    have h4 : 2 * R * (w / (2 * R)) * P = 2 * R * P * (w / (2 * R)) := by rw [Nat.mul_right_comm]
    rw [hR]
    omega
  unfold rne
  rw [hdiv, hmod, hR]
  congr 1
  by_cases h : R ≤ r
  · rw [if_pos h]
    have : R * P ≤ r * P := Nat.mul_le_mul_right _ h
    rw [if_pos (Or.inl (by rw [Nat.mul_assoc]; omega))]
  · rw [if_neg h]
    have : (r + 1) * P ≤ R * P := Nat.mul_le_mul_right _ (by omega)
    rw [Nat.add_mul, Nat.one_mul] at this
    rw [if_neg (by rw [Nat.mul_assoc]; omega)]

theorem rne_sticky {w M k j : Nat} (hk : 2 ≤ k) (h1 : w * 2 ^ (j + 1) < M) (h2 : M < (w + 1) * 2 ^ (j + 1)) : rne M (k + j) = rne (2 * w + 1) k := by
  have hR0 : 0 < 2 ^ (k - 2) := Nat.two_pow_pos _
  have e1 : 2 ^ (k + j) = 2 * 2 ^ (k - 2) * 2 ^ (j + 1) := by rw [← Nat.pow_succ', ← Nat.pow_add]; congr 1; omega
  have e2 : 2 ^ k = 2 * 2 ^ (k - 2) * 2 := by rw [← Nat.pow_succ', ← Nat.pow_succ]; congr 1; omega
  rw [Nat.add_mul, Nat.one_mul] at h2
  rw [rne_mid (w := w) (d := M - w * 2 ^ (j + 1)) e1 (by omega) (by omega) (by omega) rfl hR0, rne_mid (w := w) (P := 2) (d := 1) e2 (by omega) (by omega) (by omega) rfl hR0]

theorem log2_is {M L : Nat} (h1 : 2 ^ L ≤ M) (h2 : M < 2 ^ (L + 1)) : M.log2 = L := by
  have h0 : M ≠ 0 := by have := Nat.two_pow_pos L; omega
  have a1 : L ≤ M.log2 := (Nat.le_log2 h0).2 h1
  have a2 : M.log2 < L + 1 := (Nat.log2_lt h0).2 h2
  omega

/-- What lies strictly between two neighbours that have digits enough is rounded as their middle is. -/
theorem rnd_sticky {f e w M j : Nat} {E : Int} (hw : 2 ^ (f + 1) ≤ w) (h1 : w * 2 ^ (j + 1) < M) (h2 : M < (w + 1) * 2 ^ (j + 1)) : rndN f e M (E - j) = rndN f e (2 * w + 1) E := by
  have hw0 : 0 < w := Nat.lt_of_lt_of_le (Nat.two_pow_pos _) hw
  have hm0 : 2 * w + 1 ≠ 0 := by omega
  have hM0 : M ≠ 0 := by omega
  have b1 := Nat.log2_self_le hm0
  have b2 : 2 * w + 1 < 2 ^ ((2 * w + 1).log2 + 1) := Nat.lt_log2_self
  have hL : f + 2 ≤ (2 * w + 1).log2 := (Nat.le_log2 hm0).2 (by rw [Nat.pow_succ]; omega)
  generalize (2 * w + 1).log2 = L at *
  obtain ⟨K, rfl⟩ : ∃ K, L = K + 1 := ⟨L - 1, by omega⟩
  rw [Nat.pow_succ] at b1
  rw [Nat.pow_succ, Nat.pow_succ] at b2
  have c1 : 2 ^ K ≤ w := by omega
  have c2 : w + 1 ≤ 2 ^ (K + 1) := by rw [Nat.pow_succ]; omega
  have lM : M.log2 = K + 1 + j := by
    apply log2_is
    · have : 2 ^ K * 2 ^ (j + 1) ≤ w * 2 ^ (j + 1) := Nat.mul_le_mul_right _ c1
      rw [← Nat.pow_add, show K + (j + 1) = K + 1 + j by omega] at this; omega
    · have : (w + 1) * 2 ^ (j + 1) ≤ 2 ^ (K + 1) * 2 ^ (j + 1) := Nat.mul_le_mul_right _ c2
      rw [← Nat.pow_add, show K + 1 + (j + 1) = K + 1 + j + 1 by omega] at this; omega
  have lw : (2 * w + 1).log2 = K + 1 := log2_is (by rw [Nat.pow_succ]; omega) (by rw [Nat.pow_succ]; omega)
  have hk1 : kap f e (2 * w + 1) E = max (((K + 1 : Nat) : Int) - f) (lst f e - E) := by unfold kap; rw [lw]
  have hk2 : kap f e M (E - j) = kap f e (2 * w + 1) E + j := by unfold kap; rw [lw, lM]; omega
  have hk3 : 2 ≤ kap f e (2 * w + 1) E := by omega
  unfold rndN
  rw [if_neg hM0, if_neg hm0, hk2, show E - j + (kap f e (2 * w + 1) E + j) - lst f e = E + kap f e (2 * w + 1) E - lst f e by omega]
  congr 2
  unfold keptN
  rw [hk2, if_pos (by omega), if_pos (by omega)]
  obtain ⟨k, hk⟩ : ∃ k : Nat, kap f e (2 * w + 1) E = k := ⟨(kap f e (2 * w + 1) E).toNat, by omega⟩
  rw [hk]
  rw [hk] at hk3
  rw [show ((k : Int) + j).toNat = k + j by omega, Int.toNat_natCast]
  exact rne_sticky (by omega) h1 h2

/-! ### Roots -/
def Root (n w : Nat) : Prop := w * w ≤ n ∧ n < (w + 1) * (w + 1)

theorem sq_lt {a b : Nat} (h : a * a < b * b) : a < b := Decidable.byContradiction fun hn => by
  have : b * b ≤ a * a := Nat.mul_le_mul (by omega) (by omega)
  omega

theorem root_uniq {n a b : Nat} (h1 : Root n a) (h2 : Root n b) : a = b := by
  have g1 : a < b + 1 := sq_lt (Nat.lt_of_le_of_lt h1.1 h2.2)
  have g2 : b < a + 1 := sq_lt (Nat.lt_of_le_of_lt h2.1 h1.2)
  omega

theorem rootFrom_is (n : Nat) : ∀ (t r : Nat), r * r ≤ n → n < (r + 2 ^ t) * (r + 2 ^ t) → Root n (Datum.rootFrom n t r)
  | 0, r, h1, h2 => ⟨h1, h2⟩
  | t + 1, r, h1, h2 => by
    unfold Datum.rootFrom
    simp only [Nat.shiftLeft_eq, Nat.one_mul]
    by_cases h : (r + 2 ^ t) * (r + 2 ^ t) ≤ n
    · rw [if_pos h]
      refine rootFrom_is n t _ h ?_
      rw [Nat.pow_succ] at h2
      rw [show r + 2 ^ t + 2 ^ t = r + 2 ^ t * 2 by omega]; exact h2
    · rw [if_neg h]
      exact rootFrom_is n t _ h1 (by omega)

theorem root_whole (n : Nat) : Root n (Datum.rootFrom n (n.log2 / 2 + 1) 0) := by
  refine rootFrom_is n _ _ (by omega) ?_
  rw [Nat.zero_add, ← Nat.pow_add]
  exact Nat.lt_of_lt_of_le Nat.lt_log2_self (Nat.pow_le_pow_right (by omega) (by omega))

def stk (n w : Nat) : Nat := if w * w = n then 0 else 1

/-- With more digits it is the same. -/
theorem root_more {f e n w w' a : Nat} {E : Int} (h : Root n w) (h' : Root (n * 4 ^ a) w') (hw : 2 ^ (f + 1) ≤ w) :
    rndN f e (2 * w' + stk (n * 4 ^ a) w') (E - a) = rndN f e (2 * w + stk n w) E := by
  have e4 : (4 : Nat) ^ a = 2 ^ a * 2 ^ a := by rw [show (4 : Nat) = 2 * 2 from rfl, Nat.mul_pow]
  have hp := Nat.two_pow_pos a
  have sq : ∀ x : Nat, x * 2 ^ a * (x * 2 ^ a) = x * x * 4 ^ a := fun x => by rw [e4]; simp only [Nat.mul_assoc, Nat.mul_left_comm]
  by_cases hs : w * w = n
  · have hr : Root (n * 4 ^ a) (w * 2 ^ a) := by
      refine ⟨by rw [sq, hs]; exact Nat.le_refl _, ?_⟩
      have : n * 4 ^ a = w * 2 ^ a * (w * 2 ^ a) := by rw [sq, hs]
      rw [this]
      exact Nat.mul_lt_mul_of_lt_of_le (by omega) (by omega) (by omega)
    have := root_uniq h' hr
    subst this
    have s1 : stk (n * 4 ^ a) (w * 2 ^ a) = 0 := by unfold stk; rw [if_pos (by rw [sq, hs])]
    have s2 : stk n w = 0 := by unfold stk; rw [if_pos hs]
    rw [s1, s2, Nat.add_zero, Nat.add_zero, ← Nat.mul_assoc, rnd_shift]
  · have s2 : stk n w = 1 := by unfold stk; rw [if_neg hs]
    rw [s2]
    have hp4 : 0 < 4 ^ a := Nat.pow_pos (by omega)
    have k1 : w * 2 ^ a < w' + 1 := sq_lt (by rw [sq]; exact Nat.lt_of_le_of_lt (Nat.mul_le_mul_right _ h.1) h'.2)
    have k2 : w' < (w + 1) * 2 ^ a := sq_lt (by rw [sq]; exact Nat.lt_of_le_of_lt h'.1 (Nat.mul_lt_mul_of_pos_right h.2 hp4))
    have hst : stk (n * 4 ^ a) w' ≤ 1 := by unfold stk; split <;> omega
    refine rnd_sticky hw ?_ ?_
    · rw [Nat.pow_succ, ← Nat.mul_assoc]
      by_cases hq : w' = w * 2 ^ a
      · have : stk (n * 4 ^ a) w' = 1 := by
          unfold stk
          rw [if_neg]
          rw [hq, sq]
          intro hh
          exact hs (Nat.eq_of_mul_eq_mul_right hp4 hh)
        omega
      · omega
    · rw [Nat.pow_succ, ← Nat.mul_assoc]; omega

/-- As the reference hands it on: four times the root, and one if anything is left. -/
theorem root_four {f e n w : Nat} {E : Int} (hw : 2 ^ (f + 1) ≤ w) : rndN f e (4 * w + stk n w) (E - 2) = rndN f e (2 * w + stk n w) (E - 1) := by
  unfold stk
  split
  · have := rnd_double f e (2 * w) (E - 1)
    rw [show E - 1 - 1 = E - 2 by omega, ← Nat.mul_assoc] at this
    exact this
  · have := rnd_sticky (f := f) (e := e) (w := w) (M := 4 * w + 1) (j := 1) (E := E - 1) hw (by omega) (by omega)
    rw [show E - 1 - ((1 : Nat) : Int) = E - 2 by omega] at this
    exact this

end Go.Pst
