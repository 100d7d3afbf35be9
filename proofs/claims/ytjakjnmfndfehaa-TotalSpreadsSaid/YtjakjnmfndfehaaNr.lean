/- Plain facts on rounding a whole number times a power of two to a float: to the nearest, of two the even one. No condition. -/
import Derived.Test.YtjakjnmfndfehaaPl
namespace Go.Pst
open Go

def rne (M k : Nat) : Nat := M / 2 ^ k + (if 2 ^ k < 2 * (M % 2 ^ k) ∨ (2 ^ k = 2 * (M % 2 ^ k) ∧ M / 2 ^ k % 2 = 1) then 1 else 0)

/-- How many places are dropped. -/
def kap (f e M : Nat) (E : Int) : Int := max ((M.log2 : Int) - f) (lst f e - E)

def keptN (f e M : Nat) (E : Int) : Nat := if 0 ≤ kap f e M E then rne M (kap f e M E).toNat else M * 2 ^ (-(kap f e M E)).toNat

/-- The bits, without a sign, of M * 2^E rounded. -/
def rndN (f e M : Nat) (E : Int) : Nat :=
  if M = 0 then 0 else min ((E + kap f e M E - lst f e).toNat * 2 ^ f + keptN f e M E) ((2 ^ e - 1) * 2 ^ f)

theorem rne_double (M k : Nat) : rne (2 * M) (k + 1) = rne M k := by
  unfold rne
  have h1 : 2 * M / 2 ^ (k + 1) = M / 2 ^ k := by rw [Nat.pow_succ, Nat.mul_comm (2 ^ k) 2, Nat.mul_div_mul_left _ _ (by omega)]
  have h2 : 2 * M % 2 ^ (k + 1) = 2 * (M % 2 ^ k) := by rw [Nat.pow_succ, Nat.mul_comm (2 ^ k) 2, Nat.mul_mod_mul_left]
  rw [h1, h2, Nat.pow_succ]
  generalize M % 2 ^ k = r
  generalize M / 2 ^ k = q
  generalize 2 ^ k = p
  congr 1
  by_cases h : p < 2 * r ∨ (p = 2 * r ∧ q % 2 = 1)
  · rw [if_pos h, if_pos (by omega)]
  · rw [if_neg h, if_neg (by omega)]

theorem rne_zero (M : Nat) : rne M 0 = M := by
  unfold rne; rw [Nat.pow_zero, Nat.mod_one, Nat.div_one, if_neg (by omega)]; rfl

theorem log2_double (M : Nat) (h : M ≠ 0) : (2 * M).log2 = M.log2 + 1 := Nat.log2_two_mul h

theorem kap_double (f e M : Nat) (E : Int) (h : M ≠ 0) : kap f e (2 * M) (E - 1) = kap f e M E + 1 := by
  unfold kap; rw [log2_double M h]; omega

theorem kept_double (f e M : Nat) (E : Int) (h : M ≠ 0) : keptN f e (2 * M) (E - 1) = keptN f e M E := by
  unfold keptN
  rw [kap_double f e M E h]
  generalize kap f e M E = K
  by_cases h1 : 0 ≤ K
  · rw [if_pos h1, if_pos (by omega), show (K + 1).toNat = K.toNat + 1 by omega, rne_double]
  · rw [if_neg h1]
    by_cases h2 : K = -1
    · subst h2; rw [if_pos (by omega)]; show rne (2 * M) 0 = M * 2 ^ 1; rw [rne_zero]; omega
    · rw [if_neg (by omega), show (-K).toNat = (-(K + 1)).toNat + 1 by omega, Nat.pow_succ]
      rw [Nat.mul_comm 2 M, Nat.mul_assoc, Nat.mul_comm 2]

theorem rnd_double (f e M : Nat) (E : Int) : rndN f e (2 * M) (E - 1) = rndN f e M E := by
  unfold rndN
  by_cases h : M = 0
  · rw [if_pos h, if_pos (by omega)]
  · rw [if_neg h, if_neg (by omega), kap_double f e M E h, kept_double f e M E h]
    congr 4; omega

theorem rnd_four (f e N : Nat) (E : Int) : rndN f e (4 * N) (E - 2) = rndN f e N E := by
  rw [show 4 * N = 2 * (2 * N) by omega, show E - 2 = E - 1 - 1 by omega, rnd_double, rnd_double]

/-- What the rounding keeps is no more than twice the binade, and less than it only at the least place. -/
theorem rne_le {M k b : Nat} (h : M < 2 ^ (k + b)) : rne M k ≤ 2 ^ b := by
  have hq : M / 2 ^ k < 2 ^ b := (Nat.div_lt_iff_lt_mul (Nat.two_pow_pos k)).2 (by rwa [← Nat.pow_add, Nat.add_comm])
  unfold rne
  split <;> omega

theorem rne_ge {M k b : Nat} (h : 2 ^ (k + b) ≤ M) : 2 ^ b ≤ rne M k := by
  have hq : 2 ^ b ≤ M / 2 ^ k := (Nat.le_div_iff_mul_le (Nat.two_pow_pos k)).2 (by rwa [← Nat.pow_add, Nat.add_comm])
  unfold rne
  omega

theorem kept_facts (f e M : Nat) (E : Int) (h : M ≠ 0) : keptN f e M E ≤ 2 ^ (f + 1) ∧ (keptN f e M E < 2 ^ f → E + kap f e M E = lst f e) ∧ lst f e ≤ E + kap f e M E := by
  have h1 : M < 2 ^ (M.log2 + 1) := Nat.lt_log2_self
  have h2 : 2 ^ M.log2 ≤ M := Nat.log2_self_le h
  have hk : kap f e M E = max ((M.log2 : Int) - f) (lst f e - E) := rfl
  unfold keptN
  generalize kap f e M E = K at *
  generalize M.log2 = L at *
  refine ⟨?_, ?_, by omega⟩
  · by_cases h0 : 0 ≤ K
    · rw [if_pos h0]
      exact rne_le (Nat.lt_of_lt_of_le h1 (Nat.pow_le_pow_right (by omega) (by omega)))
    · rw [if_neg h0]
      have : M * 2 ^ (-K).toNat < 2 ^ (L + 1) * 2 ^ (-K).toNat := Nat.mul_lt_mul_of_pos_right h1 (Nat.two_pow_pos _)
      rw [← Nat.pow_add] at this
      exact Nat.le_of_lt (Nat.lt_of_lt_of_le this (Nat.pow_le_pow_right (by omega) (by omega)))
  · intro hl
    refine Decidable.byContradiction fun hne => ?_
    have hK : K = (L : Int) - f := by omega
    by_cases h0 : 0 ≤ K
    · rw [if_pos h0] at hl
      have := rne_ge (M := M) (k := K.toNat) (b := f) (by rwa [show K.toNat + f = L by omega])
      omega
    · rw [if_neg h0] at hl
      have : 2 ^ L * 2 ^ (-K).toNat ≤ M * 2 ^ (-K).toNat := Nat.mul_le_mul_right _ h2
      rw [← Nat.pow_add, show L + (-K).toNat = f by omega] at this
      omega

/-- The last step: bits out of what was kept. -/
theorem rnd_fin (f e n : Nat) (x : Int) (he : 1 ≤ e) (h1 : n ≤ 2 ^ (f + 1)) (h2 : n < 2 ^ f → x = lst f e) (h3 : lst f e ≤ x) :
    min ((x - lst f e).toNat * 2 ^ f + n) ((2 ^ e - 1) * 2 ^ f) =
      if n < 2 ^ f then n else if ((2 ^ e - 1 : Nat) : Int) ≤ (if n = 2 ^ (f + 1) then x + 1 else x) - lst f e + 1 then (2 ^ e - 1) * 2 ^ f
      else ((if n = 2 ^ (f + 1) then x + 1 else x) - lst f e + 1).toNat * 2 ^ f + (if n = 2 ^ (f + 1) then 2 ^ f else n) % 2 ^ f := by
  have hp : 0 < 2 ^ f := Nat.two_pow_pos f
  have ht : 1 ≤ 2 ^ e - 1 := by have := Nat.pow_le_pow_right (n := 2) (by omega) he; omega
  rw [Nat.pow_succ] at h1 ⊢
  generalize 2 ^ f = B at *
  generalize 2 ^ e - 1 = T at *
  generalize lst f e = l at *
  obtain ⟨d, rfl⟩ : ∃ d : Nat, x = l + d := ⟨(x - l).toNat, by omega⟩
  rw [show (l + (d : Int) - l).toNat = d by omega]
  by_cases hn : n < B
  · rw [if_pos hn]
    have hd : d = 0 := by have := h2 hn; omega
    subst hd
    have : B ≤ T * B := Nat.le_mul_of_pos_left _ ht
    rw [Nat.zero_mul, Nat.zero_add]; omega
  · rw [if_neg hn]
    by_cases hc : n = B * 2
    · rw [if_pos hc, if_pos hc]
      by_cases hi : (T : Int) ≤ l + d + 1 - l + 1
      · rw [if_pos hi]
        have : T * B ≤ (d + 2) * B := Nat.mul_le_mul_right _ (by omega)
        rw [Nat.add_mul] at this; omega
      · rw [if_neg hi, show (l + (d : Int) + 1 - l + 1).toNat = d + 2 by omega, Nat.mod_self, Nat.add_zero]
        have : (d + 2) * B ≤ T * B := Nat.mul_le_mul_right _ (by omega)
        rw [Nat.add_mul] at this ⊢; omega
    · rw [if_neg hc, if_neg hc]
      have hmod : n % B = n - B := by rw [Nat.mod_eq_sub_mod (by omega), Nat.mod_eq_of_lt (by omega)]
      by_cases hi : (T : Int) ≤ l + d - l + 1
      · rw [if_pos hi]
        have : T * B ≤ (d + 1) * B := Nat.mul_le_mul_right _ (by omega)
        rw [Nat.add_mul] at this; omega
      · rw [if_neg hi, show (l + (d : Int) - l + 1).toNat = d + 1 by omega, hmod]
        have : (d + 2) * B ≤ T * B := Nat.mul_le_mul_right _ (by omega)
        rw [Nat.add_mul] at this ⊢; omega

end Go.Pst
