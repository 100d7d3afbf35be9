/- Plain facts on rounding to 64 bits: what is far off; a float's own parts give it again; there and back. No condition. -/
import Derived.Test.YtjakjnmfndfehaaNr
namespace Go.Pst
open Go

theorem lst64 : lst 52 11 = -1074 := by decide
theorem inf64 : (2 ^ 11 - 1) * 2 ^ 52 = 9218868437227405312 := by decide

theorem rnd_big (m : Nat) (E : Int) (hm : m ≠ 0) (hE : 3000 ≤ E) : rndN 52 11 m E = 9218868437227405312 := by
  unfold rndN
  rw [if_neg hm, inf64, lst64]
  have hk : kap 52 11 m E = max ((m.log2 : Int) - (52 : Nat)) (lst 52 11 - E) := rfl
  rw [lst64] at hk
  have h1 : 2047 ≤ (E + kap 52 11 m E - -1074).toNat := by omega
  have h2 : 2047 * 2 ^ 52 ≤ (E + kap 52 11 m E - -1074).toNat * 2 ^ 52 := Nat.mul_le_mul_right _ h1
  omega

theorem rne_small {M k : Nat} (h : 2 * M < 2 ^ k) : rne M k = 0 := by
  unfold rne
  rw [Nat.div_eq_of_lt (by omega), Nat.mod_eq_of_lt (by omega), if_neg (by omega)]

theorem rnd_small (m : Nat) (E : Int) (hm : m < 2 ^ 64) (hE : E ≤ -3000) : rndN 52 11 m E = 0 := by
  unfold rndN
  by_cases h0 : m = 0
  · rw [if_pos h0]
  rw [if_neg h0, lst64]
  have hl : m.log2 < 64 := (Nat.log2_lt h0).2 hm
  have hk : kap 52 11 m E = max ((m.log2 : Int) - (52 : Nat)) (lst 52 11 - E) := rfl
  rw [lst64] at hk
  have h1 : kap 52 11 m E = -1074 - E := by omega
  have h2 : keptN 52 11 m E = 0 := by
    unfold keptN; rw [if_pos (by omega)]
    refine rne_small (Nat.lt_of_lt_of_le (show 2 * m < 2 ^ 65 by omega) (Nat.pow_le_pow_right (by omega) (by omega)))
  rw [h2, show (E + kap 52 11 m E - -1074).toNat = 0 by omega]
  simp

theorem rnd_normal (m : Nat) (E : Int) (h1 : 2 ^ 52 ≤ m) (h2 : m < 2 ^ 53) : rndN 52 11 m E =
    if -1074 ≤ E then min ((E + 1074).toNat * 4503599627370496 + m) 9218868437227405312 else min (rne m (-1074 - E).toNat) 9218868437227405312 := by
  have h0 : m ≠ 0 := by omega
  have hl : m.log2 = 52 := by
    have a1 : 52 ≤ m.log2 := (Nat.le_log2 h0).2 h1
    have a2 : m.log2 < 53 := (Nat.log2_lt h0).2 h2
    omega
  unfold rndN
  rw [if_neg h0, inf64, lst64]
  have hk : kap 52 11 m E = max ((m.log2 : Int) - (52 : Nat)) (lst 52 11 - E) := rfl
  rw [lst64, hl] at hk
  by_cases hE : -1074 ≤ E
  · have h3 : kap 52 11 m E = 0 := by omega
    have h4 : keptN 52 11 m E = m := by unfold keptN; rw [h3, if_pos (by omega)]; exact rne_zero m
    rw [if_pos hE, h4, h3, show (E + 0 - -1074).toNat = (E + 1074).toNat by omega]
  · have h3 : kap 52 11 m E = -1074 - E := by omega
    have h4 : keptN 52 11 m E = rne m (-1074 - E).toNat := by unfold keptN; rw [h3, if_pos (by omega)]
    rw [if_neg hE, h4, h3, show (E + (-1074 - E) - -1074).toNat = 0 by omega, Nat.zero_mul, Nat.zero_add]

theorem rnd_sub (m : Nat) (h2 : m < 2 ^ 52) : rndN 52 11 m (-1074) = m := by
  unfold rndN
  by_cases h0 : m = 0
  · rw [if_pos h0]; exact h0.symm
  rw [if_neg h0, inf64, lst64]
  have hl : m.log2 < 52 := (Nat.log2_lt h0).2 h2
  have hk : kap 52 11 m (-1074) = max ((m.log2 : Int) - (52 : Nat)) (lst 52 11 - -1074) := rfl
  rw [lst64] at hk
  have h3 : kap 52 11 m (-1074) = 0 := by omega
  have h4 : keptN 52 11 m (-1074) = m := by unfold keptN; rw [h3, if_pos (by omega)]; exact rne_zero m
  rw [h4, h3]
  show min (0 * 2 ^ 52 + m) _ = m
  omega

theorem signed_mod (b : Nat) (h : b < 2 ^ 64) (neg : Bool) (hn : neg = decide (9223372036854775808 ≤ b)) : signedBits 52 11 neg (b % 9223372036854775808) = b := by
  unfold signedBits
  subst hn
  by_cases hb : 9223372036854775808 ≤ b
  · rw [if_pos (by simpa using hb)]
    have := Nat.two_pow_add_eq_or_of_lt (i := 63) (b := b % 9223372036854775808) (Nat.mod_lt _ (by omega)) 1
    rw [show (2 : Nat) ^ (52 + 11) = 9223372036854775808 from rfl, Nat.or_comm]
    rw [show (2 : Nat) ^ 63 * 1 = 9223372036854775808 from rfl] at this
    rw [← this]; omega
  · rw [if_neg (by simpa using hb)]; omega

/-- The parts of a float of 64 bits, in numerals. -/
theorem parts64_num (b : Nat) (h : b < 2 ^ 64) : partsN 52 11 b =
    if b / 4503599627370496 % 2048 = 2047 then (if b % 4503599627370496 = 0 then ⟨3, decide (9223372036854775808 ≤ b), 0, 0, false, 0⟩
      else ⟨4, decide (9223372036854775808 ≤ b), 0, 0, b % 4503599627370496 / 2251799813685248 == 1, ((b % 4503599627370496 % 2251799813685248 : Nat) : Int)⟩)
    else if 0 < b / 4503599627370496 % 2048 then ⟨2, decide (9223372036854775808 ≤ b), ((4503599627370496 + b % 4503599627370496 : Nat) : Int), ((b / 4503599627370496 % 2048 : Nat) : Int) - 1 + -1074, false, 0⟩
    else if 0 < b % 4503599627370496 then ⟨1, decide (9223372036854775808 ≤ b), ((b % 4503599627370496 : Nat) : Int), -1074, false, 0⟩
    else ⟨0, decide (9223372036854775808 ≤ b), 0, 0, false, 0⟩ := by
  unfold partsN
  rw [lst64]
  have hn : (b / 2 ^ (52 + 11) % 2 == 1) = decide (9223372036854775808 ≤ b) := by
    rw [show (2 : Nat) ^ (52 + 11) = 9223372036854775808 from rfl, Bool.eq_iff_iff]; simp; omega
  rw [hn]

theorem parts_rnd (b m : Nat) (h : b < 2 ^ 64) (hk : (partsN 52 11 b).kind = 1 ∨ (partsN 52 11 b).kind = 2) (hm : (partsN 52 11 b).mant = m) :
    signedBits 52 11 (partsN 52 11 b).neg (rndN 52 11 m (partsN 52 11 b).exp) = b := by
  have hp := parts64_num b h
  generalize partsN 52 11 b = p at *
  have key : ∀ r : Nat, r = b % 9223372036854775808 → signedBits 52 11 (decide (9223372036854775808 ≤ b)) r = b := fun r hr => by rw [hr]; exact signed_mod b h _ rfl
  by_cases h1 : b / 4503599627370496 % 2048 = 2047
  · rw [if_pos h1] at hp; split at hp <;> (subst hp; simp at hk)
  rw [if_neg h1] at hp
  by_cases h2 : 0 < b / 4503599627370496 % 2048
  · rw [if_pos h2] at hp
    subst hp
    simp only at hm ⊢
    have hm' : m = 4503599627370496 + b % 4503599627370496 := by omega
    have hlt : b % 4503599627370496 < 4503599627370496 := Nat.mod_lt _ (by omega)
    refine key _ ?_
    rw [rnd_normal m _ (by omega) (by omega), if_pos (by omega)]
    rw [show (((b / 4503599627370496 % 2048 : Nat) : Int) - 1 + -1074 + 1074).toNat = b / 4503599627370496 % 2048 - 1 by omega]
    omega
  · rw [if_neg h2] at hp
    by_cases h3 : 0 < b % 4503599627370496
    · rw [if_pos h3] at hp
      subst hp
      simp only at hm ⊢
      have hlt : b % 4503599627370496 < 4503599627370496 := Nat.mod_lt _ (by omega)
      refine key _ ?_
      rw [rnd_sub m (by omega)]
      omega
    · rw [if_neg h3] at hp
      subst hp; simp at hk

theorem rnd_lt (m : Nat) (E : Int) : rndN 52 11 m E ≤ 9218868437227405312 := by
  unfold rndN; split
  · omega
  · rw [inf64]; omega

theorem signed_lt (neg : Bool) (r : Nat) (h : r < 9223372036854775808) : signedBits 52 11 neg r < 2 ^ 64 ∧ signedBits 52 11 neg r % 9223372036854775808 = r ∧ decide (9223372036854775808 ≤ signedBits 52 11 neg r) = neg := by
  unfold signedBits
  rw [show (2 : Nat) ^ (52 + 11) = 9223372036854775808 from rfl]
  cases neg
  · simp; omega
  · have := Nat.two_pow_add_eq_or_of_lt (i := 63) (b := r) h 1
    rw [show (2 : Nat) ^ 63 * 1 = 9223372036854775808 from rfl] at this
    rw [if_pos rfl, Nat.or_comm, ← this]
    refine ⟨by omega, by omega, by simp⟩

/-- There and back: where nothing was lost, the power is the sum. -/
theorem scale_back (m : Nat) (E : Int) (neg : Bool) (h1 : 2 ^ 52 ≤ m) (h2 : m < 2 ^ 53) (hk : (partsN 52 11 (signedBits 52 11 neg (rndN 52 11 m E))).kind = 2)
    (hm : (partsN 52 11 (signedBits 52 11 neg (rndN 52 11 m E))).mant = m) :
    (partsN 52 11 (signedBits 52 11 neg (rndN 52 11 m E))).exp = E ∧ (partsN 52 11 (signedBits 52 11 neg (rndN 52 11 m E))).neg = neg := by
  have hr := rnd_normal m E h1 h2
  have hb := rnd_lt m E
  generalize rndN 52 11 m E = r at *
  obtain ⟨s1, s2, s3⟩ := signed_lt neg r (by omega)
  have hp := parts64_num _ s1
  generalize hy : signedBits 52 11 neg r = y at *
  generalize partsN 52 11 y = p at *
  have e1 : y / 4503599627370496 % 2048 = r / 4503599627370496 := by omega
  have e2 : y % 4503599627370496 = r % 4503599627370496 := by omega
  rw [e1, e2, s3] at hp
  by_cases c1 : r / 4503599627370496 = 2047
  · rw [if_pos c1] at hp; split at hp <;> (subst hp; simp at hk)
  rw [if_neg c1] at hp
  by_cases c2 : 0 < r / 4503599627370496
  · rw [if_pos c2] at hp
    subst hp
    simp only at hm ⊢
    refine ⟨?_, trivial⟩
    by_cases hE : -1074 ≤ E
    · rw [if_pos hE] at hr
      omega
    · exfalso
      rw [if_neg hE] at hr
      obtain ⟨k, hkk⟩ : ∃ k, (-1074 - E).toNat = k + 1 := ⟨(-1074 - E).toNat - 1, by omega⟩
      rw [hkk] at hr
      have h3 : rne m (k + 1) ≤ m / 2 ^ (k + 1) + 1 := by unfold rne; split <;> omega
      have h4 : m / 2 ^ (k + 1) ≤ m / 2 ^ 1 := Nat.div_le_div_left (Nat.pow_le_pow_right (by omega) (by omega)) (by omega)
      omega
  · rw [if_neg c2] at hp
    split at hp <;> (subst hp; simp at hk)

end Go.Pst
