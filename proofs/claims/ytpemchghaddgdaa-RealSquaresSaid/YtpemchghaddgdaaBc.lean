/- Plain facts: a float of another size made one of 64 bits and back is it again. Conditions: the size is no greater than that of brains and halves. -/
import Derived.Test.YtpemchghaddgdaaWh
import Derived.Test.YtpemchghaddgdaaPm
namespace Go.Pst
open Go Ieee
set_option linter.unusedVariables false

/-- Bits of another size of a float; nn: those of a no number. -/
def intoN (f e nn b : Nat) : Nat := if nan64 b then nn else signedBits f e (negB b) (if infB b then (2 ^ e - 1) * 2 ^ f else rndN f e (mantB b) (-1074 + (placeB b : Nat)))

def nanG (f e b : Nat) : Bool := decide (b / 2 ^ f % 2 ^ e = 2 ^ e - 1) && decide (b % 2 ^ f ≠ 0)
def negG (f e b : Nat) : Bool := b / 2 ^ (f + e) % 2 == 1
def mantG (f e b : Nat) : Nat := if 0 < b / 2 ^ f % 2 ^ e then 2 ^ f + b % 2 ^ f else b % 2 ^ f
def expG (f e b : Nat) : Int := if 0 < b / 2 ^ f % 2 ^ e then ((b / 2 ^ f % 2 ^ e : Nat) : Int) - 1 + lst f e else if 0 < b % 2 ^ f then lst f e else 0
def infG (f e b : Nat) : Bool := decide (b / 2 ^ f % 2 ^ e = 2 ^ e - 1)

/-- A float of another size as one of 64 bits; nn: a no number. -/
def fromN (f e nn b : Nat) : Nat := if nanG f e b then nn else signedBits 52 11 (negG f e b) (if infG f e b then 9218868437227405312 else rndN 52 11 (mantG f e b) (expG f e b))

theorem split_mod (f e b : Nat) (h : b < 2 ^ (1 + f + e)) : b % 2 ^ (f + e) = b / 2 ^ f % 2 ^ e * 2 ^ f + b % 2 ^ f := by
  obtain ⟨h1, h2⟩ := split_bits f e b h
  generalize b / 2 ^ f % 2 ^ e * 2 ^ f + b % 2 ^ f = u at *
  rw [h1]
  rw [Nat.mul_add_mod_self_right, Nat.mod_eq_of_lt h2]

theorem rnd_self (f e b : Nat) (he : 1 ≤ e) (h : b < 2 ^ (1 + f + e)) (hi : infG f e b = false) : rndN f e (mantG f e b) (expG f e b) = b % 2 ^ (f + e) := by
  rw [split_mod f e b h]
  unfold infG at hi
  unfold mantG expG
  have hF : b % 2 ^ f < 2 ^ f := Nat.mod_lt _ (Nat.two_pow_pos f)
  have hE : b / 2 ^ f % 2 ^ e < 2 ^ e := Nat.mod_lt _ (Nat.two_pow_pos e)
  simp only [decide_eq_false_iff_not] at hi
  generalize b / 2 ^ f % 2 ^ e = E at *
  generalize b % 2 ^ f = F at *
  have hT : (E + 1) * 2 ^ f ≤ (2 ^ e - 1) * 2 ^ f := Nat.mul_le_mul_right _ (by omega)
  rw [Nat.add_mul, Nat.one_mul] at hT
  by_cases h0 : 0 < E
  · rw [if_pos h0, if_pos h0]
    have hm0 : 2 ^ f + F ≠ 0 := by omega
    have hl : (2 ^ f + F).log2 = f := by
      have a1 : f ≤ (2 ^ f + F).log2 := (Nat.le_log2 hm0).2 (by omega)
      have a2 : (2 ^ f + F).log2 < f + 1 := (Nat.log2_lt hm0).2 (by rw [Nat.pow_succ]; omega)
      omega
    have hk : kap f e (2 ^ f + F) ((E : Int) - 1 + lst f e) = 0 := by unfold kap; rw [hl]; omega
    unfold rndN keptN
    rw [if_neg hm0, hk, if_pos (by omega), show (0 : Int).toNat = 0 from rfl, rne_zero, show ((E : Int) - 1 + lst f e + 0 - lst f e).toNat = E - 1 by omega]
    have h2 : (E - 1) * 2 ^ f + 2 ^ f = E * 2 ^ f := by
      obtain ⟨k, rfl⟩ : ∃ k, E = k + 1 := ⟨E - 1, by omega⟩
      rw [Nat.add_sub_cancel, Nat.add_mul, Nat.one_mul]
    omega
  · rw [if_neg h0, if_neg h0]
    obtain rfl : E = 0 := by omega
    by_cases hz : 0 < F
    · rw [if_pos hz]
      have hm0 : F ≠ 0 := by omega
      have hl : F.log2 < f := (Nat.log2_lt hm0).2 hF
      have hk : kap f e F (lst f e) = 0 := by unfold kap; omega
      unfold rndN keptN
      rw [if_neg hm0, hk, if_pos (by omega), show (0 : Int).toNat = 0 from rfl, rne_zero, show (lst f e + 0 - lst f e).toNat = 0 by omega]
      omega
    · obtain rfl : F = 0 := by omega
      unfold rndN; rw [if_pos rfl]; omega

theorem mantB_mod (b : Nat) : mantB (b % 9223372036854775808) = mantB b ∧ placeB (b % 9223372036854775808) = placeB b := by
  unfold mantB placeB expF
  rw [show b % 9223372036854775808 / 4503599627370496 % 2048 = b / 4503599627370496 % 2048 by omega, show b % 9223372036854775808 % 4503599627370496 = b % 4503599627370496 by omega]
  exact ⟨rfl, rfl⟩

theorem rnd_there (f e m : Nat) (E : Int) (hm : m < 2 ^ 53) (h1 : -1074 ≤ E) (h2 : E ≤ 970) :
    rndN f e (mantB (rndN 52 11 m E)) (-1074 + (placeB (rndN 52 11 m E) : Nat)) = rndN f e m E := by
  obtain ⟨j, rfl⟩ : ∃ j : Nat, E = -1074 + j := ⟨(E + 1074).toNat, by omega⟩
  obtain ⟨h3, h4⟩ := rv_exact m j hm (by omega)
  unfold rv at h3
  have g1 := rnd_shift f e (mantB (rndN 52 11 m (-1074 + (j : Nat)))) (placeB (rndN 52 11 m (-1074 + (j : Nat)))) (-1074 + (placeB (rndN 52 11 m (-1074 + (j : Nat))) : Nat))
  have g2 := rnd_shift f e m j (-1074 + (j : Nat))
  rw [← g1, ← g2, h3]
  congr 1
  omega

/-- There and back. -/
theorem into_from (f e n1 n2 b : Nat) (hf1 : 1 ≤ f) (hf : f ≤ 52) (he1 : 1 ≤ e) (he : e ≤ 8) (h : b < 2 ^ (1 + f + e)) (hn : nanG f e b = false) : intoN f e n1 (fromN f e n2 b) = b := by
  have he2 : 2 ^ e ≤ 2 ^ 8 := Nat.pow_le_pow_right (by omega) he
  have hf2 : 2 ^ f ≤ 2 ^ 52 := Nat.pow_le_pow_right (by omega) hf
  have hl : -180 ≤ lst f e ∧ lst f e ≤ 0 := by unfold lst; omega
  unfold fromN
  rw [if_neg (by rw [hn]; simp)]
  unfold nanG at hn
  have hF : b % 2 ^ f < 2 ^ f := Nat.mod_lt _ (Nat.two_pow_pos f)
  have hE : b / 2 ^ f % 2 ^ e < 2 ^ e := Nat.mod_lt _ (Nat.two_pow_pos e)
  by_cases hi : infG f e b = true
  · rw [if_pos hi]
    unfold infG at hi
    obtain ⟨s1, s2, s3⟩ := signed_lt (negG f e b) 9218868437227405312 (by omega)
    unfold intoN
    have n0 : nan64 (signedBits 52 11 (negG f e b) 9218868437227405312) = false := by unfold nan64; rw [s2]; decide
    have i0 : infB (signedBits 52 11 (negG f e b) 9218868437227405312) = true := by unfold infB; rw [s2]; decide
    have g0 : negB (signedBits 52 11 (negG f e b) 9218868437227405312) = negG f e b := s3
    rw [n0, i0, g0]
    simp only [Bool.false_eq_true, if_false, if_true]
    refine signedBits_neg h ?_
    simp only [decide_eq_true_eq] at hi
    rw [hi] at hn ⊢
    simp only [decide_true, Bool.true_and, decide_eq_false_iff_not] at hn
    omega
  · have hi' : infG f e b = false := by simpa using hi
    rw [if_neg hi]
    have hs := rnd_self f e b he1 h hi'
    have hm : mantG f e b < 2 ^ 53 := by unfold mantG; split <;> omega
    have hx : -1074 ≤ expG f e b ∧ expG f e b ≤ 970 := by unfold expG; (repeat' split) <;> omega
    have ht := rnd_there f e (mantG f e b) (expG f e b) hm hx.1 hx.2
    obtain ⟨j, hj⟩ : ∃ j : Nat, expG f e b = -1074 + j := ⟨(expG f e b + 1074).toNat, by omega⟩
    have hlt := (rv_exact (mantG f e b) j hm (by omega)).2
    rw [← hj] at hlt
    generalize rndN 52 11 (mantG f e b) (expG f e b) = r at *
    obtain ⟨s1, s2, s3⟩ := signed_lt (negG f e b) r (by omega)
    unfold intoN
    have n0 : nan64 (signedBits 52 11 (negG f e b) r) = false := by unfold nan64; rw [s2]; simp; omega
    have i0 : infB (signedBits 52 11 (negG f e b) r) = false := by unfold infB; rw [s2]; simp; omega
    have g0 : negB (signedBits 52 11 (negG f e b) r) = negG f e b := s3
    obtain ⟨m1, m2⟩ := mantB_mod (signedBits 52 11 (negG f e b) r)
    rw [s2] at m1 m2
    rw [n0, i0, g0, ← m1, ← m2]
    simp only [Bool.false_eq_true, if_false]
    rw [ht, hs]
    exact signedBits_neg h (split_mod f e b h)

end Go.Pst
