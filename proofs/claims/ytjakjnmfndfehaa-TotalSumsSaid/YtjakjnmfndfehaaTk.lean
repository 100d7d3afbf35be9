/- A whole number over a power of two rounded once, by its bits: plain. No condition. -/
import Derived.Test.YtjakjnmfndfehaaTj
namespace Go.Pst
open Go Ieee
set_option linter.unusedVariables false
set_option linter.unusedSimpArgs false

/-- What is kept is rounded no more. -/
theorem rnd_kept {f e M : Nat} {E : Int} (h : M ≠ 0) (hk : 0 ≤ kap f e M E) : rndN f e M E = rndN f e (rne M (kap f e M E).toNat) (E + kap f e M E) := by
  obtain ⟨k1, k2, k3⟩ := kept_facts f e M E h
  have hkn : keptN f e M E = rne M (kap f e M E).toNat := by unfold keptN; rw [if_pos hk]
  have hL : rndN f e M E = min ((E + kap f e M E - lst f e).toNat * 2 ^ f + keptN f e M E) ((2 ^ e - 1) * 2 ^ f) := by unfold rndN; rw [if_neg h]
  rw [hL, ← hkn]
  obtain ⟨n, hn⟩ : ∃ n, n = keptN f e M E := ⟨_, rfl⟩
  obtain ⟨x, hx⟩ : ∃ x, x = E + kap f e M E := ⟨_, rfl⟩
  rw [← hn, ← hx] at k2
  rw [← hn] at k1
  rw [← hx] at k3
  rw [← hn, ← hx]
  have hp := Nat.two_pow_pos f
  clear hL hkn hn hx hk h
  unfold rndN
  by_cases h0 : n = 0
  · have h1 := k2 (by omega)
    rw [if_pos h0, h0, h1, Int.sub_self]
    simp
  · rw [if_neg h0]
    have hkv : kap f e n x = max ((n.log2 : Int) - f) (lst f e - x) := rfl
    by_cases h1 : n < 2 ^ f
    · have h2 := k2 h1
      have h3 : n.log2 < f := (Nat.log2_lt h0).2 h1
      have h4 : kap f e n x = 0 := by rw [hkv]; omega
      have h5 : keptN f e n x = n := by unfold keptN; rw [h4, if_pos (Int.le_refl _)]; exact rne_zero n
      rw [h5, h4, Int.add_zero]
    · by_cases h6 : n < 2 ^ (f + 1)
      · have h3 : n.log2 = f := log2_is (by omega) h6
        have h4 : kap f e n x = 0 := by rw [hkv, h3]; omega
        have h5 : keptN f e n x = n := by unfold keptN; rw [h4, if_pos (Int.le_refl _)]; exact rne_zero n
        rw [h5, h4, Int.add_zero]
      · have h7 : n = 2 ^ (f + 1) := by omega
        have h3 : n.log2 = f + 1 := by rw [h7]; exact Nat.log2_two_pow
        have h4 : kap f e n x = 1 := by rw [hkv, h3]; omega
        have h5 : keptN f e n x = 2 ^ f := by
          unfold keptN
          rw [h4, if_pos (by omega), h7]
          unfold rne
          rw [show (1 : Int).toNat = 1 from rfl, Nat.pow_succ, Nat.pow_one, Nat.mul_div_cancel _ (by omega), Nat.mul_mod_left, if_neg (by omega)]
          rfl
        rw [h5, h4, show x + 1 - lst f e = (x - lst f e) + 1 by omega]
        have : ((x - lst f e) + 1).toNat = (x - lst f e).toNat + 1 := by omega
        rw [this, Nat.add_mul, Nat.one_mul, h7, Nat.pow_succ]
        congr 1; omega

def K75 : Nat := 1075
theorem pow_same {a b c d : Nat} (h : a + b = c + d) : 2 ^ a * 2 ^ b = 2 ^ c * 2 ^ d := by rw [← Nat.pow_add, ← Nat.pow_add, h]
theorem fl_u53 {n : Nat} (h : n ≤ 2 ^ 53) : finB (fl n) ∧ negB (fl n) = false ∧ mantB (fl n) * 2 ^ placeB (fl n) = n * 2 ^ K74 := by
  by_cases h1 : n < 2 ^ 53
  · obtain ⟨f1, f2, f3⟩ := fl_fin h1
    refine ⟨f1, f2, ?_⟩
    rw [valZ_eq, f2] at f3
    unfold sgn at f3
    rw [if_neg Bool.false_ne_true] at f3
    exact Int.ofNat.inj f3
  · obtain rfl : n = 2 ^ 53 := by omega
    have e : fl (2 ^ 53) = 1076 * 4503599627370496 := by decide +kernel
    obtain ⟨f1, f2, f3, f4⟩ := fin_pow 1076 (by omega) (by omega)
    rw [e]
    refine ⟨f1, f2, ?_⟩
    rw [f3, show placeB (1076 * 4503599627370496) = K75 from f4, show (4503599627370496 : Nat) = 2 ^ 52 from rfl]
    exact pow_same (show 52 + K75 = 53 + K74 by decide)
/-- A small whole number scaled. -/
theorem ldB_fl {n : Nat} (h : n ≤ 2 ^ 53) (k : Int) : ldB (fl n) k = rndN 52 11 n k := by
  obtain ⟨f1, f2, f3⟩ := fl_u53 h
  unfold ldB
  rw [f2]
  have e1 := rnd_shift 52 11 (mantB (fl n)) (placeB (fl n)) (-1074 + (placeB (fl n) : Nat) + k)
  have e2 := rnd_shift 52 11 n K74 k
  rw [f3] at e1
  have e3 : -1074 + ((placeB (fl n) : Nat) : Int) + k - ((placeB (fl n) : Nat) : Int) = k - ((K74 : Nat) : Int) := by
    have : ((K74 : Nat) : Int) = 1074 := rfl
    omega
  rw [e3, e2] at e1
  unfold wrd
  rw [if_neg Bool.false_ne_true]
  exact e1.symm

/-- A sum over a power of two, rounded once. -/
def fvN (s d : Int) : Nat := wrd (decide (s < 0)) (rndN 52 11 s.natAbs (-d))
def dropN (N : Nat) (d : Int) : Nat := (max (max ((lenN N : Int) - 1 - d - 52) (-1074) + d) 0).toNat
theorem drop_rnd (N : Nat) (d : Int) : rndN 52 11 N (-d) = rndN 52 11 (rne N (dropN N d)) ((dropN N d : Nat) - d) ∧ (N ≠ 0 → rne N (dropN N d) ≤ 2 ^ 53) ∧ (N / 2 ^ dropN N d < 2 ^ 53) := by
  have hl : lst 52 11 = -1074 := by decide
  by_cases h0 : N = 0
  · subst h0
    have e : rne 0 (dropN 0 d) = 0 := by unfold rne; simp
    rw [e]
    refine ⟨?_, fun h => absurd rfl h, by simp⟩
    unfold rndN; rw [if_pos rfl, if_pos rfl]
  · have hlen : (lenN N : Int) = N.log2 + 1 := by unfold lenN; rw [if_neg h0]; rfl
    have hk : kap 52 11 N (-d) = max ((N.log2 : Int) - 52) (-1074 - -d) := by unfold kap; rw [hl]; rfl
    have hdr : (dropN N d : Int) = max (kap 52 11 N (-d)) 0 := by unfold dropN; rw [hk, hlen]; omega
    have hlt := Nat.lt_log2_self (n := N)
    have hq : N / 2 ^ dropN N d < 2 ^ 53 := by
      have : N.log2 + 1 ≤ 53 + dropN N d := by omega
      refine Nat.div_lt_of_lt_mul ?_
      rw [← Nat.pow_add]
      exact Nat.lt_of_lt_of_le hlt (Nat.pow_le_pow_right (by omega) (by omega))
    refine ⟨?_, fun _ => ?_, hq⟩
    · by_cases h1 : 0 ≤ kap 52 11 N (-d)
      · rw [rnd_kept h0 h1]
        have e : dropN N d = (kap 52 11 N (-d)).toNat := by omega
        rw [e]; congr 1; omega
      · have e : dropN N d = 0 := by omega
        rw [e, rne_zero]; congr 1; omega
    · unfold rne; split <;> omega
end Go.Pst
namespace Go.Pst
open Go Ieee
set_option linter.unusedVariables false
set_option linter.unusedSimpArgs false
theorem rne_bits (N E : Nat) : rne N (E + 1) = N / 2 ^ (E + 1) + (if N / 2 ^ E % 2 = 1 ∧ (N / 2 ^ (E + 1) % 2 = 1 ∨ N % 2 ^ E ≠ 0) then 1 else 0) := by
  unfold rne
  have e : N % 2 ^ (E + 1) = N % 2 ^ E + 2 ^ E * (N / 2 ^ E % 2) := Nat.mod_pow_succ
  have hp := Nat.two_pow_pos E
  have hm : N % 2 ^ E < 2 ^ E := Nat.mod_lt _ hp
  have hq : 2 ^ (E + 1) = 2 * 2 ^ E := by rw [Nat.pow_succ, Nat.mul_comm]
  congr 1
  rcases Nat.mod_two_eq_zero_or_one (N / 2 ^ E) with h | h
  · rw [h, Nat.mul_zero, Nat.add_zero] at e
    rw [if_neg (by rw [e, hq]; omega), if_neg (by omega)]
  · rw [h, Nat.mul_one] at e
    rw [e, h]
    generalize N / 2 ^ (E + 1) = q at *
    rw [hq]
    generalize 2 ^ E = P at *
    generalize N % P = r at *
    by_cases hc : q % 2 = 1 ∨ r ≠ 0
    · rw [if_pos (by omega), if_pos ⟨rfl, hc⟩]
    · rw [if_neg (by omega), if_neg (by omega)]
theorem lenN_lt {N k : Nat} (h : N < 2 ^ k) : lenN N ≤ k := by
  unfold lenN
  split
  · omega
  · have := (Nat.log2_lt ‹_›).2 h; omega
theorem len_div (N : Nat) : N / 2 ^ lenN N = 0 := by
  unfold lenN
  split
  · rename_i h; rw [h, Nat.zero_div]
  · exact Nat.div_eq_of_lt Nat.lt_log2_self
theorem fl_int (n : Nat) : floatOfInt .f64 (n : Int) = fl n := by
  have h := near_fl (n : Int)
  have e : floatOfInt .f64 (n : Int) = FloatKind.f64.nearest (n : Int) := rfl
  rw [e, h, decide_eq_false (by omega), Int.natAbs_natCast]
  unfold wrd
  rw [if_neg (by simp)]
theorem div_shift (N k : Nat) : N / 2 ^ k = 2 * (N / 2 ^ (k + 1)) + N / 2 ^ k % 2 := by
  rw [Nat.pow_succ, ← Nat.div_div_eq_div_mul]; omega
end Go.Pst
