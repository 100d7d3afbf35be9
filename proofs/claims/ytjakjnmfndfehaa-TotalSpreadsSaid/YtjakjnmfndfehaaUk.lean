/- The exact sum of products, plain: what it is made of, how great it may be, and that one rounding is the document's. No condition. -/
import Derived.Test.YtjakjnmfndfehaaDc
namespace Go.Pst
open Go Ieee Go.Proofs.Ytjakjnmfndfehaa
set_option linter.unusedVariables false
def zerB (b : Nat) : Bool := !nan64 b && !infB b && decide (magN b = 0)
theorem feq_zer {x : Nat} (hx : x < 2 ^ 64) : feq .f64 x 0 = zerB x := by
  unfold zerB
  cases hn : nan64 x
  · cases hi : infB x
    · rw [feq_mag ⟨hx, hn, hi⟩]; rfl
    · rw [feq64, hn, show nan64 0 = false from rfl, show key64 0 = 0 from rfl]
      unfold infB at hi
      simp only [decide_eq_true_eq] at hi
      unfold key64
      split <;> simp <;> omega
  · rw [feq64, hn]; rfl
theorem mag_zero {x : Nat} : magN x = 0 ↔ x % 9223372036854775808 = 0 := by
  unfold magN mantB placeB expF
  constructor
  · intro h
    rcases Nat.mul_eq_zero.1 h with h | h
    · split at h <;> omega
    · exact absurd h (Nat.ne_of_gt (Nat.two_pow_pos _))
  · intro h
    rw [if_pos (by omega), show x % 4503599627370496 = 0 by omega, Nat.zero_mul]
theorem flt_neg {x : Nat} (hx : x < 2 ^ 64) (hn : nan64 x = false) (hz : zerB x = false) : flt .f64 x 0 = negB x := by
  cases hi : infB x
  · have h0 : x % 9223372036854775808 ≠ 0 := by
      intro e
      unfold zerB at hz
      rw [hn, hi, decide_eq_true (mag_zero.2 e)] at hz
      cases hz
    rw [flt64, hn, show nan64 0 = false from rfl, show key64 0 = 0 from rfl]
    unfold key64 negB
    rcases Nat.lt_or_ge x 9223372036854775808 with h | h
    · rw [if_neg (by omega), decide_eq_false (by omega : ¬ 9223372036854775808 ≤ x)]
      simp
      omega
    · rw [if_pos (by omega), decide_eq_true h]
      simp; omega
  · exact (inf_sign hx hi).1
section
variable (f g : Nat → Nat)
def dN (x y : Nat) : Bool := nan64 x || nan64 y || ((infB x || infB y) && (zerB x || zerB y))
def dI (x y : Nat) : Bool := infB x || infB y
def dG (x y : Nat) : Bool := negB x != negB y
def dM (x y : Nat) : Nat := magN x * magN y
def dxN : Nat → Bool
  | 0 => false
  | k + 1 => dxN k || dN (f k) (g k)
def dxP : Nat → Bool
  | 0 => false
  | k + 1 => dxP k || (!dN (f k) (g k) && dI (f k) (g k) && !dG (f k) (g k))
def dxL : Nat → Bool
  | 0 => false
  | k + 1 => dxL k || (!dN (f k) (g k) && dI (f k) (g k) && dG (f k) (g k))
def dxS : Nat → Bool
  | 0 => false
  | k + 1 => dxS k || !dN (f k) (g k)
def dxM : Nat → Bool
  | 0 => false
  | k + 1 => dxM k || (!dN (f k) (g k) && (dI (f k) (g k) || decide (dM (f k) (g k) ≠ 0) || !dG (f k) (g k)))
def dxU : Nat → Int
  | 0 => 0
  | k + 1 => dxU k + (if !dN (f k) (g k) && !dI (f k) (g k) then sgn (dG (f k) (g k)) (dM (f k) (g k)) else 0)
/-- The exact sum of n products, rounded once. -/
def exdotV (n : Nat) : Nat := exV (dxN f g n) (dxP f g n) (dxL f g n) (dxS f g n) (dxM f g n) (dxU f g n) 2148
/-- The document's: its own bits of no number. -/
def rexdotV (n : Nat) : Nat := if dxN f g n || (dxP f g n && dxL f g n) then 9218868437227405313 else exdotV f g n
end
def K42 : Nat := 4196
theorem dM_lt {x y : Nat} (hx : finB x) (hy : finB y) : dM x y < 2 ^ K42 := by
  unfold dM
  have h1 := mag_lt hx
  have h2 := mag_lt hy
  have := Nat.mul_lt_mul_of_lt_of_le h1 (Nat.le_of_lt h2) (Nat.two_pow_pos _)
  rw [← Nat.pow_add, show K21 + K21 = K42 from rfl] at this
  exact this
theorem fin_dN {x y : Nat} (hx : x < 2 ^ 64) (hy : y < 2 ^ 64) (h : (!dN x y && !dI x y) = true) : finB x ∧ finB y := by
  unfold dN dI at h
  cases h1 : nan64 x <;> cases h2 : nan64 y <;> cases h3 : infB x <;> cases h4 : infB y <;> simp [h1, h2, h3, h4] at h
  exact ⟨⟨hx, h1, h3⟩, ⟨hy, h2, h4⟩⟩
theorem sgn_natAbs (b : Bool) (n : Nat) : (sgn b n).natAbs = n := by unfold sgn; cases b <;> simp
theorem dxU_bd {f g : Nat → Nat} : ∀ k, (∀ j, j < k → f j < 2 ^ 64) → (∀ j, j < k → g j < 2 ^ 64) → (dxU f g k).natAbs ≤ k * 2 ^ K42
  | 0, _, _ => by simp [dxU]
  | k + 1, h, h' => by
    have h1 := dxU_bd k (fun j hj => h j (by omega)) (fun j hj => h' j (by omega))
    unfold dxU
    rw [Nat.add_mul, Nat.one_mul]
    split
    · rename_i hf
      obtain ⟨a, b⟩ := fin_dN (h k (by omega)) (h' k (by omega)) hf
      have h2 := dM_lt a b
      have h3 := sgn_natAbs (dG (f k) (g k)) (dM (f k) (g k))
      generalize (2 : Nat) ^ K42 = X at *
      omega
    · generalize (2 : Nat) ^ K42 = X at *
      omega
theorem dxU_small {f g : Nat → Nat} {n : Nat} (hn : n ≤ 65536) (h : ∀ j, j < n → f j < 2 ^ 64) (h' : ∀ j, j < n → g j < 2 ^ 64) : (dxU f g n).natAbs < 2 ^ K46 := by
  have h1 := dxU_bd n h h'
  have h2 : n * 2 ^ K42 ≤ 2 ^ 16 * 2 ^ K42 := Nat.mul_le_mul_right _ (by omega)
  rw [← Nat.pow_add] at h2
  have h3 : 2 ^ (16 + K42) < 2 ^ K46 := Nat.pow_lt_pow_right (by omega) (by decide)
  exact Nat.lt_of_le_of_lt (Nat.le_trans h1 h2) h3
def K52 : Nat := 52
theorem out_dgen {S : Int} {all : Bool} (Z : Nat) (hZ : 0 < Z) (hr : rndN 52 11 (S.natAbs * Z) (-2200) = rndN 52 11 S.natAbs (-2148)) : outV (S * (Z : Int)) all = if S = 0 then (if all then 9223372036854775808 else 0) else fvN S 2148 := by
  have hp : (0 : Int) < (Z : Int) := by omega
  have h0 : S * (Z : Int) = 0 ↔ S = 0 := by
    constructor
    · intro h; rcases Int.mul_eq_zero.1 h with h | h
      · exact h
      · omega
    · intro h; rw [h, Int.zero_mul]
  have h1 : S * (Z : Int) < 0 ↔ S < 0 := by
    constructor
    · intro h; rcases Int.lt_or_le S 0 with h2 | h2
      · exact h2
      · have := Int.mul_nonneg h2 (Int.le_of_lt hp); omega
    · intro h; exact Int.mul_neg_of_neg_of_pos h hp
  unfold outV fvN
  by_cases h : S = 0
  · rw [if_pos (h0.2 h), if_pos h]
  · rw [if_neg (mt h0.1 h), if_neg h]
    have hn : (S * (Z : Int)).natAbs = S.natAbs * Z := by rw [Int.natAbs_mul, Int.natAbs_natCast]
    rw [hn, hr]
    have hl := rnd_lt63 S.natAbs (-2148)
    generalize rndN 52 11 S.natAbs (-2148) = r at *
    by_cases h2 : S < 0
    · rw [if_pos (h1.2 h2), decide_eq_true h2]
      exact flipF_low hl
    · rw [if_neg (mt h1.1 h2), decide_eq_false h2, wrd_false]
theorem out_dot {S : Int} {all : Bool} : outV (S * ((2 ^ K52 : Nat) : Int)) all = if S = 0 then (if all then 9223372036854775808 else 0) else fvN S 2148 := by
  have hr := rnd_shift 52 11 S.natAbs K52 (-2148)
  rw [show (-2148 : Int) - (K52 : Int) = -2200 by decide] at hr
  exact out_dgen _ (Nat.two_pow_pos K52) hr
theorem small_dot {f g : Nat → Nat} {n : Nat} (hn : n ≤ 65536) (h : ∀ j, j < n → f j < 2 ^ 64) (h' : ∀ j, j < n → g j < 2 ^ 64) : (dxU f g n * ((2 ^ K52 : Nat) : Int)).natAbs < D28 := by
  have h1 := dxU_bd n h h'
  have h2 : n * 2 ^ K42 ≤ 2 ^ 16 * 2 ^ K42 := Nat.mul_le_mul_right _ (by omega)
  rw [← Nat.pow_add] at h2
  have h3 := Nat.mul_le_mul_right (2 ^ K52) (Nat.le_trans h1 h2)
  rw [← Nat.pow_add] at h3
  rw [Int.natAbs_mul, Int.natAbs_natCast]
  refine Nat.lt_of_le_of_lt h3 ?_
  unfold D28
  rw [show (65536 : Nat) = 2 ^ 16 from rfl, ← Nat.pow_mul]
  exact Nat.pow_lt_pow_right (by omega) (by decide)
theorem dxN_mono {f g : Nat → Nat} {k : Nat} (h : dxN f g k = true) : ∀ n, k ≤ n → dxN f g n = true
  | 0, hn => by rw [show (0 : Nat) = k by omega]; exact h
  | n + 1, hn => by
    by_cases e : k = n + 1
    · rw [← e]; exact h
    · unfold dxN; rw [dxN_mono h n (by omega)]; rfl
theorem dxS_all {f g : Nat → Nat} : ∀ n, dxN f g n = false → dxS f g n = decide (0 < n)
  | 0, _ => rfl
  | n + 1, h => by
    unfold dxN at h
    rw [Bool.or_eq_false_iff] at h
    unfold dxS
    rw [h.2]; simp
/-- A product of two numbers of 53 bits, in four. -/
theorem four_parts {m n s : Nat} : m * n * 2 ^ s = m % 4294967296 * (n % 4294967296) * 2 ^ s + m / 4294967296 * (n % 4294967296) * 2 ^ (s + 32) + m % 4294967296 * (n / 4294967296) * 2 ^ (s + 32) + m / 4294967296 * (n / 4294967296) * 2 ^ (s + 64) := by
  have e1 : m = m / 4294967296 * 4294967296 + m % 4294967296 := by omega
  have e2 : n = n / 4294967296 * 4294967296 + n % 4294967296 := by omega
  generalize m / 4294967296 = a at *
  generalize m % 4294967296 = b at *
  generalize n / 4294967296 = c at *
  generalize n % 4294967296 = d at *
  subst e1 e2
  rw [Nat.pow_add 2 s 32, Nat.pow_add 2 s 64, show (2 : Nat) ^ 32 = 4294967296 from rfl, show (2 : Nat) ^ 64 = 4294967296 * 4294967296 from rfl]
  generalize (2 : Nat) ^ s = p
  simp only [Nat.add_mul, Nat.mul_add]
  simp only [Nat.mul_assoc, Nat.mul_comm, Nat.mul_left_comm]
  omega
end Go.Pst
