/- Whole numbers of 280 digits to the base 65536, plain: a digit more, digits brought to 0 to 65535, turned about, bits. No condition. -/
import Derived.Test.YtjakjnmfndfehaaTn
namespace Go.Pst
open Go Ieee
set_option linter.unusedVariables false
set_option linter.unusedSimpArgs false

/-- The number that the first n digits are. -/
def bv (X : Nat → Int) : Nat → Int
  | 0 => 0
  | n + 1 => bv X n + X n * ((65536 ^ n : Nat) : Int)
def updI (X : Nat → Int) (k : Nat) (v : Int) (i : Nat) : Int := if i = k then v else X i
theorem bv_congr {X Y : Nat → Int} : ∀ n, (∀ i, i < n → X i = Y i) → bv X n = bv Y n
  | 0, _ => rfl
  | n + 1, h => by unfold bv; rw [bv_congr n fun i hi => h i (by omega), h n (by omega)]
theorem bv_upd {X : Nat → Int} {k : Nat} {v : Int} : ∀ n, k < n → bv (updI X k v) n = bv X n + (v - X k) * ((65536 ^ k : Nat) : Int)
  | 0, h => by omega
  | n + 1, h => by
    unfold bv
    by_cases hk : k = n
    · subst hk
      rw [bv_congr (X := updI X k v) (Y := X) k fun i hi => by unfold updI; rw [if_neg (by omega)]]
      rw [show updI X k v k = v by unfold updI; rw [if_pos rfl], Int.sub_mul]; omega
    · rw [bv_upd n (by omega), show updI X k v n = X n by unfold updI; rw [if_neg (by omega)]]; omega

/-- The five digits of a number of 64 bits, shifted. -/
def dig5 (m s i : Nat) : Nat := if i < 4 then m * 2 ^ s % W64 / 2 ^ (16 * i) % 65536 else m / 2 ^ (64 - s)
theorem dig5_sum {m s : Nat} (hm : m < W64) (hs : s < 16) :
    dig5 m s 0 + dig5 m s 1 * 65536 + dig5 m s 2 * 65536 ^ 2 + dig5 m s 3 * 65536 ^ 3 + dig5 m s 4 * 65536 ^ 4 = m * 2 ^ s := by
  have h4 : m * 2 ^ s / W64 = m / 2 ^ (64 - s) := by
    rw [pow_split (n := s) (by omega), ← Nat.div_div_eq_div_mul, Nat.mul_div_cancel _ (Nat.two_pow_pos s)]
  have e := Nat.mod_add_div (m * 2 ^ s) W64
  rw [h4] at e
  unfold dig5
  simp only [show (0 : Nat) < 4 by omega, show (1 : Nat) < 4 by omega, show (2 : Nat) < 4 by omega, show (3 : Nat) < 4 by omega, show ¬ (4 : Nat) < 4 by omega, if_true, if_false]
  have hlt := Nat.mod_lt (m * 2 ^ s) w64_pos
  generalize m * 2 ^ s % W64 = L at *
  generalize m / 2 ^ (64 - s) = H at *
  rw [← e]
  unfold W64 at *
  simp only [show (2 : Nat) ^ (16 * 0) = 1 from rfl, show (2 : Nat) ^ (16 * 1) = 65536 from rfl, show (2 : Nat) ^ (16 * 2) = 4294967296 from rfl, show (2 : Nat) ^ (16 * 3) = 281474976710656 from rfl,
    show (65536 : Nat) ^ 2 = 4294967296 from rfl, show (65536 : Nat) ^ 3 = 281474976710656 from rfl, show (65536 : Nat) ^ 4 = 18446744073709551616 from rfl]
  omega
theorem dig5_lt {m s i : Nat} (hm : m < W64) (hs : s < 16) : dig5 m s i < 65536 := by
  unfold dig5
  split
  · exact Nat.mod_lt _ (by omega)
  · refine Nat.div_lt_of_lt_mul ?_
    have h1 : 2 ^ 48 ≤ 2 ^ (64 - s) := Nat.pow_le_pow_right (by omega) (by omega)
    have h2 : 2 ^ 48 * 65536 ≤ 2 ^ (64 - s) * 65536 := Nat.mul_le_mul_right _ h1
    unfold W64 at hm
    omega

/-- Digits after so many of the five have been put in. -/
def plusD (X : Nat → Int) (m s k : Nat) (neg : Bool) (j i : Nat) : Int := X i + (if k ≤ i ∧ i < k + j then sgn neg (dig5 m s (i - k)) else 0)
theorem plusD_step (X : Nat → Int) (m s k : Nat) (neg : Bool) (j : Nat) : ∀ i, updI (plusD X m s k neg j) (k + j) (plusD X m s k neg j (k + j) + sgn neg (dig5 m s j)) i = plusD X m s k neg (j + 1) i := fun i => by
  unfold updI plusD
  by_cases h : i = k + j
  · rw [if_pos h, h, if_neg (by omega), if_pos (by omega), show k + j - k = j by omega]; omega
  · rw [if_neg h]
    by_cases h2 : k ≤ i ∧ i < k + j
    · rw [if_pos h2, if_pos (by omega)]
    · rw [if_neg h2, if_neg (by omega)]
def dSum (m s : Nat) : Nat → Nat
  | 0 => 0
  | j + 1 => dSum m s j + dig5 m s j * 65536 ^ j
theorem sgn_add (b : Bool) (x y : Nat) : sgn b (x + y) = sgn b x + sgn b y := by unfold sgn; cases b <;> simp <;> omega
theorem sgn_times (b : Bool) (x y : Nat) : sgn b (x * y) = sgn b x * (y : Int) := by
  unfold sgn; cases b
  · simp
  · simp only [if_true, Int.natCast_mul, Int.neg_mul]
theorem bv_plus (X : Nat → Int) (m s k n : Nat) (neg : Bool) : ∀ j, k + j ≤ n → bv (plusD X m s k neg j) n = bv X n + sgn neg (dSum m s j * 65536 ^ k) := fun j => by
  induction j with
  | zero =>
    intro h
    rw [bv_congr (Y := X) n fun i hi => by unfold plusD; rw [if_neg (by omega)]; omega]
    unfold dSum sgn; rw [Nat.zero_mul]; cases neg <;> simp
  | succ j ih =>
    intro h
    rw [← bv_congr n fun i _ => plusD_step X m s k neg j i, bv_upd n (by omega), ih (by omega)]
    rw [show plusD X m s k neg j (k + j) + sgn neg (dig5 m s j) - plusD X m s k neg j (k + j) = sgn neg (dig5 m s j) by omega]
    rw [show dSum m s (j + 1) = dSum m s j + dig5 m s j * 65536 ^ j from rfl, Nat.add_mul, sgn_add, Nat.mul_assoc, ← Nat.pow_add, Nat.add_comm j k, sgn_times neg (dig5 m s j)]
    exact Int.add_assoc _ _ _
theorem bv_plus5 {X : Nat → Int} {m s k n : Nat} {neg : Bool} (hk : k + 5 ≤ n) (hm : m < W64) (hs : s < 16) : bv (plusD X m s k neg 5) n = bv X n + sgn neg (m * 2 ^ (16 * k + s)) := by
  rw [bv_plus X m s k n neg 5 hk]
  have h := dig5_sum hm hs
  have e : dSum m s 5 = m * 2 ^ s := by
    rw [← h]; unfold dSum dSum dSum dSum dSum dSum
    rw [Nat.pow_zero, Nat.pow_one, Nat.mul_one, Nat.zero_add]
  rw [e, show (65536 : Nat) = 2 ^ 16 from rfl, ← Nat.pow_mul, Nat.mul_assoc, ← Nat.pow_add, Nat.add_comm s]
theorem plusD_bd {X : Nat → Int} {m s k : Nat} {neg : Bool} {b : Int} (hm : m < W64) (hs : s < 16) {j i : Nat} (h : -b ≤ X i ∧ X i ≤ b) : -(b + 65535) ≤ plusD X m s k neg j i ∧ plusD X m s k neg j i ≤ b + 65535 := by
  unfold plusD
  have := dig5_lt (m := m) (s := s) (i := i - k) hm hs
  unfold sgn
  split
  · split <;> omega
  · omega

/-! ### Brought to 0 to 65535 -/
def stC (X : Nat → Int) : Nat → Int
  | 0 => 0
  | i + 1 => (stC X i + X i) / 65536
def stD (X : Nat → Int) (i : Nat) : Int := (stC X i + X i) % 65536
theorem stD_val (X : Nat → Int) : ∀ n, bv (stD X) n + stC X n * ((65536 ^ n : Nat) : Int) = bv X n
  | 0 => by simp [bv, stC]
  | n + 1 => by
    have h := stD_val X n
    unfold bv stC stD
    have e := Int.emod_add_mul_ediv (stC X n + X n) 65536
    generalize (stC X n + X n) % 65536 = r at *
    generalize (stC X n + X n) / 65536 = q at *
    rw [show bv (fun i => (stC X i + X i) % 65536) n = bv (stD X) n from rfl]
    rw [show ((65536 ^ (n + 1) : Nat) : Int) = 65536 * ((65536 ^ n : Nat) : Int) by rw [Nat.pow_succ, Int.natCast_mul, Int.mul_comm]; rfl]
    have e2 := congrArg (· * ((65536 ^ n : Nat) : Int)) e
    simp only [Int.add_mul] at e2
    rw [show 65536 * q * ((65536 ^ n : Nat) : Int) = q * (65536 * ((65536 ^ n : Nat) : Int)) by rw [Int.mul_comm 65536 q, Int.mul_assoc]] at e2
    omega
theorem stC_bd {X : Nat → Int} {b : Int} (hb : 0 ≤ b) : ∀ n, (∀ i, i < n → -b ≤ X i ∧ X i ≤ b) → -b ≤ stC X n ∧ stC X n ≤ b
  | 0, _ => by unfold stC; omega
  | n + 1, h => by
    have h1 := stC_bd hb n fun i hi => h i (by omega)
    have h2 := h n (by omega)
    unfold stC; omega
theorem stD_bd (X : Nat → Int) (i : Nat) : 0 ≤ stD X i ∧ stD X i < 65536 := by unfold stD; omega
theorem bv_nonneg {X : Nat → Int} : ∀ n, (∀ i, i < n → 0 ≤ X i ∧ X i < 65536) → 0 ≤ bv X n ∧ bv X n < ((65536 ^ n : Nat) : Int)
  | 0, _ => by unfold bv; simp
  | n + 1, h => by
    have h1 := bv_nonneg n fun i hi => h i (by omega)
    have h2 := h n (by omega)
    unfold bv
    have hp : (0 : Int) < ((65536 ^ n : Nat) : Int) := by have := Nat.pow_pos (n := n) (show 0 < 65536 by omega); omega
    rw [show ((65536 ^ (n + 1) : Nat) : Int) = 65536 * ((65536 ^ n : Nat) : Int) by rw [Nat.pow_succ, Int.natCast_mul, Int.mul_comm]; rfl]
    have h3 : 0 ≤ X n * ((65536 ^ n : Nat) : Int) := Int.mul_nonneg h2.1 (Int.le_of_lt hp)
    have h4 : X n * ((65536 ^ n : Nat) : Int) ≤ 65535 * ((65536 ^ n : Nat) : Int) := Int.mul_le_mul_of_nonneg_right (by omega) (Int.le_of_lt hp)
    omega

/-! ### Turned about -/
def ngB (Y : Nat → Int) : Nat → Int
  | 0 => 0
  | i + 1 => if -Y i - ngB Y i < 0 then 1 else 0
def ngD (Y : Nat → Int) (i : Nat) : Int := if -Y i - ngB Y i < 0 then -Y i - ngB Y i + 65536 else -Y i - ngB Y i
theorem ngB_bd (Y : Nat → Int) : ∀ n, 0 ≤ ngB Y n ∧ ngB Y n ≤ 1
  | 0 => by unfold ngB; omega
  | n + 1 => by unfold ngB; split <;> omega
theorem ngD_bd {Y : Nat → Int} {i : Nat} (h : 0 ≤ Y i ∧ Y i < 65536) : 0 ≤ ngD Y i ∧ ngD Y i < 65536 := by
  have := ngB_bd Y i
  unfold ngD; split <;> omega
theorem ngD_val (Y : Nat → Int) : ∀ n, bv (ngD Y) n = ngB Y n * ((65536 ^ n : Nat) : Int) - bv Y n
  | 0 => by simp [bv, ngB]
  | n + 1 => by
    have h := ngD_val Y n
    unfold bv ngB ngD
    rw [show bv (fun i => if -Y i - ngB Y i < 0 then -Y i - ngB Y i + 65536 else -Y i - ngB Y i) n = bv (ngD Y) n from rfl, h]
    rw [show ((65536 ^ (n + 1) : Nat) : Int) = 65536 * ((65536 ^ n : Nat) : Int) by rw [Nat.pow_succ, Int.natCast_mul, Int.mul_comm]; rfl]
    generalize ngB Y n = b at *
    generalize ((65536 ^ n : Nat) : Int) = P at *
    generalize bv Y n = S at *
    generalize Y n = y at *
    split
    · rw [Int.add_mul, Int.sub_mul, Int.neg_mul]; omega
    · rw [Int.sub_mul, Int.neg_mul]; omega
end Go.Pst
