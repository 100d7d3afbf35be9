/- Whole numbers of 72 words of 64 bits, plain: sums, what is missing to the next power of two, bits, the sign. No condition. -/
import Derived.Test.YtjakjnmfndfehaaFm
namespace Go.Pst
open Go Ieee
set_option linter.unusedVariables false

/-- The least word and one more. -/
def W64 : Nat := 18446744073709551616
/-- The number that the first n words are. -/
def wv (V : Nat → Nat) : Nat → Nat
  | 0 => 0
  | n + 1 => wv V n + V n * W64 ^ n
def wordB (V : Nat → Nat) : Prop := ∀ i, i < 72 → V i < W64
def M72 : Nat := W64 ^ 72

theorem w64_pos : 0 < W64 := by decide
theorem w64_pow (n : Nat) : 0 < W64 ^ n := Nat.pow_pos w64_pos
theorem w64_two (n : Nat) : W64 ^ n = 2 ^ (64 * n) := by rw [show W64 = 2 ^ 64 from by decide, Nat.pow_mul]

theorem wv_lt {V : Nat → Nat} : ∀ n, (∀ i, i < n → V i < W64) → wv V n < W64 ^ n
  | 0, _ => by unfold wv; exact Nat.one_pos
  | n + 1, h => by
    have h1 := wv_lt n fun i hi => h i (by omega)
    have h2 := h n (by omega)
    unfold wv
    rw [Nat.pow_succ]
    have h3 : V n * W64 ^ n ≤ (W64 - 1) * W64 ^ n := Nat.mul_le_mul_right _ (by omega)
    rw [Nat.sub_mul, Nat.one_mul, Nat.mul_comm W64] at h3
    have h4 : W64 ^ n ≤ W64 ^ n * W64 := Nat.le_mul_of_pos_right _ w64_pos
    omega
theorem wv_congr {V U : Nat → Nat} : ∀ n, (∀ i, i < n → V i = U i) → wv V n = wv U n
  | 0, _ => rfl
  | n + 1, h => by unfold wv; rw [wv_congr n fun i hi => h i (by omega), h n (by omega)]

/-- The carry into a place, and the word there. -/
def carA (V U : Nat → Nat) : Nat → Nat
  | 0 => 0
  | k + 1 => (V k + U k + carA V U k) / W64
def addW (V U : Nat → Nat) (k : Nat) : Nat := (V k + U k + carA V U k) % W64
theorem carA_le {V U : Nat → Nat} : ∀ n, (∀ i, i < n → V i < W64 ∧ U i < W64) → carA V U n ≤ 1
  | 0, _ => by unfold carA; omega
  | n + 1, h => by
    have h1 := carA_le n fun i hi => h i (by omega)
    have h2 := h n (by omega)
    unfold carA
    have : V n + U n + carA V U n < 2 * W64 := by omega
    have := Nat.div_lt_of_lt_mul (show V n + U n + carA V U n < W64 * 2 by omega)
    omega
theorem addW_val (V U : Nat → Nat) : ∀ n, wv (addW V U) n + carA V U n * W64 ^ n = wv V n + wv U n
  | 0 => by simp [wv, carA]
  | n + 1 => by
    have h := addW_val V U n
    unfold wv carA addW
    have e := Nat.mod_add_div (V n + U n + carA V U n) W64
    generalize (V n + U n + carA V U n) % W64 = r at *
    generalize (V n + U n + carA V U n) / W64 = q at *
    have e2 : (V n + U n + carA V U n) * W64 ^ n = r * W64 ^ n + q * W64 ^ (n + 1) := by
      rw [← e, Nat.add_mul, Nat.pow_succ, Nat.mul_comm W64 q, Nat.mul_assoc, Nat.mul_comm W64 (W64 ^ n)]
    rw [Nat.add_mul, Nat.add_mul] at e2
    rw [show wv (fun k => (V k + U k + carA V U k) % W64) n = wv (addW V U) n from rfl]
    omega
theorem addW_lt (V U : Nat → Nat) (k : Nat) : addW V U k < W64 := Nat.mod_lt _ w64_pos
theorem addW_mod {V U : Nat → Nat} : wv (addW V U) 72 = (wv V 72 + wv U 72) % M72 := by
  have h := addW_val V U 72
  have h1 := wv_lt (V := addW V U) 72 fun i _ => addW_lt V U i
  rw [← h]
  unfold M72
  rw [Nat.add_mul_mod_self_right, Nat.mod_eq_of_lt h1]

/-- What is missing to the next power of two. -/
def carN (V : Nat → Nat) : Nat → Nat
  | 0 => 1
  | k + 1 => (W64 - 1 - V k + carN V k) / W64
def negW (V : Nat → Nat) (k : Nat) : Nat := (W64 - 1 - V k + carN V k) % W64
theorem carN_le {V : Nat → Nat} : ∀ n, carN V n ≤ 1
  | 0 => by unfold carN; omega
  | n + 1 => by
    have h1 := carN_le (V := V) n
    unfold carN
    have h2 := w64_pos
    have := Nat.div_lt_of_lt_mul (show W64 - 1 - V n + carN V n < W64 * 2 by omega)
    omega
theorem negW_val {V : Nat → Nat} : ∀ n, (∀ i, i < n → V i < W64) → wv (negW V) n + carN V n * W64 ^ n + wv V n = W64 ^ n
  | 0, _ => by simp [wv, carN]
  | n + 1, hb => by
    have h := negW_val n fun i hi => hb i (by omega)
    have h2 := hb n (by omega)
    unfold wv carN negW
    have e := Nat.mod_add_div (W64 - 1 - V n + carN V n) W64
    generalize (W64 - 1 - V n + carN V n) % W64 = r at *
    generalize (W64 - 1 - V n + carN V n) / W64 = q at *
    have e1 : r + W64 * q + V n + 1 = W64 + carN V n := by omega
    have e2 := congrArg (· * W64 ^ n) e1
    simp only [Nat.add_mul, Nat.one_mul] at e2
    rw [show W64 * q * W64 ^ n = q * W64 ^ (n + 1) by rw [Nat.pow_succ, Nat.mul_comm W64 q, Nat.mul_assoc, Nat.mul_comm W64 (W64 ^ n)], show W64 * W64 ^ n = W64 ^ (n + 1) by rw [Nat.pow_succ, Nat.mul_comm]] at e2
    rw [show wv (fun k => (W64 - 1 - V k + carN V k) % W64) n = wv (negW V) n from rfl]
    omega
theorem negW_lt (V : Nat → Nat) (k : Nat) : negW V k < W64 := Nat.mod_lt _ w64_pos
theorem negW_mod {V : Nat → Nat} (hb : wordB V) : wv (negW V) 72 = (M72 - wv V 72) % M72 := by
  have h := negW_val 72 hb
  have h1 := wv_lt (V := negW V) 72 fun i _ => negW_lt V i
  have h2 := wv_lt (V := V) 72 hb
  have h3 : carN V 72 ≤ 1 := carN_le 72
  unfold M72
  rcases Nat.le_one_iff_eq_zero_or_eq_one.1 h3 with h4 | h4
  · rw [h4, Nat.zero_mul] at h
    rw [Nat.mod_eq_of_lt (by omega)]; omega
  · rw [h4, Nat.one_mul] at h
    rw [show W64 ^ 72 - wv V 72 = W64 ^ 72 by omega, Nat.mod_self]; omega

/-- A whole number, below 0 as what is missing. -/
def toW (s : Int) : Nat := (s % (M72 : Int)).toNat
theorem m72_pos : 0 < M72 := w64_pow 72
theorem toW_lt (s : Int) : toW s < M72 := by
  have h := Int.emod_lt_of_pos s (show (0 : Int) < M72 by have := m72_pos; omega)
  have h0 := Int.emod_nonneg s (show (M72 : Int) ≠ 0 by have := m72_pos; omega)
  unfold toW; omega
theorem toW_cast (s : Int) : ((toW s : Nat) : Int) = s % (M72 : Int) := by
  have h0 := Int.emod_nonneg s (show (M72 : Int) ≠ 0 by have := m72_pos; omega)
  unfold toW; omega
theorem toW_add (s t : Int) : (toW s + toW t) % M72 = toW (s + t) := by
  have h : (((toW s + toW t) % M72 : Nat) : Int) = ((toW (s + t) : Nat) : Int) := by
    rw [toW_cast, Int.natCast_emod, Int.natCast_add, toW_cast, toW_cast, ← Int.add_emod]
  omega
theorem toW_neg (s : Int) : (M72 - toW s) % M72 = toW (-s) := by
  have hl := toW_lt s
  have h : (((M72 - toW s) % M72 : Nat) : Int) = ((toW (-s) : Nat) : Int) := by
    rw [toW_cast, Int.natCast_emod, Int.natCast_sub (by omega), toW_cast]
    rw [Int.emod_eq_emod_iff_emod_sub_eq_zero]
    have e := Int.emod_add_mul_ediv s (M72 : Int)
    rw [show (M72 : Int) - s % (M72 : Int) - -s = (M72 : Int) * (1 + s / (M72 : Int)) by rw [Int.mul_add, Int.mul_one]; omega]
    exact Int.mul_emod_right _ _
  omega
theorem toW_nat {n : Nat} (h : n < M72) : toW (n : Int) = n := by
  unfold toW
  rw [Int.emod_eq_of_lt (by omega) (by omega)]
  simp
theorem toW_below {s : Int} (h : s < 0) (h2 : -(M72 : Int) ≤ s) : (toW s : Int) = s + M72 := by
  rw [toW_cast]
  rw [← Int.add_emod_right]
  exact Int.emod_eq_of_lt (by omega) (by omega)

/-- Words and a number. -/
def WIs (V : Nat → Nat) (s : Int) : Prop := wordB V ∧ wv V 72 = toW s
theorem WIs.add {V U : Nat → Nat} {s t : Int} (h : WIs V s) (g : WIs U t) : WIs (addW V U) (s + t) :=
  ⟨fun i _ => addW_lt V U i, by rw [addW_mod, h.2, g.2, toW_add]⟩
theorem WIs.neg {V : Nat → Nat} {s : Int} (h : WIs V s) : WIs (negW V) (-s) :=
  ⟨fun i _ => negW_lt V i, by rw [negW_mod h.1, h.2, toW_neg]⟩

/-! ### Places -/
theorem wv_place {V : Nat → Nat} : ∀ n, (∀ i, i < n → V i < W64) → ∀ k, k < n → wv V n / W64 ^ k % W64 = V k
  | 0, _, k, hk => by omega
  | n + 1, hb, k, hk => by
    have h1 := wv_lt n fun i hi => hb i (by omega)
    have h2 := hb n (by omega)
    unfold wv
    by_cases h : k = n
    · subst h
      rw [Nat.add_mul_div_right _ _ (w64_pow k), Nat.div_eq_of_lt h1, Nat.zero_add, Nat.mod_eq_of_lt h2]
    · have ih := wv_place n (fun i hi => hb i (by omega)) k (by omega)
      obtain ⟨d, rfl⟩ : ∃ d, n = k + 1 + d := ⟨n - k - 1, by omega⟩
      rw [show V (k + 1 + d) * W64 ^ (k + 1 + d) = V (k + 1 + d) * W64 ^ d * W64 * W64 ^ k by
        rw [Nat.pow_add, Nat.pow_succ]; simp only [Nat.mul_assoc, Nat.mul_comm, Nat.mul_left_comm]]
      rw [Nat.add_mul_div_right _ _ (w64_pow k), Nat.add_mul_mod_self_right]
      exact ih

/-- A bit of words. -/
def bitW (V : Nat → Nat) (n : Nat) : Nat := V (n / 64) / 2 ^ (n % 64) % 2
theorem bitW_eq {V : Nat → Nat} (hb : wordB V) {n : Nat} (hn : n < 4608) : bitW V n = wv V 72 / 2 ^ n % 2 := by
  have h := wv_place 72 hb (n / 64) (by omega)
  unfold bitW
  rw [← h, w64_two]
  generalize wv V 72 = N
  rw [show W64 = 2 ^ (n % 64) * 2 ^ (64 - n % 64) by rw [← Nat.pow_add, show n % 64 + (64 - n % 64) = 64 by omega]; decide, Nat.mod_mul_right_div_self]
  rw [show 2 ^ (64 - n % 64) = 2 * 2 ^ (63 - n % 64) by rw [show 64 - n % 64 = 63 - n % 64 + 1 by omega, Nat.pow_succ, Nat.mul_comm], Nat.mod_mul_right_mod, Nat.div_div_eq_div_mul, ← Nat.pow_add,
    show 64 * (n / 64) + n % 64 = n by omega]

/-- Is one of the bits below n set? -/
theorem some_iff (N : Nat) : ∀ n, (∃ i, i < n ∧ N / 2 ^ i % 2 = 1) ↔ N % 2 ^ n ≠ 0
  | 0 => by
    constructor
    · rintro ⟨i, hi, _⟩; omega
    · intro h; exact absurd (Nat.mod_one N) (by simpa using h)
  | n + 1 => by
    have ih := some_iff N n
    have e : N % 2 ^ (n + 1) = N % 2 ^ n + 2 ^ n * (N / 2 ^ n % 2) := Nat.mod_pow_succ
    rw [e]
    have hp : 0 < 2 ^ n := Nat.two_pow_pos n
    constructor
    · rintro ⟨i, hi, h⟩
      by_cases hin : i = n
      · subst hin; rw [h]; omega
      · have := ih.1 ⟨i, by omega, h⟩; omega
    · intro h
      by_cases h1 : N / 2 ^ n % 2 = 1
      · exact ⟨n, by omega, h1⟩
      · have h0 : N / 2 ^ n % 2 = 0 := by omega
        rw [h0, Nat.mul_zero] at h
        obtain ⟨i, hi, h2⟩ := ih.2 (by omega)
        exact ⟨i, by omega, h2⟩

/-- How many bits a number has. -/
def lenN (N : Nat) : Nat := if N = 0 then 0 else N.log2 + 1
theorem wv_top {V : Nat → Nat} : ∀ n k, k < n → (∀ i, k < i → i < n → V i = 0) → wv V n = wv V (k + 1)
  | 0, k, hk, _ => by omega
  | n + 1, k, hk, h => by
    by_cases hkn : k = n
    · rw [hkn]
    · rw [← wv_top n k (by omega) fun i h1 h2 => h i h1 (by omega)]
      conv => lhs; unfold wv
      rw [h n (by omega) (by omega), Nat.zero_mul, Nat.add_zero]
theorem len_top {V : Nat → Nat} (hb : wordB V) {k : Nat} (hk : k < 72) (h0 : V k ≠ 0) (h : ∀ i, k < i → i < 72 → V i = 0) : lenN (wv V 72) = k * 64 + lenN (V k) := by
  rw [wv_top 72 k hk h]
  have h1 := wv_lt (V := V) k fun i hi => hb i (by omega)
  have h2 : wv V (k + 1) = wv V k + V k * W64 ^ k := rfl
  have h3 : 0 < V k * W64 ^ k := Nat.mul_pos (by omega) (w64_pow k)
  unfold lenN
  rw [if_neg (by omega), if_neg h0]
  have hl := Nat.log2_self_le h0
  have hu := Nat.lt_log2_self (n := V k)
  have e := w64_two k
  have : (wv V (k + 1)).log2 = 64 * k + (V k).log2 := by
    refine log2_is ?_ ?_
    · rw [h2, Nat.pow_add, ← e, Nat.mul_comm (W64 ^ k)]
      have := Nat.mul_le_mul_right (W64 ^ k) hl
      omega
    · rw [h2, Nat.add_assoc, Nat.pow_add, ← e, Nat.mul_comm (W64 ^ k)]
      have h4 := Nat.mul_le_mul_right (W64 ^ k) (show V k + 1 ≤ 2 ^ ((V k).log2 + 1) by omega)
      rw [Nat.add_mul, Nat.one_mul] at h4
      omega
  omega
theorem wv_zero {V : Nat → Nat} : ∀ n, (∀ i, i < n → V i = 0) → wv V n = 0
  | 0, _ => rfl
  | n + 1, h => by unfold wv; rw [wv_zero n fun i hi => h i (by omega), h n (by omega), Nat.zero_mul]
theorem wv_nz {V : Nat → Nat} {n k : Nat} (hk : k < n) (h0 : V k ≠ 0) : wv V n ≠ 0 := by
  induction n with
  | zero => omega
  | succ n ih =>
    unfold wv
    by_cases h : k = n
    · subst h
      have := Nat.mul_pos (show 0 < V k by omega) (w64_pow k)
      omega
    · have := ih (by omega); omega

/-- The sign of words. -/
def H71 : Nat := 2 ^ 63 * W64 ^ 71
theorem m72_half : M72 = 2 * H71 := by
  unfold M72 H71
  rw [Nat.pow_succ, show (2 : Nat) * (2 ^ 63 * W64 ^ 71) = W64 ^ 71 * (2 * 2 ^ 63) by rw [← Nat.mul_assoc, Nat.mul_comm]]
  rfl
theorem top_bit {V : Nat → Nat} (hb : wordB V) : 2 ^ 63 ≤ V 71 ↔ H71 ≤ wv V 72 := by
  have h1 := wv_lt (V := V) 71 fun i hi => hb i (by omega)
  have h2 : wv V 72 = wv V 71 + V 71 * W64 ^ 71 := rfl
  unfold H71
  constructor
  · intro h
    have := Nat.mul_le_mul_right (W64 ^ 71) h
    omega
  · intro h
    refine Decidable.byContradiction fun hn => ?_
    have := Nat.mul_le_mul_right (W64 ^ 71) (show V 71 + 1 ≤ 2 ^ 63 by omega)
    rw [Nat.add_mul, Nat.one_mul] at this
    omega
def sgnI (s : Int) : Int := if s < 0 then -1 else if s = 0 then 0 else 1
def Small (s : Int) : Prop := -(H71 : Int) ≤ s ∧ s < H71
theorem neg_iff {V : Nat → Nat} {s : Int} (h : WIs V s) (hs : Small s) : 2 ^ 63 ≤ V 71 ↔ s < 0 := by
  have h0 := m72_half
  have hp := m72_pos
  rw [top_bit h.1, h.2]
  obtain ⟨s1, s2⟩ := hs
  by_cases hn : s < 0
  · have := toW_below hn (by omega)
    constructor
    · intro _; exact hn
    · intro _; omega
  · have h3 : toW s = s.toNat := by rw [← toW_nat (n := s.toNat) (by omega)]; congr 1; omega
    rw [h3]
    constructor
    · intro h4; omega
    · intro h4; omega
theorem zero_iff {V : Nat → Nat} {s : Int} (h : WIs V s) (hs : Small s) : (∀ i, i < 72 → V i = 0) ↔ s = 0 := by
  have h0 := m72_half
  have hp := m72_pos
  obtain ⟨s1, s2⟩ := hs
  constructor
  · intro hz
    have := wv_zero 72 hz
    rw [h.2] at this
    have h3 := toW_cast s
    rw [this] at h3
    by_cases hn : s < 0
    · have := toW_below hn (by omega); omega
    · rw [Int.emod_eq_of_lt (by omega) (by omega)] at h3; simpa using h3.symm
  · intro hz i hi
    refine Decidable.byContradiction fun hne => ?_
    have := wv_nz hi hne
    rw [h.2, hz] at this
    exact this (by unfold toW; simp)
/-- Words of a number from 0 on. -/
theorem WIs.nat {V : Nat → Nat} {s : Int} (h : WIs V s) (hs : Small s) (h0 : 0 ≤ s) : wv V 72 = s.toNat := by
  have hh := m72_half
  have hp := m72_pos
  rw [h.2]
  obtain ⟨s1, s2⟩ := hs
  have := toW_nat (n := s.toNat) (by omega)
  rw [← this]; congr 1; omega
end Go.Pst
