/- Whole numbers of 72 words of 64 bits, plain: sums, what is missing to the next power of two, bits, the sign. No condition. · Numbers of 72 words in memory; the sign, a bit, whether one is set, how many bits: the program's walks. Conditions: the words are there. · Numbers of 72 words in memory: a bit, whether one is set, how many bits: the program's walks. Conditions: the words are there. · Numbers of 72 words in memory: one added to another, the sign turned round: the program's walks. Conditions: the words are there. · The product of two numbers of 64 bits: bits.Mul64 (the shelf's own walk, turned to this program). Condition: numbers of 64 bits. · The words of a whole number, plain; an array of 72 words. No condition. · The product of two numbers of 64 bits times a power of two, as 72 words: the program's walk. Conditions: the power lies from -104 to 4200. · A finite number as a whole number: its digits and its power, plain; the product for every power. No condition. -/
import Derived.Test.YtjakjnmfndfehaaFm
import Derived.Deep.MidRow
import Derived.Deep.RegionHeld3
import Derived.LoopTactic
import Derived.BigRegion
import Derived.Test.YtjakjnmfndfehaaLn
import Derived.Laws.Externs
import Derived.Lib.Mul64
import Derived.Laws.Bits64b
namespace Go.Pst
open Go Ieee
set_option linter.unusedVariables false

/-- The least word and one more. -/
def W64 : Nat := 18446744073709551616
/-- The number that the first n words are. -/
def wv (V : Nat → Nat) : Nat → Nat
  | 0 => 0
  | n + 1 => wv V n + V n * W64 ^ n
def wordB (V : Nat → Nat) : Prop := ∀ i, i < 72 → V i < W64
def M72 : Nat := W64 ^ 72

theorem w64_pos : 0 < W64 := by decide
theorem w64_pow (n : Nat) : 0 < W64 ^ n := Nat.pow_pos w64_pos
theorem w64_two (n : Nat) : W64 ^ n = 2 ^ (64 * n) := by rw [show W64 = 2 ^ 64 from by decide, Nat.pow_mul]

theorem wv_lt {V : Nat → Nat} : ∀ n, (∀ i, i < n → V i < W64) → wv V n < W64 ^ n
  | 0, _ => by unfold wv; exact Nat.one_pos
  | n + 1, h => by
    have h1 := wv_lt n fun i hi => h i (by omega)
    have h2 := h n (by omega)
    unfold wv
    rw [Nat.pow_succ]
    have h3 : V n * W64 ^ n ≤ (W64 - 1) * W64 ^ n := Nat.mul_le_mul_right _ (by omega)
    rw [Nat.sub_mul, Nat.one_mul, Nat.mul_comm W64] at h3
    have h4 : W64 ^ n ≤ W64 ^ n * W64 := Nat.le_mul_of_pos_right _ w64_pos
    omega
theorem wv_congr {V U : Nat → Nat} : ∀ n, (∀ i, i < n → V i = U i) → wv V n = wv U n
  | 0, _ => rfl
  | n + 1, h => by unfold wv; rw [wv_congr n fun i hi => h i (by omega), h n (by omega)]

/-- The carry into a place, and the word there. -/
def carA (V U : Nat → Nat) : Nat → Nat
  | 0 => 0
  | k + 1 => (V k + U k + carA V U k) / W64
def addW (V U : Nat → Nat) (k : Nat) : Nat := (V k + U k + carA V U k) % W64
theorem carA_le {V U : Nat → Nat} : ∀ n, (∀ i, i < n → V i < W64 ∧ U i < W64) → carA V U n ≤ 1
  | 0, _ => by unfold carA; omega
  | n + 1, h => by
    have h1 := carA_le n fun i hi => h i (by omega)
    have h2 := h n (by omega)
    unfold carA
    have : V n + U n + carA V U n < 2 * W64 := by omega
    have := Nat.div_lt_of_lt_mul (show V n + U n + carA V U n < W64 * 2 by omega)
    omega
theorem addW_val (V U : Nat → Nat) : ∀ n, wv (addW V U) n + carA V U n * W64 ^ n = wv V n + wv U n
  | 0 => by simp [wv, carA]
  | n + 1 => by
    have h := addW_val V U n
    unfold wv carA addW
    have e := Nat.mod_add_div (V n + U n + carA V U n) W64
    generalize (V n + U n + carA V U n) % W64 = r at *
    generalize (V n + U n + carA V U n) / W64 = q at *
    have e2 : (V n + U n + carA V U n) * W64 ^ n = r * W64 ^ n + q * W64 ^ (n + 1) := by
      rw [← e, Nat.add_mul, Nat.pow_succ, Nat.mul_comm W64 q, Nat.mul_assoc, Nat.mul_comm W64 (W64 ^ n)]
    rw [Nat.add_mul, Nat.add_mul] at e2
    rw [show wv (fun k => (V k + U k + carA V U k) % W64) n = wv (addW V U) n from rfl]
    omega
theorem addW_lt (V U : Nat → Nat) (k : Nat) : addW V U k < W64 := Nat.mod_lt _ w64_pos
theorem addW_mod {V U : Nat → Nat} : wv (addW V U) 72 = (wv V 72 + wv U 72) % M72 := by
  have h := addW_val V U 72
  have h1 := wv_lt (V := addW V U) 72 fun i _ => addW_lt V U i
  rw [← h]
  unfold M72
  rw [Nat.add_mul_mod_self_right, Nat.mod_eq_of_lt h1]

/-- What is missing to the next power of two. -/
def carN (V : Nat → Nat) : Nat → Nat
  | 0 => 1
  | k + 1 => (W64 - 1 - V k + carN V k) / W64
def negW (V : Nat → Nat) (k : Nat) : Nat := (W64 - 1 - V k + carN V k) % W64
theorem carN_le {V : Nat → Nat} : ∀ n, carN V n ≤ 1
  | 0 => by unfold carN; omega
  | n + 1 => by
    have h1 := carN_le (V := V) n
    unfold carN
    have h2 := w64_pos
    have := Nat.div_lt_of_lt_mul (show W64 - 1 - V n + carN V n < W64 * 2 by omega)
    omega
theorem negW_val {V : Nat → Nat} : ∀ n, (∀ i, i < n → V i < W64) → wv (negW V) n + carN V n * W64 ^ n + wv V n = W64 ^ n
  | 0, _ => by simp [wv, carN]
  | n + 1, hb => by
    have h := negW_val n fun i hi => hb i (by omega)
    have h2 := hb n (by omega)
    unfold wv carN negW
    have e := Nat.mod_add_div (W64 - 1 - V n + carN V n) W64
    generalize (W64 - 1 - V n + carN V n) % W64 = r at *
    generalize (W64 - 1 - V n + carN V n) / W64 = q at *
    have e1 : r + W64 * q + V n + 1 = W64 + carN V n := by omega
    have e2 := congrArg (· * W64 ^ n) e1
    simp only [Nat.add_mul, Nat.one_mul] at e2
    rw [show W64 * q * W64 ^ n = q * W64 ^ (n + 1) by rw [Nat.pow_succ, Nat.mul_comm W64 q, Nat.mul_assoc, Nat.mul_comm W64 (W64 ^ n)], show W64 * W64 ^ n = W64 ^ (n + 1) by rw [Nat.pow_succ, Nat.mul_comm]] at e2
    rw [show wv (fun k => (W64 - 1 - V k + carN V k) % W64) n = wv (negW V) n from rfl]
    omega
theorem negW_lt (V : Nat → Nat) (k : Nat) : negW V k < W64 := Nat.mod_lt _ w64_pos
theorem negW_mod {V : Nat → Nat} (hb : wordB V) : wv (negW V) 72 = (M72 - wv V 72) % M72 := by
  have h := negW_val 72 hb
  have h1 := wv_lt (V := negW V) 72 fun i _ => negW_lt V i
  have h2 := wv_lt (V := V) 72 hb
  have h3 : carN V 72 ≤ 1 := carN_le 72
  unfold M72
  rcases Nat.le_one_iff_eq_zero_or_eq_one.1 h3 with h4 | h4
  · rw [h4, Nat.zero_mul] at h
    rw [Nat.mod_eq_of_lt (by omega)]; omega
  · rw [h4, Nat.one_mul] at h
    rw [show W64 ^ 72 - wv V 72 = W64 ^ 72 by omega, Nat.mod_self]; omega

/-- A whole number, below 0 as what is missing. -/
def toW (s : Int) : Nat := (s % (M72 : Int)).toNat
theorem m72_pos : 0 < M72 := w64_pow 72
theorem toW_lt (s : Int) : toW s < M72 := by
  have h := Int.emod_lt_of_pos s (show (0 : Int) < M72 by have := m72_pos; omega)
  have h0 := Int.emod_nonneg s (show (M72 : Int) ≠ 0 by have := m72_pos; omega)
  unfold toW; omega
theorem toW_cast (s : Int) : ((toW s : Nat) : Int) = s % (M72 : Int) := by
  have h0 := Int.emod_nonneg s (show (M72 : Int) ≠ 0 by have := m72_pos; omega)
  unfold toW; omega
theorem toW_add (s t : Int) : (toW s + toW t) % M72 = toW (s + t) := by
  have h : (((toW s + toW t) % M72 : Nat) : Int) = ((toW (s + t) : Nat) : Int) := by
    rw [toW_cast, Int.natCast_emod, Int.natCast_add, toW_cast, toW_cast, ← Int.add_emod]
  omega
theorem toW_neg (s : Int) : (M72 - toW s) % M72 = toW (-s) := by
  have hl := toW_lt s
  have h : (((M72 - toW s) % M72 : Nat) : Int) = ((toW (-s) : Nat) : Int) := by
    rw [toW_cast, Int.natCast_emod, Int.natCast_sub (by omega), toW_cast]
    rw [Int.emod_eq_emod_iff_emod_sub_eq_zero]
    have e := Int.emod_add_mul_ediv s (M72 : Int)
    rw [show (M72 : Int) - s % (M72 : Int) - -s = (M72 : Int) * (1 + s / (M72 : Int)) by rw [Int.mul_add, Int.mul_one]; omega]
    exact Int.mul_emod_right _ _
  omega
theorem toW_nat {n : Nat} (h : n < M72) : toW (n : Int) = n := by
  unfold toW
  rw [Int.emod_eq_of_lt (by omega) (by omega)]
  simp
theorem toW_below {s : Int} (h : s < 0) (h2 : -(M72 : Int) ≤ s) : (toW s : Int) = s + M72 := by
  rw [toW_cast]
  rw [← Int.add_emod_right]
  exact Int.emod_eq_of_lt (by omega) (by omega)

/-- Words and a number. -/
def WIs (V : Nat → Nat) (s : Int) : Prop := wordB V ∧ wv V 72 = toW s
theorem WIs.add {V U : Nat → Nat} {s t : Int} (h : WIs V s) (g : WIs U t) : WIs (addW V U) (s + t) :=
  ⟨fun i _ => addW_lt V U i, by rw [addW_mod, h.2, g.2, toW_add]⟩
theorem WIs.neg {V : Nat → Nat} {s : Int} (h : WIs V s) : WIs (negW V) (-s) :=
  ⟨fun i _ => negW_lt V i, by rw [negW_mod h.1, h.2, toW_neg]⟩

/-! ### Places -/
theorem wv_place {V : Nat → Nat} : ∀ n, (∀ i, i < n → V i < W64) → ∀ k, k < n → wv V n / W64 ^ k % W64 = V k
  | 0, _, k, hk => by omega
  | n + 1, hb, k, hk => by
    have h1 := wv_lt n fun i hi => hb i (by omega)
    have h2 := hb n (by omega)
    unfold wv
    by_cases h : k = n
    · subst h
      rw [Nat.add_mul_div_right _ _ (w64_pow k), Nat.div_eq_of_lt h1, Nat.zero_add, Nat.mod_eq_of_lt h2]
    · have ih := wv_place n (fun i hi => hb i (by omega)) k (by omega)
      obtain ⟨d, rfl⟩ : ∃ d, n = k + 1 + d := ⟨n - k - 1, by omega⟩
      rw [show V (k + 1 + d) * W64 ^ (k + 1 + d) = V (k + 1 + d) * W64 ^ d * W64 * W64 ^ k by
        rw [Nat.pow_add, Nat.pow_succ]; simp only [Nat.mul_assoc, Nat.mul_comm, Nat.mul_left_comm]]
      rw [Nat.add_mul_div_right _ _ (w64_pow k), Nat.add_mul_mod_self_right]
      exact ih

/-- A bit of words. -/
def bitW (V : Nat → Nat) (n : Nat) : Nat := V (n / 64) / 2 ^ (n % 64) % 2
theorem bitW_eq {V : Nat → Nat} (hb : wordB V) {n : Nat} (hn : n < 4608) : bitW V n = wv V 72 / 2 ^ n % 2 := by
  have h := wv_place 72 hb (n / 64) (by omega)
  unfold bitW
  rw [← h, w64_two]
  generalize wv V 72 = N
  rw [show W64 = 2 ^ (n % 64) * 2 ^ (64 - n % 64) by rw [← Nat.pow_add, show n % 64 + (64 - n % 64) = 64 by omega]; decide, Nat.mod_mul_right_div_self]
  rw [show 2 ^ (64 - n % 64) = 2 * 2 ^ (63 - n % 64) by rw [show 64 - n % 64 = 63 - n % 64 + 1 by omega, Nat.pow_succ, Nat.mul_comm], Nat.mod_mul_right_mod, Nat.div_div_eq_div_mul, ← Nat.pow_add,
    show 64 * (n / 64) + n % 64 = n by omega]

/-- Is one of the bits below n set? -/
theorem some_iff (N : Nat) : ∀ n, (∃ i, i < n ∧ N / 2 ^ i % 2 = 1) ↔ N % 2 ^ n ≠ 0
  | 0 => by
    constructor
    · rintro ⟨i, hi, _⟩; omega
    · intro h; exact absurd (Nat.mod_one N) (by simpa using h)
  | n + 1 => by
    have ih := some_iff N n
    have e : N % 2 ^ (n + 1) = N % 2 ^ n + 2 ^ n * (N / 2 ^ n % 2) := Nat.mod_pow_succ
    rw [e]
    have hp : 0 < 2 ^ n := Nat.two_pow_pos n
    constructor
    · rintro ⟨i, hi, h⟩
      by_cases hin : i = n
      · subst hin; rw [h]; omega
      · have := ih.1 ⟨i, by omega, h⟩; omega
    · intro h
      by_cases h1 : N / 2 ^ n % 2 = 1
      · exact ⟨n, by omega, h1⟩
      · have h0 : N / 2 ^ n % 2 = 0 := by omega
        rw [h0, Nat.mul_zero] at h
        obtain ⟨i, hi, h2⟩ := ih.2 (by omega)
        exact ⟨i, by omega, h2⟩

/-- How many bits a number has. -/
def lenN (N : Nat) : Nat := if N = 0 then 0 else N.log2 + 1
theorem wv_top {V : Nat → Nat} : ∀ n k, k < n → (∀ i, k < i → i < n → V i = 0) → wv V n = wv V (k + 1)
  | 0, k, hk, _ => by omega
  | n + 1, k, hk, h => by
    by_cases hkn : k = n
    · rw [hkn]
    · rw [← wv_top n k (by omega) fun i h1 h2 => h i h1 (by omega)]
      conv => lhs; unfold wv
      rw [h n (by omega) (by omega), Nat.zero_mul, Nat.add_zero]
theorem len_top {V : Nat → Nat} (hb : wordB V) {k : Nat} (hk : k < 72) (h0 : V k ≠ 0) (h : ∀ i, k < i → i < 72 → V i = 0) : lenN (wv V 72) = k * 64 + lenN (V k) := by
  rw [wv_top 72 k hk h]
  have h1 := wv_lt (V := V) k fun i hi => hb i (by omega)
  have h2 : wv V (k + 1) = wv V k + V k * W64 ^ k := rfl
  have h3 : 0 < V k * W64 ^ k := Nat.mul_pos (by omega) (w64_pow k)
  unfold lenN
  rw [if_neg (by omega), if_neg h0]
  have hl := Nat.log2_self_le h0
  have hu := Nat.lt_log2_self (n := V k)
  have e := w64_two k
  have : (wv V (k + 1)).log2 = 64 * k + (V k).log2 := by
    refine log2_is ?_ ?_
    · rw [h2, Nat.pow_add, ← e, Nat.mul_comm (W64 ^ k)]
      have := Nat.mul_le_mul_right (W64 ^ k) hl
      omega
    · rw [h2, Nat.add_assoc, Nat.pow_add, ← e, Nat.mul_comm (W64 ^ k)]
      have h4 := Nat.mul_le_mul_right (W64 ^ k) (show V k + 1 ≤ 2 ^ ((V k).log2 + 1) by omega)
      rw [Nat.add_mul, Nat.one_mul] at h4
      omega
  omega
theorem wv_zero {V : Nat → Nat} : ∀ n, (∀ i, i < n → V i = 0) → wv V n = 0
  | 0, _ => rfl
  | n + 1, h => by unfold wv; rw [wv_zero n fun i hi => h i (by omega), h n (by omega), Nat.zero_mul]
theorem wv_nz {V : Nat → Nat} {n k : Nat} (hk : k < n) (h0 : V k ≠ 0) : wv V n ≠ 0 := by
  induction n with
  | zero => omega
  | succ n ih =>
    unfold wv
    by_cases h : k = n
    · subst h
      have := Nat.mul_pos (show 0 < V k by omega) (w64_pow k)
      omega
    · have := ih (by omega); omega

/-- The sign of words. -/
def H71 : Nat := 2 ^ 63 * W64 ^ 71
theorem m72_half : M72 = 2 * H71 := by
  unfold M72 H71
  rw [Nat.pow_succ, show (2 : Nat) * (2 ^ 63 * W64 ^ 71) = W64 ^ 71 * (2 * 2 ^ 63) by rw [← Nat.mul_assoc, Nat.mul_comm]]
  rfl
theorem top_bit {V : Nat → Nat} (hb : wordB V) : 2 ^ 63 ≤ V 71 ↔ H71 ≤ wv V 72 := by
  have h1 := wv_lt (V := V) 71 fun i hi => hb i (by omega)
  have h2 : wv V 72 = wv V 71 + V 71 * W64 ^ 71 := rfl
  unfold H71
  constructor
  · intro h
    have := Nat.mul_le_mul_right (W64 ^ 71) h
    omega
  · intro h
    refine Decidable.byContradiction fun hn => ?_
    have := Nat.mul_le_mul_right (W64 ^ 71) (show V 71 + 1 ≤ 2 ^ 63 by omega)
    rw [Nat.add_mul, Nat.one_mul] at this
    omega
def sgnI (s : Int) : Int := if s < 0 then -1 else if s = 0 then 0 else 1
def Small (s : Int) : Prop := -(H71 : Int) ≤ s ∧ s < H71
theorem neg_iff {V : Nat → Nat} {s : Int} (h : WIs V s) (hs : Small s) : 2 ^ 63 ≤ V 71 ↔ s < 0 := by
  have h0 := m72_half
  have hp := m72_pos
  rw [top_bit h.1, h.2]
  obtain ⟨s1, s2⟩ := hs
  by_cases hn : s < 0
  · have := toW_below hn (by omega)
    constructor
    · intro _; exact hn
    · intro _; omega
  · have h3 : toW s = s.toNat := by rw [← toW_nat (n := s.toNat) (by omega)]; congr 1; omega
    rw [h3]
    constructor
    · intro h4; omega
    · intro h4; omega
theorem zero_iff {V : Nat → Nat} {s : Int} (h : WIs V s) (hs : Small s) : (∀ i, i < 72 → V i = 0) ↔ s = 0 := by
  have h0 := m72_half
  have hp := m72_pos
  obtain ⟨s1, s2⟩ := hs
  constructor
  · intro hz
    have := wv_zero 72 hz
    rw [h.2] at this
    have h3 := toW_cast s
    rw [this] at h3
    by_cases hn : s < 0
    · have := toW_below hn (by omega); omega
    · rw [Int.emod_eq_of_lt (by omega) (by omega)] at h3; simpa using h3.symm
  · intro hz i hi
    refine Decidable.byContradiction fun hne => ?_
    have := wv_nz hi hne
    rw [h.2, hz] at this
    exact this (by unfold toW; simp)
/-- Words of a number from 0 on. -/
theorem WIs.nat {V : Nat → Nat} {s : Int} (h : WIs V s) (hs : Small s) (h0 : 0 ≤ s) : wv V 72 = s.toNat := by
  have hh := m72_half
  have hp := m72_pos
  rw [h.2]
  obtain ⟨s1, s2⟩ := hs
  have := toW_nat (n := s.toNat) (by omega)
  rw [← this]; congr 1; omega
end Go.Pst

namespace Go.Proofs.Ytjakjnmfndfehaa
open Go.RowKit Go.Pst
set_option maxRecDepth 20000
set_option linter.unusedSimpArgs false
set_option linter.unusedVariables false

/-- Words in memory. -/
structure WideAt (w : World) (B o : Nat) (V : Nat → Nat) : Prop where
  lt : B < w.heap.size
  fr : ∀ k, w.frozen? ⟨B, k, none⟩ = false
  cell : ∀ i, i < 72 → w.cell? ⟨B, o + i, none⟩ = some (.int .u64 (V i))

section
variable {w w' : World} {B o : Nat} {V : Nat → Nat}
theorem WideAt.below (h : WideAt w B o V) (hb : Below w.heap.size w w') : WideAt w' B o V where
  lt := Nat.lt_of_lt_of_le h.lt hb.size
  fr k := by rw [hb.frozen (show B < w.heap.size from h.lt)]; exact h.fr k
  cell i hi := by rw [hb.cell (show B < w.heap.size from h.lt)]; exact h.cell i hi
theorem WideAt.grown {row : Option Nat} (h : WideAt w B o V) (hg : w.grownBy w' row) (hr : row ≠ some B) : WideAt w' B o V where
  lt := Nat.lt_of_lt_of_le h.lt hg.size
  fr k := by rw [World.frozen?_of_block (a := ⟨B, k, none⟩) (hg.block B h.lt (Ne.symm hr))]; exact h.fr k
  cell i hi := by rw [World.cell?_of_block (a := ⟨B, o + i, none⟩) (hg.block B h.lt (Ne.symm hr))]; exact h.cell i hi
def upd (V : Nat → Nat) (k x : Nat) (i : Nat) : Nat := if i = k then x else V i
theorem WideAt.set (h : WideAt w B o V) {k x : Nat} (hk : k < 72) : WideAt (w.setCell ⟨B, o + k, none⟩ (.int .u64 x)) B o (upd V k x) where
  lt := by rw [Reg.size_setCell]; exact h.lt
  fr j := by simp only [World.frozen?_setCell]; exact h.fr j
  cell i hi := by
    unfold upd
    by_cases hik : i = k
    · rw [if_pos hik, hik]; exact World.cell?_setCell_same _ _ _ (h.cell k hk)
    · rw [if_neg hik, World.cell?_setCell_other _ _ _ _ (by intro e; injection e with _ e2; omega)]
      exact h.cell i hi
theorem WideAt.congr {U : Nat → Nat} (h : WideAt w B o V) (hc : ∀ i, i < 72 → V i = U i) : WideAt w B o U :=
  ⟨h.lt, h.fr, fun i hi => by rw [← hc i hi]; exact h.cell i hi⟩
end

set_option maxHeartbeats 1000000 in
theorem sign_any (B o : Nat) (V : Nat → Nat) (s : Int) (w : World) (h : WideAt w B o V) (hV : WIs V s) (hs : Small s) :
    Calls Try.prog 94 #[.pointer (some ⟨B, o, none⟩)] w fun en w' => en = .returned (.int .i64 (sgnI s)) ∧ w = w' := by
  have hn := neg_iff hV hs
  have hz := zero_iff hV hs
  have HC := Lib.hid h.cell
  have c71 := h.cell 71 (by omega)
  have hb71 := hV.1 71 (by omega)
  unfold W64 at hb71
  obtain ⟨v, hv⟩ : ∃ v, v = V 71 := ⟨_, rfl⟩
  rw [← hv] at hb71 hn c71
  obtain ⟨r, hr⟩ : ∃ r, r = sgnI s := ⟨_, rfl⟩
  rw [← hr]
  by_cases hneg : s < 0
  · have h1 := hn.2 hneg
    have hr1 : r = -1 := by rw [hr]; unfold sgnI; rw [if_pos hneg]
    subst hr1
    have h2 : (v : Int) / 9223372036854775808 = 1 := by omega
    clear hn hz hv hr h
    go_enter Try.func94, Try.ntmps94
    go_wp2_with fail
    go_ret
    exact ⟨rfl, rfl⟩
  · have h1 : v < 2 ^ 63 := by
      rcases Nat.lt_or_ge v (2 ^ 63) with h1 | h1
      · exact h1
      · exact absurd (hn.1 h1) hneg
    have h2 : (v : Int) / 9223372036854775808 = 0 := by omega
    have hr1 : r = if s = 0 then 0 else 1 := by rw [hr]; unfold sgnI; rw [if_neg hneg]
    have HR := Lib.hid hr1
    have HZ := Lib.hid hz
    clear hn hv hr h hr1 hz
    go_enter Try.func94, Try.ntmps94
    go_wp2_with fail
    go_loop [12] (fun t => ∃ k : Nat, t = .int .i64 k ∧ k ≤ 72 ∧ ∀ i, i < k → V i = 0) (fun t => 72 - (intOf t).toNat)
    case atStart => exact ⟨0, rfl, by omega, fun i hi => by omega⟩
    case round =>
      obtain ⟨k, rfl, hk, hall⟩ := hrel
      have HA := Lib.hid hall
      clear hall
      by_cases hk2 : k < 72
      · have c := HC.out k hk2
        have h3 : (k : Int) < 72 := by omega
        by_cases h0 : V k = 0
        · have HN : Hid (∀ i, i < k + 1 → V i = 0) := Lib.hid (fun i hi => by
            by_cases e : i = k
            · rw [e]; exact h0
            · exact HA.out i (by omega))
          rw [h0] at c
          clear h0
          go_wp2_with fail
          go_round
          case rel => exact ⟨k + 1, by go_num, by omega, HN.out⟩
          case measure => (simp [intOf] <;> omega)
        · have hs0 : s ≠ 0 := fun e => h0 (HZ.out.2 e k hk2)
          have hr1 : r = 1 := by rw [HR.out, if_neg hs0]
          subst hr1
          obtain ⟨x, hx⟩ : ∃ x, x = V k := ⟨_, rfl⟩
          rw [← hx] at c h0
          have h4 : ((x : Int) != 0) = true := by simpa using h0
          clear hx h0 hs0
          go_wp2_with fail
          go_ret
          exact ⟨rfl, rfl⟩
      · obtain rfl : k = 72 := by omega
        have hs0 : s = 0 := HZ.out.1 HA.out
        have hr1 : r = 0 := by rw [HR.out, if_pos hs0]
        subst hr1
        clear hs0
        go_wp2_with fail
        go_ret
        exact ⟨rfl, rfl⟩
end Go.Proofs.Ytjakjnmfndfehaa

namespace Go.Pst
open Go
theorem bit_len (x : Nat) (h : x < 2 ^ 64) : Lib.bitLen x = lenN x := by
  unfold lenN
  by_cases h0 : x = 0
  · rw [if_pos h0, h0]; rfl
  · rw [if_neg h0]
    have h1 := Nat.log2_self_le h0
    rw [Lib.bitLen_shift _ _ h1 h]
    have h2 := Nat.lt_log2_self (n := x)
    rw [Nat.pow_succ, Nat.mul_comm] at h2
    have : x / 2 ^ x.log2 = 1 := Nat.div_eq_of_lt_le (by omega) (by omega)
    rw [this, Nat.add_comm]
    have : Lib.bitLen 1 = 1 := by decide
    omega
theorem bitW_lt (V : Nat → Nat) (n : Nat) : bitW V n < 2 := Nat.mod_lt _ (by omega)
end Go.Pst
namespace Go.Proofs.Ytjakjnmfndfehaa
open Go.RowKit Go.Pst
set_option maxRecDepth 20000
set_option linter.unusedSimpArgs false
set_option linter.unusedVariables false

set_option maxHeartbeats 1000000 in
theorem bit_any (B o : Nat) (V : Nat → Nat) (n : Nat) (w : World) (h : WideAt w B o V) (hb : wordB V) (hn : n < 4608) :
    Calls Try.prog 124 #[.pointer (some ⟨B, o, none⟩), .int .i64 n] w fun en w' => en = .returned (.int .u64 (bitW V n)) ∧ w = w' := by
  have c := h.cell (n / 64) (by omega)
  have hw := hb (n / 64) (by omega)
  have h0 : (0 : Int) ≤ (n : Int) := by omega
  have h1 : (n : Int) / 64 < 72 := by omega
  have HR : Hid (bits BinOp.and IntKind.u64 ((V (n / 64) : Int) / 2 ^ (n % 64)) 1 = ((bitW V n : Nat) : Int)) := Lib.hid (by
    have hlt : V (n / 64) / 2 ^ (n % 64) < 2 ^ 64 := Nat.lt_of_le_of_lt (Nat.div_le_self _ _) (by unfold W64 at hw; omega)
    have e := and_mask (b := V (n / 64) / 2 ^ (n % 64)) (n := 1) hlt (by omega)
    rw [show ((V (n / 64) : Int) / 2 ^ (n % 64)) = ((V (n / 64) / 2 ^ (n % 64) : Nat) : Int) by rw [Int.natCast_ediv, Int.natCast_pow]; rfl]
    exact e)
  go_enter Try.func124, Try.ntmps124
  go_wp2_with fail
  go_ret
  exact ⟨by rw [HR.out]; rfl, rfl⟩

set_option maxHeartbeats 1000000 in
theorem some_any (B o : Nat) (V : Nat → Nat) (n : Nat) (w : World) (h : WideAt w B o V) (hb : wordB V) (hn : n ≤ 4608) :
    Calls Try.prog 125 #[.pointer (some ⟨B, o, none⟩), .int .i64 n] w fun en w' => en = .returned (.bool (decide (wv V 72 % 2 ^ n ≠ 0))) ∧ w = w' := by
  have HB := Lib.hid fun k hk => bit_any B o V k w h hb hk
  have HE := Lib.hid fun k hk => bitW_eq hb (n := k) hk
  have HS := Lib.hid (some_iff (wv V 72) n)
  obtain ⟨r, hr⟩ : ∃ r : Bool, r = decide (wv V 72 % 2 ^ n ≠ 0) := ⟨_, rfl⟩
  rw [← hr]
  have HR := Lib.hid hr
  clear h hb hr
  go_enter Try.func125, Try.ntmps125
  go_wp2_with fail
  go_loop [7] (fun t => ∃ k : Nat, t = .int .i64 k ∧ k ≤ n ∧ ∀ i, i < k → bitW V i ≠ 1) (fun t => n - (intOf t).toNat)
  case atStart => exact ⟨0, rfl, by omega, fun i hi => by omega⟩
  case round =>
    obtain ⟨k, rfl, hk, hall⟩ := hrel
    have HA := Lib.hid hall
    clear hall
    by_cases hk2 : k < n
    · have h3 : (k : Int) < (n : Int) := by omega
      by_cases h0 : bitW V k = 1
      · have hr : r = true := by
          rw [HR.out]
          refine decide_eq_true (HS.out.1 ⟨k, hk2, ?_⟩)
          rw [← HE.out k (by omega)]; exact h0
        subst hr
        have HBk := Lib.hid (HB.out k (by omega))
        rw [h0] at HBk
        clear h0
        go_wp2_with fail
        refine (HBk.out).mono ?_
        rintro en w' ⟨rfl, rfl⟩
        go_wp2_with fail
        go_ret
        exact ⟨rfl, rfl⟩
      · have HN : Hid (∀ i, i < k + 1 → bitW V i ≠ 1) := Lib.hid (fun i hi => by
          by_cases e : i = k
          · rw [e]; exact h0
          · exact HA.out i (by omega))
        have h4 : bitW V k = 0 := by have := bitW_lt V k; omega
        have HBk := Lib.hid (HB.out k (by omega))
        rw [h4] at HBk
        clear h0 h4
        go_wp2_with fail
        refine (HBk.out).mono ?_
        rintro en w' ⟨rfl, rfl⟩
        go_wp2_with fail
        go_round
        case rel => exact ⟨k + 1, by go_num, by omega, HN.out⟩
        case measure => (simp [intOf] <;> omega)
    · obtain rfl : k = n := by omega
      have hr : r = false := by
        rw [HR.out]
        refine decide_eq_false (fun hne => ?_)
        obtain ⟨i, hi, h1⟩ := HS.out.2 hne
        exact HA.out i hi (by rw [HE.out i (by omega)]; exact h1)
      subst hr
      go_wp2_with fail
      go_ret
      exact ⟨rfl, rfl⟩

set_option maxHeartbeats 1000000 in
theorem long_any (B o : Nat) (V : Nat → Nat) (w : World) (h : WideAt w B o V) (hb : wordB V) :
    Calls Try.prog 123 #[.pointer (some ⟨B, o, none⟩)] w fun en w' => en = .returned (.int .i64 (lenN (wv V 72) : Nat)) ∧ w = w' := by
  have HC := Lib.hid h.cell
  have HT := Lib.hid fun k hk h0 h1 => len_top hb (k := k) hk h0 h1
  have HB := Lib.hid hb
  have HL : Hid (∀ k, k < 72 → ∀ w, Calls Try.prog 134 #[.int .u64 (V k)] w fun en w' => en = .returned (.int .i64 (lenN (V k) : Nat)) ∧ w = w') := Lib.hid (fun k hk w => by
    have h1 := hb k hk
    unfold W64 at h1
    exact (len64_int (V k) w (by omega) (by omega)).mono fun en w' ⟨e1, e2⟩ => ⟨by rw [e1, Int.toNat_natCast, bit_len _ (by omega)], e2.symm⟩)
  have HZ := Lib.hid (fun h => wv_zero (V := V) 72 h)
  obtain ⟨r, hr⟩ : ∃ r : Nat, r = lenN (wv V 72) := ⟨_, rfl⟩
  rw [← hr]
  have HR := Lib.hid hr
  clear h hb hr
  go_enter Try.func123, Try.ntmps123
  go_wp2_with fail
  go_loop [3] (fun t => ∃ k : Nat, t = .int .i64 ((k : Int) - 1) ∧ k ≤ 72 ∧ ∀ i, k ≤ i → i < 72 → V i = 0) (fun t => (intOf t + 1).toNat)
  case atStart => exact ⟨72, rfl, by omega, fun i hi => by omega⟩
  case round =>
    obtain ⟨k, rfl, hk, hall⟩ := hrel
    have HA := Lib.hid hall
    clear hall
    rcases k with _ | k
    · have hr : r = 0 := by
        rw [HR.out, HZ.out (fun i hi => HA.out i (by omega) hi)]; rfl
      subst hr
      have e : ((0 : Nat) : Int) - 1 = -1 := rfl
      rw [e]
      clear e
      go_wp2_with fail
      go_ret
      exact ⟨rfl, rfl⟩
    · have e : ((k + 1 : Nat) : Int) - 1 = (k : Int) := by omega
      rw [e]
      have h3 : (0 : Int) ≤ (k : Int) := by omega
      have h4 : (k : Int) < 72 := by omega
      have c := HC.out k (by omega)
      clear e
      by_cases h0 : V k = 0
      · have HN : Hid (∀ i, k ≤ i → i < 72 → V i = 0) := Lib.hid (fun i h1 h2 => by
          by_cases e : i = k
          · rw [e]; exact h0
          · exact HA.out i (by omega) h2)
        rw [h0] at c
        clear h0
        go_wp2_with fail
        go_round
        case rel => exact ⟨k, by go_num, by omega, HN.out⟩
        case measure => (simp [intOf] <;> omega)
      · have HLk := Lib.hid (HL.out k (by omega))
        have hr : r = k * 64 + lenN (V k) := by rw [HR.out]; exact HT.out k (by omega) h0 (fun i h1 h2 => HA.out i (by omega) h2)
        have hl : lenN (V k) ≤ 64 := by
          have h1 := HB.out k (by omega)
          unfold W64 at h1
          have h2 := Nat.log2_lt (n := V k) (k := 64) h0
          unfold lenN; rw [if_neg h0]
          have := h2.2 (by omega)
          omega
        obtain ⟨x, hx⟩ : ∃ x, x = V k := ⟨_, rfl⟩
        rw [← hx] at c h0 hr hl HLk
        obtain ⟨y, hy⟩ : ∃ y, y = lenN x := ⟨_, rfl⟩
        rw [← hy] at hr hl HLk
        have h5 : ((x : Int) != 0) = true := by simpa using h0
        have HR2 := Lib.hid hr
        clear hx h0 hr hy
        go_wp2_with fail
        refine (HLk.out _).mono ?_
        rintro en w' ⟨rfl, rfl⟩
        go_wp2_with fail
        go_ret
        exact ⟨by rw [HR2.out]; first | rfl | (congr 2; omega) | skip, rfl⟩
end Go.Proofs.Ytjakjnmfndfehaa

namespace Go.Proofs.Ytjakjnmfndfehaa
open Go.RowKit Go.Pst
set_option maxRecDepth 20000
set_option linter.unusedSimpArgs false
set_option linter.unusedVariables false

/-- New blocks, and writes to a part of one block. -/
structure Chg (w w' : World) (B o n : Nat) : Prop where
  g : w.grownBy w' (some B)
  cell : ∀ k, k < o ∨ o + n ≤ k → w'.cell? ⟨B, k, none⟩ = w.cell? ⟨B, k, none⟩
  fr : ∀ k, w'.frozen? ⟨B, k, none⟩ = w.frozen? ⟨B, k, none⟩
section
variable {w w' w2 : World} {B o n : Nat}
theorem Chg.refl (w : World) (B o n : Nat) : Chg w w B o n := ⟨⟨rfl, rfl, rfl, Nat.le_refl _, fun k _ _ => rfl⟩, fun _ _ => rfl, fun _ => rfl⟩
theorem Chg.set (h : Chg w w' B o n) {k : Nat} (h1 : o ≤ k) (h2 : k < o + n) (v : Value) : Chg w (w'.setCell ⟨B, k, none⟩ v) B o n where
  g := ⟨h.g.os, h.g.tape, h.g.output, by rw [Reg.size_setCell]; exact h.g.size, fun j hj hne => by
    rw [heap_setCell_other w' ⟨B, k, none⟩ j v (fun e => hne (by rw [e]))]; exact h.g.block j hj hne⟩
  cell j hj := by
    rw [World.cell?_setCell_other _ _ _ _ (by intro e; injection e with _ e2; omega)]
    exact h.cell j hj
  fr j := by simp only [World.frozen?_setCell]; exact h.fr j
theorem Chg.drew (h : Chg w w' B o n) : Chg w w'.drew B o n := ⟨⟨h.g.os, h.g.tape, h.g.output, h.g.size, h.g.block⟩, h.cell, h.fr⟩
theorem Chg.trans (h : Chg w w' B o n) (h2 : Chg w' w2 B o n) : Chg w w2 B o n where
  g := ⟨h2.g.os.trans h.g.os, h2.g.tape.trans h.g.tape, h2.g.output.trans h.g.output, Nat.le_trans h.g.size h2.g.size, fun j hj hne => (h2.g.block j (Nat.lt_of_lt_of_le hj h.g.size) hne).trans (h.g.block j hj hne)⟩
  cell j hj := (h2.cell j hj).trans (h.cell j hj)
  fr j := (h2.fr j).trans (h.fr j)
theorem Chg.after (h : Chg w w' B o n) (hB : B < w'.heap.size) (hb : Below w'.heap.size w' w2) : Chg w w2 B o n where
  g := ⟨hb.os.trans h.g.os, hb.tape.trans h.g.tape, hb.output.trans h.g.output, Nat.le_trans h.g.size hb.size, fun j hj hne => (hb.block j (Nat.lt_of_lt_of_le hj h.g.size)).trans (h.g.block j hj hne)⟩
  cell j hj := by rw [hb.cell (show B < w'.heap.size from hB)]; exact h.cell j hj
  fr j := by rw [hb.frozen (show B < w'.heap.size from hB)]; exact h.fr j
end

theorem WideAt.other {w : World} {B B2 o2 : Nat} {U : Nat → Nat} (h : WideAt w B2 o2 U) (hne : B ≠ B2) (k : Nat) (v : Value) : WideAt (w.setCell ⟨B, k, none⟩ v) B2 o2 U where
  lt := by rw [Reg.size_setCell]; exact h.lt
  fr j := by simp only [World.frozen?_setCell]; exact h.fr j
  cell i hi := by rw [World.cell?_setCell_other _ _ _ _ (by intro e; injection e with e1 _; exact hne e1)]; exact h.cell i hi

theorem madd64 (x y c : Nat) (hc : c ≤ 1) (w : World) : (callFunc 114 #[.int .u64 x, .int .u64 y, .int .u64 c]).run Try.prog w =
    .ok (.value (.tuple #[.int .u64 (((x + y + c) % W64 : Nat) : Int), .int .u64 (((x + y + c) / W64 : Nat) : Int)])) w := by
  rw [run_callFunc_extern Try.func114 (by kernel_rfl) (by kernel_rfl) (by kernel_rfl) (e := add64Entry) (by kernel_rfl), run_add64 x y c (by omega) (by omega) (by omega) (by omega)]
  simp only [Result.andThen]
  unfold W64
  congr 5 <;> omega
theorem madd64z (x c : Nat) (hc : c ≤ 1) (w : World) : (callFunc 114 #[.int .u64 x, .int .u64 0, .int .u64 c]).run Try.prog w =
    .ok (.value (.tuple #[.int .u64 (((x + c) % W64 : Nat) : Int), .int .u64 (((x + c) / W64 : Nat) : Int)])) w := madd64 x 0 c hc w
attribute [local go_sem] madd64 madd64z

theorem u64_not (x : Nat) (h : x < 18446744073709551616) : bits .xor .u64 (if IntKind.u64.signed = true then -1 else IntKind.u64.max) (x : Int) = ((W64 - 1 - x : Nat) : Int) := by
  show IntKind.u64.wrap ((BitVec.ofInt 64 18446744073709551615 ^^^ BitVec.ofInt 64 (x : Int)).toNat : Int) = _
  have e : BitVec.ofInt 64 18446744073709551615 = BitVec.allOnes 64 := by decide
  rw [e, BitVec.allOnes_xor, BitVec.toNat_not, BitVec.toNat_ofInt, IntKind.wrap_u64]
  unfold W64
  omega

/-- The words so far. -/
def mixW (V A : Nat → Nat) (k i : Nat) : Nat := if i < k then A i else V i

set_option maxHeartbeats 1000000 in
theorem add_any (B o B2 o2 : Nat) (V U : Nat → Nat) (w : World) (h : WideAt w B o V) (h2 : WideAt w B2 o2 U) (hne : B ≠ B2) (hV : wordB V) (hU : wordB U) :
    Calls Try.prog 93 #[.pointer (some ⟨B, o, none⟩), .pointer (some ⟨B2, o2, none⟩)] w fun en w' => (∃ v, en = .returned v) ∧ WideAt w' B o (addW V U) ∧ Chg w w' B o 72 := by
  have H := Lib.hid h; have H2 := Lib.hid h2; have HV := Lib.hid hV; have HU := Lib.hid hU
  clear h h2 hV hU
  go_enter Try.func93, Try.ntmps93
  go_wp2_with fail
  go_loopw [4, 8] (fun c t wr => ∃ k : Nat, t = .int .i64 k ∧ k ≤ 72 ∧ c = .int .u64 (carA V U k : Nat) ∧ WideAt wr B o (mixW V (addW V U) k) ∧ WideAt wr B2 o2 U ∧ Chg w wr B o 72) (fun _ t _ => 72 - (intOf t).toNat)
  case atStart => exact ⟨0, rfl, by omega, rfl, H.out.congr (fun i hi => by unfold mixW; rw [if_neg (by omega)]), H2.out, Chg.refl _ _ _ _⟩
  case round =>
    obtain ⟨k, rfl, hk, rfl, g, g2, hc⟩ := hrel
    have G := Lib.hid g; have G2 := Lib.hid g2; have CH := Lib.hid hc
    clear g g2 hc
    by_cases hk2 : k < 72
    · have h3 : (k : Int) < 72 := by omega
      have h0 : (0 : Int) ≤ (k : Int) := by omega
      have c1 := G.out.cell k hk2
      have c2 := G2.out.cell k hk2
      have hcar := carA_le (V := V) (U := U) k (fun i hi => ⟨HV.out i (by omega), HU.out i (by omega)⟩)
      have hst : carA V U (k + 1) = (V k + U k + carA V U k) / W64 := rfl
      have hsw : addW V U k = (V k + U k + carA V U k) % W64 := rfl
      rw [show mixW V (addW V U) k k = V k by unfold mixW; rw [if_neg (by omega)]] at c1
      obtain ⟨x, hx⟩ : ∃ x, x = V k := ⟨_, rfl⟩
      obtain ⟨y, hy⟩ : ∃ y, y = U k := ⟨_, rfl⟩
      obtain ⟨c, hc⟩ : ∃ c, c = carA V U k := ⟨_, rfl⟩
      rw [← hx] at c1; rw [← hy] at c2; rw [← hx, ← hy, ← hc] at hst hsw; rw [← hc] at hcar ⊢
      have HST := Lib.hid hst; have HSW := Lib.hid hsw; have HX := Lib.hid hx
      have z1 := G.out.lt; have z2 := G2.out.lt
      clear hx hy hc hst hsw
      go_wp2_with fail
      refine Reg.wp_region_rd (by kernel_rfl) (by kernel_rfl) (fun _ => ?_)
      repeat (refine Reg.rd_op rfl ?_; apply Exists.intro; apply And.intro; (intro w' hb; have hc := Reg.rd_cells hb; clear hb; go_simp; (try go_bits); first | done | (with_reducible exact rfl)); (intro _ a' ha'; simp only [Act.put, List.setIfInBounds_toArray, List.set_cons_zero, List.set_cons_succ] at ha'; subst ha'))
      refine Reg.rd_end (fun wz hb => ?_)
      have G3 := Lib.hid (G.out.below hb); have G4 := Lib.hid (G2.out.below hb); have CH2 := Lib.hid (CH.out.after z1 hb)
      clear c1 c2 z1 z2 hb
      have c1 := G3.out.cell k hk2
      rw [show mixW V (addW V U) k k = V k by unfold mixW; rw [if_neg (by omega)], ← HX.out] at c1
      have f1 := G3.out.fr (o + k)
      go_wp2_with fail
      go_big_region
      have G5 := Lib.hid (((G3.out.set (x := (x + y + c) % W64) hk2).below (Below.refl _ _).drew).congr (U := mixW V (addW V U) (k + 1)) (fun i hi => by
        unfold upd mixW
        by_cases e : i = k
        · rw [if_pos e, e, if_pos (by omega), HSW.out]
        · rw [if_neg e]
          by_cases e2 : i < k
          · rw [if_pos e2, if_pos (by omega)]
          · rw [if_neg e2, if_neg (by omega)]))
      have G6 := Lib.hid ((G4.out.other hne (o + k) (.int .u64 (((x + y + c) % W64 : Nat) : Int))).below (Below.refl _ _).drew)
      have CH3 := Lib.hid ((CH2.out.set (k := o + k) (by omega) (by omega) (.int .u64 (((x + y + c) % W64 : Nat) : Int))).drew)
      clear c1 f1
      go_wp2_with fail
      go_roundw
      case rel => exact ⟨k + 1, by go_num, by omega, by rw [HST.out]; simp, G5.out, G6.out, CH3.out⟩
      case measure => (simp [intOf] <;> omega)
    · obtain rfl : k = 72 := by omega
      have G5 := Lib.hid (G.out.congr (U := addW V U) (fun i hi => by unfold mixW; rw [if_pos hi]))
      go_wp2_with fail
      go_end0
      exact ⟨⟨_, rfl⟩, G5.out, CH.out⟩

set_option maxHeartbeats 1000000 in
theorem negate_any (B o : Nat) (V : Nat → Nat) (w : World) (h : WideAt w B o V) (hV : wordB V) :
    Calls Try.prog 92 #[.pointer (some ⟨B, o, none⟩)] w fun en w' => (∃ v, en = .returned v) ∧ WideAt w' B o (negW V) ∧ Chg w w' B o 72 := by
  have H := Lib.hid h; have HV := Lib.hid hV
  clear h hV
  go_enter Try.func92, Try.ntmps92
  go_wp2_with fail
  go_loopw [2, 6] (fun c t wr => ∃ k : Nat, t = .int .i64 k ∧ k ≤ 72 ∧ c = .int .u64 (carN V k : Nat) ∧ WideAt wr B o (mixW V (negW V) k) ∧ Chg w wr B o 72) (fun _ t _ => 72 - (intOf t).toNat)
  case atStart => exact ⟨0, rfl, by omega, rfl, H.out.congr (fun i hi => by unfold mixW; rw [if_neg (by omega)]), Chg.refl _ _ _ _⟩
  case round =>
    obtain ⟨k, rfl, hk, rfl, g, hc⟩ := hrel
    have G := Lib.hid g; have CH := Lib.hid hc
    clear g hc
    by_cases hk2 : k < 72
    · have h3 : (k : Int) < 72 := by omega
      have h0 : (0 : Int) ≤ (k : Int) := by omega
      have c1 := G.out.cell k hk2
      have hcar : carN V k ≤ 1 := carN_le k
      have hst : carN V (k + 1) = (W64 - 1 - V k + carN V k) / W64 := rfl
      have hsw : negW V k = (W64 - 1 - V k + carN V k) % W64 := rfl
      have hxl := HV.out k hk2
      rw [show mixW V (negW V) k k = V k by unfold mixW; rw [if_neg (by omega)]] at c1
      obtain ⟨x, hx⟩ : ∃ x, x = V k := ⟨_, rfl⟩
      obtain ⟨c, hc⟩ : ∃ c, c = carN V k := ⟨_, rfl⟩
      rw [← hx] at c1 hst hsw hxl; rw [← hc] at hst hsw hcar ⊢
      have HX := Lib.hid hx
      have z1 := G.out.lt
      unfold W64 at hxl
      have hinv := u64_not x hxl
      obtain ⟨y, hy⟩ : ∃ y, y = W64 - 1 - x := ⟨_, rfl⟩
      rw [← hy] at hinv hst hsw
      have HST := Lib.hid hst; have HSW := Lib.hid hsw
      clear hy hx hc hst hsw
      go_wp2_with fail
      refine Reg.wp_region_rd (by kernel_rfl) (by kernel_rfl) (fun _ => ?_)
      repeat (refine Reg.rd_op rfl ?_; apply Exists.intro; apply And.intro; (intro w' hb; have hc := Reg.rd_cells hb; clear hb; go_simp; (try go_bits); first | done | (with_reducible exact rfl)); (intro _ a' ha'; simp only [Act.put, List.setIfInBounds_toArray, List.set_cons_zero, List.set_cons_succ] at ha'; subst ha'))
      refine Reg.rd_end (fun wz hb => ?_)
      have G3 := Lib.hid (G.out.below hb); have CH2 := Lib.hid (CH.out.after z1 hb)
      clear c1 z1 hb
      have c1 := G3.out.cell k hk2
      rw [show mixW V (negW V) k k = V k by unfold mixW; rw [if_neg (by omega)], ← HX.out] at c1
      have f1 := G3.out.fr (o + k)
      go_wp2_with fail
      go_big_region
      have G5 := Lib.hid (((G3.out.set (x := (y + c) % W64) hk2).below (Below.refl _ _).drew).congr (U := mixW V (negW V) (k + 1)) (fun i hi => by
        unfold upd mixW
        by_cases e : i = k
        · rw [if_pos e, e, if_pos (by omega), HSW.out]
        · rw [if_neg e]
          by_cases e2 : i < k
          · rw [if_pos e2, if_pos (by omega)]
          · rw [if_neg e2, if_neg (by omega)]))
      have CH3 := Lib.hid ((CH2.out.set (k := o + k) (by omega) (by omega) (.int .u64 (((y + c) % W64 : Nat) : Int))).drew)
      clear c1 f1
      go_wp2_with fail
      go_roundw
      case rel => exact ⟨k + 1, by go_num, by omega, by rw [HST.out]; simp, G5.out, CH3.out⟩
      case measure => (simp [intOf] <;> omega)
    · obtain rfl : k = 72 := by omega
      have G5 := Lib.hid (G.out.congr (U := negW V) (fun i hi => by unfold mixW; rw [if_pos hi]))
      go_wp2_with fail
      go_end0
      exact ⟨⟨_, rfl⟩, G5.out, CH.out⟩
end Go.Proofs.Ytjakjnmfndfehaa

namespace Go.Proofs.Ytjakjnmfndfehaa
open Go.RowKit Go.Pst
set_option maxRecDepth 20000
set_option linter.unusedSimpArgs false
set_option linter.unusedVariables false

theorem maskN (a : Nat) (ha : a < 18446744073709551616) : bits .and .u64 (a : Int) 4294967295 = ((a % 4294967296 : Nat) : Int) := by
  have h := bits_and_u64_nat a 4294967295 ha (by omega)
  have e : a &&& 4294967295 = a % 4294967296 := Nat.and_two_pow_sub_one_eq_mod a 32
  rw [e] at h
  exact h
theorem divN (a : Nat) : (a : Int) / 4294967296 = ((a / 4294967296 : Nat) : Int) := by omega
theorem mulN (a b : Nat) : (a : Int) * (b : Int) = ((a * b : Nat) : Int) := (Int.natCast_mul a b).symm
theorem plusN (a b : Nat) : (a : Int) + (b : Int) = ((a + b : Nat) : Int) := (Int.natCast_add a b).symm
theorem wrapN (a : Nat) (ha : a < 18446744073709551616) : IntKind.u64.wrap (a : Int) = (a : Int) := by rw [IntKind.wrap_u64]; omega
theorem wrapM (a : Nat) : IntKind.u64.wrap (a : Int) = ((a % 18446744073709551616 : Nat) : Int) := by rw [IntKind.wrap_u64]; omega

set_option maxHeartbeats 1000000 in
theorem mul64_any (x y : Nat) (hx : x < 18446744073709551616) (hy : y < 18446744073709551616) (w : World) :
    Calls Try.prog 122 #[.int .u64 x, .int .u64 y] w fun e w' => e = .returned (.tuple #[.int .u64 ((x * y / 18446744073709551616 : Nat) : Int), .int .u64 ((x * y % 18446744073709551616 : Nat) : Int)]) ∧ w = w' := by
  obtain ⟨bd, bt, bw, hhi⟩ := Lib.mul64_hi x y hx hy
  have ba := Lib.half_mul_le (a := x / 4294967296) (b := y / 4294967296) (by omega) (by omega)
  have bb := Lib.half_mul_le (a := x / 4294967296) (b := y % 4294967296) (by omega) (by omega)
  have bc := Lib.half_mul_le (a := x % 4294967296) (b := y / 4294967296) (by omega) (by omega)
  have ba' : x / 4294967296 * (y / 4294967296) < 18446744073709551616 := by omega
  have bb' : x / 4294967296 * (y % 4294967296) < 18446744073709551616 := by omega
  have bc' : x % 4294967296 * (y / 4294967296) < 18446744073709551616 := by omega
  have bh1 : x / 4294967296 * (y / 4294967296) + (x / 4294967296 * (y % 4294967296) + x % 4294967296 * (y % 4294967296) / 4294967296) / 4294967296 < 18446744073709551616 := by omega
  have bh : x / 4294967296 * (y / 4294967296) + (x / 4294967296 * (y % 4294967296) + x % 4294967296 * (y % 4294967296) / 4294967296) / 4294967296 + ((x / 4294967296 * (y % 4294967296) + x % 4294967296 * (y % 4294967296) / 4294967296) % 4294967296 + x % 4294967296 * (y / 4294967296)) / 4294967296 < 18446744073709551616 := by omega
  go_enter Try.func122, Try.ntmps122
  go_wp2
  simp only [maskN x hx, maskN y hy, divN, mulN, plusN, wrapN _ bd, wrapN _ bb', wrapN _ bt, maskN _ bt, wrapN _ bc', wrapN _ bw, wrapN _ ba', wrapN _ bh1, wrapN _ bh, wrapM (x * y)]
  rw [hhi]
  go_ret2
  exact ⟨rfl, rfl⟩
end Go.Proofs.Ytjakjnmfndfehaa

namespace Go.Pst
open Go
set_option linter.unusedVariables false
set_option linter.unusedSimpArgs false

/-- The words of a number. -/
def natW (N i : Nat) : Nat := N / W64 ^ i % W64
theorem natW_lt (N i : Nat) : natW N i < W64 := Nat.mod_lt _ w64_pos
theorem wv_natW (N : Nat) : ∀ n, wv (natW N) n = N % W64 ^ n
  | 0 => by rw [Nat.pow_zero, Nat.mod_one]; rfl
  | n + 1 => by
    unfold wv
    rw [wv_natW N n]
    unfold natW
    rw [Nat.pow_succ, Nat.mod_mul, Nat.mul_comm]
theorem natW_is {N : Nat} : WIs (natW N) N :=
  ⟨fun i _ => natW_lt N i, by
    rw [wv_natW]
    have h : (toW (N : Int) : Int) = ((N % M72 : Nat) : Int) := by rw [toW_cast]; simp
    unfold M72 at h
    omega⟩
theorem WIs.congr {V U : Nat → Nat} {s : Int} (h : WIs V s) (hc : ∀ i, i < 72 → V i = U i) : WIs U s :=
  ⟨fun i hi => by rw [← hc i hi]; exact h.1 i hi, by rw [← wv_congr 72 hc]; exact h.2⟩
theorem natW_up (P d i : Nat) : natW (P * W64 ^ d) i = if i < d then 0 else natW P (i - d) := by
  unfold natW
  by_cases h : i < d
  · rw [if_pos h]
    obtain ⟨e, rfl⟩ : ∃ e, d = i + 1 + e := ⟨d - i - 1, by omega⟩
    rw [show P * W64 ^ (i + 1 + e) = P * W64 ^ e * W64 * W64 ^ i by rw [Nat.pow_add, Nat.pow_succ]; simp only [Nat.mul_assoc, Nat.mul_comm, Nat.mul_left_comm],
      Nat.mul_div_cancel _ (w64_pow i), Nat.mul_mod_left]
  · rw [if_neg h]
    obtain ⟨e, rfl⟩ : ∃ e, i = d + e := ⟨i - d, by omega⟩
    rw [show d + e - d = e by omega, Nat.pow_add, ← Nat.div_div_eq_div_mul, Nat.mul_div_cancel _ (w64_pow d)]
theorem natW_top {P n i : Nat} (h : P < W64 ^ n) (hi : n ≤ i) : natW P i = 0 := by
  unfold natW
  rw [Nat.div_eq_of_lt (Nat.lt_of_lt_of_le h (Nat.pow_le_pow_right w64_pos hi)), Nat.zero_mod]

theorem pow_split {n : Nat} (h : n ≤ 64) : W64 = 2 ^ n * 2 ^ (64 - n) := by rw [← Nat.pow_add, show n + (64 - n) = 64 by omega]; decide
/-- Two words shifted down. -/
theorem down_words {lo hi n : Nat} (hlo : lo < W64) (hhi : hi < W64) (h0 : 0 < n) (h1 : n < 64) :
    (lo / 2 ^ n ||| hi * 2 ^ (64 - n) % W64) = (lo + hi * W64) / 2 ^ n % W64 ∧ hi / 2 ^ n = (lo + hi * W64) / 2 ^ n / W64 := by
  have hp := Nat.two_pow_pos n
  have hq := Nat.two_pow_pos (64 - n)
  have hs := pow_split (n := n) (by omega)
  have hq2 : 2 ^ (64 - n) ≤ W64 := by rw [hs]; exact Nat.le_mul_of_pos_left _ hp
  have e1 : (lo + hi * W64) / 2 ^ n = lo / 2 ^ n + hi * 2 ^ (64 - n) := by
    rw [hs, show hi * (2 ^ n * 2 ^ (64 - n)) = hi * 2 ^ (64 - n) * 2 ^ n by simp only [Nat.mul_assoc, Nat.mul_comm, Nat.mul_left_comm], Nat.add_mul_div_right _ _ hp]
  have hl : lo / 2 ^ n < 2 ^ (64 - n) := Nat.div_lt_of_lt_mul (by rw [← hs]; exact hlo)
  have e2 : hi * 2 ^ (64 - n) % W64 = hi % 2 ^ n * 2 ^ (64 - n) := by
    conv => lhs; rw [hs, Nat.mul_mod_mul_right]
  constructor
  · rw [e1, e2, Nat.or_comm]
    rw [show hi % 2 ^ n * 2 ^ (64 - n) ||| lo / 2 ^ n = hi % 2 ^ n * 2 ^ (64 - n) + lo / 2 ^ n by
      rw [Nat.mul_comm, ← Nat.two_pow_add_eq_or_of_lt hl]]
    have hm : hi % 2 ^ n < 2 ^ n := Nat.mod_lt _ hp
    have e3 : hi * 2 ^ (64 - n) = hi / 2 ^ n * W64 + hi % 2 ^ n * 2 ^ (64 - n) := by
      conv => lhs; rw [← Nat.div_add_mod hi (2 ^ n), Nat.add_mul]
      rw [show 2 ^ n * (hi / 2 ^ n) * 2 ^ (64 - n) = hi / 2 ^ n * W64 by rw [hs]; simp only [Nat.mul_assoc, Nat.mul_comm, Nat.mul_left_comm]]
    have h4 : hi % 2 ^ n * 2 ^ (64 - n) + lo / 2 ^ n < W64 := by
      have := Nat.mul_le_mul_right (2 ^ (64 - n)) (show hi % 2 ^ n + 1 ≤ 2 ^ n by omega)
      rw [← hs, Nat.add_mul, Nat.one_mul] at this
      omega
    rw [e3, show lo / 2 ^ n + (hi / 2 ^ n * W64 + hi % 2 ^ n * 2 ^ (64 - n)) = hi % 2 ^ n * 2 ^ (64 - n) + lo / 2 ^ n + hi / 2 ^ n * W64 by omega, Nat.add_mul_mod_self_right, Nat.mod_eq_of_lt h4]
  · rw [e1]
    rw [hs, Nat.mul_comm (2 ^ n), ← Nat.div_div_eq_div_mul, Nat.add_mul_div_right _ _ hq, Nat.div_eq_of_lt hl, Nat.zero_add]
theorem down_words2 {lo hi n : Nat} (hlo : lo < W64) (hhi : hi < W64) (h0 : 64 ≤ n) : hi / 2 ^ (n - 64) = (lo + hi * W64) / 2 ^ n := by
  obtain ⟨m, rfl⟩ : ∃ m, n = 64 + m := ⟨n - 64, by omega⟩
  rw [show 64 + m - 64 = m by omega, Nat.pow_add, ← Nat.div_div_eq_div_mul, show (2 : Nat) ^ 64 = W64 from by decide, Nat.add_mul_div_right _ _ w64_pos, Nat.div_eq_of_lt hlo, Nat.zero_add]
/-- Two words shifted up, as three. -/
theorem up_words {lo hi n : Nat} (hlo : lo < W64) (hhi : hi < W64) (h1 : n < 64) :
    lo * 2 ^ n % W64 = natW ((lo + hi * W64) * 2 ^ n) 0 ∧ (lo / 2 ^ (64 - n) ||| hi * 2 ^ n % W64) = natW ((lo + hi * W64) * 2 ^ n) 1 ∧ hi / 2 ^ (64 - n) = natW ((lo + hi * W64) * 2 ^ n) 2 ∧
      (lo + hi * W64) * 2 ^ n < W64 ^ 3 := by
  have hp := Nat.two_pow_pos n
  have hq := Nat.two_pow_pos (64 - n)
  have hs := pow_split (n := n) (by omega)
  have eP : (lo + hi * W64) * 2 ^ n = lo * 2 ^ n + hi * 2 ^ n * W64 := by rw [Nat.add_mul]; simp only [Nat.mul_assoc, Nat.mul_comm, Nat.mul_left_comm]
  have hl : lo / 2 ^ (64 - n) < 2 ^ n := Nat.div_lt_of_lt_mul (by rw [Nat.mul_comm, ← hs]; exact hlo)
  have el : lo * 2 ^ n / W64 = lo / 2 ^ (64 - n) := by
    rw [hs, ← Nat.div_div_eq_div_mul, Nat.mul_div_cancel _ hp]
  have hn : 2 ^ n ≤ W64 := by rw [hs]; exact Nat.le_mul_of_pos_right _ hq
  have e2 : hi * 2 ^ n % W64 = hi % 2 ^ (64 - n) * 2 ^ n := by
    conv => lhs; rw [hs, Nat.mul_comm (2 ^ n), Nat.mul_mod_mul_right]
  have eD : (lo * 2 ^ n + hi * 2 ^ n * W64) / W64 = lo / 2 ^ (64 - n) + hi * 2 ^ n := by
    rw [Nat.add_mul_div_right _ _ w64_pos, el]
  refine ⟨?_, ?_, ?_, ?_⟩
  · unfold natW
    rw [eP, Nat.pow_zero, Nat.div_one, Nat.add_mul_mod_self_right]
  · unfold natW
    rw [eP, Nat.pow_one, eD, e2, Nat.or_comm]
    rw [show hi % 2 ^ (64 - n) * 2 ^ n ||| lo / 2 ^ (64 - n) = hi % 2 ^ (64 - n) * 2 ^ n + lo / 2 ^ (64 - n) by rw [Nat.mul_comm, ← Nat.two_pow_add_eq_or_of_lt hl]]
    have e3 : hi * 2 ^ n = hi / 2 ^ (64 - n) * W64 + hi % 2 ^ (64 - n) * 2 ^ n := by
      conv => lhs; rw [← Nat.div_add_mod hi (2 ^ (64 - n)), Nat.add_mul]
      rw [show 2 ^ (64 - n) * (hi / 2 ^ (64 - n)) * 2 ^ n = hi / 2 ^ (64 - n) * W64 by rw [hs]; simp only [Nat.mul_assoc, Nat.mul_comm, Nat.mul_left_comm]]
    have hm : hi % 2 ^ (64 - n) < 2 ^ (64 - n) := Nat.mod_lt _ hq
    have h4 : hi % 2 ^ (64 - n) * 2 ^ n + lo / 2 ^ (64 - n) < W64 := by
      have := Nat.mul_le_mul_right (2 ^ n) (show hi % 2 ^ (64 - n) + 1 ≤ 2 ^ (64 - n) by omega)
      rw [Nat.mul_comm (2 ^ (64 - n)), ← hs, Nat.add_mul, Nat.one_mul] at this
      omega
    rw [e3, show lo / 2 ^ (64 - n) + (hi / 2 ^ (64 - n) * W64 + hi % 2 ^ (64 - n) * 2 ^ n) = hi % 2 ^ (64 - n) * 2 ^ n + lo / 2 ^ (64 - n) + hi / 2 ^ (64 - n) * W64 by omega, Nat.add_mul_mod_self_right, Nat.mod_eq_of_lt h4]
  · unfold natW
    have hd : hi / 2 ^ (64 - n) ≤ hi := Nat.div_le_self _ _
    rw [eP, show (2 : Nat) = 1 + 1 from rfl, Nat.pow_add, Nat.pow_one, ← Nat.div_div_eq_div_mul, eD]
    have e4 : (lo / 2 ^ (64 - n) + hi * 2 ^ n) / W64 = hi / 2 ^ (64 - n) := by
      conv => lhs; rw [hs, ← Nat.div_div_eq_div_mul, Nat.add_mul_div_right _ _ hp, Nat.div_eq_of_lt hl, Nat.zero_add]
    rw [show (1 + 1) ^ (64 - n) = 2 ^ (64 - n) from rfl, e4, Nat.mod_eq_of_lt (by omega)]
  · rw [show W64 ^ 3 = W64 * W64 * W64 from by decide]
    have h5 : lo + hi * W64 < W64 * W64 := by
      have := Nat.mul_le_mul_right W64 (show hi + 1 ≤ W64 by omega)
      rw [Nat.add_mul, Nat.one_mul] at this
      omega
    exact Nat.mul_lt_mul_of_lt_of_le h5 hn w64_pos
theorem natW_two {N : Nat} (h : N < W64 * W64) (i : Nat) : natW N i = if i = 0 then N % W64 else if i = 1 then N / W64 else 0 := by
  by_cases h0 : i = 0
  · rw [if_pos h0, h0]; unfold natW; rw [Nat.pow_zero, Nat.div_one]
  · rw [if_neg h0]
    by_cases h1 : i = 1
    · rw [if_pos h1, h1]; unfold natW; rw [Nat.pow_one, Nat.mod_eq_of_lt (Nat.div_lt_of_lt_mul h)]
    · rw [if_neg h1]
      exact natW_top (n := 2) (by rw [show W64 ^ 2 = W64 * W64 from by decide]; exact h) (by omega)
end Go.Pst
namespace Go.Proofs.Ytjakjnmfndfehaa
open Go.RowKit Go.Pst
/-- An array of 72 words. -/
def wcells (V : Nat → Nat) : List Value := (List.range 72).map fun i => .int .u64 (V i : Nat)
theorem wcells_len (V : Nat → Nat) : (wcells V).length = 72 := by unfold wcells; rw [List.length_map, List.length_range]
theorem wcells_get (V : Nat → Nat) {i : Nat} (hi : i < 72) : (wcells V)[i]? = some (.int .u64 (V i : Nat)) := by
  unfold wcells; rw [List.getElem?_map, List.getElem?_range hi]; rfl
theorem wcells_congr {V U : Nat → Nat} (h : ∀ i, i < 72 → V i = U i) : wcells V = wcells U :=
  List.map_congr_left fun i hi => by rw [h i (List.mem_range.1 hi)]
theorem wcells_set (V : Nat → Nat) (k x : Nat) : (wcells V).toArray.setIfInBounds k (.int .u64 (x : Nat)) = (wcells (upd V k x)).toArray := by
  rw [List.setIfInBounds_toArray]
  congr 1
  apply List.ext_getElem?
  intro i
  rw [List.getElem?_set, wcells_len]
  by_cases hi : i < 72
  · rw [wcells_get _ hi, wcells_get _ hi]
    unfold upd
    by_cases hk : k = i
    · rw [if_pos hk, if_pos (by omega), if_pos hk.symm]
    · rw [if_neg hk, if_neg (Ne.symm hk)]
  · rw [List.getElem?_eq_none (l := wcells V) (by rw [wcells_len]; omega), List.getElem?_eq_none (l := wcells (upd V k x)) (by rw [wcells_len]; omega)]
    by_cases hk : k = i
    · rw [if_pos hk, if_neg (by omega)]
    · rw [if_neg hk]
theorem wcells_one (V : Nat → Nat) : ∀ v ∈ wcells V, v.oneCell' = true := fun v hv => by
  unfold wcells at hv
  obtain ⟨i, _, rfl⟩ := List.mem_map.1 hv
  rfl
theorem wcells_zero : Try.zeroCells82 = (wcells fun _ => 0).toArray := by kernel_rfl
end Go.Proofs.Ytjakjnmfndfehaa

namespace Go.Proofs.Ytjakjnmfndfehaa
open Go.RowKit Go.Pst
set_option maxRecDepth 20000
set_option linter.unusedSimpArgs false
set_option linter.unusedVariables false

theorem info72 : (Try.prog.info? 82).map (·.size) = some (wcells fun _ => 0).toArray.size := by kernel_rfl
theorem info72' (V : Nat → Nat) : (Try.prog.info? 82).map (·.size) = some (wcells V).toArray.size := by
  rw [info72]; simp [wcells]

theorem below_setRow {w w' : World} {B g : Nat} {cs : Array Value} (h : Below B w w') (hg : B ≤ g) : Below B w (w'.setRow g cs) :=
  ⟨h.os, h.tape, h.output, by rw [setRow_size]; exact h.size, fun k hk => by rw [setRow_other w' g k cs (by omega)]; exact h.block k hk⟩

def ProdPost (N : Nat) (w : World) (en : Ending) (w' : World) : Prop := en = .returned (.agg (wcells (natW N)).toArray) ∧ Below w.heap.size w w'

set_option maxHeartbeats 1000000 in
theorem product_low (a b n lo hi : Nat) (w : World) (hm : ∀ w, Calls Try.prog 122 #[.int .u64 a, .int .u64 b] w fun e w' => e = .returned (.tuple #[.int .u64 hi, .int .u64 lo]) ∧ w = w')
    (hlo : lo < W64) (hhi : hi < W64) (hn1 : 0 < n) (hn2 : n < 64) :
    Calls Try.prog 107 #[.int .u64 a, .int .u64 b, .int .i64 (-(n : Int))] w (ProdPost ((lo + hi * W64) / 2 ^ n) w) := by
  have HM := Lib.hid hm
  clear hm
  obtain ⟨d1, d2⟩ := down_words hlo hhi hn1 hn2
  have hNlt : (lo + hi * W64) / 2 ^ n < W64 * W64 := Nat.lt_of_le_of_lt (Nat.div_le_self _ _) (by
    have := Nat.mul_le_mul_right W64 (show hi + 1 ≤ W64 by omega)
    rw [Nat.add_mul, Nat.one_mul] at this
    omega)
  have h1 : lo < 18446744073709551616 := hlo
  have h2 : -(n : Int) < 0 := by omega
  have h3 : (0 : Int) ≤ (n : Int) := by omega
  have hor : bits .or .u64 ((lo : Int) / 2 ^ n) (IntKind.u64.wrap ((hi : Int) * 2 ^ (64 - n))) = (((lo + hi * W64) / 2 ^ n % W64 : Nat) : Int) := by
    rw [← d1]
    have e1 : ((lo : Int) / 2 ^ n) = ((lo / 2 ^ n : Nat) : Int) := by rw [Int.natCast_ediv, Int.natCast_pow]; rfl
    have e2 : IntKind.u64.wrap ((hi : Int) * 2 ^ (64 - n)) = ((hi * 2 ^ (64 - n) % W64 : Nat) : Int) := by
      rw [show ((hi : Int) * 2 ^ (64 - n)) = ((hi * 2 ^ (64 - n) : Nat) : Int) by rw [Int.natCast_mul, Int.natCast_pow]; rfl]
      exact wrapM _
    rw [e1, e2]
    exact or64 (Nat.lt_of_le_of_lt (Nat.div_le_self _ _) hlo) (Nat.mod_lt _ w64_pos)
  have hdv : ((hi : Int) / 2 ^ n) = (((lo + hi * W64) / 2 ^ n / W64 : Nat) : Int) := by
    rw [← d2, Int.natCast_ediv, Int.natCast_pow]; rfl
  have HN := Lib.hid (natW_two hNlt)
  obtain ⟨N, hN⟩ : ∃ N, N = (lo + hi * W64) / 2 ^ n := ⟨_, rfl⟩
  rw [← hN] at hor hdv HN ⊢
  obtain ⟨x0, hx0⟩ : ∃ x, x = N % W64 := ⟨_, rfl⟩
  obtain ⟨x1, hx1⟩ : ∃ x, x = N / W64 := ⟨_, rfl⟩
  rw [← hx0] at hor
  rw [← hx1] at hdv
  have HX0 := Lib.hid hx0; have HX1 := Lib.hid hx1
  clear d1 d2 hNlt hN hx0 hx1
  go_enter Try.func107, Try.ntmps107
  go_wp2_with fail
  refine (HM.out _).mono ?_
  rintro en w' ⟨rfl, rfl⟩
  go_wp2_with (first
    | (with_reducible refine wpList_load_row rfl 82 _ rfl (w.heap.size + 1) rfl 82 (wcells (upd (upd (fun _ => 0) 0 x0) 1 x1)).toArray (0, 0) _ (by rw [← wcells_set, ← wcells_set, ← wcells_zero]; exact heap_alloc2_new w _ _) Try.underlying82 rfl (info72' _) ?_)
    | (with_reducible refine wpList_store_row rfl 82 _ _ rfl w.heap.size (wcells (upd (upd (fun _ => 0) 0 x0) 1 x1)).toArray rfl rfl 82 (wcells fun _ => 0).toArray (by rw [← wcells_zero]; exact heap_alloc2_old w _ _) (info72' _) (by simp [wcells]) (all_oneCell_toArray (wcells_one _)) ?_))
  refine bodyPost_ret (results_cell_row Try.results107 _ _ w.heap.size 82 (wcells (upd (upd (fun _ => 0) 0 x0) 1 x1)).toArray (0, 0) _ rfl
    (setRow_heap _ _ (wcells fun _ => 0).toArray _ _ _ (by rw [← wcells_zero]; exact heap_alloc2_old w _ _)) Try.underlying82 rfl (info72' _)) rfl ⟨?_, ?_⟩
  · rw [wcells_congr (U := natW N) (fun i hi => by
      rw [HN.out i, ← HX0.out, ← HX1.out]
      unfold upd
      by_cases h0 : i = 0
      · rw [if_neg (by omega), if_pos h0, if_pos h0]
      · by_cases h1 : i = 1
        · rw [if_pos h1, if_neg h0, if_pos h1]
        · rw [if_neg h1, if_neg h0, if_neg h0, if_neg h1])]
  · exact below_setRow (((Below.refl _ _).alloc (Nat.le_refl _) _).alloc (by simp) _) (Nat.le_refl _)

theorem set4 (A : Array Value) (x y n z : Value) : (((A.setIfInBounds 0 x).setIfInBounds 1 y).setIfInBounds 0 n).setIfInBounds 1 z = (A.setIfInBounds 0 n).setIfInBounds 1 z := by
  apply Array.ext_getElem?
  intro i
  simp only [Array.getElem?_setIfInBounds, Array.size_setIfInBounds]
  by_cases h : 1 = i
  · simp [h]
  · by_cases h' : 0 = i
    · simp [h, h']
    · simp [h, h']

set_option maxHeartbeats 1000000 in
theorem product_low2 (a b n lo hi : Nat) (w : World) (hm : ∀ w, Calls Try.prog 122 #[.int .u64 a, .int .u64 b] w fun e w' => e = .returned (.tuple #[.int .u64 hi, .int .u64 lo]) ∧ w = w')
    (hlo : lo < W64) (hhi : hi < W64) (hn1 : 64 ≤ n) (hn2 : n < 128) :
    Calls Try.prog 107 #[.int .u64 a, .int .u64 b, .int .i64 (-(n : Int))] w (ProdPost ((lo + hi * W64) / 2 ^ n) w) := by
  have HM := Lib.hid hm
  clear hm
  have d1 := down_words2 hlo hhi hn1
  have hNlt : (lo + hi * W64) / 2 ^ n < W64 := by rw [← d1]; exact Nat.lt_of_le_of_lt (Nat.div_le_self _ _) hhi
  have h2 : -(n : Int) < 0 := by omega
  have h3 : (0 : Int) ≤ (n : Int) := by omega
  have hdv : ((hi : Int) / 2 ^ (n - 64)) = (((lo + hi * W64) / 2 ^ n : Nat) : Int) := by
    rw [← d1, Int.natCast_ediv, Int.natCast_pow]; rfl
  have HN := Lib.hid (natW_two (Nat.lt_of_lt_of_le hNlt (Nat.le_mul_of_pos_right _ w64_pos)))
  have HNL := Lib.hid hNlt
  obtain ⟨N, hN⟩ : ∃ N, N = (lo + hi * W64) / 2 ^ n := ⟨_, rfl⟩
  rw [← hN] at hdv HN HNL ⊢
  clear d1 hN hNlt
  go_enter Try.func107, Try.ntmps107
  go_wp2_with fail
  refine (HM.out _).mono ?_
  rintro en w' ⟨rfl, rfl⟩
  go_wp2_with (first
    | (with_reducible refine wpList_load_row rfl 82 _ rfl (w.heap.size + 1) rfl 82 (wcells (upd (upd (fun _ => 0) 0 N) 1 0)).toArray (0, 0) _ (by rw [heap_alloc2_new, set4, wcells_zero, wcells_set]; exact congrArg (fun c => some (Obj.cells c 82 (0, 0))) (wcells_set _ 1 0)) Try.underlying82 rfl (info72' _) ?_)
    | (with_reducible refine wpList_store_row rfl 82 _ _ rfl w.heap.size (wcells (upd (upd (fun _ => 0) 0 N) 1 0)).toArray rfl rfl 82 (wcells fun _ => 0).toArray (by rw [← wcells_zero]; exact heap_alloc2_old w _ _) (info72' _) (by simp [wcells]) (all_oneCell_toArray (wcells_one _)) ?_))
  refine bodyPost_ret (results_cell_row Try.results107 _ _ w.heap.size 82 (wcells (upd (upd (fun _ => 0) 0 N) 1 0)).toArray (0, 0) _ rfl
    (setRow_heap _ _ (wcells fun _ => 0).toArray _ _ _ (by rw [← wcells_zero]; exact heap_alloc2_old w _ _)) Try.underlying82 rfl (info72' _)) rfl ⟨?_, ?_⟩
  · rw [wcells_congr (U := natW N) (fun i hi => by
      rw [HN.out i, Nat.mod_eq_of_lt HNL.out, Nat.div_eq_of_lt HNL.out]
      unfold upd
      by_cases h0 : i = 0
      · rw [if_neg (by omega), if_pos h0, if_pos h0]
      · by_cases h1 : i = 1
        · rw [if_pos h1, if_neg h0, if_pos h1]
        · rw [if_neg h1, if_neg h0, if_neg h0, if_neg h1])]
  · exact below_setRow (((Below.refl _ _).alloc (Nat.le_refl _) _).alloc (by simp) _) (Nat.le_refl _)

/-- Three words at a place. -/
def plW (P d k i : Nat) : Nat := if d ≤ i ∧ i < d + k then natW P (i - d) else 0


set_option maxHeartbeats 2000000 in
theorem product_high (a b p lo hi : Nat) (w : World) (hm : ∀ w, Calls Try.prog 122 #[.int .u64 a, .int .u64 b] w fun e w' => e = .returned (.tuple #[.int .u64 hi, .int .u64 lo]) ∧ w = w')
    (hlo : lo < W64) (hhi : hi < W64) (hp : p < 65536) :
    Calls Try.prog 107 #[.int .u64 a, .int .u64 b, .int .i64 p] w (ProdPost ((lo + hi * W64) * 2 ^ p) w) := by
  have HM := Lib.hid hm
  clear hm
  obtain ⟨n, hn⟩ : ∃ n, n = p % 64 := ⟨_, rfl⟩
  obtain ⟨d, hd⟩ : ∃ d, d = p / 64 := ⟨_, rfl⟩
  have hn2 : n < 64 := by omega
  have hd2 : d < 1024 := by omega
  have e1 : (p : Int) / 64 = (d : Int) := by omega
  have e2 : (p : Int) % 64 = (n : Int) := by omega
  have eN : (lo + hi * W64) * 2 ^ p = (lo + hi * W64) * 2 ^ n * W64 ^ d := by
    rw [w64_two, Nat.mul_assoc, ← Nat.pow_add, show n + 64 * d = p by omega]
  obtain ⟨u0, u1, u2, u3⟩ := up_words hlo hhi hn2
  have hl0 : IntKind.u64.wrap ((lo : Int) * 2 ^ n) = ((lo * 2 ^ n % W64 : Nat) : Int) := by
    rw [show ((lo : Int) * 2 ^ n) = ((lo * 2 ^ n : Nat) : Int) by rw [Int.natCast_mul, Int.natCast_pow]; rfl]; exact wrapM _
  have hl1 : bits .or .u64 ((lo : Int) / 2 ^ (64 - n)) (IntKind.u64.wrap ((hi : Int) * 2 ^ n)) = ((lo / 2 ^ (64 - n) ||| hi * 2 ^ n % W64 : Nat) : Int) := by
    rw [show ((hi : Int) * 2 ^ n) = ((hi * 2 ^ n : Nat) : Int) by rw [Int.natCast_mul, Int.natCast_pow]; rfl, wrapM, show ((lo : Int) / 2 ^ (64 - n)) = ((lo / 2 ^ (64 - n) : Nat) : Int) by rw [Int.natCast_ediv, Int.natCast_pow]; rfl]
    exact or64 (Nat.lt_of_le_of_lt (Nat.div_le_self _ _) hlo) (Nat.mod_lt _ (by omega))
  have hl2 : (hi : Int) / 2 ^ (64 - n) = ((hi / 2 ^ (64 - n) : Nat) : Int) := by rw [Int.natCast_ediv, Int.natCast_pow]; rfl
  rw [u0] at hl0; rw [u1] at hl1; rw [u2] at hl2
  rw [eN]
  obtain ⟨P, hP⟩ : ∃ P, P = (lo + hi * W64) * 2 ^ n := ⟨_, rfl⟩
  rw [← hP] at hl0 hl1 hl2 u3 ⊢
  obtain ⟨l0, g0⟩ : ∃ l, l = natW P 0 := ⟨_, rfl⟩
  obtain ⟨l1, g1⟩ : ∃ l, l = natW P 1 := ⟨_, rfl⟩
  obtain ⟨l2, g2⟩ : ∃ l, l = natW P 2 := ⟨_, rfl⟩
  rw [← g0] at hl0; rw [← g1] at hl1; rw [← g2] at hl2
  have HL0 := Lib.hid g0; have HL1 := Lib.hid g1; have HL2 := Lib.hid g2
  have HP3 := Lib.hid u3
  clear hn hd eN u0 u1 u2 u3 hP g0 g1 g2
  have h0 : (0 : Int) ≤ (p : Int) := by omega
  have h1 : (0 : Int) ≤ (n : Int) := by omega
  have hd0 : (0 : Int) ≤ (d : Int) := by omega
  go_enter Try.func107, Try.ntmps107
  go_wp2_with fail
  refine (HM.out _).mono ?_
  rintro en w' ⟨rfl, rfl⟩
  go_wp2_with fail
  go_loopw [71] (fun t wr => ∃ k : Nat, t = .int .i64 k ∧ k ≤ 3 ∧ wr.heap[w.heap.size]? = some (.cells (wcells fun _ => 0).toArray 82 (0, 0)) ∧ wr.heap[w.heap.size + 1]? = some (.cells (wcells (plW P d k)).toArray 82 (0, 0)) ∧ Below w.heap.size w wr) (fun t _ => 3 - (intOf t).toNat)
  case atStart =>
    refine ⟨0, rfl, by omega, ?_, ?_, (((Below.refl _ _).alloc (Nat.le_refl _) _).alloc (by simp) _).alloc (by simp; omega) _⟩
    · rw [heap_alloc_old _ _ (by simp; omega), heap_alloc2_old, wcells_zero]
    · rw [heap_alloc_old _ _ (by simp), heap_alloc2_new, wcells_zero, wcells_congr (U := plW P d 0) (fun i hi => by unfold plW; rw [if_neg (by omega)])]
  case round =>
    obtain ⟨k, rfl, hk, ha, hb, hw⟩ := hrel
    have HA := Lib.hid ha; have HB := Lib.hid hb; have BW := Lib.hid hw
    clear ha hb hw
    obtain rfl | rfl | rfl | rfl : k = 0 ∨ k = 1 ∨ k = 2 ∨ k = 3 := by omega
    ·
      have ix : ∀ w, (Instr.index 122 (.agg #[.int .u64 (l0 : Nat), .int .u64 (l1 : Nat), .int .u64 (l2 : Nat)]) (.int .i64 0)).run Try.prog w = .ok (.int .u64 (l0 : Nat)) w := fun _ => by kernel_rfl
      have h3 : (0 : Int) < 3 := by omega
      by_cases hin : d < 72
      · have hin' : (d : Int) < 72 := by omega
        have c := cell_of_row wr (w.heap.size + 1) (d) _ _ _ HB.out
        have f := frozen_of_row wr (w.heap.size + 1) (d) _ _ HB.out
        rw [List.getElem?_toArray, wcells_get _ hin] at c
        have z := BW.out.size
        go_wp2_with fail
        have HB2 : Hid ((wr.setCell ⟨w.heap.size + 1, d, none⟩ (.int .u64 (l0 : Nat))).heap[w.heap.size + 1]? = some (.cells (wcells (plW P d (0 + 1))).toArray 82 (0, 0))) := Lib.hid (by
          rw [heap_setCell_same _ _ _ _ _ _ HB.out, wcells_set]
          rw [wcells_congr (U := plW P d (0 + 1)) (fun i hi => by
            unfold upd plW
            by_cases e : i = d
            · rw [if_pos e, if_pos (by omega), e, show d - d = 0 by omega]; exact HL0.out
            · rw [if_neg e]
              by_cases e2 : d ≤ i ∧ i < d + 0
              · rw [if_pos e2, if_pos (by omega)]
              · rw [if_neg e2, if_neg (by omega)])])
        have HA2 : Hid ((wr.setCell ⟨w.heap.size + 1, d, none⟩ (.int .u64 (l0 : Nat))).heap[w.heap.size]? = some (.cells (wcells fun _ => 0).toArray 82 (0, 0))) := Lib.hid (by
          rw [heap_setCell_other _ _ _ _ (by show w.heap.size ≠ w.heap.size + 1; omega)]; exact HA.out)
        have BW2 := Lib.hid (BW.out.setCell (p := ⟨w.heap.size + 1, d, none⟩) (by show w.heap.size ≤ w.heap.size + 1; omega) (.int .u64 (l0 : Nat)))
        clear c f z
        go_roundw
        case rel => exact ⟨0 + 1, by go_num, by omega, HA2.out, HB2.out, BW2.out⟩
        case measure => (simp [intOf] <;> omega)
      · have hin' : ¬ (d : Int) < 72 := by omega
        have HB2 : Hid (wr.heap[w.heap.size + 1]? = some (.cells (wcells (plW P d (0 + 1))).toArray 82 (0, 0))) := Lib.hid (by
          rw [HB.out, wcells_congr (U := plW P d (0 + 1)) (fun i hi => by
            unfold plW
            by_cases e2 : d ≤ i ∧ i < d + 0
            · rw [if_pos e2, if_pos (by omega)]
            · rw [if_neg e2, if_neg (by omega)])])
        go_wp2_with fail
        go_roundw
        case rel => exact ⟨0 + 1, by go_num, by omega, HA.out, HB2.out, BW.out⟩
        case measure => (simp [intOf] <;> omega)
    ·
      have ix : ∀ w, (Instr.index 122 (.agg #[.int .u64 (l0 : Nat), .int .u64 (l1 : Nat), .int .u64 (l2 : Nat)]) (.int .i64 1)).run Try.prog w = .ok (.int .u64 (l1 : Nat)) w := fun _ => by kernel_rfl
      have h3 : (1 : Int) < 3 := by omega
      by_cases hin : (d + 1) < 72
      · have hin' : (d : Int) + 1 < 72 := by omega
        have c := cell_of_row wr (w.heap.size + 1) ((d + 1)) _ _ _ HB.out
        have f := frozen_of_row wr (w.heap.size + 1) ((d + 1)) _ _ HB.out
        rw [List.getElem?_toArray, wcells_get _ hin] at c
        have z := BW.out.size
        go_wp2_with fail
        have HB2 : Hid ((wr.setCell ⟨w.heap.size + 1, (d + 1), none⟩ (.int .u64 (l1 : Nat))).heap[w.heap.size + 1]? = some (.cells (wcells (plW P d (1 + 1))).toArray 82 (0, 0))) := Lib.hid (by
          rw [heap_setCell_same _ _ _ _ _ _ HB.out, wcells_set]
          rw [wcells_congr (U := plW P d (1 + 1)) (fun i hi => by
            unfold upd plW
            by_cases e : i = (d + 1)
            · rw [if_pos e, if_pos (by omega), e, show (d + 1) - d = 1 by omega]; exact HL1.out
            · rw [if_neg e]
              by_cases e2 : d ≤ i ∧ i < d + 1
              · rw [if_pos e2, if_pos (by omega)]
              · rw [if_neg e2, if_neg (by omega)])])
        have HA2 : Hid ((wr.setCell ⟨w.heap.size + 1, (d + 1), none⟩ (.int .u64 (l1 : Nat))).heap[w.heap.size]? = some (.cells (wcells fun _ => 0).toArray 82 (0, 0))) := Lib.hid (by
          rw [heap_setCell_other _ _ _ _ (by show w.heap.size ≠ w.heap.size + 1; omega)]; exact HA.out)
        have BW2 := Lib.hid (BW.out.setCell (p := ⟨w.heap.size + 1, (d + 1), none⟩) (by show w.heap.size ≤ w.heap.size + 1; omega) (.int .u64 (l1 : Nat)))
        clear c f z
        go_roundw
        case rel => exact ⟨1 + 1, by go_num, by omega, HA2.out, HB2.out, BW2.out⟩
        case measure => (simp [intOf] <;> omega)
      · have hin' : ¬ (d : Int) + 1 < 72 := by omega
        have HB2 : Hid (wr.heap[w.heap.size + 1]? = some (.cells (wcells (plW P d (1 + 1))).toArray 82 (0, 0))) := Lib.hid (by
          rw [HB.out, wcells_congr (U := plW P d (1 + 1)) (fun i hi => by
            unfold plW
            by_cases e2 : d ≤ i ∧ i < d + 1
            · rw [if_pos e2, if_pos (by omega)]
            · rw [if_neg e2, if_neg (by omega)])])
        go_wp2_with fail
        go_roundw
        case rel => exact ⟨1 + 1, by go_num, by omega, HA.out, HB2.out, BW.out⟩
        case measure => (simp [intOf] <;> omega)
    ·
      have ix : ∀ w, (Instr.index 122 (.agg #[.int .u64 (l0 : Nat), .int .u64 (l1 : Nat), .int .u64 (l2 : Nat)]) (.int .i64 2)).run Try.prog w = .ok (.int .u64 (l2 : Nat)) w := fun _ => by kernel_rfl
      have h3 : (2 : Int) < 3 := by omega
      by_cases hin : (d + 2) < 72
      · have hin' : (d : Int) + 2 < 72 := by omega
        have c := cell_of_row wr (w.heap.size + 1) ((d + 2)) _ _ _ HB.out
        have f := frozen_of_row wr (w.heap.size + 1) ((d + 2)) _ _ HB.out
        rw [List.getElem?_toArray, wcells_get _ hin] at c
        have z := BW.out.size
        go_wp2_with fail
        have HB2 : Hid ((wr.setCell ⟨w.heap.size + 1, (d + 2), none⟩ (.int .u64 (l2 : Nat))).heap[w.heap.size + 1]? = some (.cells (wcells (plW P d (2 + 1))).toArray 82 (0, 0))) := Lib.hid (by
          rw [heap_setCell_same _ _ _ _ _ _ HB.out, wcells_set]
          rw [wcells_congr (U := plW P d (2 + 1)) (fun i hi => by
            unfold upd plW
            by_cases e : i = (d + 2)
            · rw [if_pos e, if_pos (by omega), e, show (d + 2) - d = 2 by omega]; exact HL2.out
            · rw [if_neg e]
              by_cases e2 : d ≤ i ∧ i < d + 2
              · rw [if_pos e2, if_pos (by omega)]
              · rw [if_neg e2, if_neg (by omega)])])
        have HA2 : Hid ((wr.setCell ⟨w.heap.size + 1, (d + 2), none⟩ (.int .u64 (l2 : Nat))).heap[w.heap.size]? = some (.cells (wcells fun _ => 0).toArray 82 (0, 0))) := Lib.hid (by
          rw [heap_setCell_other _ _ _ _ (by show w.heap.size ≠ w.heap.size + 1; omega)]; exact HA.out)
        have BW2 := Lib.hid (BW.out.setCell (p := ⟨w.heap.size + 1, (d + 2), none⟩) (by show w.heap.size ≤ w.heap.size + 1; omega) (.int .u64 (l2 : Nat)))
        clear c f z
        go_roundw
        case rel => exact ⟨2 + 1, by go_num, by omega, HA2.out, HB2.out, BW2.out⟩
        case measure => (simp [intOf] <;> omega)
      · have hin' : ¬ (d : Int) + 2 < 72 := by omega
        have HB2 : Hid (wr.heap[w.heap.size + 1]? = some (.cells (wcells (plW P d (2 + 1))).toArray 82 (0, 0))) := Lib.hid (by
          rw [HB.out, wcells_congr (U := plW P d (2 + 1)) (fun i hi => by
            unfold plW
            by_cases e2 : d ≤ i ∧ i < d + 2
            · rw [if_pos e2, if_pos (by omega)]
            · rw [if_neg e2, if_neg (by omega)])])
        go_wp2_with fail
        go_roundw
        case rel => exact ⟨2 + 1, by go_num, by omega, HA.out, HB2.out, BW.out⟩
        case measure => (simp [intOf] <;> omega)
    · go_wp2_with (first
        | (with_reducible refine wpList_load_row rfl 82 _ rfl (w.heap.size + 1) rfl 82 (wcells (plW P d 3)).toArray (0, 0) _ HB.out Try.underlying82 rfl (info72' _) ?_)
        | (with_reducible refine wpList_store_row rfl 82 _ _ rfl w.heap.size (wcells (plW P d 3)).toArray rfl rfl 82 (wcells fun _ => 0).toArray HA.out (info72' _) (by simp [wcells]) (all_oneCell_toArray (wcells_one _)) ?_))
      refine bodyPost_ret (results_cell_row Try.results107 _ _ w.heap.size 82 (wcells (plW P d 3)).toArray (0, 0) _ rfl
        (setRow_heap _ _ (wcells fun _ => 0).toArray _ _ _ HA.out) Try.underlying82 rfl (info72' _)) rfl ⟨?_, below_setRow BW.out (Nat.le_refl _)⟩
      rw [wcells_congr (U := natW (P * W64 ^ d)) (fun i hi => by
        rw [natW_up]
        unfold plW
        by_cases h : i < d
        · rw [if_pos h, if_neg (by omega)]
        · rw [if_neg h]
          by_cases h2 : i < d + 3
          · rw [if_pos (by omega)]
          · rw [if_neg (by omega), natW_top HP3.out (by omega)])]
end Go.Proofs.Ytjakjnmfndfehaa

namespace Go.Pst
open Go Ieee
set_option linter.unusedVariables false
set_option linter.unusedSimpArgs false

/-- A whole number times a power of two, what goes below 1 left off. -/
def pwZ (M : Nat) (q : Int) : Nat := if q < 0 then M / 2 ^ (-q).toNat else M * 2 ^ q.toNat
theorem pwZ_mul (m t : Nat) (q : Int) (h : 0 ≤ (t : Int) + q) : pwZ (m * 2 ^ t) q = m * 2 ^ ((t : Int) + q).toNat := by
  unfold pwZ
  by_cases hq : q < 0
  · rw [if_pos hq]
    obtain ⟨d, hd⟩ : ∃ d : Nat, (d : Int) = (t : Int) + q := ⟨((t : Int) + q).toNat, by omega⟩
    rw [show t = d + (-q).toNat by omega, Nat.pow_add, ← Nat.mul_assoc, Nat.mul_div_cancel _ (Nat.two_pow_pos _)]
    congr 2; omega
  · rw [if_neg hq, Nat.mul_assoc, ← Nat.pow_add]; congr 2; omega
theorem pwZ_zero (q : Int) : pwZ 0 q = 0 := by unfold pwZ; split <;> simp

/-- Digits and power, as Frexp has them. -/
def frM (b : Nat) : Nat := if mantB b = 0 then 0 else nM b
def frE (b : Nat) : Int := if mantB b = 0 then 0 else lgB b + 1
theorem frM_lt (b : Nat) : frM b < 2 ^ 53 := by
  unfold frM; split
  · decide
  · exact (nM_bd ‹_›).2
theorem place_fin {b : Nat} (h : finB b) : placeB b ≤ 2045 := by
  obtain ⟨h1, h2, h3⟩ := h
  unfold placeB expF
  have : b / 4503599627370496 % 2048 ≠ 2047 := by
    intro e
    unfold nan64 at h2; unfold infB at h3
    simp only [decide_eq_false_iff_not] at h2 h3
    omega
  omega
theorem frE_bd {b : Nat} (h : finB b) : -1074 ≤ frE b ∧ frE b ≤ 1024 := by
  unfold frE
  split
  · omega
  · rename_i h0
    have := log_lt h0
    have := place_fin h
    unfold lgB; omega
theorem frM_one {b : Nat} (h : finB b) : pwZ (frM b) (1074 + (frE b - 53)) = magN b := by
  unfold frM frE magN
  by_cases h0 : mantB b = 0
  · rw [if_pos h0, h0, pwZ_zero, Nat.zero_mul]
  · rw [if_neg h0, if_neg h0]
    have h1 := log_lt h0
    unfold nM lgB
    rw [pwZ_mul _ _ _ (by omega)]
    congr 2; omega
theorem frM_two {a b : Nat} (ha : finB a) (hb : finB b) : pwZ (frM a * frM b) (2148 + (frE a - 53) + (frE b - 53)) = magN a * magN b := by
  unfold frM frE magN
  by_cases h0 : mantB a = 0
  · rw [if_pos h0, h0, Nat.zero_mul, pwZ_zero, Nat.zero_mul, Nat.zero_mul]
  · by_cases h1 : mantB b = 0
    · rw [if_pos h1, h1, Nat.mul_zero, pwZ_zero, Nat.zero_mul, Nat.mul_zero]
    · rw [if_neg h0, if_neg h1, if_neg h0, if_neg h1]
      have g0 := log_lt h0
      have g1 := log_lt h1
      unfold nM lgB
      rw [show mantB a * 2 ^ (52 - (mantB a).log2) * (mantB b * 2 ^ (52 - (mantB b).log2)) = mantB a * mantB b * 2 ^ ((52 - (mantB a).log2) + (52 - (mantB b).log2)) by
        rw [Nat.pow_add]; simp only [Nat.mul_assoc, Nat.mul_comm, Nat.mul_left_comm]]
      rw [pwZ_mul _ _ _ (by omega)]
      rw [show mantB a * 2 ^ placeB a * (mantB b * 2 ^ placeB b) = mantB a * mantB b * 2 ^ (placeB a + placeB b) by
        rw [Nat.pow_add]; simp only [Nat.mul_assoc, Nat.mul_comm, Nat.mul_left_comm]]
      congr 2; omega

theorem abs_fin {b : Nat} (h : finB b) : finB (b % 9223372036854775808) ∧ negB (b % 9223372036854775808) = false ∧ mantB (b % 9223372036854775808) = mantB b ∧ placeB (b % 9223372036854775808) = placeB b := by
  obtain ⟨h1, h2, h3⟩ := h
  refine ⟨⟨by omega, ?_, ?_⟩, ?_, ?_, ?_⟩
  · unfold nan64 at *; rw [Nat.mod_mod]; exact h2
  · unfold infB at *; rw [Nat.mod_mod]; exact h3
  · unfold negB; exact decide_eq_false (by omega)
  · unfold mantB expF
    rw [show b % 9223372036854775808 / 4503599627370496 % 2048 = b / 4503599627370496 % 2048 by omega, show b % 9223372036854775808 % 4503599627370496 = b % 4503599627370496 by omega]
  · unfold placeB expF
    rw [show b % 9223372036854775808 / 4503599627370496 % 2048 = b / 4503599627370496 % 2048 by omega]

/-- The fraction that Frexp gives. -/
def frF (b : Nat) : Nat := if mantB b = 0 then 0 else Go.Proofs.Ytjakjnmfndfehaa.frB (b % 9223372036854775808)
theorem frF_mul {b : Nat} (h : finB b) : arD .mul (frF b) 4845873199050653696 = some (fl (frM b)) := by
  unfold frF frM
  by_cases h0 : mantB b = 0
  · rw [if_pos h0, if_pos h0, fl_zero]
    obtain ⟨fy, y1, y2, y3⟩ := fin_pow 1076 (by omega) (by omega)
    have f0 : finB 0 := ⟨by omega, by decide, by decide⟩
    have m0 : mantB 0 = 0 := by decide
    have n0 : negB 0 = false := by decide
    rw [show (4845873199050653696 : Nat) = 1076 * 4503599627370496 from rfl, arD_mul_fin f0 fy, m0, n0, y1, Nat.zero_mul]
    have r0 : ∀ E, rndN 52 11 0 E = 0 := fun E => by unfold rndN; rw [if_pos rfl]
    rw [r0]
    unfold wrd
    simp only [Bool.false_xor, Bool.false_eq_true, if_false]
  · rw [if_neg h0, if_neg h0]
    obtain ⟨a1, a2, a3, a4⟩ := abs_fin h
    obtain ⟨b1, b2⟩ := nM_bd h0
    have e1 : nM (b % 9223372036854775808) = nM b := by unfold nM; rw [a3]
    unfold Go.Proofs.Ytjakjnmfndfehaa.frB
    rw [a2, e1]
    unfold wrd
    simp only [Bool.false_eq_true, if_false]
    obtain ⟨M, hM⟩ : ∃ M, M = nM b := ⟨_, rfl⟩
    rw [← hM] at b1 b2 ⊢
    have fx : finB (1021 * 4503599627370496 + M) ∧ negB (1021 * 4503599627370496 + M) = false ∧ mantB (1021 * 4503599627370496 + M) = M ∧ placeB (1021 * 4503599627370496 + M) = 1021 := by
      have e1 : (1021 * 4503599627370496 + M) % 9223372036854775808 = 1021 * 4503599627370496 + M := Nat.mod_eq_of_lt (by omega)
      have e2 : (1021 * 4503599627370496 + M) / 4503599627370496 % 2048 = 1022 := by omega
      have e3 : (1021 * 4503599627370496 + M) % 4503599627370496 = M - 4503599627370496 := by omega
      refine ⟨⟨by omega, ?_, ?_⟩, ?_, ?_, ?_⟩
      · unfold nan64; rw [e1]; exact decide_eq_false (by omega)
      · unfold infB; rw [e1]; exact decide_eq_false (by omega)
      · unfold negB; exact decide_eq_false (by omega)
      · unfold mantB expF; rw [e2, if_neg (by omega), e3]; omega
      · unfold placeB expF; rw [e2]
    obtain ⟨fy, y1, y2, y3⟩ := fin_pow 1076 (by omega) (by omega)
    obtain ⟨f1, f2, f3, f4⟩ := fx
    rw [show (4845873199050653696 : Nat) = 1076 * 4503599627370496 from rfl, arD_mul_fin f1 fy, f2, y1, f3, y2, f4, y3]
    have h := rnd_shift 52 11 M 52 0
    rw [show (-1074 + ((1021 : Nat) : Int) + (-1074 + ((1076 - 1 : Nat) : Int))) = 0 - ((52 : Nat) : Int) from by decide, show M * 4503599627370496 = M * 2 ^ 52 by omega, h]
    unfold wrd fl
    simp only [Bool.false_xor, Bool.false_eq_true, if_false]

theorem fl_u64 {n : Nat} (h : n < 2 ^ 53) : floatToIntVal .f64 (fl n) .u64 = some (n : Int) := by
  have h0 := int_fl h
  unfold floatToIntVal at h0 ⊢
  generalize Ieee.Datum.toInt Toward.zero (FloatKind.f64.decode (fl n)) = o at *
  cases o with
  | none => simp at h0
  | some z =>
    simp only at h0 ⊢
    have e1 : IntKind.i64.min = -9223372036854775808 := rfl
    have e2 : IntKind.i64.max = 9223372036854775807 := rfl
    have e3 : IntKind.u64.min = 0 := rfl
    have e4 : IntKind.u64.max = 18446744073709551615 := rfl
    rw [e1, e2] at h0
    rw [e3, e4]
    split at h0
    · injection h0 with h0; subst h0; rw [if_pos (by omega)]
    · cases h0
end Go.Pst
namespace Go.Proofs.Ytjakjnmfndfehaa
open Go.RowKit Go.Pst
theorem product_any (a b : Nat) (q : Int) (w : World) (ha : a < W64) (hb : b < W64) (h1 : -127 ≤ q) (h2 : q < 65536) :
    Calls Try.prog 107 #[.int .u64 a, .int .u64 b, .int .i64 q] w (ProdPost (pwZ (a * b) q) w) := by
  have hm := fun w => mul64_any a b ha hb w
  have hlo : a * b % 18446744073709551616 < W64 := Nat.mod_lt _ w64_pos
  have hhi : a * b / 18446744073709551616 < W64 := Nat.div_lt_of_lt_mul (by
    have := Nat.mul_lt_mul_of_lt_of_le ha (Nat.le_of_lt hb) w64_pos
    exact this)
  have e : a * b % 18446744073709551616 + a * b / 18446744073709551616 * W64 = a * b := by
    rw [Nat.mul_comm (a * b / 18446744073709551616)]; exact Nat.mod_add_div _ _
  unfold pwZ
  by_cases hq : q < 0
  · obtain ⟨n, hn⟩ : ∃ n : Nat, q = -(n : Int) := ⟨(-q).toNat, by omega⟩
    subst hn
    rw [if_pos hq, show (- -(n : Int)).toNat = n by omega, ← e]
    by_cases hn : n < 64
    · exact product_low a b n _ _ w hm hlo hhi (by omega) hn
    · exact product_low2 a b n _ _ w hm hlo hhi (by omega) (by omega)
  · obtain ⟨p, hp⟩ : ∃ p : Nat, q = (p : Int) := ⟨q.toNat, by omega⟩
    subst hp
    rw [if_neg hq, Int.toNat_natCast, ← e]
    exact product_high a b p _ _ w hm hlo hhi (by omega)
end Go.Proofs.Ytjakjnmfndfehaa
