/- Plain facts: what a float's bits are made of, in whole numbers; no program is spoken of. No condition. -/
import Derived.WalkKit
import Derived.Laws.BitsAllLaws
namespace Go.Pst
open Go

def lst (f e : Nat) : Int := 1 - ((2 ^ e - 1) / 2 : Nat) - f

/-- The parts of a float. -/
structure FP where
  kind : Int
  neg : Bool
  mant : Int
  exp : Int
  quiet : Bool
  load : Int
deriving DecidableEq

def FP.val (p : FP) : Value := .agg #[.int .i64 p.kind, .bool p.neg, .int .u64 p.mant, .int .i64 p.exp, .bool p.quiet, .int .u64 p.load]

def partsN (f e b : Nat) : FP :=
  if b / 2 ^ f % 2 ^ e = 2 ^ e - 1 then
    (if b % 2 ^ f = 0 then ⟨3, b / 2 ^ (f + e) % 2 == 1, 0, 0, false, 0⟩
     else ⟨4, b / 2 ^ (f + e) % 2 == 1, 0, 0, b % 2 ^ f / 2 ^ (f - 1) == 1, ((b % 2 ^ f % 2 ^ (f - 1) : Nat) : Int)⟩)
  else if 0 < b / 2 ^ f % 2 ^ e then ⟨2, b / 2 ^ (f + e) % 2 == 1, ((2 ^ f + b % 2 ^ f : Nat) : Int), ((b / 2 ^ f % 2 ^ e : Nat) : Int) - 1 + lst f e, false, 0⟩
  else if 0 < b % 2 ^ f then ⟨1, b / 2 ^ (f + e) % 2 == 1, ((b % 2 ^ f : Nat) : Int), lst f e, false, 0⟩
  else ⟨0, b / 2 ^ (f + e) % 2 == 1, 0, 0, false, 0⟩

/-! ### Words of the machine -/
theorem wrapU (n : Nat) (h : n < 2 ^ 64) : IntKind.u64.wrap (n : Int) = n := by
  rw [IntKind.wrap_u64]; omega

theorem pow_lt64 {n : Nat} (h : n ≤ 63) : 2 ^ n ≤ 2 ^ 63 := Nat.pow_le_pow_right (by omega) h

theorem wrap_pow {n : Nat} (h : n ≤ 63) : IntKind.u64.wrap ((2 : Int) ^ n) = ((2 ^ n : Nat) : Int) := by
  have h1 := pow_lt64 h
  rw [show (2 : Int) ^ n = ((2 ^ n : Nat) : Int) by simp]
  exact wrapU _ (by omega)

theorem wrap_pow1 {n : Nat} (h : n ≤ 63) : IntKind.u64.wrap (((2 ^ n : Nat) : Int) - 1) = ((2 ^ n - 1 : Nat) : Int) := by
  have h1 := pow_lt64 h
  have h2 : 1 ≤ 2 ^ n := Nat.one_le_two_pow
  rw [IntKind.wrap_u64]; omega

theorem and_mask {b n : Nat} (hb : b < 2 ^ 64) (h : n ≤ 63) : bits .and .u64 (b : Int) ((2 ^ n - 1 : Nat) : Int) = ((b % 2 ^ n : Nat) : Int) := by
  have h1 := pow_lt64 h
  rw [u64_and_nat _ _ (by omega) (by omega), Nat.and_two_pow_sub_one_eq_mod]

theorem bitAt (x i : Nat) : ((((x &&& 2 ^ i : Nat) : Int)) != 0) = (x / 2 ^ i % 2 == 1) := by
  have hd := Nat.testBit_eq_decide_div_mod_eq (x := x) (i := i)
  by_cases hb : x / 2 ^ i % 2 = 1
  · have ht : x.testBit i = true := by rw [hd]; simpa using hb
    have hne : x &&& 2 ^ i ≠ 0 := fun e => by
      have h1 : (x &&& 2 ^ i).testBit i = true := by rw [Nat.testBit_and, ht, Nat.testBit_two_pow_self]; rfl
      rw [e] at h1; simp at h1
    simp only [hb, BEq.rfl, bne_iff_ne, ne_eq]
    omega
  · have ht : x.testBit i = false := by rw [hd]; simpa using hb
    have h0 : x &&& 2 ^ i = 0 := Nat.eq_of_testBit_eq fun j => by
      rw [Nat.testBit_and, Nat.testBit_two_pow]
      by_cases hij : i = j
      · subst hij; simp [ht]
      · simp [hij]
    rw [h0]; simp [hb]

theorem and_pow {x n : Nat} (hx : x < 2 ^ 64) (h : n ≤ 63) : bits .and .u64 (x : Int) ((2 ^ n : Nat) : Int) = ((x &&& 2 ^ n : Nat) : Int) := by
  have h1 := pow_lt64 h
  rw [u64_and_nat _ _ (by omega) (by omega)]

theorem or_disj {x n : Nat} (hx : x < 2 ^ n) (h : n ≤ 63) : bits .or .u64 ((2 ^ n : Nat) : Int) (x : Int) = ((2 ^ n + x : Nat) : Int) := by
  have h1 := pow_lt64 h
  rw [u64_or_nat _ _ (by omega) (by omega)]
  have := Nat.two_pow_add_eq_or_of_lt hx 1
  rw [Nat.mul_one] at this
  rw [this]

theorem or_disj2 {x y n : Nat} (hx : x < 2 ^ n) (h : y * 2 ^ n < 2 ^ 64) (h2 : x < 2 ^ 64) : bits .or .u64 ((y * 2 ^ n : Nat) : Int) (x : Int) = ((y * 2 ^ n + x : Nat) : Int) := by
  rw [u64_or_nat _ _ (by omega) (by omega)]
  have := Nat.two_pow_add_eq_or_of_lt hx y
  rw [Nat.mul_comm] at this
  rw [this]

/-- A bit taken away. -/
theorem andNot_pow {x n : Nat} (hx : x < 2 ^ (n + 1)) (h : n ≤ 62) : bits .andNot .u64 (x : Int) ((2 ^ n : Nat) : Int) = ((x % 2 ^ n : Nat) : Int) := by
  have h1 : 2 ^ (n + 1) ≤ 2 ^ 63 := Nat.pow_le_pow_right (by omega) (by omega)
  have h2 : 2 ^ n ≤ 2 ^ (n + 1) := Nat.pow_le_pow_right (by omega) (by omega)
  rw [u64_andNot_nat _ _ (by omega) (by omega)]
  congr 1
  apply Nat.eq_of_testBit_eq
  intro i
  rw [Nat.testBit_and, Nat.testBit_mod_two_pow, show 18446744073709551615 - 2 ^ n = 2 ^ 64 - (2 ^ n + 1) from by omega, Nat.testBit_two_pow_sub_succ (by omega), Nat.testBit_two_pow]
  by_cases hi : i < n
  · have hn : ¬ n = i := by omega
    simp [hi, hn]; intro; omega
  · by_cases hn : n = i
    · subst hn; simp
    · have : x.testBit i = false := Nat.testBit_lt_two_pow (Nat.lt_of_lt_of_le hx (Nat.pow_le_pow_right (by omega) (by omega)))
      simp [this]

theorem lst_bd {f e : Nat} (hf : f ≤ 52) (he : e ≤ 11) : -2000 ≤ lst f e ∧ lst f e ≤ 1 := by
  have h1 : 2 ^ e ≤ 2 ^ 11 := Nat.pow_le_pow_right (by omega) he
  unfold lst; omega

/-! ### A float out of its parts, as the reference does it -/
def rcand (f e : Nat) (x : FP) (m l : Nat) : Option Nat :=
  if x.kind = 3 then some ((2 ^ e - 1) * 2 ^ f)
  else if x.kind = 4 then some (if x.quiet then ((2 ^ e - 1) * 2 ^ f ||| l) ||| 2 ^ (f - 1) else (2 ^ e - 1) * 2 ^ f ||| l)
  else if x.kind = 2 then
    (if x.exp < 1 - ((2 ^ e - 1) / 2 : Nat) - f ∨ (2 ^ e - 1 : Nat) - ((2 ^ e - 1) / 2 : Nat) - (f : Int) ≤ x.exp ∨ m / 2 ^ f ≠ 1 then none
     else some ((x.exp + ((2 ^ e - 1) / 2 : Nat) + f).toNat * 2 ^ f ||| m % 2 ^ f))
  else if x.kind = 1 then some m
  else some 0

theorem rcand_two {f e : Nat} {x : FP} {m l : Nat} (hk : x.kind = 2) : rcand f e x m l =
    (if x.exp < 1 - ((2 ^ e - 1) / 2 : Nat) - f ∨ (2 ^ e - 1 : Nat) - ((2 ^ e - 1) / 2 : Nat) - (f : Int) ≤ x.exp ∨ m / 2 ^ f ≠ 1 then none
     else some ((x.exp + ((2 ^ e - 1) / 2 : Nat) + f).toNat * 2 ^ f ||| m % 2 ^ f)) := by
  unfold rcand; rw [if_neg (by omega), if_neg (by omega), if_pos hk]

def signedBits (f e : Nat) (neg : Bool) (u : Nat) : Nat := if neg then u ||| 2 ^ (f + e) else u

def rofN (f e : Nat) (x : FP) (m l : Nat) : Nat × Int :=
  match rcand f e x m l with
  | none => (0, 40)
  | some u => if 2 ^ f < l ∨ 2 ^ (f + 1) < m then (0, 40) else if partsN f e (signedBits f e x.neg u) = x then (signedBits f e x.neg u, 0) else (0, 40)

theorem or_lt64 {a b : Nat} (ha : a < 2 ^ 64) (hb : b < 2 ^ 64) : a ||| b < 2 ^ 64 := Nat.or_lt_two_pow ha hb

theorem or64 {a b : Nat} (ha : a < 2 ^ 64) (hb : b < 2 ^ 64) : bits .or .u64 (a : Int) (b : Int) = ((a ||| b : Nat) : Int) := u64_or_nat _ _ ha hb

theorem top_lt {f e : Nat} (hf : f ≤ 52) (he : e ≤ 11) : (2 ^ e - 1) * 2 ^ f < 2 ^ 63 := by
  have h1 : 2 ^ e ≤ 2 ^ 11 := Nat.pow_le_pow_right (by omega) he
  have h2 : 2 ^ f ≤ 2 ^ 52 := Nat.pow_le_pow_right (by omega) hf
  calc (2 ^ e - 1) * 2 ^ f ≤ (2 ^ 11 - 1) * 2 ^ 52 := Nat.mul_le_mul (by omega) h2
    _ < 2 ^ 63 := by decide

end Go.Pst
