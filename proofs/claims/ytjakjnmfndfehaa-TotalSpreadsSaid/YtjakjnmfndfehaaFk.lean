/- The tests on floats, under short names, and what they say in whole numbers. No condition. -/
import Derived.Test.YtjakjnmfndfehaaFl
import Derived.WalkKit
import Derived.WalkLawsBesides
namespace Go.Pst
open Go

def feq (k : FloatKind) (a b : Nat) : Bool := k.format.order a b == some .eq
def fne (k : FloatKind) (a b : Nat) : Bool := k.format.order a b != some .eq
def flt (k : FloatKind) (a b : Nat) : Bool := k.format.order a b == some .lt
def fgt (k : FloatKind) (a b : Nat) : Bool := k.format.order a b == some .gt
theorem feq_fold (k : FloatKind) (a b : Nat) : (k.format.order a b == some .eq) = feq k a b := rfl
theorem fne_fold (k : FloatKind) (a b : Nat) : (k.format.order a b != some .eq) = fne k a b := rfl
theorem flt_fold (k : FloatKind) (a b : Nat) : (k.format.order a b == some .lt) = flt k a b := rfl
theorem fgt_fold (k : FloatKind) (a b : Nat) : (k.format.order a b == some .gt) = fgt k a b := rfl
attribute [go_sem] feq_fold fne_fold flt_fold fgt_fold

def nan64 (b : Nat) : Bool := decide (9218868437227405312 < b % 9223372036854775808)
def key64 (b : Nat) : Int := if b / 9223372036854775808 % 2 = 1 then -((b % 9223372036854775808 : Nat) : Int) else ((b % 9223372036854775808 : Nat) : Int)
def nan32 (b : Nat) : Bool := decide (2139095040 < b % 2147483648)
def key32 (b : Nat) : Int := if b / 2147483648 % 2 = 1 then -((b % 2147483648 : Nat) : Int) else ((b % 2147483648 : Nat) : Int)

theorem order64 (x y : Nat) : FloatKind.f64.format.order x y = if nan64 x || nan64 y then none else some (compare (key64 x) (key64 y)) := by
  have h := order_word Ieee.double (by decide) x y
  have e1 : ∀ z, nanW Ieee.double z = nan64 z := fun z => rfl
  have e2 : ∀ z, fkey Ieee.double z = key64 z := fun z => by
    show (if (z / 9223372036854775808 % 2 == 1) = true then _ else _) = _
    unfold key64; simp only [beq_iff_eq]; rfl
  rw [e1, e1, e2, e2] at h
  exact h

theorem order32 (x y : Nat) : FloatKind.f32.format.order x y = if nan32 x || nan32 y then none else some (compare (key32 x) (key32 y)) := by
  have h := order_word Ieee.single (by decide) x y
  have e1 : ∀ z, nanW Ieee.single z = nan32 z := fun z => rfl
  have e2 : ∀ z, fkey Ieee.single z = key32 z := fun z => by
    show (if (z / 2147483648 % 2 == 1) = true then _ else _) = _
    unfold key32; simp only [beq_iff_eq]; rfl
  rw [e1, e1, e2, e2] at h
  exact h

theorem feq64 (x y : Nat) : feq .f64 x y = (!(nan64 x || nan64 y) && key64 x == key64 y) := by
  unfold feq; rw [order64]
  cases nan64 x <;> cases nan64 y <;> simp [cmp_def]
  by_cases h1 : key64 x < key64 y
  · simp [h1]; omega
  · by_cases h2 : key64 x = key64 y
    · simp [h2]
    · simp [h1, h2]

theorem fne64 (x y : Nat) : fne .f64 x y = !feq .f64 x y := rfl

theorem flt64 (x y : Nat) : flt .f64 x y = (!(nan64 x || nan64 y) && decide (key64 x < key64 y)) := by
  unfold flt; rw [order64]
  cases nan64 x <;> cases nan64 y <;> simp [cmp_def]
  by_cases h1 : key64 x < key64 y
  · simp [h1]
  · by_cases h2 : key64 x = key64 y
    · simp [h2]
    · simp [h1, h2]

theorem fgt64 (x y : Nat) : fgt .f64 x y = (!(nan64 x || nan64 y) && decide (key64 y < key64 x)) := by
  unfold fgt; rw [order64]
  cases nan64 x <;> cases nan64 y <;> simp [cmp_def]
  by_cases h1 : key64 x < key64 y
  · simp [h1]; omega
  · by_cases h2 : key64 x = key64 y
    · simp [h2]
    · simp [h1, h2]; omega

theorem fne_self (x : Nat) : fne .f64 x x = nan64 x := by rw [fne64, feq64]; cases nan64 x <;> simp

theorem fne32_self (x : Nat) : fne .f32 x x = nan32 x := by
  show (!(feq .f32 x x)) = _
  unfold feq; rw [order32]; cases nan32 x <;> simp

end Go.Pst
