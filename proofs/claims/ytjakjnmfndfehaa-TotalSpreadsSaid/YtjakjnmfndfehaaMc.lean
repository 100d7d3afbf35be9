/- Go's math: Abs, Copysign, IsInf, IsNaN, normalize, Frexp. Conditions: the bits fit; normalize and Frexp at finite numbers that are not 0. -/
import Derived.Test.YtjakjnmfndfehaaRows
import Derived.Test.YtjakjnmfndfehaaReg
import Derived.Test.YtjakjnmfndfehaaMb
import Derived.WalkKit
import Derived.WalkSpells
import Derived.WalkLawsBesides
import Derived.BigQuiet
import Derived.Lib.Hide
import Derived.Outline
namespace Go.Proofs.Ytjakjnmfndfehaa
open Go.RowKit Go.Pst
set_option maxRecDepth 20000
set_option linter.unusedSimpArgs false
set_option linter.unusedVariables false

theorem m64bits (b : Nat) (w : World) : (callFunc 102 #[.float .f64 b]).run Try.prog w = .ok (.value (.int .u64 b)) w := by kernel_rfl
theorem m64from (n : Int) (w : World) : (callFunc 85 #[.int .u64 n]).run Try.prog w = .ok (.value (.float .f64 n.toNat)) w := by kernel_rfl
attribute [local go_sem] m64bits m64from run_fmul

theorem mabs_any (b : Nat) (w : World) (hb : b < 2 ^ 64) : Calls Try.prog 69 #[.float .f64 b] w fun en w' => en = .returned (.float .f64 (b % 9223372036854775808)) ∧ w = w' := by
  have h : bits .andNot .u64 (b : Int) 9223372036854775808 = ((b % 9223372036854775808 : Nat) : Int) := by
    have := u64_andNot_nat b 9223372036854775808 (by omega) (by omega)
    rw [show ((9223372036854775808 : Nat) : Int) = 9223372036854775808 from rfl] at this
    rw [this, show 18446744073709551615 - 9223372036854775808 = 2 ^ 63 - 1 from rfl, Nat.and_two_pow_sub_one_eq_mod]
  obtain ⟨r, hr⟩ : ∃ r, r = b % 9223372036854775808 := ⟨_, rfl⟩
  rw [← hr] at h ⊢
  clear hr hb
  go_enter Try.func69, Try.ntmps69
  go_wp2
  go_ret
  exact ⟨rfl, rfl⟩

theorem mcopy_any (a b : Nat) (w : World) (ha : a < 2 ^ 64) (hb : b < 2 ^ 64) : Calls Try.prog 110 #[.float .f64 a, .float .f64 b] w fun en w' => en = .returned (.float .f64 (csN a b)) ∧ w = w' := by
  have h := csN_bits ha hb
  obtain ⟨x, hx⟩ : ∃ x, x = bits .andNot .u64 (a : Int) 9223372036854775808 := ⟨_, rfl⟩
  obtain ⟨y, hy⟩ : ∃ y, y = bits .and .u64 (b : Int) 9223372036854775808 := ⟨_, rfl⟩
  rw [← hx, ← hy] at h
  generalize csN a b = c at *
  replace hx := hx.symm
  replace hy := hy.symm
  clear ha hb
  go_enter Try.func110, Try.ntmps110
  go_wp2
  go_ret
  exact ⟨by first | rfl | simp, rfl⟩

theorem mnan_any (b : Nat) (w : World) : Calls Try.prog 132 #[.float .f64 b] w fun en w' => en = .returned (.bool (nan64 b)) ∧ w = w' := by
  have h := fne_self b
  go_enter Try.func132, Try.ntmps132
  go_wp2
  go_ret
  exact ⟨rfl, rfl⟩

theorem minf_any (b : Nat) (w : World) (hb : b < 2 ^ 64) : Calls Try.prog 75 #[.float .f64 b, .int .i64 0] w fun en w' => en = .returned (.bool (infB b)) ∧ w = w' := by
  have h := fgt_inf b
  have HA := Lib.hid fun w => mabs_any b w hb
  generalize infB b = i at *
  generalize b % 9223372036854775808 = r at *
  clear hb
  go_enter Try.func75, Try.ntmps75
  go_wp2_with fail
  refine (HA.out _).mono ?_
  rintro en w' ⟨rfl, rfl⟩
  go_wp2_with fail
  go_ret
  exact ⟨by first | rfl | simp [h], rfl⟩

/-- normalize. -/
theorem mnorm_any (b : Nat) (w : World) (hf : finB b) (h0 : mantB b ≠ 0) :
    Calls Try.prog 133 #[.float .f64 b] w fun en w' => en = .returned (.tuple #[.float .f64 (wrd (negB b) (nrm b)), .int .i64 (lgB b - (nF b - 1023))]) ∧ w = w' := by
  obtain ⟨hb, hn, hi⟩ := hf
  have HA := Lib.hid fun w => mabs_any b w hb
  have hlt := flt_small b hn
  have hbd := nF_bd hn hi h0
  by_cases hs : expF b = 0
  · rw [decide_eq_true hs] at hlt
    obtain ⟨f1, f2, f3, f4⟩ := fin_pow 1075 (by omega) (by omega)
    rw [show 1075 * 4503599627370496 = 4841369599423283200 from rfl] at f1 f2 f3 f4
    have hd := arD_mul_fin ⟨hb, hn, hi⟩ f1
    rw [f2, f3, f4, Bool.xor_false] at hd
    rw [show -1074 + ((placeB b : Nat) : Int) + (-1074 + ((1075 - 1 : Nat) : Int)) = -1074 + ((placeB b : Nat) : Int) by omega, nrm_sub hs h0] at hd
    have hu := arU_some hd
    have hz := arN_some hd
    have hv : lgB b - ((nF b : Int) - 1023) = -52 := by
      unfold lgB nF
      rw [if_pos hs, (mant_sub hs).2.2]; omega
    rw [hv]
    generalize wrd (negB b) (nrm b) = y at *
    have hw := wIf_off
    clear hbd h0 hd f1 f2 f3 f4 hn hi hb hv hs
    generalize b % 9223372036854775808 = r at *
    go_enter Try.func133, Try.ntmps133
    go_wp2_with fail
    refine (HA.out _).mono ?_
    rintro en w' ⟨rfl, rfl⟩
    go_wp2_with fail
    go_ret2
    exact ⟨rfl, rfl⟩
  · rw [decide_eq_false hs] at hlt
    have hv : lgB b - ((nF b : Int) - 1023) = 0 := by
      unfold lgB nF
      rw [if_neg hs, (mant_norm hs).2.2.1, (mant_norm hs).2.2.2.2]; omega
    have hy : wrd (negB b) (nrm b) = b := by rw [nrm_norm hs, wrd_mod b hb]
    rw [hv, hy]
    clear hbd h0 hn hi hb hv hs hy
    generalize b % 9223372036854775808 = r at *
    go_enter Try.func133, Try.ntmps133
    go_wp2_with fail
    refine (HA.out _).mono ?_
    rintro en w' ⟨rfl, rfl⟩
    go_wp2_with fail
    go_ret2
    exact ⟨rfl, rfl⟩

/-- The bits of a fraction in a half to one. -/
def frB (b : Nat) : Nat := wrd (negB b) (1021 * 4503599627370496 + nM b)

theorem nrm_bits (b : Nat) (hn : nan64 b = false) (hi : infB b = false) (h0 : mantB b ≠ 0) : wrd (negB b) (nrm b) < 2 ^ 64 ∧ wrd (negB b) (nrm b) / 4503599627370496 % 2048 = nF b ∧ wrd (negB b) (nrm b) % 4503599627370496 = nM b - 4503599627370496 ∧ negB (wrd (negB b) (nrm b)) = negB b := by
  obtain ⟨h1, h2⟩ := nM_bd h0
  obtain ⟨h3, h4⟩ := nF_bd hn hi h0
  have h5 : nrm b < 9223372036854775808 := by unfold nrm; omega
  obtain ⟨g1, g2, g3⟩ := wrd_lt (negB b) (nrm b) h5
  refine ⟨g1, ?_, ?_, g3⟩
  · unfold wrd nrm at *; split <;> omega
  · unfold wrd nrm at *; split <;> omega

theorem u64_field (y : Nat) (hy : y < 2 ^ 64) : bits .and .u64 ((y : Int) / 4503599627370496) 2047 = ((y / 4503599627370496 % 2048 : Nat) : Int) := by
  rw [show (y : Int) / 4503599627370496 = ((y / 4503599627370496 : Nat) : Int) by omega]
  have := and_mask (b := y / 4503599627370496) (n := 11) (by omega) (by omega)
  exact this

theorem u64_clear (y : Nat) (hy : y < 2 ^ 64) : bits .andNot .u64 (y : Int) 9218868437227405312 = ((y / 9223372036854775808 * 9223372036854775808 + y % 4503599627370496 : Nat) : Int) := by
  have h1 := u64_andNot_nat y 9218868437227405312 (by omega) (by omega)
  rw [show ((9218868437227405312 : Nat) : Int) = 9218868437227405312 from rfl] at h1
  rw [h1]
  congr 1
  rw [show 18446744073709551615 - 9218868437227405312 = 9223372036854775808 + (4503599627370496 - 1) from rfl]
  apply Nat.eq_of_testBit_eq
  intro i
  have e1 : (9223372036854775808 + (4503599627370496 - 1)).testBit i = (decide (i = 63) || decide (i < 52)) := by
    have := Nat.testBit_two_pow_add_gt (i := 63) (j := i) 
    by_cases h : i = 63
    · subst h; decide
    · by_cases h2 : i < 63
      · rw [show 9223372036854775808 = 2 ^ 63 from rfl, Nat.testBit_two_pow_add_gt h2, show 4503599627370496 - 1 = 2 ^ 52 - 1 from rfl, Nat.testBit_two_pow_sub_one]
        simp [h]
      · have : (9223372036854775808 + (4503599627370496 - 1)).testBit i = false := Nat.testBit_lt_two_pow (Nat.lt_of_lt_of_le (show _ < 2 ^ 64 by decide) (Nat.pow_le_pow_right (by omega) (by omega)))
        rw [this]; simp [h]; omega
  have e2 : (y / 9223372036854775808 * 9223372036854775808 + y % 4503599627370496).testBit i = (if i < 63 then (y % 4503599627370496).testBit i else (y / 9223372036854775808).testBit (i - 63)) := by
    have := Nat.testBit_two_pow_mul_add (y / 9223372036854775808) (b := y % 4503599627370496) (i := 63) (by omega) i
    rw [Nat.mul_comm, show (9223372036854775808 : Nat) = 2 ^ 63 from rfl]
    exact this
  rw [Nat.testBit_and, e1, e2, show (4503599627370496 : Nat) = 2 ^ 52 from rfl, Nat.testBit_mod_two_pow, show (9223372036854775808 : Nat) = 2 ^ 63 from rfl, Nat.testBit_div_two_pow]
  by_cases h : i < 63
  · rw [if_pos h]
    have : decide (i = 63) = false := decide_eq_false (by omega)
    rw [this, Bool.false_or, Bool.and_comm]
  · rw [if_neg h, show i - 63 + 63 = i by omega]
    by_cases h2 : i = 63
    · subst h2; simp
    · have : y.testBit i = false := Nat.testBit_lt_two_pow (Nat.lt_of_lt_of_le hy (Nat.pow_le_pow_right (by omega) (by omega)))
      rw [this]; simp

theorem u64_half (s f : Nat) (hs : s ≤ 1) (hf : f < 4503599627370496) : bits .or .u64 ((s * 9223372036854775808 + f : Nat) : Int) 4602678819172646912 = ((s * 9223372036854775808 + 4602678819172646912 + f : Nat) : Int) := by
  have h1 := or64 (a := s * 9223372036854775808 + f) (b := 4602678819172646912) (by omega) (by omega)
  rw [show ((4602678819172646912 : Nat) : Int) = 4602678819172646912 from rfl] at h1
  rw [h1]
  congr 1
  have h2 : s * 9223372036854775808 + f = s * 9223372036854775808 ||| f := by
    have := Nat.two_pow_add_eq_or_of_lt (i := 63) (b := f) (by omega) s
    rw [Nat.mul_comm, show (9223372036854775808 : Nat) = 2 ^ 63 from rfl]; exact this
  have h3 : 4602678819172646912 + f = 4602678819172646912 ||| f := by
    have := Nat.two_pow_add_eq_or_of_lt (i := 52) (b := f) (by omega) 1022
    exact this
  have h4 : s * 9223372036854775808 + (4602678819172646912 + f) = s * 9223372036854775808 ||| (4602678819172646912 + f) := by
    have := Nat.two_pow_add_eq_or_of_lt (i := 63) (b := 4602678819172646912 + f) (by omega) s
    rw [Nat.mul_comm, show (9223372036854775808 : Nat) = 2 ^ 63 from rfl]; exact this
  rw [h2, Nat.add_assoc, h4, h3, Nat.or_assoc, Nat.or_comm f]

theorem mfrexp_any (b : Nat) (w : World) (hf : finB b) (h0 : mantB b ≠ 0) :
    Calls Try.prog 121 #[.float .f64 b] w fun en w' => en = .returned (.tuple #[.float .f64 (frB b), .int .i64 (lgB b + 1)]) ∧ w = w' := by
  obtain ⟨hb, hn, hi⟩ := hf
  have HI := Lib.hid fun w => minf_any b w hb
  have HN := Lib.hid fun w => mnan_any b w
  have HM := Lib.hid fun w => mnorm_any b w ⟨hb, hn, hi⟩ h0
  obtain ⟨n1, n2, n3, n4⟩ := nrm_bits b hn hi h0
  obtain ⟨m1, m2⟩ := nM_bd h0
  obtain ⟨m3, m4⟩ := nF_bd hn hi h0
  have hz : feq .f64 b 0 = false := by rw [feq_zero b hb]; exact decide_eq_false fun h => h0 (mant_zero.2 h)
  have hfld := u64_field _ n1
  rw [n2] at hfld
  have hclr := u64_clear _ n1
  rw [n3] at hclr
  have hs : wrd (negB b) (nrm b) / 9223372036854775808 ≤ 1 := by omega
  have hor := u64_half (wrd (negB b) (nrm b) / 9223372036854775808) (nM b - 4503599627370496) hs (by omega)
  have hr : frB b = wrd (negB b) (nrm b) / 9223372036854775808 * 9223372036854775808 + 4602678819172646912 + (nM b - 4503599627370496) := by
    have h5 : nrm b < 9223372036854775808 := by unfold nrm; omega
    unfold frB wrd
    split
    · rw [show (9223372036854775808 + nrm b) / 9223372036854775808 = 1 by omega]; omega
    · rw [show nrm b / 9223372036854775808 = 0 by omega]; omega
  rw [← hr] at hor
  have hlg : lgB b - ((nF b : Int) - 1023) + ((nF b : Int) - 1023 + 1) = lgB b + 1 := by omega
  have hlb : -1100 ≤ lgB b ∧ lgB b ≤ 1100 := by
    have := log_lt h0
    have := place_lt b
    unfold lgB; omega
  rw [hn] at HN
  rw [hi] at HI
  clear hr hs n2 n3 n4 m1 m2
  generalize frB b = r at *
  generalize hx : lgB b - ((nF b : Int) - 1023) = x at *
  have hxb : -4000 ≤ x ∧ x ≤ 4000 := by omega
  generalize lgB b = l at *
  generalize nF b = F at *
  generalize wrd (negB b) (nrm b) = y at *
  generalize (y / 9223372036854775808 * 9223372036854775808 + (nM b - 4503599627370496) : Nat) = c at *
  clear hx h0 hn hi hb
  have n1' : y < 18446744073709551616 := n1
  have hl2 : x + ((F : Int) - 1023 + 1) = l + 1 := by omega
  clear hlg n1 hlb
  go_enter Try.func121, Try.ntmps121
  go_wp2_with fail
  refine (HI.out _).mono ?_
  rintro en w' ⟨rfl, rfl⟩
  go_wp2_with fail
  refine (HN.out _).mono ?_
  rintro en w' ⟨rfl, rfl⟩
  go_wp2_with fail
  refine (HM.out _).mono ?_
  rintro en w' ⟨rfl, rfl⟩
  go_wp2_with fail
  go_ret2
  exact ⟨by first | rfl | simp, rfl⟩
end Go.Proofs.Ytjakjnmfndfehaa
