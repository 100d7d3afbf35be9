/- Go's math: Frexp, Ldexp at finite numbers. Conditions: the bits fit, the power is not too great for an int. -/
import Derived.Test.YtjakjnmfndfehaaMc
namespace Go.Pst
open Go Ieee
set_option linter.unusedVariables false
set_option linter.unusedSimpArgs false

/-- A finite number times a power of two, rounded. -/
def ldB (b : Nat) (k : Int) : Nat := wrd (negB b) (rndN 52 11 (mantB b) (-1074 + (placeB b : Nat) + k))

theorem rnd_nM {b : Nat} (h0 : mantB b ≠ 0) (k : Int) : rndN 52 11 (nM b) (k + lgB b - 52) = rndN 52 11 (mantB b) (-1074 + (placeB b : Nat) + k) := by
  have h3 := log_lt h0
  have := rnd_shift 52 11 (mantB b) (52 - (mantB b).log2) (-1074 + (placeB b : Nat) + k)
  unfold nM
  rw [← this]
  congr 1
  unfold lgB
  omega

theorem rnd_over (m : Nat) (E : Int) (h1 : 2 ^ 52 ≤ m) (hE : 972 ≤ E) : rndN 52 11 m E = 9218868437227405312 := by
  have h0 : m ≠ 0 := by omega
  have hl : 52 ≤ m.log2 := (Nat.le_log2 h0).2 h1
  have hk : kap 52 11 m E = max ((m.log2 : Int) - (52 : Nat)) (lst 52 11 - E) := rfl
  rw [lst64] at hk
  have hr : rndN 52 11 m E = min ((E + kap 52 11 m E - lst 52 11).toNat * 2 ^ 52 + keptN 52 11 m E) ((2 ^ 11 - 1) * 2 ^ 52) := by unfold rndN; rw [if_neg h0]
  rw [hr, inf64, lst64]
  have h2 := (kept_facts 52 11 m E h0).2.1
  have h3 : 2046 ≤ (E + kap 52 11 m E - -1074).toNat := by omega
  have h4 : 2 ^ 52 ≤ keptN 52 11 m E := Decidable.byContradiction fun h => by
    have := h2 (by omega); rw [lst64] at this; omega
  have h5 : 2046 * 2 ^ 52 ≤ (E + kap 52 11 m E - -1074).toNat * 2 ^ 52 := Nat.mul_le_mul_right _ h3
  rw [show (2046 : Nat) * 2 ^ 52 = 9214364837600034816 by decide] at h5
  rw [show (2 : Nat) ^ 52 = 4503599627370496 from rfl] at *
  omega

theorem rnd_under (m : Nat) (E : Int) (h1 : 2 ^ 52 ≤ m) (h2 : m < 2 ^ 53) (hE : E < -1127) : rndN 52 11 m E = 0 := by
  have h0 : m ≠ 0 := by omega
  rw [rnd_normal m E h1 h2, if_neg (by omega)]
  obtain ⟨k, hk⟩ : ∃ k, (-1074 - E).toNat = k + 54 := ⟨(-1074 - E).toNat - 54, by omega⟩
  rw [hk, rne_small (Nat.lt_of_lt_of_le (show 2 * m < 2 ^ 54 by omega) (Nat.pow_le_pow_right (by omega) (by omega)))]
  rfl

/-- The product of a power of two and a normal number. -/
theorem mul_pow (e F M : Nat) (s : Bool) (h1 : 1 ≤ e) (h2 : e ≤ 2046) (h3 : 1 ≤ F) (h4 : F ≤ 2046) (h5 : 4503599627370496 ≤ M) (h6 : M < 9007199254740992) :
    arD .mul (e * 4503599627370496) (wrd s (F * 4503599627370496 + (M - 4503599627370496))) = some (wrd s (rndN 52 11 M ((e : Int) + F - 2098))) := by
  obtain ⟨f1, f2, f3, f4⟩ := fin_pow e h1 h2
  have hz : F * 4503599627370496 + (M - 4503599627370496) < 9223372036854775808 := by omega
  obtain ⟨g1, g2, g3⟩ := wrd_lt s _ hz
  generalize hy : wrd s (F * 4503599627370496 + (M - 4503599627370496)) = y at *
  have e1 : expF y = F := by unfold expF; omega
  have e2 : y % 4503599627370496 = M - 4503599627370496 := by omega
  have fy : finB y := ⟨g1, by unfold nan64; rw [g2]; exact decide_eq_false (by omega), by unfold infB; rw [g2]; exact decide_eq_false (by omega)⟩
  have m1 : mantB y = M := by unfold mantB; rw [e1, if_neg (by omega), e2]; omega
  have p1 : placeB y = F - 1 := by unfold placeB; rw [e1]
  rw [arD_mul_fin f1 fy, f2, f3, f4, m1, p1, g3, Bool.false_xor]
  have := rnd_shift 52 11 M 52 ((e : Int) + F - 2098)
  congr 2
  rw [← this, show (2 : Nat) ^ 52 = 4503599627370496 from rfl, Nat.mul_comm]
  congr 1
  omega

theorem shl52 (G : Nat) (h : G ≤ 2046) : IntKind.u64.wrap ((G : Int) * 4503599627370496) = ((G * 4503599627370496 : Nat) : Int) := by
  rw [IntKind.wrap_u64]; omega

theorem i64_field (n : Nat) (h : n < 4096) : bits .and .i64 (n : Int) 2047 = ((n % 2048 : Nat) : Int) := by
  show IntKind.i64.wrap ((BitVec.ofInt 64 (n : Int) &&& BitVec.ofInt 64 2047).toNat : Int) = _
  have e1 : (BitVec.ofInt 64 (n : Int) &&& BitVec.ofInt 64 2047).toNat = n % 2048 := by
    rw [BitVec.toNat_and, BitVec.toNat_ofInt, BitVec.toNat_ofInt]
    rw [show ((n : Int) % ((2 ^ 64 : Nat) : Int)).toNat = n by omega, show ((2047 : Int) % ((2 ^ 64 : Nat) : Int)).toNat = 2 ^ 11 - 1 by decide, Nat.and_two_pow_sub_one_eq_mod]
  rw [e1, IntKind.wrap_i64]; omega

theorem ldB_zero {b : Nat} (hb : b < 2 ^ 64) (h : mantB b = 0) (k : Int) : ldB b k = b := by
  unfold ldB rndN
  rw [if_pos h]
  have := wrd_mod b hb
  rw [mant_zero.1 h] at this
  exact this

theorem ldB_lt (b : Nat) (k : Int) : ldB b k < 2 ^ 64 := (wrd_lt _ _ (rnd_lt63 _ _)).1
end Go.Pst
namespace Go.Proofs.Ytjakjnmfndfehaa
open Go.RowKit Go.Pst
set_option maxRecDepth 20000
set_option linter.unusedSimpArgs false
set_option linter.unusedVariables false
attribute [local go_sem] m64bits m64from run_fmul

theorem mFrexp_any (b : Nat) (w : World) (hf : finB b) (h0 : mantB b ≠ 0) :
    Calls Try.prog 105 #[.float .f64 b] w fun en w' => en = .returned (.tuple #[.float .f64 (frB b), .int .i64 (lgB b + 1)]) ∧ w = w' := by
  have H := Lib.hid fun w => mfrexp_any b w hf h0
  generalize frB b = r at *
  generalize lgB b = l at *
  clear hf h0
  go_enter Try.func105, Try.ntmps105
  go_wp2_with fail
  refine (H.out _).mono ?_
  rintro en w' ⟨rfl, rfl⟩
  go_wp2_with fail
  go_ret2
  exact ⟨by first | rfl | simp, rfl⟩

theorem mFrexp_zero (b : Nat) (w : World) (hb : b < 2 ^ 64) (h0 : mantB b = 0) :
    Calls Try.prog 105 #[.float .f64 b] w fun en w' => en = .returned (.tuple #[.float .f64 b, .int .i64 0]) ∧ w = w' := by
  have hz : feq .f64 b 0 = true := by rw [feq_zero b hb]; exact decide_eq_true (mant_zero.1 h0)
  have H : Hid (∀ w, Calls Try.prog 121 #[.float .f64 b] w fun en w' => en = .returned (.tuple #[.float .f64 b, .int .i64 0]) ∧ w = w') := Lib.hid (fun w => by
    clear hb h0
    go_enter Try.func121, Try.ntmps121
    go_wp2_with fail
    go_ret2
    exact ⟨by first | rfl | simp, rfl⟩)
  clear hb h0 hz
  go_enter Try.func105, Try.ntmps105
  go_wp2_with fail
  refine (H.out _).mono ?_
  rintro en w' ⟨rfl, rfl⟩
  go_wp2_with fail
  go_ret2
  exact ⟨by first | rfl | simp, rfl⟩

theorem minfv_any (w : World) : Calls Try.prog 109 #[.int .i64 1] w fun en w' => en = .returned (.float .f64 9218868437227405312) ∧ w = w' := by
  go_enter Try.func109, Try.ntmps109
  go_wp2
  go_ret
  exact ⟨rfl, rfl⟩
theorem mninf_any (w : World) : Calls Try.prog 109 #[.int .i64 (-1)] w fun en w' => en = .returned (.float .f64 18442240474082181120) ∧ w = w' := by
  go_enter Try.func109, Try.ntmps109
  go_wp2
  go_ret
  exact ⟨rfl, rfl⟩


set_option maxHeartbeats 1000000 in
theorem ldexp_sub (b y cc v z r : Nat) (k e0 F X : Int) (w : World) (hz : feq .f64 b 0 = false)
    (hI : ∀ w, Calls Try.prog 75 #[.float .f64 b, .int .i64 0] w fun en w' => en = .returned (.bool false) ∧ w = w')
    (hN : ∀ w, Calls Try.prog 132 #[.float .f64 b] w fun en w' => en = .returned (.bool false) ∧ w = w')
    (hM : ∀ w, Calls Try.prog 133 #[.float .f64 b] w fun en w' => en = .returned (.tuple #[.float .f64 y, .int .i64 e0]) ∧ w = w')
    (_x1 : -1075 ≤ X) (_x2 : X ≤ 1023) (_x3 : X < -1022) (_y1 : y < 18446744073709551616) (hE : k + e0 + (F - 1023) = X) (_k1 : -1099511627776 ≤ k) (_k2 : k ≤ 1099511627776) (_f1 : 0 ≤ F) (_f2 : F ≤ 2047) (_e : -4000 ≤ e0 ∧ e0 ≤ 4000)
    (hfld : bits .and .i64 ((y : Int) / 4503599627370496) 2047 = F) (hclr : bits .andNot .u64 (y : Int) 9218868437227405312 = (cc : Int)) (hsh : IntKind.u64.wrap ((X + 53 + 1023) * 4503599627370496) = (v : Int))
    (hor : bits .or .u64 (cc : Int) (v : Int) = (z : Int)) (hu : ∀ w, arU .mul w 4368491638549381120 z = r) (hnn : (arD .mul 4368491638549381120 z).isNone = false) :
    Calls Try.prog 136 #[.float .f64 b, .int .i64 k] w fun en w' => en = .returned (.float .f64 r) ∧ w = w' := by
  have HI := Lib.hid hI; have HN := Lib.hid hN; have HM := Lib.hid hM
  have hw := wIf_off
  clear hI hN hM
  go_enter Try.func136, Try.ntmps136
  go_wp2_with fail
  refine (HI.out _).mono ?_
  rintro en w' ⟨rfl, rfl⟩
  go_wp2_with fail
  refine (HN.out _).mono ?_
  rintro en w' ⟨rfl, rfl⟩
  go_wp2_with fail
  refine (HM.out _).mono ?_
  rintro en w' ⟨rfl, rfl⟩
  go_wp2_with fail
  go_ret
  exact ⟨by first | rfl | simp, rfl⟩
set_option maxHeartbeats 1000000 in
theorem ldexp_nor (b y cc v z r : Nat) (k e0 F X : Int) (w : World) (hz : feq .f64 b 0 = false)
    (hI : ∀ w, Calls Try.prog 75 #[.float .f64 b, .int .i64 0] w fun en w' => en = .returned (.bool false) ∧ w = w')
    (hN : ∀ w, Calls Try.prog 132 #[.float .f64 b] w fun en w' => en = .returned (.bool false) ∧ w = w')
    (hM : ∀ w, Calls Try.prog 133 #[.float .f64 b] w fun en w' => en = .returned (.tuple #[.float .f64 y, .int .i64 e0]) ∧ w = w')
    (_x1 : -1075 ≤ X) (_x2 : X ≤ 1023) (_x3 : -1022 ≤ X) (_y1 : y < 18446744073709551616) (hE : k + e0 + (F - 1023) = X) (_k1 : -1099511627776 ≤ k) (_k2 : k ≤ 1099511627776) (_f1 : 0 ≤ F) (_f2 : F ≤ 2047) (_e : -4000 ≤ e0 ∧ e0 ≤ 4000)
    (hfld : bits .and .i64 ((y : Int) / 4503599627370496) 2047 = F) (hclr : bits .andNot .u64 (y : Int) 9218868437227405312 = (cc : Int)) (hsh : IntKind.u64.wrap ((X + 1023) * 4503599627370496) = (v : Int))
    (hor : bits .or .u64 (cc : Int) (v : Int) = (z : Int)) (hu : ∀ w, arU .mul w 4607182418800017408 z = r) (hnn : (arD .mul 4607182418800017408 z).isNone = false) :
    Calls Try.prog 136 #[.float .f64 b, .int .i64 k] w fun en w' => en = .returned (.float .f64 r) ∧ w = w' := by
  have HI := Lib.hid hI; have HN := Lib.hid hN; have HM := Lib.hid hM
  have hw := wIf_off
  clear hI hN hM
  go_enter Try.func136, Try.ntmps136
  go_wp2_with fail
  refine (HI.out _).mono ?_
  rintro en w' ⟨rfl, rfl⟩
  go_wp2_with fail
  refine (HN.out _).mono ?_
  rintro en w' ⟨rfl, rfl⟩
  go_wp2_with fail
  refine (HM.out _).mono ?_
  rintro en w' ⟨rfl, rfl⟩
  go_wp2_with fail
  go_ret
  exact ⟨by first | rfl | simp, rfl⟩


set_option maxHeartbeats 1000000 in
theorem mldexp_any (b : Nat) (k : Int) (w : World) (hf : finB b) (h0 : mantB b ≠ 0) (hk1 : -1099511627776 ≤ k) (hk2 : k ≤ 1099511627776) :
    Calls Try.prog 136 #[.float .f64 b, .int .i64 k] w fun en w' => en = .returned (.float .f64 (ldB b k)) ∧ w = w' := by
  obtain ⟨hb, hn, hi⟩ := hf
  have HI := Lib.hid fun w => minf_any b w hb
  have HN := Lib.hid fun w => mnan_any b w
  have HM := Lib.hid fun w => mnorm_any b w ⟨hb, hn, hi⟩ h0
  obtain ⟨n1, n2, n3, n4⟩ := nrm_bits b hn hi h0
  obtain ⟨m1, m2⟩ := nM_bd h0
  obtain ⟨m3, m4⟩ := nF_bd hn hi h0
  have hz : feq .f64 b 0 = false := by rw [feq_zero b hb]; exact decide_eq_false fun h => h0 (mant_zero.2 h)
  have hrk := rnd_nM h0 k
  have hlb : -1100 ≤ lgB b ∧ lgB b ≤ 1100 := by
    have := log_lt h0
    have := place_lt b
    unfold lgB; omega
  rw [hn] at HN
  rw [hi] at HI
  have hfld : bits .and .i64 ((wrd (negB b) (nrm b) : Int) / 4503599627370496) 2047 = ((nF b : Nat) : Int) := by
    rw [show (wrd (negB b) (nrm b) : Int) / 4503599627370496 = ((wrd (negB b) (nrm b) / 4503599627370496 : Nat) : Int) by omega]
    rw [i64_field _ (by omega)]
    exact congrArg _ n2
  have hclr := u64_clear _ n1
  rw [n3] at hclr
  have hcs : csN 0 (wrd (negB b) (nrm b)) = wrd (negB b) 0 := by unfold csN; rw [n4]
  have hlt : flt .f64 (wrd (negB b) (nrm b)) 0 = negB b := by
    rw [flt64]
    have h5 : nrm b < 9218868437227405312 := by unfold nrm; omega
    have k0 : key64 0 = 0 := rfl
    have n0 : nan64 0 = false := rfl
    have h6 := nan_wrd (negB b) (nrm b) (by omega)
    rw [h6, n0, k0]
    have h7 : 0 < nrm b := by unfold nrm; omega
    unfold key64
    rw [(wrd_lt (negB b) (nrm b) (by omega)).2.1]
    have h8 := neg_div _ n1
    rw [n4] at h8
    by_cases hh : wrd (negB b) (nrm b) / 9223372036854775808 % 2 = 1
    · rw [if_pos hh, h8.1 hh]; simp [h7]
    · rw [if_neg hh]
      have : negB b = false := by cases h : negB b; rfl; exact absurd (h8.2 h) hh
      rw [this]; simp
  have HC := Lib.hid fun w => mcopy_any 0 (wrd (negB b) (nrm b)) w (by omega) n1
  rw [hcs] at HC
  unfold ldB
  rw [← hrk]
  clear hrk hcs
  have hx0 : lgB b - ((nF b : Int) - 1023) + ((nF b : Int) - 1023) = lgB b := by omega
  obtain ⟨s, hs, hs1⟩ : ∃ s : Nat, s = wrd (negB b) (nrm b) / 9223372036854775808 ∧ ((negB b = true ∧ s = 1) ∨ (negB b = false ∧ s = 0)) := by
    refine ⟨_, rfl, ?_⟩
    have h5 : nrm b < 9223372036854775808 := by unfold nrm; omega
    unfold wrd
    cases negB b
    · right; refine ⟨rfl, ?_⟩; simp; omega
    · left; refine ⟨rfl, ?_⟩; simp; omega
  rw [← hs] at hclr
  clear hs n2 n3 n4
  generalize hM : nM b = M at *
  generalize hX : lgB b = l at *
  generalize nF b = F at *
  generalize wrd (negB b) (nrm b) = y at *
  clear hM hX h0 hn hi hb
  have n1' : y < 18446744073709551616 := n1
  clear n1
  by_cases c1 : k + l < -1075
  · have hr := rnd_under M (k + l - 52) m1 m2 (by omega)
    rw [hr]
    generalize wrd (negB b) 0 = z at *
    have c2 : k + (l - ((F : Int) - 1023)) + ((F : Int) - 1023) < -1075 := by omega
    clear hclr hs1 hlt
    go_enter Try.func136, Try.ntmps136
    go_wp2_with fail
    refine (HI.out _).mono ?_
    rintro en w' ⟨rfl, rfl⟩
    go_wp2_with fail
    refine (HN.out _).mono ?_
    rintro en w' ⟨rfl, rfl⟩
    go_wp2_with fail
    refine (HM.out _).mono ?_
    rintro en w' ⟨rfl, rfl⟩
    go_wp2_with fail
    refine (HC.out _).mono ?_
    rintro en w' ⟨rfl, rfl⟩
    go_wp2_with fail
    go_ret
    exact ⟨by first | rfl | simp, rfl⟩
  · by_cases c2 : 1023 < k + l
    · have hr := rnd_over M (k + l - 52) m1 (by omega)
      rw [hr]
      have c3 : ¬ k + (l - ((F : Int) - 1023)) + ((F : Int) - 1023) < -1075 := by omega
      have c4 : 1023 < k + (l - ((F : Int) - 1023)) + ((F : Int) - 1023) := by omega
      clear hclr
      cases hng : negB b
      · rw [hng] at hlt
        clear hs1
        go_enter Try.func136, Try.ntmps136
        go_wp2_with fail
        refine (HI.out _).mono ?_
        rintro en w' ⟨rfl, rfl⟩
        go_wp2_with fail
        refine (HN.out _).mono ?_
        rintro en w' ⟨rfl, rfl⟩
        go_wp2_with fail
        refine (HM.out _).mono ?_
        rintro en w' ⟨rfl, rfl⟩
        go_wp2_with fail
        refine (minfv_any _).mono ?_
        rintro en w' ⟨rfl, rfl⟩
        go_wp2_with fail
        go_ret
        exact ⟨by first | rfl | simp, rfl⟩
      · rw [hng] at hlt
        clear hs1
        go_enter Try.func136, Try.ntmps136
        go_wp2_with fail
        refine (HI.out _).mono ?_
        rintro en w' ⟨rfl, rfl⟩
        go_wp2_with fail
        refine (HN.out _).mono ?_
        rintro en w' ⟨rfl, rfl⟩
        go_wp2_with fail
        refine (HM.out _).mono ?_
        rintro en w' ⟨rfl, rfl⟩
        go_wp2_with fail
        refine (mninf_any _).mono ?_
        rintro en w' ⟨rfl, rfl⟩
        go_wp2_with fail
        go_ret
        exact ⟨by first | rfl | simp, rfl⟩
    · clear hlt HC
      have c3 : ¬ k + (l - ((F : Int) - 1023)) + ((F : Int) - 1023) < -1075 := by omega
      have c4 : ¬ 1023 < k + (l - ((F : Int) - 1023)) + ((F : Int) - 1023) := by omega
      by_cases c5 : k + l < -1022
      · obtain ⟨G, hG⟩ : ∃ G : Nat, (G : Int) = k + l + 53 + 1023 := ⟨(k + l + 53 + 1023).toNat, by omega⟩
        have hmul := mul_pow 970 G M (negB b) (by omega) (by omega) (by omega) (by omega) m1 m2
        rw [show ((970 : Nat) : Int) + (G : Int) - 2098 = k + l - 52 by omega] at hmul
        have hwr : wrd (negB b) (G * 4503599627370496 + (M - 4503599627370496)) = s * 9223372036854775808 + (M - 4503599627370496) ||| G * 4503599627370496 := by
          have e1 := Nat.two_pow_add_eq_or_of_lt (i := 52) (b := M - 4503599627370496) (by omega) G
          have e2 := Nat.two_pow_add_eq_or_of_lt (i := 63) (b := M - 4503599627370496) (by omega) s
          have e3 := Nat.two_pow_add_eq_or_of_lt (i := 63) (b := G * 4503599627370496 + (M - 4503599627370496)) (by omega) s
          rw [show (2 : Nat) ^ 52 = 4503599627370496 from rfl, Nat.mul_comm 4503599627370496 G] at e1
          rw [show (2 : Nat) ^ 63 = 9223372036854775808 from rfl, Nat.mul_comm 9223372036854775808 s] at e2 e3
          rw [e2, Nat.or_assoc, Nat.or_comm (M - 4503599627370496), ← e1, ← e3]
          unfold wrd
          rcases hs1 with ⟨h1, h2⟩ | ⟨h1, h2⟩
          · rw [h1, h2, if_pos rfl, Nat.one_mul]
          · rw [h1, h2, if_neg (by simp), Nat.zero_mul, Nat.zero_add]
        have hor := or64 (a := s * 9223372036854775808 + (M - 4503599627370496)) (b := G * 4503599627370496) (by omega) (by omega)
        rw [← hwr] at hor
        have hsh := shl52 G (by omega)
        exact ldexp_sub b y _ _ _ _ k _ _ (k + l) w hz HI.out HN.out HM.out (by omega) (by omega) (by omega) n1' (by omega) hk1 hk2 (by omega) (by omega) (by omega) hfld hclr (by rw [← hG]; exact hsh) hor (arU_some hmul) (arN_some hmul)
      · obtain ⟨G, hG⟩ : ∃ G : Nat, (G : Int) = k + l + 1023 := ⟨(k + l + 1023).toNat, by omega⟩
        have hmul := mul_pow 1023 G M (negB b) (by omega) (by omega) (by omega) (by omega) m1 m2
        rw [show ((1023 : Nat) : Int) + (G : Int) - 2098 = k + l - 52 by omega] at hmul
        have hwr : wrd (negB b) (G * 4503599627370496 + (M - 4503599627370496)) = s * 9223372036854775808 + (M - 4503599627370496) ||| G * 4503599627370496 := by
          have e1 := Nat.two_pow_add_eq_or_of_lt (i := 52) (b := M - 4503599627370496) (by omega) G
          have e2 := Nat.two_pow_add_eq_or_of_lt (i := 63) (b := M - 4503599627370496) (by omega) s
          have e3 := Nat.two_pow_add_eq_or_of_lt (i := 63) (b := G * 4503599627370496 + (M - 4503599627370496)) (by omega) s
          rw [show (2 : Nat) ^ 52 = 4503599627370496 from rfl, Nat.mul_comm 4503599627370496 G] at e1
          rw [show (2 : Nat) ^ 63 = 9223372036854775808 from rfl, Nat.mul_comm 9223372036854775808 s] at e2 e3
          rw [e2, Nat.or_assoc, Nat.or_comm (M - 4503599627370496), ← e1, ← e3]
          unfold wrd
          rcases hs1 with ⟨h1, h2⟩ | ⟨h1, h2⟩
          · rw [h1, h2, if_pos rfl, Nat.one_mul]
          · rw [h1, h2, if_neg (by simp), Nat.zero_mul, Nat.zero_add]
        have hor := or64 (a := s * 9223372036854775808 + (M - 4503599627370496)) (b := G * 4503599627370496) (by omega) (by omega)
        rw [← hwr] at hor
        have hsh := shl52 G (by omega)
        exact ldexp_nor b y _ _ _ _ k _ _ (k + l) w hz HI.out HN.out HM.out (by omega) (by omega) (by omega) n1' (by omega) hk1 hk2 (by omega) (by omega) (by omega) hfld hclr (by rw [← hG]; exact hsh) hor (arU_some hmul) (arN_some hmul)

theorem mLdexp_any (b : Nat) (k : Int) (w : World) (hf : finB b) (hk1 : -1099511627776 ≤ k) (hk2 : k ≤ 1099511627776) :
    Calls Try.prog 126 #[.float .f64 b, .int .i64 k] w fun en w' => en = .returned (.float .f64 (ldB b k)) ∧ w = w' := by
  have H : Hid (∀ w, Calls Try.prog 136 #[.float .f64 b, .int .i64 k] w fun en w' => en = .returned (.float .f64 (ldB b k)) ∧ w = w') := Lib.hid (fun w => by
    by_cases h0 : mantB b = 0
    · rw [ldB_zero hf.1 h0]
      have hz : feq .f64 b 0 = true := by rw [feq_zero b hf.1]; exact decide_eq_true (mant_zero.1 h0)
      clear hf h0
      go_enter Try.func136, Try.ntmps136
      go_wp2_with fail
      go_ret
      exact ⟨by first | rfl | simp, rfl⟩
    · exact mldexp_any b k w hf h0 hk1 hk2)
  generalize ldB b k = r at *
  clear hf
  go_enter Try.func126, Try.ntmps126
  go_wp2_with fail
  refine (H.out _).mono ?_
  rintro en w' ⟨rfl, rfl⟩
  go_wp2_with fail
  go_ret
  exact ⟨by first | rfl | simp, rfl⟩
end Go.Proofs.Ytjakjnmfndfehaa
