/- Squares, roots, remainders, both of Modf, and 53 bits: the law RealSquares returns true for every input. No condition. -/
import Derived.Test.YtpemchghaddgdaaFt
import Derived.Test.YtpemchghaddgdaaQa
import Derived.Test.YtpemchghaddgdaaHd
import Derived.Test.YtpemchghaddgdaaLaw
import Derived.Deep.DeepCutAuto
import Derived.Deep.CutBlock
namespace Go.Proofs.Ytpemchghaddgdaa
open Go.RowKit Go.Pst Go.ChangeShapes Go.WideShapes Go.ChangeAt Go.Joins Go.Deep
set_option maxRecDepth 100000
set_option linter.unusedSimpArgs false
set_option linter.unusedVariables false
attribute [local go_sem] x64bits x64from run_fsub run_fadd run_fmul run_fquo

theorem msign_any (b : Nat) (w : World) (hb : b < 2 ^ 64) : Calls Try.prog 49 #[.float .f64 b] w fun en w' => en = .returned (.bool (negB b)) ∧ w = w' := by
  have h : IntKind.i64.wrap (b : Int) < 0 ↔ negB b = true := by
    rw [IntKind.wrap_i64]; unfold negB; rw [decide_eq_true_eq]; omega
  obtain ⟨x, hx⟩ : ∃ x, x = IntKind.i64.wrap (b : Int) := ⟨_, rfl⟩
  rw [← hx] at h
  have hx' := hx.symm
  clear hx hb
  cases hn : negB b
  · rw [hn] at h
    have h2 : ¬ x < 0 := fun e => by simpa using h.1 e
    clear h hn
    go_enter Try.func49, Try.ntmps49
    go_wp2_with fail
    go_ret
    exact ⟨by first | rfl | simp [hx'], rfl⟩
  · rw [hn] at h
    have h2 : x < 0 := h.2 rfl
    clear h hn
    go_enter Try.func49, Try.ntmps49
    go_wp2_with fail
    go_ret
    exact ⟨by first | rfl | simp [hx'], rfl⟩

/-- Sqrt where it is a number. -/
theorem sqrt_num (b : Nat) (w : World) (h : nan64 (sqV b) = false) : Calls Try.prog 45 #[.float .f64 b] w fun en w' => en = .returned (.float .f64 (sqV b)) ∧ Below w.heap.size w w' :=
  (sqrt_any b w).mono fun en w' ⟨u, e1, e2, e3⟩ => ⟨by rw [e1, cn_eq (e2.trans (cn_of _ h)) h], e3⟩

theorem fin_cases (b : Nat) (hb : b < 2 ^ 64) : finB b ∨ (nan64 b = true ∨ infB b = true) := by
  cases h1 : nan64 b
  · cases h2 : infB b
    · exact .inl ⟨hb, h1, h2⟩
    · exact .inr (.inr rfl)
  · exact .inr (.inl rfl)

theorem feq_nan' {x y : Nat} (h : nan64 x = true) : feq .f64 x y = false := by rw [feq64, h]; rfl

/-- x - x is 0 just of finite ones. -/
theorem self_test (b : Nat) (hb : b < 2 ^ 64) : (finB b ∧ (∀ w, arU .sub w b b = 0) ∧ (arD .sub b b).isNone = false) ∨ (¬ finB b ∧ (∀ w, feq .f64 (arU .sub w b b) 0 = false) ∧ (arD .sub b b).isNone = true) := by
  rcases fin_cases b hb with h | h
  · exact .inl ⟨h, arU_some (subself_fin h), arN_some (subself_fin h)⟩
  · right
    have hd := subself_nan hb h
    refine ⟨fun hf => ?_, fun w => feq_nan' (arU_none hd w), by rw [hd]; rfl⟩
    rcases h with h | h
    · rw [hf.2.1] at h; cases h
    · rw [hf.2.2] at h; cases h

theorem trR_fin {b : Nat} (hf : finB b) : finB (trR b) ∧ negB (trR b) = negB b ∧ valZ (trR b) = sgn (negB b) (mantB b % 2 ^ (1074 - placeB b) * 2 ^ placeB b) := by
  have hp : placeB b ≤ 2045 := by have := fin_lt hf; unfold placeB expF; omega
  have hrep : Rep (mantB b % 2 ^ (1074 - placeB b) * 2 ^ placeB b) := rep_mul _ _ (Nat.lt_of_le_of_lt (Nat.mod_le _ _) (mant_lt b)) hp
  have e : trR b = zF (negB b) (mantB b % 2 ^ (1074 - placeB b) * 2 ^ placeB b) := by
    unfold trR zF
    rw [if_neg (by rw [hf.2.1]; simp), hf.2.2]
    by_cases h : 1074 ≤ placeB b
    · rw [if_pos (by rw [decide_eq_true h]; simp), show 1074 - placeB b = 0 by omega, Nat.pow_zero, Nat.mod_one, Nat.zero_mul]
      rfl
    · rw [if_neg (by rw [decide_eq_false h]; simp), rnd_rz]
  rw [e]
  obtain ⟨g1, g2, g3, g4⟩ := zF_fin hrep (negB b)
  exact ⟨g1, g2, g3⟩

theorem valZ_one : valZ 4607182418800017408 = ((2 ^ K74 : Nat) : Int) := by
  have h := (fl_fin (n := 1) (by omega)).2.2
  have e : fl 1 = 4607182418800017408 := by decide +kernel
  rw [e, Nat.one_mul] at h
  exact h

/-- What Modf leaves adds up. -/
theorem modf_sum {b : Nat} (hf : finB b) : ∃ z, arD .add (trB b) (trR b) = some z ∧ fne .f64 z b = false ∧ (fgt .f64 (trR b % 9223372036854775808) 4607182418800017408 || feq .f64 (trR b % 9223372036854775808) 4607182418800017408) = false := by
  obtain ⟨t1, t2, t3⟩ := trB_fin hf
  obtain ⟨r1, r2, r3⟩ := trR_fin hf
  have hs : valZ (trB b) + valZ (trR b) = valZ b := by
    rw [t3, r3, valZ_eq b]
    have h := Nat.div_add_mod (mantB b) (2 ^ (1074 - placeB b))
    have h2 : mantB b * 2 ^ placeB b = mantB b / 2 ^ (1074 - placeB b) * 2 ^ (1074 - placeB b) * 2 ^ placeB b + mantB b % 2 ^ (1074 - placeB b) * 2 ^ placeB b := by
      rw [← Nat.add_mul, Nat.mul_comm (mantB b / 2 ^ (1074 - placeB b)), h]
    rw [h2]
    unfold sgn
    generalize mantB b / 2 ^ (1074 - placeB b) * 2 ^ (1074 - placeB b) * 2 ^ placeB b = x
    generalize mantB b % 2 ^ (1074 - placeB b) * 2 ^ placeB b = y
    cases negB b <;> simp <;> omega
  obtain ⟨z, e1, f1, v1, -⟩ := add_exact t1 r1 (by rw [hs, ← mag_abs]; exact (rep_mag hf).1)
  refine ⟨z, e1, ?_, ?_⟩
  · rw [fne64, feq_fin f1 hf, v1, hs]; simp
  · have hlt := fin_lt r1
    have ha : finB (trR b % 9223372036854775808) := ⟨by omega, by unfold nan64; rw [Nat.mod_mod]; exact decide_eq_false (by omega), by unfold infB; rw [Nat.mod_mod]; exact decide_eq_false (by omega)⟩
    have h1 : finB 4607182418800017408 := ⟨by decide, by decide, by decide⟩
    have hneg : negB (trR b % 9223372036854775808) = false := by unfold negB; exact decide_eq_false (by omega)
    have hva : valZ (trR b % 9223372036854775808) = ((mantB b % 2 ^ (1074 - placeB b) * 2 ^ placeB b : Nat) : Int) := by
      have h2 := valZ_mag (trR b % 9223372036854775808)
      have h3 : magN (trR b % 9223372036854775808) = magN (trR b) := by rw [magN_rv, magN_rv, Nat.mod_mod]
      have h4 := mag_abs (trR b)
      rw [r3] at h4
      rw [hneg, h3, h4] at h2
      rw [h2, sgn_false]
      unfold sgn
      generalize mantB b % 2 ^ (1074 - placeB b) * 2 ^ placeB b = y
      cases negB b <;> simp
    rw [ge_fin ha h1, hva, valZ_one]
    refine decide_eq_false (fun hh => ?_)
    have hlt2 : mantB b % 2 ^ (1074 - placeB b) * 2 ^ placeB b < 2 ^ K74 := by
      by_cases h : 1074 ≤ placeB b
      · rw [show 1074 - placeB b = 0 by omega, Nat.pow_zero, Nat.mod_one, Nat.zero_mul]; exact Nat.two_pow_pos _
      · have h5 : mantB b % 2 ^ (1074 - placeB b) < 2 ^ (1074 - placeB b) := Nat.mod_lt _ (Nat.two_pow_pos _)
        have h6 : mantB b % 2 ^ (1074 - placeB b) * 2 ^ placeB b < 2 ^ (1074 - placeB b) * 2 ^ placeB b := Nat.mul_lt_mul_of_pos_right h5 (Nat.two_pow_pos _)
        rw [← Nat.pow_add] at h6
        have h7 : 1074 - placeB b + placeB b = K74 := by have : K74 = 1074 := rfl; omega
        rw [h7] at h6
        exact h6
    omega

/-- A remainder is no more than half. -/
theorem rem_half {a b : Nat} (ha : finB a) (hb : finB b) (hb0 : mantB b ≠ 0) : nan64 (remB a b) = false ∧ remB a b < 2 ^ 64 ∧ ∃ z, arD .sub (b % 9223372036854775808) (remB a b % 9223372036854775808) = some z ∧
    (flt .f64 (remB a b % 9223372036854775808) z || feq .f64 (remB a b % 9223372036854775808) z) = true := by
  have hY : 0 < magN b := mag_pos.2 hb0
  obtain ⟨h1, h2⟩ := remT_bound (magN a) (magN b) (by omega) (by omega)
  have hrep := rep_rem ha hb hY
  have hv : remB a b = zF (if remT (magN a) (magN b) = 0 then negB a else (decide (remT (magN a) (magN b) < 0) ^^ negB a)) (remT (magN a) (magN b)).natAbs := by
    unfold remB zF
    rw [if_neg (by rw [ha.2.1, hb.2.1, ha.2.2, decide_eq_false hb0]; simp), if_neg (by rw [hb.2.2]; simp)]
  rw [hv]
  obtain ⟨g1, g2, g3, g4⟩ := zF_fin hrep (if remT (magN a) (magN b) = 0 then negB a else (decide (remT (magN a) (magN b) < 0) ^^ negB a))
  have gm := (rep_mag g1).2
  rw [g4] at gm
  generalize zF (if remT (magN a) (magN b) = 0 then negB a else (decide (remT (magN a) (magN b) < 0) ^^ negB a)) (remT (magN a) (magN b)).natAbs = u at *
  generalize (remT (magN a) (magN b)).natAbs = R at *
  have am : rz (magN b) = b % 9223372036854775808 := (rep_mag hb).2
  refine ⟨g1.2.1, g1.1, ?_⟩
  rw [← gm, ← am]
  obtain ⟨p1, p2, p3, p4⟩ := zF_fin hrep false
  obtain ⟨q1, q2, q3, q4⟩ := zF_fin (rep_mag hb).1 false
  have hwf : ∀ r, wrd false r = r := fun r => rfl
  have ez : ∀ n, zF false n = rz n := fun n => by unfold zF; rw [hwf]
  rw [ez] at p1 p2 p3 q1 q2 q3
  refine ⟨_, sub_fin' q1 p1, ?_⟩
  rw [q3, p3, sgn_false, sgn_false, q2, p2]
  have hs : (if ((magN b : Nat) : Int) - (R : Int) = 0 then false && !false else decide (((magN b : Nat) : Int) - (R : Int) < 0)) = false := by
    split
    · rfl
    · exact decide_eq_false (by omega)
  rw [hs, show (((magN b : Nat) : Int) - (R : Int)).natAbs = magN b - R by omega]
  rw [hwf, (word_cmp (rz_le_inf _) (rz_le_inf _)).2.1]
  exact decide_eq_true (rz_mono (by omega))

/-- To 53 bits a number is what it was. -/
theorem bits_same {b : Nat} (hb : b < 2 ^ 64) (hn : nan64 b = false) : bitsN b 52 = b := by
  have hi : intoN 52 11 0 b = b := by
    unfold intoN
    rw [if_neg (by rw [hn]; simp)]
    cases hib : infB b
    · rw [if_neg (by simp), rnd_read b hb hn hib, wrd_signed _ _ (Nat.mod_lt _ (by omega)), wrd_mod b hb]
    · rw [if_pos rfl, inf64, wrd_signed _ _ (by omega)]
      have := wrd_mod b hb
      unfold infB at hib
      rw [of_decide_eq_true hib] at this
      exact this
  unfold bitsN
  rw [hi]
  unfold fromN
  have hng : nanG 52 11 b = false := by
    unfold nan64 at hn
    simp only [decide_eq_false_iff_not] at hn
    unfold nanG
    rw [Bool.and_eq_false_iff]
    by_cases h : b / 2 ^ 52 % 2 ^ 11 = 2 ^ 11 - 1
    · right
      simp only [show (2 : Nat) ^ 52 = 4503599627370496 from rfl, show (2 : Nat) ^ 11 = 2048 from rfl] at *
      exact decide_eq_false (by omega)
    · left; exact decide_eq_false h
  rw [if_neg (by rw [hng]; simp)]
  have hs : negG 52 11 b = negB b := by
    unfold negG negB
    rw [show (2 : Nat) ^ (52 + 11) = 9223372036854775808 from rfl, Bool.eq_iff_iff]
    simp; omega
  rw [hs]
  have hm63 : b % 2 ^ (52 + 11) = b % 9223372036854775808 := rfl
  cases hig : infG 52 11 b
  · have := rnd_self 52 11 b (by omega) (by omega) hig
    rw [if_neg (by simp), this, hm63, wrd_signed _ _ (Nat.mod_lt _ (by omega)), wrd_mod b hb]
  · have h1 := split_mod 52 11 b (by omega)
    rw [hm63] at h1
    unfold infG at hig
    unfold nanG at hng
    simp only [decide_eq_true_eq] at hig
    rw [hig] at hng h1
    simp only [decide_true, Bool.true_and, decide_eq_false_iff_not, ne_eq, Decidable.not_not] at hng
    rw [hng, inf64, Nat.add_zero] at h1
    rw [if_pos rfl, wrd_signed _ _ (by omega), ← h1, wrd_mod b hb]

set_option maxHeartbeats 4000000 in
theorem realSquares_walk (a b : Nat) (n : Int) (w : World) (ha : a < 2 ^ 64) (hb : b < 2 ^ 64) (hn1 : -2147483648 ≤ n) (hn2 : n < 2147483648) :
    Calls Try.prog 8 #[.int .u64 a, .int .u64 b, .int .i32 n] w fun en w' => en = .returned (.bool true) ∧ Below w.heap.size w w' := by
  obtain ⟨k, hfi⟩ : ∃ k, floatOfInt .f64 n = k := ⟨_, rfl⟩
  have HK : Hid (k = wrd (decide (n < 0)) (fl n.natAbs)) := Lib.hid (by rw [← hfi]; exact near_fl n)
  go_enter Try.func8, Try.ntmps8
  go_upto_region 5 with (refine (awake_any _).mono ?_; rintro en wn ⟨rfl, hbn⟩)
  have HB0 := Lib.hid hbn
  clear hbn
  go_cut [37] (fun s wx => s = .bool false ∧ Below w.heap.size w wx)
  case first =>
    clear hfi
    by_cases h1 : n ≤ -67108864
    · have h2 : decide (-67108864 < n) = false := decide_eq_false (by omega)
      clear h1
      go_wp2_with fail
      go_meet
      case rel => exact ⟨rfl, HB0.out⟩
    · by_cases h2 : 67108864 ≤ n
      · have h3 : decide (-67108864 < n) = true := decide_eq_true (by omega)
        have h4 : decide (n < 67108864) = false := decide_eq_false (by omega)
        clear h1 h2
        go_wp2_with fail
        go_meet
        case rel => exact ⟨rfl, HB0.out⟩
      · have h3 : decide (-67108864 < n) = true := decide_eq_true (by omega)
        have h4 : decide (n < 67108864) = true := decide_eq_true (by omega)
        have hm : n.natAbs < 67108864 := by omega
        have hd := mul_self_fl n hm
        rw [← HK.out] at hd
        have hu := arU_some hd
        have hz := arN_some hd
        have hsq := sqrt_square n.natAbs hm
        obtain ⟨w1, w2, w3⟩ := fl_word (m := n.natAbs) (by omega)
        have hns : nan64 (sqV (fl (n.natAbs * n.natAbs))) = false := by rw [hsq]; exact (word_cmp (Nat.le_of_lt w1) (Nat.le_refl _)).2.2
        have HS := Lib.hid fun w => sqrt_num (fl (n.natAbs * n.natAbs)) w hns
        rw [hsq] at HS
        obtain ⟨g1, g2, g3⟩ := wrd_lt (decide (n < 0)) (fl n.natAbs) (by omega)
        have HA := Lib.hid fun w => mabs_any (wrd (decide (n < 0)) (fl n.natAbs)) w g1
        rw [g2, ← HK.out] at HA
        clear HK
        have hne : fne .f64 (fl n.natAbs) (fl n.natAbs) = false := by rw [fne_self]; exact (word_cmp (Nat.le_of_lt w1) (Nat.le_refl _)).2.2
        have hw := wIf_off
        clear h1 h2 hm hd hsq w1 w2 w3 hns g1 g2 g3
        generalize fl (n.natAbs * n.natAbs) = q at *
        generalize fl n.natAbs = m at *
        go_wp2_with fail
        refine (HS.out _).mono ?_
        rintro en wm ⟨rfl, hbm⟩
        have HB1 := Lib.hid hbm
        clear hbm
        go_wp2_with fail
        refine (HA.out _).mono ?_
        rintro en wp ⟨rfl, rfl⟩
        go_wp2_with fail
        go_meet
        case rel => exact ⟨by first | rfl | simp, HB0.out.trans (HB1.out.mono HB0.out.size)⟩
  case rest =>
    obtain ⟨rfl, hb0⟩ := hcut
    have HB1 := Lib.hid hb0
    clear hb0 HB0
    go_upto_region 7 with (fail)
    go_cut [51] (fun s wx => s = .bool false ∧ Below w.heap.size w wx)
    case first =>
      cases h1 : (fgt .f64 a 0 || feq .f64 a 0)
      · go_wp2_with fail
        go_meet
        case rel => exact ⟨rfl, HB1.out⟩
      · cases h2 : (fgt .f64 b a || feq .f64 b a)
        · go_wp2_with fail
          go_meet
          case rel => exact ⟨rfl, HB1.out⟩
        · obtain ⟨r1, r2, r3⟩ := roots_rise ha hb h1 h2
          have HSA := Lib.hid fun w => sqrt_num a w r1
          have HSB := Lib.hid fun w => sqrt_num b w r2
          clear r1 r2
          generalize sqV a = sa at *
          generalize sqV b = sb at *
          go_wp2_with fail
          refine (HSB.out _).mono ?_
          rintro en wm ⟨rfl, hbm⟩
          have HB2 := Lib.hid (HB1.out.trans (hbm.mono HB1.out.size))
          clear hbm
          go_wp2_with fail
          refine (HSA.out _).mono ?_
          rintro en wm ⟨rfl, hbm⟩
          have HB3 := Lib.hid (HB2.out.trans (hbm.mono HB2.out.size))
          clear hbm
          go_wp2_with fail
          go_meet
          case rel => exact ⟨by first | rfl | simp [r3], HB3.out⟩
    case rest =>
      obtain ⟨rfl, hb0⟩ := hcut
      have HB2 := Lib.hid hb0
      clear hb0 HB1
      have HR := Lib.hid fun w => realRem_any a b w ha hb
      go_upto_region 10 with (refine (HR.out _).mono ?_; rintro en wn ⟨u, rfl, hu, rfl⟩)
      have HU := Lib.hid hu
      clear hu
      go_cut [87] (fun s wx => s = .bool false ∧ Below w.heap.size w wx)
      case first =>
        rcases self_test a ha with ⟨fa, ua, za⟩ | ⟨fa, ua, za⟩
        · have e00 : feq .f64 0 0 = true := by decide
          have hw := wIf_off
          rcases self_test b hb with ⟨fb, ub, zb⟩ | ⟨fb, ub, zb⟩
          · by_cases hb0 : mantB b = 0
            · have hnz : fne .f64 b 0 = false := by rw [fne64, feq_zero b hb, decide_eq_true (mant_zero.1 hb0)]; rfl
              clear fa fb hb0
              go_wp2_with fail
              go_meet
              case rel => exact ⟨rfl, HB2.out⟩
            · have hnz : fne .f64 b 0 = true := by rw [fne64, feq_zero b hb, decide_eq_false (fun h => hb0 (mant_zero.2 h))]; rfl
              obtain ⟨r1, r2, z, r3, r4⟩ := rem_half fa fb hb0
              have hu : u = remB a b := cn_eq (HU.out.trans (cn_of _ r1)) r1
              subst hu
              have uz := arU_some r3
              have zz := arN_some r3
              have HA1 := Lib.hid fun w => mabs_any (remB a b) w r2
              have HA2 := Lib.hid fun w => mabs_any b w hb
              clear fa fb hb0 r1 r2 r3 HU
              generalize remB a b = u at *
              generalize u % 9223372036854775808 = um at *
              generalize b % 9223372036854775808 = bm at *
              go_wp2_with fail
              refine (HA1.out _).mono ?_
              rintro en wp ⟨rfl, rfl⟩
              go_wp2_with fail
              refine (HA2.out _).mono ?_
              rintro en wp ⟨rfl, rfl⟩
              go_wp2_with fail
              refine (HA1.out _).mono ?_
              rintro en wp ⟨rfl, rfl⟩
              go_wp2_with fail
              go_meet
              case rel => exact ⟨by first | rfl | simp [r4], HB2.out⟩
          · have HBD := Lib.hid fun w' (h : Below w.heap.size w w') => h.trans ((wIf_refl true w').mono h.size)
            clear fa fb
            go_wp2_with fail
            go_meet
            case rel => exact ⟨rfl, HBD.out _ HB2.out⟩
        · have HBD := Lib.hid fun w' (h : Below w.heap.size w w') => h.trans ((wIf_refl true w').mono h.size)
          clear fa
          go_wp2_with fail
          go_meet
          case rel => exact ⟨rfl, HBD.out _ HB2.out⟩
      case rest =>
        obtain ⟨rfl, hb0⟩ := hcut
        have HB3 := Lib.hid hb0
        clear hb0 HB2 HR HU
        have HM := Lib.hid fun w => modf_any a w ha
        go_upto_region 13 with (refine (HM.out _).mono ?_; rintro en wn ⟨x, y, rfl, hx, hy, hbn⟩)
        have HX := Lib.hid hx
        have HY := Lib.hid hy
        have HB4 := Lib.hid (HB3.out.trans (hbn.mono HB3.out.size))
        clear hx hy hbn
        go_cut [122] (fun s wx => s = .bool false ∧ Below w.heap.size w wx)
        case first =>
          rcases self_test a ha with ⟨fa, ua, za⟩ | ⟨fa, ua, za⟩
          · have e00 : feq .f64 0 0 = true := by decide
            have hw := wIf_off
            obtain ⟨t1, t2, t3⟩ := trB_fin fa
            obtain ⟨r1, r2, r3⟩ := trR_fin fa
            obtain ⟨z, s1, s2, s3⟩ := modf_sum fa
            have hx : x = trB a := cn_eq (HX.out.trans (cn_of _ t1.2.1)) t1.2.1
            have hy : y = trR a := cn_eq (HY.out.trans (cn_of _ r1.2.1)) r1.2.1
            subst hx hy
            have uz := arU_some s1
            have zz := arN_some s1
            have HA1 := Lib.hid fun w => mabs_any (trR a) w r1.1
            have HG1 := Lib.hid fun w => msign_any (trB a) w t1.1
            have HG2 := Lib.hid fun w => msign_any (trR a) w r1.1
            have HG3 := Lib.hid fun w => msign_any a w ha
            rw [t2] at HG1
            rw [r2] at HG2
            clear t1 t2 t3 r1 r2 r3 s1 HX HY fa
            generalize negB a = na at *
            generalize trR a % 9223372036854775808 = rm at *
            generalize trB a = tb at *
            generalize trR a = tr at *
            go_wp2_with fail
            refine (HA1.out _).mono ?_
            rintro en wp ⟨rfl, rfl⟩
            go_wp2_with fail
            refine (HG1.out _).mono ?_
            rintro en wp ⟨rfl, rfl⟩
            go_wp2_with fail
            refine (HG3.out _).mono ?_
            rintro en wp ⟨rfl, rfl⟩
            go_wp2_with fail
            refine (HG2.out _).mono ?_
            rintro en wp ⟨rfl, rfl⟩
            go_wp2_with fail
            refine (HG3.out _).mono ?_
            rintro en wp ⟨rfl, rfl⟩
            go_wp2_with fail
            go_meet
            case rel => exact ⟨by first | rfl | simp, HB4.out⟩
          · have HBD := Lib.hid fun w' (h : Below w.heap.size w w') => h.trans ((wIf_refl true w').mono h.size)
            clear fa
            go_wp2_with fail
            go_meet
            case rel => exact ⟨rfl, HBD.out _ HB4.out⟩
        case rest =>
          obtain ⟨rfl, hb0⟩ := hcut
          have HB5 := Lib.hid hb0
          clear hb0 HB4 HM HX HY HB3
          have hbits : ∀ w, Calls Try.prog 50 #[.float .f64 a, .int .i64 53] w fun en w' => en = .returned (.tuple #[.float .f64 a, .int .i64 0]) ∧ Below w.heap.size w w' := fun w => by
            have h := bits_in a 52 w (by omega) (by omega) ha
            have e : (if nan64 a then a else bitsN a 52) = a := by
              cases hn : nan64 a
              · rw [if_neg (by simp)]; exact bits_same ha hn
              · rw [if_pos rfl]
            rw [e] at h
            exact h
          have HBI := Lib.hid hbits
          have HG := Lib.hid fun w => msign_any a w ha
          clear hbits hfi
          have hself := fne_self a
          have hfe : feq .f64 a a = !nan64 a := by rw [feq64]; cases nan64 a <;> simp
          generalize negB a = na at *
          cases hn : nan64 a
          · rw [hn] at hself hfe
            clear hn
            go_wp2_with fail
            refine (HBI.out _).mono ?_
            rintro en wm ⟨rfl, hbm⟩
            have HB6 := Lib.hid (HB5.out.trans (hbm.mono HB5.out.size))
            clear hbm
            go_wp2_with fail
            refine (HG.out _).mono ?_
            rintro en wp ⟨rfl, rfl⟩
            go_wp2_with fail
            refine (HG.out _).mono ?_
            rintro en wp ⟨rfl, rfl⟩
            go_wp2_with fail
            go_ret
            exact ⟨by first | rfl | simp, HB6.out⟩
          · rw [hn] at hself hfe
            clear hn
            go_wp2_with fail
            refine (HBI.out _).mono ?_
            rintro en wm ⟨rfl, hbm⟩
            have HB6 := Lib.hid (HB5.out.trans (hbm.mono HB5.out.size))
            clear hbm
            go_wp2_with fail
            go_ret
            exact ⟨by first | rfl | simp, HB6.out⟩

theorem realSquares_own : ownKnob Try.prog.godebug = none := by kernel_rfl
theorem realSquares_laid : laidOutB Try.prog = true := by kernel_rfl
theorem realSquares_types : ∀ t ∈ ([22, 22, 21] : List TypeId), Try.prog.readableRec t = true ∧ t < Try.prog.types.size := by
  simp only [List.mem_cons, List.not_mem_nil, or_false, forall_eq_or_imp, forall_eq]
  exact ⟨⟨by kernel_rfl, of_decide_eq_true (by kernel_rfl)⟩, ⟨by kernel_rfl, of_decide_eq_true (by kernel_rfl)⟩, ⟨by kernel_rfl, of_decide_eq_true (by kernel_rfl)⟩⟩
set_option maxRecDepth 100000 in
theorem realSquares_lifted (os : Os) (started : os.Started) (H : Type) (enc : TypeId × Value → H) :
    ReturnsInHanded {} Try.checked os 8 .any (Rows.realSquaresSpec.pre6 enc Try.prog Try.f8 Rows.realSquaresRow.domain false) (Rows.realSquaresSpec.post enc Try.prog Try.f8 false true false false) := by
  refine returnsInHanded_of_change (C := Try.checked) realSquares_own started (by kernel_rfl) Try.func8
    (ChangeSpec.witness6 (enc := enc) (C := Try.checked) false ⟨#[], #[.int .u64 0, .int .u64 0, .int .i32 0], []⟩ 8 (by kernel_rfl) (by kernel_rfl) (by kernel_rfl) (by kernel_rfl)) ?_
  intro W base args ds gs before hval0 hW hcnd hsz
  have hval : ∀ (j : Nat) t v, Try.f8.params[j]? = some t → args[j]? = some v → Value.okWide Try.prog W .any base t v := hval0
  have hW' := hW
  obtain ⟨p, q, hA0, hV, rfl, hfz, hnd⟩ := hW
  have hA : DataW.TrodAll enc Try.prog W 0 (fun _ => true) true Try.f8.params.toList args.toList ds p := hA0
  obtain ⟨rfl, rfl⟩ := trodVars_none hV
  have hpost : ∀ W', Below W.heap.size W W' → Rows.realSquaresSpec.post enc Try.prog Try.f8 false true false false W args (.bool true) W' := fun W' hb => by
    have hlen : ds.length = 3 := by have hh := hA; rw [Try.params8] at hh; obtain ⟨_, _, d0, ds0, _, _, _, rfl, _, _, hh⟩ := trodAll_cons hh; obtain ⟨_, _, d1, ds1, _, _, _, rfl, _, _, hh⟩ := trodAll_cons hh; obtain ⟨_, _, d2, ds2, _, _, _, rfl, _, _, hh⟩ := trodAll_cons hh; obtain ⟨_, rfl, _⟩ := trodAll_nil hh; simp
    obtain ⟨e0, e1, e2, rfl⟩ : ∃ e0 e1 e2, ds = [e0, e1, e2] := by match ds, hlen with | [e0, e1, e2], _ => exact ⟨e0, e1, e2, rfl⟩
    exact law_post realSquares_laid rfl hW' (by rw [Try.params8]; exact realSquares_types) (tb := 4) (by kernel_rfl) Try.underlying4 rfl rfl rfl hb
  rw [Try.params8] at hA hval
  obtain ⟨v0, vs0, d0, ds0, p0, q0, hargs, rfl, rfl, h0, r0⟩ := trodAll_cons hA
  obtain ⟨v1, vs1, d1, ds1, p1, q1, rfl, rfl, rfl, h1, r1⟩ := trodAll_cons r0
  obtain ⟨v2, vs2, d2, ds2, p2, q2, rfl, rfl, rfl, h2, r2⟩ := trodAll_cons r1
  obtain ⟨rfl, rfl, rfl⟩ := trodAll_nil r2
  obtain rfl : args = #[v0, v1, v2] := by cases args; simp_all
  obtain ⟨b, rfl, rfl, rfl, w0⟩ := open_int Try.underlying22 (hval 0 22 v0 rfl rfl) h0
  obtain ⟨c, rfl, rfl, rfl, w1⟩ := open_int Try.underlying22 (hval 1 22 v1 rfl rfl) h1
  obtain ⟨n, rfl, rfl, rfl, w2⟩ := open_int Try.underlying21 (hval 2 21 v2 rfl rfl) h2
  obtain ⟨b, rfl, hb⟩ := wf_u64 w0
  obtain ⟨c, rfl, hc⟩ := wf_u64 w1
  have hn := wf_i32 w2
  refine (realSquares_walk b c n W hb hc hn.1 hn.2).mono fun e W' ⟨he, hg⟩ => ?_
  subst he
  exact ⟨_, rfl, hpost _ hg⟩

theorem realSquares_holds : Rows.RealSquaresSaid :=
  OpenClaim.holds_of_wide 8 Try.f8 rfl rfl rfl rfl rfl rfl rfl ⟨rfl, rfl, rfl, rfl, rfl⟩ rfl rfl rfl rfl rfl (by kernel_rfl) Try.func8 (by kernel_rfl)
    (of_decide_eq_true (by kernel_rfl)) (by unfold Func.isWrapper; first | (rw [if_pos (by decide +kernel)]; kernel_rfl) | (rw [if_neg (by decide +kernel)]; exact ⟨rfl, rfl⟩))
    (fun os started H enc _ => realSquares_lifted os started H enc)
#print axioms realSquares_holds

end Go.Proofs.Ytpemchghaddgdaa
