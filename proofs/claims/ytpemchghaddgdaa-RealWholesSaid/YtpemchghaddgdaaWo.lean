/- Real's Whole. Condition: the bits fit. -/
import Derived.Test.YtpemchghaddgdaaWn
namespace Go.Pst
open Go Ieee Go.RowKit
set_option linter.unusedVariables false

/-- What the two bounds say of a finite float. -/
theorem fit_iff (b : Nat) (hb : b < 2 ^ 64) (hn : nan64 b = false) (hi : infB b = false) :
    (key64 b < key64 14114281232179134464 ∨ key64 4890909195324358656 ≤ key64 b) ↔ ¬ (((placeB b : Int) - 1074 = 11 ∧ negB b = true ∧ mantB b = 4503599627370496) ∨ ((placeB b : Int) - 1074 ≤ 10)) := by
  have k1 : key64 14114281232179134464 = -4890909195324358656 := rfl
  have k2 : key64 4890909195324358656 = 4890909195324358656 := rfl
  rw [k1, k2]
  unfold nan64 at hn; unfold infB at hi
  simp only [decide_eq_false_iff_not] at hn hi
  have hneg := neg_div b hb
  unfold key64 mantB placeB expF
  by_cases h1 : b / 9223372036854775808 % 2 = 1
  · rw [if_pos h1, hneg.1 h1]
    simp only [true_and]
    split <;> omega
  · rw [if_neg h1]
    have : negB b = false := by cases h : negB b; rfl; exact absurd (hneg.2 h) h1
    rw [this]
    simp only [Bool.false_eq_true, false_and, and_false, false_or]
    omega

/-- A finite float that is whole and fits, as a whole number. -/
theorem int_whole (b : Nat) (hb : b < 2 ^ 64) (hn : nan64 b = false) (hi : infB b = false) (hf : ((placeB b : Int) - 1074 = 11 ∧ negB b = true ∧ mantB b = 4503599627370496) ∨ ((placeB b : Int) - 1074 ≤ 10)) :
    floatToIntVal .f64 b .i64 = some (sgI (negB b) (mantB b * 2 ^ ((placeB b : Int) - 1074).toNat / 2 ^ (-((placeB b : Int) - 1074)).toNat)) := by
  unfold floatToIntVal
  have hd : FloatKind.f64.decode b = .number (negB b) (mantB b) (-1074 + (placeB b : Nat)) := by
    show Ieee.double.read b = _
    rw [read64 b hb, hn, hi]; rfl
  rw [hd]
  unfold Datum.toInt Datum.integral
  simp only [cut_zero, signed_eq, Nat.shiftLeft_eq]
  rw [show (-1074 + (placeB b : Int)) = (placeB b : Int) - 1074 by omega]
  have hlt : (mantB b * 2 ^ ((placeB b : Int) - 1074).toNat / 2 ^ (-((placeB b : Int) - 1074)).toNat < 2 ^ 63) ∨ (negB b = true ∧ mantB b * 2 ^ ((placeB b : Int) - 1074).toNat / 2 ^ (-((placeB b : Int) - 1074)).toNat = 2 ^ 63) := by
    rcases hf with ⟨h1, h2, h3⟩ | h1
    · right
      rw [h1, h2, h3]; exact ⟨rfl, by decide⟩
    · left
      have h2 : 2 ^ ((placeB b : Int) - 1074).toNat ≤ 2 ^ 10 := Nat.pow_le_pow_right (by omega) (by omega)
      have h3 := mant_lt b
      exact Nat.lt_of_le_of_lt (Nat.div_le_self _ _) (Nat.lt_of_le_of_lt (Nat.mul_le_mul (show mantB b ≤ 2 ^ 53 - 1 by omega) h2) (by decide))
  generalize mantB b * 2 ^ ((placeB b : Int) - 1074).toNat / 2 ^ (-((placeB b : Int) - 1074)).toNat = z at *
  unfold sgn
  simp only [Nat.pow_zero, Nat.mul_one]
  have e1 : IntKind.i64.min = -9223372036854775808 := rfl
  have e2 : IntKind.i64.max = 9223372036854775807 := rfl
  rw [e1, e2]
  unfold sgI
  rcases hlt with h | ⟨h, h'⟩
  · rw [if_pos (by split <;> omega)]
  · subst h'
    rw [h]; rfl

theorem tr_nan (b : Nat) (hn : nan64 b = false) : nan64 (trB b) = false := by
  unfold trB
  split
  · exact hn
  · rename_i h
    have hm : mantB b / 2 ^ (1074 - placeB b) < 2 ^ 53 := Nat.lt_of_le_of_lt (Nat.div_le_self _ _) (mant_lt b)
    exact nan_wrd _ _ (Nat.le_of_lt (rv_whole _ hm).2)

theorem whole_plain (b : Nat) (hb : b < 2 ^ 64) (hn : nan64 b = false) :
    (fne .f64 b (trB b) = true ∧ wholeB b = (0, false)) ∨
    (fne .f64 b (trB b) = false ∧ (key64 b < key64 14114281232179134464 ∨ key64 4890909195324358656 ≤ key64 b) ∧ wholeB b = (0, false)) ∨
    (fne .f64 b (trB b) = false ∧ ¬ (key64 b < key64 14114281232179134464 ∨ key64 4890909195324358656 ≤ key64 b) ∧ ∃ v, floatToIntVal .f64 b .i64 = some v ∧ wholeB b = (v, true)) := by
  have hne : fne .f64 b (trB b) = !(key64 b == key64 (trB b)) := by
    rw [fne64, feq64, hn, tr_nan b hn]; simp
  rw [hne]
  cases hi : infB b
  · have hfit := fit_iff b hb hn hi
    have hw : wholeB b = if mantB b = 0 then (0, true) else whN (mantB b) ((placeB b : Int) - 1074) (negB b) := by
      unfold wholeB; rw [hn, hi]; rfl
    have hp0 : mantB b = 0 → placeB b = 0 := by unfold mantB placeB; intro h; split at h <;> omega
    have hmod : (key64 b == key64 (trB b)) = decide (mantB b % 2 ^ (-((placeB b : Int) - 1074)).toNat = 0) := by
      by_cases hp : placeB b < 1074
      · rw [Bool.eq_iff_iff]
        simp only [beq_iff_eq, decide_eq_true_eq]
        rw [trunc_eq b hb hn hi hp, show (-((placeB b : Int) - 1074)).toNat = 1074 - placeB b by omega]
      · have : trB b = b := by unfold trB; rw [if_pos (by simp; omega)]
        rw [this, show (-((placeB b : Int) - 1074)).toNat = 0 by omega, Nat.pow_zero, Nat.mod_one]; simp
    rw [hmod]
    have hint := int_whole b hb hn hi
    generalize hX : (placeB b : Int) - 1074 = X at *
    by_cases hz : mantB b % 2 ^ (-X).toNat = 0
    · right
      rw [decide_eq_true hz]
      by_cases hf : (X = 11 ∧ negB b = true ∧ mantB b = 4503599627370496) ∨ X ≤ 10
      · right
        refine ⟨rfl, fun h => (hfit.1 h) hf, _, hint hf, ?_⟩
        rw [hw]
        by_cases h0 : mantB b = 0
        · rw [if_pos h0, h0, Nat.zero_mul, Nat.zero_div]; unfold sgI; split <;> rfl
        · rw [if_neg h0]
          unfold whN
          rcases hf with ⟨f1, f2, f3⟩ | f1
          · rw [if_pos ⟨f1, f2, f3⟩, f1, f2, f3]; rfl
          · rw [if_neg (by omega), if_neg (by omega), if_pos hz]
            congr 2
            rcases Int.lt_or_le X 0 with hx | hx
            · rw [show X.toNat = 0 by omega, Nat.pow_zero, Nat.mul_one, Nat.mul_one]
            · rw [show (-X).toNat = 0 by omega, Nat.pow_zero, Nat.div_one, Nat.div_one]
      · left
        refine ⟨rfl, hfit.2 hf, ?_⟩
        have h0 : mantB b ≠ 0 := fun h => hf (.inr (by have := hp0 h; omega))
        rw [hw, if_neg h0]
        unfold whN
        rw [if_neg (fun h => hf (.inl h)), if_pos (by omega)]
    · left
      rw [decide_eq_false hz]
      have h0 : mantB b ≠ 0 := fun h => hz (by rw [h]; exact Nat.zero_mod _)
      have hx : X < 0 := by
        rcases Int.lt_or_le X 0 with hx | hx
        · exact hx
        · exact absurd (by rw [show (-X).toNat = 0 by omega, Nat.pow_zero, Nat.mod_one]) hz
      refine ⟨rfl, ?_⟩
      rw [hw, if_neg h0]
      unfold whN
      rw [if_neg (by omega), if_neg (by omega), if_neg hz]
  · right; left
    have ht : trB b = b := by unfold trB; rw [hi]; simp
    refine ⟨by rw [ht]; simp, ?_, by unfold wholeB; rw [hi]; simp⟩
    have k1 : key64 14114281232179134464 = -4890909195324358656 := rfl
    have k2 : key64 4890909195324358656 = 4890909195324358656 := rfl
    rw [k1, k2]
    unfold infB at hi
    simp only [decide_eq_true_eq] at hi
    unfold key64
    split <;> omega

end Go.Pst
namespace Go.Proofs.Ytpemchghaddgdaa
open Go.RowKit Go.Pst
set_option maxRecDepth 20000
set_option linter.unusedSimpArgs false
set_option linter.unusedVariables false
attribute [local go_sem] xeven xtrunc

theorem trunc_any (b : Nat) (w : World) (hb : b < 2 ^ 64) : Calls Try.prog 86 #[.float .f64 b] w fun en w' => ∃ x, en = .returned (.float .f64 x) ∧ (nan64 b = false → x = trB b) ∧ (nan64 b = true → nan64 x = true) ∧ Below w.heap.size w w' := by
  have h : ∀ w, (nan64 b = false → intU .zero w b = trB b) ∧ (nan64 b = true → nan64 (intU .zero w b) = true) := fun w =>
    ⟨fun hn => by rw [intU_fin .zero w b hn]; exact trunc64 b hb hn, fun hn => intU_nan _ _ _ hb hn⟩
  have HH := Lib.hid h; clear h
  go_enter Try.func86, Try.ntmps86
  go_wp2_with fail
  go_ret
  exact ⟨_, rfl, (HH.out _).1, (HH.out _).2, wIf_refl _ _⟩


set_option maxHeartbeats 2000000 in
theorem whole_any (b : Nat) (w : World) (hb : b < 2 ^ 64) : Calls Try.prog 41 #[.float .f64 b] w (WhPost (wholeB b) w) := by
  have HT := Lib.hid fun w => trunc_any b w hb
  obtain ⟨r, hr⟩ : ∃ r, r = wholeB b := ⟨_, rfl⟩
  rw [← hr]
  cases hn : nan64 b
  · have hl : flt .f64 b 14114281232179134464 = decide (key64 b < key64 14114281232179134464) := by rw [flt64, hn]; rfl
    have hg : (fgt .f64 b 4890909195324358656 || feq .f64 b 4890909195324358656) = decide (key64 4890909195324358656 ≤ key64 b) := by
      rw [fgt64, feq64, hn, Bool.eq_iff_iff]
      have : nan64 4890909195324358656 = false := rfl
      rw [this]
      simp only [Bool.or_false, Bool.not_false, Bool.true_and, Bool.or_eq_true, decide_eq_true_eq, beq_iff_eq]
      omega
    have hpl := whole_plain b hb hn
    rw [← hr] at hpl
    have hnb : nan64 b = false := hn
    have ht' : ∀ w, Calls Try.prog 86 #[.float .f64 b] w fun en w' => en = .returned (.float .f64 (trB b)) ∧ Below w.heap.size w w' := fun w =>
      (HT.out w).mono fun en w' ⟨x, h1, h2, _, h4⟩ => ⟨by rw [h1, h2 hnb], h4⟩
    generalize trB b = T at hpl ht'
    have HT' := Lib.hid ht'
    clear HT hr ht'
    rcases hpl with ⟨p1, p2⟩ | ⟨p1, p2, p3⟩ | ⟨p1, p2, v, p3, p4⟩
    · subst p2
      clear hl hg hn hnb
      go_enter Try.func41, Try.ntmps41
      go_wp2_with fail
      refine (HT'.out _).mono ?_
      rintro en wn ⟨rfl, hbn⟩
      go_wp2_with fail
      go_ret2
      exact ⟨rfl, hbn⟩
    · subst p3
      by_cases h1 : key64 b < key64 14114281232179134464
      · rw [decide_eq_true h1] at hl
        clear hg hn hnb p2 h1
        go_enter Try.func41, Try.ntmps41
        go_wp2_with fail
        refine (HT'.out _).mono ?_
        rintro en wn ⟨rfl, hbn⟩
        go_wp2_with fail
        go_ret2
        exact ⟨rfl, hbn⟩
      · rw [decide_eq_false h1] at hl
        rw [decide_eq_true (by omega)] at hg
        clear hn hnb p2 h1
        go_enter Try.func41, Try.ntmps41
        go_wp2_with fail
        refine (HT'.out _).mono ?_
        rintro en wn ⟨rfl, hbn⟩
        go_wp2_with fail
        go_ret2
        exact ⟨rfl, hbn⟩
    · subst p4
      rw [decide_eq_false (by omega)] at hl hg
      have f3 : ∀ w, Sem.run Try.prog (convert 26 2 (.float .f64 b)) w = .ok (.int .i64 v) w := fun w =>
        run_convert_float_int w _ _ .f64 .i64 _ _ (by kernel_rfl) Try.underlying2 p3
      clear hn hnb p2 p3
      go_enter Try.func41, Try.ntmps41
      go_wp2_with fail
      refine (HT'.out _).mono ?_
      rintro en wn ⟨rfl, hbn⟩
      go_wp2_with fail
      go_ret2
      exact ⟨rfl, hbn⟩
  · have hr' : r = (0, false) := by rw [hr]; unfold wholeB; rw [hn]; rfl
    have hx : ∀ x, fne .f64 b x = true := fun x => by
      show (!feq .f64 b x) = true
      rw [feq64, hn]; rfl
    have HX := Lib.hid hx
    rw [hr']
    clear hr hr' hx
    go_enter Try.func41, Try.ntmps41
    go_wp2_with fail
    refine (HT.out _).mono ?_
    rintro en wn ⟨x, rfl, -, -, hbn⟩
    have hx := HX.out x
    go_wp2_with fail
    go_ret2
    exact ⟨rfl, hbn⟩

end Go.Proofs.Ytpemchghaddgdaa
