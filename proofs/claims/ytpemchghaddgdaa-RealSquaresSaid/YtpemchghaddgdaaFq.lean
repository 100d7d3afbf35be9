/- Remainder: what comes out. Condition: the bits fit. -/
import Derived.Test.YtpemchghaddgdaaFo
namespace Go.Proofs.Ytpemchghaddgdaa
open Go.RowKit Go.Pst
set_option maxRecDepth 100000
set_option linter.unusedSimpArgs false
set_option linter.unusedVariables false
attribute [local go_sem] run_neg64' run_fsub run_fadd run_fmul

theorem mMod_any (x d x2 : Nat) (w : World) (hx : finB x) (hd : finB d) (hd0 : 0 < valZ d) (hx0 : 0 ≤ valZ x) (h2 : finB x2) (hv : valZ x2 = valZ x % valZ d) (hn : negB x2 = (decide (valZ x = 0) && negB x)) :
    Calls Try.prog 114 #[.float .f64 x, .float .f64 d] w fun en w' => en = .returned (.float .f64 x2) ∧ w = w' := by
  have H : Hid (∀ w, Calls Try.prog 117 #[.float .f64 x, .float .f64 d] w fun en w' => en = .returned (.float .f64 x2) ∧ w = w') := Lib.hid (fun w =>
    (mmod_any x d w hx hd hd0 hx0).mono fun en w' ⟨r, e1, f, v, n, e2⟩ => by
      have : r = x2 := by rw [zF_of f, zF_of h2, n, hn, mag_abs, mag_abs, v, hv]
      exact ⟨by rw [e1, this], e2⟩)
  clear hx hd hd0 hx0 h2 hv hn
  go_enter Try.func114, Try.ntmps114
  go_wp2_with fail
  refine (H.out _).mono ?_
  rintro en w' ⟨rfl, rfl⟩
  go_wp2_with fail
  go_ret
  exact ⟨by first | rfl | simp, rfl⟩

set_option maxHeartbeats 1000000 in
theorem rem_eq (x y x1 y1 : Nat) (s t n : Bool) (Y : Int) (w : World)
    (hI : ∀ w, Calls Try.prog 82 #[.float .f64 x, .int .i64 0] w fun en w' => en = .returned (.bool false) ∧ w = w')
    (hID : ∀ w, Calls Try.prog 82 #[.float .f64 y, .int .i64 0] w fun en w' => en = .returned (.bool false) ∧ w = w')
    (hN : ∀ w, Calls Try.prog 112 #[.float .f64 x] w fun en w' => en = .returned (.bool false) ∧ w = w')
    (hND : ∀ w, Calls Try.prog 112 #[.float .f64 y] w fun en w' => en = .returned (.bool false) ∧ w = w')
    (hs : flt .f64 x 0 = s) (ht : flt .f64 y 0 = t) (hy0 : feq .f64 y 0 = false) (hx1 : (if s then flipB x else x) = x1) (hy1 : (if t then flipB y else y) = y1)
    (he : feq .f64 x1 y1 = true) (hY : 0 < Y) :
    Calls Try.prog 109 #[.float .f64 x, .float .f64 y] w (RemFin s Y Y n w) := by
  have HI := Lib.hid hI; have HID := Lib.hid hID; have HN := Lib.hid hN; have HND := Lib.hid hND
  have HS : Hid (finB 0 ∧ valZ 0 = remZ Y Y ∧ negB 0 = (if 2 * Y ≤ Y then n else decide (remZ Y Y < 0))) := Lib.hid ⟨⟨by decide, by decide, by decide⟩, by
    unfold remZ; rw [if_neg (by omega), if_pos (by omega), Int.sub_self]; decide, by
    rw [if_neg (by omega)]; unfold remZ; rw [if_neg (by omega), if_pos (by omega), Int.sub_self]; decide⟩
  clear hI hID hN hND hY
  cases s <;> cases t <;> simp only [Bool.false_eq_true, if_false, if_true] at hx1 hy1 ⊢ <;> (try subst hx1) <;> (try subst hy1) <;>
  ·
    go_enter Try.func109, Try.ntmps109
    go_wp2_with fail
    refine (HN.out _).mono ?_
    rintro en w' ⟨rfl, rfl⟩
    go_wp2_with fail
    refine (HND.out _).mono ?_
    rintro en w' ⟨rfl, rfl⟩
    go_wp2_with fail
    refine (HI.out _).mono ?_
    rintro en w' ⟨rfl, rfl⟩
    go_wp2_with fail
    refine (HID.out _).mono ?_
    rintro en w' ⟨rfl, rfl⟩
    go_wp2_with fail
    go_ret
    exact ⟨_, rfl, HS.out.1, HS.out.2.1, HS.out.2.2, rfl⟩

theorem rep_mod (m p m' p' : Nat) (hm : m < 2 ^ 53) (hm' : m' < 2 ^ 53) (hp : p ≤ 2045) (hp' : p' ≤ 2045) : Rep ((m * 2 ^ p) % (m' * 2 ^ p')) := by
  rcases Nat.le_total p' p with h | h
  · have e : m * 2 ^ p = m * 2 ^ (p - p') * 2 ^ p' := by rw [Nat.mul_assoc, ← Nat.pow_add, show p - p' + p' = p by omega]
    rw [e, Nat.mul_mod_mul_right]
    by_cases h0 : m' = 0
    · subst h0
      rw [Nat.mod_zero, Nat.mul_assoc, ← Nat.pow_add, show p - p' + p' = p by omega]
      exact rep_mul m p hm hp
    · exact rep_mul _ p' (Nat.lt_trans (Nat.mod_lt _ (by omega)) hm') hp'
  · have e : m' * 2 ^ p' = m' * 2 ^ (p' - p) * 2 ^ p := by rw [Nat.mul_assoc, ← Nat.pow_add, show p' - p + p = p' by omega]
    rw [e, Nat.mul_mod_mul_right]
    exact rep_mul _ p (Nat.lt_of_le_of_lt (Nat.mod_le _ _) hm) hp

theorem rv_lt_twice {y : Nat} (hy : finB y) (h : y % 9223372036854775808 ≤ 9214364837600034815) : placeB y ≤ 2044 := by unfold placeB expF; omega

theorem flip_place {b : Nat} (h : finB b) : placeB (flipB b) = placeB b ∧ mantB (flipB b) = mantB b := by
  have he := flipB_eq b h.1
  have hm : flipB b % 9223372036854775808 = b % 9223372036854775808 := by rw [he]; split <;> omega
  have h1 := mantB_mod (flipB b)
  have h2 := mantB_mod b
  rw [hm] at h1
  exact ⟨by rw [← h1.2, h2.2], by rw [← h1.1, h2.1]⟩

theorem remT_zero (Y : Int) (hY : 0 < Y) : remT 0 Y = 0 := by unfold remT; rw [Int.zero_emod, if_pos (by omega)]

/-- The finite case. -/
theorem rem_fin (a b : Nat) (w : World) (ha : finB a) (hb : finB b) (hb0 : mantB b ≠ 0) :
    Calls Try.prog 109 #[.float .f64 a, .float .f64 b] w fun en w' => en = .returned (.float .f64 (remB a b)) ∧ w = w' := by
  have z0 : finB 0 := ⟨by decide, by decide, by decide⟩
  have v0 : valZ 0 = 0 := by decide
  have hI := fun w => minf_any a w ha.1
  have hID := fun w => minf_any b w hb.1
  have hN := fun w => mnan_any a w
  have hND := fun w => mnan_any b w
  rw [ha.2.2] at hI
  rw [hb.2.2] at hID
  rw [ha.2.1] at hN
  rw [hb.2.1] at hND
  have hs := flt_fin ha z0
  have ht := flt_fin hb z0
  rw [v0] at hs ht
  have hY : 0 < magN b := mag_pos.2 hb0
  have hbz := mag_abs b
  have haz := mag_abs a
  have hy0 : feq .f64 b 0 = false := by rw [feq_fin hb z0, v0]; exact decide_eq_false (by omega)
  have side : ∀ c, finB c → ∃ c1, (if decide (valZ c < 0) then flipB c else c) = c1 ∧ finB c1 ∧ valZ c1 = magN c ∧ (valZ c = 0 → c1 = c) := fun c hc => by
    have hm := mag_abs c
    by_cases h : valZ c < 0
    · rw [decide_eq_true h, if_pos rfl]
      obtain ⟨f1, f2, f3⟩ := flip_fin hc
      exact ⟨_, rfl, f1, by rw [f2]; omega, fun e => by omega⟩
    · rw [decide_eq_false h, if_neg (by simp)]
      exact ⟨_, rfl, hc, by omega, fun _ => rfl⟩
  obtain ⟨x1, hx1, fx1, vx1, ex1⟩ := side a ha
  obtain ⟨y1, hy1, fy1, vy1, ey1⟩ := side b hb
  have my1 : magN y1 = magN b := by have := mag_nonneg (b := y1) (by omega); omega
  have mx1 : magN x1 = magN a := by have := mag_nonneg (b := x1) (by omega); omega
  have ny1 : negB y1 = false := by cases h : negB y1; rfl; have := neg_zero h (by omega); omega
  have y63 : y1 < 9223372036854775808 := by unfold negB at ny1; simpa using ny1
  obtain ⟨Z, hZ⟩ : ∃ Z : Nat, Z = magN a % (2 * magN b) := ⟨_, rfl⟩
  have hZl : Z < 2 * magN b := by rw [hZ]; exact Nat.mod_lt _ (by omega)
  have hZi : (Z : Int) = (magN a : Int) % (2 * (magN b : Int)) := by rw [hZ]; simp
  obtain ⟨n, hn⟩ : ∃ n, n = (decide (magN a = 0) && negB a) := ⟨_, rfl⟩
  -- what all ways lead to
  have fin : Calls Try.prog 109 #[.float .f64 a, .float .f64 b] w (RemFin (decide (valZ a < 0)) Z (magN b) n w) → Calls Try.prog 109 #[.float .f64 a, .float .f64 b] w fun en w' => en = .returned (.float .f64 (remB a b)) ∧ w = w' := fun h => by
    refine h.mono fun en w' ⟨r, e1, f, v, nr, e2⟩ => ⟨?_, e2⟩
    rw [e1]
    have hT : remZ (Z : Int) (magN b) = remT (magN a) (magN b) := by unfold remZ remT; rw [← hZi]
    rw [hT] at v nr
    have hv : remB a b = wrd (if remT (magN a) (magN b) = 0 then negB a else (decide (remT (magN a) (magN b) < 0) ^^ negB a)) (rz (remT (magN a) (magN b)).natAbs) := by
      unfold remB
      rw [if_neg (by rw [ha.2.1, hb.2.1, ha.2.2, decide_eq_false hb0]; simp), if_neg (by rw [hb.2.2]; simp)]
    rw [hv]
    have hva := valZ_mag a
    by_cases hX : magN a = 0
    · have hza : valZ a = 0 := by omega
      have hT0 : remT (magN a) (magN b) = 0 := by rw [hX]; exact remT_zero _ (by omega)
      have hZ0 : Z = 0 := by rw [hZ, hX]; simp
      rw [hT0, if_pos rfl]
      rw [hT0] at v nr
      rw [decide_eq_false (by omega), if_neg (by simp)]
      rw [if_pos (by omega), hn, hX] at nr
      have hr := wrd_zF (T := 0) (n := negB a) f (by rw [v]) (by rw [nr]; simp)
      rw [← hr]
    · have hsa : decide (valZ a < 0) = negB a := by
        unfold sgn at hva
        cases hna : negB a
        · rw [hna] at hva; simp only [Bool.false_eq_true, if_false] at hva; exact decide_eq_false (by omega)
        · rw [hna] at hva; simp only [if_true] at hva; exact decide_eq_true (by omega)
      have hn0 : n = false := by rw [hn, decide_eq_false hX]; rfl
      have nr2 : negB r = decide (remT (magN a) (magN b) < 0) := by
        rw [nr, hn0]
        split
        · rename_i h
          rw [← hT]; unfold remZ; rw [if_pos h]; exact (decide_eq_false (by omega)).symm
        · rfl
      rw [hsa]
      obtain ⟨g1, g2, g3⟩ := flip_fin f
      generalize remT (magN a) (magN b) = T at *
      cases negB a
      · rw [if_neg (by simp)]
        have hr := wrd_zF (T := T) (n := if T = 0 then false else (decide (T < 0) ^^ false)) f (by rw [v]) (by
          rw [nr2]
          by_cases h0 : T = 0
          · subst h0; simp
          · rw [if_neg h0]; simp)
        rw [← hr]
      · rw [if_pos rfl]
        have hr := wrd_zF (T := T) (n := if T = 0 then true else (decide (T < 0) ^^ true)) g1 (by rw [g2, v]; omega) (by
          rw [g3, nr2]
          by_cases h0 : T = 0
          · subst h0; simp
          · rw [if_neg h0]; simp)
        rw [← hr]
  refine fin ?_
  clear fin
  by_cases he : valZ x1 = valZ y1
  · have he1 : feq .f64 x1 y1 = true := by rw [feq_fin fx1 fy1]; exact decide_eq_true he
    have hZY : (Z : Int) = magN b := by
      have : magN a = magN b := by omega
      rw [hZ, this, Nat.mod_eq_of_lt (by omega)]
    rw [hZY]
    exact rem_eq a b x1 y1 _ _ n _ w hI hID hN hND hs ht hy0 hx1 hy1 he1 (by omega)
  · have he1 : feq .f64 x1 y1 = false := by rw [feq_fin fx1 fy1]; exact decide_eq_false he
    -- Z is had
    have hc1 : finB 9214364837600034815 := ⟨by decide, by decide, by decide⟩
    have hti : flt .f64 y1 9007199254740992 = decide (y1 < 9007199254740992) := by
      rw [flt64, fy1.2.1]
      have k1 : key64 y1 = (y1 : Int) := by unfold key64; rw [if_neg (by omega), Nat.mod_eq_of_lt y63]
      have k2 : key64 9007199254740992 = 9007199254740992 := by decide
      have n2 : nan64 9007199254740992 = false := by decide
      rw [k1, k2, n2]
      rw [Bool.eq_iff_iff]; simp; omega
    have hleb : (flt .f64 y1 9214364837600034815 || feq .f64 y1 9214364837600034815) = decide (y1 ≤ 9214364837600034815) := by
      rw [flt64, feq64, fy1.2.1]
      have k1 : key64 y1 = (y1 : Int) := by unfold key64; rw [if_neg (by omega), Nat.mod_eq_of_lt y63]
      have k2 : key64 9214364837600034815 = 9214364837600034815 := by decide
      have n2 : nan64 9214364837600034815 = false := by decide
      rw [k1, k2, n2]
      rw [Bool.eq_iff_iff]; simp; omega
    by_cases hle : y1 ≤ 9214364837600034815
    · rw [decide_eq_true hle] at hleb
      have hm63 : y1 % 9223372036854775808 = y1 := Nat.mod_eq_of_lt y63
      obtain ⟨d, ed, fd, vd, nd⟩ := add_exact fy1 fy1 (by
        have := rep_twice fy1 (by omega)
        rw [vy1]
        rw [my1] at this
        rw [show ((magN b : Int) + magN b).natAbs = 2 * magN b by omega]
        exact this)
      rw [vy1] at vd
      obtain ⟨x2, e2, f2, v2, n2, -⟩ : ∃ x2, x2 = zF n Z ∧ finB x2 ∧ valZ x2 = Z ∧ negB x2 = n ∧ True := by
        have hrep : Rep Z := by
          have h1 := rep_mod (mantB a) (placeB a) (mantB b) (placeB b + 1) (mant_lt a) (mant_lt b) (by have := fin_lt ha; unfold placeB expF; omega) (by
            have h2 := rv_lt_twice fy1 (by omega : y1 % 9223372036854775808 ≤ 9214364837600034815)
            have h3 : placeB y1 = placeB b := by
              rw [← hy1]
              split
              · exact (flip_place hb).1
              · rfl
            omega)
          rw [Nat.pow_succ, ← Nat.mul_assoc, Nat.mul_comm _ 2] at h1
          rw [hZ]
          exact h1
        obtain ⟨g1, g2, g3, g4⟩ := zF_fin hrep n
        refine ⟨_, rfl, g1, ?_, g2, trivial⟩
        rw [g3]
        unfold sgn
        cases hnn : n
        · rfl
        · rw [hnn] at hn
          have : magN a = 0 := by
            have := hn.symm
            simp only [Bool.and_eq_true, decide_eq_true_eq] at this
            exact this.1
          rw [hZ, this]; simp
      have hR : RemF x2 y1 Z (magN b) n := ⟨f2, fy1, v2, vy1, n2, ⟨by omega, by omega⟩, fun hz => by
        rw [hn]
        have : ¬ magN a = 0 := fun e => by rw [hZ, e] at hz; simp at hz
        simp [this]⟩
      have hmo : ∀ w, Calls Try.prog 114 #[.float .f64 x1, .float .f64 d] w fun en w' => en = .returned (.float .f64 x2) ∧ w = w' := fun w =>
        mMod_any x1 d x2 w fx1 fd (by omega) (by omega) f2 (by rw [v2, vx1, vd, hZi]; congr 1; omega) (by
          rw [n2, hn, vx1]
          by_cases h0 : magN a = 0
          · rw [ex1 (by omega), h0]; simp
          · rw [decide_eq_false h0, decide_eq_false (by omega)]; rfl)
      by_cases hty : y1 < 9007199254740992
      · rw [decide_eq_true hty] at hti
        have hYs : magN b < 2 ^ 54 := by
          rw [← my1]
          have h1 : placeB y1 ≤ 1 := by unfold placeB expF; omega
          have h2 := mant_lt y1
          have h3 : mantB y1 * 2 ^ placeB y1 < 2 ^ 53 * 2 ^ placeB y1 := Nat.mul_lt_mul_of_pos_right h2 (Nat.two_pow_pos _)
          have h4 : 2 ^ placeB y1 ≤ 2 ^ 1 := Nat.pow_le_pow_right (by omega) h1
          unfold magN
          omega
        have dbl : ∀ c, finB c → magN c < 2 ^ 60 → ∃ g, arD .add c c = some g ∧ finB g ∧ valZ g = 2 * valZ c := fun c hc hl => by
          obtain ⟨g, e1, f1, v1, -⟩ := add_exact hc hc (by
            have h1 := rep_dbl hc hl
            have h2 := mag_abs c
            rw [show (valZ c + valZ c).natAbs = 2 * magN c by omega]
            exact h1)
          exact ⟨g, e1, f1, by omega⟩
        have m2 := mag_abs x2
        obtain ⟨h, eh, fh, vh⟩ := dbl x2 f2 (by omega)
        exact rem_tin a b x1 y1 x2 d _ _ n _ _ w hI hID hN hND hs ht hy0 hx1 hy1 he1 hR hleb ed hmo hti h eh fh (by rw [vh, v2]) (fun x3 f3 v3 => by
          have := mag_abs x3
          obtain ⟨g, e1, f1, v1⟩ := dbl x3 f3 (by omega)
          exact ⟨g, e1, f1, by rw [v1, v3]⟩)
      · rw [decide_eq_false hty] at hti
        obtain ⟨h, eh, fh, vh⟩ := half_float fy1 (by omega) ny1
        exact rem_nor a b x1 y1 x2 d _ _ n _ _ w hI hID hN hND hs ht hy0 hx1 hy1 he1 hR hleb ed hmo hti h eh fh (by rw [vh, vy1])
    · rw [decide_eq_false hle] at hleb
      rw [decide_eq_false (by omega)] at hti
      have hlt1 := fin_lt fx1
      have hlt2 := fin_lt fy1
      have hXY : magN a < 2 * magN b := by
        rw [← my1, ← mx1]
        have hm63 : y1 % 9223372036854775808 = y1 := Nat.mod_eq_of_lt y63
        have he2 : expF y1 = 2046 := by unfold expF; omega
        have h1 := (mant_norm (b := y1) (by omega)).1
        have h2 : placeB y1 = 2045 := by unfold placeB; rw [he2]
        have h3 := mant_lt x1
        have h4 : placeB x1 ≤ 2045 := by unfold placeB expF; omega
        unfold magN
        have h5 : 2 ^ placeB x1 ≤ 2 ^ placeB y1 := Nat.pow_le_pow_right (by omega) (by omega)
        generalize 2 ^ placeB y1 = P at *
        have h6 : mantB x1 * 2 ^ placeB x1 ≤ (2 ^ 53 - 1) * P := Nat.mul_le_mul (by omega) h5
        have h7 : 2 ^ 52 * P ≤ mantB y1 * P := Nat.mul_le_mul_right _ h1
        have h8 : 0 < P := by have := Nat.two_pow_pos (placeB x1); omega
        omega
      have hZa : Z = magN a := by rw [hZ]; exact Nat.mod_eq_of_lt hXY
      have hR : RemF x1 y1 Z (magN b) n := ⟨fx1, fy1, by rw [vx1, hZa], vy1, by
        rw [hn]
        by_cases h0 : magN a = 0
        · rw [ex1 (by omega), h0]; simp
        · rw [decide_eq_false h0]
          cases hh : negB x1
          · rfl
          · have := neg_zero hh (by omega); omega, ⟨by omega, by omega⟩, fun hz => by
        rw [hn, decide_eq_false (by omega)]; rfl⟩
      obtain ⟨h, eh, fh, vh⟩ := half_float fy1 (by omega) ny1
      exact rem_big a b x1 y1 x1 0 _ _ n _ _ w hI hID hN hND hs ht hy0 hx1 hy1 he1 hR rfl hleb hti h eh fh (by rw [vh, vy1])
end Go.Proofs.Ytpemchghaddgdaa
