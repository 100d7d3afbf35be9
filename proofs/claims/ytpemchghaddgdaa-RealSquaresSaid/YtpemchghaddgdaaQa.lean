/- Plain facts: rounding keeps the order; roots rise; the root of a square; what Modf and Remainder leave. No condition. -/
import Derived.Test.YtpemchghaddgdaaFr
namespace Go.Pst
open Go Ieee Go.RowKit
set_option linter.unusedVariables false
set_option linter.unusedSimpArgs false

theorem rne_mono {M N : Nat} (k : Nat) (h : M ≤ N) : rne M k ≤ rne N k := by
  have hd : M / 2 ^ k ≤ N / 2 ^ k := Nat.div_le_div_right h
  have h1 := Nat.div_add_mod M (2 ^ k)
  have h2 := Nat.div_add_mod N (2 ^ k)
  unfold rne
  generalize M / 2 ^ k = q at *
  generalize N / 2 ^ k = q' at *
  rcases Nat.lt_or_ge q q' with hq | hq
  · split <;> split <;> omega
  · obtain rfl : q = q' := by omega
    have hr : M % 2 ^ k ≤ N % 2 ^ k := by omega
    split <;> split <;> omega

theorem log2_mono {M N : Nat} (h0 : M ≠ 0) (h : M ≤ N) : M.log2 ≤ N.log2 :=
  (Nat.le_log2 (by omega)).2 (Nat.le_trans (Nat.log2_self_le h0) h)

theorem kept_mono {f e M N : Nat} {E : Int} (h : M ≤ N) (hk : kap f e M E = kap f e N E) : keptN f e M E ≤ keptN f e N E := by
  unfold keptN
  rw [hk]
  split
  · exact rne_mono _ h
  · exact Nat.mul_le_mul_right _ h

theorem rnd_mono {f e M N : Nat} (E : Int) (h : M ≤ N) : rndN f e M E ≤ rndN f e N E := by
  unfold rndN
  by_cases h0 : M = 0
  · rw [if_pos h0]; exact Nat.zero_le _
  · rw [if_neg h0, if_neg (by omega)]
    have hl := log2_mono h0 h
    have hk : kap f e M E ≤ kap f e N E := by unfold kap; omega
    obtain ⟨a1, a2, a3⟩ := kept_facts f e M E h0
    obtain ⟨b1, b2, b3⟩ := kept_facts f e N E (by omega)
    have hmono : (E + kap f e M E - lst f e).toNat * 2 ^ f + keptN f e M E ≤ (E + kap f e N E - lst f e).toNat * 2 ^ f + keptN f e N E := by
      by_cases he : kap f e M E = kap f e N E
      · have := kept_mono h he
        rw [he]
        omega
      · have h1 : 2 ^ f ≤ keptN f e N E := Decidable.byContradiction fun hn => by
          have := b2 (by omega); omega
        have h2 : (E + kap f e M E - lst f e).toNat + 1 ≤ (E + kap f e N E - lst f e).toNat := by omega
        have h3 : ((E + kap f e M E - lst f e).toNat + 1) * 2 ^ f ≤ (E + kap f e N E - lst f e).toNat * 2 ^ f := Nat.mul_le_mul_right _ h2
        rw [Nat.add_mul, Nat.one_mul] at h3
        rw [Nat.pow_succ] at a1
        omega
    omega

theorem rz_mono {n m : Nat} (h : n ≤ m) : rz n ≤ rz m := rnd_mono _ h
theorem rz_le_inf (n : Nat) : rz n ≤ 9218868437227405312 := rnd_lt n _

/-- Words from 0 on, up to infinity. -/
theorem word_cmp {u v : Nat} (hu : u ≤ 9218868437227405312) (hv : v ≤ 9218868437227405312) : flt .f64 u v = decide (u < v) ∧ (flt .f64 u v || feq .f64 u v) = decide (u ≤ v) ∧ nan64 u = false := by
  have n1 : ∀ x, x ≤ 9218868437227405312 → nan64 x = false ∧ key64 x = (x : Int) := fun x hx => by
    have : x % 9223372036854775808 = x := Nat.mod_eq_of_lt (by omega)
    refine ⟨by unfold nan64; rw [this]; exact decide_eq_false (by omega), ?_⟩
    unfold key64; rw [if_neg (by omega), this]
  rw [flt64, feq64, (n1 u hu).1, (n1 v hv).1, (n1 u hu).2, (n1 v hv).2]
  refine ⟨by rw [Bool.eq_iff_iff]; simp, by rw [Bool.eq_iff_iff]; simp; omega, rfl⟩

/-! ### Roots -/
theorem sqV_pos {b : Nat} (hf : finB b) (h0 : mantB b ≠ 0) (hg : negB b = false) :
    sqV b = rndN 52 11 (2 * rtW (magN b * 2 ^ 126) + stk (magN b * 2 ^ 126) (rtW (magN b * 2 ^ 126))) (-601) := by
  have e : mantB b * 2 ^ (placeB b + 126) = magN b * 2 ^ 126 := by rw [Nat.pow_add, ← Nat.mul_assoc]; rfl
  have := sqV_num b hf h0 hg (placeB b + 126) (rtW (magN b * 2 ^ 126)) (by omega) (by omega) (by rw [e]; exact root_whole _)
  have hE : ((placeB b : Int) - 1074 - ((placeB b + 126 : Nat) : Int)) / 2 - 1 = -601 := by omega
  rw [this, e, hE]

theorem root_mono {n m w v : Nat} (hw : Root n w) (hv : Root m v) (h : n ≤ m) : 2 * w + stk n w ≤ 2 * v + stk m v := by
  have h1 : w < v + 1 := sq_lt (Nat.lt_of_le_of_lt hw.1 (Nat.lt_of_le_of_lt h hv.2))
  have hs : ∀ n w, stk n w ≤ 1 := fun n w => by unfold stk; split <;> omega
  have := hs n w
  rcases Nat.lt_or_ge w v with h2 | h2
  · omega
  · obtain rfl : w = v := by omega
    have : stk n w ≤ stk m w := by
      unfold stk
      by_cases ha : w * w = n
      · rw [if_pos ha]; omega
      · rw [if_neg ha, if_neg]
        · omega
        · have := hw.1; omega
    omega

theorem sqV_rise {x y : Nat} (hx : finB x) (hy : finB y) (x0 : mantB x ≠ 0) (y0 : mantB y ≠ 0) (nx : negB x = false) (ny : negB y = false) (h : magN x ≤ magN y) : sqV x ≤ sqV y := by
  rw [sqV_pos hx x0 nx, sqV_pos hy y0 ny]
  exact rnd_mono _ (root_mono (root_whole _) (root_whole _) (Nat.mul_le_mul_right _ h))

theorem sqV_word {b : Nat} (hf : finB b) (h0 : mantB b ≠ 0) (hg : negB b = false) : sqV b ≤ 9218868437227405312 := by
  rw [sqV_pos hf h0 hg]; exact rnd_lt _ _

/-- Roots rise. -/
theorem roots_rise {x y : Nat} (hx : x < 2 ^ 64) (hy : y < 2 ^ 64) (h1 : (fgt .f64 x 0 || feq .f64 x 0) = true) (h2 : (fgt .f64 y x || feq .f64 y x) = true) :
    nan64 (sqV x) = false ∧ nan64 (sqV y) = false ∧ flt .f64 (sqV y) (sqV x) = false := by
  have k0 : key64 0 = 0 := rfl
  have n0 : nan64 0 = false := rfl
  have nx : nan64 x = false := by
    rw [fgt64, feq64] at h1; cases h : nan64 x; rfl; rw [h] at h1; simp at h1
  have ny : nan64 y = false := by
    rw [fgt64, feq64] at h2; cases h : nan64 y; rfl; rw [h] at h2; simp at h2
  have kx : 0 ≤ key64 x := by
    rw [fgt64, feq64, nx, n0, k0] at h1
    simp at h1; omega
  have ky : key64 x ≤ key64 y := by
    rw [fgt64, feq64, nx, ny] at h2
    simp at h2; omega
  have cls : ∀ b, b < 2 ^ 64 → nan64 b = false → 0 ≤ key64 b → (b % 9223372036854775808 = 0 ∧ sqV b = b ∧ key64 b = 0) ∨ (negB b = false ∧ infB b = true ∧ sqV b = 9218868437227405312 ∧ key64 b = 9218868437227405312) ∨
      (finB b ∧ mantB b ≠ 0 ∧ negB b = false ∧ key64 b = (b : Int) ∧ b < 9218868437227405312 ∧ 0 < b) := fun b hb hn hk => by
    unfold key64 at hk
    by_cases hz : b % 9223372036854775808 = 0
    · left
      refine ⟨hz, sqV_zero b hb (mant_zero.2 hz), ?_⟩
      unfold key64; rw [hz]; split <;> rfl
    · right
      have hs : ¬ b / 9223372036854775808 % 2 = 1 := fun h => by rw [if_pos h] at hk; omega
      have hb63 : b < 9223372036854775808 := by omega
      have hneg : negB b = false := by unfold negB; exact decide_eq_false (by omega)
      have hm : b % 9223372036854775808 = b := Nat.mod_eq_of_lt hb63
      have hkb : key64 b = (b : Int) := by unfold key64; rw [if_neg hs, hm]
      unfold nan64 at hn
      rw [hm] at hn
      simp only [decide_eq_false_iff_not] at hn
      by_cases hi : b = 9218868437227405312
      · left
        have hib : infB b = true := by unfold infB; rw [hm]; exact decide_eq_true hi
        refine ⟨hneg, hib, ?_, by rw [hkb, hi]; rfl⟩
        rw [sqV_inf b hb (by unfold nan64; rw [hm]; exact decide_eq_false (by omega)) hib, hneg, hi]; rfl
      · right
        refine ⟨⟨hb, by unfold nan64; rw [hm]; exact decide_eq_false (by omega), by unfold infB; rw [hm]; exact decide_eq_false hi⟩, fun h => hz (mant_zero.1 h), hneg, hkb, by omega, by omega⟩
  have n64 : ∀ w, w ≤ 9218868437227405312 → nan64 w = false := fun w hw => (word_cmp hw (Nat.le_refl _)).2.2
  have kw : ∀ w, w ≤ 9218868437227405312 → key64 w = (w : Int) := fun w hw => by
    unfold key64; rw [if_neg (by omega), Nat.mod_eq_of_lt (by omega)]
  rcases cls x hx nx kx with ⟨c1, c2, c3⟩ | ⟨c0, c1, c2, c3⟩ | ⟨c1, c2, c3, c4, c5, c6⟩
  · -- x is nought
    rw [c2]
    have hy0 : nan64 (sqV y) = false ∧ 0 ≤ key64 (sqV y) := by
      rcases cls y hy ny (by omega) with ⟨d1, d2, d3⟩ | ⟨d0, d1, d2, d3⟩ | ⟨d1, d2, d3, d4, d5, d6⟩
      · rw [d2]; exact ⟨ny, by omega⟩
      · rw [d2]; exact ⟨n64 _ (Nat.le_refl _), by rw [kw _ (Nat.le_refl _)]; omega⟩
      · have := sqV_word d1 d2 d3
        exact ⟨n64 _ this, by rw [kw _ this]; omega⟩
    refine ⟨nx, hy0.1, ?_⟩
    rw [flt64, hy0.1, nx, c3]
    simp; exact hy0.2
  · have hyi : sqV y = 9218868437227405312 := by
      rcases cls y hy ny (by omega) with ⟨d1, d2, d3⟩ | ⟨d0, d1, d2, d3⟩ | ⟨d1, d2, d3, d4, d5, d6⟩
      · omega
      · exact d2
      · omega
    rw [c2, hyi]
    exact ⟨by decide, by decide, by rw [(word_cmp (Nat.le_refl _) (Nat.le_refl _)).1]; simp⟩
  · have hwx := sqV_word c1 c2 c3
    have hyy : sqV y ≤ 9218868437227405312 ∧ sqV x ≤ sqV y := by
      rcases cls y hy ny (by omega) with ⟨d1, d2, d3⟩ | ⟨d0, d1, d2, d3⟩ | ⟨d1, d2, d3, d4, d5, d6⟩
      · omega
      · rw [d2]; exact ⟨Nat.le_refl _, hwx⟩
      · refine ⟨sqV_word d1 d2 d3, sqV_rise c1 d1 c2 d2 c3 d3 ?_⟩
        have m1 := magN_rv x
        have m2 := magN_rv y
        rw [Nat.mod_eq_of_lt (by omega)] at m1 m2
        rw [m1, m2]
        rcases Nat.lt_or_ge x y with h | h
        · exact Nat.le_of_lt ((rv_lt_iff (by omega) (by omega)).2 h)
        · have : x = y := by omega
          rw [this]; exact Nat.le_refl _
    refine ⟨n64 _ hwx, n64 _ hyy.1, ?_⟩
    rw [(word_cmp hyy.1 hwx).1]
    exact decide_eq_false (by omega)

/-! ### Squares -/
theorem fl_word {m : Nat} (h : m < 2 ^ 53) : fl m < 9218868437227405312 ∧ fl m % 9223372036854775808 = fl m ∧ magN (fl m) = m * 2 ^ K74 := by
  obtain ⟨h1, h2⟩ := fl_rv h
  have h3 : fl m % 9223372036854775808 = fl m := Nat.mod_eq_of_lt (by omega)
  exact ⟨h2, h3, by rw [magN_rv, h3, h1]⟩

theorem mul_self_fl (n : Int) (h : n.natAbs < 67108864) : arD .mul (wrd (decide (n < 0)) (fl n.natAbs)) (wrd (decide (n < 0)) (fl n.natAbs)) = some (fl (n.natAbs * n.natAbs)) := by
  generalize hs : decide (n < 0) = s
  generalize n.natAbs = m at *
  obtain ⟨w1, w2, w3⟩ := fl_word (m := m) (by omega)
  obtain ⟨g1, g2, g3⟩ := wrd_lt s (fl m) (by omega)
  have hfin : finB (wrd s (fl m)) := ⟨g1, nan_wrd _ _ (by omega), by unfold infB; rw [g2]; exact decide_eq_false (by omega)⟩
  have hmag : magN (wrd s (fl m)) = m * 2 ^ K74 := by rw [magN_rv, g2, ← w3, magN_rv, w2]
  rw [arD_mul_fin hfin hfin]
  congr 1
  rw [Bool.xor_self]
  show wrd false _ = _
  unfold magN at hmag
  generalize mantB (wrd s (fl m)) = M at *
  generalize placeB (wrd s (fl m)) = p at *
  have e1 := rnd_shift 52 11 (M * M) (p + p) (-1074 + (p : Nat) + (-1074 + (p : Nat)))
  have e2 : M * M * 2 ^ (p + p) = m * m * 2 ^ (K74 + K74) := by
    rw [Nat.pow_add, Nat.pow_add]
    have : M * 2 ^ p * (M * 2 ^ p) = m * 2 ^ K74 * (m * 2 ^ K74) := by rw [hmag]
    rw [Nat.mul_mul_mul_comm, Nat.mul_mul_mul_comm m] at this
    exact this
  have e3 := rnd_shift 52 11 (m * m) (K74 + K74) 0
  have k : (K74 : Int) = 1074 := rfl
  have hE : -1074 + ((p : Nat) : Int) + (-1074 + ((p : Nat) : Int)) - ((p + p : Nat) : Int) = 0 - ((K74 + K74 : Nat) : Int) := by rw [Int.natCast_add K74, k]; omega
  have hw : ∀ r, wrd false r = r := fun r => rfl
  rw [hw, ← e1, e2, hE, e3]
  rfl

theorem sqrt_square (m : Nat) (h : m < 67108864) : sqV (fl (m * m)) = fl m := by
  have hb : m * m < 2 ^ 53 := Nat.lt_of_le_of_lt (Nat.mul_le_mul (Nat.le_of_lt h) (Nat.le_of_lt h)) (by decide)
  by_cases h0 : m = 0
  · subst h0
    rw [Nat.zero_mul, fl_zero]
    exact sqV_zero 0 (by omega) (by decide)
  · obtain ⟨w1, w2, w3⟩ := fl_word hb
    have hf : finB (fl (m * m)) := (fl_fin hb).1
    have hn := (fl_fin hb).2.1
    have hm0 : mantB (fl (m * m)) ≠ 0 := mag_pos.1 (by rw [w3]; exact Nat.mul_pos (Nat.mul_pos (by omega) (by omega)) (Nat.two_pow_pos _))
    rw [sqV_pos hf hm0 hn, w3]
    obtain ⟨h6, hh⟩ : ∃ q, K74 + 126 = q + q := ⟨600, rfl⟩
    have hq : (h6 : Int) = 600 := by have : K74 = 1074 := rfl; omega
    have e : m * m * 2 ^ K74 * 2 ^ 126 = m * 2 ^ h6 * (m * 2 ^ h6) := by
      rw [Nat.mul_assoc, ← Nat.pow_add, hh, Nat.pow_add, Nat.mul_mul_mul_comm]
    rw [e]
    have hr : Root (m * 2 ^ h6 * (m * 2 ^ h6)) (m * 2 ^ h6) := ⟨Nat.le_refl _, Nat.mul_lt_mul_of_lt_of_le (by omega) (by omega) (by omega)⟩
    have hu : rtW (m * 2 ^ h6 * (m * 2 ^ h6)) = m * 2 ^ h6 := root_uniq (root_whole _) hr
    rw [hu]
    have hst : stk (m * 2 ^ h6 * (m * 2 ^ h6)) (m * 2 ^ h6) = 0 := by unfold stk; rw [if_pos rfl]
    rw [hst, Nat.add_zero]
    have e3 := rnd_shift 52 11 m (h6 + 1) 0
    have hE : (0 : Int) - ((h6 + 1 : Nat) : Int) = -601 := by omega
    have e4 : m * 2 ^ (h6 + 1) = 2 * (m * 2 ^ h6) := by rw [Nat.pow_succ, ← Nat.mul_assoc, Nat.mul_comm]
    rw [hE, e4] at e3
    exact e3

/-! ### What Remainder leaves -/
theorem remT_bound (X Y : Int) (hX : 0 ≤ X) (hY : 0 < Y) : 2 * (remT X Y).natAbs ≤ Y ∧ ((remT X Y).natAbs : Int) ≤ X := by
  have h1 : 0 ≤ X % (2 * Y) := Int.emod_nonneg _ (by omega)
  have h2 : X % (2 * Y) < 2 * Y := Int.emod_lt_of_pos _ (by omega)
  have h3 : X % (2 * Y) ≤ X := by
    have e := Int.emod_add_mul_ediv X (2 * Y)
    have e1 : 0 ≤ X / (2 * Y) := Int.ediv_nonneg hX (by omega)
    have e2 : 0 ≤ 2 * Y * (X / (2 * Y)) := Int.mul_nonneg (by omega) e1
    omega
  unfold remT
  split
  · omega
  · split <;> omega

theorem rep_rem {a b : Nat} (ha : finB a) (hb : finB b) (hb0 : 0 < magN b) : Rep (remT (magN a) (magN b)).natAbs := by
  obtain ⟨h1, h2⟩ := remT_bound (magN a) (magN b) (by omega) (by omega)
  have pa : placeB a ≤ 2045 := by have := fin_lt ha; unfold placeB expF; omega
  have pb : placeB b ≤ 2045 := by have := fin_lt hb; unfold placeB expF; omega
  have la : magN a < 2 ^ 53 * 2 ^ placeB a := Nat.mul_lt_mul_of_pos_right (mant_lt a) (Nat.two_pow_pos _)
  have lb : magN b < 2 ^ 53 * 2 ^ placeB b := Nat.mul_lt_mul_of_pos_right (mant_lt b) (Nat.two_pow_pos _)
  have key : ∀ (q A B : Nat), q ≤ 2045 → magN a = A * 2 ^ q → magN b = B * 2 ^ q → (remT (magN a) (magN b)).natAbs < 2 ^ 53 * 2 ^ q → Rep (remT (magN a) (magN b)).natAbs := fun q A B hq ea eb hl => by
    have e : remT (magN a) (magN b) = remT A B * ((2 ^ q : Nat) : Int) := by
      rw [ea, eb, Int.natCast_mul, Int.natCast_mul, remT_scale _ _ _ (by have := Nat.two_pow_pos q; omega)]
    rw [e, Int.natAbs_mul, Int.natAbs_natCast] at hl ⊢
    exact rep_mul _ q (Nat.lt_of_mul_lt_mul_right hl) hq
  rcases Nat.le_total (placeB a) (placeB b) with h | h
  · refine key (placeB a) (mantB a) (mantB b * 2 ^ (placeB b - placeB a)) pa rfl ?_ (by omega)
    rw [Nat.mul_assoc, ← Nat.pow_add, show placeB b - placeB a + placeB a = placeB b by omega]; rfl
  · refine key (placeB b) (mantB a * 2 ^ (placeB a - placeB b)) (mantB b) pb ?_ rfl (by omega)
    rw [Nat.mul_assoc, ← Nat.pow_add, show placeB a - placeB b + placeB b = placeB a by omega]; rfl
end Go.Pst
