/- Go's math.Mod at finite numbers: what is left is exact. Conditions: both finite, the second above 0, the first from 0 on. -/
import Derived.Test.YtpemchghaddgdaaFm
namespace Go.Pst
open Go Ieee Go.RowKit
set_option linter.unusedVariables false
set_option linter.unusedSimpArgs false

theorem mag_nM {b : Nat} (h0 : mantB b ≠ 0) : magN b * 2 ^ 52 = nM b * 2 ^ (placeB b + (mantB b).log2) := by
  have h3 := log_lt h0
  unfold magN nM
  rw [Nat.mul_assoc, Nat.mul_assoc, ← Nat.pow_add, ← Nat.pow_add]
  congr 2
  omega

theorem mag_pos {b : Nat} : 0 < magN b ↔ mantB b ≠ 0 := by
  unfold magN
  constructor
  · intro h e; rw [e, Nat.zero_mul] at h; omega
  · intro h; exact Nat.mul_pos (Nat.pos_of_ne_zero h) (Nat.two_pow_pos _)

/-- One round: the greatest multiple by a power of two that is not above. -/
theorem mod_step {r d : Nat} (hr : finB r) (hd : finB d) (hd0 : 0 < magN d) (hle : magN d ≤ magN r) (hdn : negB d = false) :
    ∃ k : Nat, (lgB r + 1 - (if nM r < nM d then 1 else 0)) - (lgB d + 1) = (k : Int) ∧ Rep (magN d * 2 ^ k) ∧ magN d * 2 ^ k ≤ magN r ∧ magN r < 2 * (magN d * 2 ^ k) ∧ ldB d k = zF false (magN d * 2 ^ k) ∧ k ≤ 3000 := by
  have hd1 := mag_pos.1 hd0
  have hr1 := mag_pos.1 (by omega : 0 < magN r)
  obtain ⟨a1, a2⟩ := nM_bd hr1
  obtain ⟨b1, b2⟩ := nM_bd hd1
  have er := mag_nM hr1
  have ed := mag_nM hd1
  have lr : lgB r = ((placeB r + (mantB r).log2 : Nat) : Int) - 1074 := by unfold lgB; omega
  have ld : lgB d = ((placeB d + (mantB d).log2 : Nat) : Int) - 1074 := by unfold lgB; omega
  have hpr : placeB r ≤ 2045 := by have := fin_lt hr; unfold placeB expF; omega
  have hLr := log_lt hr1
  have hLd := log_lt hd1
  rw [lr, ld]
  generalize hEr : placeB r + (mantB r).log2 = e at *
  generalize hEd : placeB d + (mantB d).log2 = g at *
  have hge : g ≤ e := by
    rcases Nat.lt_or_ge e g with h | h
    · exfalso
      have h1 : nM r * 2 ^ e < 2 ^ 53 * 2 ^ e := Nat.mul_lt_mul_of_pos_right a2 (Nat.two_pow_pos _)
      have h2 : 2 ^ 52 * 2 ^ g ≤ nM d * 2 ^ g := Nat.mul_le_mul_right _ b1
      have h3 : 2 ^ 53 * 2 ^ e ≤ 2 ^ 52 * 2 ^ g := by
        rw [← Nat.pow_add, ← Nat.pow_add]; exact Nat.pow_le_pow_right (by omega) (by omega)
      have h4 : magN d * 2 ^ 52 ≤ magN r * 2 ^ 52 := Nat.mul_le_mul_right _ hle
      omega
    · exact h
  -- everything else from the two inequalities, in 2^52 parts
  have fin : ∀ k : Nat, g + k ≤ e → nM d * 2 ^ (g + k) ≤ nM r * 2 ^ e → nM r * 2 ^ e < 2 * (nM d * 2 ^ (g + k)) →
      Rep (magN d * 2 ^ k) ∧ magN d * 2 ^ k ≤ magN r ∧ magN r < 2 * (magN d * 2 ^ k) ∧ ldB d k = zF false (magN d * 2 ^ k) ∧ k ≤ 3000 := fun k hk h1 h2 => by
    have hq : magN d * 2 ^ k * 2 ^ 52 = nM d * 2 ^ (g + k) := by
      rw [Nat.pow_add, ← Nat.mul_assoc, ← ed]; simp only [Nat.mul_assoc, Nat.mul_comm, Nat.mul_left_comm]
    have hrep : Rep (magN d * 2 ^ k) := by
      rcases Nat.lt_or_ge (g + k) 52 with h52 | h52
      · have := rep_mul (mantB d) (placeB d + k) (mant_lt d) (by omega)
        rw [Nat.pow_add, ← Nat.mul_assoc] at this
        exact this
      · have e1 : magN d * 2 ^ k = nM d * 2 ^ (g + k - 52) := by
          refine Nat.eq_of_mul_eq_mul_right (Nat.two_pow_pos 52) ?_
          rw [hq, Nat.mul_assoc, ← Nat.pow_add, show g + k - 52 + 52 = g + k by omega]
        rw [e1]
        exact rep_mul (nM d) (g + k - 52) b2 (by omega)
    refine ⟨hrep, ?_, ?_, ?_, by omega⟩
    · refine Nat.le_of_mul_le_mul_right ?_ (Nat.two_pow_pos 52)
      rw [hq, er]; exact h1
    · refine Nat.lt_of_mul_lt_mul_right (a := 2 ^ 52) ?_
      rw [er, Nat.mul_assoc, hq]; exact h2
    · unfold ldB zF
      rw [hdn]
      congr 1
      have : -1074 + ((placeB d : Nat) : Int) + (k : Int) = -1074 + ((placeB d + k : Nat) : Int) := by omega
      rw [this, rnd_rz, Nat.pow_add, ← Nat.mul_assoc]
      rfl
  by_cases hn : nM r < nM d
  · have hlt : g < e := by
      rcases Nat.lt_or_ge g e with h | h
      · exact h
      · exfalso
        obtain rfl : g = e := by omega
        have h1 : nM r * 2 ^ g < nM d * 2 ^ g := Nat.mul_lt_mul_of_pos_right hn (Nat.two_pow_pos _)
        have h4 : magN d * 2 ^ 52 ≤ magN r * 2 ^ 52 := Nat.mul_le_mul_right _ hle
        omega
    refine ⟨e - g - 1, by rw [if_pos hn]; omega, ?_⟩
    have h2 : 2 ^ e = 2 * 2 ^ (g + (e - g - 1)) := by rw [← Nat.pow_succ']; congr 1; omega
    refine fin (e - g - 1) (by omega) ?_ ?_
    · rw [h2, ← Nat.mul_assoc]
      exact Nat.mul_le_mul_right _ (by omega)
    · rw [h2, Nat.mul_left_comm]
      exact Nat.mul_lt_mul_of_pos_left (Nat.mul_lt_mul_of_pos_right hn (Nat.two_pow_pos _)) (by omega)
  · refine ⟨e - g, by rw [if_neg hn]; omega, ?_⟩
    have h2 : 2 ^ e = 2 ^ (g + (e - g)) := by congr 1; omega
    refine fin (e - g) (by omega) ?_ ?_
    · rw [h2]; exact Nat.mul_le_mul_right _ (by omega)
    · rw [h2, ← Nat.mul_assoc]; exact Nat.mul_lt_mul_of_pos_right (by omega) (Nat.two_pow_pos _)

def floatMag : Value → Nat
  | .float _ b => magN b
  | _ => 0

theorem sgn_false (n : Nat) : sgn false n = n := rfl
theorem mag_nonneg {b : Nat} (h : 0 ≤ valZ b) : (magN b : Int) = valZ b := by rw [mag_abs]; omega
theorem neg_zero {b : Nat} (h : negB b = true) (h2 : 0 ≤ valZ b) : valZ b = 0 := by
  have := valZ_mag b
  rw [h] at this
  unfold sgn at this
  rw [if_pos rfl] at this
  omega
end Go.Pst
namespace Go.Proofs.Ytpemchghaddgdaa
open Go.RowKit Go.Pst
set_option maxRecDepth 100000
set_option linter.unusedSimpArgs false
set_option linter.unusedVariables false
attribute [local go_sem] m64bits m64from run_fsub

theorem flt_frB {r d : Nat} (hr0 : mantB r ≠ 0) (hd0 : mantB d ≠ 0) (hrn : negB r = false) (hdn : negB d = false) : flt .f64 (frB r) (frB d) = decide (nM r < nM d) := by
  obtain ⟨a1, a2⟩ := nM_bd hr0
  obtain ⟨b1, b2⟩ := nM_bd hd0
  unfold frB
  rw [hrn, hdn]
  have ew : ∀ X, wrd false X = X := fun X => rfl
  rw [ew, ew]
  have e : ∀ n, n < 2 ^ 53 → nan64 (1021 * 4503599627370496 + n) = false ∧ key64 (1021 * 4503599627370496 + n) = ((1021 * 4503599627370496 + n : Nat) : Int) := fun n h1 => by
    refine ⟨by unfold nan64; exact decide_eq_false (by omega), ?_⟩
    unfold key64
    rw [if_neg (by omega), Nat.mod_eq_of_lt (by omega)]
  rw [flt64, (e _ a2).1, (e _ b2).1, (e _ a2).2, (e _ b2).2]
  rw [Bool.eq_iff_iff]
  simp

def ModPost (x d : Nat) (w : World) (en : Ending) (w' : World) : Prop := ∃ r, en = .returned (.float .f64 r) ∧ finB r ∧ valZ r = valZ x % valZ d ∧ negB r = (decide (valZ x = 0) && negB x) ∧ w = w'


set_option maxHeartbeats 1000000 in
theorem mmod_any (x d : Nat) (w : World) (hx : finB x) (hd : finB d) (hd0 : 0 < valZ d) (hx0 : 0 ≤ valZ x) :
    Calls Try.prog 117 #[.float .f64 x, .float .f64 d] w (ModPost x d w) := by
  have hdn : negB d = false := by cases h : negB d; rfl; have := neg_zero h (by omega); omega
  have hmd := mag_nonneg (Int.le_of_lt hd0)
  have hdm : mantB d ≠ 0 := mag_pos.1 (by omega)
  have z0 : finB 0 := ⟨by decide, by decide, by decide⟩
  have v0 : valZ 0 = 0 := by decide
  have hdabs : d % 9223372036854775808 = d := by
    unfold negB at hdn; simp only [decide_eq_false_iff_not] at hdn; omega
  have HI := Lib.hid fun w => minf_any x w hx.1
  have HN := Lib.hid fun w => mnan_any x w
  have HND := Lib.hid fun w => mnan_any d w
  have HAB := Lib.hid fun w => mabs_any d w hd.1
  have HF := Lib.hid fun w => mFrexp_any d w hd hdm
  rw [hdabs] at HAB
  rw [hx.2.2] at HI
  rw [hx.2.1] at HN
  rw [hd.2.1] at HND
  have hz : feq .f64 d 0 = false := by rw [feq_fin hd z0, v0]; exact decide_eq_false (by omega)
  have hlt : flt .f64 x 0 = false := by rw [flt_fin hx z0, v0]; exact decide_eq_false (by omega)
  have HX := Lib.hid hx; have HD := Lib.hid hd; have HD0 := Lib.hid hd0; have HX0 := Lib.hid hx0; have HDN := Lib.hid hdn; have HMD := Lib.hid hmd; have HDM := Lib.hid hdm
  clear hx hd hd0 hx0 hdn hmd hdm hdabs v0
  go_enter Try.func117, Try.ntmps117
  go_wp2_with fail
  refine (HI.out _).mono ?_
  rintro en w' ⟨rfl, rfl⟩
  go_wp2_with fail
  refine (HN.out _).mono ?_
  rintro en w' ⟨rfl, rfl⟩
  go_wp2_with fail
  refine (HND.out _).mono ?_
  rintro en w' ⟨rfl, rfl⟩
  go_wp2_with fail
  refine (HAB.out _).mono ?_
  rintro en w' ⟨rfl, rfl⟩
  go_wp2_with fail
  refine (HF.out _).mono ?_
  rintro en w' ⟨rfl, rfl⟩
  go_wp2_with fail
  go_loop [7] (fun t => ∃ r, t = .float .f64 r ∧ finB r ∧ 0 ≤ valZ r ∧ valZ r % valZ d = valZ x % valZ d ∧ negB r = (decide (valZ x = 0) && negB x)) (fun t => floatMag t)
  case atStart => exact ⟨x, rfl, HX.out, HX0.out, rfl, by
    cases h : negB x
    · simp
    · rw [neg_zero h HX0.out]; simp⟩
  case round =>
    obtain ⟨r, rfl, hr, hr0, hrd, hrn⟩ := hrel
    have hgt := fgt_fin hr HD.out
    have heq := feq_fin hr HD.out
    by_cases hge : valZ d ≤ valZ r
    · have hle : magN d ≤ magN r := by have := mag_nonneg hr0; have := HMD.out; omega
      have hrn2 : negB r = false := by cases h : negB r; rfl; have := neg_zero h hr0; have := HD0.out; omega
      obtain ⟨k, hk, hrep, hk1, hk2, hk3, hk4⟩ := mod_step hr HD.out (by have := HMD.out; have := HD0.out; omega) hle HDN.out
      have hrm : mantB r ≠ 0 := mag_pos.1 (by have := HMD.out; have := HD0.out; omega)
      obtain ⟨g1, g2, g3, g4⟩ := zF_fin hrep false
      have hvr := mag_nonneg hr0
      have HFR := Lib.hid fun w => mFrexp_any r w hr hrm
      have HL := Lib.hid fun w => mLdexp_any d k w HD.out (by omega) (by omega)
      rw [hk3] at HL
      have hfl := flt_frB hrm HDM.out hrn2 HDN.out
      generalize hzz : zF false (magN d * 2 ^ k) = z at *
      have hdiff : ((magN r - magN d * 2 ^ k : Nat) : Int) = valZ r - valZ z := by rw [g3, sgn_false]; omega
      have hrp2 : Rep (valZ r - valZ z).natAbs := by
        rw [← hdiff, Int.natAbs_natCast]
        refine rep_diff hr g1 (by omega) (by omega) _ (.inl (by rw [g4]; omega))
      obtain ⟨s, hs1, hs2, hs3, hs4⟩ := sub_exact hr g1 hrp2
      have hu := arU_some hs1
      have hnn := arN_some hs1
      have hw := wIf_off
      have hzk : valZ z = valZ d * 2 ^ k := by
        rw [g3, sgn_false, Int.natCast_mul, HMD.out]; simp
      have hsm : valZ s % valZ d = valZ x % valZ d := by
        rw [hs3, hzk, Int.sub_mul_emod_self_left, hrd]
      have hs0 : 0 ≤ valZ s := by rw [hs3, ← hdiff]; omega
      have hsn : negB s = (decide (valZ x = 0) && negB x) := by
        have e1 : negB s = false := by
          rw [hs4, hrn2]
          split
          · rfl
          · exact decide_eq_false (by rw [← hdiff]; omega)
        rw [e1]
        cases h : negB x
        · simp
        · rw [h] at hrn
          rw [hrn2] at hrn
          have : ¬ valZ x = 0 := fun e => by simp [e] at hrn
          simp [this]
      have hmeas : magN s < magN r := by
        have h1 := mag_nonneg hs0
        have h2 : 0 < valZ z := by rw [g3, sgn_false]; have := HMD.out; have := HD0.out; have := Nat.two_pow_pos k; have h5 : 0 < magN d * 2 ^ k := Nat.mul_pos (by omega) this; omega
        omega
      have hklb : -1100 ≤ lgB r ∧ lgB r ≤ 1100 ∧ -1100 ≤ lgB d ∧ lgB d ≤ 1100 := by
        have := log_lt hrm; have := place_lt r; have := log_lt HDM.out; have := place_lt d
        unfold lgB; omega
      have HS := Lib.hid (And.intro hs2 (And.intro hs0 (And.intro hsm hsn)))
      have HME := Lib.hid hmeas
      clear hrep hk1 hk2 hk3 hk4 hrm g1 g2 g3 g4 hdiff hrp2 hs1 hs2 hs3 hs4 hzk hsm hs0 hsn hmeas hvr hrn2 hrn hrd hr0 hr hle hzz
      have hcmp : (fgt .f64 r d = true ∧ feq .f64 r d = false) ∨ (fgt .f64 r d = false ∧ feq .f64 r d = true) := by
        rcases (by omega : valZ d < valZ r ∨ valZ r = valZ d) with h | h
        · exact .inl ⟨by rw [hgt]; exact decide_eq_true h, by rw [heq]; exact decide_eq_false (by omega)⟩
        · exact .inr ⟨by rw [hgt]; exact decide_eq_false (by omega), by rw [heq]; exact decide_eq_true h⟩
      clear hgt heq hge
      generalize lgB r = lr at *
      generalize lgB d = ld at *
      by_cases hfr : nM r < nM d
      · rw [decide_eq_true hfr] at hfl
        rw [if_pos hfr] at hk
        generalize frB r = fr at *
        have hk' : lr + 1 - 1 - (ld + 1) = (k : Int) := hk
        have hk2 : lr - (ld + 1) = (k : Int) := by omega
        clear hk hfr
        rcases hcmp with ⟨hgt, heq⟩ | ⟨hgt, heq⟩ <;>
        ·
          go_wp2_with fail
          refine (HFR.out _).mono ?_
          rintro en w' ⟨rfl, rfl⟩
          go_wp2_with fail
          refine (HL.out _).mono ?_
          rintro en w' ⟨rfl, rfl⟩
          go_wp2_with fail
          go_round
          case rel => exact ⟨s, rfl, HS.out⟩
          case measure => exact HME.out
      · rw [decide_eq_false hfr] at hfl
        rw [if_neg hfr] at hk
        generalize frB r = fr at *
        have hk2 : lr + 1 - (ld + 1) = (k : Int) := by omega
        clear hk hfr
        rcases hcmp with ⟨hgt, heq⟩ | ⟨hgt, heq⟩ <;>
        ·
          go_wp2_with fail
          refine (HFR.out _).mono ?_
          rintro en w' ⟨rfl, rfl⟩
          go_wp2_with fail
          refine (HL.out _).mono ?_
          rintro en w' ⟨rfl, rfl⟩
          go_wp2_with fail
          go_round
          case rel => exact ⟨s, rfl, HS.out⟩
          case measure => exact HME.out
    · rw [decide_eq_false (by omega)] at hgt heq
      have HS := Lib.hid (And.intro hr (And.intro hr0 (And.intro hrd hrn)))
      have HLT := Lib.hid hge
      clear hr hr0 hrd hrn hge
      go_wp2_with fail
      go_ret
      exact ⟨r, rfl, HS.out.1, by rw [← HS.out.2.2.1, Int.emod_eq_of_lt HS.out.2.1 (by have := HLT.out; omega)], HS.out.2.2.2, rfl⟩
end Go.Proofs.Ytpemchghaddgdaa
