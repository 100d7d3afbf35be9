/- Power, here and in the document, walked. Condition: the bits fit. -/
import Derived.Test.YtpemchghaddgdaaRx
namespace Go.Proofs.Ytpemchghaddgdaa
open Go.RowKit Go.Pst
set_option maxRecDepth 100000
set_option linter.unusedSimpArgs false
set_option linter.unusedVariables false
attribute [local go_sem] m64bits m64from run_fsub

theorem ilogb_any (b : Nat) (w : World) (hf : finB b) (h0 : mantB b ≠ 0) :
    Calls Try.prog 113 #[.float .f64 b] w fun en w' => en = .returned (.int .i64 (lgB b)) ∧ w = w' := by
  obtain ⟨hb, hn, hi⟩ := hf
  have HM := Lib.hid fun w => mnorm_any b w ⟨hb, hn, hi⟩ h0
  obtain ⟨n1, n2, n3, n4⟩ := nrm_bits b hn hi h0
  obtain ⟨m3, m4⟩ := nF_bd hn hi h0
  have hfld := u64_field _ n1
  rw [n2] at hfld
  have hlb : -1100 ≤ lgB b ∧ lgB b ≤ 1100 := by
    have := log_lt h0
    have := place_lt b
    unfold lgB; omega
  clear n2 n3 n4
  generalize hx : lgB b - ((nF b : Int) - 1023) = x at *
  have hxb : -4000 ≤ x ∧ x ≤ 4000 := by omega
  have hl2 : (nF b : Int) - 1023 + x = lgB b := by omega
  generalize lgB b = l at *
  generalize nF b = F at *
  generalize wrd (negB b) (nrm b) = y at *
  clear hx h0 hn hi hb hlb
  have n1' : y < 18446744073709551616 := n1
  clear n1
  go_enter Try.func113, Try.ntmps113
  go_wp2_with fail
  refine (HM.out _).mono ?_
  rintro en w' ⟨rfl, rfl⟩
  go_wp2_with fail
  go_ret
  exact ⟨by first | rfl | simp, rfl⟩

theorem Ilogb_any (b : Nat) (w : World) (hf : finB b) (h0 : mantB b ≠ 0) :
    Calls Try.prog 100 #[.float .f64 b] w fun en w' => en = .returned (.int .i64 (lgB b)) ∧ w = w' := by
  have HI := Lib.hid fun w => minf_any b w hf.1
  have HN := Lib.hid fun w => mnan_any b w
  have HL := Lib.hid fun w => ilogb_any b w hf h0
  have hz : feq .f64 b 0 = false := by rw [feq_zero b hf.1]; exact decide_eq_false fun h => h0 (mant_zero.2 h)
  rw [hf.2.1] at HN
  rw [hf.2.2] at HI
  generalize lgB b = l at *
  clear hf h0
  go_enter Try.func100, Try.ntmps100
  go_wp2_with fail
  refine (HN.out _).mono ?_
  rintro en w' ⟨rfl, rfl⟩
  go_wp2_with fail
  refine (HI.out _).mono ?_
  rintro en w' ⟨rfl, rfl⟩
  go_wp2_with fail
  refine (HL.out _).mono ?_
  rintro en w' ⟨rfl, rfl⟩
  go_wp2_with fail
  go_ret
  exact ⟨by first | rfl | simp, rfl⟩

def powOk (b : Nat) : Bool := !nan64 b && !infB b && decide (mantB b ≠ 0)
def powV (b : Nat) : Int := if powOk b then lgB b else 0

theorem power_any (b : Nat) (w : World) (hb : b < 2 ^ 64) : Calls Try.prog 71 #[.float .f64 b] w fun en w' => en = .returned (.tuple #[.int .i64 (powV b), .bool (powOk b)]) ∧ Below w.heap.size w w' := by
  have hz := feq_zero b hb
  have hw := wIf_off
  by_cases h0 : mantB b = 0
  · rw [decide_eq_true (mant_zero.1 h0)] at hz
    have e1 : powOk b = false := by unfold powOk; simp [h0]
    have e2 : powV b = 0 := by unfold powV; rw [e1]; rfl
    rw [e1, e2]
    clear e1 e2 h0 hb
    go_enter Try.func71, Try.ntmps71
    go_wp2_with fail
    go_ret2
    exact ⟨rfl, Below.refl _ _⟩
  · rw [decide_eq_false (fun h => h0 (mant_zero.2 h))] at hz
    by_cases hs : nan64 b = true ∨ infB b = true
    · have hd := subself_nan hb hs
      have e1 : powOk b = false := by unfold powOk; rcases hs with h | h <;> simp [h]
      have e2 : powV b = 0 := by unfold powV; rw [e1]; rfl
      rw [e1, e2]
      have hf : ∀ w, fne .f64 (arU .sub w b b) 0 = true := fun w => fne_nan (arU_none hd w)
      have hn : (arD .sub b b).isNone = true := by rw [hd]; rfl
      have HB := Lib.hid (wIf_refl true w)
      clear e1 e2 h0 hb hs hd
      go_enter Try.func71, Try.ntmps71
      go_wp2_with fail
      go_ret2
      exact ⟨rfl, HB.out⟩
    · have hf : finB b := ⟨hb, by cases h : nan64 b; rfl; exact absurd (.inl h) hs, by cases h : infB b; rfl; exact absurd (.inr h) hs⟩
      have hd := subself_fin hf
      have hu := arU_some hd
      have hn := arN_some hd
      have e1 : powOk b = true := by unfold powOk; rw [hf.2.1, hf.2.2]; simp [h0]
      have e2 : powV b = lgB b := by unfold powV; rw [e1]; rfl
      rw [e1, e2]
      have h00 : fne .f64 0 0 = false := by rw [fne_self]; rfl
      have HL := Lib.hid fun w => Ilogb_any b w hf h0
      clear e1 e2 h0 hb hs hd hf
      generalize lgB b = l at *
      go_enter Try.func71, Try.ntmps71
      go_wp2_with fail
      refine (HL.out _).mono ?_
      rintro en w' ⟨rfl, rfl⟩
      go_wp2_with fail
      go_ret2
      exact ⟨by first | rfl | simp, Below.refl _ _⟩



set_option maxHeartbeats 1000000 in
theorem rpower_any (b : Nat) (w : World) (hb : b < 2 ^ 64) : Calls Try.prog 72 #[.int .u64 b] w fun en w' => en = .returned (.tuple #[.int .i64 (powV b), .bool (powOk b)]) ∧ Below w.heap.size w w' := by
  have hz : ∀ w, Calls Try.prog 21 #[] w fun en w' => en = .returned (.agg #[.int .i64 52, .int .i64 2047, .int .i64 1023]) ∧ Below w.heap.size w w' := fun w => size64_any w
  have hp := fun w => refparts64 b w hb
  obtain ⟨m, hm, hm1, k4, k3, k5, k6, -⟩ := parts_say b hb
  have HZ := Lib.hid hz
  have hcase : powOk b = true ∨ powOk b = false := by cases powOk b <;> simp
  rcases hcase with hok | hok
  · have hok2 := hok
    unfold powOk at hok2
    simp only [Bool.and_eq_true, Bool.not_eq_true', decide_eq_true_eq] at hok2
    obtain ⟨⟨hn, hi⟩, h0⟩ := hok2
    obtain ⟨q1, q2, q3, q4, q5, q6⟩ := parts_fin b hb hn hi
    have hk12 : (partsN 52 11 b).kind = 1 ∨ (partsN 52 11 b).kind = 2 := by
      rw [q4, if_neg (fun h => h0 (q5.2 h))]; split <;> omega
    have hx := q3 (by omega)
    have hmm : m = mantB b := by omega
    subst hmm
    have hlog := log_lt h0
    have e2 : powV b = (partsN 52 11 b).exp + ((mantB b).log2 : Nat) := by unfold powV; rw [hok, if_pos rfl, lgB_eq]; omega
    rw [hok, e2]
    clear e2 q1 q2 q3 q4 q5 q6 hx hn hi hok k3 k4 k5
    generalize mantB b = m at *
    generalize partsN 52 11 b = p at *
    obtain ⟨pk, pn, pm, px, pq, pl⟩ := p
    simp only [FP.val] at hp hm hk12 k6 ⊢
    subst hm
    have HP := Lib.hid hp
    have HH0 : Hid (m ≠ 0) := Lib.hid h0
    clear hp hb hz h0
    have hl : ∀ w', Below w.heap.size w w' → Below w.heap.size w (w'.alloc (.cells #[.int .i64 pk, .bool pn, .int .u64 m, .int .i64 px, .bool pq, .int .u64 pl] 32)) := fun w' h => h.alloc h.size _
    have HLB := Lib.hid hl
    clear hl
    rcases hk12 with rfl | rfl
    ·
      go_enter Try.func72, Try.ntmps72
      go_wp2_with fail
      have O := Reg.Own.nil w
      have zz := O.rules
      have HO := Lib.hid O; clear O
      go_wp2_with fail
      refine (HZ.out _).mono ?_
      rintro en wn ⟨rfl, hbn⟩
      have O := HO.out.keep hbn
      clear HO zz
      have zz := O.rules
      have HO := Lib.hid O; clear O
      clear hbn
      go_wp2_with fail
      refine (HP.out _).mono ?_
      rintro en wn ⟨rfl, hbn⟩
      have O := HO.out.keep hbn
      clear HO zz
      have zz := O.rules
      have HO := Lib.hid O; clear O
      clear hbn
      go_wp2_with fail
      have BW := Lib.hid (HLB.out _ HO.out.below)
      clear HLB HO zz
      go_loop [5, 6] (fun n a => ∃ k : Nat, k ≤ m.log2 ∧ n = .int .i64 (px + k) ∧ a = .int .u64 ((m / 2 ^ k : Nat) : Int)) (fun _ a => (intOf a).toNat)
      case atStart => exact ⟨0, by omega, by simp, by simp⟩
      case round =>
        obtain ⟨k, hk, rfl, rfl⟩ := hrel
        have hA2 : m / 2 ^ (k + 1) = m / 2 ^ k / 2 := by rw [Nat.pow_succ, Nat.div_div_eq_div_mul]
        have hAm : m / 2 ^ k ≤ m := Nat.div_le_self _ _
        have hgt : 1 < m / 2 ^ k ↔ k < m.log2 := by
          have h1 := Nat.log2_self_le HH0.out
          have h2 : m < 2 ^ (m.log2 + 1) := Nat.lt_log2_self
          constructor
          · intro h
            have h3 : 2 * 2 ^ k ≤ m := (Nat.le_div_iff_mul_le (Nat.two_pow_pos k)).1 h
            have h4 : 2 ^ (k + 1) < 2 ^ (m.log2 + 1) := by rw [Nat.pow_succ]; omega
            have := (Nat.pow_lt_pow_iff_right (by omega)).1 h4
            omega
          · intro h
            have h3 : 2 ^ (k + 1) ≤ 2 ^ m.log2 := Nat.pow_le_pow_right (by omega) h
            rw [Nat.pow_succ] at h3
            exact (Nat.le_div_iff_mul_le (Nat.two_pow_pos k)).2 (by omega)
        have HA2 := Lib.hid hA2
        clear hA2
        generalize m / 2 ^ k = A at *
        by_cases hA : 1 < A
        · have hkl := hgt.1 hA
          have hA1 : (1 : Int) < (A : Int) := by omega
          clear hgt
          go_wp2_with fail
          go_round
          case rel => exact ⟨k + 1, by omega, congrArg (Value.int .i64) (by omega), congrArg (Value.int .u64) (by rw [HA2.out]; omega)⟩
          case measure => simp [intOf]; omega
        · have hA1 : ¬ (1 : Int) < (A : Int) := by omega
          have hkk : k = m.log2 := by
            rcases Nat.lt_or_ge k m.log2 with h | h
            · exact absurd (hgt.2 h) hA
            · omega
          have HK := Lib.hid hkk
          clear hgt hkk hA
          go_wp2_with fail
          go_ret2
          exact ⟨by rw [HK.out]; rfl, BW.out⟩
    ·
      go_enter Try.func72, Try.ntmps72
      go_wp2_with fail
      have O := Reg.Own.nil w
      have zz := O.rules
      have HO := Lib.hid O; clear O
      go_wp2_with fail
      refine (HZ.out _).mono ?_
      rintro en wn ⟨rfl, hbn⟩
      have O := HO.out.keep hbn
      clear HO zz
      have zz := O.rules
      have HO := Lib.hid O; clear O
      clear hbn
      go_wp2_with fail
      refine (HP.out _).mono ?_
      rintro en wn ⟨rfl, hbn⟩
      have O := HO.out.keep hbn
      clear HO zz
      have zz := O.rules
      have HO := Lib.hid O; clear O
      clear hbn
      go_wp2_with fail
      have BW := Lib.hid (HLB.out _ HO.out.below)
      clear HLB HO zz
      go_loop [5, 6] (fun n a => ∃ k : Nat, k ≤ m.log2 ∧ n = .int .i64 (px + k) ∧ a = .int .u64 ((m / 2 ^ k : Nat) : Int)) (fun _ a => (intOf a).toNat)
      case atStart => exact ⟨0, by omega, by simp, by simp⟩
      case round =>
        obtain ⟨k, hk, rfl, rfl⟩ := hrel
        have hA2 : m / 2 ^ (k + 1) = m / 2 ^ k / 2 := by rw [Nat.pow_succ, Nat.div_div_eq_div_mul]
        have hAm : m / 2 ^ k ≤ m := Nat.div_le_self _ _
        have hgt : 1 < m / 2 ^ k ↔ k < m.log2 := by
          have h1 := Nat.log2_self_le HH0.out
          have h2 : m < 2 ^ (m.log2 + 1) := Nat.lt_log2_self
          constructor
          · intro h
            have h3 : 2 * 2 ^ k ≤ m := (Nat.le_div_iff_mul_le (Nat.two_pow_pos k)).1 h
            have h4 : 2 ^ (k + 1) < 2 ^ (m.log2 + 1) := by rw [Nat.pow_succ]; omega
            have := (Nat.pow_lt_pow_iff_right (by omega)).1 h4
            omega
          · intro h
            have h3 : 2 ^ (k + 1) ≤ 2 ^ m.log2 := Nat.pow_le_pow_right (by omega) h
            rw [Nat.pow_succ] at h3
            exact (Nat.le_div_iff_mul_le (Nat.two_pow_pos k)).2 (by omega)
        have HA2 := Lib.hid hA2
        clear hA2
        generalize m / 2 ^ k = A at *
        by_cases hA : 1 < A
        · have hkl := hgt.1 hA
          have hA1 : (1 : Int) < (A : Int) := by omega
          clear hgt
          go_wp2_with fail
          go_round
          case rel => exact ⟨k + 1, by omega, congrArg (Value.int .i64) (by omega), congrArg (Value.int .u64) (by rw [HA2.out]; omega)⟩
          case measure => simp [intOf]; omega
        · have hA1 : ¬ (1 : Int) < (A : Int) := by omega
          have hkk : k = m.log2 := by
            rcases Nat.lt_or_ge k m.log2 with h | h
            · exact absurd (hgt.2 h) hA
            · omega
          have HK := Lib.hid hkk
          clear hgt hkk hA
          go_wp2_with fail
          go_ret2
          exact ⟨by rw [HK.out]; rfl, BW.out⟩
  · have e2 : powV b = 0 := by unfold powV; rw [hok]; rfl
    rw [hok, e2]
    have hk1 : (partsN 52 11 b).kind ≠ 1 ∧ (partsN 52 11 b).kind ≠ 2 := by
      unfold powOk at hok
      cases hn : nan64 b
      · cases hi : infB b
        · obtain ⟨q1, q2, q3, q4, q5, q6⟩ := parts_fin b hb hn hi
          rw [hn, hi] at hok
          have h0 : mantB b = 0 := by simpa using hok
          rw [q4, if_pos (q5.1 h0)]; omega
        · rw [hi] at k3
          have : (partsN 52 11 b).kind = 3 := by simpa using k3
          omega
      · rw [hn] at k4
        have : (partsN 52 11 b).kind = 4 := by simpa using k4
        omega
    have j1 : ((partsN 52 11 b).kind != 2) = true := by simp [hk1.2]
    have j2 : ((partsN 52 11 b).kind != 1) = true := by simp [hk1.1]
    clear e2 hok k3 k4 k5 k6 hk1
    generalize partsN 52 11 b = p at *
    obtain ⟨pk, pn, pm, px, pq, pl⟩ := p
    simp only [FP.val] at hp hm j1 j2
    have HP := Lib.hid hp
    clear hp hb hz hm
    go_enter Try.func72, Try.ntmps72
    go_wp2_with fail
    have O := Reg.Own.nil w
    have zz := O.rules
    have HO := Lib.hid O; clear O
    go_wp2_with fail
    refine (HZ.out _).mono ?_
    rintro en wn ⟨rfl, hbn⟩
    have O := HO.out.keep hbn
    clear HO zz
    have zz := O.rules
    have HO := Lib.hid O; clear O
    clear hbn
    go_wp2_with fail
    refine (HP.out _).mono ?_
    rintro en wn ⟨rfl, hbn⟩
    have O := HO.out.keep hbn
    clear HO zz
    have zz := O.rules
    have HO := Lib.hid O; clear O
    clear hbn
    go_wp2_with fail
    go_ret2
    exact ⟨by first | rfl | simp, HO.out.below.alloc HO.out.size _⟩
end Go.Proofs.Ytpemchghaddgdaa
