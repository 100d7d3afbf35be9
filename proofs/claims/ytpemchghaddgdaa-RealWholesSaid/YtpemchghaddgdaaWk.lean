/- Real's Even and the document's Even. Condition: the bits fit. -/
import Derived.Test.YtpemchghaddgdaaWe
import Derived.Test.YtpemchghaddgdaaNt
namespace Go.Pst
open Go Ieee Go.RowKit
set_option linter.unusedVariables false

theorem rne_S (M i : Nat) : rne M (i + 2) = nS M i + (if (hS M i && (bS M i || nS M i % 2 == 1)) then 1 else 0) := by
  unfold rne nS hS bS
  have h1 := mod_pow_succ' M (i + 1)
  have hp : 0 < 2 ^ (i + 1) := Nat.two_pow_pos _
  have hq : 2 ^ (i + 2) = 2 * 2 ^ (i + 1) := by rw [Nat.pow_succ]; omega
  have h2 : M / 2 ^ (i + 1) % 2 < 2 := Nat.mod_lt _ (by omega)
  have h3 : M % 2 ^ (i + 1) < 2 ^ (i + 1) := Nat.mod_lt _ hp
  rw [h1, hq]
  congr 1
  generalize M / (2 * 2 ^ (i + 1)) % 2 = o
  generalize M % 2 ^ (i + 1) = r at *
  generalize M / 2 ^ (i + 1) % 2 = c at *
  generalize 2 ^ (i + 1) = g at *
  obtain rfl | rfl : c = 0 ∨ c = 1 := by omega
  · rw [if_neg (by rw [Nat.mul_zero]; omega)]; simp
  · rw [Nat.mul_one]
    by_cases hr : r = 0
    · subst hr
      by_cases ho : o = 1
      · rw [if_pos (by omega)]; simp [ho]
      · rw [if_neg (by omega)]; simp [ho]
    · rw [if_pos (by omega)]; simp [hr]

theorem rne_four (N K : Nat) : rne N K = nS (4 * N) K + (if (hS (4 * N) K && (bS (4 * N) K || nS (4 * N) K % 2 == 1)) then 1 else 0) := by
  rw [← rne_S, show 4 * N = 2 * (2 * N) by omega, rne_double, rne_double]

/-- A finite float's parts. -/
theorem parts_num (b : Nat) (hb : b < 2 ^ 64) (hn : nan64 b = false) (hi : infB b = false) :
    ∃ k : Int, partsN 52 11 b = ⟨k, negB b, (mantB b : Nat), if mantB b = 0 then 0 else (placeB b : Int) - 1074, false, 0⟩ ∧ (k = 0 ∧ mantB b = 0 ∨ k = 1 ∧ mantB b ≠ 0 ∨ k = 2 ∧ mantB b ≠ 0) := by
  unfold nan64 at hn; unfold infB at hi
  simp only [decide_eq_false_iff_not] at hn hi
  have hs : (b / 9223372036854775808 % 2 == 1) = negB b := by unfold negB; rw [Bool.eq_iff_iff]; simp; omega
  unfold partsN mantB placeB expF
  simp only [show (2 : Nat) ^ 52 = 4503599627370496 from rfl, show (2 : Nat) ^ 11 = 2048 from rfl, show (2 : Nat) ^ (52 + 11) = 9223372036854775808 from rfl, hs, lst64]
  have h0 : ¬ b / 4503599627370496 % 2048 = 2048 - 1 := by omega
  by_cases h1 : 0 < b / 4503599627370496 % 2048
  · have e1 : ¬ b / 4503599627370496 % 2048 = 0 := by omega
    have e2 : ¬ 4503599627370496 + b % 4503599627370496 = 0 := by omega
    simp only [if_neg h0, if_pos h1, if_neg e1, if_neg e2]
    refine ⟨2, ?_, .inr (.inr ⟨rfl, e2⟩)⟩
    congr 1; omega
  · have e1 : b / 4503599627370496 % 2048 = 0 := by omega
    by_cases h2 : 0 < b % 4503599627370496
    · have e2 : ¬ b % 4503599627370496 = 0 := by omega
      simp only [if_neg h0, if_neg h1, if_pos e1, if_pos h2, if_neg e2]
      refine ⟨1, ?_, .inr (.inl ⟨rfl, e2⟩)⟩
      congr 1; omega
    · have e2 : b % 4503599627370496 = 0 := by omega
      simp only [if_neg h0, if_neg h1, if_pos e1, if_neg h2, if_pos e2]
      refine ⟨0, ?_, .inl ⟨rfl, e2⟩⟩
      rw [e2]; rfl

theorem evB_keep (b : Nat) (hb : b < 2 ^ 64) (h : nan64 b = true ∨ infB b = true ∨ 1074 ≤ placeB b ∨ mantB b = 0) : evB b = b := by
  unfold evB
  split
  · rfl
  · rename_i hc
    simp only [Bool.or_eq_true, decide_eq_true_eq] at hc
    have hm : mantB b = 0 := by
      rcases h with h | h | h | h
      · exact absurd (.inl (.inl h)) hc
      · exact absurd (.inl (.inr h)) hc
      · exact absurd (.inr h) hc
      · exact h
    rw [hm]
    have h0 : rndN 52 11 (rne 0 (1074 - placeB b)) 0 = 0 := by
      have : rne 0 (1074 - placeB b) = 0 := by
        unfold rne; simp
      rw [this]; rfl
    rw [h0]
    have hz : b % 9223372036854775808 = 0 := by unfold mantB expF at hm; split at hm <;> omega
    unfold wrd negB
    by_cases h1 : 9223372036854775808 ≤ b
    · rw [decide_eq_true h1, if_pos rfl]; omega
    · rw [decide_eq_false h1, if_neg (by simp)]; omega

end Go.Pst
namespace Go.Proofs.Ytpemchghaddgdaa
open Go.RowKit Go.Pst
set_option maxRecDepth 20000
set_option linter.unusedSimpArgs false
set_option linter.unusedVariables false
attribute [local go_sem] xeven xtrunc

theorem even_any (b : Nat) (w : World) (hb : b < 2 ^ 64) : Calls Try.prog 43 #[.float .f64 b] w fun en w' => ∃ x, en = .returned (.float .f64 x) ∧ isN x (evB b) = true ∧ Below w.heap.size w w' := by
  have h : ∀ w, isN (intU .even w b) (evB b) = true := fun w => by
    unfold isN
    cases hn : nan64 b
    · have h2 := even64 b hb hn
      rw [← intU_fin .even w b hn] at h2
      rw [h2]
      split <;> simp_all
    · have h3 : evB b = b := evB_keep b hb (.inl hn)
      rw [h3, hn, if_pos rfl]; exact intU_nan _ _ _ hb hn
  have HH := Lib.hid h; clear h
  go_enter Try.func43, Try.ntmps43
  go_wp2_with fail
  go_ret
  exact ⟨_, rfl, HH.out _, wIf_refl _ _⟩

theorem and_1 (x : Nat) (h : x < 2 ^ 64) : bits .and .u64 (x : Int) 1 = ((x % 2 : Nat) : Int) := by
  have := and_mask (b := x) (n := 1) h (by omega)
  simpa using this

theorem reven_keep (kd X L N : Int) (neg q : Bool) (b : Nat) (w : World) (hk : kd = 4 ∨ kd = 3 ∨ 0 ≤ X)
    (hp : ∀ w, Calls Try.prog 31 #[.int .u64 b, .agg #[.int .i64 52, .int .i64 2047, .int .i64 1023]] w fun en w' => en = .returned (.agg #[.int .i64 kd, .bool neg, .int .u64 N, .int .i64 X, .bool q, .int .u64 L]) ∧ Below w.heap.size w w') :
    Calls Try.prog 44 #[.int .u64 b] w fun en w' => en = .returned (.int .u64 b) ∧ Below w.heap.size w w' := by
  have H2 := Lib.hid fun w => size64_any w
  have H1 := Lib.hid hp; clear hp
  by_cases k4 : kd = 4
  · subst k4
    go_enter Try.func44, Try.ntmps44
    go_wp2_with fail
    have O := Reg.Own.nil w
    have zz := O.rules
    have HO := Lib.hid O; clear O
    go_wp2_with fail
    refine (H2.out _).mono ?_
    rintro en wn ⟨rfl, hbn⟩
    have O := HO.out.keep hbn
    clear HO zz
    have zz := O.rules
    have HO := Lib.hid O; clear O
    clear hbn
    go_wp2_with fail
    refine (H1.out _).mono ?_
    rintro en wn ⟨rfl, hbn⟩
    have O := HO.out.keep hbn
    clear HO zz
    have zz := O.rules
    have HO := Lib.hid O; clear O
    clear hbn
    have O := HO.out.alloc rfl #[.int .i64 4, .bool neg, .int .u64 N, .int .i64 X, .bool q, .int .u64 L] 32
    clear HO zz
    obtain ⟨c0, f0, z0, y0, -, zz⟩ := O.rules
    have HO := Lib.hid O; clear O
    go_wp2_with fail
    go_ret
    exact ⟨rfl, HO.out.below⟩
  · have t4 : (kd == 4) = false := by simpa using k4
    by_cases k3 : kd = 3
    · subst k3
      go_enter Try.func44, Try.ntmps44
      go_wp2_with fail
      have O := Reg.Own.nil w
      have zz := O.rules
      have HO := Lib.hid O; clear O
      go_wp2_with fail
      refine (H2.out _).mono ?_
      rintro en wn ⟨rfl, hbn⟩
      have O := HO.out.keep hbn
      clear HO zz
      have zz := O.rules
      have HO := Lib.hid O; clear O
      clear hbn
      go_wp2_with fail
      refine (H1.out _).mono ?_
      rintro en wn ⟨rfl, hbn⟩
      have O := HO.out.keep hbn
      clear HO zz
      have zz := O.rules
      have HO := Lib.hid O; clear O
      clear hbn
      have O := HO.out.alloc rfl #[.int .i64 3, .bool neg, .int .u64 N, .int .i64 X, .bool q, .int .u64 L] 32
      clear HO zz
      obtain ⟨c0, f0, z0, y0, -, zz⟩ := O.rules
      have HO := Lib.hid O; clear O
      go_wp2_with fail
      go_ret
      exact ⟨rfl, HO.out.below⟩
    · have t3 : (kd == 3) = false := by simpa using k3
      have hX : 0 ≤ X := by omega
      clear hk k3 k4
      go_enter Try.func44, Try.ntmps44
      go_wp2_with fail
      have O := Reg.Own.nil w
      have zz := O.rules
      have HO := Lib.hid O; clear O
      go_wp2_with fail
      refine (H2.out _).mono ?_
      rintro en wn ⟨rfl, hbn⟩
      have O := HO.out.keep hbn
      clear HO zz
      have zz := O.rules
      have HO := Lib.hid O; clear O
      clear hbn
      go_wp2_with fail
      refine (H1.out _).mono ?_
      rintro en wn ⟨rfl, hbn⟩
      have O := HO.out.keep hbn
      clear HO zz
      have zz := O.rules
      have HO := Lib.hid O; clear O
      clear hbn
      have O := HO.out.alloc rfl #[.int .i64 kd, .bool neg, .int .u64 N, .int .i64 X, .bool q, .int .u64 L] 32
      clear HO zz
      obtain ⟨c0, f0, z0, y0, -, zz⟩ := O.rules
      have HO := Lib.hid O; clear O
      go_wp2_with fail
      go_ret
      exact ⟨rfl, HO.out.below⟩


theorem ret_u64 {a b : Int} (h : a = b) : Ending.returned (.int .u64 a) = .returned (.int .u64 b) := by rw [h]

set_option maxHeartbeats 4000000 in
theorem reven_loop (kd X L : Int) (neg q : Bool) (b N K : Nat) (w : World) (t4 : (kd == 4) = false) (t3 : (kd == 3) = false) (hK0 : 0 < K) (hK : K ≤ 1074) (hX : X = -(K : Int)) (hN : N < 2 ^ 53)
    (hp : ∀ w, Calls Try.prog 31 #[.int .u64 b, .agg #[.int .i64 52, .int .i64 2047, .int .i64 1023]] w fun en w' => en = .returned (.agg #[.int .i64 kd, .bool neg, .int .u64 N, .int .i64 X, .bool q, .int .u64 L]) ∧ Below w.heap.size w w') :
    Calls Try.prog 44 #[.int .u64 b] w fun en w' => en = .returned (.int .u64 (signedBits 52 11 neg (rndN 52 11 (rne N K) 0) : Nat)) ∧ Below w.heap.size w w' := by
  have H2 := Lib.hid fun w => size64_any w
  have H1 := Lib.hid hp; clear hp
  have hX0 : ¬ 0 ≤ X := by omega
  obtain ⟨M, hM⟩ : ∃ M, M = 4 * N := ⟨_, rfl⟩
  have hs0 := S_zero N 0 (by omega)
  rw [Nat.add_zero, ← hM] at hs0
  have hle : ∀ t, nS M t ≤ N := fun t => by rw [hM]; unfold nS; exact Nat.le_trans (Nat.div_le_div_left (Nat.pow_le_pow_right (by omega) (show 2 ≤ t + 2 by omega)) (by omega)) (by omega)
  have HS0 := Lib.hid hs0; have HLE := Lib.hid hle; have HM := Lib.hid hM; have HX := Lib.hid hX
  clear hs0 hle hM hX
  go_enter Try.func44, Try.ntmps44
  go_wp2_with fail
  have O := Reg.Own.nil w
  have zz := O.rules
  have HO := Lib.hid O; clear O
  go_wp2_with fail
  refine (H2.out _).mono ?_
  rintro en wn ⟨rfl, hbn⟩
  have O := HO.out.keep hbn
  clear HO zz
  have zz := O.rules
  have HO := Lib.hid O; clear O
  clear hbn
  go_wp2_with fail
  refine (H1.out _).mono ?_
  rintro en wn ⟨rfl, hbn⟩
  have O := HO.out.keep hbn
  clear HO zz
  have zz := O.rules
  have HO := Lib.hid O; clear O
  clear hbn
  have O := HO.out.alloc rfl #[.int .i64 kd, .bool neg, .int .u64 N, .int .i64 X, .bool q, .int .u64 L] 32
  clear HO zz
  obtain ⟨c0, f0, z0, y0, -, zz⟩ := O.rules
  have HO := Lib.hid O; clear O
  go_wp2_with fail
  go_loopw [4, 5, 6, 7] (fun m h s e wr => ∃ t : Nat, t ≤ K ∧ m = .int .u64 (nS M t : Nat) ∧ h = .bool (hS M t) ∧ s = .bool (bS M t) ∧ e = .int .i64 ((t : Int) - K) ∧ Reg.Own w wr [(wn.heap.size, #[.int .i64 kd, .bool neg, .int .u64 N, .int .i64 X, .bool q, .int .u64 L], 32)]) (fun _ _ _ e _ => (-(intOf e)).toNat)
  case atStart => exact ⟨0, by omega, by rw [HS0.out.1], by rw [HS0.out.2.1], by rw [HS0.out.2.2]; rfl, by rw [HX.out]; simp, HO.out⟩
  case round =>
    obtain ⟨t, ht, rfl, rfl, rfl, rfl, HO'⟩ := hrel
    have O := HO'
    obtain ⟨c0, f0, z0, y0, -, zz⟩ := O.rules
    have HO := Lib.hid O; clear O
    obtain ⟨n, hn⟩ : ∃ n, n = nS M t := ⟨_, rfl⟩
    have hn53 : n < 2 ^ 53 := by rw [hn]; exact Nat.lt_of_le_of_lt (HLE.out t) hN
    have a1 := and_1 n (by omega)
    rw [← hn]
    by_cases htK : t < K
    · have g1 : (t : Int) - K < 0 := by omega
      have NN := Lib.hid hn; clear hn
      cases hbS : bS M t
      · have HB := Lib.hid hbS; clear hbS
        go_wp2_with fail
        go_roundw
        case rel => exact ⟨t + 1, by omega, by rw [nS_succ, ← NN.out]; simp, by rw [hS_succ, ← NN.out]; congr 1; rw [Bool.eq_iff_iff]; simp; omega, by rw [bS_succ, HB.out]; rfl, by go_num, HO.out⟩
        case measure => simp [intOf]; omega
      · have HB := Lib.hid hbS; clear hbS
        go_wp2_with fail
        go_roundw
        case rel => exact ⟨t + 1, by omega, by rw [nS_succ, ← NN.out]; simp, by rw [hS_succ, ← NN.out]; congr 1; rw [Bool.eq_iff_iff]; simp; omega, by rw [bS_succ, HB.out]; rfl, by go_num, HO.out⟩
        case measure => simp [intOf]; omega
    · obtain rfl : t = K := by omega
      have g1 : ¬ (t : Int) - t < 0 := by omega
      have hre := rne_four N t
      rw [← HM.out, ← hn] at hre
      have HRE := Lib.hid hre
      have hr0 : ∀ w, Calls Try.prog 55 #[.bool neg, .int .u64 (n : Int), .int .i64 0, .bool false, .agg #[.int .i64 52, .int .i64 2047, .int .i64 1023]] w fun en w' => en = .returned (.int .u64 (signedBits 52 11 neg (rndN 52 11 n 0) : Nat)) ∧ Below w.heap.size w w' := fun w => by
        have := refround_any 52 11 2047 1023 n 0 neg false w (by omega) (by omega) (by omega) (by decide) (by decide) (by omega) (by simp) (by decide) (by decide)
        rwa [show 4 * n + false.toNat = 4 * n from rfl, rnd_four] at this
      have hr1 : ∀ w, Calls Try.prog 55 #[.bool neg, .int .u64 ((n : Int) + 1), .int .i64 0, .bool false, .agg #[.int .i64 52, .int .i64 2047, .int .i64 1023]] w fun en w' => en = .returned (.int .u64 (signedBits 52 11 neg (rndN 52 11 (n + 1) 0) : Nat)) ∧ Below w.heap.size w w' := fun w => by
        have := refround_any 52 11 2047 1023 (n + 1) 0 neg false w (by omega) (by omega) (by omega) (by decide) (by decide) (by omega) (by simp) (by decide) (by decide)
        rwa [show 4 * (n + 1) + false.toNat = 4 * (n + 1) from rfl, rnd_four] at this
      have HR0 := Lib.hid hr0; have HR1 := Lib.hid hr1
      have NN := Lib.hid hn
      clear hre hr0 hr1 hn
      cases h1 : hS M t
      · have HS1 := Lib.hid h1; have HS2 := HS1; have HS3 := HS1; clear h1
        go_wp2_with fail
        refine Reg.wp_region_rd (by kernel_rfl) (by kernel_rfl) (fun _ => ?_)
        repeat (refine Reg.rd_op rfl ?_; apply Exists.intro; apply And.intro; (intro w' hb; have hc := Reg.rd_cells hb; clear hb; go_simp; (try go_bits); first | done | (with_reducible exact rfl)); (intro _ a' ha'; simp only [Act.put, List.setIfInBounds_toArray, List.set_cons_zero, List.set_cons_succ] at ha'; subst ha'))
        refine Reg.rd_op rfl ?_; apply Exists.intro; apply And.intro
        · intro w' hb; have hsz := Reg.rd_size hb; clear hb; go_simp; (try go_bits); with_reducible exact H2.out _
        intro _ a' ha'; simp only [Act.put, List.setIfInBounds_toArray, List.set_cons_zero, List.set_cons_succ] at ha'; subst ha'
        refine Reg.rd_op rfl ?_; apply Exists.intro; apply And.intro
        · intro w' hb; have hsz := Reg.rd_size hb; clear hb; go_simp; (try go_bits); with_reducible exact HR0.out _
        intro _ a' ha'; simp only [Act.put, List.setIfInBounds_toArray, List.set_cons_zero, List.set_cons_succ] at ha'; subst ha'
        repeat (refine Reg.rd_op rfl ?_; apply Exists.intro; apply And.intro; (intro w' hb; have hc := Reg.rd_cells hb; clear hb; go_simp; (try go_bits); first | done | (with_reducible exact rfl)); (intro _ a' ha'; simp only [Act.put, List.setIfInBounds_toArray, List.set_cons_zero, List.set_cons_succ] at ha'; subst ha'))
        refine Reg.rd_end (fun wz hb => ?_)
        have O := HO.out.keep hb
        clear HO c0 f0 z0 y0 zz
        obtain ⟨c0, f0, z0, y0, -, zz⟩ := O.rules
        have HO := Lib.hid O; clear O
        clear hb
        go_wp2_with fail
        go_ret
        exact ⟨ret_u64 (by rw [HRE.out]; simp [HS1.out, HS2.out, HS3.out]), HO.out.below⟩
      · have HS1 := Lib.hid h1; clear h1
        cases h2 : bS M t
        · have HS2 := Lib.hid h2; clear h2
          by_cases h3 : n % 2 = 1
          · have a2 : (((n % 2 : Nat) : Int) == 1) = true := by simp; omega
            have HS3 := Lib.hid h3; clear h3
            go_wp2_with fail
            refine Reg.wp_region_rd (by kernel_rfl) (by kernel_rfl) (fun _ => ?_)
            repeat (refine Reg.rd_op rfl ?_; apply Exists.intro; apply And.intro; (intro w' hb; have hc := Reg.rd_cells hb; clear hb; go_simp; (try go_bits); first | done | (with_reducible exact rfl)); (intro _ a' ha'; simp only [Act.put, List.setIfInBounds_toArray, List.set_cons_zero, List.set_cons_succ] at ha'; subst ha'))
            refine Reg.rd_op rfl ?_; apply Exists.intro; apply And.intro
            · intro w' hb; have hsz := Reg.rd_size hb; clear hb; go_simp; (try go_bits); with_reducible exact H2.out _
            intro _ a' ha'; simp only [Act.put, List.setIfInBounds_toArray, List.set_cons_zero, List.set_cons_succ] at ha'; subst ha'
            refine Reg.rd_op rfl ?_; apply Exists.intro; apply And.intro
            · intro w' hb; have hsz := Reg.rd_size hb; clear hb; go_simp; (try go_bits); with_reducible exact HR1.out _
            intro _ a' ha'; simp only [Act.put, List.setIfInBounds_toArray, List.set_cons_zero, List.set_cons_succ] at ha'; subst ha'
            repeat (refine Reg.rd_op rfl ?_; apply Exists.intro; apply And.intro; (intro w' hb; have hc := Reg.rd_cells hb; clear hb; go_simp; (try go_bits); first | done | (with_reducible exact rfl)); (intro _ a' ha'; simp only [Act.put, List.setIfInBounds_toArray, List.set_cons_zero, List.set_cons_succ] at ha'; subst ha'))
            refine Reg.rd_end (fun wz hb => ?_)
            have O := HO.out.keep hb
            clear HO c0 f0 z0 y0 zz
            obtain ⟨c0, f0, z0, y0, -, zz⟩ := O.rules
            have HO := Lib.hid O; clear O
            clear hb
            go_wp2_with fail
            go_ret
            exact ⟨ret_u64 (by rw [HRE.out]; simp [HS1.out, HS2.out, HS3.out]), HO.out.below⟩
          · have a2 : (((n % 2 : Nat) : Int) == 1) = false := by simp; omega
            have HS3 := Lib.hid h3; clear h3
            go_wp2_with fail
            refine Reg.wp_region_rd (by kernel_rfl) (by kernel_rfl) (fun _ => ?_)
            repeat (refine Reg.rd_op rfl ?_; apply Exists.intro; apply And.intro; (intro w' hb; have hc := Reg.rd_cells hb; clear hb; go_simp; (try go_bits); first | done | (with_reducible exact rfl)); (intro _ a' ha'; simp only [Act.put, List.setIfInBounds_toArray, List.set_cons_zero, List.set_cons_succ] at ha'; subst ha'))
            refine Reg.rd_op rfl ?_; apply Exists.intro; apply And.intro
            · intro w' hb; have hsz := Reg.rd_size hb; clear hb; go_simp; (try go_bits); with_reducible exact H2.out _
            intro _ a' ha'; simp only [Act.put, List.setIfInBounds_toArray, List.set_cons_zero, List.set_cons_succ] at ha'; subst ha'
            refine Reg.rd_op rfl ?_; apply Exists.intro; apply And.intro
            · intro w' hb; have hsz := Reg.rd_size hb; clear hb; go_simp; (try go_bits); with_reducible exact HR0.out _
            intro _ a' ha'; simp only [Act.put, List.setIfInBounds_toArray, List.set_cons_zero, List.set_cons_succ] at ha'; subst ha'
            repeat (refine Reg.rd_op rfl ?_; apply Exists.intro; apply And.intro; (intro w' hb; have hc := Reg.rd_cells hb; clear hb; go_simp; (try go_bits); first | done | (with_reducible exact rfl)); (intro _ a' ha'; simp only [Act.put, List.setIfInBounds_toArray, List.set_cons_zero, List.set_cons_succ] at ha'; subst ha'))
            refine Reg.rd_end (fun wz hb => ?_)
            have O := HO.out.keep hb
            clear HO c0 f0 z0 y0 zz
            obtain ⟨c0, f0, z0, y0, -, zz⟩ := O.rules
            have HO := Lib.hid O; clear O
            clear hb
            go_wp2_with fail
            go_ret
            exact ⟨ret_u64 (by rw [HRE.out]; simp [HS1.out, HS2.out, HS3.out]), HO.out.below⟩
        · have HS2 := Lib.hid h2; have HS3 := HS2; clear h2
          go_wp2_with fail
          refine Reg.wp_region_rd (by kernel_rfl) (by kernel_rfl) (fun _ => ?_)
          repeat (refine Reg.rd_op rfl ?_; apply Exists.intro; apply And.intro; (intro w' hb; have hc := Reg.rd_cells hb; clear hb; go_simp; (try go_bits); first | done | (with_reducible exact rfl)); (intro _ a' ha'; simp only [Act.put, List.setIfInBounds_toArray, List.set_cons_zero, List.set_cons_succ] at ha'; subst ha'))
          refine Reg.rd_op rfl ?_; apply Exists.intro; apply And.intro
          · intro w' hb; have hsz := Reg.rd_size hb; clear hb; go_simp; (try go_bits); with_reducible exact H2.out _
          intro _ a' ha'; simp only [Act.put, List.setIfInBounds_toArray, List.set_cons_zero, List.set_cons_succ] at ha'; subst ha'
          refine Reg.rd_op rfl ?_; apply Exists.intro; apply And.intro
          · intro w' hb; have hsz := Reg.rd_size hb; clear hb; go_simp; (try go_bits); with_reducible exact HR1.out _
          intro _ a' ha'; simp only [Act.put, List.setIfInBounds_toArray, List.set_cons_zero, List.set_cons_succ] at ha'; subst ha'
          repeat (refine Reg.rd_op rfl ?_; apply Exists.intro; apply And.intro; (intro w' hb; have hc := Reg.rd_cells hb; clear hb; go_simp; (try go_bits); first | done | (with_reducible exact rfl)); (intro _ a' ha'; simp only [Act.put, List.setIfInBounds_toArray, List.set_cons_zero, List.set_cons_succ] at ha'; subst ha'))
          refine Reg.rd_end (fun wz hb => ?_)
          have O := HO.out.keep hb
          clear HO c0 f0 z0 y0 zz
          obtain ⟨c0, f0, z0, y0, -, zz⟩ := O.rules
          have HO := Lib.hid O; clear O
          clear hb
          go_wp2_with fail
          go_ret
          exact ⟨ret_u64 (by rw [HRE.out]; simp [HS1.out, HS2.out, HS3.out]), HO.out.below⟩

end Go.Proofs.Ytpemchghaddgdaa
