/- The program's rounding: what near of a size gives; bits.Len64. Condition: sizes of at most 52 and 11 bits. -/
import Derived.Test.YtpemchghaddgdaaNt
import Derived.Test.YtpemchghaddgdaaLn
namespace Go.Proofs.Ytpemchghaddgdaa
open Go.RowKit Go.Pst
set_option maxRecDepth 20000
set_option linter.unusedSimpArgs false
set_option linter.unusedVariables false

theorem bitLen_log2 (x : Nat) (h : x < 2 ^ 64) : Lib.bitLen x = if x = 0 then 0 else x.log2 + 1 := by
  by_cases h0 : x = 0
  · subst h0; rfl
  · rw [if_neg h0]
    have h1 : 2 ^ x.log2 ≤ x := Nat.log2_self_le h0
    have h2 : x < 2 ^ (x.log2 + 1) := Nat.lt_log2_self
    rw [Lib.bitLen_shift _ _ h1 h]
    have h3 : x / 2 ^ x.log2 = 1 := by
      rw [Nat.div_eq_iff (Nat.two_pow_pos _)]
      rw [Nat.pow_succ] at h2; omega
    rw [h3]; rfl

theorem len64_any (x : Nat) (w : World) (h0 : x ≠ 0) (h : x < 2 ^ 64) : Calls Try.prog 111 #[.int .u64 x] w fun en w' => en = .returned (.int .i64 ((x.log2 : Int) + 1)) ∧ w = w' :=
  (len64_int x w (by omega) (by omega)).mono fun en w' ⟨e1, e2⟩ => ⟨by rw [e1, Int.toNat_natCast, bitLen_log2 x h, if_neg h0]; rfl, e2.symm⟩




theorem rnd_cases (f e M : Nat) (E : Int) (P T q : Nat) (L x : Int) (hP : P = 2 ^ f) (hT : T = 2 ^ e - 1) (hL : L = lst f e) (hq : q = keptN f e M E) (hx : x = E + kap f e M E) (he1 : 1 ≤ e) (hM : M ≠ 0) :
    q ≤ 2 * P ∧ L ≤ x ∧ ((q < P ∧ rndN f e M E = q) ∨ (q = 2 * P ∧ (T : Int) ≤ x + 1 - L + 1 ∧ rndN f e M E = T * P) ∨
      (q = 2 * P ∧ ¬ (T : Int) ≤ x + 1 - L + 1 ∧ rndN f e M E = (x + 1 - L + 1).toNat * P + P % P) ∨ (P ≤ q ∧ q ≠ 2 * P ∧ (T : Int) ≤ x - L + 1 ∧ rndN f e M E = T * P) ∨
      (P ≤ q ∧ q ≠ 2 * P ∧ ¬ (T : Int) ≤ x - L + 1 ∧ rndN f e M E = (x - L + 1).toNat * P + q % P)) := by
  have hkf := kept_facts f e M E hM
  have hp : 1 ≤ P := by rw [hP]; exact Nat.one_le_two_pow
  have hr : rndN f e M E = min ((x - L).toNat * P + q) (T * P) := by unfold rndN; rw [if_neg hM, hP, hT, hq, hx, hL]
  rw [← hq, ← hx, ← hL, Nat.pow_succ, ← hP] at hkf
  have hf := rnd_fin f e q x he1 (by rw [Nat.pow_succ, ← hP]; exact hkf.1) (by rw [← hP, ← hL]; exact hkf.2.1) (by rw [← hL]; exact hkf.2.2)
  rw [← hP, ← hT, ← hL, Nat.pow_succ, ← hP, ← hr, Nat.mul_comm P 2] at hf
  refine ⟨by omega, hkf.2.2, ?_⟩
  rcases Nat.lt_or_ge q P with h1 | h1
  · exact .inl ⟨h1, by rw [hf, if_pos h1]⟩
  · rw [if_neg (by omega)] at hf
    by_cases h2 : q = 2 * P
    · simp only [if_pos h2] at hf
      by_cases h3 : (T : Int) ≤ x + 1 - L + 1
      · exact .inr (.inl ⟨h2, h3, by rw [hf, if_pos h3]⟩)
      · exact .inr (.inr (.inl ⟨h2, h3, by rw [hf, if_neg h3]⟩))
    · simp only [if_neg h2] at hf
      by_cases h3 : (T : Int) ≤ x - L + 1
      · exact .inr (.inr (.inr (.inl ⟨h1, h2, h3, by rw [hf, if_pos h3]⟩)))
      · exact .inr (.inr (.inr (.inr ⟨h1, h2, h3, by rw [hf, if_neg h3]⟩)))

set_option maxHeartbeats 4000000 in
theorem near_any (f e m : Nat) (E : Int) (w : World) (hf : f ≤ 52) (he1 : 1 ≤ e) (he : e ≤ 11) (hm : m < 2 ^ 64) (hm0 : m ≠ 0) (hE1 : -2 ^ 40 ≤ E) (hE2 : E ≤ 2 ^ 40) :
    Calls Try.prog 94 #[.agg #[.int .i64 f, .int .i64 e], .int .u64 m, .int .i64 E] w fun en w' => en = .returned (.int .u64 (rndN f e m E)) ∧ Below w.heap.size w w' := by
  obtain ⟨r, hr⟩ : ∃ r, r = rndN f e m E := ⟨_, rfl⟩
  rw [← hr]
  have hlog : m.log2 < 64 := (Nat.log2_lt hm0).2 hm
  have hk : kap f e m E = max ((m.log2 : Int) - f) (lst f e - E) := rfl
  have hkf := kept_facts f e m E hm0
  have hL2 := lst_bd hf he
  have hl := fun w => least_any f e w hf he
  have ht := fun w => top_any f e w he
  have hb := fun w => (len64_any m w hm0 hm).mono (R' := fun en w' => en = .returned (.int .i64 ((m.log2 : Int) + 1)) ∧ Below w.heap.size w w') fun en w' ⟨h1, h2⟩ => ⟨h1, h2 ▸ Below.refl _ _⟩
  obtain ⟨P, hP⟩ : ∃ P, P = 2 ^ f := ⟨_, rfl⟩
  have a0 : (2 : Int) ^ f = (P : Int) := by rw [hP]; simp
  have a1 : 1 ≤ P := by rw [hP]; exact Nat.one_le_two_pow
  have a2 : P ≤ 2 ^ 52 := by rw [hP]; exact Nat.pow_le_pow_right (by omega) hf
  generalize hLL : lst f e = L at *
  generalize hll : m.log2 = l at *
  obtain ⟨tt, hto⟩ : ∃ tt : Int, tt = max L (E + l - f) := ⟨_, rfl⟩
  have HL := Lib.hid hl; have HT := Lib.hid ht; have HB := Lib.hid hb; clear hl ht hb
  have HP := Lib.hid hP; have HK := Lib.hid hk; have HKF := Lib.hid hkf; have HLL := Lib.hid hLL; have HR := Lib.hid hr; have Hll := Lib.hid hll
  clear hP hk hkf hLL hr hll
  have HTO := Lib.hid hto; clear hto
  have hm1 : ((m : Int) == 0) = false := by simp; omega
  go_enter Try.func94, Try.ntmps94
  go_wp2_with fail
  refine Reg.wp_region_rd (by kernel_rfl) (by kernel_rfl) (fun _ => ?_)
  repeat (refine Reg.rd_op rfl ?_; apply Exists.intro; apply And.intro; (intro w' hb; have hc := Reg.rd_cells hb; clear hb; go_simp; (try go_bits); first | done | (with_reducible exact rfl)); (intro _ a' ha'; simp only [Act.put, List.setIfInBounds_toArray, List.set_cons_zero, List.set_cons_succ] at ha'; subst ha'))
  refine Reg.rd_op rfl ?_; apply Exists.intro; apply And.intro
  · intro w' hb; have hsz := Reg.rd_size hb; clear hb; go_simp; (try go_bits); exact HL.out _
  intro _ a' ha'; simp only [Act.put, List.setIfInBounds_toArray, List.set_cons_zero, List.set_cons_succ] at ha'; subst ha'
  repeat (refine Reg.rd_op rfl ?_; apply Exists.intro; apply And.intro; (intro w' hb; have hc := Reg.rd_cells hb; clear hb; go_simp; (try go_bits); first | done | (with_reducible exact rfl)); (intro _ a' ha'; simp only [Act.put, List.setIfInBounds_toArray, List.set_cons_zero, List.set_cons_succ] at ha'; subst ha'))
  refine Reg.rd_op rfl ?_; apply Exists.intro; apply And.intro
  · intro w' hb; have hsz := Reg.rd_size hb; clear hb; go_simp; (try go_bits); exact HB.out _
  intro _ a' ha'; simp only [Act.put, List.setIfInBounds_toArray, List.set_cons_zero, List.set_cons_succ] at ha'; subst ha'
  repeat (refine Reg.rd_op rfl ?_; apply Exists.intro; apply And.intro; (intro w' hb; have hc := Reg.rd_cells hb; clear hb; go_simp; (try go_bits); first | done | (with_reducible exact rfl)); (intro _ a' ha'; simp only [Act.put, List.setIfInBounds_toArray, List.set_cons_zero, List.set_cons_succ] at ha'; subst ha'))
  refine Reg.rd_end (fun wz hb => ?_)
  have O := ((Reg.Own.nil w).alloc rfl _ _).keep hb
  obtain ⟨c0, f0, z0, y0, -, zz⟩ := O.rules
  have HO := Lib.hid O; clear O
  clear hb
  obtain ⟨K, hKK⟩ : ∃ K, K = kap f e m E := ⟨_, rfl⟩
  obtain ⟨q, hqq⟩ : ∃ q, q = keptN f e m E := ⟨_, rfl⟩
  have htt : max L (E + ((l : Int) + 1) - 1 - f) = E + K := by rw [hKK, HK.out]; omega
  have hKb : K = max ((l : Int) - f) (L - E) := by rw [hKK]; exact HK.out
  have HKK := Lib.hid hKK; have HQ := Lib.hid hqq; clear hKK hqq
  obtain ⟨tt, ht2⟩ : ∃ tt : Int, tt = E + K := ⟨_, rfl⟩
  rw [← ht2] at htt
  have hd : tt - E = K := by omega
  have HT2 := Lib.hid ht2; clear ht2 HTO
  have HKb := Lib.hid hKb
  have hKn : -52 ≤ K ∧ K < 2 ^ 42 := by omega
  clear hKb
  simp only [htt]
  clear htt
  go_upto_block 0 with (fail)
  go_cut [8] (fun s8 wx => s8 = .int .u64 q ∧ Reg.Own w wx [(w.heap.size, #[.int .i64 f, .int .i64 e], 100)])
  case first =>
    have hq : q = if 0 ≤ K then rne m K.toNat else m * 2 ^ (-K).toNat := by rw [HQ.out]; unfold keptN; rw [HKK.out]
    rcases Int.lt_or_le 0 K with h1 | h1
    · rcases Int.lt_or_le 64 K with h2 | h2
      · have hq0 : q = 0 := by
          rw [hq, if_pos (by omega)]; unfold rne
          have h3 : 2 ^ 65 ≤ 2 ^ K.toNat := Nat.pow_le_pow_right (by omega) (by omega)
          rw [Nat.div_eq_of_lt (by omega), Nat.mod_eq_of_lt (by omega), if_neg (by omega)]
        have h1' : ¬ K ≤ 0 := by omega
        clear hq h1
        have HQ0 := Lib.hid hq0; clear hq0
        go_wp2_with fail
        go_meet
        case rel => exact ⟨by rw [HQ0.out]; rfl, HO.out⟩
      · obtain ⟨k, hk⟩ : ∃ k : Nat, K = (k : Int) + 1 := ⟨(K - 1).toNat, by omega⟩
        subst hk
        have hq1 : q = rne m (k + 1) := by rw [hq, if_pos (by omega)]; congr 1
        have hk64 : k < 64 := by omega
        have b0 : ¬ (k : Int) + 1 ≤ 0 := by omega
        have b1 : ¬ 64 < (k : Int) + 1 := by omega
        have b2 : ((k : Int) + 1).toNat = k + 1 := by omega
        obtain ⟨H, hH⟩ : ∃ H, H = 2 ^ k := ⟨_, rfl⟩
        have hHb : H ≤ 2 ^ 63 := by rw [hH]; exact Nat.pow_le_pow_right (by omega) (by omega)
        have hHi : (2 : Int) ^ k = (H : Int) := by rw [hH]; simp
        have hHw : IntKind.u64.wrap (H : Int) = H := wrapU _ (by omega)
        obtain ⟨D, hD⟩ : ∃ D, D = m / 2 ^ (k + 1) := ⟨_, rfl⟩
        obtain ⟨rs, hrs⟩ : ∃ rs, rs = m % 2 ^ (k + 1) := ⟨_, rfl⟩
        have hq2 : q = D + (if H < rs ∨ (H = rs ∧ D % 2 = 1) then 1 else 0) := by
          rw [hq1]; unfold rne; rw [← hD, ← hrs, Nat.pow_succ, ← hH]
          congr 1
          by_cases hc : H * 2 < 2 * rs ∨ H * 2 = 2 * rs ∧ D % 2 = 1
          · rw [if_pos hc, if_pos (by omega)]
          · rw [if_neg hc, if_neg (by omega)]
        have hDb : D < 2 ^ 63 := by
          have : m / 2 ^ (k + 1) ≤ m / 2 ^ 1 := Nat.div_le_div_left (Nat.pow_le_pow_right (by omega) (by omega)) (by omega)
          omega
        have hcs : (rs < H ∧ q = D) ∨ (rs = H ∧ D % 2 = 0 ∧ q = D) ∨ (rs = H ∧ D % 2 = 1 ∧ q = D + 1) ∨ (H < rs ∧ q = D + 1) := by
          rcases Nat.lt_trichotomy rs H with h3 | h3 | h3
          · exact .inl ⟨h3, by rw [hq2, if_neg (by omega)]; rfl⟩
          · rcases Nat.mod_two_eq_zero_or_one D with h4 | h4
            · exact .inr (.inl ⟨h3, h4, by rw [hq2, if_neg (by omega)]; rfl⟩)
            · exact .inr (.inr (.inl ⟨h3, h4, by rw [hq2, if_pos (by omega)]⟩))
          · exact .inr (.inr (.inr ⟨h3, by rw [hq2, if_pos (by omega)]⟩))
        have hand := and_one D (by omega)
        clear hq hq1 hq2 h1 h2
        rcases Nat.lt_or_ge k 63 with h63 | h63
        · have hDi : (m : Int) / 2 ^ (k + 1) = (D : Int) := by rw [hD]; simp
          obtain ⟨W, hW⟩ : ∃ W, W = 2 ^ (k + 1) := ⟨_, rfl⟩
          have hWi : (2 : Int) ^ (k + 1) = (W : Int) := by rw [hW]; simp
          have hW1 : 1 ≤ W ∧ W ≤ 2 ^ 63 := by rw [hW]; exact ⟨Nat.one_le_two_pow, Nat.pow_le_pow_right (by omega) (by omega)⟩
          have hWw : IntKind.u64.wrap (W : Int) = W := wrapU _ (by omega)
          have hrs2 : bits .and .u64 (m : Int) ((W : Int) - 1) = rs := by
            rw [show (W : Int) - 1 = ((2 ^ (k + 1) - 1 : Nat) : Int) by rw [← hW]; omega, and_mask hm (by omega), hrs]
          rw [hWi] at hDi
          have b3 : (k : Int) + 1 < 64 := by omega
          clear hD hrs hH hW
          go_wp2_with fail
          refine Reg.wp_region_rd (by kernel_rfl) (by kernel_rfl) (fun _ => ?_)
          repeat (refine Reg.rd_op rfl ?_; apply Exists.intro; apply And.intro; (intro w' hb; have hc := Reg.rd_cells hb; clear hb; go_simp; (try go_bits); first | done | (with_reducible exact rfl)); (intro _ a' ha'; simp only [Act.put, List.setIfInBounds_toArray, List.set_cons_zero, List.set_cons_succ] at ha'; subst ha'))
          refine Reg.rd_end (fun wz hb5 => ?_)
          have O := HO.out.keep hb5
          clear HO c0 f0 z0 y0 zz
          obtain ⟨c0, f0, z0, y0, -, zz⟩ := O.rules
          have HO := Lib.hid O; clear O
          clear hb5
          rcases hcs with ⟨h3, h4⟩ | ⟨h3, h4, h5⟩ | ⟨h3, h4, h5⟩ | ⟨h3, h4⟩
          · subst h4
            go_wp2_with fail
            go_meet
            case rel => exact ⟨rfl, HO.out⟩
          · subst h5 h3
            rw [h4] at hand
            clear h4
            go_wp2_with fail
            go_meet
            case rel => exact ⟨rfl, HO.out⟩
          · subst h5 h3
            rw [h4] at hand
            clear h4
            go_wp2_with fail
            go_meet
            case rel => exact ⟨by simp, HO.out⟩
          · subst h4
            go_wp2_with fail
            go_meet
            case rel => exact ⟨by simp, HO.out⟩
        · obtain rfl : k = 63 := by omega
          have hD0 : D = 0 := by rw [hD]; exact Nat.div_eq_of_lt (by omega)
          have hrs0 : rs = m := by rw [hrs]; exact Nat.mod_eq_of_lt (by omega)
          have hcs : (rs < H ∧ q = 0) ∨ (rs = H ∧ q = 0) ∨ (H < rs ∧ q = 1) := by rw [hD0] at hcs; omega
          have hand : bits .and .u64 0 1 = 0 := by decide
          subst hrs0
          clear hD hrs hH hk64 b0 b1 b2 hD0
          go_wp2_with fail
          refine Reg.wp_region_rd (by kernel_rfl) (by kernel_rfl) (fun _ => ?_)
          repeat (refine Reg.rd_op rfl ?_; apply Exists.intro; apply And.intro; (intro w' hb; have hc := Reg.rd_cells hb; clear hb; go_simp; (try go_bits); first | done | (with_reducible exact rfl)); (intro _ a' ha'; simp only [Act.put, List.setIfInBounds_toArray, List.set_cons_zero, List.set_cons_succ] at ha'; subst ha'))
          refine Reg.rd_end (fun wz hb5 => ?_)
          have O := HO.out.keep hb5
          clear HO c0 f0 z0 y0 zz
          obtain ⟨c0, f0, z0, y0, -, zz⟩ := O.rules
          have HO := Lib.hid O; clear O
          clear hb5
          rcases hcs with ⟨h3, h4⟩ | ⟨h3, h4⟩ | ⟨h3, h4⟩
          · subst h4
            go_wp2_with fail
            go_meet
            case rel => exact ⟨rfl, HO.out⟩
          · subst h3 h4
            go_wp2_with fail
            go_meet
            case rel => exact ⟨rfl, HO.out⟩
          · subst h4
            go_wp2_with fail
            go_meet
            case rel => exact ⟨rfl, HO.out⟩
    · obtain ⟨k, hk⟩ : ∃ k : Nat, k = (-K).toNat := ⟨_, rfl⟩
      have hq1 : q = m * 2 ^ k := by
        rw [hq, hk]
        by_cases h0 : 0 ≤ K
        · obtain rfl : K = 0 := by omega
          rw [if_pos (by omega)]; show rne m 0 = m * 2 ^ 0; rw [rne_zero, Nat.pow_zero, Nat.mul_one]
        · rw [if_neg h0]
      have hkk : (-K).toNat = k := hk.symm
      have hk3 : k < 64 := by omega
      have hqb : q < 2 ^ 64 := by have := HKF.out.1; rw [Nat.pow_succ, ← HP.out, ← HQ.out] at this; omega
      have hqi : (m : Int) * 2 ^ k = (q : Int) := by rw [hq1]; simp
      have hqw : IntKind.u64.wrap (q : Int) = q := wrapU _ hqb
      have hk4 : -K < 64 := by omega
      have hk5 : ¬ -K < 0 := by omega
      clear hq hq1 hk
      go_wp2_with fail
      go_meet
      case rel => exact ⟨rfl, HO.out⟩
  case rest =>
    obtain ⟨rfl, O⟩ := hcut
    have O := O
    clear HO c0 f0 z0 y0 zz
    obtain ⟨c0, f0, z0, y0, -, zz⟩ := O.rules
    have HO := Lib.hid O; clear O
    have hrc := rnd_cases f e m E P (2 ^ e - 1) q L tt HP.out rfl HLL.out.symm HQ.out (by rw [HT2.out, HKK.out]) he1 hm0
    have hT1 : 2 ^ e ≤ 2 ^ 11 := Nat.pow_le_pow_right (by omega) he
    have hTP := top_lt hf he
    rw [← HP.out] at hTP
    rw [← HR.out] at hrc
    have hTb : 2 ^ e - 1 ≤ 2047 := by omega
    generalize 2 ^ e - 1 = T at *
    have bT : IntKind.u64.wrap (T : Int) = T := wrapU _ (by omega)
    have bTP : IntKind.u64.wrap ((T : Int) * (P : Int)) = ((T * P : Nat) : Int) := by rw [← Int.natCast_mul]; exact wrapU _ (by omega)
    obtain ⟨hq2, hLt, hrc⟩ := hrc
    have hand : ∀ z : Nat, z < 2 ^ 64 → bits .and .u64 (z : Int) ((P : Int) - 1) = ((z % P : Nat) : Int) := fun z hz => by
      rw [show (P : Int) - 1 = ((2 ^ f - 1 : Nat) : Int) by rw [← HP.out]; omega, and_mask hz (by omega), ← HP.out]
    have htb : -2 ^ 43 < tt ∧ tt < 2 ^ 43 := by omega
    clear hKn hd HB hm1
    rcases hrc with ⟨h1, h2⟩ | ⟨h1, h2, h3⟩ | ⟨h1, h2, h3⟩ | ⟨h1, h2, h3, h4⟩ | ⟨h1, h1', h2, h3⟩
    · have g1 : ((q : Int) == 2 * (P : Int)) = false := by simp; omega
      subst h2
      go_wp2_with fail
      go_ret
      exact ⟨rfl, HO.out.below⟩
    · have g1 : ((q : Int) == 2 * (P : Int)) = true := by simp; omega
      have g2 : (q : Int) / 2 = P := by omega
      have H3 := Lib.hid h3
      clear h1 h3
      go_wp2_with fail
      refine Reg.wp_region_rd (by kernel_rfl) (by kernel_rfl) (fun _ => ?_)
      repeat (refine Reg.rd_op rfl ?_; apply Exists.intro; apply And.intro; (intro w' hb; have hc := Reg.rd_cells hb; clear hb; go_simp; (try go_bits); first | done | (with_reducible exact rfl)); (intro _ a' ha'; simp only [Act.put, List.setIfInBounds_toArray, List.set_cons_zero, List.set_cons_succ] at ha'; subst ha'))
      refine Reg.rd_op rfl ?_; apply Exists.intro; apply And.intro
      · intro w' hb; have hsz := Reg.rd_size hb; clear hb; go_simp; (try go_bits); exact HL.out _
      intro _ a' ha'; simp only [Act.put, List.setIfInBounds_toArray, List.set_cons_zero, List.set_cons_succ] at ha'; subst ha'
      repeat (refine Reg.rd_op rfl ?_; apply Exists.intro; apply And.intro; (intro w' hb; have hc := Reg.rd_cells hb; clear hb; go_simp; (try go_bits); first | done | (with_reducible exact rfl)); (intro _ a' ha'; simp only [Act.put, List.setIfInBounds_toArray, List.set_cons_zero, List.set_cons_succ] at ha'; subst ha'))
      refine Reg.rd_op rfl ?_; apply Exists.intro; apply And.intro
      · intro w' hb; have hsz := Reg.rd_size hb; clear hb; go_simp; (try go_bits); exact HT.out _
      intro _ a' ha'; simp only [Act.put, List.setIfInBounds_toArray, List.set_cons_zero, List.set_cons_succ] at ha'; subst ha'
      repeat (refine Reg.rd_op rfl ?_; apply Exists.intro; apply And.intro; (intro w' hb; have hc := Reg.rd_cells hb; clear hb; go_simp; (try go_bits); first | done | (with_reducible exact rfl)); (intro _ a' ha'; simp only [Act.put, List.setIfInBounds_toArray, List.set_cons_zero, List.set_cons_succ] at ha'; subst ha'))
      refine Reg.rd_end (fun wz hb6 => ?_)
      have O := HO.out.keep hb6
      clear HO c0 f0 z0 y0 zz
      obtain ⟨c0, f0, z0, y0, -, zz⟩ := O.rules
      have HO := Lib.hid O; clear O
      clear hb6
      go_wp2_with fail
      refine Reg.wp_region_rd (by kernel_rfl) (by kernel_rfl) (fun _ => ?_)
      repeat (refine Reg.rd_op rfl ?_; apply Exists.intro; apply And.intro; (intro w' hb; have hc := Reg.rd_cells hb; clear hb; go_simp; (try go_bits); first | done | (with_reducible exact rfl)); (intro _ a' ha'; simp only [Act.put, List.setIfInBounds_toArray, List.set_cons_zero, List.set_cons_succ] at ha'; subst ha'))
      refine Reg.rd_op rfl ?_; apply Exists.intro; apply And.intro
      · intro w' hb; have hsz := Reg.rd_size hb; clear hb; go_simp; (try go_bits); exact HT.out _
      intro _ a' ha'; simp only [Act.put, List.setIfInBounds_toArray, List.set_cons_zero, List.set_cons_succ] at ha'; subst ha'
      repeat (refine Reg.rd_op rfl ?_; apply Exists.intro; apply And.intro; (intro w' hb; have hc := Reg.rd_cells hb; clear hb; go_simp; (try go_bits); first | done | (with_reducible exact rfl)); (intro _ a' ha'; simp only [Act.put, List.setIfInBounds_toArray, List.set_cons_zero, List.set_cons_succ] at ha'; subst ha'))
      refine Reg.rd_end (fun wz hb7 => ?_)
      have O := HO.out.keep hb7
      clear HO c0 f0 z0 y0 zz
      obtain ⟨c0, f0, z0, y0, -, zz⟩ := O.rules
      have HO := Lib.hid O; clear O
      clear hb7
      go_wp2_with fail
      go_ret
      exact ⟨by rw [H3.out]; rfl, HO.out.below⟩
    · have g1 : ((q : Int) == 2 * (P : Int)) = true := by simp; omega
      have g2 : (q : Int) / 2 = P := by omega
      have ha := hand P (by omega)
      obtain ⟨Y, hY⟩ : ∃ Y : Nat, tt + 1 - L + 1 = (Y : Int) ∧ (tt + 1 - L + 1).toNat = Y := ⟨(tt + 1 - L + 1).toNat, by omega, rfl⟩
      rw [hY.2] at h3
      clear hand h1
      have hYT : Y ≤ 2047 := by omega
      have hYT2 : Y < T := by omega
      have bY : IntKind.u64.wrap (Y : Int) = Y := wrapU _ (by omega)
      have bYP0 : Y * P ≤ T * P := Nat.mul_le_mul_right _ (by omega)
      have bYP : IntKind.u64.wrap ((Y : Int) * P) = ((Y * P : Nat) : Int) := by rw [← Int.natCast_mul]; exact wrapU _ (by omega)
      have hzm : P % P < P := Nat.mod_lt _ (by omega)
      have bor := or_disj2 (x := P % P) (y := Y) (n := f) (by rw [← HP.out]; exact hzm) (by rw [← HP.out]; omega) (by omega)
      rw [← HP.out] at bor
      obtain ⟨YP, hYP⟩ : ∃ YP, YP = Y * P := ⟨_, rfl⟩
      rw [← hYP] at bYP bor h3
      obtain ⟨zz2, hzz⟩ : ∃ zz2, zz2 = P % P := ⟨_, rfl⟩
      rw [← hzz] at bor h3 ha
      rw [← h3] at bor
      have bYi := hY.1
      clear hYP hzz hzm bYP0 hYT hYT2 hY h3
      go_wp2_with fail
      refine Reg.wp_region_rd (by kernel_rfl) (by kernel_rfl) (fun _ => ?_)
      repeat (refine Reg.rd_op rfl ?_; apply Exists.intro; apply And.intro; (intro w' hb; have hc := Reg.rd_cells hb; clear hb; go_simp; (try go_bits); first | done | (with_reducible exact rfl)); (intro _ a' ha'; simp only [Act.put, List.setIfInBounds_toArray, List.set_cons_zero, List.set_cons_succ] at ha'; subst ha'))
      refine Reg.rd_op rfl ?_; apply Exists.intro; apply And.intro
      · intro w' hb; have hsz := Reg.rd_size hb; clear hb; go_simp; (try go_bits); exact HL.out _
      intro _ a' ha'; simp only [Act.put, List.setIfInBounds_toArray, List.set_cons_zero, List.set_cons_succ] at ha'; subst ha'
      repeat (refine Reg.rd_op rfl ?_; apply Exists.intro; apply And.intro; (intro w' hb; have hc := Reg.rd_cells hb; clear hb; go_simp; (try go_bits); first | done | (with_reducible exact rfl)); (intro _ a' ha'; simp only [Act.put, List.setIfInBounds_toArray, List.set_cons_zero, List.set_cons_succ] at ha'; subst ha'))
      refine Reg.rd_op rfl ?_; apply Exists.intro; apply And.intro
      · intro w' hb; have hsz := Reg.rd_size hb; clear hb; go_simp; (try go_bits); exact HT.out _
      intro _ a' ha'; simp only [Act.put, List.setIfInBounds_toArray, List.set_cons_zero, List.set_cons_succ] at ha'; subst ha'
      repeat (refine Reg.rd_op rfl ?_; apply Exists.intro; apply And.intro; (intro w' hb; have hc := Reg.rd_cells hb; clear hb; go_simp; (try go_bits); first | done | (with_reducible exact rfl)); (intro _ a' ha'; simp only [Act.put, List.setIfInBounds_toArray, List.set_cons_zero, List.set_cons_succ] at ha'; subst ha'))
      refine Reg.rd_end (fun wz hb6 => ?_)
      have O := HO.out.keep hb6
      clear HO c0 f0 z0 y0 zz
      obtain ⟨c0, f0, z0, y0, -, zz⟩ := O.rules
      have HO := Lib.hid O; clear O
      clear hb6
      go_wp2_with fail
      refine Reg.wp_region_rd (by kernel_rfl) (by kernel_rfl) (fun _ => ?_)
      repeat (refine Reg.rd_op rfl ?_; apply Exists.intro; apply And.intro; (intro w' hb; have hc := Reg.rd_cells hb; clear hb; go_simp; (try go_bits); first | done | (with_reducible exact rfl)); (intro _ a' ha'; simp only [Act.put, List.setIfInBounds_toArray, List.set_cons_zero, List.set_cons_succ] at ha'; subst ha'))
      refine Reg.rd_op rfl ?_; apply Exists.intro; apply And.intro
      · intro w' hb; have hsz := Reg.rd_size hb; clear hb; go_simp; (try go_bits); exact HL.out _
      intro _ a' ha'; simp only [Act.put, List.setIfInBounds_toArray, List.set_cons_zero, List.set_cons_succ] at ha'; subst ha'
      repeat (refine Reg.rd_op rfl ?_; apply Exists.intro; apply And.intro; (intro w' hb; have hc := Reg.rd_cells hb; clear hb; go_simp; (try go_bits); first | done | (with_reducible exact rfl)); (intro _ a' ha'; simp only [Act.put, List.setIfInBounds_toArray, List.set_cons_zero, List.set_cons_succ] at ha'; subst ha'))
      refine Reg.rd_end (fun wz hb7 => ?_)
      have O := HO.out.keep hb7
      clear HO c0 f0 z0 y0 zz
      obtain ⟨c0, f0, z0, y0, -, zz⟩ := O.rules
      have HO := Lib.hid O; clear O
      clear hb7
      go_wp2_with fail
      go_ret
      exact ⟨rfl, HO.out.below⟩
    · have g1 : ((q : Int) == 2 * (P : Int)) = false := by simp; omega
      have g2 : ¬ (q : Int) < P := by omega
      have H3 := Lib.hid h4
      clear h1 h2 h4
      go_wp2_with fail
      refine Reg.wp_region_rd (by kernel_rfl) (by kernel_rfl) (fun _ => ?_)
      repeat (refine Reg.rd_op rfl ?_; apply Exists.intro; apply And.intro; (intro w' hb; have hc := Reg.rd_cells hb; clear hb; go_simp; (try go_bits); first | done | (with_reducible exact rfl)); (intro _ a' ha'; simp only [Act.put, List.setIfInBounds_toArray, List.set_cons_zero, List.set_cons_succ] at ha'; subst ha'))
      refine Reg.rd_op rfl ?_; apply Exists.intro; apply And.intro
      · intro w' hb; have hsz := Reg.rd_size hb; clear hb; go_simp; (try go_bits); exact HL.out _
      intro _ a' ha'; simp only [Act.put, List.setIfInBounds_toArray, List.set_cons_zero, List.set_cons_succ] at ha'; subst ha'
      repeat (refine Reg.rd_op rfl ?_; apply Exists.intro; apply And.intro; (intro w' hb; have hc := Reg.rd_cells hb; clear hb; go_simp; (try go_bits); first | done | (with_reducible exact rfl)); (intro _ a' ha'; simp only [Act.put, List.setIfInBounds_toArray, List.set_cons_zero, List.set_cons_succ] at ha'; subst ha'))
      refine Reg.rd_op rfl ?_; apply Exists.intro; apply And.intro
      · intro w' hb; have hsz := Reg.rd_size hb; clear hb; go_simp; (try go_bits); exact HT.out _
      intro _ a' ha'; simp only [Act.put, List.setIfInBounds_toArray, List.set_cons_zero, List.set_cons_succ] at ha'; subst ha'
      repeat (refine Reg.rd_op rfl ?_; apply Exists.intro; apply And.intro; (intro w' hb; have hc := Reg.rd_cells hb; clear hb; go_simp; (try go_bits); first | done | (with_reducible exact rfl)); (intro _ a' ha'; simp only [Act.put, List.setIfInBounds_toArray, List.set_cons_zero, List.set_cons_succ] at ha'; subst ha'))
      refine Reg.rd_end (fun wz hb6 => ?_)
      have O := HO.out.keep hb6
      clear HO c0 f0 z0 y0 zz
      obtain ⟨c0, f0, z0, y0, -, zz⟩ := O.rules
      have HO := Lib.hid O; clear O
      clear hb6
      go_wp2_with fail
      refine Reg.wp_region_rd (by kernel_rfl) (by kernel_rfl) (fun _ => ?_)
      repeat (refine Reg.rd_op rfl ?_; apply Exists.intro; apply And.intro; (intro w' hb; have hc := Reg.rd_cells hb; clear hb; go_simp; (try go_bits); first | done | (with_reducible exact rfl)); (intro _ a' ha'; simp only [Act.put, List.setIfInBounds_toArray, List.set_cons_zero, List.set_cons_succ] at ha'; subst ha'))
      refine Reg.rd_op rfl ?_; apply Exists.intro; apply And.intro
      · intro w' hb; have hsz := Reg.rd_size hb; clear hb; go_simp; (try go_bits); exact HT.out _
      intro _ a' ha'; simp only [Act.put, List.setIfInBounds_toArray, List.set_cons_zero, List.set_cons_succ] at ha'; subst ha'
      repeat (refine Reg.rd_op rfl ?_; apply Exists.intro; apply And.intro; (intro w' hb; have hc := Reg.rd_cells hb; clear hb; go_simp; (try go_bits); first | done | (with_reducible exact rfl)); (intro _ a' ha'; simp only [Act.put, List.setIfInBounds_toArray, List.set_cons_zero, List.set_cons_succ] at ha'; subst ha'))
      refine Reg.rd_end (fun wz hb7 => ?_)
      have O := HO.out.keep hb7
      clear HO c0 f0 z0 y0 zz
      obtain ⟨c0, f0, z0, y0, -, zz⟩ := O.rules
      have HO := Lib.hid O; clear O
      clear hb7
      go_wp2_with fail
      go_ret
      exact ⟨by rw [H3.out]; rfl, HO.out.below⟩
    · have g1 : ((q : Int) == 2 * (P : Int)) = false := by simp; omega
      have g2 : ¬ (q : Int) < P := by omega
      have ha := hand q (by omega)
      obtain ⟨Y, hY⟩ : ∃ Y : Nat, tt - L + 1 = (Y : Int) ∧ (tt - L + 1).toNat = Y := ⟨(tt - L + 1).toNat, by omega, rfl⟩
      rw [hY.2] at h3
      clear hand h1 h1'
      have hYT : Y ≤ 2047 := by omega
      have hYT2 : Y < T := by omega
      have bY : IntKind.u64.wrap (Y : Int) = Y := wrapU _ (by omega)
      have bYP0 : Y * P ≤ T * P := Nat.mul_le_mul_right _ (by omega)
      have bYP : IntKind.u64.wrap ((Y : Int) * P) = ((Y * P : Nat) : Int) := by rw [← Int.natCast_mul]; exact wrapU _ (by omega)
      have hzm : q % P < P := Nat.mod_lt _ (by omega)
      have bor := or_disj2 (x := q % P) (y := Y) (n := f) (by rw [← HP.out]; exact hzm) (by rw [← HP.out]; omega) (by omega)
      rw [← HP.out] at bor
      obtain ⟨YP, hYP⟩ : ∃ YP, YP = Y * P := ⟨_, rfl⟩
      rw [← hYP] at bYP bor h3
      obtain ⟨zz2, hzz⟩ : ∃ zz2, zz2 = q % P := ⟨_, rfl⟩
      rw [← hzz] at bor h3 ha
      rw [← h3] at bor
      have bYi := hY.1
      clear hYP hzz hzm bYP0 hYT hYT2 hY h3
      go_wp2_with fail
      refine Reg.wp_region_rd (by kernel_rfl) (by kernel_rfl) (fun _ => ?_)
      repeat (refine Reg.rd_op rfl ?_; apply Exists.intro; apply And.intro; (intro w' hb; have hc := Reg.rd_cells hb; clear hb; go_simp; (try go_bits); first | done | (with_reducible exact rfl)); (intro _ a' ha'; simp only [Act.put, List.setIfInBounds_toArray, List.set_cons_zero, List.set_cons_succ] at ha'; subst ha'))
      refine Reg.rd_op rfl ?_; apply Exists.intro; apply And.intro
      · intro w' hb; have hsz := Reg.rd_size hb; clear hb; go_simp; (try go_bits); exact HL.out _
      intro _ a' ha'; simp only [Act.put, List.setIfInBounds_toArray, List.set_cons_zero, List.set_cons_succ] at ha'; subst ha'
      repeat (refine Reg.rd_op rfl ?_; apply Exists.intro; apply And.intro; (intro w' hb; have hc := Reg.rd_cells hb; clear hb; go_simp; (try go_bits); first | done | (with_reducible exact rfl)); (intro _ a' ha'; simp only [Act.put, List.setIfInBounds_toArray, List.set_cons_zero, List.set_cons_succ] at ha'; subst ha'))
      refine Reg.rd_op rfl ?_; apply Exists.intro; apply And.intro
      · intro w' hb; have hsz := Reg.rd_size hb; clear hb; go_simp; (try go_bits); exact HT.out _
      intro _ a' ha'; simp only [Act.put, List.setIfInBounds_toArray, List.set_cons_zero, List.set_cons_succ] at ha'; subst ha'
      repeat (refine Reg.rd_op rfl ?_; apply Exists.intro; apply And.intro; (intro w' hb; have hc := Reg.rd_cells hb; clear hb; go_simp; (try go_bits); first | done | (with_reducible exact rfl)); (intro _ a' ha'; simp only [Act.put, List.setIfInBounds_toArray, List.set_cons_zero, List.set_cons_succ] at ha'; subst ha'))
      refine Reg.rd_end (fun wz hb6 => ?_)
      have O := HO.out.keep hb6
      clear HO c0 f0 z0 y0 zz
      obtain ⟨c0, f0, z0, y0, -, zz⟩ := O.rules
      have HO := Lib.hid O; clear O
      clear hb6
      go_wp2_with fail
      refine Reg.wp_region_rd (by kernel_rfl) (by kernel_rfl) (fun _ => ?_)
      repeat (refine Reg.rd_op rfl ?_; apply Exists.intro; apply And.intro; (intro w' hb; have hc := Reg.rd_cells hb; clear hb; go_simp; (try go_bits); first | done | (with_reducible exact rfl)); (intro _ a' ha'; simp only [Act.put, List.setIfInBounds_toArray, List.set_cons_zero, List.set_cons_succ] at ha'; subst ha'))
      refine Reg.rd_op rfl ?_; apply Exists.intro; apply And.intro
      · intro w' hb; have hsz := Reg.rd_size hb; clear hb; go_simp; (try go_bits); exact HL.out _
      intro _ a' ha'; simp only [Act.put, List.setIfInBounds_toArray, List.set_cons_zero, List.set_cons_succ] at ha'; subst ha'
      repeat (refine Reg.rd_op rfl ?_; apply Exists.intro; apply And.intro; (intro w' hb; have hc := Reg.rd_cells hb; clear hb; go_simp; (try go_bits); first | done | (with_reducible exact rfl)); (intro _ a' ha'; simp only [Act.put, List.setIfInBounds_toArray, List.set_cons_zero, List.set_cons_succ] at ha'; subst ha'))
      refine Reg.rd_end (fun wz hb7 => ?_)
      have O := HO.out.keep hb7
      clear HO c0 f0 z0 y0 zz
      obtain ⟨c0, f0, z0, y0, -, zz⟩ := O.rules
      have HO := Lib.hid O; clear O
      clear hb7
      go_wp2_with fail
      go_ret
      exact ⟨rfl, HO.out.below⟩

end Go.Proofs.Ytpemchghaddgdaa
