/- The document's Sqrt, walked: two binary digits at a time. Condition: the bits fit. -/
import Derived.Test.YtpemchghaddgdaaRr
import Derived.Test.YtpemchghaddgdaaHa
namespace Go.Pst
open Go Ieee Go.RowKit
set_option linter.unusedVariables false
set_option linter.unusedSimpArgs false

/-- What stands ahead, of 63 pairs of digits, and the next pair. -/
def preS (N k : Nat) : Nat := N / 4 ^ (63 - k)
def digS (N k : Nat) : Nat := N / 4 ^ (62 - k) % 4

theorem preS_succ (N k : Nat) (h : k < 63) : preS N (k + 1) = 4 * preS N k + digS N k := by
  unfold preS digS
  rw [show 63 - (k + 1) = 62 - k by omega, show 63 - k = (62 - k) + 1 by omega, Nat.pow_succ, ← Nat.div_div_eq_div_mul]
  omega
theorem preS_zero (N : Nat) (h : N < 2 ^ 119) : preS N 0 = 0 := by
  unfold preS
  refine Nat.div_eq_of_lt (Nat.lt_of_lt_of_le h ?_)
  rw [show (4 : Nat) = 2 ^ 2 from rfl, ← Nat.pow_mul]
  exact Nat.pow_le_pow_right (by omega) (by omega)
theorem preS_end (N : Nat) : preS N 63 = N := by unfold preS; simp
theorem preS_le (N k : Nat) : preS N k ≤ N := Nat.div_le_self _ _

theorem digS_high (M k : Nat) (h : k ≤ 30) : digS (M * 2 ^ 64) k = M / 2 ^ (60 - 2 * k) % 4 := by
  unfold digS
  congr 1
  rw [show (4 : Nat) ^ (62 - k) = 2 ^ (60 - 2 * k) * 2 ^ 64 by rw [show (4 : Nat) = 2 ^ 2 from rfl, ← Nat.pow_mul, ← Nat.pow_add]; congr 1; omega]
  exact Nat.mul_div_mul_right _ _ (Nat.two_pow_pos 64)
theorem digS_low (M k : Nat) (h : 31 ≤ k) (h2 : k < 63) : digS (M * 2 ^ 64) k = 0 := by
  unfold digS
  have e : M * 2 ^ 64 = M * 2 ^ (2 * k - 60) * 4 ^ (62 - k) := by
    rw [show (4 : Nat) ^ (62 - k) = 2 ^ (2 * (62 - k)) by rw [show (4 : Nat) = 2 ^ 2 from rfl, ← Nat.pow_mul], Nat.mul_assoc, ← Nat.pow_add]
    congr 2; omega
  rw [e, Nat.mul_div_cancel _ (Nat.pow_pos (by omega)), show 2 * k - 60 = (2 * k - 62) + 2 by omega, Nat.pow_add, ← Nat.mul_assoc]
  exact Nat.mul_mod_left _ _

/-- One step. -/
theorem stepS_up {p d root rest : Nat} (h : root * root + rest = p) (hr : rest ≤ 2 * root) (hd : d < 4) (hc : 2 * (2 * root) + 1 ≤ rest * 4 + d) :
    (2 * root + 1) * (2 * root + 1) + (rest * 4 + d - (2 * (2 * root) + 1)) = 4 * p + d ∧ rest * 4 + d - (2 * (2 * root) + 1) ≤ 2 * (2 * root + 1) := by
  refine ⟨?_, by omega⟩
  have e : (2 * root + 1) * (2 * root + 1) = 4 * (root * root) + 2 * (2 * root) + 1 := by
    rw [Nat.add_mul, Nat.mul_add]; simp only [Nat.one_mul, Nat.mul_one]
    rw [show 2 * root * (2 * root) = 4 * (root * root) by rw [Nat.mul_assoc, Nat.mul_left_comm root, ← Nat.mul_assoc]]
    omega
  rw [e]; omega
theorem stepS_down {p d root rest : Nat} (h : root * root + rest = p) (hc : ¬ 2 * (2 * root) + 1 ≤ rest * 4 + d) :
    (2 * root) * (2 * root) + (rest * 4 + d) = 4 * p + d ∧ rest * 4 + d ≤ 2 * (2 * root) := by
  refine ⟨?_, by omega⟩
  rw [show 2 * root * (2 * root) = 4 * (root * root) by rw [Nat.mul_assoc, Nat.mul_left_comm root, ← Nat.mul_assoc]]
  omega
theorem root_lt60 {N k root rest : Nat} (hN : N < 2 ^ 119) (h : root * root + rest = preS N k) : root < 1152921504606846976 := by
  have := preS_le N k
  refine sq_lt (a := root) (b := 1152921504606846976) (Nat.lt_of_le_of_lt (show root * root ≤ N by omega) (Nat.lt_trans hN (by decide)))
end Go.Pst
namespace Go.Proofs.Ytpemchghaddgdaa
open Go.RowKit Go.Pst
set_option maxRecDepth 100000
set_option linter.unusedSimpArgs false
set_option linter.unusedVariables false

def SQPost (y : Nat) (w : World) (en : Ending) (w' : World) : Prop := en = .returned (.int .u64 y) ∧ Below w.heap.size w w'


set_option maxHeartbeats 4000000 in
theorem rsqrt_num (b m pk pl : Nat) (px : Int) (pq : Bool) (y : Nat) (w : World) (hk0 : ((pk : Int) == 0) = false) (hk3 : ((pk : Int) == 3) = false) (hk4 : ((pk : Int) == 4) = false)
    (hz : ∀ w, Calls Try.prog 21 #[] w fun en w' => en = .returned (.agg #[.int .i64 52, .int .i64 2047, .int .i64 1023]) ∧ Below w.heap.size w w')
    (hp : ∀ w, Calls Try.prog 31 #[.int .u64 b, .agg #[.int .i64 52, .int .i64 2047, .int .i64 1023]] w fun en w' => en = .returned (.agg #[.int .i64 pk, .bool false, .int .u64 m, .int .i64 px, .bool pq, .int .u64 pl]) ∧ Below w.heap.size w w')
    (hm0 : 0 < m) (hm : m < 9007199254740992) (hx1 : -1074 ≤ px) (hx2 : px ≤ 972)
    (hr : ∀ (k X : Nat) (Y : Int) (root rest : Nat), (k : Int) = px - 2 * Y + 0 → 9007199254740992 ≤ m * 2 ^ k → m * 2 ^ k < 36028797018963968 → root * root + rest = m * 2 ^ k * 2 ^ 64 → rest ≤ 2 * root → -2000 ≤ Y → Y ≤ 2000 →
      ∀ w, Calls Try.prog 55 #[.bool false, .int .u64 root, .int .i64 (Y - 32), .bool (decide (0 < rest)), .agg #[.int .i64 52, .int .i64 2047, .int .i64 1023]] w fun en w' => en = .returned (.int .u64 y) ∧ Below w.heap.size w w') :
    Calls Try.prog 73 #[.int .u64 b] w (SQPost y w) := by
  have HZ := Lib.hid hz; have HP := Lib.hid hp; have HR := Lib.hid hr
  clear hz hp hr
  go_enter Try.func73, Try.ntmps73
  go_wp2_with fail
  have O := Reg.Own.nil w
  have zz := O.rules
  have HO := Lib.hid O; clear O
  go_wp2_with fail
  refine (HZ.out _).mono ?_
  rintro en wn ⟨rfl, hbn⟩
  have O := HO.out.keep hbn
  clear HO zz
  have zz := O.rules
  have HO := Lib.hid O; clear O
  clear hbn
  go_wp2_with fail
  refine (HP.out _).mono ?_
  rintro en wn ⟨rfl, hbn⟩
  have O := HO.out.keep hbn
  clear HO zz
  have zz := O.rules
  have HO := Lib.hid O; clear O
  clear hbn
  go_wp2_with fail
  have O := HO.out.alloc rfl #[.int .i64 pk, .bool false, .int .u64 m, .int .i64 px, .bool pq, .int .u64 pl] 32
  clear HO zz
  obtain ⟨c0, f0, z0, y0, -, zz⟩ := O.rules
  have HO := Lib.hid O; clear O
  refine Reg.wp_region_rd (by kernel_rfl) (by kernel_rfl) (fun _ => ?_)
  repeat (refine Reg.rd_op rfl ?_; apply Exists.intro; apply And.intro; (intro w' hb; have hc := Reg.rd_cells hb; clear hb; go_simp; (try go_bits); first | done | (with_reducible exact rfl)); (intro _ a' ha'; simp only [Act.put, List.setIfInBounds_toArray, List.set_cons_zero, List.set_cons_succ] at ha'; subst ha'))
  refine Reg.rd_end (fun wz hb => ?_)
  have O := HO.out.keep hb
  clear HO c0 f0 z0 y0 zz
  obtain ⟨c0, f0, z0, y0, -, zz⟩ := O.rules
  have HO := Lib.hid O; clear O
  clear hb
  have BW := Lib.hid HO.out.below
  clear HO c0 f0 z0 y0 zz
  go_wp2_with fail
  go_loop [4, 5] (fun a e => ∃ k : Nat, a = .int .u64 ((m * 2 ^ k : Nat) : Int) ∧ e = .int .i64 (px - k) ∧ m * 2 ^ k < 18014398509481984 ∧ k ≤ 60) (fun a _ => 18014398509481984 - (intOf a).toNat)
  case atStart => exact ⟨0, by simp, by simp, by simp; omega, by omega⟩
  case round =>
    obtain ⟨k, rfl, rfl, hlt, hk⟩ := hrel
    obtain ⟨A, hA⟩ : ∃ A, A = m * 2 ^ k := ⟨_, rfl⟩
    rw [← hA] at hlt ⊢
    have hA2 : m * 2 ^ (k + 1) = A * 2 := by rw [hA, Nat.pow_succ, Nat.mul_assoc]
    have hk52 : A < 9007199254740992 → k ≤ 52 := fun h => by
      have h1 : 2 ^ k ≤ m * 2 ^ k := Nat.le_mul_of_pos_left _ hm0
      have h2 : 2 ^ k < 2 ^ 53 := by omega
      have := (Nat.pow_lt_pow_iff_right (by omega)).1 h2
      omega
    have hA0 : 0 < A := by rw [hA]; exact Nat.mul_pos hm0 (Nat.two_pow_pos k)
    have HA := Lib.hid hA; have HA2 := Lib.hid hA2
    clear hA hA2
    by_cases h : A < 9007199254740992
    · have h' : (A : Int) < 9007199254740992 := by omega
      have hk5 := hk52 h
      clear hk52
      go_wp2_with fail
      go_round
      case rel => exact ⟨k + 1, by rw [HA2.out, Int.natCast_mul]; rfl, congrArg (Value.int .i64) (by omega), by rw [HA2.out]; omega, by omega⟩
      case measure => simp [intOf]; omega
    · have h' : decide ((A : Int) < 9007199254740992) = false := decide_eq_false (by omega)
      have H9 := Lib.hid h
      have HLT := Lib.hid hlt
      clear h hlt
      clear hk52
      obtain ⟨e, he⟩ : ∃ e : Int, e = px - k := ⟨_, rfl⟩
      rw [← he]
      have he1 : -2000 ≤ e ∧ e ≤ 1000 := by omega
      have HE := Lib.hid he
      clear he
      by_cases hpar : e % 2 = 0
      · obtain ⟨Y, hY⟩ : ∃ Y : Int, e = 2 * Y := ⟨e / 2, by omega⟩
        have hp1 : (e.tmod 2 != 0) = false := by rw [hY, Int.mul_tmod_right]; rfl
        have hq : e.tdiv 2 = Y := by rw [hY]; exact Int.mul_tdiv_cancel_left _ (by omega)
        clear hpar
        have HY : Hid ((k : Int) = px - 2 * Y + 0) := Lib.hid (by have := HE.out; omega)
        have hYb : -2000 ≤ Y ∧ Y ≤ 2000 := by omega
        have hMb : A < 36028797018963968 := by have := HLT.out; omega
        have HM : Hid (A = m * 2 ^ k) := HA
        have HM2 : Hid (9007199254740992 ≤ A) := Lib.hid (by have := H9.out; omega)
        clear hY
        have HN : Hid (A * 2 ^ 64 < 2 ^ 119) := Lib.hid (by have := hMb; omega)
        go_wp2_with fail
        go_loop [6, 7, 8] (fun r s t => ∃ k root rest : Nat, t = .int .i64 (60 - 2 * k) ∧ k ≤ 63 ∧ r = .int .u64 root ∧ s = .int .u64 rest ∧ root * root + rest = preS (A * 2 ^ 64) k ∧ rest ≤ 2 * root) (fun _ _ t => (intOf t + 70).toNat)
        case atStart => exact ⟨0, 0, 0, rfl, by omega, rfl, rfl, by rw [preS_zero _ HN.out], by omega⟩
        case round =>
          obtain ⟨q, root, rest, rfl, hq63, rfl, rfl, hsq, hrs⟩ := hrel
          have hrt := root_lt60 HN.out hsq
          have HSQ := Lib.hid hsq
          clear hsq
          by_cases hqe : q < 63
          · have HPS := Lib.hid (preS_succ (A * 2 ^ 64) q hqe)
            obtain ⟨d, hd⟩ : ∃ d, d = digS (A * 2 ^ 64) q := ⟨_, rfl⟩
            have hd4 : d < 4 := by rw [hd]; unfold digS; exact Nat.mod_lt _ (by omega)
            have h64 : decide ((-64 : Int) ≤ 60 - 2 * (q : Int)) = true := decide_eq_true (by omega)
            by_cases hqh : q ≤ 30
            · obtain ⟨j, hj⟩ : ∃ j : Nat, j = 60 - 2 * q := ⟨_, rfl⟩
              have hj2 : 60 - 2 * (q : Int) = (j : Int) := by omega
              rw [hj2] at h64 ⊢
              have hj60 : j ≤ 60 := by omega
              have hand : bits .and .u64 ((A : Int) / 2 ^ j) 3 = (d : Int) := by
                have h1 := digS_high A q hqh
                rw [← hj, ← hd] at h1
                rw [h1]
                have h2 := and_mask (b := A / 2 ^ j) (n := 2) (Nat.lt_of_le_of_lt (Nat.div_le_self _ _) (by omega)) (by omega)
                rw [show ((2 ^ 2 - 1 : Nat) : Int) = 3 from rfl] at h2
                rw [← h2]
                congr 1
              have HJ := Lib.hid hj2
              have HD := Lib.hid hd
              clear hj hj2 hd
              by_cases hc : 2 * (2 * root) + 1 ≤ rest * 4 + d
              · have HSS := Lib.hid (stepS_up HSQ.out hrs hd4 hc)
                have hc1 : 2 * ((root : Int) * 2) + 1 ≤ (rest : Int) * 4 + (d : Int) := by omega
                have HC := Lib.hid hc
                clear hc
                go_wp2_with fail
                go_round
                case rel => exact ⟨q + 1, 2 * root + 1, rest * 4 + d - (2 * (2 * root) + 1), congrArg (Value.int .i64) (by have := HJ.out; omega), by omega, congrArg (Value.int .u64) (by omega), congrArg (Value.int .u64) (by have := HC.out; omega), by rw [HPS.out, ← HD.out]; exact HSS.out.1, HSS.out.2⟩
                case measure => simp [intOf]; omega
              · have HSS := Lib.hid (stepS_down (d := d) HSQ.out hc)
                have hc1 : ¬ 2 * ((root : Int) * 2) + 1 ≤ (rest : Int) * 4 + (d : Int) := by omega
                clear hc
                go_wp2_with fail
                go_round
                case rel => exact ⟨q + 1, 2 * root, rest * 4 + d, congrArg (Value.int .i64) (by have := HJ.out; omega), by omega, congrArg (Value.int .u64) (by omega), congrArg (Value.int .u64) (by omega), by rw [HPS.out, ← HD.out]; exact HSS.out.1, HSS.out.2⟩
                case measure => simp [intOf]; omega
            · obtain ⟨j, hj⟩ : ∃ j : Int, j = 60 - 2 * (q : Int) := ⟨_, rfl⟩
              have hd0 : d = 0 := by rw [hd]; exact digS_low _ _ (by omega) hqe
              have HJ : Hid (60 - 2 * (q : Int) = j) := Lib.hid hj.symm
              rw [← hj] at h64 ⊢
              have hj0 : j < 0 := by omega
              have hj6 : -64 ≤ j := by omega
              have HD := Lib.hid hd
              have hj1 : decide ((0 : Int) ≤ j) = false := decide_eq_false (by omega)
              clear hd hj
              subst hd0
              by_cases hc : 2 * (2 * root) + 1 ≤ rest * 4 + 0
              · have HSS := Lib.hid (stepS_up HSQ.out hrs hd4 hc)
                have hc1 : 2 * ((root : Int) * 2) + 1 ≤ (rest : Int) * 4 := by omega
                have HC := Lib.hid hc
                clear hc
                go_wp2_with fail
                go_round
                case rel => exact ⟨q + 1, 2 * root + 1, rest * 4 + 0 - (2 * (2 * root) + 1), congrArg (Value.int .i64) (by have := HJ.out; omega), by omega, congrArg (Value.int .u64) (by omega), congrArg (Value.int .u64) (by have := HC.out; omega), by rw [HPS.out, ← HD.out]; exact HSS.out.1, HSS.out.2⟩
                case measure => simp [intOf]; omega
              · have HSS := Lib.hid (stepS_down (d := 0) HSQ.out hc)
                have hc1 : ¬ 2 * ((root : Int) * 2) + 1 ≤ (rest : Int) * 4 := by omega
                clear hc
                go_wp2_with fail
                go_round
                case rel => exact ⟨q + 1, 2 * root, rest * 4 + 0, congrArg (Value.int .i64) (by have := HJ.out; omega), by omega, congrArg (Value.int .u64) (by omega), congrArg (Value.int .u64) (by omega), by rw [HPS.out, ← HD.out]; exact HSS.out.1, HSS.out.2⟩
                case measure => simp [intOf]; omega
          · obtain rfl : q = 63 := by omega
            have hsq2 := HSQ.out
            rw [preS_end] at hsq2
            have HRR := Lib.hid (HR.out k 0 Y root rest HY.out (by rw [← HM.out]; exact HM2.out) (by rw [← HM.out]; exact hMb) (by rw [← HM.out]; exact hsq2) hrs hYb.1 hYb.2)
            clear hsq2 HSQ hqe hrs
            go_wp2_with fail
            refine (HZ.out _).mono ?_
            rintro en wn ⟨rfl, hbn⟩
            go_wp2_with fail
            refine (HRR.out _).mono ?_
            rintro en wm ⟨rfl, hbm⟩
            have HB1 := Lib.hid hbn; have HB2 := Lib.hid hbm; clear hbn hbm
            go_wp2_with fail
            go_ret
            exact ⟨rfl, (BW.out.trans (HB1.out.mono BW.out.size)).trans (HB2.out.mono (Nat.le_trans BW.out.size HB1.out.size))⟩
      · have hp1 : (e.tmod 2 != 0) = true := by
          rw [bne_iff_ne]
          intro h
          have := Int.dvd_of_tmod_eq_zero h
          omega
        obtain ⟨Y, hY⟩ : ∃ Y : Int, e - 1 = 2 * Y := ⟨(e - 1) / 2, by omega⟩
        obtain ⟨X, hX⟩ : ∃ X : Int, e - 1 = X := ⟨_, rfl⟩
        have hq : X.tdiv 2 = Y := by rw [← hX, hY]; exact Int.mul_tdiv_cancel_left _ (by omega)
        have HY : Hid (((k + 1 : Nat) : Int) = px - 2 * Y + 0) := Lib.hid (by have := HE.out; omega)
        have hYb : -2000 ≤ Y ∧ Y ≤ 2000 := by omega
        obtain ⟨M, hM⟩ : ∃ M : Nat, M = A * 2 := ⟨_, rfl⟩
        have hMb : M < 36028797018963968 := by have := HLT.out; omega
        have HM : Hid (M = m * 2 ^ (k + 1)) := Lib.hid (by rw [HA2.out, hM])
        have HM2 : Hid (9007199254740992 ≤ M) := Lib.hid (by have := H9.out; omega)
        have hMI : (A : Int) * 2 = (M : Int) := by omega
        clear hpar hY hM
        have HN : Hid (M * 2 ^ 64 < 2 ^ 119) := Lib.hid (by have := hMb; omega)
        go_wp2_with fail
        go_loop [6, 7, 8] (fun r s t => ∃ k root rest : Nat, t = .int .i64 (60 - 2 * k) ∧ k ≤ 63 ∧ r = .int .u64 root ∧ s = .int .u64 rest ∧ root * root + rest = preS (M * 2 ^ 64) k ∧ rest ≤ 2 * root) (fun _ _ t => (intOf t + 70).toNat)
        case atStart => exact ⟨0, 0, 0, rfl, by omega, rfl, rfl, by rw [preS_zero _ HN.out], by omega⟩
        case round =>
          obtain ⟨q, root, rest, rfl, hq63, rfl, rfl, hsq, hrs⟩ := hrel
          have hrt := root_lt60 HN.out hsq
          have HSQ := Lib.hid hsq
          clear hsq
          by_cases hqe : q < 63
          · have HPS := Lib.hid (preS_succ (M * 2 ^ 64) q hqe)
            obtain ⟨d, hd⟩ : ∃ d, d = digS (M * 2 ^ 64) q := ⟨_, rfl⟩
            have hd4 : d < 4 := by rw [hd]; unfold digS; exact Nat.mod_lt _ (by omega)
            have h64 : decide ((-64 : Int) ≤ 60 - 2 * (q : Int)) = true := decide_eq_true (by omega)
            by_cases hqh : q ≤ 30
            · obtain ⟨j, hj⟩ : ∃ j : Nat, j = 60 - 2 * q := ⟨_, rfl⟩
              have hj2 : 60 - 2 * (q : Int) = (j : Int) := by omega
              rw [hj2] at h64 ⊢
              have hj60 : j ≤ 60 := by omega
              have hand : bits .and .u64 ((M : Int) / 2 ^ j) 3 = (d : Int) := by
                have h1 := digS_high M q hqh
                rw [← hj, ← hd] at h1
                rw [h1]
                have h2 := and_mask (b := M / 2 ^ j) (n := 2) (Nat.lt_of_le_of_lt (Nat.div_le_self _ _) (by omega)) (by omega)
                rw [show ((2 ^ 2 - 1 : Nat) : Int) = 3 from rfl] at h2
                rw [← h2]
                congr 1
              have HJ := Lib.hid hj2
              have HD := Lib.hid hd
              clear hj hj2 hd
              by_cases hc : 2 * (2 * root) + 1 ≤ rest * 4 + d
              · have HSS := Lib.hid (stepS_up HSQ.out hrs hd4 hc)
                have hc1 : 2 * ((root : Int) * 2) + 1 ≤ (rest : Int) * 4 + (d : Int) := by omega
                have HC := Lib.hid hc
                clear hc
                go_wp2_with fail
                go_round
                case rel => exact ⟨q + 1, 2 * root + 1, rest * 4 + d - (2 * (2 * root) + 1), congrArg (Value.int .i64) (by have := HJ.out; omega), by omega, congrArg (Value.int .u64) (by omega), congrArg (Value.int .u64) (by have := HC.out; omega), by rw [HPS.out, ← HD.out]; exact HSS.out.1, HSS.out.2⟩
                case measure => simp [intOf]; omega
              · have HSS := Lib.hid (stepS_down (d := d) HSQ.out hc)
                have hc1 : ¬ 2 * ((root : Int) * 2) + 1 ≤ (rest : Int) * 4 + (d : Int) := by omega
                clear hc
                go_wp2_with fail
                go_round
                case rel => exact ⟨q + 1, 2 * root, rest * 4 + d, congrArg (Value.int .i64) (by have := HJ.out; omega), by omega, congrArg (Value.int .u64) (by omega), congrArg (Value.int .u64) (by omega), by rw [HPS.out, ← HD.out]; exact HSS.out.1, HSS.out.2⟩
                case measure => simp [intOf]; omega
            · obtain ⟨j, hj⟩ : ∃ j : Int, j = 60 - 2 * (q : Int) := ⟨_, rfl⟩
              have hd0 : d = 0 := by rw [hd]; exact digS_low _ _ (by omega) hqe
              have HJ : Hid (60 - 2 * (q : Int) = j) := Lib.hid hj.symm
              rw [← hj] at h64 ⊢
              have hj0 : j < 0 := by omega
              have hj6 : -64 ≤ j := by omega
              have HD := Lib.hid hd
              have hj1 : decide ((0 : Int) ≤ j) = false := decide_eq_false (by omega)
              clear hd hj
              subst hd0
              by_cases hc : 2 * (2 * root) + 1 ≤ rest * 4 + 0
              · have HSS := Lib.hid (stepS_up HSQ.out hrs hd4 hc)
                have hc1 : 2 * ((root : Int) * 2) + 1 ≤ (rest : Int) * 4 := by omega
                have HC := Lib.hid hc
                clear hc
                go_wp2_with fail
                go_round
                case rel => exact ⟨q + 1, 2 * root + 1, rest * 4 + 0 - (2 * (2 * root) + 1), congrArg (Value.int .i64) (by have := HJ.out; omega), by omega, congrArg (Value.int .u64) (by omega), congrArg (Value.int .u64) (by have := HC.out; omega), by rw [HPS.out, ← HD.out]; exact HSS.out.1, HSS.out.2⟩
                case measure => simp [intOf]; omega
              · have HSS := Lib.hid (stepS_down (d := 0) HSQ.out hc)
                have hc1 : ¬ 2 * ((root : Int) * 2) + 1 ≤ (rest : Int) * 4 := by omega
                clear hc
                go_wp2_with fail
                go_round
                case rel => exact ⟨q + 1, 2 * root, rest * 4 + 0, congrArg (Value.int .i64) (by have := HJ.out; omega), by omega, congrArg (Value.int .u64) (by omega), congrArg (Value.int .u64) (by omega), by rw [HPS.out, ← HD.out]; exact HSS.out.1, HSS.out.2⟩
                case measure => simp [intOf]; omega
          · obtain rfl : q = 63 := by omega
            have hsq2 := HSQ.out
            rw [preS_end] at hsq2
            have HRR := Lib.hid (HR.out (k + 1) 0 Y root rest HY.out (by rw [← HM.out]; exact HM2.out) (by rw [← HM.out]; exact hMb) (by rw [← HM.out]; exact hsq2) hrs hYb.1 hYb.2)
            clear hsq2 HSQ hqe hrs
            go_wp2_with fail
            refine (HZ.out _).mono ?_
            rintro en wn ⟨rfl, hbn⟩
            go_wp2_with fail
            refine (HRR.out _).mono ?_
            rintro en wm ⟨rfl, hbm⟩
            have HB1 := Lib.hid hbn; have HB2 := Lib.hid hbm; clear hbn hbm
            go_wp2_with fail
            go_ret
            exact ⟨rfl, (BW.out.trans (HB1.out.mono BW.out.size)).trans (HB2.out.mono (Nat.le_trans BW.out.size HB1.out.size))⟩
end Go.Proofs.Ytpemchghaddgdaa
