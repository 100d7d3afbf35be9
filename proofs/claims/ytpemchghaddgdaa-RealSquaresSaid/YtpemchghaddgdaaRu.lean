/- Sqrt, here and in the document; powers of two; what stands ahead of the point. Condition: the bits fit. -/
import Derived.Test.YtpemchghaddgdaaRs
import Derived.Test.YtpemchghaddgdaaHc
namespace Go.Proofs.Ytpemchghaddgdaa
open Go.RowKit Go.Pst
set_option maxRecDepth 100000
set_option linter.unusedSimpArgs false
set_option linter.unusedVariables false
attribute [local go_sem] x64bits x64from

theorem xsqrt0 (b : Nat) (w : World) : (callFunc 107 #[.float .f64 b]).run Try.prog w = (Extern.MathSqrt.sqrt #[.float .f64 b] >>= fun v => pure (.value v)).run Try.prog w := by kernel_rfl
theorem xsqrt (b : Nat) (w : World) : (callFunc 107 #[.float .f64 b]).run Try.prog w = .ok (.value (.float .f64 (sqU w b))) (wIf (sqD b).isNone w) := by
  rw [xsqrt0]; simp [run_sqrt]
attribute [local go_sem] xsqrt

def FloatLike (v : Nat) (w : World) (en : Ending) (w' : World) : Prop := ∃ u, en = .returned (.float .f64 u) ∧ cn u = cn v ∧ Below w.heap.size w w'

theorem msqrt_any (b : Nat) (w : World) : Calls Try.prog 88 #[.float .f64 b] w (FloatLike (sqV b) w) := by
  have h := cn_sqU w b
  have hb := wIf_refl (sqD b).isNone w
  have H := Lib.hid h; have HB := Lib.hid hb
  clear h hb
  generalize hv : sqV b = v at *
  clear hv
  go_enter Try.func88, Try.ntmps88
  go_wp2
  go_ret
  exact ⟨_, rfl, H.out, HB.out⟩

theorem sqrt_any (b : Nat) (w : World) : Calls Try.prog 45 #[.float .f64 b] w (FloatLike (sqV b) w) := by
  have H := Lib.hid fun w => msqrt_any b w
  generalize sqV b = v at *
  go_enter Try.func45, Try.ntmps45
  go_wp2_with fail
  refine (H.out _).mono ?_
  rintro en wn ⟨u, rfl, hu, hb⟩
  have HU := Lib.hid hu; have HB := Lib.hid hb; clear hu hb
  go_wp2_with fail
  go_ret
  exact ⟨_, rfl, HU.out, HB.out⟩

theorem stk_of {n w r : Nat} (h : w * w + r = n) : (decide (0 < r)).toNat = stk n w := by
  unfold stk
  by_cases hr : r = 0
  · subst hr; rw [if_pos (by omega)]; rfl
  · rw [if_neg (by omega), decide_eq_true (by omega)]; rfl


set_option maxHeartbeats 1000000 in
theorem rsqrt_any (b : Nat) (w : World) (hb : b < 2 ^ 64) : Calls Try.prog 73 #[.int .u64 b] w (SQPost (sqV b) w) := by
  have hz : ∀ w, Calls Try.prog 21 #[] w fun en w' => en = .returned (.agg #[.int .i64 52, .int .i64 2047, .int .i64 1023]) ∧ Below w.heap.size w w' := fun w => size64_any w
  have hp := fun w => refparts64 b w hb
  obtain ⟨m, hm, hm1, k4, k3, k5, k6, -⟩ := parts_say b hb
  have HN := Lib.hid fun w => rnone_any w
  have HZ := Lib.hid hz
  cases hn : nan64 b
  · cases hi : infB b
    · obtain ⟨q1, q2, q3, q4, q5, q6⟩ := parts_fin b hb hn hi
      have hf : finB b := ⟨hb, hn, hi⟩
      by_cases h0 : mantB b = 0
      · have hv := sqV_zero b hb h0
        rw [hv]
        rw [if_pos (q5.1 h0)] at q4
        have k0 : ((partsN 52 11 b).kind == 0) = true := by rw [q4]; rfl
        clear q1 q2 q3 q4 q5 q6 hv h0 k6 k5 hm1 hf
        rw [hn] at k4
        rw [hi] at k3
        clear hn hi
        generalize partsN 52 11 b = p at *
        obtain ⟨pk, pn, pm, px, pq, pl⟩ := p
        simp only [FP.val] at hp hm k0 k3 k4
        have HP := Lib.hid hp
        clear hp hb hm hz
        go_enter Try.func73, Try.ntmps73
        go_wp2_with fail
        have O := Reg.Own.nil w
        have zz := O.rules
        have HO := Lib.hid O; clear O
        go_wp2_with fail
        refine (HZ.out _).mono ?_
        rintro en wn ⟨rfl, hbn⟩
        have O := HO.out.keep hbn
        clear HO zz
        have zz := O.rules
        have HO := Lib.hid O; clear O
        clear hbn
        go_wp2_with fail
        refine (HP.out _).mono ?_
        rintro en wn ⟨rfl, hbn⟩
        have O := HO.out.keep hbn
        clear HO zz
        have zz := O.rules
        have HO := Lib.hid O; clear O
        clear hbn
        go_wp2_with fail
        go_ret
        exact ⟨by first | rfl | simp, HO.out.below.alloc HO.out.size _⟩
      · have hkz : (partsN 52 11 b).kind ≠ 0 := by
          rw [q4, if_neg (fun h => h0 (q5.2 h))]; split <;> omega
        have k0 : ((partsN 52 11 b).kind == 0) = false := by simp [hkz]
        cases hg : negB b
        · obtain ⟨pk, hpk⟩ : ∃ pk : Nat, (partsN 52 11 b).kind = pk := by rw [q4]; (repeat' split) <;> exact ⟨_, rfl⟩
          obtain ⟨pl, hpl⟩ : ∃ pl : Nat, (partsN 52 11 b).load = pl := by
            rw [parts64_num b hb]
            (repeat' split) <;> first | exact ⟨_, rfl⟩ | exact ⟨0, rfl⟩
          have hx := q3 hkz
          rw [hg] at k5
          have hmm : m = mantB b := by omega
          subst hmm
          rw [hn] at k4
          rw [hi] at k3
          have hr : ∀ (k X : Nat) (Y : Int) (root rest : Nat), (k : Int) = (partsN 52 11 b).exp - 2 * Y + 0 → 9007199254740992 ≤ mantB b * 2 ^ k → mantB b * 2 ^ k < 36028797018963968 → root * root + rest = mantB b * 2 ^ k * 2 ^ 64 → rest ≤ 2 * root → -2000 ≤ Y → Y ≤ 2000 →
              ∀ w, Calls Try.prog 55 #[.bool false, .int .u64 root, .int .i64 (Y - 32), .bool (decide (0 < rest)), .agg #[.int .i64 52, .int .i64 2047, .int .i64 1023]] w fun en w' => en = .returned (.int .u64 (sqV b)) ∧ Below w.heap.size w w' := by
            intro k X Y root rest hk hM hM2 hsq hrs hY1 hY2 w
            have hroot : Root (mantB b * 2 ^ (k + 64)) root := by
              rw [Nat.pow_add, ← Nat.mul_assoc, ← hsq]
              refine ⟨by omega, ?_⟩
              rw [Nat.add_mul, Nat.mul_add]; omega
            have hst : stk (mantB b * 2 ^ (k + 64)) root = (decide (0 < rest)).toNat := by
              rw [Nat.pow_add, ← Nat.mul_assoc]; exact (stk_of hsq).symm
            have hkb : k + 64 ≤ 200 ∨ True := .inr trivial
            have hbig : 2 ^ 53 ≤ root := by
              have h1 : 9007199254740992 * 2 ^ 64 ≤ mantB b * 2 ^ k * 2 ^ 64 := Nat.mul_le_mul_right _ hM
              have h2 : (2 : Nat) ^ 53 * 2 ^ 53 < (root + 1) * (root + 1) := by
                have : (root + 1) * (root + 1) = root * root + 2 * root + 1 := by rw [Nat.add_mul, Nat.mul_add]; omega
                rw [this]
                have h3 : (2 : Nat) ^ 53 * 2 ^ 53 ≤ 9007199254740992 * 2 ^ 64 := by decide
                omega
              exact Nat.le_of_lt_succ (sq_lt h2)
            have hroot64 : root < 2 ^ 64 := by
              refine sq_lt (Nat.lt_of_le_of_lt (show root * root ≤ mantB b * 2 ^ k * 2 ^ 64 by omega) (Nat.lt_trans (Nat.mul_lt_mul_of_pos_right hM2 (Nat.two_pow_pos 64)) (by decide)))
            have hlg : 53 ≤ k + (mantB b).log2 := by
              have h1 : mantB b < 2 ^ ((mantB b).log2 + 1) := Nat.lt_log2_self
              have h2 : mantB b * 2 ^ k < 2 ^ ((mantB b).log2 + 1) * 2 ^ k := Nat.mul_lt_mul_of_pos_right h1 (Nat.two_pow_pos k)
              rw [← Nat.pow_add] at h2
              have h3 : 2 ^ 53 < 2 ^ ((mantB b).log2 + 1 + k) := by omega
              have := (Nat.pow_lt_pow_iff_right (by omega)).1 h3
              omega
            have h1 := refround_any 52 11 2047 1023 root (Y - 32) false (decide (0 < rest)) w (by omega) (by omega) (by omega) rfl rfl hroot64 (fun _ => by omega) (by omega) (by omega)
            rw [← hst] at h1
            have hv := sqV_num b hf h0 hg (k + 64) root (by omega) (by omega) hroot
            have h4 := root_four (f := 52) (e := 11) (n := mantB b * 2 ^ (k + 64)) (w := root) (E := Y - 32) hbig
            rw [h4] at h1
            have hs : ∀ u, signedBits 52 11 false u = u := fun u => rfl
            rw [hs] at h1
            rw [hv, show ((placeB b : Int) - 1074 - ((k + 64 : Nat) : Int)) / 2 - 1 = Y - 32 - 1 by omega]
            exact h1
          have h3 := rsqrt_num b (mantB b) pk pl (partsN 52 11 b).exp (partsN 52 11 b).quiet (sqV b) w (by rw [← hpk]; exact k0) (by rw [← hpk]; exact k3) (by rw [← hpk]; exact k4) hz
            (fun w => by
              have := hp w
              generalize partsN 52 11 b = p at *
              obtain ⟨xk, xn, xm, xx, xq, xl⟩ := p
              simp only [FP.val] at this hm hpk hpl k5 ⊢
              subst hm hpk hpl k5
              exact this) (by omega) hm1 (by omega) (by omega) hr
          exact h3
        · have hv := sqV_neg b hf h0 hg
          rw [hv]
          rw [hg] at k5
          rw [hn] at k4
          rw [hi] at k3
          clear q1 q2 q3 q4 q5 q6 hv h0 k6 hm1 hf hn hi hg hkz
          generalize partsN 52 11 b = p at *
          obtain ⟨pk, pn, pm, px, pq, pl⟩ := p
          simp only [FP.val] at hp hm k0 k3 k4 k5
          subst k5
          have HP := Lib.hid hp
          clear hp hb hm hz
          go_enter Try.func73, Try.ntmps73
          go_wp2_with fail
          have O := Reg.Own.nil w
          have zz := O.rules
          have HO := Lib.hid O; clear O
          go_wp2_with fail
          refine (HZ.out _).mono ?_
          rintro en wn ⟨rfl, hbn⟩
          have O := HO.out.keep hbn
          clear HO zz
          have zz := O.rules
          have HO := Lib.hid O; clear O
          clear hbn
          go_wp2_with fail
          refine (HP.out _).mono ?_
          rintro en wn ⟨rfl, hbn⟩
          have O := HO.out.keep hbn
          clear HO zz
          have zz := O.rules
          have HO := Lib.hid O; clear O
          clear hbn
          go_wp2_with fail
          refine (HN.out _).mono ?_
          rintro en wn ⟨rfl, rfl⟩
          go_wp2_with fail
          go_ret
          exact ⟨by first | rfl | simp, HO.out.below.alloc HO.out.size _⟩
    · have hv := sqV_inf b hb hn hi
      rw [hv]
      have hpi := inf_parts64 b hb hi
      rw [hpi] at hp
      simp only [FP.val] at hp
      clear hv hpi k3 k4 k5 k6 hm hm1 hn hi hb hz
      generalize negB b = s at *
      have HP := Lib.hid hp
      clear hp
      cases s
      ·
        go_enter Try.func73, Try.ntmps73
        go_wp2_with fail
        have O := Reg.Own.nil w
        have zz := O.rules
        have HO := Lib.hid O; clear O
        go_wp2_with fail
        refine (HZ.out _).mono ?_
        rintro en wn ⟨rfl, hbn⟩
        have O := HO.out.keep hbn
        clear HO zz
        have zz := O.rules
        have HO := Lib.hid O; clear O
        clear hbn
        go_wp2_with fail
        refine (HP.out _).mono ?_
        rintro en wn ⟨rfl, hbn⟩
        have O := HO.out.keep hbn
        clear HO zz
        have zz := O.rules
        have HO := Lib.hid O; clear O
        clear hbn
        go_wp2_with fail
        go_ret
        exact ⟨by first | rfl | simp, HO.out.below.alloc HO.out.size _⟩
      ·
        go_enter Try.func73, Try.ntmps73
        go_wp2_with fail
        have O := Reg.Own.nil w
        have zz := O.rules
        have HO := Lib.hid O; clear O
        go_wp2_with fail
        refine (HZ.out _).mono ?_
        rintro en wn ⟨rfl, hbn⟩
        have O := HO.out.keep hbn
        clear HO zz
        have zz := O.rules
        have HO := Lib.hid O; clear O
        clear hbn
        go_wp2_with fail
        refine (HP.out _).mono ?_
        rintro en wn ⟨rfl, hbn⟩
        have O := HO.out.keep hbn
        clear HO zz
        have zz := O.rules
        have HO := Lib.hid O; clear O
        clear hbn
        go_wp2_with fail
        refine (HN.out _).mono ?_
        rintro en wn ⟨rfl, rfl⟩
        go_wp2_with fail
        go_ret
        exact ⟨by first | rfl | simp, HO.out.below.alloc HO.out.size _⟩
  · have hv := sqV_nan b hb hn
    rw [hv]
    rw [hn] at k4
    have k0 : ((partsN 52 11 b).kind == 0) = false := by
      have : (partsN 52 11 b).kind = 4 := by simpa using k4
      rw [this]; rfl
    have k3' : ((partsN 52 11 b).kind == 3) = false := by
      have : (partsN 52 11 b).kind = 4 := by simpa using k4
      rw [this]; rfl
    clear hv hn k3 k5 k6 hm1
    generalize partsN 52 11 b = p at *
    obtain ⟨pk, pn, pm, px, pq, pl⟩ := p
    simp only [FP.val] at hp hm k0 k3' k4
    have HP := Lib.hid hp
    clear hp hb hm hz
    go_enter Try.func73, Try.ntmps73
    go_wp2_with fail
    have O := Reg.Own.nil w
    have zz := O.rules
    have HO := Lib.hid O; clear O
    go_wp2_with fail
    refine (HZ.out _).mono ?_
    rintro en wn ⟨rfl, hbn⟩
    have O := HO.out.keep hbn
    clear HO zz
    have zz := O.rules
    have HO := Lib.hid O; clear O
    clear hbn
    go_wp2_with fail
    refine (HP.out _).mono ?_
    rintro en wn ⟨rfl, hbn⟩
    have O := HO.out.keep hbn
    clear HO zz
    have zz := O.rules
    have HO := Lib.hid O; clear O
    clear hbn
    go_wp2_with fail
    refine (HN.out _).mono ?_
    rintro en wn ⟨rfl, rfl⟩
    go_wp2_with fail
    go_ret
    exact ⟨by first | rfl | simp, HO.out.below.alloc HO.out.size _⟩
end Go.Proofs.Ytpemchghaddgdaa
