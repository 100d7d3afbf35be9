/- total: awake, same, the mean, the document's mean: walks. Condition: at most 65536 numbers of 64 bits. -/
import Derived.Test.YtjakjnmfndfehaaTu
namespace Go.Pst
open Go Ieee Go.Proofs.Ytjakjnmfndfehaa
set_option linter.unusedVariables false
theorem floatInt_fl (n : Nat) : floatOfInt .f64 (n : Int) = fl n := by
  have h := near_fl (n : Int)
  have e : floatOfInt .f64 (n : Int) = FloatKind.f64.nearest (n : Int) := rfl
  rw [e, h, decide_eq_false (by omega), Int.natAbs_natCast]
  unfold wrd
  rw [if_neg (by simp)]
theorem cn_rexV (f : Nat → Nat) (n : Nat) : cn (rexV f n) = cn (exactV f n) := by
  unfold rexV
  cases h : exN f n || (exP f n && exL f n)
  · rw [if_neg Bool.false_ne_true]
  · rw [if_pos rfl]
    unfold exactV exV
    rw [h, if_pos rfl]
    decide
end Go.Pst
namespace Go.Proofs.Ytjakjnmfndfehaa
open Go.RowKit Go.Pst
set_option maxRecDepth 20000
set_option linter.unusedSimpArgs false
set_option linter.unusedVariables false
attribute [local go_sem] m64bits m64from run_fquo

theorem pSame_any (a b : Nat) (w : World) (h : cn a = cn b) : Calls Try.prog 73 #[.float .f64 a, .float .f64 b] w fun en w' => en = .returned (.bool true) ∧ w = w' := by
  have ha := fun w => pnone_any a w
  have hb := fun w => pnone_any b w
  have e1 : nan64 a = nan64 b := by rw [← cn_nan a, ← cn_nan b, h]
  rw [e1] at ha
  cases hn : nan64 b
  · rw [cn_of a (e1.trans hn), cn_of b hn] at h
    subst h
    rw [hn] at ha hb
    have HA := Lib.hid ha
    clear ha hb e1 hn
    go_enter Try.func73, Try.ntmps73
    go_wp2_with fail
    refine (HA.out _).mono ?_
    rintro en w' ⟨rfl, rfl⟩
    go_wp2_with fail
    go_ret
    exact ⟨by first | rfl | simp, rfl⟩
  · rw [hn] at ha hb
    have HA := Lib.hid ha; have HB := Lib.hid hb
    clear ha hb e1 hn h
    go_enter Try.func73, Try.ntmps73
    go_wp2_with fail
    refine (HA.out _).mono ?_
    rintro en w' ⟨rfl, rfl⟩
    go_wp2_with fail
    refine (HB.out _).mono ?_
    rintro en w' ⟨rfl, rfl⟩
    go_wp2_with fail
    go_ret
    exact ⟨by first | rfl | simp, rfl⟩
theorem psame_any (a b : Nat) (w : World) (h : cn a = cn b) : Calls Try.prog 20 #[.float .f64 a, .float .f64 b] w fun en w' => en = .returned (.bool true) ∧ w = w' := by
  have HS := Lib.hid fun w => pSame_any a b w h
  clear h
  go_enter Try.func20, Try.ntmps20
  go_wp2_with fail
  refine (HS.out _).mono ?_
  rintro en w' ⟨rfl, rfl⟩
  go_wp2_with fail
  go_ret
  exact ⟨rfl, rfl⟩

theorem ex_one : exactV (fun _ => 4607182418800017408) 2 = 4611686018427387904 := by kernel_rfl
theorem awake_any (w : World) : Calls Try.prog 15 #[] w fun en w' => en = .returned (.bool true) ∧ Below w.heap.size w w' := by
  have HE := Lib.hid fun (A : Option Addr) (c : Nat) (w : World) (h : FlAt w w.heap.size A 2 fun _ => 4607182418800017408) => exact_any 2 c A (fun _ => 4607182418800017408) w h (by omega) (fun _ _ => by omega)
  rw [ex_one] at HE
  have hq : feq .f64 4611686018427387904 4611686018427387904 = true := by decide
  go_enter Try.func15, Try.ntmps15
  go_wp2_with fail
  refine (HE.out _ _ _ fun _ => ⟨w.heap.size, 0, rfl, by simp, fun i hi => ?_⟩).mono ?_
  · rw [cell_of_row _ _ _ _ _ _ (heap_alloc_new _ _)]
    obtain rfl | rfl : i = 0 ∨ i = 1 := by omega
    · rfl
    · rfl
  rintro en w2 ⟨rfl, hb2⟩
  have HB2 := Lib.hid (((Below.refl _ _).alloc (Nat.le_refl _) _).trans (hb2.mono (by simp)))
  clear hb2
  go_wp2_with fail
  go_ret
  exact ⟨rfl, HB2.out⟩

set_option maxHeartbeats 1000000 in
theorem mean_any (n c : Nat) (A : Option Addr) (f : Nat → Nat) (w : World) (hA : FlAt w w.heap.size A n f) (hn : n ≤ 65536) (h0 : n ≠ 0) (hf : ∀ j, j < n → f j < 2 ^ 64) :
    Calls Try.prog 27 #[.slice A n c] w fun en w' => ∃ u, en = .returned (.tuple #[.float .f64 u, .int .i64 0]) ∧ cn u = arV .quo (exactV f n) (fl n) ∧ Below w.heap.size w w' := by
  have HE := Lib.hid (exact_any n c A f w hA hn hf)
  have hfl := floatInt_fl n
  have hN0 : ((n : Int) == 0) = false := by simp; omega
  generalize exactV f n = v at *
  generalize fl n = F at *
  clear hA hf hn h0
  go_enter Try.func27, Try.ntmps27
  go_wp2_with fail
  refine HE.out.mono ?_
  rintro en w2 ⟨rfl, hb2⟩
  have HB2 := Lib.hid hb2
  clear hb2
  go_wp2_with fail
  go_ret2
  exact ⟨_, rfl, cn_arU _ _ _ _, wIf_below _ _ HB2.out⟩
theorem mean_zero (c : Nat) (A : Option Addr) (w : World) :
    Calls Try.prog 27 #[.slice A 0 c] w fun en w' => en = .returned (.tuple #[.float .f64 0, .int .i64 1]) ∧ w = w' := by
  go_enter Try.func27, Try.ntmps27
  go_wp2_with fail
  go_ret2
  exact ⟨rfl, rfl⟩
set_option maxHeartbeats 1000000 in
theorem rmean_any (n c : Nat) (A : Option Addr) (f : Nat → Nat) (w : World) (hA : FlAt w w.heap.size A n f) (hn : n ≤ 65536) (hf : ∀ j, j < n → f j < 2 ^ 64) :
    Calls Try.prog 29 #[.slice A n c] w fun en w' => ∃ u, en = .returned (.float .f64 u) ∧ cn u = arV .quo (exactV f n) (fl n) ∧ Below w.heap.size w w' := by
  have HE := Lib.hid fun w hA => rexact_any n c A f w hA hn hf
  have HA := Lib.hid hA
  have hfl := floatInt_fl n
  have hcn := arV_cn .quo (cn_rexV f n) (rfl : cn (fl n) = cn (fl n))
  rw [← hcn]
  clear hcn
  generalize rexV f n = v at *
  generalize fl n = F at *
  clear hA hf hn
  go_enter Try.func29, Try.ntmps29
  go_wp2_with fail
  refine (HE.out _ HA.out).mono ?_
  rintro en w2 ⟨rfl, hb2⟩
  have HB2 := Lib.hid hb2
  clear hb2
  go_wp2_with fail
  go_ret
  exact ⟨_, rfl, cn_arU _ _ _ _, wIf_below _ _ HB2.out⟩
end Go.Proofs.Ytjakjnmfndfehaa
