/- total: how two exact sums stand: walks; the document's. Condition: at most 65536 numbers of 64 bits on either side. -/
import Derived.Test.YtjakjnmfndfehaaUq
namespace Go.Pst
open Go Ieee Go.RowKit Go.Proofs.Ytjakjnmfndfehaa
set_option linter.unusedVariables false
set_option linter.unusedSimpArgs false
theorem exDiff_nat {f g : Nat → Nat} {n m : Nat} (hn : n ≤ 65536) (hm : m ≤ 65536) (h : ∀ j, j < n → f j < 2 ^ 64) (h' : ∀ j, j < m → g j < 2 ^ 64) : (exSum f n - exSum g m).natAbs ≤ 2 ^ 17 * 2 ^ K21 := by
  have h1 := exSum_bd n h
  have h2 := exSum_bd m h'
  have h3 : n * 2 ^ K21 ≤ 65536 * 2 ^ K21 := Nat.mul_le_mul_right _ hn
  have h4 : m * 2 ^ K21 ≤ 65536 * 2 ^ K21 := Nat.mul_le_mul_right _ hm
  generalize (2 : Nat) ^ K21 = X at *
  omega
theorem exDiff_small {f g : Nat → Nat} {n m : Nat} (hn : n ≤ 65536) (hm : m ≤ 65536) (h : ∀ j, j < n → f j < 2 ^ 64) (h' : ∀ j, j < m → g j < 2 ^ 64) : Small (exSum f n - exSum g m) := by
  have h1 := exDiff_nat hn hm h h'
  rw [← Nat.pow_add] at h1
  have h3 : 2 ^ (17 + K21) < 2 ^ K46 := Nat.pow_lt_pow_right (by omega) (by decide)
  unfold Small
  rw [h71_two]
  generalize (2 : Nat) ^ (17 + K21) = X at *
  generalize (2 : Nat) ^ K46 = Y at *
  omega
theorem exDiff_out {f g : Nat → Nat} {n m : Nat} (hn : n ≤ 65536) (hm : m ≤ 65536) (h : ∀ j, j < n → f j < 2 ^ 64) (h' : ∀ j, j < m → g j < 2 ^ 64) : ((exSum f n - exSum g m) * ((2 ^ K11 : Nat) : Int)).natAbs < D28 := by
  have h1 := exDiff_nat hn hm h h'
  rw [← Nat.pow_add] at h1
  have h3 := Nat.mul_le_mul_right (2 ^ K11) h1
  rw [← Nat.pow_add] at h3
  rw [Int.natAbs_mul, Int.natAbs_natCast]
  refine Nat.lt_of_le_of_lt h3 ?_
  unfold D28
  rw [show (65536 : Nat) = 2 ^ 16 from rfl, ← Nat.pow_mul]
  exact Nat.pow_lt_pow_right (by omega) (by decide)
theorem sgnI_mul (S : Int) (Z : Nat) (hZ : 0 < Z) : sgnI (S * (Z : Int)) = sgnI S := by
  have hp : (0 : Int) < (Z : Int) := by omega
  unfold sgnI
  by_cases h : S < 0
  · rw [if_pos (Int.mul_neg_of_neg_of_pos h hp), if_pos h]
  · rw [if_neg h, if_neg (by have := Int.mul_nonneg (by omega : 0 ≤ S) (Int.le_of_lt hp); omega)]
    by_cases h0 : S = 0
    · rw [h0, Int.zero_mul]
    · rw [if_neg h0, if_neg (by
        intro e
        rcases Int.mul_eq_zero.1 e with e | e
        · exact h0 e
        · omega)]
theorem cmpV_fin {f g : Nat → Nat} {n m : Nat} (h1 : finAll f n = true) (h2 : finAll g m = true) : cmpV f g n m = sgnI (exSum f n - exSum g m) := by unfold cmpV; rw [h1, h2]; rfl
theorem cmpV_not {f g : Nat → Nat} {n m : Nat} (h : (finAll f n && finAll g m) = false) : cmpV f g n m = 0 := by unfold cmpV; rw [h]; rfl
end Go.Pst
namespace Go.Proofs.Ytjakjnmfndfehaa
open Go.RowKit Go.Pst
set_option maxRecDepth 20000
set_option linter.unusedSimpArgs false
set_option linter.unusedVariables false
def CmpPost (f g : Nat → Nat) (n m : Nat) (rest : List Value) (w : World) (en : Ending) (w' : World) : Prop :=
  en = .returned (.tuple (.int .i64 (cmpV f g n m) :: .bool (finAll f n && finAll g m) :: rest).toArray) ∧ Below w.heap.size w w'
set_option maxHeartbeats 2000000 in
theorem compare_any (n c m d : Nat) (A B : Option Addr) (f g : Nat → Nat) (w : World) (hA : FlAt w w.heap.size A n f) (hB : FlAt w w.heap.size B m g) (hn : n ≤ 65536) (hm : m ≤ 65536) (hf : ∀ j, j < n → f j < 2 ^ 64) (hg : ∀ j, j < m → g j < 2 ^ 64) :
    Calls Try.prog 56 #[.slice A n c, .slice B m d] w (CmpPost f g n m [.int .i64 0] w) := by
  have HL1 := Lib.hid fun w => long_f n c A w (by omega)
  rw [decide_eq_false (by omega : ¬ 65536 < n)] at HL1
  have HL2 := Lib.hid fun w => long_f m d B w (by omega)
  rw [decide_eq_false (by omega : ¬ 65536 < m)] at HL2
  have HA := Lib.hid hA; have HB := Lib.hid hB; have HF := Lib.hid hf; have HG := Lib.hid hg
  have HSM := Lib.hid (exDiff_small hn hm hf hg)
  clear hA hB hf hg
  go_enter Try.func56, Try.ntmps56
  go_wp2_with fail
  refine (HL1.out _).mono ?_
  rintro en w' ⟨rfl, rfl⟩
  go_wp2_with fail
  refine (HL2.out _).mono ?_
  rintro en w' ⟨rfl, rfl⟩
  go_wp2_with fail
  refine (csum_any n c A f w HA.out hn HF.out).mono ?_
  rintro en w1 ⟨hb1, hs1⟩
  have B1 := Lib.hid hb1
  have HS2 := Lib.hid (csum_any m d B g w1 ((HB.out.below hb1 (Nat.le_refl _)).more hb1.size) hm HG.out)
  clear hb1
  rcases hs1 with ⟨hf1, V, p1, l1, q1, s1, m1, rfl, hE1, hV1⟩ | ⟨hf1, rfl⟩
  · have HF1 := Lib.hid hf1; have E1 := Lib.hid hE1; have V1 := Lib.hid hV1
    clear hf1 hE1 hV1
    go_wp2_with fail
    refine HS2.out.mono ?_
    rintro en w2 ⟨hb2, hs2⟩
    have B2 := Lib.hid (B1.out.trans (hb2.mono B1.out.size))
    have E12 := Lib.hid (E1.out.below hb2)
    clear hb2
    rcases hs2 with ⟨hf2, U, p2, l2, q2, s2, m2, rfl, hE2, hV2⟩ | ⟨hf2, rfl⟩
    · have HF2 := Lib.hid hf2; have E2 := Lib.hid hE2; have V2 := Lib.hid hV2
      have hx1 := E12.out.wide.lt
      have hx2 := E2.out.wide.lt
      have hne : w.heap.size ≠ w1.heap.size := by have := E1.out.wide.lt; omega
      have B1s := B1.out.size
      clear hf2 hE2 hV2 HS2
      go_wp2_with fail
      refine (negate_any w1.heap.size 0 U w2 E2.out.wide V2.out.1).mono ?_
      rintro en w3 ⟨⟨v3, rfl⟩, hw3, hc3⟩
      have W3 := Lib.hid hw3; have C3 := Lib.hid hc3
      have X3 := Lib.hid (E12.out.wide.grown hc3.g (by simp; omega))
      have B3 := Lib.hid (B2.out.grown hc3.g (by omega) (fun k e => by cases e; omega))
      clear hw3 hc3
      go_wp2_with fail
      refine Reg.wp_region_perm [0, 1, 2, 3, 4, 5] [6] (by kernel_rfl) (by kernel_rfl) (by intro _ _ d _ _ h; cases d <;> exact h) ?_
      simp only [Reg.pick, List.drop_succ_cons, List.drop_zero, List.take_succ_cons, List.take_zero, List.cons_append, List.nil_append]
      repeat (refine Reg.held_op rfl ?_; apply Exists.intro; apply And.intro; (intro w' _; go_simp; first | done | (with_reducible exact rfl)); (intro a' ha'; simp only [Act.put, List.setIfInBounds_toArray, List.set_cons_zero, List.set_cons_succ] at ha'; subst ha'))
      refine Reg.held_end ?_
      show wpList _ _ _ _ _ _
      go_wp2_with fail
      have hd := (Below.refl w3.heap.size w3).drew
      refine (add_any w.heap.size 0 w1.heap.size 0 V (negW U) w3.drew (X3.out.below hd) (W3.out.below hd) hne V1.out.1 V2.out.neg.1).mono ?_
      rintro en w4 ⟨⟨v4, rfl⟩, hw4, hc4⟩
      have W4 := Lib.hid hw4
      have B4 := Lib.hid ((B3.out.drew).grown hc4.g (by have := B3.out.size; simpa using this) (fun k e => by cases e; omega))
      clear hw4 hc4 hd
      have HV4 := Lib.hid (V1.out.add V2.out.neg)
      go_wp2_with fail
      refine (sign_any w.heap.size 0 _ _ w4 W4.out HV4.out (by have := HSM.out; rwa [Int.sub_eq_add_neg] at this)).mono ?_
      rintro en w5 ⟨rfl, rfl⟩
      go_wp2_with fail
      go_ret3
      refine ⟨?_, B4.out⟩
      rw [cmpV_fin HF1.out HF2.out, HF1.out, HF2.out, ← Int.sub_eq_add_neg]
      rfl
    · have HF2 := Lib.hid hf2
      clear hf2 HS2
      go_wp2_with fail
      go_ret3
      refine ⟨?_, B2.out⟩
      rw [cmpV_not (by rw [HF1.out, HF2.out]; rfl), HF1.out, HF2.out]
      rfl
  · have HF1 := Lib.hid hf1
    clear hf1
    go_wp2_with fail
    refine HS2.out.mono ?_
    rintro en w2 ⟨hb2, hs2⟩
    have B2 := Lib.hid (B1.out.trans (hb2.mono B1.out.size))
    clear hb2
    rcases hs2 with ⟨hf2, U, p2, l2, q2, s2, m2, rfl, hE2, hV2⟩ | ⟨hf2, rfl⟩
    · have HF2 := Lib.hid hf2
      clear hf2 HS2 hE2 hV2
      go_wp2_with fail
      go_ret3
      refine ⟨?_, B2.out⟩
      rw [cmpV_not (by rw [HF1.out, HF2.out]; rfl), HF1.out, HF2.out]
      rfl
    · have HF2 := Lib.hid hf2
      clear hf2 HS2
      go_wp2_with fail
      go_ret3
      refine ⟨?_, B2.out⟩
      rw [cmpV_not (by rw [HF1.out, HF2.out]; rfl), HF1.out, HF2.out]
      rfl
end Go.Proofs.Ytjakjnmfndfehaa
