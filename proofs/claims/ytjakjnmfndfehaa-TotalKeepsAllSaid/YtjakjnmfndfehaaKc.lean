/- Plain facts: the exact sum of two floats is their sum, whatever they are, but of two noughts; numbers with what Two gives turned about sum to 0. No condition. -/
import Derived.Test.YtjakjnmfndfehaaKb
namespace Go.Proofs.Ytjakjnmfndfehaa
open Go Ieee Go.Pst
set_option linter.unusedVariables false
set_option linter.unusedSimpArgs false
theorem three_kinds {x : Nat} (h : x < 2 ^ 64) : (nan64 x = true ∧ infB x = false) ∨ (nan64 x = false ∧ infB x = true ∧ x = wrd (negB x) 9218868437227405312 ∧ Ieee.double.read x = .infinity (negB x)) ∨ finB x := by
  cases hn : nan64 x
  · cases hi : infB x
    · exact .inr (.inr ⟨h, hn, hi⟩)
    · refine .inr (.inl ⟨rfl, rfl, ?_, ?_⟩)
      · have := wrd_mod x h
        have e : x % 9223372036854775808 = 9218868437227405312 := by unfold infB at hi; exact of_decide_eq_true hi
        rw [e] at this; exact this.symm
      · rw [read64 x h, hn, hi, if_neg Bool.false_ne_true, if_pos rfl]
  · refine .inl ⟨rfl, ?_⟩
    unfold nan64 at hn; unfold infB
    have := of_decide_eq_true hn
    exact decide_eq_false (by omega)
theorem arV_nan {x y : Nat} (h : nan64 x = true ∨ nan64 y = true) : arV .add x y = NC := by
  unfold arV arN
  rw [show arD .add x y = none from add_nan h]
theorem arV_infl {s : Bool} {x y : Nat} (hx : Ieee.double.read x = .infinity s) (hy : finB y) : arV .add x y = wrd s 9218868437227405312 := by
  have e : arD .add x y = some (Ieee.double.write (.infinity s)) := by
    show ((Ieee.double.read x).sum (Ieee.double.read y)).map Ieee.double.write = _
    rw [hx, read_fin hy]; rfl
  unfold arV arN; rw [e]; cases s <;> decide +kernel
theorem arV_infr {s : Bool} {x y : Nat} (hx : finB x) (hy : Ieee.double.read y = .infinity s) : arV .add x y = wrd s 9218868437227405312 := by
  have e : arD .add x y = some (Ieee.double.write (.infinity s)) := by
    show ((Ieee.double.read x).sum (Ieee.double.read y)).map Ieee.double.write = _
    rw [hy, read_fin hx]; rfl
  unfold arV arN; rw [e]; cases s <;> decide +kernel
theorem arV_inf2 {s t : Bool} {x y : Nat} (hx : Ieee.double.read x = .infinity s) (hy : Ieee.double.read y = .infinity t) : arV .add x y = if s = t then wrd s 9218868437227405312 else NC := by
  unfold arV arN arD floatBits
  show (match ((Ieee.double.read x).sum (Ieee.double.read y)).map Ieee.double.write with | some r => r | none => NC) = _
  rw [hx, hy]
  cases s <;> cases t <;> decide +kernel
theorem inf_read (s : Bool) : Ieee.double.read (wrd s 9218868437227405312) = .infinity s := by cases s <;> decide +kernel
theorem exact_two_all {f : Nat → Nat} (h0 : f 0 < 2 ^ 64) (h1 : f 1 < 2 ^ 64) (hz : ¬ (finB (f 0) ∧ finB (f 1) ∧ magN (f 0) = 0 ∧ magN (f 1) = 0)) : cn (exactV f 2) = cn (keS f 2) := by
  have e : keS f 2 = arV .add (arV .add 0 (f 0)) (f 1) := rfl
  have aN : exN f 2 = (nan64 (f 0) || nan64 (f 1)) := by show ((false || nan64 (f 0)) || nan64 (f 1)) = _; rw [Bool.false_or]
  have aP : exP f 2 = (eP (f 0) || eP (f 1)) := by show ((false || eP (f 0)) || eP (f 1)) = _; rw [Bool.false_or]
  have aL : exL f 2 = (eL (f 0) || eL (f 1)) := by show ((false || eL (f 0)) || eL (f 1)) = _; rw [Bool.false_or]
  have h00 : finB 0 := ⟨by omega, by decide, by decide⟩
  rw [e, cn_arV]
  rcases three_kinds h0 with ⟨a1, a2⟩ | ⟨a1, a2, a3, a4⟩ | ha
  · have : exactV f 2 = 9221120237041090561 := by unfold exactV; rw [aN, a1]; unfold exV; rw [Bool.true_or, Bool.true_or, if_pos rfl]
    rw [this, arV_nan (.inl (by rw [arV_nan (.inr a1)]; exact nanNC))]
    exact cn_of_nan _ (by decide)
  · have hs : arV .add 0 (f 0) = wrd (negB (f 0)) 9218868437227405312 := arV_infr h00 a4
    rw [hs]
    rcases three_kinds h1 with ⟨b1, b2⟩ | ⟨b1, b2, b3, b4⟩ | hb
    · have : exactV f 2 = 9221120237041090561 := by unfold exactV; rw [aN, b1]; unfold exV; rw [Bool.or_true, Bool.true_or, if_pos rfl]
      rw [this, arV_nan (.inr b1)]
      exact cn_of_nan _ (by decide)
    · rw [arV_inf2 (inf_read _) b4]
      unfold exactV; rw [aN, aP, aL, a1, b1]
      unfold eP eL; rw [a1, b1, a2, b2]
      cases negB (f 0) <;> cases negB (f 1) <;> simp only [exV, Bool.not_false, Bool.not_true, Bool.and_true, Bool.true_and, Bool.and_false, Bool.false_and, Bool.or_false, Bool.false_or, Bool.or_true, Bool.true_or, if_true, Bool.false_eq_true, Bool.true_eq_false, if_false] <;> decide +kernel
    · rw [arV_infl (inf_read _) hb]
      unfold exactV; rw [aN, aP, aL, a1, hb.2.1]
      unfold eP eL; rw [a1, hb.2.1, a2, hb.2.2]
      cases negB (f 0) <;> simp only [exV, Bool.not_false, Bool.not_true, Bool.and_true, Bool.true_and, Bool.and_false, Bool.false_and, Bool.or_false, Bool.false_or, Bool.or_true, Bool.true_or, if_true, Bool.false_eq_true, Bool.true_eq_false, if_false] <;> decide +kernel
  · rcases three_kinds h1 with ⟨b1, b2⟩ | ⟨b1, b2, b3, b4⟩ | hb
    · have : exactV f 2 = 9221120237041090561 := by unfold exactV; rw [aN, b1]; unfold exV; rw [Bool.or_true, Bool.true_or, if_pos rfl]
      rw [this, arV_nan (.inr b1)]
      exact cn_of_nan _ (by decide)
    · rw [arV_infr (nought_add ha).1 b4]
      unfold exactV; rw [aN, aP, aL, ha.2.1, b1]
      unfold eP eL; rw [ha.2.1, b1, ha.2.2, b2]
      cases negB (f 1) <;> simp only [exV, Bool.not_false, Bool.not_true, Bool.and_true, Bool.true_and, Bool.and_false, Bool.false_and, Bool.or_false, Bool.false_or, Bool.or_true, Bool.true_or, if_true, Bool.false_eq_true, Bool.true_eq_false, if_false] <;> decide +kernel
    · rw [exact_two ha hb fun g => hz ⟨ha, hb, g.1, g.2⟩, e, cn_arV]
/-- Four numbers that are all finite and sum to nothing. -/
theorem exact_four {f : Nat → Nat} (h : ∀ i, i < 4 → finB (f i)) (hs : valZ (f 0) + valZ (f 1) + valZ (f 2) + valZ (f 3) = 0) : exactV f 4 = 0 ∨ exactV f 4 = 9223372036854775808 := by
  have aN : exN f 4 = false := by rw [exN_fold]; exact fold_false _ fun i hi => (h i hi).2.1
  have aP : exP f 4 = false := by rw [exP_fold]; exact fold_false _ fun i hi => by unfold eP; rw [(h i hi).2.2]; simp
  have aL : exL f 4 = false := by rw [exL_fold]; exact fold_false _ fun i hi => by unfold eL; rw [(h i hi).2.2]; simp
  have aU : exSum f 4 = 0 := by
    show (((0 + eU (f 0)) + eU (f 1)) + eU (f 2)) + eU (f 3) = 0
    rw [eU_fin (h 0 (by omega)), eU_fin (h 1 (by omega)), eU_fin (h 2 (by omega)), eU_fin (h 3 (by omega))]
    omega
  unfold exactV
  rw [aN, aP, aL, aU]
  unfold exV
  rw [Bool.false_and, Bool.or_false, if_neg Bool.false_ne_true, if_neg Bool.false_ne_true, if_neg Bool.false_ne_true, if_pos rfl]
  split
  · exact .inr rfl
  · exact .inl rfl
end Go.Proofs.Ytjakjnmfndfehaa
