/- Trunc, Modf, Power, here and in the document. Condition: the bits fit. -/
import Derived.Test.YtpemchghaddgdaaRv
namespace Go.Pst
open Go Ieee Go.RowKit
set_option linter.unusedVariables false
set_option linter.unusedSimpArgs false

theorem sub_fin {x y : Nat} (hx : finB x) (hy : finB y) : arD .sub x y =
    some (wrd (if valZ x - valZ y = 0 then negB x && !negB y else decide (valZ x - valZ y < 0)) (rz (valZ x - valZ y).natAbs)) := by
  show ((Ieee.double.read x).sum (Ieee.double.read y).opposite).map Ieee.double.write = _
  rw [read_fin hx, read_fin hy]
  show ((Datum.number (negB x) (mantB x) (-1074 + (placeB x : Nat))).sum (.number (!negB y) (mantB y) (-1074 + (placeB y : Nat)))).map Ieee.double.write = _
  rw [sum_num]
  have e : sgn (!negB y) (mantB y * 2 ^ placeB y) = -valZ y := by
    rw [valZ_eq]; unfold sgn; cases negB y <;> simp
  rw [e, ← valZ_eq x, ← Int.sub_eq_add_neg]

theorem trB_fin {b : Nat} (hf : finB b) : finB (trB b) ∧ negB (trB b) = negB b ∧ valZ (trB b) = sgn (negB b) (mantB b / 2 ^ (1074 - placeB b) * 2 ^ (1074 - placeB b) * 2 ^ placeB b) := by
  obtain ⟨hb, hn, hi⟩ := hf
  by_cases hp : 1074 ≤ placeB b
  · have : trB b = b := by unfold trB; rw [if_pos (by rw [decide_eq_true hp]; simp)]
    rw [this]
    refine ⟨⟨hb, hn, hi⟩, rfl, ?_⟩
    rw [show 1074 - placeB b = 0 by omega, Nat.pow_zero, Nat.div_one, Nat.mul_one]
    exact valZ_eq b
  · have ht : trB b = wrd (negB b) (rndN 52 11 (mantB b / 2 ^ (1074 - placeB b)) 0) := by unfold trB; rw [if_neg (by rw [hn, hi, decide_eq_false hp]; simp)]
    have hd : mantB b / 2 ^ (1074 - placeB b) < 2 ^ 53 := Nat.lt_of_le_of_lt (Nat.div_le_self _ _) (mant_lt b)
    obtain ⟨h1, h2⟩ := rv_whole _ hd
    rw [ht]
    obtain ⟨g1, g2, g3⟩ := wrd_lt (negB b) (rndN 52 11 (mantB b / 2 ^ (1074 - placeB b)) 0) (by omega)
    refine ⟨⟨g1, nan_wrd _ _ (by omega), by unfold infB; rw [g2]; exact decide_eq_false (by omega)⟩, g3, ?_⟩
    rw [valZ_wrd _ _ (by omega), h1]
    have e : mantB b / 2 ^ (1074 - placeB b) * 2 ^ 1074 = mantB b / 2 ^ (1074 - placeB b) * 2 ^ (1074 - placeB b) * 2 ^ placeB b := by
      rw [Nat.mul_assoc, ← Nat.pow_add, show 1074 - placeB b + placeB b = 1074 by omega]
    rw [e]
    unfold sgn
    generalize mantB b / 2 ^ (1074 - placeB b) * 2 ^ (1074 - placeB b) * 2 ^ placeB b = z
    cases negB b
    · rw [if_neg Bool.false_ne_true]
    · rw [if_pos rfl]

/-- What is left of a finite number when what stands ahead of the point is taken off. -/
theorem modf_rest {b : Nat} (hf : finB b) : ∃ r, arD .sub b (trB b) = some r ∧ csN r b = trR b := by
  obtain ⟨ht, hs, hv⟩ := trB_fin hf
  refine ⟨_, sub_fin hf ht, ?_⟩
  have hd : valZ b - valZ (trB b) = sgn (negB b) (mantB b % 2 ^ (1074 - placeB b) * 2 ^ placeB b) := by
    rw [valZ_eq, hv]
    have h := Nat.div_add_mod (mantB b) (2 ^ (1074 - placeB b))
    have h2 : mantB b * 2 ^ placeB b = mantB b / 2 ^ (1074 - placeB b) * 2 ^ (1074 - placeB b) * 2 ^ placeB b + mantB b % 2 ^ (1074 - placeB b) * 2 ^ placeB b := by
      rw [← Nat.add_mul, Nat.mul_comm (mantB b / 2 ^ (1074 - placeB b)), h]
    rw [h2]
    unfold sgn
    generalize mantB b / 2 ^ (1074 - placeB b) * 2 ^ (1074 - placeB b) * 2 ^ placeB b = x
    generalize mantB b % 2 ^ (1074 - placeB b) * 2 ^ placeB b = y
    cases negB b <;> simp <;> omega
  rw [hd]
  have hna : (sgn (negB b) (mantB b % 2 ^ (1074 - placeB b) * 2 ^ placeB b)).natAbs = mantB b % 2 ^ (1074 - placeB b) * 2 ^ placeB b := by
    unfold sgn
    generalize mantB b % 2 ^ (1074 - placeB b) * 2 ^ placeB b = y
    cases negB b <;> simp
  rw [hna]
  unfold csN
  have hlt : rz (mantB b % 2 ^ (1074 - placeB b) * 2 ^ placeB b) < 9223372036854775808 := rnd_lt63 _ _
  rw [(wrd_lt _ _ hlt).2.1, ← rnd_rz]
  unfold trR
  rw [if_neg (by rw [hf.2.1]; simp)]
  by_cases hp : 1074 ≤ placeB b
  · rw [if_pos (by rw [decide_eq_true hp]; simp), show 1074 - placeB b = 0 by omega, Nat.pow_zero, Nat.mod_one]
    have : rndN 52 11 0 (-1074 + ((placeB b : Nat) : Int)) = 0 := by unfold rndN; rw [if_pos rfl]
    rw [this]
  · rw [if_neg (by rw [hf.2.2, decide_eq_false hp]; simp)]

theorem trR_zero {b : Nat} (h : mantB b = 0) (hn : nan64 b = false) (hi : infB b = false) (hb : b < 2 ^ 64) : trB b = b ∧ trR b = wrd (negB b) 0 := by
  have hz := mant_zero.1 h
  have hw := wrd_mod b hb
  rw [hz] at hw
  have hp : placeB b = 0 := by unfold placeB expF; omega
  have hr : ∀ E, rndN 52 11 0 E = 0 := fun E => by unfold rndN; rw [if_pos rfl]
  unfold trB trR
  have hq : ¬ (nan64 b || infB b || decide (1074 ≤ placeB b)) = true := by rw [hn, hi, decide_eq_false (by omega)]; simp
  have hq2 : ¬ (infB b || decide (1074 ≤ placeB b)) = true := by rw [hi, decide_eq_false (by omega)]; simp
  rw [if_neg hq, if_neg hq2, if_neg (by rw [hn]; simp), h, Nat.zero_div, Nat.zero_mod, hr, hr]
  exact ⟨hw, rfl⟩

theorem subself_nan {b : Nat} (hb : b < 2 ^ 64) (h : nan64 b = true ∨ infB b = true) : arD .sub b b = none := by
  by_cases hn : nan64 b = true
  · exact arD_nan .sub b b (.inl hn)
  · have hn' : nan64 b = false := by simpa using hn
    have hi : infB b = true := by rcases h with h | h; exact absurd h hn; exact h
    show ((Ieee.double.read b).sum (Ieee.double.read b).opposite).map Ieee.double.write = _
    rw [read64 b hb, hn', hi]
    simp only [Bool.false_eq_true, if_false, if_true, Datum.opposite]
    unfold Datum.sum
    cases negB b <;> rfl

theorem subself_fin {b : Nat} (hf : finB b) : arD .sub b b = some 0 := by
  rw [sub_fin hf hf, Int.sub_self]
  rw [if_pos rfl]
  cases negB b <;> rfl

theorem arU_none {op : BinOp} {x y : Nat} (h : arD op x y = none) (w : World) : nan64 (arU op w x y) = true := by
  unfold arU; rw [h]; exact cut_nan _ _ _

theorem fne_nan {x y : Nat} (h : nan64 x = true) : fne .f64 x y = true := by rw [fne64, feq64, h]; rfl

theorem lgB_eq {b : Nat} : lgB b = ((mantB b).log2 : Int) + (-1074 + (placeB b : Nat)) := by unfold lgB; omega
end Go.Pst
