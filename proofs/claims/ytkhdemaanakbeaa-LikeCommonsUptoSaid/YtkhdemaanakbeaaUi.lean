/- Plain facts: with costs from 0 on no number of the table is below 0, and a name's distance from itself is 0. No program is spoken of. -/
import Derived.Test.YtkhdemaanakbeaaUp
namespace Go.Proofs.Ytkhdemaanakbeaa
open Go.Pst Go Ieee
set_option linter.unusedVariables false
set_option linter.unusedSimpArgs false

/-- A cost from 0 on. -/
def g64 (c : Nat) : Bool := fgt .f64 c 0 || feq .f64 c 0
def g32 (c : Nat) : Bool := fgt .f32 c 0 || feq .f32 c 0

/-- From 0 on, the sign bit of 0 left open. -/
def Cst (c : Nat) : Prop := c ≤ 9218868437227405312 ∨ c = 9223372036854775808

theorem cst_of {c : Nat} (hc : c < 2 ^ 64) (h : g64 c = true) : Cst c := by
  unfold g64 at h
  rw [fgt64, feq64] at h
  have k0 : key64 0 = 0 := rfl
  have n0 : nan64 0 = false := rfl
  rw [k0, n0] at h
  cases hn : nan64 c
  · rw [hn] at h
    unfold nan64 at hn
    simp only [decide_eq_false_iff_not] at hn
    simp only [Bool.false_or, Bool.or_false, Bool.not_false, Bool.true_and, Bool.or_eq_true, decide_eq_true_eq, beq_iff_eq] at h
    unfold key64 at h
    unfold Cst
    by_cases hs : c / 9223372036854775808 % 2 = 1
    · rw [if_pos hs] at h; omega
    · rw [if_neg hs] at h; omega
  · rw [hn] at h; simp at h

theorem rz_le (n : Nat) : rz n ≤ 9218868437227405312 := rnd_lt n _

theorem cst_num {c : Nat} (h : Cst c) : (finB c ∧ 0 ≤ valZ c) ∨ c = 9218868437227405312 := by
  rcases h with h | h
  · by_cases hi : c = 9218868437227405312
    · exact .inr hi
    · left
      have hm : c % 9223372036854775808 = c := Nat.mod_eq_of_lt (by omega)
      refine ⟨⟨by omega, by unfold nan64; rw [hm]; exact decide_eq_false (by omega), by unfold infB; rw [hm]; exact decide_eq_false hi⟩, ?_⟩
      unfold valZ negB; rw [decide_eq_false (by omega)]; simp
  · left; subst h
    refine ⟨⟨by decide, by decide, by decide⟩, by decide⟩

theorem addN_P {x c : Nat} (hx : x ≤ 9218868437227405312) (hc : Cst c) : addN x c ≤ 9218868437227405312 := by
  have hnx : negB x = false := by unfold negB; exact decide_eq_false (by omega)
  rcases cst_num (.inl hx) with ⟨f1, v1⟩ | rfl
  · rcases cst_num hc with ⟨f2, v2⟩ | rfl
    · unfold addN
      rw [add_fin f1 f2]
      unfold arN
      have hs : (if valZ x + valZ c = 0 then negB x && negB c else decide (valZ x + valZ c < 0)) = false := by
        split
        · rw [hnx]; rfl
        · exact decide_eq_false (by omega)
      rw [hs]
      unfold wrd
      simp only [Bool.false_eq_true, if_false]
      exact rz_le _
    · unfold addN Format.add
      rw [read_fin f1]
      have e : Ieee.double.read 9218868437227405312 = .infinity false := by decide +kernel
      rw [e]
      have : ((Datum.number (negB x) (mantB x) (-1074 + (placeB x : Nat))).sum (.infinity false)).map Ieee.double.write = some 9218868437227405312 := by
        show some (Ieee.double.write (.infinity false)) = _
        decide +kernel
      rw [this]; exact Nat.le_refl _
  · rcases cst_num hc with ⟨f2, v2⟩ | rfl
    · unfold addN Format.add
      rw [read_fin f2]
      have e : Ieee.double.read 9218868437227405312 = .infinity false := by decide +kernel
      rw [e]
      have : ((Datum.infinity false).sum (.number (negB c) (mantB c) (-1074 + (placeB c : Nat)))).map Ieee.double.write = some 9218868437227405312 := by
        show some (Ieee.double.write (.infinity false)) = _
        decide +kernel
      rw [this]; exact Nat.le_refl _
    · have : addN 9218868437227405312 9218868437227405312 = 9218868437227405312 := by decide +kernel
      rw [this]; exact Nat.le_refl _

theorem minF_P {x y : Nat} (hx : x ≤ 9218868437227405312) (hy : y ≤ 9218868437227405312) : minF x y = min x y := by
  have n1 : nan64 x = false := by unfold nan64; rw [Nat.mod_eq_of_lt (by omega)]; exact decide_eq_false (by omega)
  have n2 : nan64 y = false := by unfold nan64; rw [Nat.mod_eq_of_lt (by omega)]; exact decide_eq_false (by omega)
  unfold minF ordK
  rw [n1, n2, if_pos (show x < 9223372036854775808 by omega), if_pos (show y < 9223372036854775808 by omega)]
  simp only [Bool.false_eq_true, if_false]
  by_cases h : x ≤ y
  · rw [if_pos (by omega), Nat.min_eq_left h]
  · rw [if_neg (by omega), Nat.min_eq_right (by omega)]

theorem wid_cst {c : Nat} (h : g32 c = true) : Cst (widV c) := by
  unfold g32 at h
  have hk : nan32 c = false ∧ 0 ≤ key32 c := by
    have k0 : key32 0 = 0 := rfl
    have n0 : nan32 0 = false := rfl
    have ho := order32 c 0
    rw [k0, n0, Bool.or_false] at ho
    unfold fgt feq at h
    rw [ho] at h
    cases hn : nan32 c
    · rw [hn] at h
      simp only [Bool.false_eq_true, if_false] at h
      refine ⟨rfl, ?_⟩
      rcases Int.lt_or_le (key32 c) 0 with h1 | h1
      · have : compare (key32 c) 0 = Ordering.lt := by rw [cmp_def, if_pos h1]
        rw [this] at h; simp at h
      · exact h1
    · rw [hn] at h; simp at h
  unfold nan32 key32 at hk
  obtain ⟨hn, hk⟩ := hk
  simp only [decide_eq_false_iff_not] at hn
  have hl : Ieee.single.leastPlace = -149 := by decide
  have hb : Ieee.single.binade = 8388608 := by decide
  have hi : Ieee.single.infRung = 2139095040 := by decide
  have hs : Ieee.single.signWeight = 2147483648 := by decide
  have key : ∀ d, FloatKind.f32.decode c = d → ((∃ t m p, d = .number t m p ∧ (t = true → m = 0)) ∨ d = .infinity false) → Cst (widV c) := by
    intro d hd hh
    rcases hh with ⟨t, m, p, rfl, ht⟩ | rfl
    · have hw : widV c = Ieee.double.write (.number t m p) := by
        unfold widV widD floatToFloatBits
        rw [if_neg (by decide), hd]
        simp only
        have := (wid_fin c hd).1
        have h2 : (FloatKind.f64.decode (FloatKind.f64.encode (Datum.number t m p))).isInfinity = false := this
        rw [h2]; rfl
      rw [hw, write64]
      cases t
      · left; unfold wrd; simp only [Bool.false_eq_true, if_false]; exact rnd_lt _ _
      · right; rw [ht rfl]; unfold rndN wrd; simp
    · have hw : widV c = 9218868437227405312 := by
        unfold widV widD floatToFloatBits
        rw [if_neg (by decide), hd]
        decide +kernel
      rw [hw]; exact .inl (Nat.le_refl _)
  refine key _ rfl ?_
  show (∃ t m p, Ieee.single.read c = .number t m p ∧ (t = true → m = 0)) ∨ Ieee.single.read c = .infinity false
  unfold Format.read
  simp only [hl, hb, hi, hs]
  by_cases h1 : c % 2147483648 < 8388608
  · left; rw [if_pos h1]
    refine ⟨_, _, _, rfl, fun hneg => ?_⟩
    have : c / 2147483648 % 2 = 1 := by simpa using hneg
    rw [if_pos this] at hk; omega
  · rw [if_neg h1]
    have hneg : ¬ c / 2147483648 % 2 = 1 := by intro h; rw [if_pos h] at hk; omega
    by_cases h2 : c % 2147483648 < 2139095040
    · left; rw [if_pos h2]
      exact ⟨_, _, _, rfl, fun h => absurd (by simpa using h) hneg⟩
    · rw [if_neg h2, if_pos (by omega)]
      right
      have : (c / 2147483648 % 2 == 1) = false := by simpa using hneg
      rw [this]

theorem oth_cst {p : Nat → Int × Int × Nat} {cX : Nat} (hX : Cst cX) (a b : Int) : ∀ n, (∀ i, i < n → g32 (p i).2.2 = true) → Cst (othV p n cX a b) := by
  intro n hn
  unfold othV
  split
  · exact .inl (by omega)
  · rename_i hab
    clear hab
    induction n with
    | zero => exact hX
    | succ n ih =>
      rw [putV]
      split
      · exact wid_cst (hn n (by omega))
      · exact ih fun i hi => hn i (by omega)

theorem tab_itself {T : Nat → Nat → Nat} {cI cO cX cT n : Nat} {p : Nat → Int × Int × Nat} {fa : Nat → Int} (hT : TabIs T cI cO cT (fun i j => othV p n cX (fa i) (fa j)) fa fa)
    (hI : Cst cI) (hO : Cst cO) (hX : Cst cX) (hC : Cst cT) (hp : ∀ i, i < n → g32 (p i).2.2 = true) :
    ∀ s i j, i + j = s → T i j ≤ 9218868437227405312 ∧ (i = j → T i j = 0) := by
  have ho := fun a b => oth_cst (p := p) hX a b n hp
  intro s
  induction s using Nat.strongRecOn with
  | ind s ih =>
    intro i j hs
    cases i with
    | zero =>
      cases j with
      | zero => rw [hT.z]; exact ⟨by omega, fun _ => rfl⟩
      | succ j => rw [hT.i]; exact ⟨addN_P (ih (0 + j) (by omega) 0 j rfl).1 hI, fun h => by omega⟩
    | succ i =>
      cases j with
      | zero => rw [hT.o]; exact ⟨addN_P (ih (i + 0) (by omega) i 0 rfl).1 hO, fun h => by omega⟩
      | succ j =>
        have p1 := addN_P (ih (i + (j + 1)) (by omega) i (j + 1) rfl).1 hO
        have p2 := addN_P (ih (i + 1 + j) (by omega) (i + 1) j rfl).1 hI
        have h3 := ih (i + j) (by omega) i j rfl
        have p3 := addN_P h3.1 (ho (fa i) (fa j))
        have z3 : i + 1 = j + 1 → addN (T i j) (othV p n cX (fa i) (fa j)) = 0 := fun h => by
          obtain rfl : i = j := by omega
          rw [h3.2 rfl]; unfold othV; rw [if_pos rfl]; decide +kernel
        have pm : minF (minF (addN (T i (j + 1)) cO) (addN (T (i + 1) j) cI)) (addN (T i j) (othV p n cX (fa i) (fa j))) ≤ 9218868437227405312 ∧
            (i + 1 = j + 1 → minF (minF (addN (T i (j + 1)) cO) (addN (T (i + 1) j) cI)) (addN (T i j) (othV p n cX (fa i) (fa j))) = 0) := by
          rw [minF_P p1 p2, minF_P (by omega) p3]
          exact ⟨by omega, fun h => by rw [z3 h]; omega⟩
        cases ht : tnB fa fa (i + 1) (j + 1)
        · rw [hT.s i j ht]; exact pm
        · have hij : 1 < i + 1 ∧ 1 < j + 1 := by unfold tnB at ht; simp at ht; omega
          obtain ⟨i2, rfl⟩ : ∃ i2, i = i2 + 1 := ⟨i - 1, by omega⟩
          obtain ⟨j2, rfl⟩ : ∃ j2, j = j2 + 1 := ⟨j - 1, by omega⟩
          have p4 := addN_P (ih (i2 + j2) (by omega) i2 j2 rfl).1 hC
          rw [hT.t i2 j2 ht, minF_P pm.1 p4]
          exact ⟨by have := pm.1; omega, fun h => by rw [pm.2 h]; omega⟩

end Go.Proofs.Ytkhdemaanakbeaa
