/- Plain facts: edits, applied, are the two names; their costs, added in order, are the distance. No condition. -/
import Derived.Test.YtkhdemaanakbeaaEh
import Derived.Test.YtkhdemaanakbeaaEj
namespace Go.Proofs.Ytkhdemaanakbeaa
open Go.RowKit Go.Pst
set_option linter.unusedSimpArgs false
set_option linter.unusedVariables false
/-- A name's first code points. -/
def preL (f : Nat → Int) (n : Nat) : List Int := (List.range n).map f
theorem preL_succ (f : Nat → Int) (n : Nat) : preL f (n + 1) = preL f n ++ [f n] := by unfold preL; rw [List.range_succ, List.map_append]; rfl
theorem preL_one {f : Nat → Int} {i : Nat} (h : 0 < i) : preL f i = preL f (i - 1) ++ [f (i - 1)] := by
  have := preL_succ f (i - 1)
  rwa [show i - 1 + 1 = i by omega] at this
theorem preL_two {f : Nat → Int} {i : Nat} (h : 1 < i) : preL f i = preL f (i - 2) ++ [f (i - 2), f (i - 1)] := by
  rw [preL_one (by omega : 0 < i), preL_one (by omega : 0 < i - 1), show i - 1 - 1 = i - 2 by omega, List.append_assoc]; rfl
theorem preL_len (f : Nat → Int) (n : Nat) : (preL f n).length = n := by unfold preL; simp
theorem preL_get (f : Nat → Int) {n i : Nat} (h : i < n) : (preL f n).getD i 0 = f i := by
  unfold preL; rw [List.getD_eq_getElem?_getD, List.getElem?_map, List.getElem?_range h]; rfl
section
variable {T : Nat → Nat → Nat} {cO cX cT : Nat} {p : Nat → Int × Int × Nat} {np : Nat} {fa fb : Nat → Int}
/-- One step, applied. -/
theorem step_names {i j : Nat} (h : 0 < i ∨ 0 < j) :
    preL fa i = preL fa (prK (bkK T cO cX cT p np fa fb i j) i j).1 ++ stA (edK fa fb (bkK T cO cX cT p np fa fb i j) i j) ∧
    preL fb j = preL fb (prK (bkK T cO cX cT p np fa fb i j) i j).2 ++ stB (edK fa fb (bkK T cO cX cT p np fa fb i j) i j) := by
  rcases bk_in (T := T) (cO := cO) (cX := cX) (cT := cT) (p := p) (np := np) (fa := fa) (fb := fb) h with ⟨e, h1, h2, h3, h4⟩ | ⟨e, h1, h2, h3, h4⟩ | ⟨e, h1, h2, h3, h4, h5⟩ | ⟨e, h1, h2, h3, h4⟩ | ⟨e, h1, h2, h3, h4⟩ <;> rw [e]
  · exact ⟨preL_one h1, preL_one h2⟩
  · exact ⟨preL_one h1, preL_one h2⟩
  · unfold tnB at h3
    simp only [Bool.and_eq_true, decide_eq_true_eq, beq_iff_eq] at h3
    refine ⟨preL_two h1, ?_⟩
    show preL fb j = preL fb (j - 2) ++ [fa (i - 1), fa (i - 2)]
    rw [preL_two h2, h3.1.2, h3.2]
  · exact ⟨preL_one h1, (List.append_nil _).symm⟩
  · exact ⟨(List.append_nil _).symm, preL_one h1⟩
variable {n m K : Nat}
theorem way_names (hK : EndK (poK T cO cX cT p np fa fb n m) K) : ∀ t, t ≤ K →
    apA (fun t => seK T cO cX cT p np fa fb n m (K - 1 - t)) t = preL fa (poK T cO cX cT p np fa fb n m (K - t)).1 ∧
    apB (fun t => seK T cO cX cT p np fa fb n m (K - 1 - t)) t = preL fb (poK T cO cX cT p np fa fb n m (K - t)).2
  | 0, _ => by rw [Nat.sub_zero, hK.1]; exact ⟨rfl, rfl⟩
  | t + 1, h => by
    obtain ⟨h1, h2⟩ := way_names hK t (by omega)
    have hs := step_names (T := T) (cO := cO) (cX := cX) (cT := cT) (p := p) (np := np) (fa := fa) (fb := fb) (hK.2 (K - (t + 1)) (by omega))
    have e1 : poK T cO cX cT p np fa fb n m (K - t) = prK (bkK T cO cX cT p np fa fb (poK T cO cX cT p np fa fb n m (K - (t + 1))).1 (poK T cO cX cT p np fa fb n m (K - (t + 1))).2) (poK T cO cX cT p np fa fb n m (K - (t + 1))).1 (poK T cO cX cT p np fa fb n m (K - (t + 1))).2 := by
      rw [show K - t = (K - (t + 1)) + 1 by omega]; rfl
    have e2 : seK T cO cX cT p np fa fb n m (K - 1 - t) = edK fa fb (bkK T cO cX cT p np fa fb (poK T cO cX cT p np fa fb n m (K - (t + 1))).1 (poK T cO cX cT p np fa fb n m (K - (t + 1))).2) (poK T cO cX cT p np fa fb n m (K - (t + 1))).1 (poK T cO cX cT p np fa fb n m (K - (t + 1))).2 := by
      rw [show K - 1 - t = K - (t + 1) by omega]; rfl
    constructor
    · show apA _ t ++ stA (seK T cO cX cT p np fa fb n m (K - 1 - t)) = _
      rw [h1, e1, e2, ← hs.1]
    · show apB _ t ++ stB (seK T cO cX cT p np fa fb n m (K - 1 - t)) = _
      rw [h2, e1, e2, ← hs.2]
theorem way_all (hK : EndK (poK T cO cX cT p np fa fb n m) K) :
    apA (fun t => seK T cO cX cT p np fa fb n m (K - 1 - t)) K = preL fa n ∧ apB (fun t => seK T cO cX cT p np fa fb n m (K - 1 - t)) K = preL fb m := by
  have h := way_names hK K (Nat.le_refl _)
  rw [Nat.sub_self] at h
  exact h
/-! ### The costs -/
theorem minF_or (x y : Nat) : minF x y = x ∨ minF x y = y := by unfold minF; (repeat' split) <;> simp
variable {cI : Nat}
/-- What an edit costs. -/
def coE (cI cO cX cT : Nat) (p : Nat → Int × Int × Nat) (np : Nat) (x : Int × Int × Int) : Nat :=
  if x.1 = 1 then 0 else if x.1 = 2 then putV p cX x.2.1 x.2.2 np else if x.1 = 3 then cO else if x.1 = 4 then cI else cT
theorem step_cost (hT : TabIs T cI cO cT (fun i j => othV p np cX (fa i) (fb j)) fa fb) {i j : Nat} (h : 0 < i ∨ 0 < j) :
    addN (T (prK (bkK T cO cX cT p np fa fb i j) i j).1 (prK (bkK T cO cX cT p np fa fb i j) i j).2) (coE cI cO cX cT p np (edK fa fb (bkK T cO cX cT p np fa fb i j) i j)) = T i j := by
  rcases bk_in (T := T) (cO := cO) (cX := cX) (cT := cT) (p := p) (np := np) (fa := fa) (fb := fb) h with ⟨e, h1, h2, h3, h4⟩ | ⟨e, h1, h2, h3, h4⟩ | ⟨e, h1, h2, h3, h4, h5⟩ | ⟨e, h1, h2, h3, h4⟩ | ⟨e, h1, h2, h3, h4⟩ <;> rw [e]
  · unfold bkA at h4
    simp only [Bool.and_eq_true, beq_iff_eq] at h4
    rw [← h4.2]
    unfold othV
    rw [if_pos h3]; rfl
  · unfold bkA at h4
    simp only [Bool.and_eq_true, beq_iff_eq] at h4
    rw [← h4.2]
    unfold othV
    rw [if_neg h3]; rfl
  · unfold bkT at h5
    simp only [Bool.and_eq_true, beq_iff_eq] at h5
    exact h5.2
  · unfold bkO at h4
    simp only [Bool.or_eq_true, Bool.and_eq_true, beq_iff_eq, decide_eq_true_eq] at h4
    rcases h4 with h4 | h4
    · have := hT.o (i - 1)
      rw [show i - 1 + 1 = i by omega] at this
      rw [h4]; exact this.symm
    · exact h4.2
  · show addN (T i (j - 1)) cI = T i j
    by_cases hi : i = 0
    · have := hT.i (j - 1)
      rw [show j - 1 + 1 = j by omega] at this
      rw [hi]; exact this.symm
    · have hO : addN (T (i - 1) j) cO ≠ T i j := fun e => by
        unfold bkO at h4
        rw [e, decide_eq_true (by omega : 0 < i)] at h4
        simp at h4
      have hA : addN (T (i - 1) (j - 1)) (othV p np cX (fa (i - 1)) (fb (j - 1))) ≠ T i j := fun e => by
        unfold bkA at h2
        rw [e, decide_eq_true (by omega : 0 < i), decide_eq_true h1] at h2
        simp at h2
      cases htn : tnB fa fb i j
      · have hs := hT.s (i - 1) (j - 1)
        rw [show i - 1 + 1 = i by omega, show j - 1 + 1 = j by omega] at hs
        have hs := hs htn
        rcases minF_or (minF (addN (T (i - 1) j) cO) (addN (T i (j - 1)) cI)) (addN (T (i - 1) (j - 1)) (othV p np cX (fa (i - 1)) (fb (j - 1)))) with e1 | e1
        · rcases minF_or (addN (T (i - 1) j) cO) (addN (T i (j - 1)) cI) with e2 | e2
          · rw [e1, e2] at hs; exact absurd hs.symm hO
          · rw [e1, e2] at hs; exact hs.symm
        · rw [e1] at hs; exact absurd hs.symm hA
      · have hTn : addN (T (i - 2) (j - 2)) cT ≠ T i j := fun e => by
          unfold bkT at h3
          rw [e, htn] at h3
          simp at h3
        have h2' : 1 < i ∧ 1 < j := by have h := htn; unfold tnB at h; simp only [Bool.and_eq_true, decide_eq_true_eq] at h; omega
        have hs := hT.t (i - 2) (j - 2)
        rw [show i - 2 + 2 = i by omega, show j - 2 + 2 = j by omega, show i - 2 + 1 = i - 1 by omega, show j - 2 + 1 = j - 1 by omega] at hs
        have hs := hs htn
        rcases minF_or (minF (minF (addN (T (i - 1) j) cO) (addN (T i (j - 1)) cI)) (addN (T (i - 1) (j - 1)) (othV p np cX (fa (i - 1)) (fb (j - 1))))) (addN (T (i - 2) (j - 2)) cT) with e0 | e0
        · rcases minF_or (minF (addN (T (i - 1) j) cO) (addN (T i (j - 1)) cI)) (addN (T (i - 1) (j - 1)) (othV p np cX (fa (i - 1)) (fb (j - 1)))) with e1 | e1
          · rcases minF_or (addN (T (i - 1) j) cO) (addN (T i (j - 1)) cI) with e2 | e2
            · rw [e0, e1, e2] at hs; exact absurd hs.symm hO
            · rw [e0, e1, e2] at hs; exact hs.symm
          · rw [e0, e1] at hs; exact absurd hs.symm hA
        · rw [e0] at hs; exact absurd hs.symm hTn
/-- The table's number where the way stands with t edits done. -/
def atT (T : Nat → Nat → Nat) (P : Nat → Nat × Nat) (K t : Nat) : Nat := T (P (K - t)).1 (P (K - t)).2
theorem way_cost (hT : TabIs T cI cO cT (fun i j => othV p np cX (fa i) (fb j)) fa fb) (hK : EndK (poK T cO cX cT p np fa fb n m) K) {t : Nat} (ht : t < K) :
    addN (atT T (poK T cO cX cT p np fa fb n m) K t) (coE cI cO cX cT p np (seK T cO cX cT p np fa fb n m (K - 1 - t))) = atT T (poK T cO cX cT p np fa fb n m) K (t + 1) := by
  have hs := step_cost hT (hK.2 (K - (t + 1)) (by omega))
  have e1 : poK T cO cX cT p np fa fb n m (K - t) = prK (bkK T cO cX cT p np fa fb (poK T cO cX cT p np fa fb n m (K - (t + 1))).1 (poK T cO cX cT p np fa fb n m (K - (t + 1))).2) (poK T cO cX cT p np fa fb n m (K - (t + 1))).1 (poK T cO cX cT p np fa fb n m (K - (t + 1))).2 := by
    rw [show K - t = (K - (t + 1)) + 1 by omega]; rfl
  have e2 : seK T cO cX cT p np fa fb n m (K - 1 - t) = edK fa fb (bkK T cO cX cT p np fa fb (poK T cO cX cT p np fa fb n m (K - (t + 1))).1 (poK T cO cX cT p np fa fb n m (K - (t + 1))).2) (poK T cO cX cT p np fa fb n m (K - (t + 1))).1 (poK T cO cX cT p np fa fb n m (K - (t + 1))).2 := by
    rw [show K - 1 - t = K - (t + 1) by omega]; rfl
  unfold atT
  rw [e1, e2]; exact hs
theorem way_start (hT : TabIs T cI cO cT (fun i j => othV p np cX (fa i) (fb j)) fa fb) (hK : EndK (poK T cO cX cT p np fa fb n m) K) : atT T (poK T cO cX cT p np fa fb n m) K 0 = 0 := by
  unfold atT; rw [Nat.sub_zero, hK.1]; exact hT.z
theorem way_end : atT T (poK T cO cX cT p np fa fb n m) K K = T n m := by unfold atT; rw [Nat.sub_self]; rfl
/-- Each edit is of a kind, and one that says that nothing changes names one code point twice. -/
theorem way_kind (hK : EndK (poK T cO cX cT p np fa fb n m) K) {t : Nat} (ht : t < K) :
    ((seK T cO cX cT p np fa fb n m (K - 1 - t)).1 = 1 ∧ (seK T cO cX cT p np fa fb n m (K - 1 - t)).2.1 = (seK T cO cX cT p np fa fb n m (K - 1 - t)).2.2) ∨ (seK T cO cX cT p np fa fb n m (K - 1 - t)).1 = 2 ∨ (seK T cO cX cT p np fa fb n m (K - 1 - t)).1 = 3 ∨ (seK T cO cX cT p np fa fb n m (K - 1 - t)).1 = 4 ∨ (seK T cO cX cT p np fa fb n m (K - 1 - t)).1 = 5 := by
  have e2 : seK T cO cX cT p np fa fb n m (K - 1 - t) = edK fa fb (bkK T cO cX cT p np fa fb (poK T cO cX cT p np fa fb n m (K - (t + 1))).1 (poK T cO cX cT p np fa fb n m (K - (t + 1))).2) (poK T cO cX cT p np fa fb n m (K - (t + 1))).1 (poK T cO cX cT p np fa fb n m (K - (t + 1))).2 := by
    rw [show K - 1 - t = K - (t + 1) by omega]; rfl
  rw [e2]
  rcases bk_in (T := T) (cO := cO) (cX := cX) (cT := cT) (p := p) (np := np) (fa := fa) (fb := fb) (hK.2 (K - (t + 1)) (by omega)) with ⟨e, h1, h2, h3, h4⟩ | ⟨e, h1, h2, h3, h4⟩ | ⟨e, h1, h2, h3, h4, h5⟩ | ⟨e, h1, h2, h3, h4⟩ | ⟨e, h1, h2, h3, h4⟩ <;> rw [e]
  · exact .inl ⟨rfl, h3⟩
  · exact .inr (.inl rfl)
  · exact .inr (.inr (.inr (.inr rfl)))
  · exact .inr (.inr (.inl rfl))
  · exact .inr (.inr (.inr (.inl rfl)))
end
end Go.Proofs.Ytkhdemaanakbeaa
