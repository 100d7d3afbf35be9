/- Plain facts: pieces that two names have in common. No condition. -/
import Derived.Test.YtkhdemaanakbeaaJa
namespace Go.Proofs.Ytkhdemaanakbeaa
open Go.RowKit Go.Pst
set_option linter.unusedSimpArgs false
set_option linter.unusedVariables false
section
variable {α : Type} [DecidableEq α]
/-- How often v is among the first so many. -/
def cntK (k : Nat → α) : Nat → α → Nat
  | 0, _ => 0
  | i + 1, v => cntK k i v + (if k i = v then 1 else 0)
theorem cntK_hit {k : Nat → α} {i : Nat} {v : α} (h : k i = v) : cntK k (i + 1) v = cntK k i v + 1 := by
  show cntK k i v + (if k i = v then 1 else 0) = _
  rw [if_pos h]
theorem cntK_miss {k : Nat → α} {i : Nat} {v : α} (h : k i ≠ v) : cntK k (i + 1) v = cntK k i v := by
  show cntK k i v + (if k i = v then 1 else 0) = _
  rw [if_neg h]; rfl
theorem cntK_le (k : Nat → α) (v : α) : ∀ i, cntK k i v ≤ i
  | 0 => Nat.le_refl _
  | i + 1 => by have := cntK_le k v i; unfold cntK; split <;> omega
theorem cntK_pos {k : Nat → α} {v : α} : ∀ {i j : Nat}, j < i → k j = v → 0 < cntK k i v
  | 0, j, h, _ => by omega
  | i + 1, j, h, hj => by
    by_cases e : j = i
    · subst e; rw [cntK_hit hj]; omega
    · have := cntK_pos (i := i) (by omega) hj
      unfold cntK; omega
/-- How many of the first so many pieces with a key that is left find their like. -/
def gL (kA : Nat → α) (cB : α → Nat) (left : α → Bool) : Nat → Nat
  | 0 => 0
  | i + 1 => gL kA cB left i + (if left (kA i) = true ∧ cntK kA i (kA i) < cB (kA i) then 1 else 0)
theorem gL_none {kA : Nat → α} {cB : α → Nat} {left : α → Bool} (h : ∀ v, left v = false) : ∀ M, gL kA cB left M = 0
  | 0 => rfl
  | i + 1 => by
    show gL kA cB left i + _ = 0
    rw [gL_none h i, if_neg (by rw [h]; simp)]
theorem gL_congr {kA : Nat → α} {cB : α → Nat} {left left' : α → Bool} : ∀ M, (∀ i, i < M → left (kA i) = left' (kA i)) → gL kA cB left M = gL kA cB left' M
  | 0, _ => rfl
  | i + 1, h => by
    unfold gL
    rw [gL_congr i fun j hj => h j (by omega), h i (by omega)]
theorem gL_step {kA : Nat → α} {cB : α → Nat} {left left' : α → Bool} {v : α} (hv : left v = true) (hv' : left' v = false) (ho : ∀ u, u ≠ v → left' u = left u) :
    ∀ M, gL kA cB left M = gL kA cB left' M + min (cntK kA M v) (cB v)
  | 0 => by show 0 = 0 + min 0 _; omega
  | i + 1 => by
    have ih := gL_step (kA := kA) (cB := cB) hv hv' ho i
    show gL kA cB left i + _ = gL kA cB left' i + _ + _
    by_cases e : kA i = v
    · rw [e, hv, hv', cntK_hit e, ih]
      simp only [true_and, Bool.false_eq_true, false_and, if_false]
      split <;> omega
    · rw [ho _ e, cntK_miss e, ih]
      omega
def dP (kA kB : Nat → α) (tk : Nat → Bool) (i j : Nat) : Bool := !tk j && decide (kA i = kB j)
/-- Which are taken, after so many. -/
def dT (kA kB : Nat → α) (N : Nat) : Nat → Nat → Bool
  | 0 => fun _ => false
  | i + 1 => match first (dP kA kB (dT kA kB N i) i) N with
    | some j => fun q => q == j || dT kA kB N i q
    | none => dT kA kB N i
def dC (kA kB : Nat → α) (N : Nat) : Nat → Nat
  | 0 => 0
  | i + 1 => match first (dP kA kB (dT kA kB N i) i) N with
    | some _ => dC kA kB N i + 1
    | none => dC kA kB N i
variable {kA kB : Nat → α} {N i j : Nat}
theorem dT_some (h : first (dP kA kB (dT kA kB N i) i) N = some j) : dT kA kB N (i + 1) = fun q => q == j || dT kA kB N i q := by
  have e : dT kA kB N (i + 1) = (match first (dP kA kB (dT kA kB N i) i) N with | some j => fun q => q == j || dT kA kB N i q | none => dT kA kB N i) := rfl
  rw [e, h]
theorem dT_none (h : first (dP kA kB (dT kA kB N i) i) N = none) : dT kA kB N (i + 1) = dT kA kB N i := by
  have e : dT kA kB N (i + 1) = (match first (dP kA kB (dT kA kB N i) i) N with | some j => fun q => q == j || dT kA kB N i q | none => dT kA kB N i) := rfl
  rw [e, h]
theorem dC_some (h : first (dP kA kB (dT kA kB N i) i) N = some j) : dC kA kB N (i + 1) = dC kA kB N i + 1 := by
  have e : dC kA kB N (i + 1) = (match first (dP kA kB (dT kA kB N i) i) N with | some _ => dC kA kB N i + 1 | none => dC kA kB N i) := rfl
  rw [e, h]
theorem dC_none (h : first (dP kA kB (dT kA kB N i) i) N = none) : dC kA kB N (i + 1) = dC kA kB N i := by
  have e : dC kA kB N (i + 1) = (match first (dP kA kB (dT kA kB N i) i) N with | some _ => dC kA kB N i + 1 | none => dC kA kB N i) := rfl
  rw [e, h]
theorem dC_le : ∀ i, dC kA kB N i ≤ i
  | 0 => Nat.le_refl _
  | i + 1 => by
    have := dC_le i
    cases hf : first (dP kA kB (dT kA kB N i) i) N with
    | none => rw [dC_none hf]; omega
    | some j => rw [dC_some hf]; omega
/-- How many of the first so many places with the key v are taken. -/
def tkC (kB : Nat → α) (tk : Nat → Bool) (v : α) : Nat → Nat
  | 0 => 0
  | j + 1 => tkC kB tk v j + (if tk j = true ∧ kB j = v then 1 else 0)
theorem tkC_congr {tk tk' : Nat → Bool} (v : α) : ∀ k, (∀ j, j < k → kB j = v → tk j = tk' j) → tkC kB tk v k = tkC kB tk' v k
  | 0, _ => rfl
  | k + 1, h => by
    unfold tkC
    rw [tkC_congr v k fun j hj e => h j (by omega) e]
    by_cases e : kB k = v
    · rw [h k (by omega) e]
    · rw [if_neg (fun x => e x.2), if_neg (fun x => e x.2)]
theorem tkC_le (tk : Nat → Bool) (v : α) : ∀ k, tkC kB tk v k ≤ cntK kB k v
  | 0 => Nat.le_refl _
  | k + 1 => by
    have := tkC_le tk v k
    unfold tkC cntK
    by_cases e : kB k = v
    · rw [if_pos e]; split <;> omega
    · rw [if_neg e, if_neg (fun x => e x.2)]; omega
theorem tkC_put {tk : Nat → Bool} {v : α} (hj : tk j = false) (hv : kB j = v) : ∀ {k}, j < k → tkC kB (fun q => q == j || tk q) v k = tkC kB tk v k + 1
  | 0, h => by omega
  | k + 1, h => by
    unfold tkC
    by_cases e : j = k
    · subst e
      have hc : ∀ i, i < j → kB i = v → (fun q => q == j || tk q) i = tk i := fun i hi _ => by
        have : (i == j) = false := by simp; omega
        simp only [this, Bool.false_or]
      rw [tkC_congr (tk := fun q => q == j || tk q) (tk' := tk) v j hc, hj]
      simp [hv]
    · have h1 : (k == j) = false := by simp; omega
      have ih := tkC_put hj hv (k := k) (by omega)
      simp only [h1, Bool.false_or]
      rw [ih]; omega
theorem tkC_full {tk : Nat → Bool} {v : α} : ∀ {k}, (∀ j, j < k → kB j = v → tk j = true) → tkC kB tk v k = cntK kB k v
  | 0, _ => rfl
  | k + 1, h => by
    unfold tkC cntK
    rw [tkC_full fun j hj e => h j (by omega) e]
    by_cases e : kB k = v
    · rw [if_pos e, if_pos ⟨h k (by omega) e, e⟩]
    · rw [if_neg e, if_neg (fun x => e x.2)]
theorem tkC_part {tk : Nat → Bool} {v : α} (hj : tk j = false) (hv : kB j = v) {k : Nat} (hk : j < k) : tkC kB tk v k < cntK kB k v := by
  have h1 := tkC_put (kB := kB) hj hv hk
  have h2 := tkC_le (kB := kB) (fun q => q == j || tk q) v k
  omega
theorem tkC_none (v : α) : ∀ k, tkC kB (fun _ => false) v k = 0
  | 0 => rfl
  | k + 1 => by unfold tkC; rw [tkC_none v k]; simp
theorem first_none_spec {P : Nat → Bool} : ∀ {k}, first P k = none → ∀ j, j < k → P j = false
  | 0, _, j, h => by omega
  | k + 1, h, j, hj => by
    unfold first at h
    cases hf : first P k with
    | some q => rw [hf] at h; cases h
    | none =>
      rw [hf] at h
      simp only at h
      by_cases e : j = k
      · subst e
        cases hp : P j
        · rfl
        · rw [hp] at h; simp at h
      · exact first_none_spec hf j (by omega)
/-- So many with the key v are taken. -/
theorem tkC_min (v : α) : ∀ i, tkC kB (dT kA kB N i) v N = min (cntK kA i v) (cntK kB N v)
  | 0 => by
    show tkC kB (fun _ => false) v N = min 0 _
    rw [tkC_none]; omega
  | i + 1 => by
    have ih := tkC_min v i
    cases hf : first (dP kA kB (dT kA kB N i) i) N with
    | none =>
      rw [dT_none hf, ih]
      by_cases e : kA i = v
      · rw [cntK_hit e]
        have hfull : tkC kB (dT kA kB N i) v N = cntK kB N v := tkC_full fun j hj hk => by
          have := first_none_spec hf j hj
          unfold dP at this
          rw [hk, e] at this
          simpa using this
        omega
      · rw [cntK_miss e]
    | some j =>
      obtain ⟨h1, h2⟩ := first_spec hf
      unfold dP at h2
      simp only [Bool.and_eq_true, Bool.not_eq_true', decide_eq_true_eq] at h2
      rw [dT_some hf]
      by_cases e : kA i = v
      · have hv : kB j = v := h2.2.symm.trans e
        rw [tkC_put h2.1 hv h1, ih, cntK_hit e]
        have := tkC_part (kB := kB) h2.1 hv h1
        omega
      · rw [cntK_miss e, ← ih]
        exact tkC_congr v N fun q hq hk => by
          have : (q == j) = false := by
            have : q ≠ j := fun x => e (by rw [x] at hk; rw [h2.2, hk])
            simpa using this
          simp only [this, Bool.false_or]
/-- The greedy count, by keys. -/
theorem dC_gL : ∀ i, dC kA kB N i = gL kA (cntK kB N) (fun _ => true) i
  | 0 => rfl
  | i + 1 => by
    have ih := dC_gL i
    have hm := tkC_min (kA := kA) (kB := kB) (N := N) (kA i) i
    show _ = gL kA (cntK kB N) (fun _ => true) i + _
    cases hf : first (dP kA kB (dT kA kB N i) i) N with
    | none =>
      rw [dC_none hf, ih]
      have hfull : tkC kB (dT kA kB N i) (kA i) N = cntK kB N (kA i) := tkC_full fun j hj hk => by
        have := first_none_spec hf j hj
        unfold dP at this
        rw [hk] at this
        simpa using this
      rw [if_neg (by intro x; omega)]; rfl
    | some j =>
      obtain ⟨h1, h2⟩ := first_spec hf
      unfold dP at h2
      simp only [Bool.and_eq_true, Bool.not_eq_true', decide_eq_true_eq] at h2
      have := tkC_part (kB := kB) h2.1 h2.2.symm h1
      rw [dC_some hf, ih, if_pos ⟨rfl, by omega⟩]
end
end Go.Proofs.Ytkhdemaanakbeaa
