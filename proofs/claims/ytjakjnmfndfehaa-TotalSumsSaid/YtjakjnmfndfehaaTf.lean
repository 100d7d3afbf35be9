/- The words of a whole number, plain; an array of 72 words. No condition. -/
import Derived.Test.YtjakjnmfndfehaaTe
namespace Go.Pst
open Go
set_option linter.unusedVariables false
set_option linter.unusedSimpArgs false

/-- The words of a number. -/
def natW (N i : Nat) : Nat := N / W64 ^ i % W64
theorem natW_lt (N i : Nat) : natW N i < W64 := Nat.mod_lt _ w64_pos
theorem wv_natW (N : Nat) : ∀ n, wv (natW N) n = N % W64 ^ n
  | 0 => by rw [Nat.pow_zero, Nat.mod_one]; rfl
  | n + 1 => by
    unfold wv
    rw [wv_natW N n]
    unfold natW
    rw [Nat.pow_succ, Nat.mod_mul, Nat.mul_comm]
theorem natW_is {N : Nat} : WIs (natW N) N :=
  ⟨fun i _ => natW_lt N i, by
    rw [wv_natW]
    have h : (toW (N : Int) : Int) = ((N % M72 : Nat) : Int) := by rw [toW_cast]; simp
    unfold M72 at h
    omega⟩
theorem WIs.congr {V U : Nat → Nat} {s : Int} (h : WIs V s) (hc : ∀ i, i < 72 → V i = U i) : WIs U s :=
  ⟨fun i hi => by rw [← hc i hi]; exact h.1 i hi, by rw [← wv_congr 72 hc]; exact h.2⟩
theorem natW_up (P d i : Nat) : natW (P * W64 ^ d) i = if i < d then 0 else natW P (i - d) := by
  unfold natW
  by_cases h : i < d
  · rw [if_pos h]
    obtain ⟨e, rfl⟩ : ∃ e, d = i + 1 + e := ⟨d - i - 1, by omega⟩
    rw [show P * W64 ^ (i + 1 + e) = P * W64 ^ e * W64 * W64 ^ i by rw [Nat.pow_add, Nat.pow_succ]; simp only [Nat.mul_assoc, Nat.mul_comm, Nat.mul_left_comm],
      Nat.mul_div_cancel _ (w64_pow i), Nat.mul_mod_left]
  · rw [if_neg h]
    obtain ⟨e, rfl⟩ : ∃ e, i = d + e := ⟨i - d, by omega⟩
    rw [show d + e - d = e by omega, Nat.pow_add, ← Nat.div_div_eq_div_mul, Nat.mul_div_cancel _ (w64_pow d)]
theorem natW_top {P n i : Nat} (h : P < W64 ^ n) (hi : n ≤ i) : natW P i = 0 := by
  unfold natW
  rw [Nat.div_eq_of_lt (Nat.lt_of_lt_of_le h (Nat.pow_le_pow_right w64_pos hi)), Nat.zero_mod]

theorem pow_split {n : Nat} (h : n ≤ 64) : W64 = 2 ^ n * 2 ^ (64 - n) := by rw [← Nat.pow_add, show n + (64 - n) = 64 by omega]; decide
/-- Two words shifted down. -/
theorem down_words {lo hi n : Nat} (hlo : lo < W64) (hhi : hi < W64) (h0 : 0 < n) (h1 : n < 64) :
    (lo / 2 ^ n ||| hi * 2 ^ (64 - n) % W64) = (lo + hi * W64) / 2 ^ n % W64 ∧ hi / 2 ^ n = (lo + hi * W64) / 2 ^ n / W64 := by
  have hp := Nat.two_pow_pos n
  have hq := Nat.two_pow_pos (64 - n)
  have hs := pow_split (n := n) (by omega)
  have hq2 : 2 ^ (64 - n) ≤ W64 := by rw [hs]; exact Nat.le_mul_of_pos_left _ hp
  have e1 : (lo + hi * W64) / 2 ^ n = lo / 2 ^ n + hi * 2 ^ (64 - n) := by
    rw [hs, show hi * (2 ^ n * 2 ^ (64 - n)) = hi * 2 ^ (64 - n) * 2 ^ n by simp only [Nat.mul_assoc, Nat.mul_comm, Nat.mul_left_comm], Nat.add_mul_div_right _ _ hp]
  have hl : lo / 2 ^ n < 2 ^ (64 - n) := Nat.div_lt_of_lt_mul (by rw [← hs]; exact hlo)
  have e2 : hi * 2 ^ (64 - n) % W64 = hi % 2 ^ n * 2 ^ (64 - n) := by
    conv => lhs; rw [hs, Nat.mul_mod_mul_right]
  constructor
  · rw [e1, e2, Nat.or_comm]
    rw [show hi % 2 ^ n * 2 ^ (64 - n) ||| lo / 2 ^ n = hi % 2 ^ n * 2 ^ (64 - n) + lo / 2 ^ n by
      rw [Nat.mul_comm, ← Nat.two_pow_add_eq_or_of_lt hl]]
    have hm : hi % 2 ^ n < 2 ^ n := Nat.mod_lt _ hp
    have e3 : hi * 2 ^ (64 - n) = hi / 2 ^ n * W64 + hi % 2 ^ n * 2 ^ (64 - n) := by
      conv => lhs; rw [← Nat.div_add_mod hi (2 ^ n), Nat.add_mul]
      rw [show 2 ^ n * (hi / 2 ^ n) * 2 ^ (64 - n) = hi / 2 ^ n * W64 by rw [hs]; simp only [Nat.mul_assoc, Nat.mul_comm, Nat.mul_left_comm]]
    have h4 : hi % 2 ^ n * 2 ^ (64 - n) + lo / 2 ^ n < W64 := by
      have := Nat.mul_le_mul_right (2 ^ (64 - n)) (show hi % 2 ^ n + 1 ≤ 2 ^ n by omega)
      rw [← hs, Nat.add_mul, Nat.one_mul] at this
      omega
    rw [e3, show lo / 2 ^ n + (hi / 2 ^ n * W64 + hi % 2 ^ n * 2 ^ (64 - n)) = hi % 2 ^ n * 2 ^ (64 - n) + lo / 2 ^ n + hi / 2 ^ n * W64 by omega, Nat.add_mul_mod_self_right, Nat.mod_eq_of_lt h4]
  · rw [e1]
    rw [hs, Nat.mul_comm (2 ^ n), ← Nat.div_div_eq_div_mul, Nat.add_mul_div_right _ _ hq, Nat.div_eq_of_lt hl, Nat.zero_add]
theorem down_words2 {lo hi n : Nat} (hlo : lo < W64) (hhi : hi < W64) (h0 : 64 ≤ n) : hi / 2 ^ (n - 64) = (lo + hi * W64) / 2 ^ n := by
  obtain ⟨m, rfl⟩ : ∃ m, n = 64 + m := ⟨n - 64, by omega⟩
  rw [show 64 + m - 64 = m by omega, Nat.pow_add, ← Nat.div_div_eq_div_mul, show (2 : Nat) ^ 64 = W64 from by decide, Nat.add_mul_div_right _ _ w64_pos, Nat.div_eq_of_lt hlo, Nat.zero_add]
/-- Two words shifted up, as three. -/
theorem up_words {lo hi n : Nat} (hlo : lo < W64) (hhi : hi < W64) (h1 : n < 64) :
    lo * 2 ^ n % W64 = natW ((lo + hi * W64) * 2 ^ n) 0 ∧ (lo / 2 ^ (64 - n) ||| hi * 2 ^ n % W64) = natW ((lo + hi * W64) * 2 ^ n) 1 ∧ hi / 2 ^ (64 - n) = natW ((lo + hi * W64) * 2 ^ n) 2 ∧
      (lo + hi * W64) * 2 ^ n < W64 ^ 3 := by
  have hp := Nat.two_pow_pos n
  have hq := Nat.two_pow_pos (64 - n)
  have hs := pow_split (n := n) (by omega)
  have eP : (lo + hi * W64) * 2 ^ n = lo * 2 ^ n + hi * 2 ^ n * W64 := by rw [Nat.add_mul]; simp only [Nat.mul_assoc, Nat.mul_comm, Nat.mul_left_comm]
  have hl : lo / 2 ^ (64 - n) < 2 ^ n := Nat.div_lt_of_lt_mul (by rw [Nat.mul_comm, ← hs]; exact hlo)
  have el : lo * 2 ^ n / W64 = lo / 2 ^ (64 - n) := by
    rw [hs, ← Nat.div_div_eq_div_mul, Nat.mul_div_cancel _ hp]
  have hn : 2 ^ n ≤ W64 := by rw [hs]; exact Nat.le_mul_of_pos_right _ hq
  have e2 : hi * 2 ^ n % W64 = hi % 2 ^ (64 - n) * 2 ^ n := by
    conv => lhs; rw [hs, Nat.mul_comm (2 ^ n), Nat.mul_mod_mul_right]
  have eD : (lo * 2 ^ n + hi * 2 ^ n * W64) / W64 = lo / 2 ^ (64 - n) + hi * 2 ^ n := by
    rw [Nat.add_mul_div_right _ _ w64_pos, el]
  refine ⟨?_, ?_, ?_, ?_⟩
  · unfold natW
    rw [eP, Nat.pow_zero, Nat.div_one, Nat.add_mul_mod_self_right]
  · unfold natW
    rw [eP, Nat.pow_one, eD, e2, Nat.or_comm]
    rw [show hi % 2 ^ (64 - n) * 2 ^ n ||| lo / 2 ^ (64 - n) = hi % 2 ^ (64 - n) * 2 ^ n + lo / 2 ^ (64 - n) by rw [Nat.mul_comm, ← Nat.two_pow_add_eq_or_of_lt hl]]
    have e3 : hi * 2 ^ n = hi / 2 ^ (64 - n) * W64 + hi % 2 ^ (64 - n) * 2 ^ n := by
      conv => lhs; rw [← Nat.div_add_mod hi (2 ^ (64 - n)), Nat.add_mul]
      rw [show 2 ^ (64 - n) * (hi / 2 ^ (64 - n)) * 2 ^ n = hi / 2 ^ (64 - n) * W64 by rw [hs]; simp only [Nat.mul_assoc, Nat.mul_comm, Nat.mul_left_comm]]
    have hm : hi % 2 ^ (64 - n) < 2 ^ (64 - n) := Nat.mod_lt _ hq
    have h4 : hi % 2 ^ (64 - n) * 2 ^ n + lo / 2 ^ (64 - n) < W64 := by
      have := Nat.mul_le_mul_right (2 ^ n) (show hi % 2 ^ (64 - n) + 1 ≤ 2 ^ (64 - n) by omega)
      rw [Nat.mul_comm (2 ^ (64 - n)), ← hs, Nat.add_mul, Nat.one_mul] at this
      omega
    rw [e3, show lo / 2 ^ (64 - n) + (hi / 2 ^ (64 - n) * W64 + hi % 2 ^ (64 - n) * 2 ^ n) = hi % 2 ^ (64 - n) * 2 ^ n + lo / 2 ^ (64 - n) + hi / 2 ^ (64 - n) * W64 by omega, Nat.add_mul_mod_self_right, Nat.mod_eq_of_lt h4]
  · unfold natW
    have hd : hi / 2 ^ (64 - n) ≤ hi := Nat.div_le_self _ _
    rw [eP, show (2 : Nat) = 1 + 1 from rfl, Nat.pow_add, Nat.pow_one, ← Nat.div_div_eq_div_mul, eD]
    have e4 : (lo / 2 ^ (64 - n) + hi * 2 ^ n) / W64 = hi / 2 ^ (64 - n) := by
      conv => lhs; rw [hs, ← Nat.div_div_eq_div_mul, Nat.add_mul_div_right _ _ hp, Nat.div_eq_of_lt hl, Nat.zero_add]
    rw [show (1 + 1) ^ (64 - n) = 2 ^ (64 - n) from rfl, e4, Nat.mod_eq_of_lt (by omega)]
  · rw [show W64 ^ 3 = W64 * W64 * W64 from by decide]
    have h5 : lo + hi * W64 < W64 * W64 := by
      have := Nat.mul_le_mul_right W64 (show hi + 1 ≤ W64 by omega)
      rw [Nat.add_mul, Nat.one_mul] at this
      omega
    exact Nat.mul_lt_mul_of_lt_of_le h5 hn w64_pos
theorem natW_two {N : Nat} (h : N < W64 * W64) (i : Nat) : natW N i = if i = 0 then N % W64 else if i = 1 then N / W64 else 0 := by
  by_cases h0 : i = 0
  · rw [if_pos h0, h0]; unfold natW; rw [Nat.pow_zero, Nat.div_one]
  · rw [if_neg h0]
    by_cases h1 : i = 1
    · rw [if_pos h1, h1]; unfold natW; rw [Nat.pow_one, Nat.mod_eq_of_lt (Nat.div_lt_of_lt_mul h)]
    · rw [if_neg h1]
      exact natW_top (n := 2) (by rw [show W64 ^ 2 = W64 * W64 from by decide]; exact h) (by omega)
end Go.Pst
namespace Go.Proofs.Ytjakjnmfndfehaa
open Go.RowKit Go.Pst
/-- An array of 72 words. -/
def wcells (V : Nat → Nat) : List Value := (List.range 72).map fun i => .int .u64 (V i : Nat)
theorem wcells_len (V : Nat → Nat) : (wcells V).length = 72 := by unfold wcells; rw [List.length_map, List.length_range]
theorem wcells_get (V : Nat → Nat) {i : Nat} (hi : i < 72) : (wcells V)[i]? = some (.int .u64 (V i : Nat)) := by
  unfold wcells; rw [List.getElem?_map, List.getElem?_range hi]; rfl
theorem wcells_congr {V U : Nat → Nat} (h : ∀ i, i < 72 → V i = U i) : wcells V = wcells U :=
  List.map_congr_left fun i hi => by rw [h i (List.mem_range.1 hi)]
theorem wcells_set (V : Nat → Nat) (k x : Nat) : (wcells V).toArray.setIfInBounds k (.int .u64 (x : Nat)) = (wcells (upd V k x)).toArray := by
  rw [List.setIfInBounds_toArray]
  congr 1
  apply List.ext_getElem?
  intro i
  rw [List.getElem?_set, wcells_len]
  by_cases hi : i < 72
  · rw [wcells_get _ hi, wcells_get _ hi]
    unfold upd
    by_cases hk : k = i
    · rw [if_pos hk, if_pos (by omega), if_pos hk.symm]
    · rw [if_neg hk, if_neg (Ne.symm hk)]
  · rw [List.getElem?_eq_none (l := wcells V) (by rw [wcells_len]; omega), List.getElem?_eq_none (l := wcells (upd V k x)) (by rw [wcells_len]; omega)]
    by_cases hk : k = i
    · rw [if_pos hk, if_neg (by omega)]
    · rw [if_neg hk]
theorem wcells_one (V : Nat → Nat) : ∀ v ∈ wcells V, v.oneCell' = true := fun v hv => by
  unfold wcells at hv
  obtain ⟨i, _, rfl⟩ := List.mem_map.1 hv
  rfl
theorem wcells_zero : Try.zeroCells82 = (wcells fun _ => 0).toArray := by kernel_rfl
end Go.Proofs.Ytjakjnmfndfehaa
