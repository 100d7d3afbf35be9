/- Plain facts on rounding by halving and doubling, a place at a time. No condition. -/
import Derived.Test.YtpemchghaddgdaaNr
namespace Go.Pst
open Go

/-- Behind i halvings: what stands, the bit behind it, whether anything stands behind that. -/
def nS (M i : Nat) : Nat := M / 2 ^ (i + 2)
def hS (M i : Nat) : Bool := M / 2 ^ (i + 1) % 2 == 1
def bS (M i : Nat) : Bool := M % 2 ^ (i + 1) != 0

theorem nS_succ (M i : Nat) : nS M (i + 1) = nS M i / 2 := by
  unfold nS; rw [Nat.div_div_eq_div_mul, ← Nat.pow_succ]

theorem hS_succ (M i : Nat) : hS M (i + 1) = (nS M i % 2 == 1) := rfl

theorem mod_pow_succ' (M k : Nat) : M % 2 ^ (k + 1) = M % 2 ^ k + 2 ^ k * (M / 2 ^ k % 2) := Nat.mod_pow_succ

theorem bS_succ (M i : Nat) : bS M (i + 1) = (bS M i || hS M i) := by
  unfold bS hS
  rw [mod_pow_succ' M (i + 1)]
  have hp : 0 < 2 ^ (i + 1) := Nat.two_pow_pos _
  have h2 : M / 2 ^ (i + 1) % 2 < 2 := Nat.mod_lt _ (by omega)
  generalize M / 2 ^ (i + 1) % 2 = t at *
  generalize M % 2 ^ (i + 1) = r at *
  generalize 2 ^ (i + 1) = p at *
  have : t = 0 ∨ t = 1 := by omega
  rcases this with rfl | rfl
  · simp
  · simp; omega

theorem S_zero (N s : Nat) (hs : s ≤ 1) : nS (4 * N + s) 0 = N ∧ hS (4 * N + s) 0 = false ∧ bS (4 * N + s) 0 = (s == 1) := by
  refine ⟨?_, ?_, ?_⟩
  · unfold nS; show (4 * N + s) / 4 = N; omega
  · unfold hS; show ((4 * N + s) / 2 % 2 == 1) = false
    have : (4 * N + s) / 2 % 2 = 0 := by omega
    rw [this]; rfl
  · unfold bS; show ((4 * N + s) % 2 != 0) = _
    have : (4 * N + s) % 2 = s := by omega
    rw [this, Bool.eq_iff_iff]; simp; omega

/-- Something is left, whatever has been halved. -/
theorem S_some (M i : Nat) (h : M ≠ 0) : 0 < nS M i ∨ hS M i = true ∨ bS M i = true := by
  refine Decidable.byContradiction fun hc => h ?_
  have h1 : nS M i = 0 := by omega
  have h2 : hS M i = false := by cases hh : hS M i <;> simp_all
  have h3 : bS M i = false := by cases hh : bS M i <;> simp_all
  unfold nS at h1; unfold hS at h2; unfold bS at h3
  have h3' : M % 2 ^ (i + 1) = 0 := by simpa using h3
  have h2' : M / 2 ^ (i + 1) % 2 = 0 := by
    have : ¬ M / 2 ^ (i + 1) % 2 = 1 := by simpa using h2
    omega
  have h4 := Nat.div_add_mod M (2 ^ (i + 1))
  have h5 : M / 2 ^ (i + 1) / 2 = 0 := by rw [Nat.div_div_eq_div_mul, ← Nat.pow_succ]; exact h1
  have h6 : M / 2 ^ (i + 1) = 0 := by omega
  rw [h6, h3'] at h4; omega

/-- How often is halved, and then doubled. -/
def R1 (f e M : Nat) (E : Int) : Nat := if M = 0 then 0 else (kap f e M E - 2).toNat
def R2 (f e M : Nat) (E : Int) : Nat := if M = 0 then 0 else (2 - kap f e M E).toNat

theorem R_apart (f e M : Nat) (E : Int) : R1 f e M E = 0 ∨ R2 f e M E = 0 := by
  unfold R1 R2; split <;> omega

theorem loop1_go (f e M : Nat) (E : Int) (i : Nat) (h : i < R1 f e M E) :
    2 ^ (f + 1) ≤ nS M i ∨ (nS M i < 2 ^ (f + 1) ∧ E + 2 + i < lst f e ∧ (0 < nS M i ∨ (nS M i = 0 ∧ hS M i = true) ∨ (nS M i = 0 ∧ hS M i = false ∧ bS M i = true))) := by
  unfold R1 at h
  split at h
  · omega
  rename_i hM
  rcases Nat.lt_or_ge (nS M i) (2 ^ (f + 1)) with h1 | h1
  · refine .inr ⟨h1, ?_, ?_⟩
    · have h2 : M < 2 ^ (i + 2 + (f + 1)) := by
        rw [Nat.pow_add, Nat.mul_comm]; exact (Nat.div_lt_iff_lt_mul (Nat.two_pow_pos _)).1 h1
      have h3 : M.log2 < i + 2 + (f + 1) := (Nat.log2_lt hM).2 h2
      unfold kap at h
      omega
    · rcases S_some M i hM with h | h | h
      · exact .inl h
      · rcases Nat.eq_zero_or_pos (nS M i) with h0 | h0
        · exact .inr (.inl ⟨h0, h⟩)
        · exact .inl h0
      · rcases Nat.eq_zero_or_pos (nS M i) with h0 | h0
        · cases hh : hS M i
          · exact .inr (.inr ⟨h0, rfl, h⟩)
          · exact .inr (.inl ⟨h0, rfl⟩)
        · exact .inl h0
  · exact .inl h1

theorem loop1_end (f e M : Nat) (E : Int) (hM : M ≠ 0) : nS M (R1 f e M E) < 2 ^ (f + 1) ∧ lst f e ≤ E + 2 + (R1 f e M E : Nat) := by
  have hk : kap f e M E = max ((M.log2 : Int) - f) (lst f e - E) := rfl
  unfold R1
  rw [if_neg hM]
  have h1 : M < 2 ^ (M.log2 + 1) := Nat.lt_log2_self
  generalize kap f e M E = K at *
  refine ⟨?_, by omega⟩
  unfold nS
  rw [Nat.div_lt_iff_lt_mul (Nat.two_pow_pos _), ← Nat.pow_add]
  exact Nat.lt_of_lt_of_le h1 (Nat.pow_le_pow_right (by omega) (by omega))

/-- Is it doubled, then nothing stands behind, and it is less than the binade, and not at the least place. -/
theorem loop2_go (f e N s : Nat) (E : Int) (hs : s ≤ 1) (hN : s = 1 → 2 ^ f ≤ N) (j : Nat) (h : j < R2 f e (4 * N + s) E) :
    s = 0 ∧ 0 < N ∧ N * 2 ^ j < 2 ^ f ∧ lst f e < E + 2 - j ∧ R1 f e (4 * N + s) E = 0 := by
  have hR := R_apart f e (4 * N + s) E
  have h' := h
  unfold R2 at h
  split at h
  · omega
  rename_i hM
  have hk : kap f e (4 * N + s) E = max (((4 * N + s).log2 : Int) - f) (lst f e - E) := rfl
  by_cases hs1 : s = 1
  · exfalso
    have h1 := hN hs1
    have h2 : 2 ^ (f + 2) ≤ 4 * N + s := by rw [Nat.pow_succ, Nat.pow_succ]; omega
    have h3 : f + 2 ≤ (4 * N + s).log2 := (Nat.le_log2 hM).2 h2
    omega
  · obtain rfl : s = 0 := by omega
    have hN0 : N ≠ 0 := by omega
    have h3 : (4 * N + 0).log2 = N.log2 + 2 := by
      rw [show 4 * N + 0 = 2 * (2 * N) by omega, log2_double _ (by omega), log2_double _ hN0]
    rw [h3] at hk
    refine ⟨rfl, by omega, ?_, by omega, by omega⟩
    have h4 : N < 2 ^ (N.log2 + 1) := Nat.lt_log2_self
    have h5 : N * 2 ^ j < 2 ^ (N.log2 + 1) * 2 ^ j := Nat.mul_lt_mul_of_pos_right h4 (Nat.two_pow_pos _)
    rw [← Nat.pow_add] at h5
    exact Nat.lt_of_lt_of_le h5 (Nat.pow_le_pow_right (by omega) (by omega))

/-- Where it ends: no more is doubled; and rounded, this is what is kept. -/
theorem loop2_end (f e N s : Nat) (E : Int) (hs : s ≤ 1) (hN : s = 1 → 2 ^ f ≤ N) (hM : 4 * N + s ≠ 0) :
    let M := 4 * N + s
    let n := nS M (R1 f e M E) * 2 ^ R2 f e M E
    let h := hS M (R1 f e M E)
    let b := bS M (R1 f e M E)
    (n = 0 → h = true ∨ b = true) ∧ (0 < n → n < 2 ^ f → lst f e < E + 2 + (R1 f e M E : Nat) - (R2 f e M E : Nat) → h = true ∨ b = true) ∧
    n + (if h = true ∧ (b = true ∨ n % 2 = 1) then 1 else 0) = keptN f e M E ∧ E + 2 + (R1 f e M E : Nat) - (R2 f e M E : Nat) = E + kap f e M E := by
  intro M n h b
  have hk : kap f e M E = max ((M.log2 : Int) - f) (lst f e - E) := rfl
  have e1 : R1 f e M E = (kap f e M E - 2).toNat := if_neg hM
  have e2 : R2 f e M E = (2 - kap f e M E).toNat := if_neg hM
  have hx : E + 2 + (R1 f e M E : Nat) - (R2 f e M E : Nat) = E + kap f e M E := by rw [e1, e2]; omega
  refine ⟨fun h0 => ?_, fun h1 h2 h3 => ?_, ?_, hx⟩
  · have h1 : nS M (R1 f e M E) = 0 := by
      rcases Nat.mul_eq_zero.1 h0 with h1 | h1
      · exact h1
      · exact absurd h1 (Nat.pos_iff_ne_zero.1 (Nat.two_pow_pos _))
    rcases S_some M (R1 f e M E) hM with h2 | h2 | h2
    · omega
    · exact .inl h2
    · exact .inr h2
  · exfalso
    rw [hx] at h3
    have hk2 : kap f e M E = (M.log2 : Int) - f := by omega
    have h5 : 2 ^ M.log2 ≤ M := Nat.log2_self_le hM
    by_cases hk3 : 2 ≤ kap f e M E
    · have h4 : R2 f e M E = 0 := by rw [e2]; omega
      have h6 : n = M / 2 ^ (R1 f e M E + 2) := by show nS M _ * 2 ^ R2 f e M E = _; rw [h4, Nat.pow_zero, Nat.mul_one]; rfl
      have h7 : 2 ^ f ≤ M / 2 ^ (R1 f e M E + 2) := by
        rw [Nat.le_div_iff_mul_le (Nat.two_pow_pos _), ← Nat.pow_add, show f + (R1 f e M E + 2) = M.log2 by rw [e1]; omega]; exact h5
      omega
    · have h4 := loop2_go f e N s E hs hN 0 (by rw [e2]; omega)
      obtain ⟨rfl, hN0, _, _, h8⟩ := h4
      have h9 : n = N * 2 ^ R2 f e M E := by show nS M (R1 f e M E) * _ = _; rw [show R1 f e M E = 0 from h8, (S_zero N 0 hs).1]
      have h10 : M.log2 = N.log2 + 2 := by
        show (4 * N + 0).log2 = _
        rw [show 4 * N + 0 = 2 * (2 * N) by omega, log2_double _ (by omega), log2_double _ (by omega)]
      have h11 : 2 ^ N.log2 ≤ N := Nat.log2_self_le (by omega)
      have h12 : 2 ^ N.log2 * 2 ^ R2 f e M E ≤ N * 2 ^ R2 f e M E := Nat.mul_le_mul_right _ h11
      rw [← Nat.pow_add, show N.log2 + R2 f e M E = f by rw [e2]; omega] at h12
      omega
  · by_cases hk3 : 2 ≤ kap f e M E
    · have h4 : R2 f e M E = 0 := by rw [e2]; omega
      have h6 : n = M / 2 ^ (R1 f e M E + 2) := by show nS M _ * 2 ^ R2 f e M E = _; rw [h4, Nat.pow_zero, Nat.mul_one]; rfl
      have h7 : h = (M / 2 ^ (R1 f e M E + 1) % 2 == 1) := rfl
      have h8 : b = (M % 2 ^ (R1 f e M E + 1) != 0) := rfl
      have hkept : keptN f e M E = rne M (R1 f e M E + 1 + 1) := by
        unfold keptN; rw [if_pos (by omega)]; congr 1; rw [e1]; omega
      rw [hkept, h6, h7, h8]
      unfold rne
      rw [mod_pow_succ' M (R1 f e M E + 1)]
      have hr : M % 2 ^ (R1 f e M E + 1) < 2 ^ (R1 f e M E + 1) := Nat.mod_lt _ (Nat.two_pow_pos _)
      have ht : M / 2 ^ (R1 f e M E + 1) % 2 < 2 := Nat.mod_lt _ (by omega)
      rw [show R1 f e M E + 2 = R1 f e M E + 1 + 1 by omega]
      rw [Nat.pow_succ 2 (R1 f e M E + 1)]
      generalize M / (2 ^ (R1 f e M E + 1) * 2) = q
      generalize M / 2 ^ (R1 f e M E + 1) % 2 = t at *
      generalize M % 2 ^ (R1 f e M E + 1) = r at *
      generalize 2 ^ (R1 f e M E + 1) = p at *
      congr 1
      have : t = 0 ∨ t = 1 := by omega
      rcases this with rfl | rfl
      · simp; omega
      · simp
        by_cases hr0 : r = 0
        · subst hr0; simp [Nat.mul_comm p 2]
        · simp [hr0]; omega
    · have h4 := loop2_go f e N s E hs hN 0 (by show 0 < R2 f e M E; rw [e2]; omega)
      obtain ⟨rfl, hN0, _, _, h8⟩ := h4
      have h9 : n = N * 2 ^ R2 f e M E := by show nS M (R1 f e M E) * _ = _; rw [show R1 f e M E = 0 from h8, (S_zero N 0 hs).1]
      have h10 : h = false := by show hS M (R1 f e M E) = false; rw [show R1 f e M E = 0 from h8, (S_zero N 0 hs).2.1]
      rw [h9, h10, if_neg (by simp), Nat.add_zero, e2]
      have hM4 : M = 2 * (2 * N) := by show 4 * N + 0 = _; omega
      unfold keptN
      generalize kap f e M E = K at *
      rw [hM4]
      by_cases h0 : 0 ≤ K
      · rw [if_pos h0]
        have : K = 0 ∨ K = 1 := by omega
        rcases this with rfl | rfl
        · show N * 2 ^ 2 = rne _ 0; rw [rne_zero]; omega
        · show N * 2 ^ 1 = rne _ (0 + 1); rw [rne_double, rne_zero]; omega
      · rw [if_neg h0, show (2 - K).toNat = (-K).toNat + 1 + 1 by omega, Nat.pow_succ, Nat.pow_succ]
        generalize 2 ^ (-K).toNat = z
        rw [show z * 2 * 2 = 4 * z by omega, show 2 * (2 * N) = 4 * N by omega, Nat.mul_left_comm, Nat.mul_assoc]

end Go.Pst
