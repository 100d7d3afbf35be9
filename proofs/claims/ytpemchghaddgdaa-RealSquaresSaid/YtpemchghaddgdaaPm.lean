/- Plain facts: parts and bits are each other's; no program is spoken of. Condition: sizes of at most 52 and 11 bits. -/
import Derived.Test.YtpemchghaddgdaaPl
namespace Go.Pst
open Go Go.RowKit
set_option linter.unusedVariables false

def yOf (f e : Nat) (x : FP) : Nat := (IntKind.u64.wrap (wrap64 (wrap64 (x.exp + 1) - lst f e))).toNat

/-- The program's bits of parts. -/
def ofU (f e : Nat) (x : FP) (m l : Nat) : Nat :=
  if x.kind = 3 then (2 ^ e - 1) * 2 ^ f
  else if x.kind = 4 then (if x.quiet then ((2 ^ e - 1) * 2 ^ f ||| l % 2 ^ f) ||| 2 ^ (f - 1) else (2 ^ e - 1) * 2 ^ f ||| l % 2 ^ f)
  else if x.kind = 2 then ((yOf f e x * 2 ^ f % 2 ^ 64) ||| m % 2 ^ f) % 2 ^ (f + e)
  else if x.kind = 1 then m % 2 ^ f
  else 0

def ofN (f e : Nat) (x : FP) (m l : Nat) : Nat := signedBits f e x.neg (ofU f e x m l)

theorem or_add {a b n : Nat} (h : b < 2 ^ n) : a * 2 ^ n ||| b = a * 2 ^ n + b := by
  have := Nat.two_pow_add_eq_or_of_lt h a
  rw [Nat.mul_comm] at this; exact this.symm

theorem or_add1 {b n : Nat} (h : b < 2 ^ n) : b ||| 2 ^ n = 2 ^ n + b := by
  have := Nat.two_pow_add_eq_or_of_lt h 1
  rw [Nat.mul_one] at this; rw [Nat.or_comm]; exact this.symm

/-- b out of its fields. -/
theorem split_bits (f e b : Nat) (h : b < 2 ^ (1 + f + e)) : b = b / 2 ^ (f + e) % 2 * 2 ^ (f + e) + (b / 2 ^ f % 2 ^ e * 2 ^ f + b % 2 ^ f) ∧ b / 2 ^ f % 2 ^ e * 2 ^ f + b % 2 ^ f < 2 ^ (f + e) := by
  have h1 : b / 2 ^ (f + e) < 2 := Nat.div_lt_of_lt_mul (by rw [Nat.mul_comm]; rw [show 1 + f + e = 1 + (f + e) by omega, Nat.pow_add] at h; omega)
  have h2 : b % 2 ^ (f + e) = b / 2 ^ f % 2 ^ e * 2 ^ f + b % 2 ^ f := by
    rw [Nat.pow_add, Nat.mod_mul, Nat.mul_comm (2 ^ f)]; omega
  have h3 := Nat.div_add_mod b (2 ^ (f + e))
  have h4 : b % 2 ^ (f + e) < 2 ^ (f + e) := Nat.mod_lt _ (Nat.two_pow_pos _)
  rw [Nat.mod_eq_of_lt h1]
  constructor
  · rw [← h2, Nat.mul_comm (b / 2 ^ (f + e))]; exact h3.symm
  · rw [← h2]; exact h4

theorem signedBits_neg {f e b u : Nat} (h : b < 2 ^ (1 + f + e)) (hu : u = b / 2 ^ f % 2 ^ e * 2 ^ f + b % 2 ^ f) : signedBits f e (b / 2 ^ (f + e) % 2 == 1) u = b := by
  obtain ⟨h1, h2⟩ := split_bits f e b h
  rw [← hu] at h1 h2
  unfold signedBits
  by_cases hs : b / 2 ^ (f + e) % 2 = 1
  · rw [hs, Nat.one_mul] at h1
    simp only [hs, BEq.rfl, if_true]
    rw [or_add1 h2]; exact h1.symm
  · have hz : b / 2 ^ (f + e) % 2 = 0 := by omega
    rw [hz, Nat.zero_mul, Nat.zero_add] at h1
    simp [hz]; exact h1.symm

theorem half_pow {f : Nat} (hf : 1 ≤ f) : 2 ^ f = 2 * 2 ^ (f - 1) := by
  obtain ⟨k, rfl⟩ : ∃ k, f = k + 1 := ⟨f - 1, by omega⟩
  rw [Nat.pow_succ]; simp; omega

theorem quiet_join {f fr : Nat} (hf : 1 ≤ f) (h : fr < 2 ^ f) : (if (fr / 2 ^ (f - 1) == 1) = true then 2 ^ (f - 1) + fr % 2 ^ (f - 1) else fr % 2 ^ (f - 1)) = fr := by
  have hp := half_pow hf
  have hd : fr / 2 ^ (f - 1) < 2 := Nat.div_lt_of_lt_mul (by omega)
  have := Nat.div_add_mod fr (2 ^ (f - 1))
  by_cases hq : fr / 2 ^ (f - 1) = 1
  · simp only [hq, BEq.rfl, if_true]; rw [hq] at this; omega
  · have hz : fr / 2 ^ (f - 1) = 0 := (by omega : ∀ q : Nat, q < 2 → ¬ q = 1 → q = 0) _ hd hq
    rw [hz] at this
    simp [hz]; omega

theorem none_join {f fr T : Nat} (hf : 1 ≤ f) (h : fr < 2 ^ f) :
    (if (fr / 2 ^ (f - 1) == 1) = true then (T * 2 ^ f ||| fr % 2 ^ (f - 1)) ||| 2 ^ (f - 1) else T * 2 ^ f ||| fr % 2 ^ (f - 1)) = T * 2 ^ f + fr := by
  have hp := half_pow hf
  have hm : fr % 2 ^ (f - 1) < 2 ^ (f - 1) := Nat.mod_lt _ (Nat.two_pow_pos _)
  have hj := quiet_join hf h
  split
  · rename_i hq
    rw [if_pos hq] at hj
    rw [Nat.or_assoc, or_add1 hm, hj, or_add h]
  · rename_i hq
    rw [if_neg hq] at hj
    rw [hj, or_add h]

theorem wrapI (n : Int) (h : -2 ^ 63 ≤ n ∧ n < 2 ^ 63) : wrap64 n = n := by unfold wrap64; omega

theorem ofN_parts {f e b : Nat} (hf1 : 1 ≤ f) (hf : f ≤ 52) (he1 : 1 ≤ e) (he : e ≤ 11) (h : b < 2 ^ (1 + f + e)) (m l : Nat) (hm : (partsN f e b).mant = m) (hl : (partsN f e b).load = l) :
    ofN f e (partsN f e b) m l = b := by
  have hE : 2 ^ e ≤ 2 ^ 11 := Nat.pow_le_pow_right (by omega) he
  have hE1 : 2 ≤ 2 ^ e := by have := Nat.pow_le_pow_right (n := 2) (by omega) he1; simpa using this
  have hP : 2 ^ f ≤ 2 ^ 52 := Nat.pow_le_pow_right (by omega) hf
  have hP1 : 1 ≤ 2 ^ f := Nat.one_le_two_pow
  have hfr : b % 2 ^ f < 2 ^ f := Nat.mod_lt _ (by omega)
  have hex : b / 2 ^ f % 2 ^ e < 2 ^ e := Nat.mod_lt _ (by omega)
  unfold ofN
  by_cases h1 : b / 2 ^ f % 2 ^ e = 2 ^ e - 1
  · by_cases h2 : b % 2 ^ f = 0
    · have hp : partsN f e b = ⟨3, b / 2 ^ (f + e) % 2 == 1, 0, 0, false, 0⟩ := by unfold partsN; rw [if_pos h1, if_pos h2]
      rw [hp]
      exact signedBits_neg h (by simp [ofU, h1, h2])
    · have hp : partsN f e b = ⟨4, b / 2 ^ (f + e) % 2 == 1, 0, 0, b % 2 ^ f / 2 ^ (f - 1) == 1, ((b % 2 ^ f % 2 ^ (f - 1) : Nat) : Int)⟩ := by unfold partsN; rw [if_pos h1, if_neg h2]
      rw [hp] at hl ⊢
      have hl' : b % 2 ^ f % 2 ^ (f - 1) = l := by exact Int.ofNat.inj hl
      have hlm : l % 2 ^ f = b % 2 ^ f % 2 ^ (f - 1) := by
        rw [← hl']; exact Nat.mod_eq_of_lt (Nat.lt_of_le_of_lt (Nat.mod_le _ _) hfr)
      refine signedBits_neg h ?_
      unfold ofU
      rw [if_neg (show ¬ (4 : Int) = 3 by decide), if_pos rfl, h1]
      simp only [hlm]
      exact none_join hf1 hfr
  · by_cases h2 : 0 < b / 2 ^ f % 2 ^ e
    · have hp : partsN f e b = ⟨2, b / 2 ^ (f + e) % 2 == 1, ((2 ^ f + b % 2 ^ f : Nat) : Int), ((b / 2 ^ f % 2 ^ e : Nat) : Int) - 1 + lst f e, false, 0⟩ := by unfold partsN; rw [if_neg h1, if_pos h2]
      rw [hp] at hm ⊢
      have hm' : 2 ^ f + b % 2 ^ f = m := by exact Int.ofNat.inj hm
      refine signedBits_neg h ?_
      unfold ofU
      rw [if_neg (show ¬ (2 : Int) = 3 by decide), if_neg (show ¬ (2 : Int) = 4 by decide), if_pos rfl]
      have hb := lst_bd hf he
      have hy : yOf f e ⟨2, b / 2 ^ (f + e) % 2 == 1, ((2 ^ f + b % 2 ^ f : Nat) : Int), ((b / 2 ^ f % 2 ^ e : Nat) : Int) - 1 + lst f e, false, 0⟩ = b / 2 ^ f % 2 ^ e := by
        unfold yOf
        simp only
        rw [wrapI (((b / 2 ^ f % 2 ^ e : Nat) : Int) - 1 + lst f e + 1) (by omega), wrapI _ (by omega), IntKind.wrap_u64]
        omega
      obtain ⟨_, hlt⟩ := split_bits f e b h
      have hw : 2 ^ (f + e) ≤ 2 ^ 63 := pow_lt64 (by omega)
      have hmm : m % 2 ^ f = b % 2 ^ f := by rw [← hm']; simp
      rw [hy, hmm, Nat.mod_eq_of_lt (a := b / 2 ^ f % 2 ^ e * 2 ^ f) (by omega), or_add hfr, Nat.mod_eq_of_lt hlt]
    · have h2z : b / 2 ^ f % 2 ^ e = 0 := by omega
      by_cases h3 : 0 < b % 2 ^ f
      · have hp : partsN f e b = ⟨1, b / 2 ^ (f + e) % 2 == 1, ((b % 2 ^ f : Nat) : Int), lst f e, false, 0⟩ := by unfold partsN; rw [if_neg h1, if_neg h2, if_pos h3]
        rw [hp] at hm ⊢
        have hm' : b % 2 ^ f = m := by exact Int.ofNat.inj hm
        refine signedBits_neg h ?_
        unfold ofU
        rw [if_neg (show ¬ (1 : Int) = 3 by decide), if_neg (show ¬ (1 : Int) = 4 by decide), if_neg (show ¬ (1 : Int) = 2 by decide), if_pos rfl, h2z, ← hm']
        simp
      · have hp : partsN f e b = ⟨0, b / 2 ^ (f + e) % 2 == 1, 0, 0, false, 0⟩ := by unfold partsN; rw [if_neg h1, if_neg h2, if_neg h3]
        rw [hp]
        refine signedBits_neg h ?_
        unfold ofU
        rw [if_neg (show ¬ (0 : Int) = 3 by decide), if_neg (show ¬ (0 : Int) = 4 by decide), if_neg (show ¬ (0 : Int) = 2 by decide), if_neg (show ¬ (0 : Int) = 1 by decide), h2z]
        omega

theorem rofN_parts {f e b : Nat} (hf1 : 1 ≤ f) (hf : f ≤ 52) (he1 : 1 ≤ e) (he : e ≤ 11) (h : b < 2 ^ (1 + f + e)) (m l : Nat) (hm : (partsN f e b).mant = m) (hl : (partsN f e b).load = l) :
    rofN f e (partsN f e b) m l = (b, 0) := by
  have hE : 2 ^ e ≤ 2 ^ 11 := Nat.pow_le_pow_right (by omega) he
  have hE1 : 2 ≤ 2 ^ e := by have := Nat.pow_le_pow_right (n := 2) (by omega) he1; simpa using this
  have hP : 2 ^ f ≤ 2 ^ 52 := Nat.pow_le_pow_right (by omega) hf
  have hP1 : 1 ≤ 2 ^ f := Nat.one_le_two_pow
  have hfr : b % 2 ^ f < 2 ^ f := Nat.mod_lt _ (by omega)
  have hex : b / 2 ^ f % 2 ^ e < 2 ^ e := Nat.mod_lt _ (by omega)
  -- enough: the candidate is right, and the load and the mantissa are within
  have key : ∀ u, rcand f e (partsN f e b) m l = some u → u = b / 2 ^ f % 2 ^ e * 2 ^ f + b % 2 ^ f → l ≤ 2 ^ f → m ≤ 2 ^ (f + 1) → (partsN f e b).neg = (b / 2 ^ (f + e) % 2 == 1) →
      rofN f e (partsN f e b) m l = (b, 0) := by
    intro u hc hu hl hm hn
    have hs : signedBits f e (partsN f e b).neg u = b := by rw [hn]; exact signedBits_neg h hu
    unfold rofN
    rw [hc]
    simp only
    rw [if_neg (by omega), hs, if_pos rfl]
  by_cases h1 : b / 2 ^ f % 2 ^ e = 2 ^ e - 1
  · by_cases h2 : b % 2 ^ f = 0
    · have hp : partsN f e b = ⟨3, b / 2 ^ (f + e) % 2 == 1, 0, 0, false, 0⟩ := by unfold partsN; rw [if_pos h1, if_pos h2]
      rw [hp] at hm hl key ⊢
      have hm' : m = 0 := by simp only at hm; omega
      have hl' : l = 0 := by simp only at hl; omega
      exact key ((2 ^ e - 1) * 2 ^ f) (by simp [rcand]) (by simp [h1, h2]) (by omega) (by omega) rfl
    · have hp : partsN f e b = ⟨4, b / 2 ^ (f + e) % 2 == 1, 0, 0, b % 2 ^ f / 2 ^ (f - 1) == 1, ((b % 2 ^ f % 2 ^ (f - 1) : Nat) : Int)⟩ := by unfold partsN; rw [if_pos h1, if_neg h2]
      rw [hp] at hm hl key ⊢
      have hl' : b % 2 ^ f % 2 ^ (f - 1) = l := by exact Int.ofNat.inj hl
      have hm' : m = 0 := by simp only at hm; omega
      have hll : l < 2 ^ f := by rw [← hl']; exact Nat.lt_of_le_of_lt (Nat.mod_le _ _) hfr
      refine key _ (by unfold rcand; rw [if_neg (show ¬ (4 : Int) = 3 by decide), if_pos rfl]) ?_ (by omega) (by omega) rfl
      simp only [← hl', h1]
      exact none_join hf1 hfr
  · by_cases h2 : 0 < b / 2 ^ f % 2 ^ e
    · have hp : partsN f e b = ⟨2, b / 2 ^ (f + e) % 2 == 1, ((2 ^ f + b % 2 ^ f : Nat) : Int), ((b / 2 ^ f % 2 ^ e : Nat) : Int) - 1 + lst f e, false, 0⟩ := by unfold partsN; rw [if_neg h1, if_pos h2]
      rw [hp] at hm hl key ⊢
      have hm' : 2 ^ f + b % 2 ^ f = m := by exact Int.ofNat.inj hm
      have hl' : l = 0 := by simp only at hl; omega
      have hmP : m / 2 ^ f = 1 := by rw [← hm']; rw [Nat.add_div_left _ (by omega), Nat.div_eq_of_lt hfr]
      refine key _ (rcand_two rfl |>.trans (if_neg ?_)) ?_ (by omega) (by rw [Nat.pow_succ]; omega) rfl
      · simp only; unfold lst; rintro (h | h | h)
        · omega
        · omega
        · exact h hmP
      · simp only
        rw [show (((b / 2 ^ f % 2 ^ e : Nat) : Int) - 1 + lst f e + ((2 ^ e - 1) / 2 : Nat) + f).toNat = b / 2 ^ f % 2 ^ e from by unfold lst; omega, ← hm',
          show (2 ^ f + b % 2 ^ f) % 2 ^ f = b % 2 ^ f from by simp, or_add hfr]
    · have h2z : b / 2 ^ f % 2 ^ e = 0 := by omega
      by_cases h3 : 0 < b % 2 ^ f
      · have hp : partsN f e b = ⟨1, b / 2 ^ (f + e) % 2 == 1, ((b % 2 ^ f : Nat) : Int), lst f e, false, 0⟩ := by unfold partsN; rw [if_neg h1, if_neg h2, if_pos h3]
        rw [hp] at hm hl key ⊢
        have hm' : b % 2 ^ f = m := by exact Int.ofNat.inj hm
        have hl' : l = 0 := by simp only at hl; omega
        exact key m (by simp [rcand]) (by rw [h2z, ← hm']; simp) (by omega) (by rw [Nat.pow_succ]; omega) rfl
      · have hp : partsN f e b = ⟨0, b / 2 ^ (f + e) % 2 == 1, 0, 0, false, 0⟩ := by unfold partsN; rw [if_neg h1, if_neg h2, if_neg h3]
        rw [hp] at hm hl key ⊢
        have hm' : m = 0 := by simp only at hm; omega
        have hl' : l = 0 := by simp only at hl; omega
        exact key 0 (by simp [rcand]) (by rw [h2z]; omega) (by omega) (by omega) rfl

theorem parts_mod (f e c : Nat) : partsN f e c = partsN f e (c % 2 ^ (1 + f + e)) := by
  have h1 : c % 2 ^ (1 + f + e) / 2 ^ f % 2 ^ e = c / 2 ^ f % 2 ^ e := by
    rw [show 1 + f + e = f + (e + 1) by omega, Nat.pow_add, Nat.mod_mul_right_div_self, Nat.mod_mod_of_dvd _ (Nat.pow_dvd_pow 2 (by omega))]
  have h2 : c % 2 ^ (1 + f + e) % 2 ^ f = c % 2 ^ f := Nat.mod_mod_of_dvd _ (Nat.pow_dvd_pow 2 (by omega))
  have h3 : c % 2 ^ (1 + f + e) / 2 ^ (f + e) % 2 = c / 2 ^ (f + e) % 2 := by
    rw [show 1 + f + e = (f + e) + 1 by omega, Nat.pow_add, Nat.mod_mul_right_div_self, Nat.mod_mod_of_dvd _ (by simp)]
  unfold partsN
  rw [h1, h2, h3]

/-- The program and the document agree on the bits of parts. -/
theorem of_agree {f e : Nat} (hf1 : 1 ≤ f) (hf : f ≤ 52) (he1 : 1 ≤ e) (he : e ≤ 11) (x : FP) (m l : Nat) (hm : x.mant = m) (hl : x.load = l) :
    rofN f e x m l = if partsN f e (ofN f e x m l) = x then (ofN f e x m l, 0) else (0, 40) := by
  by_cases hx : ∃ b, b < 2 ^ (1 + f + e) ∧ x = partsN f e b
  · obtain ⟨b, hb, rfl⟩ := hx
    rw [ofN_parts hf1 hf he1 he hb m l hm hl, rofN_parts hf1 hf he1 he hb m l hm hl, if_pos rfl]
  · have hno : ∀ c, partsN f e c ≠ x := fun c hc => hx ⟨c % 2 ^ (1 + f + e), Nat.mod_lt _ (Nat.two_pow_pos _), by rw [← parts_mod, hc]⟩
    rw [if_neg (hno _)]
    unfold rofN
    split
    · rfl
    · split
      · rfl
      · rw [if_neg (hno _)]

theorem ofN_lt (f e : Nat) (x : FP) (m l : Nat) (hf1 : 1 ≤ f := by omega) (he1 : 1 ≤ e := by omega) : ofN f e x m l < 2 ^ (1 + f + e) := by
  have hP1 : 1 ≤ 2 ^ f := Nat.one_le_two_pow
  have hE1 : 2 ≤ 2 ^ e := by have := Nat.pow_le_pow_right (n := 2) (by omega) he1; simpa using this
  have hu : ofU f e x m l < 2 ^ (f + e) := by
    have hT : (2 ^ e - 1) * 2 ^ f < 2 ^ (f + e) := by
      rw [Nat.pow_add, Nat.mul_comm (2 ^ f)]
      exact Nat.mul_lt_mul_of_pos_right (by omega) (by omega)
    have hP : 2 ^ f < 2 ^ (f + e) := Nat.pow_lt_pow_right (by omega) (by omega)
    have hl : l % 2 ^ f < 2 ^ (f + e) := Nat.lt_of_lt_of_le (Nat.mod_lt _ (by omega)) (Nat.le_of_lt hP)
    have hm : m % 2 ^ f < 2 ^ (f + e) := Nat.lt_of_lt_of_le (Nat.mod_lt _ (by omega)) (Nat.le_of_lt hP)
    have hH : 2 ^ (f - 1) < 2 ^ (f + e) := Nat.pow_lt_pow_right (by omega) (by omega)
    unfold ofU
    split
    · exact hT
    · split
      · split
        · exact Nat.or_lt_two_pow (Nat.or_lt_two_pow hT hl) hH
        · exact Nat.or_lt_two_pow hT hl
      · split
        · exact Nat.mod_lt _ (Nat.two_pow_pos _)
        · split
          · exact hm
          · exact Nat.two_pow_pos _
  have h2 : 2 ^ (1 + f + e) = 2 * 2 ^ (f + e) := by rw [show 1 + f + e = 1 + (f + e) by omega, Nat.pow_add]
  unfold ofN signedBits
  split
  · exact Nat.or_lt_two_pow (by omega) (Nat.pow_lt_pow_right (by omega) (by omega))
  · omega

end Go.Pst
