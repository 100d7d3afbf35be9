/- Plain facts (Knuth, Dekker): whole numbers in units of 2^-1074 rounded to 53 digits; what a sum loses is a number again; Two loses nothing. No condition. -/
import Derived.Test.YtjakjnmfndfehaaDd
namespace Go.Proofs.Ytjakjnmfndfehaa
open Go Ieee Go.Pst
set_option linter.unusedVariables false
set_option linter.unusedSimpArgs false
def K97 : Nat := 2097
/-- What stands to 53 digits. -/
def Fz (z : Int) : Prop := ∃ e : Nat, ((2 ^ e : Nat) : Int) ∣ z ∧ z.natAbs ≤ 9007199254740992 * 2 ^ e
/-- A whole number rounded. -/
def RZ (z : Int) : Int := sgn (decide (z < 0)) (rv (rz z.natAbs))
theorem sgn_of (z : Int) : sgn (decide (z < 0)) z.natAbs = z := by
  unfold sgn; by_cases h : z < 0
  · simp [h]; omega
  · simp [h]; omega
theorem rne_near (n k : Nat) : 2 * (n - rne n k * 2 ^ k) ≤ 2 ^ k ∧ 2 * (rne n k * 2 ^ k - n) ≤ 2 ^ k := by
  have h := Nat.div_add_mod n (2 ^ k)
  have hl := Nat.mod_lt n (Nat.two_pow_pos k)
  unfold rne
  generalize n / 2 ^ k = q at *
  generalize n % 2 ^ k = r at *
  generalize 2 ^ k = P at *
  split
  · rw [Nat.add_mul, Nat.mul_comm q P]; omega
  · rw [Nat.add_zero, Nat.mul_comm q P]; omega
theorem rz_spec {n : Nat} (h : n < 2 ^ K97) : ∃ k : Nat, k ≤ 2044 ∧ rv (rz n) = rne n k * 2 ^ k ∧ rz n < 9218868437227405312 ∧ (k = 0 ∨ 2 ^ (52 + k) ≤ n) ∧ n < 2 ^ (53 + k) := by
  by_cases h0 : n = 0
  · refine ⟨0, by omega, ?_, ?_, .inl rfl, by rw [h0]; exact Nat.two_pow_pos _⟩
    · rw [h0, rne_zero]; unfold rz rndN; rw [if_pos rfl]; rfl
    · rw [h0]; unfold rz rndN; rw [if_pos rfl]; decide
  have hl0 : n.log2 < K97 := (Nat.log2_lt h0).2 h
  have hl : n.log2 < 2097 := hl0
  have h1 : n < 2 ^ (n.log2 + 1) := Nat.lt_log2_self
  have h2 : 2 ^ n.log2 ≤ n := Nat.log2_self_le h0
  have hk : kap 52 11 n (-1074) = ((n.log2 - 52 : Nat) : Int) := by
    have : kap 52 11 n (-1074) = max ((n.log2 : Int) - (52 : Nat)) (lst 52 11 - -1074) := rfl
    rw [this, show lst 52 11 - -1074 = 0 by decide]; omega
  have hr := rnd_kept (f := 52) (e := 11) (E := -1074) h0 (by rw [hk]; omega)
  rw [hk, show (((n.log2 - 52 : Nat) : Int)).toNat = n.log2 - 52 by omega, rnd_rz] at hr
  have hle : n < 2 ^ ((n.log2 - 52) + 53) := Nat.lt_of_lt_of_le h1 (Nat.pow_le_pow_right (by decide) (by omega))
  have hb := rne_le hle
  have hrep : Rep (rne n (n.log2 - 52) * 2 ^ (n.log2 - 52)) := by
    by_cases he : rne n (n.log2 - 52) = 2 ^ 53
    · rw [he, show (2 : Nat) ^ 53 * 2 ^ (n.log2 - 52) = 2 ^ 52 * 2 ^ (n.log2 - 52 + 1) by rw [Nat.pow_succ 2 (n.log2 - 52)]; omega]
      exact rep_mul _ _ (by decide) (by omega)
    · exact rep_mul _ _ (by omega) (by omega)
  have hr' : rz n = rz (rne n (n.log2 - 52) * 2 ^ (n.log2 - 52)) := hr
  refine ⟨n.log2 - 52, by omega, by rw [hr']; exact hrep.1, by rw [hr']; exact hrep.2, ?_, by rw [Nat.add_comm]; exact hle⟩
  by_cases h52 : n.log2 ≤ 52
  · left; omega
  · right; exact Nat.le_trans (Nat.pow_le_pow_right (by decide) (by omega)) h2
/-- What rounding does: a grid of 2^k, the nearest on it. -/
theorem RZ_spec {z : Int} (h : z.natAbs < 2 ^ K97) : ∃ k : Nat, ((2 ^ k : Nat) : Int) ∣ RZ z ∧ 2 * (RZ z - z).natAbs ≤ 2 ^ k ∧ (k = 0 ∨ 4503599627370496 * 2 ^ k ≤ z.natAbs) ∧ z.natAbs < 9007199254740992 * 2 ^ k ∧ (RZ z).natAbs ≤ 9007199254740992 * 2 ^ k := by
  obtain ⟨k, k0, k1, k2, k3, k4⟩ := rz_spec h
  obtain ⟨n1, n2⟩ := rne_near z.natAbs k
  have hle := rne_le (M := z.natAbs) (k := k) (b := 53) (by rw [Nat.add_comm]; exact k4)
  rw [Nat.pow_add] at k3 k4
  refine ⟨k, ?_, ?_, ?_, by omega, ?_⟩
  · unfold RZ
    rw [k1]
    have hd : ((2 ^ k : Nat) : Int) ∣ ((rne z.natAbs k * 2 ^ k : Nat) : Int) := Int.ofNat_dvd.2 (Nat.dvd_mul_left _ _)
    unfold sgn
    cases decide (z < 0)
    · exact hd
    · exact (Int.dvd_neg).2 hd
  · unfold RZ
    rw [k1]
    generalize rne z.natAbs k * 2 ^ k = r at *
    unfold sgn
    by_cases hz : z < 0
    · simp [hz]; omega
    · simp [hz]; omega
  · rcases k3 with k3 | k3
    · exact .inl k3
    · right; omega
  · unfold RZ
    rw [k1]
    have hm : rne z.natAbs k * 2 ^ k ≤ 9007199254740992 * 2 ^ k := Nat.mul_le_mul_right _ (by omega)
    generalize rne z.natAbs k * 2 ^ k = r at *
    unfold sgn
    cases decide (z < 0)
    · simpa using hm
    · simpa using hm
theorem dvd_gap {P : Nat} {x y : Int} (hx : (P : Int) ∣ x) (hy : (P : Int) ∣ y) (h : x ≠ y) : P ≤ (x - y).natAbs :=
  Nat.le_of_dvd (by omega) (Int.ofNat_dvd_left.1 (Int.dvd_sub hx hy))
theorem pow_split {e k : Nat} (h : e < k) : ((2 ^ e : Nat) : Int) ∣ ((2 ^ k : Nat) : Int) ∧ 2 * 2 ^ e ≤ 2 ^ k := by
  constructor
  · exact Int.ofNat_dvd.2 (Nat.pow_dvd_pow 2 (by omega))
  · have := Nat.pow_le_pow_right (n := 2) (by decide) (show e + 1 ≤ k by omega)
    rw [Nat.pow_succ] at this; omega
theorem pow_in {e k : Nat} (h : e ≤ k) : ((2 ^ e : Nat) : Int) ∣ ((2 ^ k : Nat) : Int) := Int.ofNat_dvd.2 (Nat.pow_dvd_pow 2 h)
theorem near_grid {z g : Int} {k : Nat} (h1 : ((2 ^ k : Nat) : Int) ∣ RZ z) (h2 : 2 * (RZ z - z).natAbs ≤ 2 ^ k) (hg : ((2 ^ k : Nat) : Int) ∣ g) : (RZ z - z).natAbs ≤ (g - z).natAbs := by
  by_cases he : g = RZ z
  · rw [he]; exact Nat.le_refl _
  · have := dvd_gap hg h1 he
    generalize 2 ^ k = P at *
    omega
theorem near_any {z f : Int} (h : z.natAbs < 2 ^ K97) (hf : Fz f) : (RZ z - z).natAbs ≤ (f - z).natAbs := by
  obtain ⟨k, h1, h2, h3, h4, h5⟩ := RZ_spec h
  obtain ⟨e, e1, e2⟩ := hf
  rcases Nat.lt_or_ge e k with hek | hek
  · obtain ⟨_, p2⟩ := pow_split hek
    have h3' : 4503599627370496 * 2 ^ k ≤ z.natAbs := by
      rcases h3 with h3 | h3
      · omega
      · exact h3
    have hg := near_grid h1 h2 (g := if z < 0 then -((4503599627370496 * 2 ^ k : Nat) : Int) else ((4503599627370496 * 2 ^ k : Nat) : Int)) (by
      have hd : ((2 ^ k : Nat) : Int) ∣ ((4503599627370496 * 2 ^ k : Nat) : Int) := Int.ofNat_dvd.2 (Nat.dvd_mul_left _ _)
      split
      · exact (Int.dvd_neg).2 hd
      · exact hd)
    generalize RZ z = r at *
    generalize 2 ^ k = P at *
    generalize 2 ^ e = Q at *
    split at hg <;> omega
  · exact near_grid h1 h2 (Int.dvd_trans (pow_in hek) e1)
theorem near_rel {z : Int} (h : z.natAbs < 2 ^ K97) : 1024 * (RZ z - z).natAbs ≤ z.natAbs := by
  obtain ⟨k, h1, h2, h3, h4, h5⟩ := RZ_spec h
  rcases h3 with h3 | h3
  · rw [h3] at h2; omega
  · omega
theorem RZ_rep {z : Int} (h : z.natAbs < 2 ^ K97) : Fz (RZ z) := by
  obtain ⟨k, h1, h2, h3, h4, h5⟩ := RZ_spec h
  exact ⟨k, h1, h5⟩
theorem RZ_id {z : Int} (h : z.natAbs < 2 ^ K97) (hz : Fz z) : RZ z = z := by
  have := near_any h hz
  omega
theorem Fz_neg {z : Int} (h : Fz z) : Fz (-z) := by
  obtain ⟨e, e1, e2⟩ := h
  exact ⟨e, (Int.dvd_neg).2 e1, by rw [Int.natAbs_neg]; exact e2⟩
theorem Fz_zero : Fz 0 := ⟨0, Int.dvd_zero _, by simp⟩
/-- What a sum loses is a number. -/
theorem lost_rep {a b : Int} (ha : Fz a) (hb : Fz b) (h : (a + b).natAbs < 2 ^ K97) : Fz (a + b - RZ (a + b)) := by
  have na := near_any h ha
  have nb := near_any h hb
  obtain ⟨k, h1, h2, h3, h4, h5⟩ := RZ_spec h
  obtain ⟨p, p1, p2⟩ := ha
  obtain ⟨q, q1, q2⟩ := hb
  rcases Nat.le_total p q with hpq | hpq
  · have q1' := Int.dvd_trans (pow_in hpq) q1
    rcases Nat.lt_or_ge p k with hk | hk
    · refine ⟨p, Int.dvd_sub (Int.dvd_add p1 q1') (Int.dvd_trans (pow_in (Nat.le_of_lt hk)) h1), ?_⟩
      generalize RZ (a + b) = r at *
      omega
    · have hg := near_grid h1 h2 (Int.dvd_trans (pow_in hk) (Int.dvd_add p1 q1'))
      have : a + b - RZ (a + b) = 0 := by omega
      rw [this]; exact Fz_zero
  · have p1' := Int.dvd_trans (pow_in hpq) p1
    rcases Nat.lt_or_ge q k with hk | hk
    · refine ⟨q, Int.dvd_sub (Int.dvd_add p1' q1) (Int.dvd_trans (pow_in (Nat.le_of_lt hk)) h1), ?_⟩
      generalize RZ (a + b) = r at *
      omega
    · have hg := near_grid h1 h2 (Int.dvd_trans (pow_in hk) (Int.dvd_add p1' q1))
      have : a + b - RZ (a + b) = 0 := by omega
      rw [this]; exact Fz_zero
theorem Fz_strict {z : Int} (h : Fz z) : ∃ e : Nat, ((2 ^ e : Nat) : Int) ∣ z ∧ z.natAbs + 2 ^ e ≤ 9007199254740992 * 2 ^ e := by
  obtain ⟨e, e1, e2⟩ := h
  by_cases he : z.natAbs = 9007199254740992 * 2 ^ e
  · refine ⟨e + 1, ?_, by rw [Nat.pow_succ]; omega⟩
    have hn : (2 ^ (e + 1)) ∣ z.natAbs := by rw [he, Nat.pow_succ]; exact ⟨4503599627370496, by omega⟩
    exact Int.ofNat_dvd_left.2 hn
  · refine ⟨e, e1, ?_⟩
    obtain ⟨c, hc⟩ := Int.ofNat_dvd_left.1 e1
    rw [hc] at e2 he ⊢
    have hlt : c < 9007199254740992 := by
      refine Nat.lt_of_mul_lt_mul_left (a := 2 ^ e) ?_
      rw [Nat.mul_comm (2 ^ e) 9007199254740992]; omega
    have := Nat.mul_le_mul_left (2 ^ e) (show c + 1 ≤ 9007199254740992 by omega)
    rw [Nat.mul_add, Nat.mul_one, Nat.mul_comm (2 ^ e) 9007199254740992] at this
    exact this
/-- Dekker: with the greater first, what was added is a number. -/
theorem dekker {a b : Int} (ha : Fz a) (hb : Fz b) (hab : b.natAbs ≤ a.natAbs) (h : (a + b).natAbs < 2 ^ K97) : Fz (RZ (a + b) - a) := by
  obtain ⟨k, h1, h2, h3, h4, h5⟩ := RZ_spec h
  by_cases hd : ((2 ^ k : Nat) : Int) ∣ a + b
  · have hg := near_grid h1 h2 hd
    have : RZ (a + b) - a = b := by omega
    rw [this]; exact hb
  obtain ⟨p, p1, p2⟩ := Fz_strict ha
  have hk0 : k ≠ 0 := by
    intro hk; apply hd; rw [hk]; exact Int.one_dvd _
  have h3' : 4503599627370496 * 2 ^ k < (a + b).natAbs := by
    rcases h3 with h3 | h3
    · exact absurd h3 hk0
    · refine Nat.lt_of_le_of_ne h3 fun he => hd (Int.ofNat_dvd_left.2 ?_)
      rw [← he]; exact Nat.dvd_mul_left _ _
  have hkp : k ≤ p + 1 := by
    refine Nat.le_of_not_lt fun hlt => ?_
    have := Nat.pow_le_pow_right (n := 2) (by decide) (show p + 2 ≤ k by omega)
    rw [Nat.pow_add] at this
    generalize 2 ^ k = P at *; generalize 2 ^ p = A at *
    omega
  by_cases hk1 : k = p + 1
  · have hP : 2 ^ k = 2 * 2 ^ p := by rw [hk1, Nat.pow_succ]; omega
    refine ⟨p, Int.dvd_sub (Int.dvd_trans (pow_in (by omega)) h1) p1, ?_⟩
    rw [hP] at h2
    generalize 2 ^ p = A at *; generalize RZ (a + b) = r at *
    omega
  · have hkp' : k ≤ p := by omega
    have pk := Int.dvd_trans (pow_in hkp') p1
    obtain ⟨q, q1, q2⟩ := hb
    have hqk : q < k := Nat.lt_of_not_le fun hle => hd (Int.dvd_add pk (Int.dvd_trans (pow_in hle) q1))
    obtain ⟨_, hq⟩ := pow_split hqk
    refine ⟨k, Int.dvd_sub h1 pk, ?_⟩
    generalize 2 ^ k = P at *; generalize 2 ^ q = B at *; generalize RZ (a + b) = r at *
    omega
/-- Sterbenz. -/
theorem sterbenz {x y : Int} (hx : Fz x) (hy : Fz y) (hs : 0 ≤ x ∧ 0 ≤ y ∨ x ≤ 0 ∧ y ≤ 0) (h1 : x.natAbs ≤ 2 * y.natAbs) (h2 : y.natAbs ≤ 2 * x.natAbs) : Fz (x - y) := by
  obtain ⟨p, p1, p2⟩ := hx
  obtain ⟨q, q1, q2⟩ := hy
  rcases Nat.le_total p q with hpq | hpq
  · refine ⟨p, Int.dvd_sub p1 (Int.dvd_trans (pow_in hpq) q1), ?_⟩
    generalize 2 ^ p = A at *
    omega
  · refine ⟨q, Int.dvd_sub (Int.dvd_trans (pow_in hpq) p1) q1, ?_⟩
    generalize 2 ^ q = A at *
    omega
theorem close_b {a b s t : Int} (h : a.natAbs < b.natAbs) (r1 : 1024 * (s - (a + b)).natAbs ≤ (a + b).natAbs) (r2 : 1024 * (t - (s + -a)).natAbs ≤ (s + -a).natAbs) :
    (0 ≤ b ∧ 0 ≤ t ∨ b ≤ 0 ∧ t ≤ 0) ∧ b.natAbs ≤ 2 * t.natAbs ∧ t.natAbs ≤ 2 * b.natAbs := by
  obtain ⟨d, hd⟩ : ∃ d, d = s - (a + b) := ⟨_, rfl⟩
  obtain ⟨g, hg⟩ : ∃ g, g = t - (s + -a) := ⟨_, rfl⟩
  rw [← hd] at r1
  rw [← hg] at r2
  have hs : s + -a = b + d := by omega
  rw [hs] at r2
  have ht : t = b + d + g := by omega
  subst ht
  clear hs hd hg s
  have q1 : (a + b).natAbs ≤ 2 * b.natAbs := by omega
  have q2 : (b + d).natAbs ≤ b.natAbs + d.natAbs := by omega
  have q3 : 100 * d.natAbs ≤ b.natAbs := by omega
  have q4 : 100 * g.natAbs ≤ b.natAbs := by omega
  clear r1 r2 q1 q2 h
  refine ⟨by omega, by omega, by omega⟩
theorem ring_a (a b s t : Int) : a - s + t + (b - t) = a + b - s := by omega
theorem ring_b (a b s : Int) : s + (a + b - s) = a + b := by omega
/-- Knuth: two numbers, their sum rounded, and what it lost. -/
theorem knuth {a b M : Int} (hM : 4 * M.natAbs ≤ 2 ^ K97) (ha : Fz a) (hb : Fz b) (hA : a.natAbs < M.natAbs) (hB : b.natAbs < M.natAbs) {s t v x y e : Int}
    (hs : s = RZ (a + b)) (ht : t = RZ (s - a)) (hv : v = RZ (s - t)) (hx : x = RZ (a - v)) (hy : y = RZ (b - t)) (he : e = RZ (x + y)) :
    s + e = a + b ∧ (a + b).natAbs < 2 ^ K97 ∧ (s - a).natAbs < 2 ^ K97 ∧ (s - t).natAbs < 2 ^ K97 ∧ (a - v).natAbs < 2 ^ K97 ∧ (b - t).natAbs < 2 ^ K97 ∧ (x + y).natAbs < 2 ^ K97 := by
  generalize hK : 2 ^ K97 = K at *
  have b1 : (a + b).natAbs < K := by omega
  have b1' : (a + b).natAbs < 2 ^ K97 := by rw [hK]; exact b1
  have n1 := near_any b1' ha
  have n2 := near_any b1' hb
  rw [← hs] at n1 n2
  have hAK : a.natAbs < K := by clear n1 n2; omega
  have b7 : (a + b - s).natAbs < K := by omega
  have fs : Fz s := by rw [hs]; exact RZ_rep b1'
  have l1 := lost_rep ha hb b1'
  rw [← hs] at l1
  have b2 : (s - a).natAbs < K := by omega
  have b2' : (s - a).natAbs < 2 ^ K97 := by rw [hK]; exact b2
  have fd : (Fz (s - a)) → s + e = a + b ∧ (s - t).natAbs < K ∧ (a - v).natAbs < K ∧ (b - t).natAbs < K ∧ (x + y).natAbs < K := by
    intro hd
    have e1 : t = s - a := by rw [ht, RZ_id b2' hd]
    have e2 : s - t = a := by omega
    have b3 : (s - t).natAbs < K := by omega
    have e3 : v = a := by rw [hv, e2]; exact RZ_id (by rw [hK]; omega) ha
    have e4 : x = 0 := by rw [hx, e3, Int.sub_self]; exact RZ_id (by rw [hK]; simp; omega) Fz_zero
    have e5 : b - t = a + b - s := by omega
    have b4 : (b - t).natAbs < K := by omega
    have e6 : y = a + b - s := by rw [hy, e5]; exact RZ_id (by rw [hK]; omega) l1
    have e7 : x + y = a + b - s := by omega
    have e8 : e = a + b - s := by rw [he, e7]; exact RZ_id (by rw [hK]; omega) l1
    refine ⟨by omega, b3, by omega, b4, by omega⟩
  by_cases hab : b.natAbs ≤ a.natAbs
  · have hd := dekker ha hb hab b1'
    rw [← hs] at hd
    obtain ⟨r1, r2, r3, r4, r5⟩ := fd hd
    exact ⟨r1, b1, b2, r2, r3, r4, r5⟩
  by_cases hsa : s.natAbs < a.natAbs
  · have n5 := near_any b1' (Fz_neg ha)
    rw [← hs] at n5
    have fb : Fz (a + b) := by
      have := sterbenz (Fz_neg ha) hb (by omega) (by omega) (by omega)
      have h2 := Fz_neg this
      rw [show -(-a - b) = a + b by omega] at h2
      exact h2
    have e0 : s = a + b := by rw [hs]; exact RZ_id b1' fb
    obtain ⟨r1, r2, r3, r4, r5⟩ := fd (by rw [show s - a = b by omega]; exact hb)
    exact ⟨r1, b1, b2, r2, r3, r4, r5⟩
  · have hna := Fz_neg ha
    have b2n : (s + -a).natAbs < 2 ^ K97 := by rw [hK]; omega
    have ht' : t = RZ (s + -a) := by rw [ht, Int.sub_eq_add_neg]
    have n3 := near_any b2n fs
    have n4 := near_any b2n hna
    have dk := dekker fs hna (by omega) b2n
    have l2 := lost_rep fs hna b2n
    rw [← ht'] at n3 n4 dk l2
    have ft : Fz t := by rw [ht']; exact RZ_rep b2n
    have m3 : (t - (s + -a)).natAbs ≤ a.natAbs := by
      rw [show s - (s + -a) = a by clear n1 n2 n3 n4 b7; omega] at n3; exact n3
    have b3 : (s - t).natAbs < K := by omega
    have e3 : v = s - t := by rw [hv]; exact RZ_id (by rw [hK]; exact b3) (by have := Fz_neg dk; rw [show -(t - s) = s - t by omega] at this; exact this)
    have e4 : a - v = -(s + -a - t) := by omega
    have b4 : (a - v).natAbs < K := by
      rw [e4, Int.natAbs_neg, show s + -a - t = -(t - (s + -a)) by clear n1 n2 n3 n4 b7 b3; omega, Int.natAbs_neg]
      exact Nat.lt_of_le_of_lt m3 hAK
    have e5 : x = a - s + t := by rw [hx, e4, RZ_id (by rw [hK]; omega) (Fz_neg l2)]; omega
    have r1 := near_rel b1'
    have r2 := near_rel b2n
    rw [← hs] at r1
    rw [← ht'] at r2
    obtain ⟨c1, c2, c3⟩ := close_b (by omega) r1 r2
    clear n1 n2 n3 n4 r1 r2 hs ht ht' hsa
    have b5 : (b - t).natAbs < K := by omega
    have fy : Fz (b - t) := sterbenz hb ft c1 c2 c3
    have e6 : y = b - t := by rw [hy]; exact RZ_id (by rw [hK]; exact b5) fy
    have e7 : x + y = a + b - s := by rw [e5, e6]; exact ring_a a b s t
    have e8 : e = a + b - s := by rw [he, e7]; exact RZ_id (by rw [hK]; exact b7) l1
    exact ⟨by rw [e8]; exact ring_b a b s, b1, b2, b3, b4, b5, by rw [e7]; exact b7⟩
end Go.Proofs.Ytjakjnmfndfehaa
