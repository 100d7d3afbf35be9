/- A float out of its parts, both texts, whole. Condition: sizes of at most 52 and 11 bits. -/
import Derived.Test.YtpemchghaddgdaaRd
import Derived.Test.YtpemchghaddgdaaPm
namespace Go.Proofs.Ytpemchghaddgdaa
open Go.RowKit Go.Pst
set_option maxRecDepth 20000
set_option linter.unusedSimpArgs false
set_option linter.unusedVariables false

theorem of_any (f e m l : Nat) (x : FP) (w : World) (hf1 : 1 ≤ f) (hf : f ≤ 52) (he1 : 1 ≤ e) (he : e ≤ 11) (hm : x.mant = m) (hl : x.load = l) (hm64 : m < 2 ^ 64) (hl64 : l < 2 ^ 64) :
    Calls Try.prog 77 #[.agg #[.int .i64 f, .int .i64 e], x.val] w fun en w' =>
      en = .returned (.tuple #[.int .u64 (ofN f e x m l), .bool (decide (partsN f e (ofN f e x m l) = x))]) ∧ Below w.heap.size w w' := by
  have a0 : (2 : Int) ^ f = ((2 ^ f : Nat) : Int) := by simp
  have a1 : 1 ≤ 2 ^ f := Nat.one_le_two_pow
  have a2 : 2 ^ f ≤ 2 ^ 52 := Nat.pow_le_pow_right (by omega) hf
  have a3' : 2 ^ e ≤ 2 ^ 11 := Nat.pow_le_pow_right (by omega) he
  have a3 : 2 ^ e - 1 ≤ 2047 := by omega
  have a4 : 1 ≤ 2 ^ (f + e) := Nat.one_le_two_pow
  have a5 : 2 ^ (f + e) ≤ 2 ^ 63 := pow_lt64 (by omega)
  have hTP := top_lt hf he
  have bT : IntKind.u64.wrap (((2 ^ e - 1 : Nat) : Int) * ((2 ^ f : Nat) : Int)) = (((2 ^ e - 1) * 2 ^ f : Nat) : Int) := by rw [← Int.natCast_mul]; exact wrapU _ (by omega)
  have hmask : ∀ z : Nat, z < 2 ^ 64 → bits .and .u64 (z : Int) (((2 ^ f : Nat) : Int) - 1) = ((z % 2 ^ f : Nat) : Int) := fun z hz => by
    rw [← and_mask hz (by omega)]; congr 1; omega
  have hsign : ∀ u : Nat, u < 2 ^ 64 → (if x.neg then bits .or .u64 (u : Int) ((2 ^ (f + e) : Nat) : Int) else (u : Int)) = ((signedBits f e x.neg u : Nat) : Int) := fun u hu => by
    unfold signedBits; cases x.neg
    · rfl
    · exact or64 hu (by omega)
  have hs64 : ∀ u : Nat, u < 2 ^ 64 → signedBits f e x.neg u < 2 ^ 64 := fun u hu => by
    unfold signedBits; split
    · exact or_lt64 hu (by omega)
    · exact hu
  have hlP : l % 2 ^ f < 2 ^ 64 := Nat.lt_of_le_of_lt (Nat.mod_le _ _) hl64
  have hmP : m % 2 ^ f < 2 ^ 64 := Nat.lt_of_le_of_lt (Nat.mod_le _ _) hm64
  by_cases k1 : x.kind = 3
  · have hu : ofU f e x m l = (2 ^ e - 1) * 2 ^ f := by unfold ofU; rw [if_pos k1]
    have h64 : (2 ^ e - 1) * 2 ^ f < 2 ^ 64 := by omega
    unfold ofN; rw [hu]
    exact of3 f e _ _ _ _ _ x w hf1 hf he1 he (hs64 _ h64) a0 a1 a2 rfl a3 rfl a4 a5 (by simp [k1]) bT (hsign _ h64)
  · have j1 : (x.kind == 3) = false := by simp [k1]
    by_cases k2 : x.kind = 4
    · have j2 : (x.kind == 4) = true := by simp [k2]
      have b2 := or64 (a := (2 ^ e - 1) * 2 ^ f) (b := l % 2 ^ f) (by omega) hlP
      have hb2 := or_lt64 (a := (2 ^ e - 1) * 2 ^ f) (b := l % 2 ^ f) (by omega) hlP
      cases hq : x.quiet
      · have hu : ofU f e x m l = ((2 ^ e - 1) * 2 ^ f ||| l % 2 ^ f) := by unfold ofU; rw [if_neg k1, if_pos k2, hq]; rfl
        unfold ofN; rw [hu]
        exact of4 f e _ _ _ _ _ _ _ 0 x w hf1 hf he1 he (hs64 _ hb2) a0 a1 a2 rfl a3 rfl a4 a5 j1 j2 bT (by rw [hl]; exact hmask l hl64) b2 hq (hsign _ hb2)
      · have hH : 2 ^ (f - 1) ≤ 2 ^ 52 := Nat.pow_le_pow_right (by omega) (by omega)
        have b3 := or64 (a := (2 ^ e - 1) * 2 ^ f ||| l % 2 ^ f) (b := 2 ^ (f - 1)) hb2 (by omega)
        have hb3 := or_lt64 (a := (2 ^ e - 1) * 2 ^ f ||| l % 2 ^ f) (b := 2 ^ (f - 1)) hb2 (by omega)
        have hu : ofU f e x m l = ((2 ^ e - 1) * 2 ^ f ||| l % 2 ^ f) ||| 2 ^ (f - 1) := by unfold ofU; rw [if_neg k1, if_pos k2, hq]; rfl
        unfold ofN; rw [hu]
        exact of4q f e _ _ _ _ _ _ _ _ _ x w hf1 hf he1 he (hs64 _ hb3) a0 a1 a2 rfl a3 rfl a4 a5 j1 j2 bT (by rw [hl]; exact hmask l hl64) b2 hq b3 (by simp) hH (hsign _ hb3)
    · have j2 : (x.kind == 4) = false := by simp [k2]
      by_cases k3 : x.kind = 2
      · have j3 : (x.kind == 2) = true := by simp [k3]
        have hu : ofU f e x m l = ((yOf f e x * 2 ^ f % 2 ^ 64) ||| m % 2 ^ f) % 2 ^ (f + e) := by unfold ofU; rw [if_neg k1, if_neg k2, if_pos k3]
        have h1 : (yOf f e x * 2 ^ f % 2 ^ 64) < 2 ^ 64 := Nat.mod_lt _ (by omega)
        have b2 := or64 h1 hmP
        have hb2 := or_lt64 h1 hmP
        have hb3 : ((yOf f e x * 2 ^ f % 2 ^ 64) ||| m % 2 ^ f) % 2 ^ (f + e) < 2 ^ 64 := Nat.lt_of_le_of_lt (Nat.mod_le _ _) hb2
        have b3 : bits .and .u64 (((yOf f e x * 2 ^ f % 2 ^ 64) ||| m % 2 ^ f : Nat) : Int) (((2 ^ (f + e) : Nat) : Int) - 1) = ((((yOf f e x * 2 ^ f % 2 ^ 64) ||| m % 2 ^ f) % 2 ^ (f + e) : Nat) : Int) := by
          rw [← and_mask hb2 (by omega)]; congr 1; omega
        have y0 : IntKind.u64.wrap (wrap64 (wrap64 (x.exp + 1) - lst f e)) = ((yOf f e x : Nat) : Int) := by
          unfold yOf; rw [IntKind.wrap_u64]; omega
        have y1 : IntKind.u64.wrap (((yOf f e x : Nat) : Int) * ((2 ^ f : Nat) : Int)) = ((yOf f e x * 2 ^ f % 2 ^ 64 : Nat) : Int) := by
          rw [IntKind.wrap_u64, ← Int.natCast_mul]; rfl
        unfold ofN; rw [hu]
        exact of2 f e _ _ _ _ _ _ _ _ _ x w hf1 hf he1 he (hs64 _ hb3) a0 a1 a2 rfl a3 rfl a4 a5 j1 j2 j3 _ rfl (by rw [hm]; exact hmask m hm64) y0 y1 b2 b3 (hsign _ hb3)
      · have j3 : (x.kind == 2) = false := by simp [k3]
        by_cases k4 : x.kind = 1
        · have hu : ofU f e x m l = m % 2 ^ f := by unfold ofU; rw [if_neg k1, if_neg k2, if_neg k3, if_pos k4]
          unfold ofN; rw [hu]
          exact of1 f e _ _ _ _ _ x w hf1 hf he1 he (hs64 _ hmP) a0 a1 a2 rfl a3 rfl a4 a5 j1 j2 j3 (by simp [k4]) (by rw [hm]; exact hmask m hm64) (hsign _ hmP)
        · have hu : ofU f e x m l = 0 := by unfold ofU; rw [if_neg k1, if_neg k2, if_neg k3, if_neg k4]
          unfold ofN; rw [hu]
          exact of0 f e _ _ _ _ x w hf1 hf he1 he (hs64 _ (by omega)) a0 a1 a2 rfl a3 rfl a4 a5 j1 j2 j3 (by simp [k4]) (hsign 0 (by omega))

end Go.Proofs.Ytpemchghaddgdaa
