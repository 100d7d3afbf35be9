/- The document's numbers of 280 digits: a bit, a number scaled: walks. Conditions: places within the digits. -/
import Derived.Test.YtjakjnmfndfehaaTq
namespace Go.Pst
open Go Ieee
set_option linter.unusedVariables false
set_option linter.unusedSimpArgs false
/-- Digits as a number. -/
def dv (Y : Nat → Int) : Nat → Nat
  | 0 => 0
  | n + 1 => dv Y n + (Y n).toNat * 65536 ^ n
theorem dv_bv {Y : Nat → Int} : ∀ n, (∀ i, i < n → 0 ≤ Y i ∧ Y i < 65536) → (dv Y n : Int) = bv Y n
  | 0, _ => rfl
  | n + 1, h => by
    have h1 := dv_bv n fun i hi => h i (by omega)
    have h2 := h n (by omega)
    unfold dv bv
    rw [Int.natCast_add, Int.natCast_mul, h1, Int.toNat_of_nonneg h2.1]
theorem dv_lt {Y : Nat → Int} (n : Nat) (h : ∀ i, i < n → 0 ≤ Y i ∧ Y i < 65536) : dv Y n < 65536 ^ n := by
  have h1 := dv_bv n h
  have h2 := bv_nonneg n h
  omega
theorem dv_place {Y : Nat → Int} : ∀ n, (∀ i, i < n → 0 ≤ Y i ∧ Y i < 65536) → ∀ k, k < n → dv Y n / 65536 ^ k % 65536 = (Y k).toNat
  | 0, _, k, hk => by omega
  | n + 1, hb, k, hk => by
    have h1 := dv_lt n fun i hi => hb i (by omega)
    have h2 := hb n (by omega)
    have hp : 0 < 65536 ^ k := Nat.pow_pos (by omega)
    unfold dv
    by_cases h : k = n
    · subst h
      rw [Nat.add_mul_div_right _ _ hp, Nat.div_eq_of_lt h1, Nat.zero_add, Nat.mod_eq_of_lt (by omega)]
    · have ih := dv_place n (fun i hi => hb i (by omega)) k (by omega)
      obtain ⟨d, rfl⟩ : ∃ d, n = k + 1 + d := ⟨n - k - 1, by omega⟩
      rw [show (Y (k + 1 + d)).toNat * 65536 ^ (k + 1 + d) = (Y (k + 1 + d)).toNat * 65536 ^ d * 65536 * 65536 ^ k by
        rw [Nat.pow_add, Nat.pow_succ]; simp only [Nat.mul_assoc, Nat.mul_comm, Nat.mul_left_comm]]
      rw [Nat.add_mul_div_right _ _ hp, Nat.add_mul_mod_self_right]
      exact ih
theorem dig_bit {Y : Nat → Int} (hY : IsDig Y) {n : Nat} (hn : n < 4480) : (Y (n / 16)).toNat / 2 ^ (n % 16) % 2 = dv Y 280 / 2 ^ n % 2 := by
  have h := dv_place 280 hY (n / 16) (by omega)
  rw [← h]
  generalize dv Y 280 = N
  rw [show (65536 : Nat) ^ (n / 16) = 2 ^ (16 * (n / 16)) by rw [show (65536 : Nat) = 2 ^ 16 from rfl, ← Nat.pow_mul]]
  rw [show (65536 : Nat) = 2 ^ (n % 16) * 2 ^ (16 - n % 16) by rw [← Nat.pow_add, show n % 16 + (16 - n % 16) = 16 by omega], Nat.mod_mul_right_div_self]
  rw [show 2 ^ (16 - n % 16) = 2 * 2 ^ (15 - n % 16) by rw [show 16 - n % 16 = 15 - n % 16 + 1 by omega, Nat.pow_succ, Nat.mul_comm], Nat.mod_mul_right_mod, Nat.div_div_eq_div_mul, ← Nat.pow_add,
    show 16 * (n / 16) + n % 16 = n by omega]
/-- Bits out of digits and a power. -/
def scV (m : Nat) (e : Int) : Nat :=
  if m < 4503599627370496 then m else if 2047 ≤ (if m = 9007199254740992 then e + 1 else e) + 1075 then 9218868437227405312
  else ((if m = 9007199254740992 then e + 1 else e) + 1075).toNat * 4503599627370496 + (if m = 9007199254740992 then 4503599627370496 else m) % 4503599627370496
theorem scV_rnd {N : Nat} (h : N ≠ 0) {E : Int} (hk : 0 ≤ kap 52 11 N E) : scV (rne N (kap 52 11 N E).toNat) (E + kap 52 11 N E) = rndN 52 11 N E := by
  obtain ⟨k1, k2, k3⟩ := kept_facts 52 11 N E h
  have hkn : keptN 52 11 N E = rne N (kap 52 11 N E).toNat := by unfold keptN; rw [if_pos hk]
  rw [hkn] at k1 k2
  have hf := rnd_fin 52 11 _ _ (by omega) k1 k2 k3
  have hR : rndN 52 11 N E = min ((E + kap 52 11 N E - lst 52 11).toNat * 2 ^ 52 + keptN 52 11 N E) ((2 ^ 11 - 1) * 2 ^ 52) := by unfold rndN; rw [if_neg h]
  rw [hR, hkn, hf]
  have hl : lst 52 11 = -1074 := by decide
  rw [hl]
  unfold scV
  generalize rne N (kap 52 11 N E).toNat = n
  generalize E + kap 52 11 N E = x
  rw [show (2 : Nat) ^ 52 = 4503599627370496 from rfl, show (2 : Nat) ^ (52 + 1) = 9007199254740992 from rfl, show ((2 ^ 11 - 1 : Nat) : Int) = 2047 from rfl, show (2 ^ 11 - 1) * 4503599627370496 = 9218868437227405312 from rfl]
  generalize (if n = 9007199254740992 then x + 1 else x) = y
  generalize (if n = 9007199254740992 then 4503599627370496 else n) = z
  rw [show y - -1074 + 1 = y + 1075 by omega]
end Go.Pst
namespace Go.Proofs.Ytjakjnmfndfehaa
open Go.RowKit Go.Pst
set_option maxRecDepth 20000
set_option linter.unusedSimpArgs false
set_option linter.unusedVariables false

theorem and1 (c : Int) (h1 : 0 ≤ c) (h2 : c < 9223372036854775808) : bits .and .i64 c 1 = c % 2 := by
  show IntKind.i64.wrap ((BitVec.ofInt 64 c &&& BitVec.ofInt 64 1).toNat : Int) = _
  rw [BitVec.toNat_and, BitVec.toNat_ofInt, BitVec.toNat_ofInt]
  rw [show ((1 : Int) % ((2 ^ 64 : Nat) : Int)).toNat = 1 from by decide, Nat.and_one_is_mod, IntKind.wrap_i64]
  omega

set_option maxHeartbeats 1000000 in
theorem rbit_any (Y : Nat → Int) (n : Nat) (w : World) (hY : IsDig Y) (hn : n < 4480) :
    Calls Try.prog 127 #[.agg (bcells Y).toArray, .int .i64 n] w fun en w' => en = .returned (.int .i64 ((dv Y 280 / 2 ^ n % 2 : Nat) : Int)) ∧ Below w.heap.size w w' := by
  have h := dig_bit hY hn
  have hb := hY (n / 16) (by omega)
  have gk := bcells_get Y (i := n / 16) (by omega)
  have hg : (bcells Y).toArray[n / 16]? = some (.int .i64 (Y (n / 16))) := by rw [List.getElem?_toArray]; exact gk
  have h0 : (0 : Int) ≤ (n : Int) := by omega
  have h1 : (n : Int) / 16 < 280 := by omega
  have h2 : (n : Int) < 4480 := by omega
  rw [← h]
  obtain ⟨y, hy⟩ : ∃ y : Nat, y = (Y (n / 16)).toNat := ⟨_, rfl⟩
  have hy2 : Y (n / 16) = (y : Int) := by omega
  rw [← hy]
  rw [hy2] at hg hb
  have HR : Hid (bits BinOp.and IntKind.i64 ((y : Int) / 2 ^ (n % 16)) 1 = ((y / 2 ^ (n % 16) % 2 : Nat) : Int)) := Lib.hid (by
    rw [show ((y : Int) / 2 ^ (n % 16)) = ((y / 2 ^ (n % 16) : Nat) : Int) by rw [Int.natCast_ediv, Int.natCast_pow]; rfl]
    have hd := Nat.div_le_self y (2 ^ (n % 16))
    generalize y / 2 ^ (n % 16) = z at *
    rw [and1 _ (by omega) (by omega)]
    omega)
  clear hy hy2 gk h
  go_enter Try.func127, Try.ntmps127
  go_wp2_with fail
  go_ret
  exact ⟨by rw [HR.out]; rfl, (Below.refl _ _).alloc (Nat.le_refl _) _⟩

attribute [local go_sem] m64bits m64from
set_option maxHeartbeats 1000000 in
theorem scaled_any (m : Nat) (e : Int) (w : World) (hm : m ≤ 9007199254740992) (he : -1074 ≤ e ∧ e ≤ 100000) :
    Calls Try.prog 128 #[.int .i64 m, .int .i64 e] w fun en w' => en = .returned (.float .f64 (scV m e)) ∧ w = w' := by
  obtain ⟨r, hr⟩ : ∃ r, r = scV m e := ⟨_, rfl⟩
  rw [← hr]
  unfold scV at hr
  have main : ∀ (M : Nat) (E : Int), 4503599627370496 ≤ M → M < 9007199254740992 → -1074 ≤ E → E ≤ 100001 → (r = if 2047 ≤ E + 1075 then 9218868437227405312 else (E + 1075).toNat * 4503599627370496 + M % 4503599627370496) →
      (¬ 2047 ≤ E + 1075 → bits .or .u64 ((E + 1075) * 4503599627370496) ((M : Int) - 4503599627370496) = (r : Int)) := fun M E a1 a2 a3 a4 a5 a6 => by
    rw [if_neg a6] at a5
    obtain ⟨F, hF⟩ : ∃ F : Nat, E + 1075 = (F : Int) := ⟨(E + 1075).toNat, by omega⟩
    rw [hF] at a5 a6 ⊢
    have h2 : M % 4503599627370496 = M - 4503599627370496 := by omega
    have h4 := or_disj2 (x := M - 4503599627370496) (y := F) (n := 52) (by omega) (by omega) (by omega)
    rw [show ((F : Int) * 4503599627370496) = ((F * 4503599627370496 : Nat) : Int) by omega, show ((M : Int) - 4503599627370496) = ((M - 4503599627370496 : Nat) : Int) by omega]
    rw [show (2 : Nat) ^ 52 = 4503599627370496 from rfl] at h4
    rw [h4, a5, h2, Int.toNat_natCast]
  by_cases h1 : m < 4503599627370496
  · rw [if_pos h1] at hr
    obtain ⟨M, hM⟩ : ∃ M : Int, M = (m : Int) := ⟨_, rfl⟩
    have HR : Hid (M.toNat = r) := Lib.hid (by rw [hM, hr]; rfl)
    have g1 : M < 4503599627370496 := by omega
    have g0 : 0 ≤ M := by omega
    rw [← hM]
    clear hr hm h1 hM main
    go_enter Try.func128, Try.ntmps128
    go_wp2_with fail
    go_ret
    exact ⟨congrArg (fun x => Ending.returned (Value.float .f64 x)) HR.out, rfl⟩
  · rw [if_neg h1] at hr
    by_cases h2 : m = 9007199254740992
    · rw [if_pos h2, if_pos h2] at hr
      have hor := main 4503599627370496 (e + 1) (by omega) (by omega) (by omega) (by omega) hr
      rw [h2]
      by_cases h3 : 2047 ≤ e + 1 + 1075
      · rw [if_pos h3] at hr
        have HR := Lib.hid hr.symm
        clear hr hor main hm h1 h2
        go_enter Try.func128, Try.ntmps128
        go_wp2_with fail
        go_ret
        exact ⟨congrArg (fun x => Ending.returned (Value.float .f64 x)) HR.out, rfl⟩
      · have hor2 := hor h3
        rw [show ((4503599627370496 : Nat) : Int) - 4503599627370496 = 0 from rfl] at hor2
        have HR : Hid ((bits .or .u64 ((e + 1 + 1075) * 4503599627370496) 0).toNat = r) := Lib.hid (by rw [hor2, Int.toNat_natCast])
        have h3' : e + 1 + 1075 < 2047 := by omega
        clear hr hor main hm h1 h2 hor2 h3
        go_enter Try.func128, Try.ntmps128
        go_wp2_with fail
        go_ret
        exact ⟨congrArg (fun x => Ending.returned (Value.float .f64 x)) HR.out, rfl⟩
    · rw [if_neg h2, if_neg h2] at hr
      have hor := main m e (by omega) (by omega) (by omega) (by omega) hr
      obtain ⟨M, hM⟩ : ∃ M : Int, M = (m : Int) := ⟨_, rfl⟩
      rw [← hM] at hor ⊢
      have g1 : 4503599627370496 ≤ M := by omega
      have g2 : M < 9007199254740992 := by omega
      by_cases h3 : 2047 ≤ e + 1075
      · rw [if_pos h3] at hr
        have HR := Lib.hid hr.symm
        clear hr hor main hm h1 h2 hM
        go_enter Try.func128, Try.ntmps128
        go_wp2_with fail
        go_ret
        exact ⟨congrArg (fun x => Ending.returned (Value.float .f64 x)) HR.out, rfl⟩
      · have hor2 := hor h3
        have HR : Hid ((bits .or .u64 ((e + 1075) * 4503599627370496) (M - 4503599627370496)).toNat = r) := Lib.hid (by rw [hor2, Int.toNat_natCast])
        have h3' : e + 1075 < 2047 := by omega
        clear hr hor main hm h1 h2 hor2 h3 hM
        go_enter Try.func128, Try.ntmps128
        go_wp2_with fail
        go_ret
        exact ⟨congrArg (fun x => Ending.returned (Value.float .f64 x)) HR.out, rfl⟩
end Go.Proofs.Ytjakjnmfndfehaa
