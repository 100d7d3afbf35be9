/- The document's Whole: a float as a whole number. Condition: the bits fit. -/
import Derived.Test.YtpemchghaddgdaaWm
namespace Go.Pst
open Go Ieee Go.RowKit

def sgI (neg : Bool) (n : Nat) : Int := if neg then -(n : Int) else n
/-- A finite float's whole number. -/
def whN (N : Nat) (X : Int) (neg : Bool) : Int × Bool :=
  if X = 11 ∧ neg = true ∧ N = 4503599627370496 then (-9223372036854775808, true)
  else if 10 < X then (0, false)
  else if N % 2 ^ (-X).toNat = 0 then (sgI neg (N / 2 ^ (-X).toNat * 2 ^ X.toNat), true)
  else (0, false)
def wholeB (b : Nat) : Int × Bool :=
  if nan64 b || infB b then (0, false) else if mantB b = 0 then (0, true) else whN (mantB b) ((placeB b : Int) - 1074) (negB b)

theorem mod_even {N t : Nat} (h : N % 2 ^ t = 0) (h2 : N / 2 ^ t % 2 = 0) : N % 2 ^ (t + 1) = 0 := by
  rw [Nat.mod_pow_succ, h, h2]; simp
theorem mod_odd {N t K : Nat} (htK : t < K) (h2 : N / 2 ^ t % 2 = 1) : N % 2 ^ K ≠ 0 := fun h => by
  have h3 : 2 ^ (t + 1) ∣ 2 ^ K := Nat.pow_dvd_pow 2 (by omega)
  have h4 : N % 2 ^ (t + 1) = 0 := Nat.mod_eq_zero_of_dvd (Nat.dvd_trans h3 (Nat.dvd_of_mod_eq_zero h))
  rw [Nat.mod_pow_succ, h2] at h4
  have := Nat.two_pow_pos t
  omega
theorem halve_pow (N t : Nat) : N / 2 ^ (t + 1) = N / 2 ^ t / 2 := by rw [Nat.pow_succ, Nat.div_div_eq_div_mul]

end Go.Pst
namespace Go.Proofs.Ytpemchghaddgdaa
open Go.RowKit Go.Pst
set_option maxRecDepth 20000
set_option linter.unusedSimpArgs false
set_option linter.unusedVariables false


def WhPost (r : Int × Bool) (w : World) (en : Ending) (w' : World) : Prop := en = .returned (.tuple #[.int .i64 r.1, .bool r.2]) ∧ Below w.heap.size w w'

theorem rwhole_easy (kd X L N : Int) (neg q : Bool) (b : Nat) (r : Bool) (w : World) (hk : kd = 0 ∧ r = true ∨ (kd = 4 ∨ kd = 3) ∧ X = 0 ∧ r = false)
    (hp : ∀ w, Calls Try.prog 31 #[.int .u64 b, .agg #[.int .i64 52, .int .i64 2047, .int .i64 1023]] w fun en w' => en = .returned (.agg #[.int .i64 kd, .bool neg, .int .u64 N, .int .i64 X, .bool q, .int .u64 L]) ∧ Below w.heap.size w w') :
    Calls Try.prog 42 #[.int .u64 b] w (WhPost (0, r) w) := by
  have H2 := Lib.hid fun w => size64_any w
  have H1 := Lib.hid hp; clear hp
  rcases hk with ⟨rfl, rfl⟩ | ⟨rfl | rfl, rfl, rfl⟩
  · 
    go_enter Try.func42, Try.ntmps42
    go_wp2_with fail
    have O := Reg.Own.nil w
    have zz := O.rules
    have HO := Lib.hid O; clear O
    go_wp2_with fail
    refine (H2.out _).mono ?_
    rintro en wn ⟨rfl, hbn⟩
    have O := HO.out.keep hbn
    clear HO zz
    have zz := O.rules
    have HO := Lib.hid O; clear O
    clear hbn
    go_wp2_with fail
    refine (H1.out _).mono ?_
    rintro en wn ⟨rfl, hbn⟩
    have O := HO.out.keep hbn
    clear HO zz
    have zz := O.rules
    have HO := Lib.hid O; clear O
    clear hbn
    have O := HO.out.alloc rfl #[.int .i64 0, .bool neg, .int .u64 N, .int .i64 X, .bool q, .int .u64 L] 32
    clear HO zz
    obtain ⟨c0, f0, z0, y0, -, zz⟩ := O.rules
    have HO := Lib.hid O; clear O
    go_wp2_with fail
    go_ret2
    exact ⟨rfl, HO.out.below⟩
  · 
    go_enter Try.func42, Try.ntmps42
    go_wp2_with fail
    have O := Reg.Own.nil w
    have zz := O.rules
    have HO := Lib.hid O; clear O
    go_wp2_with fail
    refine (H2.out _).mono ?_
    rintro en wn ⟨rfl, hbn⟩
    have O := HO.out.keep hbn
    clear HO zz
    have zz := O.rules
    have HO := Lib.hid O; clear O
    clear hbn
    go_wp2_with fail
    refine (H1.out _).mono ?_
    rintro en wn ⟨rfl, hbn⟩
    have O := HO.out.keep hbn
    clear HO zz
    have zz := O.rules
    have HO := Lib.hid O; clear O
    clear hbn
    have O := HO.out.alloc rfl #[.int .i64 4, .bool neg, .int .u64 N, .int .i64 0, .bool q, .int .u64 L] 32
    clear HO zz
    obtain ⟨c0, f0, z0, y0, -, zz⟩ := O.rules
    have HO := Lib.hid O; clear O
    go_wp2_with fail
    go_ret2
    exact ⟨rfl, HO.out.below⟩
  · 
    go_enter Try.func42, Try.ntmps42
    go_wp2_with fail
    have O := Reg.Own.nil w
    have zz := O.rules
    have HO := Lib.hid O; clear O
    go_wp2_with fail
    refine (H2.out _).mono ?_
    rintro en wn ⟨rfl, hbn⟩
    have O := HO.out.keep hbn
    clear HO zz
    have zz := O.rules
    have HO := Lib.hid O; clear O
    clear hbn
    go_wp2_with fail
    refine (H1.out _).mono ?_
    rintro en wn ⟨rfl, hbn⟩
    have O := HO.out.keep hbn
    clear HO zz
    have zz := O.rules
    have HO := Lib.hid O; clear O
    clear hbn
    have O := HO.out.alloc rfl #[.int .i64 3, .bool neg, .int .u64 N, .int .i64 0, .bool q, .int .u64 L] 32
    clear HO zz
    obtain ⟨c0, f0, z0, y0, -, zz⟩ := O.rules
    have HO := Lib.hid O; clear O
    go_wp2_with fail
    go_ret2
    exact ⟨rfl, HO.out.below⟩

set_option maxHeartbeats 4000000 in
theorem rwhole_num (kd X L : Int) (neg q : Bool) (b N : Nat) (w : World) (t0 : (kd == 0) = false) (t4 : (kd == 4) = false) (t3 : (kd == 3) = false) (hX1 : -1074 ≤ X) (hX2 : X ≤ 2000) (hN : N < 2 ^ 53)
    (hp : ∀ w, Calls Try.prog 31 #[.int .u64 b, .agg #[.int .i64 52, .int .i64 2047, .int .i64 1023]] w fun en w' => en = .returned (.agg #[.int .i64 kd, .bool neg, .int .u64 N, .int .i64 X, .bool q, .int .u64 L]) ∧ Below w.heap.size w w') :
    Calls Try.prog 42 #[.int .u64 b] w (WhPost (whN N X neg) w) := by
  have H2 := Lib.hid fun w => size64_any w
  have H1 := Lib.hid hp; clear hp
  by_cases h11 : X = 11
  · subst h11
    cases neg
    · have hr : whN N 11 false = (0, false) := by unfold whN; rw [if_neg (by simp), if_pos (by omega)]
      rw [hr]; clear hr
      go_enter Try.func42, Try.ntmps42
      go_wp2_with fail
      have O := Reg.Own.nil w
      have zz := O.rules
      have HO := Lib.hid O; clear O
      go_wp2_with fail
      refine (H2.out _).mono ?_
      rintro en wn ⟨rfl, hbn⟩
      have O := HO.out.keep hbn
      clear HO zz
      have zz := O.rules
      have HO := Lib.hid O; clear O
      clear hbn
      go_wp2_with fail
      refine (H1.out _).mono ?_
      rintro en wn ⟨rfl, hbn⟩
      have O := HO.out.keep hbn
      clear HO zz
      have zz := O.rules
      have HO := Lib.hid O; clear O
      clear hbn
      have O := HO.out.alloc rfl #[.int .i64 kd, .bool false, .int .u64 N, .int .i64 11, .bool q, .int .u64 L] 32
      clear HO zz
      obtain ⟨c0, f0, z0, y0, -, zz⟩ := O.rules
      have HO := Lib.hid O; clear O
      go_wp2_with fail
      go_ret2
      exact ⟨rfl, HO.out.below⟩
    · by_cases hm : N = 4503599627370496
      · subst hm
        have hr : whN 4503599627370496 11 true = (-9223372036854775808, true) := by unfold whN; rw [if_pos ⟨rfl, rfl, rfl⟩]
        rw [hr]; clear hr
        go_enter Try.func42, Try.ntmps42
        go_wp2_with fail
        have O := Reg.Own.nil w
        have zz := O.rules
        have HO := Lib.hid O; clear O
        go_wp2_with fail
        refine (H2.out _).mono ?_
        rintro en wn ⟨rfl, hbn⟩
        have O := HO.out.keep hbn
        clear HO zz
        have zz := O.rules
        have HO := Lib.hid O; clear O
        clear hbn
        go_wp2_with fail
        refine (H1.out _).mono ?_
        rintro en wn ⟨rfl, hbn⟩
        have O := HO.out.keep hbn
        clear HO zz
        have zz := O.rules
        have HO := Lib.hid O; clear O
        clear hbn
        have O := HO.out.alloc rfl #[.int .i64 kd, .bool true, .int .u64 4503599627370496, .int .i64 11, .bool q, .int .u64 L] 32
        clear HO zz
        obtain ⟨c0, f0, z0, y0, -, zz⟩ := O.rules
        have HO := Lib.hid O; clear O
        go_wp2_with fail
        go_ret2
        exact ⟨rfl, HO.out.below⟩
      · have hr : whN N 11 true = (0, false) := by unfold whN; rw [if_neg (by simp [hm]), if_pos (by omega)]
        have hm' : ((N : Int) == 4503599627370496) = false := by rw [Bool.eq_iff_iff]; simp; omega
        rw [hr]; clear hr hm
        go_enter Try.func42, Try.ntmps42
        go_wp2_with fail
        have O := Reg.Own.nil w
        have zz := O.rules
        have HO := Lib.hid O; clear O
        go_wp2_with fail
        refine (H2.out _).mono ?_
        rintro en wn ⟨rfl, hbn⟩
        have O := HO.out.keep hbn
        clear HO zz
        have zz := O.rules
        have HO := Lib.hid O; clear O
        clear hbn
        go_wp2_with fail
        refine (H1.out _).mono ?_
        rintro en wn ⟨rfl, hbn⟩
        have O := HO.out.keep hbn
        clear HO zz
        have zz := O.rules
        have HO := Lib.hid O; clear O
        clear hbn
        have O := HO.out.alloc rfl #[.int .i64 kd, .bool true, .int .u64 N, .int .i64 11, .bool q, .int .u64 L] 32
        clear HO zz
        obtain ⟨c0, f0, z0, y0, -, zz⟩ := O.rules
        have HO := Lib.hid O; clear O
        go_wp2_with fail
        go_ret2
        exact ⟨rfl, HO.out.below⟩
  · have t11 : (X == 11) = false := by simpa using h11
    by_cases hbig : 10 < X
    · have hr : whN N X neg = (0, false) := by unfold whN; rw [if_neg (by omega), if_pos hbig]
      rw [hr]; clear hr
      go_enter Try.func42, Try.ntmps42
      go_wp2_with fail
      have O := Reg.Own.nil w
      have zz := O.rules
      have HO := Lib.hid O; clear O
      go_wp2_with fail
      refine (H2.out _).mono ?_
      rintro en wn ⟨rfl, hbn⟩
      have O := HO.out.keep hbn
      clear HO zz
      have zz := O.rules
      have HO := Lib.hid O; clear O
      clear hbn
      go_wp2_with fail
      refine (H1.out _).mono ?_
      rintro en wn ⟨rfl, hbn⟩
      have O := HO.out.keep hbn
      clear HO zz
      have zz := O.rules
      have HO := Lib.hid O; clear O
      clear hbn
      have O := HO.out.alloc rfl #[.int .i64 kd, .bool neg, .int .u64 N, .int .i64 X, .bool q, .int .u64 L] 32
      clear HO zz
      obtain ⟨c0, f0, z0, y0, -, zz⟩ := O.rules
      have HO := Lib.hid O; clear O
      go_wp2_with fail
      go_ret2
      exact ⟨rfl, HO.out.below⟩
    · obtain ⟨K, hK⟩ : ∃ K : Nat, K = (-X).toNat := ⟨_, rfl⟩
      obtain ⟨J, hJ⟩ : ∃ J : Nat, J = X.toNat := ⟨_, rfl⟩
      have hr : whN N X neg = if N % 2 ^ K = 0 then (sgI neg (N / 2 ^ K * 2 ^ J), true) else (0, false) := by unfold whN; rw [if_neg (by omega), if_neg hbig, hK, hJ]
      obtain ⟨r, hr'⟩ : ∃ r, r = whN N X neg := ⟨_, rfl⟩
      rw [← hr'] at hr ⊢
      have HRR := Lib.hid hr; clear hr hr'
      have hle : ∀ t, N / 2 ^ t < 2 ^ 53 := fun t => Nat.lt_of_le_of_lt (Nat.div_le_self _ _) hN
      have HLE := Lib.hid hle; clear hle
      go_enter Try.func42, Try.ntmps42
      go_wp2_with fail
      have O := Reg.Own.nil w
      have zz := O.rules
      have HO := Lib.hid O; clear O
      go_wp2_with fail
      refine (H2.out _).mono ?_
      rintro en wn ⟨rfl, hbn⟩
      have O := HO.out.keep hbn
      clear HO zz
      have zz := O.rules
      have HO := Lib.hid O; clear O
      clear hbn
      go_wp2_with fail
      refine (H1.out _).mono ?_
      rintro en wn ⟨rfl, hbn⟩
      have O := HO.out.keep hbn
      clear HO zz
      have zz := O.rules
      have HO := Lib.hid O; clear O
      clear hbn
      have O := HO.out.alloc rfl #[.int .i64 kd, .bool neg, .int .u64 N, .int .i64 X, .bool q, .int .u64 L] 32
      clear HO zz
      obtain ⟨c0, f0, z0, y0, -, zz⟩ := O.rules
      have HO := Lib.hid O; clear O
      go_wp2_with fail
      go_loopw [5, 6] (fun m e wr => ∃ t : Nat, t ≤ K ∧ N % 2 ^ t = 0 ∧ m = .int .u64 ((N / 2 ^ t : Nat) : Int) ∧ e = .int .i64 (X + t) ∧ Reg.Own w wr [(wn.heap.size, #[.int .i64 kd, .bool neg, .int .u64 N, .int .i64 X, .bool q, .int .u64 L], 32)]) (fun _ e _ => (-(intOf e)).toNat)
      case atStart => exact ⟨0, by omega, by rw [Nat.pow_zero, Nat.mod_one], by rw [Nat.pow_zero, Nat.div_one], by simp, HO.out⟩
      case round =>
        obtain ⟨t, ht, hz, rfl, rfl, HO'⟩ := hrel
        have O := HO'
        obtain ⟨c0, f0, z0, y0, -, zz⟩ := O.rules
        have HO := Lib.hid O; clear O
        obtain ⟨n, hn⟩ : ∃ n, n = N / 2 ^ t := ⟨_, rfl⟩
        have hn53 : n < 2 ^ 53 := by rw [hn]; exact HLE.out t
        have a1 := and_1 n (by omega)
        rw [← hn]
        by_cases htK : t < K
        · have g1 : X + t < 0 := by omega
          have NN := Lib.hid hn; have HZ := Lib.hid hz; clear hn hz
          by_cases hodd : n % 2 = 1
          · have a2 : (((n % 2 : Nat) : Int) == 1) = true := by simp; omega
            have HOD := Lib.hid hodd; clear hodd
            go_wp2_with fail
            go_ret2
            exact ⟨by rw [HRR.out, if_neg (mod_odd htK (by rw [← NN.out]; exact HOD.out))]; rfl, HO.out.below⟩
          · have a2 : (((n % 2 : Nat) : Int) == 1) = false := by simp; omega
            have HOD := Lib.hid hodd; clear hodd
            go_wp2_with fail
            go_roundw
            case rel => exact ⟨t + 1, by omega, mod_even HZ.out (by rw [← NN.out]; have := HOD.out; omega), by rw [halve_pow, ← NN.out]; simp, by go_num, HO.out⟩
            case measure => simp [intOf]; omega
        · obtain rfl : t = K := by omega
          have g1 : ¬ X + t < 0 := by omega
          replace HRR := Lib.hid (HRR.out.trans (if_pos hz))
          rw [← hn] at HRR
          have hb2 : ∀ j, j ≤ 10 → n * 2 ^ j < 2 ^ 63 := fun j hj => by
            have h1 : 2 ^ j ≤ 2 ^ 10 := Nat.pow_le_pow_right (by omega) hj
            exact Nat.lt_of_le_of_lt (Nat.mul_le_mul (show n ≤ 2 ^ 53 - 1 by omega) h1) (by decide)
          have HB2 := Lib.hid hb2
          clear hn hz hb2
          go_wp2_with fail
          go_loopw [5, 7] (fun m i wr => ∃ j : Nat, j ≤ J ∧ m = .int .u64 ((n * 2 ^ j : Nat) : Int) ∧ i = .int .i64 j ∧ Reg.Own w wr [(wn.heap.size, #[.int .i64 kd, .bool neg, .int .u64 N, .int .i64 X, .bool q, .int .u64 L], 32)]) (fun _ i _ => J - (intOf i).toNat)
          case atStart => exact ⟨0, by omega, by rw [Nat.pow_zero, Nat.mul_one], rfl, HO.out⟩
          case round =>
            obtain ⟨j, hj, rfl, rfl, HO'⟩ := hrel
            have O := HO'
            obtain ⟨c0, f0, z0, y0, -, zz⟩ := O.rules
            have HO := Lib.hid O; clear O
            obtain ⟨z, hz⟩ : ∃ z, z = n * 2 ^ j := ⟨_, rfl⟩
            have hz63 : z < 2 ^ 63 := by rw [hz]; exact HB2.out j (by omega)
            rw [← hz]
            by_cases hjJ : j < J
            · have g2 : (j : Int) < X := by omega
              have HZ := Lib.hid hz; clear hz
              go_wp2_with fail
              go_roundw
              case rel => exact ⟨j + 1, by omega, by rw [Nat.pow_succ, ← Nat.mul_assoc, ← HZ.out]; go_num, by go_num, HO.out⟩
              case measure => simp [intOf]; omega
            · obtain rfl : j = J := by omega
              have g2 : ¬ (j : Int) < X := by omega
              rw [← hz] at HRR
              clear hz
              cases neg
              · go_wp2_with fail
                go_ret2
                exact ⟨by rw [HRR.out]; rfl, HO.out.below⟩
              · go_wp2_with fail
                go_ret2
                exact ⟨by rw [HRR.out]; rfl, HO.out.below⟩

theorem rwhole_any (b : Nat) (w : World) (hb : b < 2 ^ 64) : Calls Try.prog 42 #[.int .u64 b] w (WhPost (wholeB b) w) := by
  have hp := fun w => refparts64 b w hb
  obtain ⟨k1, k2, k3, -⟩ := kind64 b hb
  unfold wholeB
  cases hn : nan64 b
  · cases hi : infB b
    · obtain ⟨k, e, hk⟩ := parts_num b hb hn hi
      rw [e] at hp
      simp only [FP.val] at hp
      by_cases h0 : mantB b = 0
      · rw [if_neg (by simp), if_pos h0]
        exact rwhole_easy _ _ _ _ _ _ b true w (.inl ⟨by omega, rfl⟩) hp
      · rw [if_neg (by simp), if_neg h0]
        rw [if_neg h0] at hp
        exact rwhole_num k _ _ _ _ b (mantB b) w (by rw [Bool.eq_iff_iff]; simp; omega) (by rw [Bool.eq_iff_iff]; simp; omega) (by rw [Bool.eq_iff_iff]; simp; omega) (by omega) (by have := place_lt b; omega) (mant_lt b) hp
    · rw [if_pos (by simp)]
      have hm : b % 9223372036854775808 = 9218868437227405312 := by unfold infB at hi; simpa using hi
      have e : partsN 52 11 b = ⟨3, b / 2 ^ (52 + 11) % 2 == 1, 0, 0, false, 0⟩ := by
        unfold partsN
        rw [if_pos (by simp only [show (2 : Nat) ^ 52 = 4503599627370496 from rfl, show (2 : Nat) ^ 11 = 2048 from rfl]; omega), if_pos (by simp only [show (2 : Nat) ^ 52 = 4503599627370496 from rfl]; omega)]
      rw [e] at hp
      simp only [FP.val] at hp
      exact rwhole_easy _ _ _ _ _ _ b false w (.inr ⟨.inr rfl, rfl, rfl⟩) hp
  · rw [if_pos (by simp)]
    have hm : 9218868437227405312 < b % 9223372036854775808 := by unfold nan64 at hn; simpa using hn
    have e : ∃ q l, partsN 52 11 b = ⟨4, b / 2 ^ (52 + 11) % 2 == 1, 0, 0, q, l⟩ := by
      unfold partsN
      rw [if_pos (by simp only [show (2 : Nat) ^ 52 = 4503599627370496 from rfl, show (2 : Nat) ^ 11 = 2048 from rfl]; omega), if_neg (by simp only [show (2 : Nat) ^ 52 = 4503599627370496 from rfl]; omega)]
      exact ⟨_, _, rfl⟩
    obtain ⟨q, l, e⟩ := e
    rw [e] at hp
    simp only [FP.val] at hp
    exact rwhole_easy _ _ _ _ _ _ b false w (.inr ⟨.inl rfl, rfl, rfl⟩) hp

end Go.Proofs.Ytpemchghaddgdaa
