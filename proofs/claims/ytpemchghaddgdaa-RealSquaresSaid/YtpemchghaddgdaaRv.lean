/- The document's Trunc, walked: what stands ahead of the point, and the rest. Condition: the bits fit. -/
import Derived.Test.YtpemchghaddgdaaRu
namespace Go.Pst
open Go Ieee Go.RowKit
set_option linter.unusedVariables false
set_option linter.unusedSimpArgs false

/-- What stands behind the point. -/
def trR (b : Nat) : Nat := if nan64 b then b else if infB b || decide (1074 ≤ placeB b) then wrd (negB b) 0 else wrd (negB b) (rndN 52 11 (mantB b % 2 ^ (1074 - placeB b)) (-1074 + (placeB b : Nat)))

theorem pl_next (k : Nat) : IntKind.u64.wrap (((2 ^ k % 2 ^ 64 : Nat) : Int) * 2) = ((2 ^ (k + 1) % 2 ^ 64 : Nat) : Int) := by
  rw [IntKind.wrap_u64, Nat.pow_succ]; omega

theorem odd_small {M k : Nat} (hM : M < 2 ^ 53) (h : M / 2 ^ k % 2 = 1) : k < 53 ∧ 2 ^ k ≤ M := by
  have h1 : 1 ≤ M / 2 ^ k := by
    generalize M / 2 ^ k = A at *
    omega
  have h2 : 2 ^ k ≤ M := by
    have := (Nat.le_div_iff_mul_le (Nat.two_pow_pos k)).1 h1
    omega
  exact ⟨(Nat.pow_lt_pow_iff_right (by omega)).1 (Nat.lt_of_le_of_lt h2 hM), h2⟩

theorem top_bits (b : Nat) (hb : b < 2 ^ 64) : bits .and .u64 (b : Int) 9223372036854775808 = ((wrd (negB b) 0 : Nat) : Int) := by
  have h := csN_bits (a := 0) (b := b) (by omega) hb
  have h1 : bits .andNot .u64 ((0 : Nat) : Int) 9223372036854775808 = 0 := by decide
  rw [h1] at h
  have h2 : ∀ x : Nat, x < 2 ^ 64 → bits .or .u64 0 (x : Int) = x := fun x hx => by
    have := or64 (a := 0) (b := x) (by omega) hx
    rw [Nat.zero_or] at this; exact this
  obtain ⟨y, hy, hy2⟩ : ∃ y : Nat, bits .and .u64 (b : Int) 9223372036854775808 = y ∧ y < 2 ^ 64 := by
    refine ⟨b &&& 2 ^ 63, and_pow (n := 63) hb (by omega), Nat.lt_of_le_of_lt Nat.and_le_left hb⟩
  rw [hy, h2 y hy2] at h
  rw [hy, h]; rfl
end Go.Pst
namespace Go.Proofs.Ytpemchghaddgdaa
open Go.RowKit Go.Pst
set_option maxRecDepth 100000
set_option linter.unusedSimpArgs false
set_option linter.unusedVariables false

def TRPost (u v : Nat) (w : World) (en : Ending) (w' : World) : Prop := en = .returned (.tuple #[.int .u64 u, .int .u64 v]) ∧ Below w.heap.size w w'

set_option maxHeartbeats 4000000 in
theorem rtrunc_num (b m pk pl top u v K : Nat) (px : Int) (pn pq : Bool) (w : World) (hk0 : ((pk : Int) == 0) = false) (hk3 : ((pk : Int) == 3) = false) (hk4 : ((pk : Int) == 4) = false)
    (hz : ∀ w, Calls Try.prog 21 #[] w fun en w' => en = .returned (.agg #[.int .i64 52, .int .i64 2047, .int .i64 1023]) ∧ Below w.heap.size w w')
    (hp : ∀ w, Calls Try.prog 31 #[.int .u64 b, .agg #[.int .i64 52, .int .i64 2047, .int .i64 1023]] w fun en w' => en = .returned (.agg #[.int .i64 pk, .bool pn, .int .u64 m, .int .i64 px, .bool pq, .int .u64 pl]) ∧ Below w.heap.size w w')
    (hm : m < 9007199254740992) (hx1 : px = -(K : Int)) (hK0 : 0 < K) (hK : K ≤ 1074) (htop : bits .and .u64 (b : Int) 9223372036854775808 = (top : Int))
    (hr1 : ∀ w, Calls Try.prog 55 #[.bool pn, .int .u64 ((m / 2 ^ K : Nat) : Int), .int .i64 0, .bool false, .agg #[.int .i64 52, .int .i64 2047, .int .i64 1023]] w fun en w' => en = .returned (.int .u64 u) ∧ Below w.heap.size w w')
    (hr2 : ∀ w, Calls Try.prog 55 #[.bool pn, .int .u64 ((m % 2 ^ K : Nat) : Int), .int .i64 px, .bool false, .agg #[.int .i64 52, .int .i64 2047, .int .i64 1023]] w fun en w' => en = .returned (.int .u64 v) ∧ Below w.heap.size w w') :
    Calls Try.prog 70 #[.int .u64 b] w (TRPost u v w) := by
  have HZ := Lib.hid hz; have HP := Lib.hid hp; have HR1 := Lib.hid hr1; have HR2 := Lib.hid hr2; have HX := Lib.hid hx1
  have hx0 : px < 0 := by omega
  clear hz hp hr1 hr2 hx1
  go_enter Try.func70, Try.ntmps70
  go_wp2_with fail
  have O := Reg.Own.nil w
  have zz := O.rules
  have HO := Lib.hid O; clear O
  go_wp2_with fail
  refine (HZ.out _).mono ?_
  rintro en wn ⟨rfl, hbn⟩
  have O := HO.out.keep hbn
  clear HO zz
  have zz := O.rules
  have HO := Lib.hid O; clear O
  clear hbn
  go_wp2_with fail
  refine (HP.out _).mono ?_
  rintro en wn ⟨rfl, hbn⟩
  have O := HO.out.keep hbn
  clear HO zz
  have zz := O.rules
  have HO := Lib.hid O; clear O
  clear hbn
  go_wp2_with fail
  have O := HO.out.alloc rfl #[.int .i64 pk, .bool pn, .int .u64 m, .int .i64 px, .bool pq, .int .u64 pl] 32
  clear HO zz
  obtain ⟨c0, f0, z0, y0, -, zz⟩ := O.rules
  have HO := Lib.hid O; clear O
  go_wp2_with fail
  go_loop [6, 7, 8, 9] (fun a r p t => ∃ (k : Nat) (i : Int), k ≤ K ∧ i = px + k ∧ t = .int .i64 i ∧ a = .int .u64 ((m / 2 ^ k : Nat) : Int) ∧ r = .int .u64 ((m % 2 ^ k : Nat) : Int) ∧ p = .int .u64 ((2 ^ k % 2 ^ 64 : Nat) : Int)) (fun _ _ _ t => (-(intOf t)).toNat)
  case atStart => exact ⟨0, px, by omega, by omega, rfl, by simp, by simp [Nat.mod_one], rfl⟩
  case round =>
    obtain ⟨k, i, hk, hi, rfl, rfl, rfl, rfl⟩ := hrel
    have HI := Lib.hid hi
    by_cases hkK : k < K
    · have hlt : i < 0 := by have := HX.out; omega
      have hib : -2000 ≤ i := by have := HX.out; omega
      clear hi
      have hA2 : m / 2 ^ (k + 1) = m / 2 ^ k / 2 := by rw [Nat.pow_succ, Nat.div_div_eq_div_mul]
      have hR2 : m % 2 ^ (k + 1) = m % 2 ^ k + 2 ^ k * (m / 2 ^ k % 2) := Nat.mod_pow_succ
      have hP := pl_next k
      have hodd := odd_small (M := m) (k := k) hm
      have hrl : m % 2 ^ k < 2 ^ k := Nat.mod_lt _ (Nat.two_pow_pos k)
      have hAm : m / 2 ^ k ≤ m := Nat.div_le_self _ _
      have hpm : k < 53 → 2 ^ k % 2 ^ 64 = 2 ^ k := fun h => Nat.mod_eq_of_lt (Nat.pow_lt_pow_right (by omega) (by omega))
      have h2b : k < 53 → 2 ^ k ≤ 2 ^ 52 := fun h => Nat.pow_le_pow_right (by omega) (by omega)
      have hp64 : 2 ^ k % 2 ^ 64 < 2 ^ 64 := Nat.mod_lt _ (by omega)
      have HA2 := Lib.hid hA2; have HR3 := Lib.hid hR2; have HM := Lib.hid hpm
      clear hA2 hR2
      generalize hPg : 2 ^ (k + 1) % 2 ^ 64 = P2 at *
      generalize hPh : 2 ^ k % 2 ^ 64 = P at *
      generalize hPi : 2 ^ k = Q at *
      generalize hAg : m / Q = A at *
      generalize hRg : m % Q = R at *
      have HPG := Lib.hid hPg; clear hPg hPh hPi hAg hRg
      have hand : bits .and .u64 (A : Int) 1 = ((A % 2 : Nat) : Int) := and_mask (b := A) (n := 1) (by omega) (by omega)
      by_cases ho : A % 2 = 1
      · rw [ho] at hand
        obtain ⟨h53, hQ⟩ := hodd ho
        have hPQ := HM.out h53
        have hQ2 := h2b h53
        have hp0 : (0 : Int) < (P : Int) := by omega
        have hRP : R ≤ 4503599627370496 := by omega
        have hPP : P ≤ 4503599627370496 := by omega
        have hand' : bits .and .u64 (A : Int) 1 = 1 := hand
        clear hand
        clear hodd hpm h2b
        have HPQ := Lib.hid hPQ; have HO1 := Lib.hid ho
        clear hPQ ho
        go_wp2_with fail
        go_round
        case rel => exact ⟨k + 1, i + 1, by omega, by have := HI.out; omega, rfl, congrArg (Value.int .u64) (by rw [HA2.out]; omega), congrArg (Value.int .u64) (by rw [HR3.out, HO1.out, HPQ.out]; omega), congrArg (Value.int .u64) (by rw [HPG.out])⟩
        case measure => simp [intOf]; omega
      · have ho0 : A % 2 = 0 := by omega
        rw [ho0] at hand
        have HO1 := Lib.hid ho0
        clear hodd hpm h2b ho ho0
        go_wp2_with fail
        go_round
        case rel => exact ⟨k + 1, i + 1, by omega, by have := HI.out; omega, rfl, congrArg (Value.int .u64) (by rw [HA2.out]; omega), congrArg (Value.int .u64) (by rw [HR3.out, HO1.out, Nat.mul_zero, Nat.add_zero]), congrArg (Value.int .u64) (by rw [HPG.out])⟩
        case measure => simp [intOf]; omega
    · obtain rfl : k = K := by omega
      have hlt : ¬ i < 0 := by have := HX.out; omega
      clear hi
      generalize m / 2 ^ k = A at *
      generalize m % 2 ^ k = R at *
      generalize 2 ^ k % 2 ^ 64 = P at *
      clear hm hkK
      go_wp2_with fail
      refine Reg.wp_region_rd (by kernel_rfl) (by kernel_rfl) (fun _ => ?_)
      repeat (refine Reg.rd_op rfl ?_; apply Exists.intro; apply And.intro; (intro w' hb; have hc := Reg.rd_cells hb; clear hb; go_simp; (try go_bits); first | done | (with_reducible exact rfl)); (intro _ a' ha'; simp only [Act.put, List.setIfInBounds_toArray, List.set_cons_zero, List.set_cons_succ] at ha'; subst ha'))
      refine Reg.rd_op rfl ?_; apply Exists.intro; apply And.intro
      · intro w' hb; have hsz := Reg.rd_size hb; clear hb; go_simp; (try go_bits); exact HZ.out _
      intro _ a' ha'; simp only [Act.put, List.setIfInBounds_toArray, List.set_cons_zero, List.set_cons_succ] at ha'; subst ha'
      repeat (refine Reg.rd_op rfl ?_; apply Exists.intro; apply And.intro; (intro w' hb; have hc := Reg.rd_cells hb; clear hb; go_simp; (try go_bits); first | done | (with_reducible exact rfl)); (intro _ a' ha'; simp only [Act.put, List.setIfInBounds_toArray, List.set_cons_zero, List.set_cons_succ] at ha'; subst ha'))
      refine Reg.rd_op rfl ?_; apply Exists.intro; apply And.intro
      · intro w' hb; have hsz := Reg.rd_size hb; clear hb; go_simp; (try go_bits); exact HR1.out _
      intro _ a' ha'; simp only [Act.put, List.setIfInBounds_toArray, List.set_cons_zero, List.set_cons_succ] at ha'; subst ha'
      repeat (refine Reg.rd_op rfl ?_; apply Exists.intro; apply And.intro; (intro w' hb; have hc := Reg.rd_cells hb; clear hb; go_simp; (try go_bits); first | done | (with_reducible exact rfl)); (intro _ a' ha'; simp only [Act.put, List.setIfInBounds_toArray, List.set_cons_zero, List.set_cons_succ] at ha'; subst ha'))
      refine Reg.rd_op rfl ?_; apply Exists.intro; apply And.intro
      · intro w' hb; have hsz := Reg.rd_size hb; clear hb; go_simp; (try go_bits); exact HZ.out _
      intro _ a' ha'; simp only [Act.put, List.setIfInBounds_toArray, List.set_cons_zero, List.set_cons_succ] at ha'; subst ha'
      repeat (refine Reg.rd_op rfl ?_; apply Exists.intro; apply And.intro; (intro w' hb; have hc := Reg.rd_cells hb; clear hb; go_simp; (try go_bits); first | done | (with_reducible exact rfl)); (intro _ a' ha'; simp only [Act.put, List.setIfInBounds_toArray, List.set_cons_zero, List.set_cons_succ] at ha'; subst ha'))
      refine Reg.rd_op rfl ?_; apply Exists.intro; apply And.intro
      · intro w' hb; have hsz := Reg.rd_size hb; clear hb; go_simp; (try go_bits); exact HR2.out _
      intro _ a' ha'; simp only [Act.put, List.setIfInBounds_toArray, List.set_cons_zero, List.set_cons_succ] at ha'; subst ha'
      repeat (refine Reg.rd_op rfl ?_; apply Exists.intro; apply And.intro; (intro w' hb; have hc := Reg.rd_cells hb; clear hb; go_simp; (try go_bits); first | done | (with_reducible exact rfl)); (intro _ a' ha'; simp only [Act.put, List.setIfInBounds_toArray, List.set_cons_zero, List.set_cons_succ] at ha'; subst ha'))
      refine Reg.rd_end (fun wz hb => ?_)
      have O := HO.out.keep hb
      clear HO c0 f0 z0 y0 zz
      obtain ⟨c0, f0, z0, y0, -, zz⟩ := O.rules
      have HO := Lib.hid O; clear O
      clear hb
      go_wp2_with fail
      go_ret2
      exact ⟨rfl, HO.out.below⟩
end Go.Proofs.Ytpemchghaddgdaa
