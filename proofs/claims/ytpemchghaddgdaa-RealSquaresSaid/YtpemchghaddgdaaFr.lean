/- The document's Remainder, walked. Condition: the bits fit. -/
import Derived.Test.YtpemchghaddgdaaFq
namespace Go.Pst
open Go Ieee Go.RowKit
set_option linter.unusedVariables false
set_option linter.unusedSimpArgs false

/-- As the document reckons it. -/
def refT (A B : Nat) : Int := if B < 2 * (A % B) ∨ (2 * (A % B) = B ∧ A / B % 2 = 1) then ((A % B : Nat) : Int) - (B : Int) else ((A % B : Nat) : Int)

theorem refT_eq (A B : Nat) (hB : 0 < B) : refT A B = remT A B := by
  have e : (A : Int) % (2 * (B : Int)) = ((A % (2 * B) : Nat) : Int) := by simp
  unfold refT remT
  rw [e]
  have h1 : A % (2 * B) = A % B + B * (A / B % 2) := by rw [Nat.mul_comm, Nat.mod_mul]
  have h2 : A % B < B := Nat.mod_lt _ hB
  rcases Nat.mod_two_eq_zero_or_one (A / B) with h3 | h3
  · rw [h3, Nat.mul_zero, Nat.add_zero] at h1
    rw [h1, h3]
    by_cases h4 : B < 2 * (A % B)
    · rw [if_pos (.inl h4), if_neg (by omega), if_pos (by omega)]
    · rw [if_neg (by omega), if_pos (by omega)]
  · rw [h3, Nat.mul_one] at h1
    rw [h1, h3]
    by_cases h4 : B ≤ 2 * (A % B)
    · rw [if_pos (by omega), if_neg (by omega), if_neg (by omega)]; omega
    · rw [if_neg (by omega), if_neg (by omega), if_pos (by omega)]; omega

theorem remT_scale (X Y c : Int) (hc : 0 < c) : remT (X * c) (Y * c) = remT X Y * c := by
  unfold remT
  rw [show 2 * (Y * c) = 2 * Y * c by rw [Int.mul_assoc], Int.mul_comm X c, Int.mul_comm (2 * Y) c, Int.mul_emod_mul_of_pos _ _ hc, Int.mul_comm c (X % (2 * Y)), Int.mul_comm c (2 * Y)]
  generalize X % (2 * Y) = z
  have e1 : (2 * (z * c) ≤ Y * c) ↔ 2 * z ≤ Y := by
    rw [← Int.mul_assoc]; exact ⟨fun h => Int.le_of_mul_le_mul_right h hc, fun h => Int.mul_le_mul_of_nonneg_right h (Int.le_of_lt hc)⟩
  have e2 : (2 * (z * c) < 3 * (Y * c)) ↔ 2 * z < 3 * Y := by
    rw [← Int.mul_assoc, ← Int.mul_assoc]; exact ⟨fun h => Int.lt_of_mul_lt_mul_right h (Int.le_of_lt hc), fun h => Int.mul_lt_mul_of_pos_right h hc⟩
  simp only [e1, e2]
  split
  · rfl
  · split
    · rw [Int.sub_mul]
    · rw [Int.sub_mul, Int.mul_assoc]

theorem digit_step (A B : Nat) (hB : 0 < B) : (B ≤ A % B * 2 → A * 2 % B = A % B * 2 - B ∧ A * 2 / B % 2 = 1) ∧ (¬ B ≤ A % B * 2 → A * 2 % B = A % B * 2 ∧ A * 2 / B % 2 = 0) := by
  have h0 := Nat.div_add_mod A B
  have h2 : A % B < B := Nat.mod_lt _ hB
  generalize A / B = Q at *
  generalize A % B = r at *
  have h1 : A * 2 = B * (2 * Q) + r * 2 := by rw [← h0, Nat.add_mul, Nat.mul_assoc, Nat.mul_comm Q 2]
  constructor
  · intro h
    have h3 : A * 2 = B * (2 * Q + 1) + (r * 2 - B) := by rw [h1, Nat.mul_add]; omega
    rw [h3, Nat.mul_add_mod, Nat.mod_eq_of_lt (by omega), Nat.mul_add_div hB, Nat.div_eq_of_lt (by omega)]
    exact ⟨rfl, by omega⟩
  · intro h
    rw [h1, Nat.mul_add_mod, Nat.mod_eq_of_lt (by omega), Nat.mul_add_div hB, Nat.div_eq_of_lt (by omega)]
    exact ⟨rfl, by omega⟩
end Go.Pst
namespace Go.Proofs.Ytpemchghaddgdaa
open Go.RowKit Go.Pst
set_option maxRecDepth 100000
set_option linter.unusedSimpArgs false
set_option linter.unusedVariables false

def U64Post (v : Nat) (w : World) (en : Ending) (w' : World) : Prop := en = .returned (.int .u64 v) ∧ Below w.heap.size w w'

def remM (m n : Nat) (odd : Bool) : Int := if n < 2 * m ∨ (2 * m = n ∧ odd = true) then (m : Int) - n else m

/-- What is owed behind the loops: the sign and the size of what is left. -/
structure RndOk (na : Bool) (m n : Nat) (odd : Bool) (e : Int) (v : Nat) : Prop where
  out : ∀ (s : Bool) (M : Nat) (T : Int), remM m n odd = T → (M : Int) = T.natAbs → s = (if T = 0 then na else (decide (T < 0) ^^ na)) →
    ∀ w, Calls Try.prog 55 #[.bool s, .int .u64 M, .int .i64 e, .bool false, .agg #[.int .i64 52, .int .i64 2047, .int .i64 1023]] w fun en w' => en = .returned (.int .u64 v) ∧ Below w.heap.size w w'



set_option maxHeartbeats 4000000 in
theorem rrem_up (a b mx my pk qk pl ql K v : Nat) (xe ye : Int) (na nb pq qq : Bool) (w : World)
    (hz : ∀ w, Calls Try.prog 21 #[] w fun en w' => en = .returned (.agg #[.int .i64 52, .int .i64 2047, .int .i64 1023]) ∧ Below w.heap.size w w')
    (hp : ∀ w, Calls Try.prog 31 #[.int .u64 a, .agg #[.int .i64 52, .int .i64 2047, .int .i64 1023]] w fun en w' => en = .returned (.agg #[.int .i64 pk, .bool na, .int .u64 mx, .int .i64 xe, .bool pq, .int .u64 pl]) ∧ Below w.heap.size w w')
    (hq : ∀ w, Calls Try.prog 31 #[.int .u64 b, .agg #[.int .i64 52, .int .i64 2047, .int .i64 1023]] w fun en w' => en = .returned (.agg #[.int .i64 qk, .bool nb, .int .u64 my, .int .i64 ye, .bool qq, .int .u64 ql]) ∧ Below w.heap.size w w')
    (hmx : mx < 9007199254740992) (hmy : my < 9007199254740992) (hmy0 : 0 < my) (hb1 : -2000 ≤ ye ∧ ye ≤ 2000) (hb2 : -2000 ≤ xe ∧ xe ≤ 2000)
    (p4 : ((pk : Int) == 4) = false) (p3 : ((pk : Int) == 3) = false) (p0 : ((pk : Int) == 0) = false) (q4 : ((qk : Int) == 4) = false) (q3 : ((qk : Int) == 3) = false) (q0 : ((qk : Int) == 0) = false)
    (hK : xe = ye + K) (hr : RndOk na (mx * 2 ^ K % my) my (mx * 2 ^ K / my % 2 == 1) ye v) :
    Calls Try.prog 74 #[.int .u64 a, .int .u64 b] w (U64Post v w) := by
  have HZ := Lib.hid hz; have HP := Lib.hid hp; have HQ := Lib.hid hq; have HRR := Lib.hid hr; have HK := Lib.hid hK
  have hge : ye ≤ xe := by omega
  have hmyi : (0 : Int) < (my : Int) := by omega
  clear hz hp hq hr hK
  go_enter Try.func74, Try.ntmps74
  go_wp2_with fail
  have O := Reg.Own.nil w
  have zz := O.rules
  have HO := Lib.hid O; clear O
  go_wp2_with fail
  refine (HZ.out _).mono ?_
  rintro en wn ⟨rfl, hbn⟩
  have O := HO.out.keep hbn
  clear HO zz
  have zz := O.rules
  have HO := Lib.hid O; clear O
  clear hbn
  go_wp2_with fail
  refine (HP.out _).mono ?_
  rintro en wn ⟨rfl, hbn⟩
  have O := HO.out.keep hbn
  clear HO zz
  have zz := O.rules
  have HO := Lib.hid O; clear O
  clear hbn
  go_wp2_with fail
  refine (HZ.out _).mono ?_
  rintro en wn ⟨rfl, hbn⟩
  have O := HO.out.keep hbn
  clear HO zz
  have zz := O.rules
  have HO := Lib.hid O; clear O
  clear hbn
  go_wp2_with fail
  refine (HQ.out _).mono ?_
  rintro en wn ⟨rfl, hbn⟩
  have O := HO.out.keep hbn
  clear HO zz
  have zz := O.rules
  have HO := Lib.hid O; clear O
  clear hbn
  go_wp2_with fail
  have O := HO.out.alloc rfl #[.int .i64 pk, .bool na, .int .u64 mx, .int .i64 xe, .bool pq, .int .u64 pl] 32
  clear HO zz
  obtain ⟨c0, f0, z0, y0, -, zz⟩ := O.rules
  have HO := Lib.hid O; clear O
  have O := HO.out.alloc (k := wn.heap.size + 1) (by simp) #[.int .i64 qk, .bool nb, .int .u64 my, .int .i64 ye, .bool qq, .int .u64 ql] 32
  clear HO c0 f0 z0 y0 zz
  obtain ⟨c1, f1, z1, y1, ⟨n10, -⟩, c0, f0, z0, y0, -, zz⟩ := O.rules
  have HO := Lib.hid O; clear O
  go_wp2_with fail
  refine Reg.wp_region_rd (by kernel_rfl) (by kernel_rfl) (fun _ => ?_)
  repeat (refine Reg.rd_op rfl ?_; apply Exists.intro; apply And.intro; (intro w' hb; have hc := Reg.rd_cells hb; clear hb; go_simp; (try go_bits); first | done | (with_reducible exact rfl)); (intro _ a' ha'; simp only [Act.put, List.setIfInBounds_toArray, List.set_cons_zero, List.set_cons_succ] at ha'; subst ha'))
  refine Reg.rd_end (fun wz hb => ?_)
  have O := HO.out.keep hb
  clear HO c1 f1 z1 y1 n10 c0 f0 z0 y0 zz
  obtain ⟨c1, f1, z1, y1, ⟨n10, -⟩, c0, f0, z0, y0, -, zz⟩ := O.rules
  have HO := Lib.hid O; clear O
  clear hb
  obtain ⟨Q, hQ⟩ : ∃ Q, Q = mx / my := ⟨_, rfl⟩
  have hq1 : (mx : Int) / (my : Int) = (Q : Int) := by rw [hQ]; simp
  have hQb : Q ≤ 9007199254740992 := by rw [hQ]; exact Nat.le_trans (Nat.div_le_self _ _) (by omega)
  have hod : (((Q : Int) % 2) == 1) = (mx / my % 2 == 1) := by rw [← hQ, Bool.eq_iff_iff]; simp; omega
  clear hQ
  go_wp2_with fail
  go_loop [7, 10, 11] (fun m o t => ∃ (j : Nat) (i : Int), j ≤ K ∧ i = ye + (K - j : Int) ∧ t = .int .i64 i ∧ m = .int .u64 ((mx * 2 ^ j % my : Nat) : Int) ∧ o = .bool (mx * 2 ^ j / my % 2 == 1)) (fun _ _ t => (intOf t + 3000).toNat)
  case atStart =>
    exact ⟨0, xe, by omega, by have := HK.out; omega, rfl, by simp, by simp [hod]⟩
  case round =>
    obtain ⟨j, i, hj, hi, rfl, rfl, rfl⟩ := hrel
    have HI := Lib.hid hi
    have hib : -2000 ≤ i ∧ i ≤ 2000 := by have := HK.out; omega
    have hml : mx * 2 ^ j % my < my := Nat.mod_lt _ hmy0
    by_cases hjK : j < K
    · have hgt : ye < i := by omega
      have hds := digit_step (mx * 2 ^ j) my hmy0
      have hn1 : mx * 2 ^ (j + 1) = mx * 2 ^ j * 2 := by rw [Nat.pow_succ, Nat.mul_assoc]
      have HN1 := Lib.hid hn1
      clear hn1 hi
      generalize hA : mx * 2 ^ j = A at *
      generalize (mx * 2 ^ j / my % 2 == 1) = oo at *
      generalize hm : A % my = m at *
      generalize (A / my % 2 == 1) = o at *
      by_cases hc : my ≤ m * 2
      · obtain ⟨d1, d2⟩ := hds.1 hc
        have hc1 : (my : Int) ≤ (m : Int) * 2 := by omega
        have D1 := Lib.hid d1; have D2 := Lib.hid d2
        clear hds d1 d2 hc hA hm
        go_wp2_with fail
        go_round
        case rel => exact ⟨j + 1, i - 1, by omega, by have := HI.out; omega, rfl, congrArg (Value.int .u64) (by rw [HN1.out, D1.out]; omega), by rw [HN1.out, D2.out]; rfl⟩
        case measure => simp [intOf]; omega
      · obtain ⟨d1, d2⟩ := hds.2 hc
        have hc1 : ¬ (my : Int) ≤ (m : Int) * 2 := by omega
        have D1 := Lib.hid d1; have D2 := Lib.hid d2
        clear hds d1 d2 hc hA hm
        go_wp2_with fail
        go_round
        case rel => exact ⟨j + 1, i - 1, by omega, by have := HI.out; omega, rfl, congrArg (Value.int .u64) (by rw [HN1.out, D1.out]; omega), by rw [HN1.out, D2.out]; rfl⟩
        case measure => simp [intOf]; omega
    · obtain rfl : j = K := by omega
      have hgt : ¬ ye < i := by omega
      have hok := Lib.hid HRR.out.out
      clear hi hjK HRR hod HI
      generalize mx * 2 ^ j % my = m at *
      generalize hodd : (mx * 2 ^ j / my % 2 == 1) = odd at *
      generalize my = n at *
      generalize ye = e at *
      clear hodd HK
      have hok2 := hok.out
      by_cases g1 : n < 2 * m
      · have HR := Lib.hid (hok2 (!na) (n - m) ((m : Int) - n) (by unfold remM; rw [if_pos (Or.inl g1)]) (by omega) (by rw [if_neg (by omega), decide_eq_true (by omega)]; cases na <;> rfl))
        have j1 : (n : Int) < 2 * (m : Int) := by omega
        have j2 : ((n : Int) - (m : Int) == 0) = false := by simp; omega
        have j3 : (n : Int) - (m : Int) = ((n - m : Nat) : Int) := by omega
        have j4 : (m : Int) ≤ (n : Int) := by omega
        rw [← j3] at HR
        clear hok hok2 g1 j3
        go_wp2_with fail
        refine (HZ.out _).mono ?_
        rintro en wn ⟨rfl, hbn⟩
        have O := HO.out.keep hbn
        clear HO c1 f1 z1 y1 n10 c0 f0 z0 y0 zz
        obtain ⟨c1, f1, z1, y1, ⟨n10, -⟩, c0, f0, z0, y0, -, zz⟩ := O.rules
        have HO := Lib.hid O; clear O
        clear hbn
        go_wp2_with fail
        refine (HR.out _).mono ?_
        rintro en wn ⟨rfl, hbn⟩
        have O := HO.out.keep hbn
        clear HO c1 f1 z1 y1 n10 c0 f0 z0 y0 zz
        obtain ⟨c1, f1, z1, y1, ⟨n10, -⟩, c0, f0, z0, y0, -, zz⟩ := O.rules
        have HO := Lib.hid O; clear O
        clear hbn
        go_wp2_with fail
        go_ret
        exact ⟨rfl, HO.out.below⟩
      · by_cases g2 : 2 * m = n
        · cases odd
          · have HR := Lib.hid (hok2 na m m (by unfold remM; rw [if_neg (by simp; omega)]) (by omega) (by rw [if_neg (by omega), decide_eq_false (by omega)]; cases na <;> rfl))
            have j1 : ¬ (n : Int) < 2 * (m : Int) := by omega
            have j2 : (2 * (m : Int) == (n : Int)) = true := by simp; omega
            have j3 : ((m : Int) == 0) = false := by simp; omega
            clear hok hok2 g1 g2
            go_wp2_with fail
            refine (HZ.out _).mono ?_
            rintro en wn ⟨rfl, hbn⟩
            have O := HO.out.keep hbn
            clear HO c1 f1 z1 y1 n10 c0 f0 z0 y0 zz
            obtain ⟨c1, f1, z1, y1, ⟨n10, -⟩, c0, f0, z0, y0, -, zz⟩ := O.rules
            have HO := Lib.hid O; clear O
            clear hbn
            go_wp2_with fail
            refine (HR.out _).mono ?_
            rintro en wn ⟨rfl, hbn⟩
            have O := HO.out.keep hbn
            clear HO c1 f1 z1 y1 n10 c0 f0 z0 y0 zz
            obtain ⟨c1, f1, z1, y1, ⟨n10, -⟩, c0, f0, z0, y0, -, zz⟩ := O.rules
            have HO := Lib.hid O; clear O
            clear hbn
            go_wp2_with fail
            go_ret
            exact ⟨rfl, HO.out.below⟩
          · have HR := Lib.hid (hok2 (!na) (n - m) ((m : Int) - n) (by unfold remM; rw [if_pos (Or.inr ⟨g2, rfl⟩)]) (by omega) (by rw [if_neg (by omega), decide_eq_true (by omega)]; cases na <;> rfl))
            have j1 : ¬ (n : Int) < 2 * (m : Int) := by omega
            have j5 : (2 * (m : Int) == (n : Int)) = true := by simp; omega
            have j2 : ((n : Int) - (m : Int) == 0) = false := by simp; omega
            have j3 : (n : Int) - (m : Int) = ((n - m : Nat) : Int) := by omega
            have j4 : (m : Int) ≤ (n : Int) := by omega
            rw [← j3] at HR
            clear hok hok2 g1 g2 j3
            go_wp2_with fail
            refine (HZ.out _).mono ?_
            rintro en wn ⟨rfl, hbn⟩
            have O := HO.out.keep hbn
            clear HO c1 f1 z1 y1 n10 c0 f0 z0 y0 zz
            obtain ⟨c1, f1, z1, y1, ⟨n10, -⟩, c0, f0, z0, y0, -, zz⟩ := O.rules
            have HO := Lib.hid O; clear O
            clear hbn
            go_wp2_with fail
            refine (HR.out _).mono ?_
            rintro en wn ⟨rfl, hbn⟩
            have O := HO.out.keep hbn
            clear HO c1 f1 z1 y1 n10 c0 f0 z0 y0 zz
            obtain ⟨c1, f1, z1, y1, ⟨n10, -⟩, c0, f0, z0, y0, -, zz⟩ := O.rules
            have HO := Lib.hid O; clear O
            clear hbn
            go_wp2_with fail
            go_ret
            exact ⟨rfl, HO.out.below⟩
        · by_cases g3 : m = 0
          · subst g3
            have HR := Lib.hid (hok2 na 0 0 (by unfold remM; rw [if_neg (by omega)]; rfl) (by rfl) (by rw [if_pos rfl]))
            have j1 : ¬ (n : Int) < 0 := by omega
            have j2 : ((0 : Int) == (n : Int)) = false := by simp; omega
            clear hok hok2 g1 g2
            go_wp2_with fail
            refine (HZ.out _).mono ?_
            rintro en wn ⟨rfl, hbn⟩
            have O := HO.out.keep hbn
            clear HO c1 f1 z1 y1 n10 c0 f0 z0 y0 zz
            obtain ⟨c1, f1, z1, y1, ⟨n10, -⟩, c0, f0, z0, y0, -, zz⟩ := O.rules
            have HO := Lib.hid O; clear O
            clear hbn
            go_wp2_with fail
            refine (HR.out _).mono ?_
            rintro en wn ⟨rfl, hbn⟩
            have O := HO.out.keep hbn
            clear HO c1 f1 z1 y1 n10 c0 f0 z0 y0 zz
            obtain ⟨c1, f1, z1, y1, ⟨n10, -⟩, c0, f0, z0, y0, -, zz⟩ := O.rules
            have HO := Lib.hid O; clear O
            clear hbn
            go_wp2_with fail
            go_ret
            exact ⟨rfl, HO.out.below⟩
          · have HR := Lib.hid (hok2 na m m (by unfold remM; rw [if_neg (by omega)]) (by omega) (by rw [if_neg (by omega), decide_eq_false (by omega)]; cases na <;> rfl))
            have j1 : ¬ (n : Int) < 2 * (m : Int) := by omega
            have j2 : (2 * (m : Int) == (n : Int)) = false := by simp; omega
            have j3 : ((m : Int) == 0) = false := by simp; omega
            clear hok hok2 g1 g2 g3
            go_wp2_with fail
            refine (HZ.out _).mono ?_
            rintro en wn ⟨rfl, hbn⟩
            have O := HO.out.keep hbn
            clear HO c1 f1 z1 y1 n10 c0 f0 z0 y0 zz
            obtain ⟨c1, f1, z1, y1, ⟨n10, -⟩, c0, f0, z0, y0, -, zz⟩ := O.rules
            have HO := Lib.hid O; clear O
            clear hbn
            go_wp2_with fail
            refine (HR.out _).mono ?_
            rintro en wn ⟨rfl, hbn⟩
            have O := HO.out.keep hbn
            clear HO c1 f1 z1 y1 n10 c0 f0 z0 y0 zz
            obtain ⟨c1, f1, z1, y1, ⟨n10, -⟩, c0, f0, z0, y0, -, zz⟩ := O.rules
            have HO := Lib.hid O; clear O
            clear hbn
            go_wp2_with fail
            go_ret
            exact ⟨rfl, HO.out.below⟩

set_option maxHeartbeats 4000000 in
theorem rrem_down (a b mx my pk qk pl ql K v : Nat) (xe ye : Int) (na nb pq qq : Bool) (w : World)
    (hz : ∀ w, Calls Try.prog 21 #[] w fun en w' => en = .returned (.agg #[.int .i64 52, .int .i64 2047, .int .i64 1023]) ∧ Below w.heap.size w w')
    (hp : ∀ w, Calls Try.prog 31 #[.int .u64 a, .agg #[.int .i64 52, .int .i64 2047, .int .i64 1023]] w fun en w' => en = .returned (.agg #[.int .i64 pk, .bool na, .int .u64 mx, .int .i64 xe, .bool pq, .int .u64 pl]) ∧ Below w.heap.size w w')
    (hq : ∀ w, Calls Try.prog 31 #[.int .u64 b, .agg #[.int .i64 52, .int .i64 2047, .int .i64 1023]] w fun en w' => en = .returned (.agg #[.int .i64 qk, .bool nb, .int .u64 my, .int .i64 ye, .bool qq, .int .u64 ql]) ∧ Below w.heap.size w w')
    (hmx : mx < 9007199254740992) (hmy : my < 9007199254740992) (hmy0 : 0 < my) (hb1 : -2000 ≤ ye ∧ ye ≤ 2000) (hb2 : -2000 ≤ xe ∧ xe ≤ 2000)
    (p4 : ((pk : Int) == 4) = false) (p3 : ((pk : Int) == 3) = false) (p0 : ((pk : Int) == 0) = false) (q4 : ((qk : Int) == 4) = false) (q3 : ((qk : Int) == 3) = false) (q0 : ((qk : Int) == 0) = false)
    (hK : ye = xe + K) (hK0 : 0 < K) (hr : my * 2 ^ K ≤ 72057594037927936 → RndOk na (mx % (my * 2 ^ K)) (my * 2 ^ K) (mx / (my * 2 ^ K) % 2 == 1) xe v) (he : ∀ j, j < K → 36028797018963968 < my * 2 ^ j → v = a) :
    Calls Try.prog 74 #[.int .u64 a, .int .u64 b] w (U64Post v w) := by
  have HZ := Lib.hid hz; have HP := Lib.hid hp; have HQ := Lib.hid hq; have HRR := Lib.hid hr; have HK := Lib.hid hK; have HE := Lib.hid he
  have hge : xe < ye := by omega
  clear hz hp hq hr hK he
  go_enter Try.func74, Try.ntmps74
  go_wp2_with fail
  have O := Reg.Own.nil w
  have zz := O.rules
  have HO := Lib.hid O; clear O
  go_wp2_with fail
  refine (HZ.out _).mono ?_
  rintro en wn ⟨rfl, hbn⟩
  have O := HO.out.keep hbn
  clear HO zz
  have zz := O.rules
  have HO := Lib.hid O; clear O
  clear hbn
  go_wp2_with fail
  refine (HP.out _).mono ?_
  rintro en wn ⟨rfl, hbn⟩
  have O := HO.out.keep hbn
  clear HO zz
  have zz := O.rules
  have HO := Lib.hid O; clear O
  clear hbn
  go_wp2_with fail
  refine (HZ.out _).mono ?_
  rintro en wn ⟨rfl, hbn⟩
  have O := HO.out.keep hbn
  clear HO zz
  have zz := O.rules
  have HO := Lib.hid O; clear O
  clear hbn
  go_wp2_with fail
  refine (HQ.out _).mono ?_
  rintro en wn ⟨rfl, hbn⟩
  have O := HO.out.keep hbn
  clear HO zz
  have zz := O.rules
  have HO := Lib.hid O; clear O
  clear hbn
  go_wp2_with fail
  have O := HO.out.alloc rfl #[.int .i64 pk, .bool na, .int .u64 mx, .int .i64 xe, .bool pq, .int .u64 pl] 32
  clear HO zz
  obtain ⟨c0, f0, z0, y0, -, zz⟩ := O.rules
  have HO := Lib.hid O; clear O
  have O := HO.out.alloc (k := wn.heap.size + 1) (by simp) #[.int .i64 qk, .bool nb, .int .u64 my, .int .i64 ye, .bool qq, .int .u64 ql] 32
  clear HO c0 f0 z0 y0 zz
  obtain ⟨c1, f1, z1, y1, ⟨n10, -⟩, c0, f0, z0, y0, -, zz⟩ := O.rules
  have HO := Lib.hid O; clear O
  go_wp2_with fail
  refine Reg.wp_region_rd (by kernel_rfl) (by kernel_rfl) (fun _ => ?_)
  repeat (refine Reg.rd_op rfl ?_; apply Exists.intro; apply And.intro; (intro w' hb; have hc := Reg.rd_cells hb; clear hb; go_simp; (try go_bits); first | done | (with_reducible exact rfl)); (intro _ a' ha'; simp only [Act.put, List.setIfInBounds_toArray, List.set_cons_zero, List.set_cons_succ] at ha'; subst ha'))
  refine Reg.rd_end (fun wz hb => ?_)
  have O := HO.out.keep hb
  clear HO c1 f1 z1 y1 n10 c0 f0 z0 y0 zz
  obtain ⟨c1, f1, z1, y1, ⟨n10, -⟩, c0, f0, z0, y0, -, zz⟩ := O.rules
  have HO := Lib.hid O; clear O
  clear hb
  go_wp2_with fail
  go_loop [8, 12] (fun n t => ∃ (j : Nat) (i : Int), j ≤ K ∧ i = xe + j ∧ t = .int .i64 i ∧ n = .int .u64 ((my * 2 ^ j : Nat) : Int) ∧ (j = 0 ∨ my * 2 ^ j ≤ 72057594037927936)) (fun _ t => (3000 - intOf t).toNat)
  case atStart => exact ⟨0, xe, by omega, by omega, rfl, by simp, .inl rfl⟩
  case round =>
    obtain ⟨j, i, hj, hi, rfl, rfl, hbd⟩ := hrel
    have HI := Lib.hid hi
    have hib : -2000 ≤ i ∧ i ≤ 2000 := by have := HK.out; omega
    have hn1 : my * 2 ^ (j + 1) = my * 2 ^ j * 2 := by rw [Nat.pow_succ, Nat.mul_assoc]
    have hbd2 : my * 2 ^ j ≤ 72057594037927936 := by
      rcases hbd with h | h
      · subst h; simp; omega
      · exact h
    have hpos : 0 < my * 2 ^ j := Nat.mul_pos hmy0 (Nat.two_pow_pos j)
    clear hbd
    by_cases hjK : j < K
    · have hgt : i < ye := by have := HK.out; omega
      have HN1 := Lib.hid hn1
      have hee := HE.out j hjK
      clear hn1 hi
      generalize my * 2 ^ j = n at *
      by_cases hc : 36028797018963968 < n
      · have hc1 : (36028797018963968 : Int) < (n : Int) := by omega
        have hv := hee hc
        have HV := Lib.hid hv
        clear hee hc hv
        go_wp2_with fail
        go_ret
        exact ⟨by rw [HV.out]; rfl, HO.out.below⟩
      · have hc1 : (n : Int) ≤ 36028797018963968 := by omega
        have HC := Lib.hid hc
        clear hee hc hbd2
        go_wp2_with fail
        go_round
        case rel => exact ⟨j + 1, i + 1, by omega, by have := HI.out; omega, rfl, congrArg (Value.int .u64) (by rw [HN1.out]; omega), .inr (by rw [HN1.out]; have := HC.out; omega)⟩
        case measure => simp [intOf]; omega
    · obtain rfl : j = K := by omega
      have hgt : ¬ i < ye := by have := HK.out; omega
      have hok := Lib.hid (HRR.out hbd2).out
      have hml : mx % (my * 2 ^ j) < my * 2 ^ j := Nat.mod_lt _ hpos
      clear hi hjK HRR HI hn1 HE
      generalize my * 2 ^ j = n at *
      have hni : (0 : Int) < (n : Int) := by omega
      have hmd : (mx : Int) % (n : Int) = ((mx % n : Nat) : Int) := by simp
      obtain ⟨Q, hQ⟩ : ∃ Q, Q = mx / n := ⟨_, rfl⟩
      have hq1 : (mx : Int) / (n : Int) = (Q : Int) := by rw [hQ]; simp
      have hQb : Q ≤ 9007199254740992 := by rw [hQ]; exact Nat.le_trans (Nat.div_le_self _ _) (by omega)
      rw [← hQ] at hok
      obtain ⟨odd, hodd⟩ : ∃ o, o = (Q % 2 == 1) := ⟨_, rfl⟩
      have hod : (((Q : Int) % 2) == 1) = odd := by rw [hodd, Bool.eq_iff_iff]; simp; omega
      rw [← hodd] at hok
      generalize mx % n = m at *
      generalize xe = e at *
      clear hodd HK hQ
      have hok2 := hok.out
      by_cases g1 : n < 2 * m
      · have HR := Lib.hid (hok2 (!na) (n - m) ((m : Int) - n) (by unfold remM; rw [if_pos (Or.inl g1)]) (by omega) (by rw [if_neg (by omega), decide_eq_true (by omega)]; cases na <;> rfl))
        have j1 : (n : Int) < 2 * (m : Int) := by omega
        have j2 : ((n : Int) - (m : Int) == 0) = false := by simp; omega
        have j3 : (n : Int) - (m : Int) = ((n - m : Nat) : Int) := by omega
        have j4 : (m : Int) ≤ (n : Int) := by omega
        rw [← j3] at HR
        clear hok hok2 g1 j3
        go_wp2_with fail
        refine (HZ.out _).mono ?_
        rintro en wn ⟨rfl, hbn⟩
        have O := HO.out.keep hbn
        clear HO c1 f1 z1 y1 n10 c0 f0 z0 y0 zz
        obtain ⟨c1, f1, z1, y1, ⟨n10, -⟩, c0, f0, z0, y0, -, zz⟩ := O.rules
        have HO := Lib.hid O; clear O
        clear hbn
        go_wp2_with fail
        refine (HR.out _).mono ?_
        rintro en wn ⟨rfl, hbn⟩
        have O := HO.out.keep hbn
        clear HO c1 f1 z1 y1 n10 c0 f0 z0 y0 zz
        obtain ⟨c1, f1, z1, y1, ⟨n10, -⟩, c0, f0, z0, y0, -, zz⟩ := O.rules
        have HO := Lib.hid O; clear O
        clear hbn
        go_wp2_with fail
        go_ret
        exact ⟨rfl, HO.out.below⟩
      · by_cases g2 : 2 * m = n
        · cases odd
          · have HR := Lib.hid (hok2 na m m (by unfold remM; rw [if_neg (by simp; omega)]) (by omega) (by rw [if_neg (by omega), decide_eq_false (by omega)]; cases na <;> rfl))
            have j1 : ¬ (n : Int) < 2 * (m : Int) := by omega
            have j2 : (2 * (m : Int) == (n : Int)) = true := by simp; omega
            have j3 : ((m : Int) == 0) = false := by simp; omega
            clear hok hok2 g1 g2
            go_wp2_with fail
            refine (HZ.out _).mono ?_
            rintro en wn ⟨rfl, hbn⟩
            have O := HO.out.keep hbn
            clear HO c1 f1 z1 y1 n10 c0 f0 z0 y0 zz
            obtain ⟨c1, f1, z1, y1, ⟨n10, -⟩, c0, f0, z0, y0, -, zz⟩ := O.rules
            have HO := Lib.hid O; clear O
            clear hbn
            go_wp2_with fail
            refine (HR.out _).mono ?_
            rintro en wn ⟨rfl, hbn⟩
            have O := HO.out.keep hbn
            clear HO c1 f1 z1 y1 n10 c0 f0 z0 y0 zz
            obtain ⟨c1, f1, z1, y1, ⟨n10, -⟩, c0, f0, z0, y0, -, zz⟩ := O.rules
            have HO := Lib.hid O; clear O
            clear hbn
            go_wp2_with fail
            go_ret
            exact ⟨rfl, HO.out.below⟩
          · have HR := Lib.hid (hok2 (!na) (n - m) ((m : Int) - n) (by unfold remM; rw [if_pos (Or.inr ⟨g2, rfl⟩)]) (by omega) (by rw [if_neg (by omega), decide_eq_true (by omega)]; cases na <;> rfl))
            have j1 : ¬ (n : Int) < 2 * (m : Int) := by omega
            have j5 : (2 * (m : Int) == (n : Int)) = true := by simp; omega
            have j2 : ((n : Int) - (m : Int) == 0) = false := by simp; omega
            have j3 : (n : Int) - (m : Int) = ((n - m : Nat) : Int) := by omega
            have j4 : (m : Int) ≤ (n : Int) := by omega
            rw [← j3] at HR
            clear hok hok2 g1 g2 j3
            go_wp2_with fail
            refine (HZ.out _).mono ?_
            rintro en wn ⟨rfl, hbn⟩
            have O := HO.out.keep hbn
            clear HO c1 f1 z1 y1 n10 c0 f0 z0 y0 zz
            obtain ⟨c1, f1, z1, y1, ⟨n10, -⟩, c0, f0, z0, y0, -, zz⟩ := O.rules
            have HO := Lib.hid O; clear O
            clear hbn
            go_wp2_with fail
            refine (HR.out _).mono ?_
            rintro en wn ⟨rfl, hbn⟩
            have O := HO.out.keep hbn
            clear HO c1 f1 z1 y1 n10 c0 f0 z0 y0 zz
            obtain ⟨c1, f1, z1, y1, ⟨n10, -⟩, c0, f0, z0, y0, -, zz⟩ := O.rules
            have HO := Lib.hid O; clear O
            clear hbn
            go_wp2_with fail
            go_ret
            exact ⟨rfl, HO.out.below⟩
        · by_cases g3 : m = 0
          · subst g3
            have HR := Lib.hid (hok2 na 0 0 (by unfold remM; rw [if_neg (by omega)]; rfl) (by rfl) (by rw [if_pos rfl]))
            have j1 : ¬ (n : Int) < 0 := by omega
            have j2 : ((0 : Int) == (n : Int)) = false := by simp; omega
            clear hok hok2 g1 g2
            go_wp2_with fail
            refine (HZ.out _).mono ?_
            rintro en wn ⟨rfl, hbn⟩
            have O := HO.out.keep hbn
            clear HO c1 f1 z1 y1 n10 c0 f0 z0 y0 zz
            obtain ⟨c1, f1, z1, y1, ⟨n10, -⟩, c0, f0, z0, y0, -, zz⟩ := O.rules
            have HO := Lib.hid O; clear O
            clear hbn
            go_wp2_with fail
            refine (HR.out _).mono ?_
            rintro en wn ⟨rfl, hbn⟩
            have O := HO.out.keep hbn
            clear HO c1 f1 z1 y1 n10 c0 f0 z0 y0 zz
            obtain ⟨c1, f1, z1, y1, ⟨n10, -⟩, c0, f0, z0, y0, -, zz⟩ := O.rules
            have HO := Lib.hid O; clear O
            clear hbn
            go_wp2_with fail
            go_ret
            exact ⟨rfl, HO.out.below⟩
          · have HR := Lib.hid (hok2 na m m (by unfold remM; rw [if_neg (by omega)]) (by omega) (by rw [if_neg (by omega), decide_eq_false (by omega)]; cases na <;> rfl))
            have j1 : ¬ (n : Int) < 2 * (m : Int) := by omega
            have j2 : (2 * (m : Int) == (n : Int)) = false := by simp; omega
            have j3 : ((m : Int) == 0) = false := by simp; omega
            clear hok hok2 g1 g2 g3
            go_wp2_with fail
            refine (HZ.out _).mono ?_
            rintro en wn ⟨rfl, hbn⟩
            have O := HO.out.keep hbn
            clear HO c1 f1 z1 y1 n10 c0 f0 z0 y0 zz
            obtain ⟨c1, f1, z1, y1, ⟨n10, -⟩, c0, f0, z0, y0, -, zz⟩ := O.rules
            have HO := Lib.hid O; clear O
            clear hbn
            go_wp2_with fail
            refine (HR.out _).mono ?_
            rintro en wn ⟨rfl, hbn⟩
            have O := HO.out.keep hbn
            clear HO c1 f1 z1 y1 n10 c0 f0 z0 y0 zz
            obtain ⟨c1, f1, z1, y1, ⟨n10, -⟩, c0, f0, z0, y0, -, zz⟩ := O.rules
            have HO := Lib.hid O; clear O
            clear hbn
            go_wp2_with fail
            go_ret
            exact ⟨rfl, HO.out.below⟩
end Go.Proofs.Ytpemchghaddgdaa
