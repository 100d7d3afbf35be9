/- Floats of other sizes, as the document has them; so many bits. Condition: a size has 1 to 52 bits of fraction and 2 to 11 of exponent. -/
import Derived.Test.YtpemchghaddgdaaHb
namespace Go.Proofs.Ytpemchghaddgdaa
open Go.RowKit Go.Pst
set_option maxRecDepth 20000
set_option linter.unusedSimpArgs false
set_option linter.unusedVariables false
attribute [local go_sem] x64bits x64from

def NN0 : Nat := 9221120237041090560

theorem signed_parts {f e : Nat} (neg : Bool) (u : Nat) (h : u < 2 ^ (f + e)) : signedBits f e neg u / 2 ^ f % 2 ^ e = u / 2 ^ f ∧ signedBits f e neg u % 2 ^ f = u % 2 ^ f ∧ (signedBits f e neg u / 2 ^ (f + e) % 2 == 1) = neg := by
  have hq : u / 2 ^ f < 2 ^ e := (Nat.div_lt_iff_lt_mul (Nat.two_pow_pos f)).2 (by rw [← Nat.pow_add, Nat.add_comm e f]; exact h)
  unfold signedBits
  cases neg
  · rw [if_neg Bool.false_ne_true]
    refine ⟨Nat.mod_eq_of_lt hq, rfl, ?_⟩
    rw [Nat.div_eq_of_lt h]; rfl
  · rw [if_pos rfl]
    rw [or_add1 h]
    have e1 : 2 ^ (f + e) = 2 ^ f * 2 ^ e := Nat.pow_add 2 f e
    refine ⟨?_, ?_, ?_⟩
    · rw [e1, Nat.mul_add_div (Nat.two_pow_pos f), Nat.add_mod_left, Nat.mod_eq_of_lt hq]
    · rw [e1, Nat.mul_add_mod]
    · rw [Nat.add_div_left _ (Nat.two_pow_pos _), Nat.div_eq_of_lt h]; rfl

theorem top_below (f e : Nat) : (2 ^ e - 1) * 2 ^ f < 2 ^ (f + e) := by
  rw [Nat.pow_add, Nat.mul_comm (2 ^ f)]
  exact Nat.mul_lt_mul_of_pos_right (by have := Nat.two_pow_pos e; omega) (Nat.two_pow_pos f)

theorem parts_inf (f e : Nat) (neg : Bool) : partsN f e (signedBits f e neg ((2 ^ e - 1) * 2 ^ f)) = ⟨3, neg, 0, 0, false, 0⟩ := by
  obtain ⟨s1, s2, s3⟩ := signed_parts neg ((2 ^ e - 1) * 2 ^ f) (top_below f e)
  unfold partsN
  rw [s1, s2, s3, Nat.mul_div_cancel _ (Nat.two_pow_pos f), if_pos rfl, Nat.mul_mod_left, if_pos rfl]

theorem rof_inf {f e : Nat} (hf1 : 1 ≤ f) (hf : f ≤ 52) (he1 : 1 ≤ e) (he : e ≤ 11) (neg : Bool) : rofN f e ⟨3, neg, 0, 0, false, 0⟩ 0 0 = (signedBits f e neg ((2 ^ e - 1) * 2 ^ f), 0) := by
  have := rofN_parts hf1 hf he1 he (sgnG_lt neg _ (top_below f e)) 0 0 (by rw [parts_inf]; rfl) (by rw [parts_inf]; rfl)
  rw [parts_inf] at this
  exact this

theorem inf_parts (f e b : Nat) (hn : nanG f e b = false) (hi : infG f e b = true) : partsN f e b = ⟨3, negG f e b, 0, 0, false, 0⟩ := by
  unfold nanG at hn
  unfold infG at hi
  simp only [decide_eq_true_eq] at hi
  rw [hi] at hn
  simp only [decide_true, Bool.true_and, decide_eq_false_iff_not, ne_eq, Decidable.not_not] at hn
  unfold partsN negG
  rw [if_pos hi, if_pos hn]

theorem inf_parts64 (b : Nat) (hb : b < 2 ^ 64) (hi : infB b = true) : partsN 52 11 b = ⟨3, negB b, 0, 0, false, 0⟩ := by
  unfold infB at hi
  simp only [decide_eq_true_eq] at hi
  rw [parts64_num b hb, if_pos (by omega), if_pos (by omega)]
  rfl

theorem rnone_any (w : World) : Calls Try.prog 99 #[] w fun en w' => en = .returned (.int .u64 NN0) ∧ w = w' := by
  go_enter Try.func99, Try.ntmps99
  go_wp2
  go_ret
  exact ⟨rfl, rfl⟩

def NQ (f e : Nat) : Nat := (rofN f e ⟨4, false, 0, 0, true, 0⟩ 0 0).1



set_option maxHeartbeats 1000000 in
theorem into_any (f e T Bs b : Nat) (w : World) (hf1 : 1 ≤ f) (hf : f ≤ 52) (he1 : 1 ≤ e) (he : e ≤ 11) (hT : T = 2 ^ e - 1) (hBs : Bs = (2 ^ e - 1) / 2) (hb : b < 2 ^ 64) :
    Calls Try.prog 65 #[.int .u64 b, .agg #[.int .i64 f, .int .i64 T, .int .i64 Bs]] w fun en w' => en = .returned (.int .u64 (intoN f e (NQ f e) b)) ∧ Below w.heap.size w w' := by
  have hz := fun w => size64_any w
  have hp := fun w => refparts64 b w hb
  obtain ⟨m, hm, hm1, k1, k2, k3, k4, k5⟩ := parts_say b hb
  have hq := fun w => rof_any f T Bs e 0 0 ⟨4, false, 0, 0, true, 0⟩ w hf1 hf he1 he hT hBs rfl rfl (by omega) (by omega)
  have hi := fun neg w => rof_any f T Bs e 0 0 ⟨3, neg, 0, 0, false, 0⟩ w hf1 hf he1 he hT hBs rfl rfl (by omega) (by omega)
  have hr := fun neg E h1 h2 w => refround_any f e T Bs m E neg false w hf he1 he hT hBs (by omega) (fun h => by cases h) h1 h2
  simp only [FP.val] at hq hi
  have hiv := rof_inf hf1 hf he1 he
  have hv : intoN f e (NQ f e) b = if nan64 b then NQ f e else if infB b then signedBits f e (negB b) ((2 ^ e - 1) * 2 ^ f) else signedBits f e (negB b) (rndN f e m (partsN 52 11 b).exp) := by
    unfold intoN
    cases h1 : nan64 b
    · cases h2 : infB b
      · rw [k5 h1 h2]; simp only [Bool.false_eq_true, if_false]
      · simp only [Bool.false_eq_true, if_false, if_true]
    · simp only [if_true]
  rw [hv]
  have hpi := inf_parts64 b hb
  clear hv k5 hT hBs
  cases hna : nan64 b
  · rw [if_neg (by simp)]
    rw [hna] at k1
    cases hni : infB b
    · rw [if_neg (by simp)]
      rw [hni] at k2
      have hr2 := fun w => hr (partsN 52 11 b).neg (partsN 52 11 b).exp (by omega) (by omega) w
      have e4 : rndN f e (4 * m + false.toNat) ((partsN 52 11 b).exp - 2) = rndN f e m (partsN 52 11 b).exp := by
        rw [show 4 * m + false.toNat = 4 * m from rfl, rnd_four]
      simp only [e4] at hr2
      rw [← k3]
      clear hr hpi hiv hi hq e4 k3
      generalize hy : signedBits f e (partsN 52 11 b).neg (rndN f e m (partsN 52 11 b).exp) = y at *
      clear hy
      generalize partsN 52 11 b = p at *
      obtain ⟨pk, pn, pm, px, pq, pl⟩ := p
      simp only [FP.val] at hp hm k1 k2 hr2
      subst hm
      have HZ := Lib.hid hz; have HP := Lib.hid hp; have HR := Lib.hid hr2; clear hz hp hr2
      go_enter Try.func65, Try.ntmps65
      go_wp2_with fail
      have O := (Reg.Own.nil w).alloc rfl #[.int .i64 f, .int .i64 T, .int .i64 Bs] 35
      obtain ⟨c0, f0, z0, y0, -, zz⟩ := O.rules
      have HO := Lib.hid O; clear O
      refine (HZ.out _).mono ?_
      rintro en wn ⟨rfl, hbn⟩
      have O := HO.out.keep hbn
      clear HO c0 f0 z0 y0 zz
      obtain ⟨c0, f0, z0, y0, -, zz⟩ := O.rules
      have HO := Lib.hid O; clear O
      clear hbn
      go_wp2_with fail
      refine (HP.out _).mono ?_
      rintro en wn ⟨rfl, hbn⟩
      have O := HO.out.keep hbn
      clear HO c0 f0 z0 y0 zz
      obtain ⟨c0, f0, z0, y0, -, zz⟩ := O.rules
      have HO := Lib.hid O; clear O
      clear hbn
      go_wp2_with fail
      have O := HO.out.alloc rfl #[.int .i64 pk, .bool pn, .int .u64 m, .int .i64 px, .bool pq, .int .u64 pl] 32
      clear HO c0 f0 z0 y0 zz
      obtain ⟨c1, f1, z1, y1, ⟨n10, -⟩, c0, f0, z0, y0, -, zz⟩ := O.rules
      have HO := Lib.hid O; clear O
      refine (HR.out _).mono ?_
      rintro en wn ⟨rfl, hbn⟩
      have O := HO.out.keep hbn
      clear HO c1 f1 z1 y1 n10 c0 f0 z0 y0 zz
      obtain ⟨c1, f1, z1, y1, ⟨n10, -⟩, c0, f0, z0, y0, -, zz⟩ := O.rules
      have HO := Lib.hid O; clear O
      clear hbn
      go_wp2_with fail
      go_ret
      exact ⟨by first | rfl | simp, HO.out.below⟩
    · rw [if_pos rfl]
      rw [hni] at k2
      have hi2 := hi (negB b)
      rw [hiv (negB b)] at hi2
      rw [hpi hni] at hp
      clear hr hi hq hpi hiv k1 k2 k3 k4 hm hm1
      simp only [FP.val] at hp
      simp only at hi2
      generalize hy : signedBits f e (negB b) ((2 ^ e - 1) * 2 ^ f) = y at *
      clear hy
      have HZ := Lib.hid hz; have HP := Lib.hid hp; have HI := Lib.hid hi2; clear hz hp hi2
      generalize negB b = pn at *
      go_enter Try.func65, Try.ntmps65
      go_wp2_with fail
      have O := (Reg.Own.nil w).alloc rfl #[.int .i64 f, .int .i64 T, .int .i64 Bs] 35
      obtain ⟨c0, f0, z0, y0, -, zz⟩ := O.rules
      have HO := Lib.hid O; clear O
      refine (HZ.out _).mono ?_
      rintro en wn ⟨rfl, hbn⟩
      have O := HO.out.keep hbn
      clear HO c0 f0 z0 y0 zz
      obtain ⟨c0, f0, z0, y0, -, zz⟩ := O.rules
      have HO := Lib.hid O; clear O
      clear hbn
      go_wp2_with fail
      refine (HP.out _).mono ?_
      rintro en wn ⟨rfl, hbn⟩
      have O := HO.out.keep hbn
      clear HO c0 f0 z0 y0 zz
      obtain ⟨c0, f0, z0, y0, -, zz⟩ := O.rules
      have HO := Lib.hid O; clear O
      clear hbn
      go_wp2_with fail
      have O := HO.out.alloc rfl #[.int .i64 3, .bool pn, .int .u64 0, .int .i64 0, .bool false, .int .u64 0] 32
      clear HO c0 f0 z0 y0 zz
      obtain ⟨c1, f1, z1, y1, ⟨n10, -⟩, c0, f0, z0, y0, -, zz⟩ := O.rules
      have HO := Lib.hid O; clear O
      refine (HI.out _).mono ?_
      rintro en wn ⟨rfl, hbn⟩
      have O := HO.out.keep hbn
      clear HO c1 f1 z1 y1 n10 c0 f0 z0 y0 zz
      obtain ⟨c1, f1, z1, y1, ⟨n10, -⟩, c0, f0, z0, y0, -, zz⟩ := O.rules
      have HO := Lib.hid O; clear O
      clear hbn
      go_wp2_with fail
      go_ret
      exact ⟨by first | rfl | simp, HO.out.below⟩
  · rw [if_pos rfl]
    rw [hna] at k1
    clear hr hi hpi hiv k3
    unfold NQ
    generalize rofN f e ⟨4, false, 0, 0, true, 0⟩ 0 0 = q at *
    generalize partsN 52 11 b = p at *
    obtain ⟨pk, pn, pm, px, pq, pl⟩ := p
    obtain ⟨q1, q2⟩ := q
    simp only [FP.val] at hp hm k1 k2 hq
    subst hm
    have HZ := Lib.hid hz; have HP := Lib.hid hp; have HQ := Lib.hid hq; clear hz hp hq
    go_enter Try.func65, Try.ntmps65
    go_wp2_with fail
    have O := (Reg.Own.nil w).alloc rfl #[.int .i64 f, .int .i64 T, .int .i64 Bs] 35
    obtain ⟨c0, f0, z0, y0, -, zz⟩ := O.rules
    have HO := Lib.hid O; clear O
    refine (HZ.out _).mono ?_
    rintro en wn ⟨rfl, hbn⟩
    have O := HO.out.keep hbn
    clear HO c0 f0 z0 y0 zz
    obtain ⟨c0, f0, z0, y0, -, zz⟩ := O.rules
    have HO := Lib.hid O; clear O
    clear hbn
    go_wp2_with fail
    refine (HP.out _).mono ?_
    rintro en wn ⟨rfl, hbn⟩
    have O := HO.out.keep hbn
    clear HO c0 f0 z0 y0 zz
    obtain ⟨c0, f0, z0, y0, -, zz⟩ := O.rules
    have HO := Lib.hid O; clear O
    clear hbn
    go_wp2_with fail
    have O := HO.out.alloc rfl #[.int .i64 pk, .bool pn, .int .u64 m, .int .i64 px, .bool pq, .int .u64 pl] 32
    clear HO c0 f0 z0 y0 zz
    obtain ⟨c1, f1, z1, y1, ⟨n10, -⟩, c0, f0, z0, y0, -, zz⟩ := O.rules
    have HO := Lib.hid O; clear O
    refine (HQ.out _).mono ?_
    rintro en wn ⟨rfl, hbn⟩
    have O := HO.out.keep hbn
    clear HO c1 f1 z1 y1 n10 c0 f0 z0 y0 zz
    obtain ⟨c1, f1, z1, y1, ⟨n10, -⟩, c0, f0, z0, y0, -, zz⟩ := O.rules
    have HO := Lib.hid O; clear O
    clear hbn
    go_wp2_with fail
    go_ret
    exact ⟨by first | rfl | simp, HO.out.below⟩


set_option maxHeartbeats 1000000 in
theorem from_any (f e T Bs b : Nat) (w : World) (hf1 : 1 ≤ f) (hf : f ≤ 52) (he1 : 1 ≤ e) (he : e ≤ 11) (hT : T = 2 ^ e - 1) (hBs : Bs = (2 ^ e - 1) / 2) (h : b < 2 ^ (1 + f + e)) :
    Calls Try.prog 68 #[.int .u64 b, .agg #[.int .i64 f, .int .i64 T, .int .i64 Bs]] w fun en w' => en = .returned (.int .u64 (fromN f e NN0 b)) ∧ Below w.heap.size w w' := by
  have hb : b < 2 ^ 64 := Nat.lt_of_lt_of_le h (Nat.pow_le_pow_right (by omega) (by omega))
  have a3' : 2 ^ e ≤ 2 ^ 11 := Nat.pow_le_pow_right (by omega) he
  obtain ⟨m, hm, hm1, k1, k2, k3, k4, k5⟩ := partsG f e b hf1 h he1
  have hm2 : 2 ^ (f + 1) ≤ 2 ^ 53 := Nat.pow_le_pow_right (by omega) (by omega)
  have hp := fun w => rparts_any f T Bs e b w hf1 hf he1 he hb hT hBs
  have hz : ∀ w, Calls Try.prog 21 #[] w fun en w' => en = .returned (.agg #[.int .i64 52, .int .i64 2047, .int .i64 1023]) ∧ Below w.heap.size w w' := fun w => size64_any w
  have hi : ∀ neg w, Calls Try.prog 19 #[.agg #[.int .i64 3, .bool neg, .int .u64 0, .int .i64 0, .bool false, .int .u64 0], .agg #[.int .i64 52, .int .i64 2047, .int .i64 1023]] w fun en w' =>
      en = .returned (.tuple #[.int .u64 (signedBits 52 11 neg 9218868437227405312), .int .i64 0]) ∧ Below w.heap.size w w' := fun neg w => by
    have h1 := rof_any 52 2047 1023 11 0 0 ⟨3, neg, 0, 0, false, 0⟩ w (by omega) (by omega) (by omega) (by omega) rfl rfl rfl rfl (by omega) (by omega)
    rw [rof_inf (by omega) (by omega) (by omega) (by omega)] at h1
    exact h1
  have hr : ∀ neg E, -2 ^ 40 ≤ E → E ≤ 2 ^ 40 → ∀ w, Calls Try.prog 55 #[.bool neg, .int .u64 m, .int .i64 E, .bool false, .agg #[.int .i64 52, .int .i64 2047, .int .i64 1023]] w fun en w' =>
      en = .returned (.int .u64 (signedBits 52 11 neg (rndN 52 11 m E))) ∧ Below w.heap.size w w' := fun neg E h1 h2 w => by
    have h3 := refround_any 52 11 2047 1023 m E neg false w (by omega) (by omega) (by omega) rfl rfl (by omega) (fun h => by cases h) h1 h2
    rw [show 4 * m + false.toNat = 4 * m from rfl, rnd_four] at h3
    exact h3
  have hv : fromN f e NN0 b = if nanG f e b then NN0 else if infG f e b then signedBits 52 11 (negG f e b) 9218868437227405312 else signedBits 52 11 (partsN f e b).neg (rndN 52 11 m (partsN f e b).exp) := by
    unfold fromN
    rw [k3]
    cases h1 : nanG f e b
    · cases h2 : infG f e b
      · obtain ⟨q1, q2⟩ := k5 h2
        rw [q1, q2]
        simp only [Bool.false_eq_true, if_false]
      · simp only [Bool.false_eq_true, if_false, if_true]
    · simp only [if_true]
  rw [hv]
  have hpi := inf_parts f e b
  clear hv k5 hm1 hm2 h hT hBs
  cases hna : nanG f e b
  · rw [if_neg (by simp)]
    rw [hna] at k1 k2
    replace k2 := k2 rfl
    cases hni : infG f e b
    · rw [if_neg (by simp)]
      rw [hni] at k2
      have hr2 := hr (partsN f e b).neg (partsN f e b).exp (by omega) (by omega)
      clear hr hpi hi k3
      generalize signedBits 52 11 (partsN f e b).neg (rndN 52 11 m (partsN f e b).exp) = y at *
      generalize partsN f e b = p at *
      obtain ⟨pk, pn, pm, px, pq, pl⟩ := p
      simp only [FP.val] at hp hm k1 k2 hr2
      subst hm
      have HZ := Lib.hid hz; have HP := Lib.hid hp; have HR := Lib.hid hr2; clear hz hp hr2
      go_enter Try.func68, Try.ntmps68
      go_wp2_with fail
      have O := (Reg.Own.nil w).alloc rfl #[.int .i64 f, .int .i64 T, .int .i64 Bs] 35
      obtain ⟨c0, f0, z0, y0, -, zz⟩ := O.rules
      have HO := Lib.hid O; clear O
      refine (HP.out _).mono ?_
      rintro en wn ⟨rfl, hbn⟩
      have O := HO.out.keep hbn
      clear HO c0 f0 z0 y0 zz
      obtain ⟨c0, f0, z0, y0, -, zz⟩ := O.rules
      have HO := Lib.hid O; clear O
      clear hbn
      go_wp2_with fail
      have O := HO.out.alloc rfl #[.int .i64 pk, .bool pn, .int .u64 m, .int .i64 px, .bool pq, .int .u64 pl] 32
      clear HO c0 f0 z0 y0 zz
      obtain ⟨c1, f1, z1, y1, ⟨n10, -⟩, c0, f0, z0, y0, -, zz⟩ := O.rules
      have HO := Lib.hid O; clear O
      go_wp2_with fail
      refine Reg.wp_region_rd (by kernel_rfl) (by kernel_rfl) (fun _ => ?_)
      repeat (refine Reg.rd_op rfl ?_; apply Exists.intro; apply And.intro; (intro w' hb; have hc := Reg.rd_cells hb; clear hb; go_simp; (try go_bits); first | done | (with_reducible exact rfl)); (intro _ a' ha'; simp only [Act.put, List.setIfInBounds_toArray, List.set_cons_zero, List.set_cons_succ] at ha'; subst ha'))
      refine Reg.rd_op rfl ?_; apply Exists.intro; apply And.intro
      · intro w' hb; have hsz := Reg.rd_size hb; clear hb; go_simp; (try go_bits); exact HZ.out _
      intro _ a' ha'; simp only [Act.put, List.setIfInBounds_toArray, List.set_cons_zero, List.set_cons_succ] at ha'; subst ha'
      repeat (refine Reg.rd_op rfl ?_; apply Exists.intro; apply And.intro; (intro w' hb; have hc := Reg.rd_cells hb; clear hb; go_simp; (try go_bits); first | done | (with_reducible exact rfl)); (intro _ a' ha'; simp only [Act.put, List.setIfInBounds_toArray, List.set_cons_zero, List.set_cons_succ] at ha'; subst ha'))
      refine Reg.rd_op rfl ?_; apply Exists.intro; apply And.intro
      · intro w' hb; have hsz := Reg.rd_size hb; clear hb; go_simp; (try go_bits); exact HR.out _
      intro _ a' ha'; simp only [Act.put, List.setIfInBounds_toArray, List.set_cons_zero, List.set_cons_succ] at ha'; subst ha'
      repeat (refine Reg.rd_op rfl ?_; apply Exists.intro; apply And.intro; (intro w' hb; have hc := Reg.rd_cells hb; clear hb; go_simp; (try go_bits); first | done | (with_reducible exact rfl)); (intro _ a' ha'; simp only [Act.put, List.setIfInBounds_toArray, List.set_cons_zero, List.set_cons_succ] at ha'; subst ha'))
      refine Reg.rd_end (fun wz hb => ?_)
      have O := HO.out.keep hb
      clear HO c1 f1 z1 y1 n10 c0 f0 z0 y0 zz
      obtain ⟨c1, f1, z1, y1, ⟨n10, -⟩, c0, f0, z0, y0, -, zz⟩ := O.rules
      have HO := Lib.hid O; clear O
      clear hb
      go_wp2_with fail
      go_ret
      exact ⟨by first | rfl | simp, HO.out.below⟩
    · rw [if_pos rfl]
      rw [hpi hna hni] at hp
      have hi2 := hi (negG f e b)
      clear hr hi hpi k1 k2 k3 k4 hm
      simp only [FP.val] at hp
      generalize hy : signedBits 52 11 (negG f e b) 9218868437227405312 = y at *
      clear hy
      have HZ := Lib.hid hz; have HP := Lib.hid hp; have HI := Lib.hid hi2; clear hz hp hi2
      generalize negG f e b = pn at *
      go_enter Try.func68, Try.ntmps68
      go_wp2_with fail
      have O := (Reg.Own.nil w).alloc rfl #[.int .i64 f, .int .i64 T, .int .i64 Bs] 35
      obtain ⟨c0, f0, z0, y0, -, zz⟩ := O.rules
      have HO := Lib.hid O; clear O
      refine (HP.out _).mono ?_
      rintro en wn ⟨rfl, hbn⟩
      have O := HO.out.keep hbn
      clear HO c0 f0 z0 y0 zz
      obtain ⟨c0, f0, z0, y0, -, zz⟩ := O.rules
      have HO := Lib.hid O; clear O
      clear hbn
      go_wp2_with fail
      have O := HO.out.alloc rfl #[.int .i64 3, .bool pn, .int .u64 0, .int .i64 0, .bool false, .int .u64 0] 32
      clear HO c0 f0 z0 y0 zz
      obtain ⟨c1, f1, z1, y1, ⟨n10, -⟩, c0, f0, z0, y0, -, zz⟩ := O.rules
      have HO := Lib.hid O; clear O
      go_wp2_with fail
      refine Reg.wp_region_rd (by kernel_rfl) (by kernel_rfl) (fun _ => ?_)
      repeat (refine Reg.rd_op rfl ?_; apply Exists.intro; apply And.intro; (intro w' hb; have hc := Reg.rd_cells hb; clear hb; go_simp; (try go_bits); first | done | (with_reducible exact rfl)); (intro _ a' ha'; simp only [Act.put, List.setIfInBounds_toArray, List.set_cons_zero, List.set_cons_succ] at ha'; subst ha'))
      refine Reg.rd_op rfl ?_; apply Exists.intro; apply And.intro
      · intro w' hb; have hsz := Reg.rd_size hb; clear hb; go_simp; (try go_bits); exact HZ.out _
      intro _ a' ha'; simp only [Act.put, List.setIfInBounds_toArray, List.set_cons_zero, List.set_cons_succ] at ha'; subst ha'
      repeat (refine Reg.rd_op rfl ?_; apply Exists.intro; apply And.intro; (intro w' hb; have hc := Reg.rd_cells hb; clear hb; go_simp; (try go_bits); first | done | (with_reducible exact rfl)); (intro _ a' ha'; simp only [Act.put, List.setIfInBounds_toArray, List.set_cons_zero, List.set_cons_succ] at ha'; subst ha'))
      refine Reg.rd_op rfl ?_; apply Exists.intro; apply And.intro
      · intro w' hb; have hsz := Reg.rd_size hb; clear hb; go_simp; (try go_bits); exact HI.out _
      intro _ a' ha'; simp only [Act.put, List.setIfInBounds_toArray, List.set_cons_zero, List.set_cons_succ] at ha'; subst ha'
      repeat (refine Reg.rd_op rfl ?_; apply Exists.intro; apply And.intro; (intro w' hb; have hc := Reg.rd_cells hb; clear hb; go_simp; (try go_bits); first | done | (with_reducible exact rfl)); (intro _ a' ha'; simp only [Act.put, List.setIfInBounds_toArray, List.set_cons_zero, List.set_cons_succ] at ha'; subst ha'))
      refine Reg.rd_end (fun wz hb => ?_)
      have O := HO.out.keep hb
      clear HO c1 f1 z1 y1 n10 c0 f0 z0 y0 zz
      obtain ⟨c1, f1, z1, y1, ⟨n10, -⟩, c0, f0, z0, y0, -, zz⟩ := O.rules
      have HO := Lib.hid O; clear O
      clear hb
      go_wp2_with fail
      go_ret
      exact ⟨by first | rfl | simp, HO.out.below⟩
  · rw [if_pos rfl]
    rw [hna] at k1
    clear hr hi hpi k2 k3
    generalize partsN f e b = p at *
    obtain ⟨pk, pn, pm, px, pq, pl⟩ := p
    simp only [FP.val] at hp hm k1
    subst hm
    have HP := Lib.hid hp; clear hz hp
    go_enter Try.func68, Try.ntmps68
    go_wp2_with fail
    have O := (Reg.Own.nil w).alloc rfl #[.int .i64 f, .int .i64 T, .int .i64 Bs] 35
    obtain ⟨c0, f0, z0, y0, -, zz⟩ := O.rules
    have HO := Lib.hid O; clear O
    refine (HP.out _).mono ?_
    rintro en wn ⟨rfl, hbn⟩
    have O := HO.out.keep hbn
    clear HO c0 f0 z0 y0 zz
    obtain ⟨c0, f0, z0, y0, -, zz⟩ := O.rules
    have HO := Lib.hid O; clear O
    clear hbn
    go_wp2_with fail
    have O := HO.out.alloc rfl #[.int .i64 pk, .bool pn, .int .u64 m, .int .i64 px, .bool pq, .int .u64 pl] 32
    clear HO c0 f0 z0 y0 zz
    obtain ⟨c1, f1, z1, y1, ⟨n10, -⟩, c0, f0, z0, y0, -, zz⟩ := O.rules
    have HO := Lib.hid O; clear O
    go_wp2_with fail
    refine (rnone_any _).mono ?_
    rintro en wn ⟨rfl, rfl⟩
    go_wp2_with fail
    go_ret
    exact ⟨by first | rfl | simp, HO.out.below⟩

end Go.Proofs.Ytpemchghaddgdaa
