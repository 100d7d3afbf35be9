/- Floats of other sizes: made one of 64 bits; halves, brains, so many bits (the program's own functions). Condition: a size has 1 to 52 bits of fraction and 1 to 11 of exponent. -/
import Derived.Test.YtpemchghaddgdaaHa
namespace Go.Proofs.Ytpemchghaddgdaa
open Go.RowKit Go.Pst
set_option maxRecDepth 20000
set_option linter.unusedSimpArgs false
set_option linter.unusedVariables false
attribute [local go_sem] x64bits x64from

def NN1 : Nat := 9221120237041090561

theorem nan_any (w : World) : Calls Try.prog 110 #[] w fun en w' => en = .returned (.float .f64 NN1) ∧ w = w' := by
  go_enter Try.func110, Try.ntmps110
  go_wp2
  go_ret
  exact ⟨rfl, rfl⟩

theorem pinf_any (w : World) : Calls Try.prog 60 #[.int .i64 1] w fun en w' => en = .returned (.float .f64 9218868437227405312) ∧ w = w' := by
  go_enter Try.func60, Try.ntmps60
  go_wp2
  go_ret
  exact ⟨rfl, rfl⟩


set_option maxHeartbeats 1000000 in
theorem widened_any (f e b : Nat) (w : World) (hf1 : 1 ≤ f) (hf : f ≤ 52) (he1 : 1 ≤ e) (he : e ≤ 11) (h : b < 2 ^ (1 + f + e)) :
    Calls Try.prog 91 #[.int .u64 b, .agg #[.int .i64 f, .int .i64 e]] w fun en w' => en = .returned (.float .f64 (fromN f e NN1 b)) ∧ Below w.heap.size w w' := by
  have hb : b < 2 ^ 64 := Nat.lt_of_lt_of_le h (Nat.pow_le_pow_right (by omega) (by omega))
  have a3' : 2 ^ e ≤ 2 ^ 11 := Nat.pow_le_pow_right (by omega) he
  obtain ⟨m, hm, hm1, k1, k2, k3, k4, k5⟩ := partsG f e b hf1 h he1
  have hm2 : 2 ^ (f + 1) ≤ 2 ^ 53 := Nat.pow_le_pow_right (by omega) (by omega)
  have hp := fun w => parts_any f e b w hf1 hf he1 he hb
  have hd : ∀ w, Calls Try.prog 76 #[] w fun en w' => en = .returned (.agg #[.int .i64 52, .int .i64 11]) ∧ Below w.heap.size w w' := fun w => double_any w
  have hn : ∀ w, Calls Try.prog 94 #[.agg #[.int .i64 52, .int .i64 11], .int .u64 m, .int .i64 (partsN f e b).exp] w fun en w' => en = .returned (.int .u64 (rndN 52 11 m (partsN f e b).exp)) ∧ Below w.heap.size w w' :=
    fun w => near_all 52 11 m (partsN f e b).exp w (by omega) (by omega) (by omega) (by omega) (by omega) (by omega)
  have hi : ∀ w, Calls Try.prog 93 #[.int .u64 9218868437227405312, .bool (partsN f e b).neg] w fun en w' => en = .returned (.float .f64 (signedBits 52 11 (partsN f e b).neg 9218868437227405312)) ∧ Below w.heap.size w w' :=
    fun w => sgnd_any 9218868437227405312 (partsN f e b).neg w (by omega)
  have hs := fun w => sgnd_any (rndN 52 11 m (partsN f e b).exp) (partsN f e b).neg w (by have := rnd_lt m (partsN f e b).exp; omega)
  have hv : fromN f e NN1 b = if nanG f e b then NN1 else if infG f e b then signedBits 52 11 (partsN f e b).neg 9218868437227405312 else signedBits 52 11 (partsN f e b).neg (rndN 52 11 m (partsN f e b).exp) := by
    unfold fromN
    rw [k3]
    cases h1 : nanG f e b
    · cases h2 : infG f e b
      · obtain ⟨q1, q2⟩ := k5 h2
        rw [q1, q2]
        simp only [Bool.false_eq_true, if_false]
      · simp only [Bool.false_eq_true, if_false, if_true]
    · simp only [if_true]
  rw [hv]
  clear hv k5 k4 k3 hm1 hm2 h
  generalize hy : signedBits 52 11 (partsN f e b).neg (rndN 52 11 m (partsN f e b).exp) = y at *
  generalize hz : signedBits 52 11 (partsN f e b).neg 9218868437227405312 = z at *
  generalize rndN 52 11 m (partsN f e b).exp = r at *
  generalize partsN f e b = p at *
  obtain ⟨pk, pn, pm, px, pq, pl⟩ := p
  simp only [FP.val] at hp hm k1 k2 hn hi hs
  subst hm
  clear hy hz
  have HP := Lib.hid hp; have HN := Lib.hid hn; have HD := Lib.hid hd; have HI := Lib.hid hi; have HS := Lib.hid hs; clear hp hn hd hi hs
  generalize nanG f e b = na at *
  generalize infG f e b = ni at *
  cases na
  · replace k2 := k2 rfl
    rw [if_neg (by simp)]
    cases ni
    · rw [if_neg (by simp)]
      go_enter Try.func91, Try.ntmps91
      go_wp2_with fail
      have O := (Reg.Own.nil w).alloc rfl #[.int .i64 f, .int .i64 e] 100
      obtain ⟨c0, f0, z0, y0, -, zz⟩ := O.rules
      have HO := Lib.hid O; clear O
      refine (HP.out _).mono ?_
      rintro en wn ⟨rfl, hbn⟩
      have O := HO.out.keep hbn
      clear HO c0 f0 z0 y0 zz
      obtain ⟨c0, f0, z0, y0, -, zz⟩ := O.rules
      have HO := Lib.hid O; clear O
      clear hbn
      go_wp2_with fail
      have O := HO.out.alloc rfl #[.int .i64 pk, .bool pn, .int .u64 m, .int .i64 px, .bool pq, .int .u64 pl] 24
      clear HO c0 f0 z0 y0 zz
      obtain ⟨c1, f1, z1, y1, ⟨n10, -⟩, c0, f0, z0, y0, -, zz⟩ := O.rules
      have HO := Lib.hid O; clear O
      go_wp2_with fail
      refine Reg.wp_region_rd (by kernel_rfl) (by kernel_rfl) (fun _ => ?_)
      repeat (refine Reg.rd_op rfl ?_; apply Exists.intro; apply And.intro; (intro w' hb; have hc := Reg.rd_cells hb; clear hb; go_simp; (try go_bits); first | done | (with_reducible exact rfl)); (intro _ a' ha'; simp only [Act.put, List.setIfInBounds_toArray, List.set_cons_zero, List.set_cons_succ] at ha'; subst ha'))
      refine Reg.rd_op rfl ?_; apply Exists.intro; apply And.intro
      · intro w' hb; have hsz := Reg.rd_size hb; clear hb; go_simp; (try go_bits); exact HD.out _
      intro _ a' ha'; simp only [Act.put, List.setIfInBounds_toArray, List.set_cons_zero, List.set_cons_succ] at ha'; subst ha'
      repeat (refine Reg.rd_op rfl ?_; apply Exists.intro; apply And.intro; (intro w' hb; have hc := Reg.rd_cells hb; clear hb; go_simp; (try go_bits); first | done | (with_reducible exact rfl)); (intro _ a' ha'; simp only [Act.put, List.setIfInBounds_toArray, List.set_cons_zero, List.set_cons_succ] at ha'; subst ha'))
      refine Reg.rd_op rfl ?_; apply Exists.intro; apply And.intro
      · intro w' hb; have hsz := Reg.rd_size hb; clear hb; go_simp; (try go_bits); exact HN.out _
      intro _ a' ha'; simp only [Act.put, List.setIfInBounds_toArray, List.set_cons_zero, List.set_cons_succ] at ha'; subst ha'
      repeat (refine Reg.rd_op rfl ?_; apply Exists.intro; apply And.intro; (intro w' hb; have hc := Reg.rd_cells hb; clear hb; go_simp; (try go_bits); first | done | (with_reducible exact rfl)); (intro _ a' ha'; simp only [Act.put, List.setIfInBounds_toArray, List.set_cons_zero, List.set_cons_succ] at ha'; subst ha'))
      refine Reg.rd_op rfl ?_; apply Exists.intro; apply And.intro
      · intro w' hb; have hsz := Reg.rd_size hb; clear hb; go_simp; (try go_bits); exact HS.out _
      intro _ a' ha'; simp only [Act.put, List.setIfInBounds_toArray, List.set_cons_zero, List.set_cons_succ] at ha'; subst ha'
      repeat (refine Reg.rd_op rfl ?_; apply Exists.intro; apply And.intro; (intro w' hb; have hc := Reg.rd_cells hb; clear hb; go_simp; (try go_bits); first | done | (with_reducible exact rfl)); (intro _ a' ha'; simp only [Act.put, List.setIfInBounds_toArray, List.set_cons_zero, List.set_cons_succ] at ha'; subst ha'))
      refine Reg.rd_end (fun wz hb => ?_)
      have O := HO.out.keep hb
      clear HO c1 f1 z1 y1 n10 c0 f0 z0 y0 zz
      obtain ⟨c1, f1, z1, y1, ⟨n10, -⟩, c0, f0, z0, y0, -, zz⟩ := O.rules
      have HO := Lib.hid O; clear O
      clear hb
      go_wp2_with fail
      go_ret
      exact ⟨by first | rfl | simp, HO.out.below⟩
    · rw [if_pos rfl]
      go_enter Try.func91, Try.ntmps91
      go_wp2_with fail
      have O := (Reg.Own.nil w).alloc rfl #[.int .i64 f, .int .i64 e] 100
      obtain ⟨c0, f0, z0, y0, -, zz⟩ := O.rules
      have HO := Lib.hid O; clear O
      refine (HP.out _).mono ?_
      rintro en wn ⟨rfl, hbn⟩
      have O := HO.out.keep hbn
      clear HO c0 f0 z0 y0 zz
      obtain ⟨c0, f0, z0, y0, -, zz⟩ := O.rules
      have HO := Lib.hid O; clear O
      clear hbn
      go_wp2_with fail
      have O := HO.out.alloc rfl #[.int .i64 pk, .bool pn, .int .u64 m, .int .i64 px, .bool pq, .int .u64 pl] 24
      clear HO c0 f0 z0 y0 zz
      obtain ⟨c1, f1, z1, y1, ⟨n10, -⟩, c0, f0, z0, y0, -, zz⟩ := O.rules
      have HO := Lib.hid O; clear O
      go_wp2_with fail
      refine Reg.wp_region_rd (by kernel_rfl) (by kernel_rfl) (fun _ => ?_)
      repeat (refine Reg.rd_op rfl ?_; apply Exists.intro; apply And.intro; (intro w' hb; have hc := Reg.rd_cells hb; clear hb; go_simp; (try go_bits); first | done | (with_reducible exact rfl)); (intro _ a' ha'; simp only [Act.put, List.setIfInBounds_toArray, List.set_cons_zero, List.set_cons_succ] at ha'; subst ha'))
      refine Reg.rd_op rfl ?_; apply Exists.intro; apply And.intro
      · intro w' hb; have hsz := Reg.rd_size hb; clear hb; go_simp; (try go_bits); exact (pinf_any _).mono (fun en w' ⟨e1, e2⟩ => ⟨e1, by subst e2; exact Below.refl _ _⟩)
      intro _ a' ha'; simp only [Act.put, List.setIfInBounds_toArray, List.set_cons_zero, List.set_cons_succ] at ha'; subst ha'
      repeat (refine Reg.rd_op rfl ?_; apply Exists.intro; apply And.intro; (intro w' hb; have hc := Reg.rd_cells hb; clear hb; go_simp; (try go_bits); first | done | (with_reducible exact rfl)); (intro _ a' ha'; simp only [Act.put, List.setIfInBounds_toArray, List.set_cons_zero, List.set_cons_succ] at ha'; subst ha'))
      refine Reg.rd_op rfl ?_; apply Exists.intro; apply And.intro
      · intro w' hb; have hsz := Reg.rd_size hb; clear hb; go_simp; (try go_bits); exact HI.out _
      intro _ a' ha'; simp only [Act.put, List.setIfInBounds_toArray, List.set_cons_zero, List.set_cons_succ] at ha'; subst ha'
      repeat (refine Reg.rd_op rfl ?_; apply Exists.intro; apply And.intro; (intro w' hb; have hc := Reg.rd_cells hb; clear hb; go_simp; (try go_bits); first | done | (with_reducible exact rfl)); (intro _ a' ha'; simp only [Act.put, List.setIfInBounds_toArray, List.set_cons_zero, List.set_cons_succ] at ha'; subst ha'))
      refine Reg.rd_end (fun wz hb => ?_)
      have O := HO.out.keep hb
      clear HO c1 f1 z1 y1 n10 c0 f0 z0 y0 zz
      obtain ⟨c1, f1, z1, y1, ⟨n10, -⟩, c0, f0, z0, y0, -, zz⟩ := O.rules
      have HO := Lib.hid O; clear O
      clear hb
      go_wp2_with fail
      go_ret
      exact ⟨by first | rfl | simp, HO.out.below⟩
  · clear k2
    rw [if_pos rfl]
    go_enter Try.func91, Try.ntmps91
    go_wp2_with fail
    have O := (Reg.Own.nil w).alloc rfl #[.int .i64 f, .int .i64 e] 100
    obtain ⟨c0, f0, z0, y0, -, zz⟩ := O.rules
    have HO := Lib.hid O; clear O
    refine (HP.out _).mono ?_
    rintro en wn ⟨rfl, hbn⟩
    have O := HO.out.keep hbn
    clear HO c0 f0 z0 y0 zz
    obtain ⟨c0, f0, z0, y0, -, zz⟩ := O.rules
    have HO := Lib.hid O; clear O
    clear hbn
    go_wp2_with fail
    have O := HO.out.alloc rfl #[.int .i64 pk, .bool pn, .int .u64 m, .int .i64 px, .bool pq, .int .u64 pl] 24
    clear HO c0 f0 z0 y0 zz
    obtain ⟨c1, f1, z1, y1, ⟨n10, -⟩, c0, f0, z0, y0, -, zz⟩ := O.rules
    have HO := Lib.hid O; clear O
    go_wp2_with fail
    refine (nan_any _).mono ?_
    rintro en wn ⟨rfl, rfl⟩
    go_wp2_with fail
    go_ret
    exact ⟨by first | rfl | simp, HO.out.below⟩

theorem sgnG_lt {f e : Nat} (neg : Bool) (u : Nat) (h : u < 2 ^ (f + e)) : signedBits f e neg u < 2 ^ (1 + f + e) := by
  have : 2 ^ (1 + f + e) = 2 * 2 ^ (f + e) := by rw [show 1 + f + e = (f + e) + 1 by omega, Nat.pow_succ]; omega
  unfold signedBits
  rw [this]
  split
  · rw [show 2 * 2 ^ (f + e) = 2 ^ (f + e + 1) by rw [Nat.pow_succ]; omega]
    exact Nat.or_lt_two_pow (by rw [Nat.pow_succ]; omega) (by rw [Nat.pow_succ]; have := Nat.two_pow_pos (f + e); omega)
  · omega

theorem into_lt {f e : Nat} (nn b : Nat) (he : 1 ≤ e) (hn : nn < 2 ^ (1 + f + e)) : intoN f e nn b < 2 ^ (1 + f + e) := by
  have ht : (2 ^ e - 1) * 2 ^ f < 2 ^ (f + e) := by
    rw [Nat.pow_add, Nat.mul_comm (2 ^ f)]
    exact Nat.mul_lt_mul_of_pos_right (by have := Nat.two_pow_pos e; omega) (Nat.two_pow_pos f)
  unfold intoN
  split
  · exact hn
  · refine sgnG_lt _ _ ?_
    split
    · exact ht
    · exact Nat.lt_of_le_of_lt (rnd_lt_top f e _ _) ht

theorem wrap16 (n : Nat) (h : n < 2 ^ 16) : IntKind.u16.wrap (n : Int) = n := by
  unfold IntKind.wrap
  simp [IntKind.signed, IntKind.bits]
  omega

theorem half_of_any (b : Nat) (w : World) (hb : b < 2 ^ 64) : Calls Try.prog 63 #[.float .f64 b] w fun en w' => en = .returned (.int .u16 (intoN 10 5 32256 b)) ∧ Below w.heap.size w w' := by
  have hr : ∀ w, Calls Try.prog 92 #[.float .f64 b, .agg #[.int .i64 10, .int .i64 5], .int .u64 32256] w fun en w' => en = .returned (.int .u64 (intoN 10 5 32256 b)) ∧ Below w.heap.size w w' := fun w => rounded_any 10 5 32256 b w (by omega) (by omega) (by omega) hb
  have hd : ∀ w, Calls Try.prog 97 #[] w fun en w' => en = .returned (.agg #[.int .i64 10, .int .i64 5]) ∧ Below w.heap.size w w' := fun w => half_any w
  have hl : intoN 10 5 32256 b < 2 ^ 16 := into_lt (f := 10) (e := 5) 32256 b (by omega) (by decide)
  generalize intoN 10 5 32256 b = r at *
  have hw := wrap16 r hl
  have HR := Lib.hid hr; have HD := Lib.hid hd; clear hr hd hl
  go_enter Try.func63, Try.ntmps63
  go_wp2_with fail
  have O := Reg.Own.nil w
  have zz := O.rules
  have HO := Lib.hid O; clear O
  go_wp2_with fail
  refine (HD.out _).mono ?_
  rintro en wn ⟨rfl, hbn⟩
  have O := HO.out.keep hbn
  clear HO zz
  have zz := O.rules
  have HO := Lib.hid O; clear O
  clear hbn
  go_wp2_with fail
  refine (HR.out _).mono ?_
  rintro en wn ⟨rfl, hbn⟩
  have O := HO.out.keep hbn
  clear HO zz
  have zz := O.rules
  have HO := Lib.hid O; clear O
  clear hbn
  go_wp2_with fail
  go_ret
  exact ⟨by first | rfl | (rw [hw]) | simp [hw], HO.out.below⟩
theorem brain_of_any (b : Nat) (w : World) (hb : b < 2 ^ 64) : Calls Try.prog 64 #[.float .f64 b] w fun en w' => en = .returned (.int .u16 (intoN 7 8 32704 b)) ∧ Below w.heap.size w w' := by
  have hr : ∀ w, Calls Try.prog 92 #[.float .f64 b, .agg #[.int .i64 7, .int .i64 8], .int .u64 32704] w fun en w' => en = .returned (.int .u64 (intoN 7 8 32704 b)) ∧ Below w.heap.size w w' := fun w => rounded_any 7 8 32704 b w (by omega) (by omega) (by omega) hb
  have hd : ∀ w, Calls Try.prog 98 #[] w fun en w' => en = .returned (.agg #[.int .i64 7, .int .i64 8]) ∧ Below w.heap.size w w' := fun w => brain_any w
  have hl : intoN 7 8 32704 b < 2 ^ 16 := into_lt (f := 7) (e := 8) 32704 b (by omega) (by decide)
  generalize intoN 7 8 32704 b = r at *
  have hw := wrap16 r hl
  have HR := Lib.hid hr; have HD := Lib.hid hd; clear hr hd hl
  go_enter Try.func64, Try.ntmps64
  go_wp2_with fail
  have O := Reg.Own.nil w
  have zz := O.rules
  have HO := Lib.hid O; clear O
  go_wp2_with fail
  refine (HD.out _).mono ?_
  rintro en wn ⟨rfl, hbn⟩
  have O := HO.out.keep hbn
  clear HO zz
  have zz := O.rules
  have HO := Lib.hid O; clear O
  clear hbn
  go_wp2_with fail
  refine (HR.out _).mono ?_
  rintro en wn ⟨rfl, hbn⟩
  have O := HO.out.keep hbn
  clear HO zz
  have zz := O.rules
  have HO := Lib.hid O; clear O
  clear hbn
  go_wp2_with fail
  go_ret
  exact ⟨by first | rfl | (rw [hw]) | simp [hw], HO.out.below⟩

theorem from_half_any (b : Nat) (w : World) (hb : b < 2 ^ 16) : Calls Try.prog 61 #[.int .u16 b] w fun en w' => en = .returned (.float .f64 (fromN 10 5 NN1 b)) ∧ Below w.heap.size w w' := by
  have hr : ∀ w, Calls Try.prog 91 #[.int .u64 b, .agg #[.int .i64 10, .int .i64 5]] w fun en w' => en = .returned (.float .f64 (fromN 10 5 NN1 b)) ∧ Below w.heap.size w w' := fun w => widened_any 10 5 b w (by omega) (by omega) (by omega) (by omega) (by omega)
  have hd : ∀ w, Calls Try.prog 97 #[] w fun en w' => en = .returned (.agg #[.int .i64 10, .int .i64 5]) ∧ Below w.heap.size w w' := fun w => half_any w
  generalize fromN 10 5 NN1 b = r at *
  have hw := wrapU b (by omega)
  have HR := Lib.hid hr; have HD := Lib.hid hd; clear hr hd
  go_enter Try.func61, Try.ntmps61
  go_wp2_with fail
  have O := Reg.Own.nil w
  have zz := O.rules
  have HO := Lib.hid O; clear O
  go_wp2_with fail
  refine (HD.out _).mono ?_
  rintro en wn ⟨rfl, hbn⟩
  have O := HO.out.keep hbn
  clear HO zz
  have zz := O.rules
  have HO := Lib.hid O; clear O
  clear hbn
  go_wp2_with fail
  refine (HR.out _).mono ?_
  rintro en wn ⟨rfl, hbn⟩
  have O := HO.out.keep hbn
  clear HO zz
  have zz := O.rules
  have HO := Lib.hid O; clear O
  clear hbn
  go_wp2_with fail
  go_ret
  exact ⟨by first | rfl | simp, HO.out.below⟩
theorem from_brain_any (b : Nat) (w : World) (hb : b < 2 ^ 16) : Calls Try.prog 62 #[.int .u16 b] w fun en w' => en = .returned (.float .f64 (fromN 7 8 NN1 b)) ∧ Below w.heap.size w w' := by
  have hr : ∀ w, Calls Try.prog 91 #[.int .u64 b, .agg #[.int .i64 7, .int .i64 8]] w fun en w' => en = .returned (.float .f64 (fromN 7 8 NN1 b)) ∧ Below w.heap.size w w' := fun w => widened_any 7 8 b w (by omega) (by omega) (by omega) (by omega) (by omega)
  have hd : ∀ w, Calls Try.prog 98 #[] w fun en w' => en = .returned (.agg #[.int .i64 7, .int .i64 8]) ∧ Below w.heap.size w w' := fun w => brain_any w
  generalize fromN 7 8 NN1 b = r at *
  have hw := wrapU b (by omega)
  have HR := Lib.hid hr; have HD := Lib.hid hd; clear hr hd
  go_enter Try.func62, Try.ntmps62
  go_wp2_with fail
  have O := Reg.Own.nil w
  have zz := O.rules
  have HO := Lib.hid O; clear O
  go_wp2_with fail
  refine (HD.out _).mono ?_
  rintro en wn ⟨rfl, hbn⟩
  have O := HO.out.keep hbn
  clear HO zz
  have zz := O.rules
  have HO := Lib.hid O; clear O
  clear hbn
  go_wp2_with fail
  refine (HR.out _).mono ?_
  rintro en wn ⟨rfl, hbn⟩
  have O := HO.out.keep hbn
  clear HO zz
  have zz := O.rules
  have HO := Lib.hid O; clear O
  clear hbn
  go_wp2_with fail
  go_ret
  exact ⟨by first | rfl | simp, HO.out.below⟩

end Go.Proofs.Ytpemchghaddgdaa
