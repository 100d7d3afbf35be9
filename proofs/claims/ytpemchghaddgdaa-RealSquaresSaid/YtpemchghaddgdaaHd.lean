/- So many bits, here and in the document; what both give is one number. Condition: 2 to 53 bits. -/
import Derived.Test.YtpemchghaddgdaaHc

namespace Go.Proofs.Ytpemchghaddgdaa
open Go.RowKit Go.Pst Go.ChangeShapes Go.WideShapes Go.ChangeAt Go.Joins Go.Deep
set_option maxRecDepth 20000
set_option linter.unusedSimpArgs false
set_option linter.unusedVariables false
attribute [local go_sem] x64bits x64from

theorem run_size1 (v0 v1 : Value) (w : World) : Sem.run Try.prog (Instr.field 100 (.agg #[v0, v1]) 1) w = .ok v1 w := by kernel_rfl
theorem run_kind2 (v0 v1 v2 v3 v4 v5 : Value) (w : World) : Sem.run Try.prog (Instr.field 32 (.agg #[v0, v1, v2, v3, v4, v5]) 0) w = .ok v0 w := by kernel_rfl
attribute [local go_sem] run_size1 run_kind2

def bitsN (b f : Nat) : Nat := fromN f 11 NN1 (intoN f 11 0 b)
def rbitsN (b f : Nat) : Nat := fromN f 11 NN0 (intoN f 11 (NQ f 11) b)

theorem bits_out (b : Nat) (p : Int) (w : World) (hp : p < 2 ∨ 53 < p) : Calls Try.prog 50 #[.float .f64 b, .int .i64 p] w fun en w' => en = .returned (.tuple #[.float .f64 0, .int .i64 1]) ∧ Below w.heap.size w w' := by
  rcases hp with hp | hp
  · go_enter Try.func50, Try.ntmps50
    go_wp2_with fail
    go_ret2
    exact ⟨rfl, Below.refl _ _⟩
  · have h2 : ¬ p < 2 := by omega
    go_enter Try.func50, Try.ntmps50
    go_wp2_with fail
    go_ret2
    exact ⟨rfl, Below.refl _ _⟩

theorem bits_in (b f : Nat) (w : World) (hf1 : 1 ≤ f) (hf : f ≤ 52) (hb : b < 2 ^ 64) :
    Calls Try.prog 50 #[.float .f64 b, .int .i64 (f + 1)] w fun en w' => en = .returned (.tuple #[.float .f64 (if nan64 b then b else bitsN b f), .int .i64 0]) ∧ Below w.heap.size w w' := by
  have hn := fun w => none_any b w
  have hd : ∀ w, Calls Try.prog 76 #[] w fun en w' => en = .returned (.agg #[.int .i64 52, .int .i64 11]) ∧ Below w.heap.size w w' := fun w => double_any w
  have hr : ∀ w, Calls Try.prog 92 #[.float .f64 b, .agg #[.int .i64 f, .int .i64 11], .int .u64 0] w fun en w' => en = .returned (.int .u64 (intoN f 11 0 b)) ∧ Below w.heap.size w w' := fun w => rounded_any f 11 0 b w hf (by omega) (by omega) hb
  have hw : ∀ w, Calls Try.prog 91 #[.int .u64 (intoN f 11 0 b), .agg #[.int .i64 f, .int .i64 11]] w fun en w' => en = .returned (.float .f64 (bitsN b f)) ∧ Below w.heap.size w w' := fun w =>
    widened_any f 11 _ w hf1 hf (by omega) (by omega) (into_lt 0 b (by omega) (Nat.two_pow_pos _))
  generalize bitsN b f = y at *
  generalize intoN f 11 0 b = r at *
  have h1 : ¬ ((f : Int) + 1 < 2) := by omega
  have h2 : (f : Int) + 1 ≤ 53 := by omega
  have HN := Lib.hid hn; have HD := Lib.hid hd; have HR := Lib.hid hr; have HW := Lib.hid hw; clear hn hd hr hw hb
  generalize nan64 b = n at *
  cases n
  · rw [if_neg (by simp)]
    go_enter Try.func50, Try.ntmps50
    go_wp2_with fail
    have O := Reg.Own.nil w
    have zz := O.rules
    have HO := Lib.hid O; clear O
    refine (HN.out _).mono ?_
    rintro en wn ⟨rfl, rfl⟩
    go_wp2_with fail
    refine (HD.out _).mono ?_
    rintro en wn ⟨rfl, hbn⟩
    have O := HO.out.keep hbn
    clear HO zz
    have zz := O.rules
    have HO := Lib.hid O; clear O
    clear hbn
    go_wp2_with fail
    have O := HO.out.alloc rfl #[.int .i64 f, .int .i64 11] 100
    clear HO zz
    obtain ⟨c0, f0, z0, y0, -, zz⟩ := O.rules
    have HO := Lib.hid O; clear O
    refine Reg.wp_region_rd (by kernel_rfl) (by kernel_rfl) (fun _ => ?_)
    repeat (refine Reg.rd_op rfl ?_; apply Exists.intro; apply And.intro; (intro w' hb; have hc := Reg.rd_cells hb; clear hb; go_simp; (try go_bits); first | done | (with_reducible exact rfl)); (intro _ a' ha'; simp only [Act.put, List.setIfInBounds_toArray, List.set_cons_zero, List.set_cons_succ] at ha'; subst ha'))
    refine Reg.rd_op rfl ?_; apply Exists.intro; apply And.intro
    · intro w' hb; have hsz := Reg.rd_size hb; clear hb; go_simp; (try go_bits); exact HR.out _
    intro _ a' ha'; simp only [Act.put, List.setIfInBounds_toArray, List.set_cons_zero, List.set_cons_succ] at ha'; subst ha'
    repeat (refine Reg.rd_op rfl ?_; apply Exists.intro; apply And.intro; (intro w' hb; have hc := Reg.rd_cells hb; clear hb; go_simp; (try go_bits); first | done | (with_reducible exact rfl)); (intro _ a' ha'; simp only [Act.put, List.setIfInBounds_toArray, List.set_cons_zero, List.set_cons_succ] at ha'; subst ha'))
    refine Reg.rd_op rfl ?_; apply Exists.intro; apply And.intro
    · intro w' hb; have hsz := Reg.rd_size hb; clear hb; go_simp; (try go_bits); exact HW.out _
    intro _ a' ha'; simp only [Act.put, List.setIfInBounds_toArray, List.set_cons_zero, List.set_cons_succ] at ha'; subst ha'
    repeat (refine Reg.rd_op rfl ?_; apply Exists.intro; apply And.intro; (intro w' hb; have hc := Reg.rd_cells hb; clear hb; go_simp; (try go_bits); first | done | (with_reducible exact rfl)); (intro _ a' ha'; simp only [Act.put, List.setIfInBounds_toArray, List.set_cons_zero, List.set_cons_succ] at ha'; subst ha'))
    refine Reg.rd_end (fun wz hb => ?_)
    have O := HO.out.keep hb
    clear HO c0 f0 z0 y0 zz
    obtain ⟨c0, f0, z0, y0, -, zz⟩ := O.rules
    have HO := Lib.hid O; clear O
    clear hb
    go_wp2_with fail
    go_ret2
    exact ⟨by first | rfl | simp, HO.out.below⟩
  · rw [if_pos rfl]
    go_enter Try.func50, Try.ntmps50
    go_wp2_with fail
    refine (HN.out _).mono ?_
    rintro en wn ⟨rfl, rfl⟩
    go_wp2_with fail
    go_ret2
    exact ⟨by first | rfl | simp, Below.refl _ _⟩

theorem rbits_in (b f : Nat) (w : World) (hf1 : 1 ≤ f) (hf : f ≤ 52) (hb : b < 2 ^ 64) (hnq : NQ f 11 < 2 ^ (1 + f + 11)) :
    Calls Try.prog 69 #[.int .u64 b, .int .i64 (f + 1)] w fun en w' => en = .returned (.int .u64 (if nan64 b then b else rbitsN b f)) ∧ Below w.heap.size w w' := by
  have hz : ∀ w, Calls Try.prog 21 #[] w fun en w' => en = .returned (.agg #[.int .i64 52, .int .i64 2047, .int .i64 1023]) ∧ Below w.heap.size w w' := fun w => size64_any w
  have hp := fun w => refparts64 b w hb
  obtain ⟨m, hm, hm1, k1, -⟩ := parts_say b hb
  have hr : ∀ w, Calls Try.prog 65 #[.int .u64 b, .agg #[.int .i64 f, .int .i64 2047, .int .i64 1023]] w fun en w' => en = .returned (.int .u64 (intoN f 11 (NQ f 11) b)) ∧ Below w.heap.size w w' := fun w => into_any f 11 2047 1023 b w hf1 hf (by omega) (by omega) rfl rfl hb
  have hw : ∀ w, Calls Try.prog 68 #[.int .u64 (intoN f 11 (NQ f 11) b), .agg #[.int .i64 f, .int .i64 2047, .int .i64 1023]] w fun en w' => en = .returned (.int .u64 (rbitsN b f)) ∧ Below w.heap.size w w' := fun w =>
    from_any f 11 2047 1023 _ w hf1 hf (by omega) (by omega) rfl rfl (into_lt _ b (by omega) hnq)
  generalize rbitsN b f = y at *
  generalize intoN f 11 (NQ f 11) b = r at *
  generalize partsN 52 11 b = p at *
  obtain ⟨pk, pn, pm, px, pq, pl⟩ := p
  simp only [FP.val] at hp hm k1
  clear hm hm1 hnq
  have HZ := Lib.hid hz; have HP := Lib.hid hp; have HR := Lib.hid hr; have HW := Lib.hid hw; clear hz hp hr hw hb
  generalize nan64 b = n at *
  cases n
  · rw [if_neg (by simp)]
    go_enter Try.func69, Try.ntmps69
    go_wp2_with fail
    have O := Reg.Own.nil w
    have zz := O.rules
    have HO := Lib.hid O; clear O
    go_wp2_with fail
    refine (HZ.out _).mono ?_
    rintro en wn ⟨rfl, hbn⟩
    have O := HO.out.keep hbn
    clear HO zz
    have zz := O.rules
    have HO := Lib.hid O; clear O
    clear hbn
    go_wp2_with fail
    refine (HP.out _).mono ?_
    rintro en wn ⟨rfl, hbn⟩
    have O := HO.out.keep hbn
    clear HO zz
    have zz := O.rules
    have HO := Lib.hid O; clear O
    clear hbn
    go_wp2_with fail
    have O := HO.out.alloc rfl #[.int .i64 f, .int .i64 2047, .int .i64 1023] 35
    clear HO zz
    obtain ⟨c0, f0, z0, y0, -, zz⟩ := O.rules
    have HO := Lib.hid O; clear O
    refine Reg.wp_region_rd (by kernel_rfl) (by kernel_rfl) (fun _ => ?_)
    repeat (refine Reg.rd_op rfl ?_; apply Exists.intro; apply And.intro; (intro w' hb; have hc := Reg.rd_cells hb; clear hb; go_simp; (try go_bits); first | done | (with_reducible exact rfl)); (intro _ a' ha'; simp only [Act.put, List.setIfInBounds_toArray, List.set_cons_zero, List.set_cons_succ] at ha'; subst ha'))
    refine Reg.rd_op rfl ?_; apply Exists.intro; apply And.intro
    · intro w' hb; have hsz := Reg.rd_size hb; clear hb; go_simp; (try go_bits); exact HR.out _
    intro _ a' ha'; simp only [Act.put, List.setIfInBounds_toArray, List.set_cons_zero, List.set_cons_succ] at ha'; subst ha'
    repeat (refine Reg.rd_op rfl ?_; apply Exists.intro; apply And.intro; (intro w' hb; have hc := Reg.rd_cells hb; clear hb; go_simp; (try go_bits); first | done | (with_reducible exact rfl)); (intro _ a' ha'; simp only [Act.put, List.setIfInBounds_toArray, List.set_cons_zero, List.set_cons_succ] at ha'; subst ha'))
    refine Reg.rd_op rfl ?_; apply Exists.intro; apply And.intro
    · intro w' hb; have hsz := Reg.rd_size hb; clear hb; go_simp; (try go_bits); exact HW.out _
    intro _ a' ha'; simp only [Act.put, List.setIfInBounds_toArray, List.set_cons_zero, List.set_cons_succ] at ha'; subst ha'
    repeat (refine Reg.rd_op rfl ?_; apply Exists.intro; apply And.intro; (intro w' hb; have hc := Reg.rd_cells hb; clear hb; go_simp; (try go_bits); first | done | (with_reducible exact rfl)); (intro _ a' ha'; simp only [Act.put, List.setIfInBounds_toArray, List.set_cons_zero, List.set_cons_succ] at ha'; subst ha'))
    refine Reg.rd_end (fun wz hb => ?_)
    have O := HO.out.keep hb
    clear HO c0 f0 z0 y0 zz
    obtain ⟨c0, f0, z0, y0, -, zz⟩ := O.rules
    have HO := Lib.hid O; clear O
    clear hb
    go_wp2_with fail
    go_ret
    exact ⟨by first | rfl | simp, HO.out.below⟩
  · rw [if_pos rfl]
    go_enter Try.func69, Try.ntmps69
    go_wp2_with fail
    have O := Reg.Own.nil w
    have zz := O.rules
    have HO := Lib.hid O; clear O
    go_wp2_with fail
    refine (HZ.out _).mono ?_
    rintro en wn ⟨rfl, hbn⟩
    have O := HO.out.keep hbn
    clear HO zz
    have zz := O.rules
    have HO := Lib.hid O; clear O
    clear hbn
    go_wp2_with fail
    refine (HP.out _).mono ?_
    rintro en wn ⟨rfl, hbn⟩
    have O := HO.out.keep hbn
    clear HO zz
    have zz := O.rules
    have HO := Lib.hid O; clear O
    clear hbn
    go_wp2_with fail
    go_ret
    exact ⟨by first | rfl | simp, HO.out.below⟩

theorem is_from (f e b : Nat) : isN (fromN f e NN1 b) (fromN f e NN0 b) = true := by
  unfold fromN
  cases h : nanG f e b
  · simp only [Bool.false_eq_true, if_false]
    generalize signedBits 52 11 (negG f e b) _ = y
    unfold isN; cases nan64 y <;> simp
  · simp only [if_true]; decide

theorem into_nn (f e n1 n2 b : Nat) (h : nan64 b = false) : intoN f e n1 b = intoN f e n2 b := by unfold intoN; rw [h]; simp only [Bool.false_eq_true, if_false]

theorem is_bits (f b : Nat) (h : nan64 b = false) : isN (bitsN b f) (rbitsN b f) = true := by
  unfold bitsN rbitsN
  rw [into_nn f 11 0 (NQ f 11) b h]
  exact is_from _ _ _

theorem isN_same (x : Nat) : isN x x = true := by unfold isN; cases nan64 x <;> simp

theorem nq_lt (f : Nat) (hf1 : 1 ≤ f) (hf : f ≤ 52) : NQ f 11 < 2 ^ (1 + f + 11) := by
  unfold NQ rofN
  have ht := top_below f 11
  have h2 : 2 ^ (f - 1) < 2 ^ (f + 11) := Nat.pow_lt_pow_right (by omega) (by omega)
  have h3 : ((2 ^ 11 - 1) * 2 ^ f ||| 0) ||| 2 ^ (f - 1) < 2 ^ (f + 11) := by rw [Nat.or_zero]; exact Nat.or_lt_two_pow ht h2
  have hr : rcand f 11 ⟨4, false, 0, 0, true, 0⟩ 0 0 = some (((2 ^ 11 - 1) * 2 ^ f ||| 0) ||| 2 ^ (f - 1)) := rfl
  rw [hr]
  simp only
  have h4 := sgnG_lt false _ h3
  have h0 : 0 < 2 ^ (1 + f + 11) := Nat.two_pow_pos _
  split
  · exact h0
  · split
    · exact h4
    · exact h0

theorem from_lt0 (f e b : Nat) : fromN f e NN0 b < 2 ^ 64 := by
  unfold fromN
  split
  · decide
  · refine (signed_lt _ _ ?_).1
    split
    · decide
    · have := rnd_lt (mantG f e b) (expG f e b); omega

end Go.Proofs.Ytpemchghaddgdaa
