/- What the float-valued functions at the bottom give; the program is awake. No condition but that a float's bits fit. -/
import Derived.Test.YtpemchghaddgdaaRe
import Derived.Test.YtpemchghaddgdaaFk
namespace Go.Proofs.Ytpemchghaddgdaa
open Go.RowKit Go.Pst
set_option maxRecDepth 20000
set_option linter.unusedSimpArgs false
set_option linter.unusedVariables false

theorem x64bits (b : Nat) (w : World) : (callFunc 24 #[.float .f64 b]).run Try.prog w = .ok (.value (.int .u64 b)) w := by kernel_rfl
theorem x64from (n : Int) (w : World) : (callFunc 26 #[.int .u64 n]).run Try.prog w = .ok (.value (.float .f64 n.toNat)) w := by kernel_rfl
theorem x32bits (b : Nat) (w : World) : (callFunc 25 #[.float .f32 b]).run Try.prog w = .ok (.value (.int .u32 b)) w := by kernel_rfl
theorem x32from (n : Int) (w : World) : (callFunc 27 #[.int .u32 n]).run Try.prog w = .ok (.value (.float .f32 n.toNat)) w := by kernel_rfl
attribute [local go_sem] x64bits x64from x32bits x32from

theorem double_any (w : World) : Calls Try.prog 76 #[] w fun en w' => en = .returned (.agg #[.int .i64 (52 : Nat), .int .i64 (11 : Nat)]) ∧ Below w.heap.size w w' := by
  go_enter Try.func76, Try.ntmps76
  go_wp2
  refine bodyPost_ret (v := .agg #[.int .i64 (52 : Nat), .int .i64 (11 : Nat)]) (by simp [results, Try.results76, go_sem]) rfl ⟨rfl, ?_⟩
  exact (Below.refl _ _).alloc (Nat.le_refl _) _
theorem single_any (w : World) : Calls Try.prog 79 #[] w fun en w' => en = .returned (.agg #[.int .i64 (23 : Nat), .int .i64 (8 : Nat)]) ∧ Below w.heap.size w w' := by
  go_enter Try.func79, Try.ntmps79
  go_wp2
  refine bodyPost_ret (v := .agg #[.int .i64 (23 : Nat), .int .i64 (8 : Nat)]) (by simp [results, Try.results79, go_sem]) rfl ⟨rfl, ?_⟩
  exact (Below.refl _ _).alloc (Nat.le_refl _) _
theorem half_any (w : World) : Calls Try.prog 97 #[] w fun en w' => en = .returned (.agg #[.int .i64 (10 : Nat), .int .i64 (5 : Nat)]) ∧ Below w.heap.size w w' := by
  go_enter Try.func97, Try.ntmps97
  go_wp2
  refine bodyPost_ret (v := .agg #[.int .i64 (10 : Nat), .int .i64 (5 : Nat)]) (by simp [results, Try.results97, go_sem]) rfl ⟨rfl, ?_⟩
  exact (Below.refl _ _).alloc (Nat.le_refl _) _
theorem brain_any (w : World) : Calls Try.prog 98 #[] w fun en w' => en = .returned (.agg #[.int .i64 (7 : Nat), .int .i64 (8 : Nat)]) ∧ Below w.heap.size w w' := by
  go_enter Try.func98, Try.ntmps98
  go_wp2
  refine bodyPost_ret (v := .agg #[.int .i64 (7 : Nat), .int .i64 (8 : Nat)]) (by simp [results, Try.results98, go_sem]) rfl ⟨rfl, ?_⟩
  exact (Below.refl _ _).alloc (Nat.le_refl _) _
theorem size64_any (w : World) : Calls Try.prog 21 #[] w fun en w' => en = .returned (.agg #[.int .i64 (52 : Nat), .int .i64 (2047 : Nat), .int .i64 (1023 : Nat)]) ∧ Below w.heap.size w w' := by
  go_enter Try.func21, Try.ntmps21
  go_wp2
  refine bodyPost_ret (v := .agg #[.int .i64 (52 : Nat), .int .i64 (2047 : Nat), .int .i64 (1023 : Nat)]) (by simp [results, Try.results21, go_sem]) rfl ⟨rfl, ?_⟩
  exact (Below.refl _ _).alloc (Nat.le_refl _) _
theorem size32_any (w : World) : Calls Try.prog 23 #[] w fun en w' => en = .returned (.agg #[.int .i64 (23 : Nat), .int .i64 (255 : Nat), .int .i64 (127 : Nat)]) ∧ Below w.heap.size w w' := by
  go_enter Try.func23, Try.ntmps23
  go_wp2
  refine bodyPost_ret (v := .agg #[.int .i64 (23 : Nat), .int .i64 (255 : Nat), .int .i64 (127 : Nat)]) (by simp [results, Try.results23, go_sem]) rfl ⟨rfl, ?_⟩
  exact (Below.refl _ _).alloc (Nat.le_refl _) _
theorem size16_any (w : World) : Calls Try.prog 66 #[] w fun en w' => en = .returned (.agg #[.int .i64 (10 : Nat), .int .i64 (31 : Nat), .int .i64 (15 : Nat)]) ∧ Below w.heap.size w w' := by
  go_enter Try.func66, Try.ntmps66
  go_wp2
  refine bodyPost_ret (v := .agg #[.int .i64 (10 : Nat), .int .i64 (31 : Nat), .int .i64 (15 : Nat)]) (by simp [results, Try.results66, go_sem]) rfl ⟨rfl, ?_⟩
  exact (Below.refl _ _).alloc (Nat.le_refl _) _
theorem sizeb_any (w : World) : Calls Try.prog 67 #[] w fun en w' => en = .returned (.agg #[.int .i64 (7 : Nat), .int .i64 (255 : Nat), .int .i64 (127 : Nat)]) ∧ Below w.heap.size w w' := by
  go_enter Try.func67, Try.ntmps67
  go_wp2
  refine bodyPost_ret (v := .agg #[.int .i64 (7 : Nat), .int .i64 (255 : Nat), .int .i64 (127 : Nat)]) (by simp [results, Try.results67, go_sem]) rfl ⟨rfl, ?_⟩
  exact (Below.refl _ _).alloc (Nat.le_refl _) _

theorem none_any (b : Nat) (w : World) : Calls Try.prog 81 #[.float .f64 b] w fun en w' => en = .returned (.bool (nan64 b)) ∧ w = w' := by
  have h := fne_self b
  go_enter Try.func81, Try.ntmps81
  go_wp2
  go_ret
  exact ⟨rfl, rfl⟩

theorem inf1_any (b : Nat) (w : World) : Calls Try.prog 82 #[.float .f64 b, .int .i64 1] w fun en w' => en = .returned (.bool (fgt .f64 b 9218868437227405311)) ∧ w = w' := by
  go_enter Try.func82, Try.ntmps82
  go_wp2
  go_ret
  exact ⟨rfl, rfl⟩

theorem abs_any (b : Nat) (w : World) (hb : b < 2 ^ 64) : Calls Try.prog 46 #[.float .f64 b] w fun en w' => en = .returned (.float .f64 (b % 2 ^ 63)) ∧ w = w' := by
  have h : bits .andNot .u64 (b : Int) 9223372036854775808 = ((b % 2 ^ 63 : Nat) : Int) := by
    have := u64_andNot_nat b 9223372036854775808 (by omega) (by omega)
    rw [show ((9223372036854775808 : Nat) : Int) = 9223372036854775808 from rfl] at this
    rw [this, show 18446744073709551615 - 9223372036854775808 = 2 ^ 63 - 1 from rfl, Nat.and_two_pow_sub_one_eq_mod]
  obtain ⟨r, hr⟩ : ∃ r, r = b % 2 ^ 63 := ⟨_, rfl⟩
  rw [← hr] at h ⊢
  clear hr hb
  go_enter Try.func46, Try.ntmps46
  go_wp2
  go_ret
  exact ⟨rfl, rfl⟩

theorem parts64_any (b : Nat) (w : World) (hb : b < 2 ^ 64) : Calls Try.prog 28 #[.float .f64 b] w fun en w' => en = .returned (partsN 52 11 b).val ∧ Below w.heap.size w w' := by
  have hp : ∀ w, Calls Try.prog 80 #[.agg #[.int .i64 52, .int .i64 11], .int .u64 b] w fun en w' => en = .returned (partsN 52 11 b).val ∧ Below w.heap.size w w' :=
    fun w => parts_any 52 11 b w (by omega) (by omega) (by omega) (by omega) (by omega)
  have hd : ∀ w, Calls Try.prog 76 #[] w fun en w' => en = .returned (.agg #[.int .i64 52, .int .i64 11]) ∧ Below w.heap.size w w' := fun w => double_any w
  have hu : IntKind.u64.wrap (b : Int) = b := wrapU b (by omega)
  generalize partsN 52 11 b = p at *
  obtain ⟨pk, pn, pm, px, pq, pl⟩ := p
  simp only [FP.val] at hp ⊢
  have HP := Lib.hid hp; clear hp
  have HD := Lib.hid hd; clear hd
  clear hb
  go_enter Try.func28, Try.ntmps28
  go_wp2_with fail
  refine (HD.out _).mono ?_
  rintro en w2 ⟨rfl, hb2⟩
  have O := ((Reg.Own.nil w).alloc rfl _ _).keep hb2
  obtain ⟨c0, f0, z0, y0, -, zz⟩ := O.rules
  have HO := Lib.hid O; clear O
  clear hb2
  go_wp2_with fail
  refine (HP.out _).mono ?_
  rintro en w3 ⟨rfl, hb3⟩
  have O := HO.out.keep hb3
  clear HO c0 f0 z0 y0 zz
  obtain ⟨c0, f0, z0, y0, -, zz⟩ := O.rules
  have HO := Lib.hid O; clear O
  clear hb3
  go_wp2_with fail
  refine bodyPost_ret (v := .agg #[.int .i64 pk, .bool pn, .int .u64 pm, .int .i64 px, .bool pq, .int .u64 pl]) (by simp [results, Try.results28, go_sem, c0, z0]) rfl ⟨rfl, ?_⟩
  repeat (first | (with_reducible exact HO.out.below) | (with_reducible refine Below.setCell ?_ (by first | (with_reducible assumption) | omega) _) | (with_reducible refine Below.drew ?_) | (with_reducible refine Below.alloc ?_ (by simp; try omega) _))
theorem parts32_any (b : Nat) (w : World) (hb : b < 2 ^ 32) : Calls Try.prog 29 #[.float .f32 b] w fun en w' => en = .returned (partsN 23 8 b).val ∧ Below w.heap.size w w' := by
  have hp : ∀ w, Calls Try.prog 80 #[.agg #[.int .i64 23, .int .i64 8], .int .u64 b] w fun en w' => en = .returned (partsN 23 8 b).val ∧ Below w.heap.size w w' :=
    fun w => parts_any 23 8 b w (by omega) (by omega) (by omega) (by omega) (by omega)
  have hd : ∀ w, Calls Try.prog 79 #[] w fun en w' => en = .returned (.agg #[.int .i64 23, .int .i64 8]) ∧ Below w.heap.size w w' := fun w => single_any w
  have hu : IntKind.u64.wrap (b : Int) = b := wrapU b (by omega)
  generalize partsN 23 8 b = p at *
  obtain ⟨pk, pn, pm, px, pq, pl⟩ := p
  simp only [FP.val] at hp ⊢
  have HP := Lib.hid hp; clear hp
  have HD := Lib.hid hd; clear hd
  clear hb
  go_enter Try.func29, Try.ntmps29
  go_wp2_with fail
  refine (HD.out _).mono ?_
  rintro en w2 ⟨rfl, hb2⟩
  have O := ((Reg.Own.nil w).alloc rfl _ _).keep hb2
  obtain ⟨c0, f0, z0, y0, -, zz⟩ := O.rules
  have HO := Lib.hid O; clear O
  clear hb2
  go_wp2_with fail
  refine (HP.out _).mono ?_
  rintro en w3 ⟨rfl, hb3⟩
  have O := HO.out.keep hb3
  clear HO c0 f0 z0 y0 zz
  obtain ⟨c0, f0, z0, y0, -, zz⟩ := O.rules
  have HO := Lib.hid O; clear O
  clear hb3
  go_wp2_with fail
  refine bodyPost_ret (v := .agg #[.int .i64 pk, .bool pn, .int .u64 pm, .int .i64 px, .bool pq, .int .u64 pl]) (by simp [results, Try.results29, go_sem, c0, z0]) rfl ⟨rfl, ?_⟩
  repeat (first | (with_reducible exact HO.out.below) | (with_reducible refine Below.setCell ?_ (by first | (with_reducible assumption) | omega) _) | (with_reducible refine Below.drew ?_) | (with_reducible refine Below.alloc ?_ (by simp; try omega) _))

theorem of64_any (x : FP) (m l : Nat) (w : World) (hm : x.mant = m) (hl : x.load = l) (hm64 : m < 2 ^ 64) (hl64 : l < 2 ^ 64) :
    Calls Try.prog 18 #[x.val] w fun en w' => en = .returned (.tuple #[.float .f64 (rofN 52 11 x m l).1, .int .i64 (rofN 52 11 x m l).2]) ∧ Below w.heap.size w w' := by
  have hp : ∀ w, Calls Try.prog 77 #[.agg #[.int .i64 52, .int .i64 11], x.val] w fun en w' => en = .returned (.tuple #[.int .u64 (ofN 52 11 x m l), .bool (decide (partsN 52 11 (ofN 52 11 x m l) = x))]) ∧ Below w.heap.size w w' :=
    fun w => of_any 52 11 m l x w (by omega) (by omega) (by omega) (by omega) hm hl hm64 hl64
  have hd : ∀ w, Calls Try.prog 76 #[] w fun en w' => en = .returned (.agg #[.int .i64 52, .int .i64 11]) ∧ Below w.heap.size w w' := fun w => double_any w
  have hlt := ofN_lt 52 11 x m l
  rw [of_agree (f := 52) (e := 11) (by omega) (by omega) (by omega) (by omega) x m l hm hl]
  generalize ofN 52 11 x m l = c at *
  have hbq : (if partsN 52 11 c = x then (c, (0 : Int)) else (0, 40)) = if decide (partsN 52 11 c = x) = true then (c, 0) else (0, 40) := by simp
  rw [hbq]
  clear hbq
  generalize decide (partsN 52 11 c = x) = bq at *
  have hu : IntKind.u32.wrap (c : Int) = if c < 2 ^ 32 then (c : Int) else IntKind.u32.wrap c := by split <;> first | rfl | (rw [IntKind.wrap_u32]; omega)
  obtain ⟨xk, xn, xm, xx, xq, xl⟩ := x
  simp only [FP.val] at hp ⊢
  simp only at hm hl
  subst hm hl
  have HP := Lib.hid hp; clear hp
  have HD := Lib.hid hd; clear hd
  have hcu : True := by trivial
  clear hu hlt hm64 hl64
  go_enter Try.func18, Try.ntmps18
  go_wp2_with fail
  refine Reg.wp_region_rd (by kernel_rfl) (by kernel_rfl) (fun _ => ?_)
  repeat (refine Reg.rd_op rfl ?_; apply Exists.intro; apply And.intro; (intro w' hb; have hc := Reg.rd_cells hb; clear hb; go_simp; (try go_bits); first | done | (with_reducible exact rfl)); (intro _ a' ha'; simp only [Act.put, List.setIfInBounds_toArray, List.set_cons_zero, List.set_cons_succ] at ha'; subst ha'))
  refine Reg.rd_op rfl ?_; apply Exists.intro; apply And.intro
  · intro w' hb; have hsz := Reg.rd_size hb; clear hb; go_simp; (try go_bits); exact HD.out _
  intro _ a' ha'; simp only [Act.put, List.setIfInBounds_toArray, List.set_cons_zero, List.set_cons_succ] at ha'; subst ha'
  repeat (refine Reg.rd_op rfl ?_; apply Exists.intro; apply And.intro; (intro w' hb; have hc := Reg.rd_cells hb; clear hb; go_simp; (try go_bits); first | done | (with_reducible exact rfl)); (intro _ a' ha'; simp only [Act.put, List.setIfInBounds_toArray, List.set_cons_zero, List.set_cons_succ] at ha'; subst ha'))
  refine Reg.rd_op rfl ?_; apply Exists.intro; apply And.intro
  · intro w' hb; have hsz := Reg.rd_size hb; clear hb; go_simp; (try go_bits); exact HP.out _
  intro _ a' ha'; simp only [Act.put, List.setIfInBounds_toArray, List.set_cons_zero, List.set_cons_succ] at ha'; subst ha'
  repeat (refine Reg.rd_op rfl ?_; apply Exists.intro; apply And.intro; (intro w' hb; have hc := Reg.rd_cells hb; clear hb; go_simp; (try go_bits); first | done | (with_reducible exact rfl)); (intro _ a' ha'; simp only [Act.put, List.setIfInBounds_toArray, List.set_cons_zero, List.set_cons_succ] at ha'; subst ha'))
  refine Reg.rd_end (fun wz hb => ?_)
  have hbb := ((Below.refl w.heap.size w).alloc (Nat.le_refl _) _).trans (hb.mono (by simp))
  cases bq <;>
  · go_wp2_with fail
    go_ret2
    exact ⟨by simp, hbb⟩
theorem of32_any (x : FP) (m l : Nat) (w : World) (hm : x.mant = m) (hl : x.load = l) (hm64 : m < 2 ^ 64) (hl64 : l < 2 ^ 64) :
    Calls Try.prog 22 #[x.val] w fun en w' => en = .returned (.tuple #[.float .f32 (rofN 23 8 x m l).1, .int .i64 (rofN 23 8 x m l).2]) ∧ Below w.heap.size w w' := by
  have hp : ∀ w, Calls Try.prog 77 #[.agg #[.int .i64 23, .int .i64 8], x.val] w fun en w' => en = .returned (.tuple #[.int .u64 (ofN 23 8 x m l), .bool (decide (partsN 23 8 (ofN 23 8 x m l) = x))]) ∧ Below w.heap.size w w' :=
    fun w => of_any 23 8 m l x w (by omega) (by omega) (by omega) (by omega) hm hl hm64 hl64
  have hd : ∀ w, Calls Try.prog 79 #[] w fun en w' => en = .returned (.agg #[.int .i64 23, .int .i64 8]) ∧ Below w.heap.size w w' := fun w => single_any w
  have hlt := ofN_lt 23 8 x m l
  rw [of_agree (f := 23) (e := 8) (by omega) (by omega) (by omega) (by omega) x m l hm hl]
  generalize ofN 23 8 x m l = c at *
  have hbq : (if partsN 23 8 c = x then (c, (0 : Int)) else (0, 40)) = if decide (partsN 23 8 c = x) = true then (c, 0) else (0, 40) := by simp
  rw [hbq]
  clear hbq
  generalize decide (partsN 23 8 c = x) = bq at *
  have hu : IntKind.u32.wrap (c : Int) = if c < 2 ^ 32 then (c : Int) else IntKind.u32.wrap c := by split <;> first | rfl | (rw [IntKind.wrap_u32]; omega)
  obtain ⟨xk, xn, xm, xx, xq, xl⟩ := x
  simp only [FP.val] at hp ⊢
  simp only at hm hl
  subst hm hl
  have HP := Lib.hid hp; clear hp
  have HD := Lib.hid hd; clear hd
  have hcu : IntKind.u32.wrap (c : Int) = c := by rw [hu, if_pos hlt]
  clear hu hlt hm64 hl64
  go_enter Try.func22, Try.ntmps22
  go_wp2_with fail
  refine Reg.wp_region_rd (by kernel_rfl) (by kernel_rfl) (fun _ => ?_)
  repeat (refine Reg.rd_op rfl ?_; apply Exists.intro; apply And.intro; (intro w' hb; have hc := Reg.rd_cells hb; clear hb; go_simp; (try go_bits); first | done | (with_reducible exact rfl)); (intro _ a' ha'; simp only [Act.put, List.setIfInBounds_toArray, List.set_cons_zero, List.set_cons_succ] at ha'; subst ha'))
  refine Reg.rd_op rfl ?_; apply Exists.intro; apply And.intro
  · intro w' hb; have hsz := Reg.rd_size hb; clear hb; go_simp; (try go_bits); exact HD.out _
  intro _ a' ha'; simp only [Act.put, List.setIfInBounds_toArray, List.set_cons_zero, List.set_cons_succ] at ha'; subst ha'
  repeat (refine Reg.rd_op rfl ?_; apply Exists.intro; apply And.intro; (intro w' hb; have hc := Reg.rd_cells hb; clear hb; go_simp; (try go_bits); first | done | (with_reducible exact rfl)); (intro _ a' ha'; simp only [Act.put, List.setIfInBounds_toArray, List.set_cons_zero, List.set_cons_succ] at ha'; subst ha'))
  refine Reg.rd_op rfl ?_; apply Exists.intro; apply And.intro
  · intro w' hb; have hsz := Reg.rd_size hb; clear hb; go_simp; (try go_bits); exact HP.out _
  intro _ a' ha'; simp only [Act.put, List.setIfInBounds_toArray, List.set_cons_zero, List.set_cons_succ] at ha'; subst ha'
  repeat (refine Reg.rd_op rfl ?_; apply Exists.intro; apply And.intro; (intro w' hb; have hc := Reg.rd_cells hb; clear hb; go_simp; (try go_bits); first | done | (with_reducible exact rfl)); (intro _ a' ha'; simp only [Act.put, List.setIfInBounds_toArray, List.set_cons_zero, List.set_cons_succ] at ha'; subst ha'))
  refine Reg.rd_end (fun wz hb => ?_)
  have hbb := ((Below.refl w.heap.size w).alloc (Nat.le_refl _) _).trans (hb.mono (by simp))
  cases bq <;>
  · go_wp2_with fail
    go_ret2
    exact ⟨by simp, hbb⟩

end Go.Proofs.Ytpemchghaddgdaa
