/- The program is awake; every Of and Of32 (the law RealOf). No condition. -/
import Derived.Test.YtpemchghaddgdaaRf
import Derived.Test.YtpemchghaddgdaaLaw
namespace Go.Proofs.Ytpemchghaddgdaa
open Go.RowKit Go.Pst
set_option maxRecDepth 20000
set_option linter.unusedSimpArgs false
set_option linter.unusedVariables false
attribute [local go_sem] x64bits x64from x32bits x32from

def upN (b : Nat) : Nat :=
  if nan64 b || fgt .f64 b 9218868437227405311 then b else if feq .f64 b 0 then 1 else if flt .f64 b 0 then ((b : Int) - 1).toNat else b + 1

theorem up_any (b : Nat) (w : World) (hb : b < 2 ^ 64) (hb0 : flt .f64 b 0 = true → 1 ≤ b) (hb1 : (nan64 b || fgt .f64 b 9218868437227405311) = false → feq .f64 b 0 = false → flt .f64 b 0 = false → b + 1 < 2 ^ 64) :
    Calls Try.prog 33 #[.float .f64 b] w fun en w' => en = .returned (.float .f64 (upN b)) ∧ w = w' := by
  obtain ⟨r, hr⟩ : ∃ r, r = upN b := ⟨_, rfl⟩
  rw [← hr]
  have HN := Lib.hid (none_any b)
  have HI := Lib.hid (inf1_any b)
  unfold upN at hr
  have h1 : 1 ≤ b → IntKind.u64.wrap ((b : Int) - 1) = (b : Int) - 1 := fun h => by rw [IntKind.wrap_u64]; omega
  have h2 : b + 1 < 2 ^ 64 → IntKind.u64.wrap ((b : Int) + 1) = (b : Int) + 1 := fun h => by rw [IntKind.wrap_u64]; omega
  cases hn : nan64 b
  · rw [hn] at hr hb1
    cases hi : fgt .f64 b 9218868437227405311
    · rw [hi] at hr hb1
      cases he : feq .f64 b 0
      · rw [he] at hr
        cases hl : flt .f64 b 0
        · rw [hl] at hr
          have h3 := h2 (hb1 rfl he hl)
          have HR := Lib.hid hr; clear hr h1 h2 hb0 hb1 hb
          go_enter Try.func33, Try.ntmps33
          go_wp2_with (first | (go_at_call 81; refine (HN.out _).mono ?_; rintro en w' ⟨rfl, rfl⟩) | (go_at_call 82; refine (HI.out _).mono ?_; rintro en w' ⟨rfl, rfl⟩))
          go_ret
          exact ⟨by rw [HR.out]; simp, rfl⟩
        · rw [hl] at hr
          have h3 := h1 (hb0 hl)
          have HR := Lib.hid hr; clear hr h1 h2 hb0 hb1 hb
          go_enter Try.func33, Try.ntmps33
          go_wp2_with (first | (go_at_call 81; refine (HN.out _).mono ?_; rintro en w' ⟨rfl, rfl⟩) | (go_at_call 82; refine (HI.out _).mono ?_; rintro en w' ⟨rfl, rfl⟩))
          go_ret
          exact ⟨by rw [HR.out]; simp, rfl⟩
      · rw [he] at hr
        have HR := Lib.hid hr; clear hr h1 h2 hb0 hb1 hb
        go_enter Try.func33, Try.ntmps33
        go_wp2_with (first | (go_at_call 81; refine (HN.out _).mono ?_; rintro en w' ⟨rfl, rfl⟩) | (go_at_call 82; refine (HI.out _).mono ?_; rintro en w' ⟨rfl, rfl⟩))
        go_ret
        exact ⟨by rw [HR.out]; simp, rfl⟩
    · rw [hi] at hr
      have HR := Lib.hid hr; clear hr h1 h2 hb0 hb1 hb
      go_enter Try.func33, Try.ntmps33
      go_wp2_with (first | (go_at_call 81; refine (HN.out _).mono ?_; rintro en w' ⟨rfl, rfl⟩) | (go_at_call 82; refine (HI.out _).mono ?_; rintro en w' ⟨rfl, rfl⟩))
      go_ret
      exact ⟨by rw [HR.out]; simp, rfl⟩
  · rw [hn] at hr
    have HR := Lib.hid hr; clear hr h1 h2 hb0 hb1 hb
    go_enter Try.func33, Try.ntmps33
    go_wp2_with (first | (go_at_call 81; refine (HN.out _).mono ?_; rintro en w' ⟨rfl, rfl⟩) | (go_at_call 82; refine (HI.out _).mono ?_; rintro en w' ⟨rfl, rfl⟩))
    go_ret
    exact ⟨by rw [HR.out]; simp, rfl⟩

theorem plain_any (x : FP) (w : World) : Calls Try.prog 20 #[x.val] w fun en w' => en = .returned x.val ∧ Below w.heap.size w w' := by
  obtain ⟨xk, xn, xm, xx, xq, xl⟩ := x
  simp only [FP.val]
  go_enter Try.func20, Try.ntmps20
  go_wp2
  refine bodyPost_ret (v := .agg #[.int .i64 xk, .bool xn, .int .u64 xm, .int .i64 xx, .bool xq, .int .u64 xl]) (by simp [results, Try.results20, go_sem]) rfl ⟨rfl, ?_⟩
  exact ((Below.refl w.heap.size w).alloc (Nat.le_refl _) _).alloc (by simp) _

theorem awake_any (w : World) : Calls Try.prog 17 #[] w fun en w' => en = .returned (.bool true) ∧ Below w.heap.size w w' := by
  have hp : ∀ w, Calls Try.prog 28 #[.float .f64 4609434218613702656] w fun en w' => en = .returned (.agg #[.int .i64 2, .bool false, .int .u64 6755399441055744, .int .i64 (-52), .bool false, .int .u64 0]) ∧ Below w.heap.size w w' := fun w => by
    have := parts64_any 4609434218613702656 w (by decide)
    rwa [show partsN 52 11 4609434218613702656 = ⟨2, false, 6755399441055744, -52, false, 0⟩ by decide +kernel] at this
  have ho : ∀ w, Calls Try.prog 18 #[.agg #[.int .i64 2, .bool false, .int .u64 6755399441055744, .int .i64 (-52), .bool false, .int .u64 0]] w fun en w' => en = .returned (.tuple #[.float .f64 4609434218613702656, .int .i64 0]) ∧ Below w.heap.size w w' := fun w => by
    have := of64_any ⟨2, false, 6755399441055744, -52, false, 0⟩ 6755399441055744 0 w rfl rfl (by decide) (by decide)
    rwa [show rofN 52 11 ⟨2, false, 6755399441055744, -52, false, 0⟩ 6755399441055744 0 = (4609434218613702656, 0) by decide +kernel] at this
  have hu : ∀ w, Calls Try.prog 33 #[.float .f64 4607182418800017408] w fun en w' => en = .returned (.float .f64 4607182418800017409) ∧ w = w' := fun w => by
    have := up_any 4607182418800017408 w (by decide) (by decide +kernel) (by decide +kernel)
    rwa [show upN 4607182418800017408 = 4607182418800017409 by decide +kernel] at this
  have t1 : feq .f64 4609434218613702656 4609434218613702656 = true := by decide +kernel
  have t2 : fgt .f64 4607182418800017409 4607182418800017408 = true := by decide +kernel
  have HP := Lib.hid hp; have HO2 := Lib.hid ho; have HU := Lib.hid hu; clear hp ho hu
  go_enter Try.func17, Try.ntmps17
  go_wp2_with fail
  refine (HP.out _).mono ?_
  rintro en w2 ⟨rfl, hb2⟩
  have O := (Reg.Own.nil w).keep hb2
  have zz := O.rules
  have HO := Lib.hid O; clear O
  clear hb2
  go_wp2_with fail
  refine (HO2.out _).mono ?_
  rintro en w3 ⟨rfl, hb3⟩
  have O := (HO.out.alloc rfl _ _).keep hb3
  clear HO zz
  obtain ⟨c0, f0, z0, y0, -, zz⟩ := O.rules
  have HO := Lib.hid O; clear O
  clear hb3
  go_wp2_with fail
  refine (HU.out _).mono ?_
  rintro en w4 ⟨rfl, rfl⟩
  go_wp2
  go_ret
  exact ⟨rfl, HO.out.below⟩

end Go.Proofs.Ytpemchghaddgdaa
