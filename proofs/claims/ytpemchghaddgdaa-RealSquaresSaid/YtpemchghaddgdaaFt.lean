/- Remainder, whatever comes in. Condition: the bits fit. -/
import Derived.Test.YtpemchghaddgdaaFs
namespace Go.Proofs.Ytpemchghaddgdaa
open Go.RowKit Go.Pst
set_option maxRecDepth 100000
set_option linter.unusedSimpArgs false
set_option linter.unusedVariables false

def FlPost (v : Nat) (w : World) (en : Ending) (w' : World) : Prop := ∃ u, en = .returned (.float .f64 u) ∧ cn u = cn v ∧ w = w'

theorem mrem_nan (a b : Nat) (na nb ia : Bool) (w : World)
    (hN : ∀ w, Calls Try.prog 112 #[.float .f64 a] w fun en w' => en = .returned (.bool na) ∧ w = w')
    (hND : ∀ w, Calls Try.prog 112 #[.float .f64 b] w fun en w' => en = .returned (.bool nb) ∧ w = w')
    (hI : ∀ w, Calls Try.prog 82 #[.float .f64 a, .int .i64 0] w fun en w' => en = .returned (.bool ia) ∧ w = w')
    (z : Bool) (hy0 : feq .f64 b 0 = z) (h : (na || nb || ia || z) = true) :
    Calls Try.prog 109 #[.float .f64 a, .float .f64 b] w fun en w' => en = .returned (.float .f64 NN1) ∧ w = w' := by
  have HN := Lib.hid hN; have HND := Lib.hid hND; have HI := Lib.hid hI
  have HNA := Lib.hid fun w => nan_any w
  clear hN hND hI
  cases na
  · cases nb
    · cases ia
      · cases z
        · simp at h
        · clear h
          go_enter Try.func109, Try.ntmps109
          go_wp2_with (first | (go_at_call 112; (first | (with_reducible refine (HN.out _).mono ?_) | (with_reducible refine (HND.out _).mono ?_)); rintro en w' ⟨rfl, rfl⟩) | (go_at_call 82; refine (HI.out _).mono ?_; rintro en w' ⟨rfl, rfl⟩) | (go_at_call 110; refine (HNA.out _).mono ?_; rintro en w' ⟨rfl, rfl⟩))
          go_ret
          exact ⟨by first | rfl | simp, rfl⟩
      · clear h hy0
        go_enter Try.func109, Try.ntmps109
        go_wp2_with (first | (go_at_call 112; (first | (with_reducible refine (HN.out _).mono ?_) | (with_reducible refine (HND.out _).mono ?_)); rintro en w' ⟨rfl, rfl⟩) | (go_at_call 82; refine (HI.out _).mono ?_; rintro en w' ⟨rfl, rfl⟩) | (go_at_call 110; refine (HNA.out _).mono ?_; rintro en w' ⟨rfl, rfl⟩))
        go_ret
        exact ⟨by first | rfl | simp, rfl⟩
    · clear h hy0
      go_enter Try.func109, Try.ntmps109
      go_wp2_with (first | (go_at_call 112; (first | (with_reducible refine (HN.out _).mono ?_) | (with_reducible refine (HND.out _).mono ?_)); rintro en w' ⟨rfl, rfl⟩) | (go_at_call 110; refine (HNA.out _).mono ?_; rintro en w' ⟨rfl, rfl⟩))
      go_ret
      exact ⟨by first | rfl | simp, rfl⟩
  · clear h hy0
    go_enter Try.func109, Try.ntmps109
    go_wp2_with (first | (go_at_call 112; (with_reducible refine (HN.out _).mono ?_); rintro en w' ⟨rfl, rfl⟩) | (go_at_call 110; refine (HNA.out _).mono ?_; rintro en w' ⟨rfl, rfl⟩))
    go_ret
    exact ⟨by first | rfl | simp, rfl⟩

theorem mrem_inf (a b : Nat) (w : World)
    (hN : ∀ w, Calls Try.prog 112 #[.float .f64 a] w fun en w' => en = .returned (.bool false) ∧ w = w')
    (hND : ∀ w, Calls Try.prog 112 #[.float .f64 b] w fun en w' => en = .returned (.bool false) ∧ w = w')
    (hI : ∀ w, Calls Try.prog 82 #[.float .f64 a, .int .i64 0] w fun en w' => en = .returned (.bool false) ∧ w = w')
    (hID : ∀ w, Calls Try.prog 82 #[.float .f64 b, .int .i64 0] w fun en w' => en = .returned (.bool true) ∧ w = w')
    (hy0 : feq .f64 b 0 = false) :
    Calls Try.prog 109 #[.float .f64 a, .float .f64 b] w fun en w' => en = .returned (.float .f64 a) ∧ w = w' := by
  have HN := Lib.hid hN; have HND := Lib.hid hND; have HI := Lib.hid hI; have HID := Lib.hid hID
  clear hN hND hI hID
  go_enter Try.func109, Try.ntmps109
  go_wp2_with fail
  refine (HN.out _).mono ?_
  rintro en w' ⟨rfl, rfl⟩
  go_wp2_with fail
  refine (HND.out _).mono ?_
  rintro en w' ⟨rfl, rfl⟩
  go_wp2_with fail
  refine (HI.out _).mono ?_
  rintro en w' ⟨rfl, rfl⟩
  go_wp2_with fail
  refine (HID.out _).mono ?_
  rintro en w' ⟨rfl, rfl⟩
  go_wp2_with fail
  go_ret
  exact ⟨by first | rfl | simp, rfl⟩

theorem mrem_any (a b : Nat) (w : World) (ha : a < 2 ^ 64) (hb : b < 2 ^ 64) : Calls Try.prog 109 #[.float .f64 a, .float .f64 b] w (FlPost (remB a b) w) := by
  have hN := fun w => mnan_any a w
  have hND := fun w => mnan_any b w
  have hI := fun w => minf_any a w ha
  have hID := fun w => minf_any b w hb
  have hz : feq .f64 b 0 = decide (mantB b = 0) := by rw [feq_zero b hb]; exact decide_eq_decide.2 mant_zero.symm
  by_cases hs : (nan64 a || nan64 b || infB a || decide (mantB b = 0)) = true
  · have hv : remB a b = NC := by unfold remB; rw [if_pos hs]
    rw [hv]
    refine (mrem_nan a b _ _ _ w hN hND hI _ hz hs).mono fun en w' ⟨e1, e2⟩ => ⟨NN1, e1, ?_, e2⟩
    decide
  · have hs' := hs
    simp only [Bool.or_eq_true, not_or, Bool.not_eq_true, decide_eq_true_eq, decide_eq_false_iff_not] at hs'
    obtain ⟨⟨⟨h1, h2⟩, h3⟩, h4⟩ := hs'
    rw [h1] at hN
    rw [h2] at hND
    rw [h3] at hI
    cases hi : infB b
    · exact (rem_fin a b w ⟨ha, h1, h3⟩ ⟨hb, h2, hi⟩ h4).mono fun en w' ⟨e1, e2⟩ => ⟨_, e1, rfl, e2⟩
    · rw [hi] at hID
      have hv : remB a b = a := by unfold remB; rw [if_neg hs, if_pos hi]
      rw [hv]
      exact (mrem_inf a b w hN hND hI hID (by rw [hz]; exact decide_eq_false h4)).mono fun en w' ⟨e1, e2⟩ => ⟨_, e1, rfl, e2⟩

theorem mRem_any (a b : Nat) (w : World) (ha : a < 2 ^ 64) (hb : b < 2 ^ 64) : Calls Try.prog 89 #[.float .f64 a, .float .f64 b] w (FlPost (remB a b) w) := by
  have H := Lib.hid fun w => mrem_any a b w ha hb
  generalize remB a b = v at *
  clear ha hb
  go_enter Try.func89, Try.ntmps89
  go_wp2_with fail
  refine (H.out _).mono ?_
  rintro en w' ⟨u, rfl, hu, rfl⟩
  have HU := Lib.hid hu
  clear hu
  go_wp2_with fail
  go_ret
  exact ⟨_, rfl, HU.out, rfl⟩
theorem realRem_any (a b : Nat) (w : World) (ha : a < 2 ^ 64) (hb : b < 2 ^ 64) : Calls Try.prog 47 #[.float .f64 a, .float .f64 b] w (FlPost (remB a b) w) := by
  have H := Lib.hid fun w => mRem_any a b w ha hb
  generalize remB a b = v at *
  clear ha hb
  go_enter Try.func47, Try.ntmps47
  go_wp2_with fail
  refine (H.out _).mono ?_
  rintro en w' ⟨u, rfl, hu, rfl⟩
  have HU := Lib.hid hu
  clear hu
  go_wp2_with fail
  go_ret
  exact ⟨_, rfl, HU.out, rfl⟩


end Go.Proofs.Ytpemchghaddgdaa
