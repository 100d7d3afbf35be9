/- Every Up, Down and Steps is what the document says: the law RealSteps returns true for every input. No condition. -/
import Derived.Test.YtpemchghaddgdaaRh
namespace Go.Proofs.Ytpemchghaddgdaa
open Go.RowKit Go.Pst Go.ChangeShapes Go.WideShapes Go.ChangeAt Go.Joins Go.Deep
set_option maxRecDepth 20000
set_option maxHeartbeats 1600000
set_option linter.unusedSimpArgs false
set_option linter.unusedVariables false
attribute [local go_sem] x64bits x64from x32bits x32from

theorem isN_self (x : Nat) : isN x x = true := by unfold isN; cases nan64 x <;> simp

theorem nan_flip (b : Nat) (h : b < 2 ^ 64) : nan64 (flipB b) = nan64 b := by
  rw [flipB_eq b h]; unfold nan64; congr 2
  split <;> omega

theorem flip_flip (b : Nat) : flipB (flipB b) = b := by unfold flipB; rw [Nat.xor_assoc, Nat.xor_self, Nat.xor_zero]

theorem u64_flip (b : Nat) (h : b < 2 ^ 64) : bits .xor .u64 (b : Int) 9223372036854775808 = ((flipB b : Nat) : Int) := u64_xor_nat b 9223372036854775808 (by omega) (by omega)

theorem flipB_lt (b : Nat) (h : b < 2 ^ 64) : flipB b < 2 ^ 64 := by rw [flipB_eq b h]; split <;> omega


theorem realSteps_walk (a b : Nat) (w : World) (ha : a < 2 ^ 64) (hb : b < 2 ^ 64) :
    Calls Try.prog 5 #[.int .u64 a, .int .u64 b] w fun en w' => en = .returned (.bool true) ∧ Below w.heap.size w w' := by
  have hfa := flipB_lt a ha
  have H1 := Lib.hid fun w => rup_any a w ha
  have H2 := Lib.hid fun w => refup_any a w ha
  have h3 := fun w => is_any (upB a) (upB a) w (upB_lt a ha)
  have H4 := Lib.hid fun w => down_any a w ha
  have H5 := Lib.hid fun w => refup_any (flipB a) w hfa
  have h6 := fun w => is_any (flipB (upB (flipB a))) (flipB (upB (flipB a))) w (flipB_lt _ (upB_lt _ hfa))
  rw [isN_self] at h3 h6
  have H3 := Lib.hid h3; have H6 := Lib.hid h6; clear h3 h6
  have h7 := fun w => steps_any a b w ha hb
  have h8 := fun w => rplace_any a w ha
  have h9 := fun w => rplace_any b w hb
  have e1 := fne_self a
  have e2 := fne_self b
  have hx : -9223372036854775808 < placeT a ∧ placeT a < 9223372036854775808 := by unfold placeT; split <;> omega
  have hy : -9223372036854775808 < placeT b ∧ placeT b < 9223372036854775808 := by unfold placeT; split <;> omega
  generalize placeT a = x at *
  generalize placeT b = y at *
  have f1 := u64_flip a ha
  have f2 := u64_flip (upB (flipB a)) (upB_lt _ hfa)
  generalize flipB (upB (flipB a)) = t at *
  generalize upB (flipB a) = s at *
  generalize flipB a = r at *
  generalize upB a = u at *
  generalize nan64 a = n at *
  generalize nan64 b = m at *
  clear ha hb hfa
  cases n
  · cases m
    · simp only [Bool.or_self, Bool.false_eq_true, if_false] at h7
      have hxy : x ≤ y ∨ (¬ x ≤ y ∧ y < x) := by omega
      rcases hxy with h | ⟨h, h'⟩
      · rw [Int.max_eq_right h, Int.min_eq_left h] at h7
        have hr : IntKind.u64.wrap (IntKind.u64.wrap y - IntKind.u64.wrap x) = y - x := by simp only [IntKind.wrap_u64]; omega
        have h' : ¬ y < x := by omega
        clear hx hy
        have H7 := Lib.hid h7; have H8 := Lib.hid h8; have H9 := Lib.hid h9; clear h7 h8 h9
        go_enter Try.func5, Try.ntmps5
        go_wp2_with fail
        refine (awake_any _).mono ?_
        rintro en w2 ⟨rfl, hb2⟩
        have O := (Reg.Own.nil w).keep hb2
        have zz := O.rules
        have HO := Lib.hid O; clear O
        clear hb2
        go_wp2_with fail
        refine (H1.out _).mono ?_
        rintro en w' ⟨rfl, rfl⟩
        go_wp2_with fail
        refine (H2.out _).mono ?_
        rintro en wn ⟨rfl, hbn⟩
        have O := HO.out.keep hbn
        clear HO zz
        have zz := O.rules
        have HO := Lib.hid O; clear O
        clear hbn
        go_wp2_with fail
        refine (H3.out _).mono ?_
        rintro en wn ⟨rfl, hbn⟩
        have O := HO.out.keep hbn
        clear HO zz
        have zz := O.rules
        have HO := Lib.hid O; clear O
        clear hbn
        go_wp2_with fail
        refine (H4.out _).mono ?_
        rintro en w' ⟨rfl, rfl⟩
        go_wp2_with fail
        refine (H5.out _).mono ?_
        rintro en wn ⟨rfl, hbn⟩
        have O := HO.out.keep hbn
        clear HO zz
        have zz := O.rules
        have HO := Lib.hid O; clear O
        clear hbn
        go_wp2_with fail
        refine (H6.out _).mono ?_
        rintro en wn ⟨rfl, hbn⟩
        have O := HO.out.keep hbn
        clear HO zz
        have zz := O.rules
        have HO := Lib.hid O; clear O
        clear hbn
        go_wp2_with fail
        refine (H7.out _).mono ?_
        rintro en w' ⟨rfl, rfl⟩
        go_wp2_with (go_at_call 37; (first | (with_reducible refine (H8.out _).mono ?_) | (with_reducible refine (H9.out _).mono ?_)); rintro en w' ⟨rfl, rfl⟩)
        all_goals (go_ret; exact ⟨by simp, HO.out.below⟩)
      · rw [Int.max_eq_left (by omega), Int.min_eq_right (by omega)] at h7
        have hr : IntKind.u64.wrap (IntKind.u64.wrap x - IntKind.u64.wrap y) = x - y := by simp only [IntKind.wrap_u64]; omega
        clear hx hy
        have H7 := Lib.hid h7; have H8 := Lib.hid h8; have H9 := Lib.hid h9; clear h7 h8 h9
        go_enter Try.func5, Try.ntmps5
        go_wp2_with fail
        refine (awake_any _).mono ?_
        rintro en w2 ⟨rfl, hb2⟩
        have O := (Reg.Own.nil w).keep hb2
        have zz := O.rules
        have HO := Lib.hid O; clear O
        clear hb2
        go_wp2_with fail
        refine (H1.out _).mono ?_
        rintro en w' ⟨rfl, rfl⟩
        go_wp2_with fail
        refine (H2.out _).mono ?_
        rintro en wn ⟨rfl, hbn⟩
        have O := HO.out.keep hbn
        clear HO zz
        have zz := O.rules
        have HO := Lib.hid O; clear O
        clear hbn
        go_wp2_with fail
        refine (H3.out _).mono ?_
        rintro en wn ⟨rfl, hbn⟩
        have O := HO.out.keep hbn
        clear HO zz
        have zz := O.rules
        have HO := Lib.hid O; clear O
        clear hbn
        go_wp2_with fail
        refine (H4.out _).mono ?_
        rintro en w' ⟨rfl, rfl⟩
        go_wp2_with fail
        refine (H5.out _).mono ?_
        rintro en wn ⟨rfl, hbn⟩
        have O := HO.out.keep hbn
        clear HO zz
        have zz := O.rules
        have HO := Lib.hid O; clear O
        clear hbn
        go_wp2_with fail
        refine (H6.out _).mono ?_
        rintro en wn ⟨rfl, hbn⟩
        have O := HO.out.keep hbn
        clear HO zz
        have zz := O.rules
        have HO := Lib.hid O; clear O
        clear hbn
        go_wp2_with fail
        refine (H7.out _).mono ?_
        rintro en w' ⟨rfl, rfl⟩
        go_wp2_with (go_at_call 37; (first | (with_reducible refine (H8.out _).mono ?_) | (with_reducible refine (H9.out _).mono ?_)); rintro en w' ⟨rfl, rfl⟩)
        all_goals (go_ret; exact ⟨by simp, HO.out.below⟩)
    · simp only [Bool.or_true, if_true] at h7
      have H7 := Lib.hid h7; have H8 := Lib.hid h8; have H9 := Lib.hid h9; clear h7 h8 h9
      go_enter Try.func5, Try.ntmps5
      go_wp2_with fail
      refine (awake_any _).mono ?_
      rintro en w2 ⟨rfl, hb2⟩
      have O := (Reg.Own.nil w).keep hb2
      have zz := O.rules
      have HO := Lib.hid O; clear O
      clear hb2
      go_wp2_with fail
      refine (H1.out _).mono ?_
      rintro en w' ⟨rfl, rfl⟩
      go_wp2_with fail
      refine (H2.out _).mono ?_
      rintro en wn ⟨rfl, hbn⟩
      have O := HO.out.keep hbn
      clear HO zz
      have zz := O.rules
      have HO := Lib.hid O; clear O
      clear hbn
      go_wp2_with fail
      refine (H3.out _).mono ?_
      rintro en wn ⟨rfl, hbn⟩
      have O := HO.out.keep hbn
      clear HO zz
      have zz := O.rules
      have HO := Lib.hid O; clear O
      clear hbn
      go_wp2_with fail
      refine (H4.out _).mono ?_
      rintro en w' ⟨rfl, rfl⟩
      go_wp2_with fail
      refine (H5.out _).mono ?_
      rintro en wn ⟨rfl, hbn⟩
      have O := HO.out.keep hbn
      clear HO zz
      have zz := O.rules
      have HO := Lib.hid O; clear O
      clear hbn
      go_wp2_with fail
      refine (H6.out _).mono ?_
      rintro en wn ⟨rfl, hbn⟩
      have O := HO.out.keep hbn
      clear HO zz
      have zz := O.rules
      have HO := Lib.hid O; clear O
      clear hbn
      go_wp2_with fail
      refine (H7.out _).mono ?_
      rintro en w' ⟨rfl, rfl⟩
      go_wp2_with (go_at_call 37; (first | (with_reducible refine (H8.out _).mono ?_) | (with_reducible refine (H9.out _).mono ?_)); rintro en w' ⟨rfl, rfl⟩)
      all_goals (go_ret; exact ⟨by simp, HO.out.below⟩)
  · simp only [Bool.true_or, if_true] at h7
    have H7 := Lib.hid h7; have H8 := Lib.hid h8; have H9 := Lib.hid h9; clear h7 h8 h9
    go_enter Try.func5, Try.ntmps5
    go_wp2_with fail
    refine (awake_any _).mono ?_
    rintro en w2 ⟨rfl, hb2⟩
    have O := (Reg.Own.nil w).keep hb2
    have zz := O.rules
    have HO := Lib.hid O; clear O
    clear hb2
    go_wp2_with fail
    refine (H1.out _).mono ?_
    rintro en w' ⟨rfl, rfl⟩
    go_wp2_with fail
    refine (H2.out _).mono ?_
    rintro en wn ⟨rfl, hbn⟩
    have O := HO.out.keep hbn
    clear HO zz
    have zz := O.rules
    have HO := Lib.hid O; clear O
    clear hbn
    go_wp2_with fail
    refine (H3.out _).mono ?_
    rintro en wn ⟨rfl, hbn⟩
    have O := HO.out.keep hbn
    clear HO zz
    have zz := O.rules
    have HO := Lib.hid O; clear O
    clear hbn
    go_wp2_with fail
    refine (H4.out _).mono ?_
    rintro en w' ⟨rfl, rfl⟩
    go_wp2_with fail
    refine (H5.out _).mono ?_
    rintro en wn ⟨rfl, hbn⟩
    have O := HO.out.keep hbn
    clear HO zz
    have zz := O.rules
    have HO := Lib.hid O; clear O
    clear hbn
    go_wp2_with fail
    refine (H6.out _).mono ?_
    rintro en wn ⟨rfl, hbn⟩
    have O := HO.out.keep hbn
    clear HO zz
    have zz := O.rules
    have HO := Lib.hid O; clear O
    clear hbn
    go_wp2_with fail
    refine (H7.out _).mono ?_
    rintro en w' ⟨rfl, rfl⟩
    go_wp2_with (go_at_call 37; (first | (with_reducible refine (H8.out _).mono ?_) | (with_reducible refine (H9.out _).mono ?_)); rintro en w' ⟨rfl, rfl⟩)
    all_goals (go_ret; exact ⟨by simp, HO.out.below⟩)

theorem realSteps_own : ownKnob Try.prog.godebug = none := by kernel_rfl
theorem realSteps_laid : laidOutB Try.prog = true := by kernel_rfl
theorem realSteps_types : ∀ t ∈ ([22, 22] : List TypeId), Try.prog.readableRec t = true ∧ t < Try.prog.types.size := by
  simp only [List.mem_cons, List.not_mem_nil, or_false, forall_eq_or_imp, forall_eq]
  exact ⟨⟨by kernel_rfl, of_decide_eq_true (by kernel_rfl)⟩, ⟨by kernel_rfl, of_decide_eq_true (by kernel_rfl)⟩⟩
set_option maxRecDepth 100000 in
theorem realSteps_lifted (os : Os) (started : os.Started) (H : Type) (enc : TypeId × Value → H) :
    ReturnsInHanded {} Try.checked os 5 .any (Rows.realStepsSpec.pre6 enc Try.prog Try.f5 Rows.realStepsRow.domain false) (Rows.realStepsSpec.post enc Try.prog Try.f5 false true false false) := by
  refine returnsInHanded_of_change (C := Try.checked) realSteps_own started (by kernel_rfl) Try.func5
    (ChangeSpec.witness6 (enc := enc) (C := Try.checked) false ⟨#[], #[.int .u64 0, .int .u64 0], []⟩ 8 (by kernel_rfl) (by kernel_rfl) (by kernel_rfl) (by kernel_rfl)) ?_
  intro W base args ds gs before hval0 hW hcnd hsz
  have hval : ∀ (j : Nat) t v, Try.f5.params[j]? = some t → args[j]? = some v → Value.okWide Try.prog W .any base t v := hval0
  have hW' := hW
  obtain ⟨p, q, hA0, hV, rfl, hfz, hnd⟩ := hW
  have hA : DataW.TrodAll enc Try.prog W 0 (fun _ => true) true Try.f5.params.toList args.toList ds p := hA0
  obtain ⟨rfl, rfl⟩ := trodVars_none hV
  have hpost : ∀ W', Below W.heap.size W W' → Rows.realStepsSpec.post enc Try.prog Try.f5 false true false false W args (.bool true) W' := fun W' hb => by
    have hlen : ds.length = 2 := by have hh := hA; rw [Try.params5] at hh; obtain ⟨_, _, d0, ds0, _, _, _, rfl, _, _, hh⟩ := trodAll_cons hh; obtain ⟨_, _, d1, ds1, _, _, _, rfl, _, _, hh⟩ := trodAll_cons hh; obtain ⟨_, rfl, _⟩ := trodAll_nil hh; simp
    obtain ⟨e0, e1, rfl⟩ : ∃ e0 e1, ds = [e0, e1] := by match ds, hlen with | [e0, e1], _ => exact ⟨e0, e1, rfl⟩
    exact law_post realSteps_laid rfl hW' (by rw [Try.params5]; exact realSteps_types) (tb := 4) (by kernel_rfl) Try.underlying4 rfl rfl rfl hb
  rw [Try.params5] at hA hval
  obtain ⟨v0, vs0, d0, ds0, p0, q0, hargs, rfl, rfl, h0, r0⟩ := trodAll_cons hA
  obtain ⟨v1, vs1, d1, ds1, p1, q1, rfl, rfl, rfl, h1, r1⟩ := trodAll_cons r0
  obtain ⟨rfl, rfl, rfl⟩ := trodAll_nil r1
  obtain rfl : args = #[v0, v1] := by cases args; simp_all
  obtain ⟨b, rfl, rfl, rfl, w0⟩ := open_int Try.underlying22 (hval 0 22 v0 rfl rfl) h0
  obtain ⟨c, rfl, rfl, rfl, w1⟩ := open_int Try.underlying22 (hval 1 22 v1 rfl rfl) h1
  obtain ⟨b, rfl, hb⟩ := wf_u64 w0
  obtain ⟨c, rfl, hc⟩ := wf_u64 w1
  refine (realSteps_walk b c W hb hc).mono fun e W' ⟨he, hg⟩ => ?_
  subst he
  exact ⟨_, rfl, hpost _ hg⟩

theorem realSteps_holds : Rows.RealStepsSaid :=
  OpenClaim.holds_of_wide 5 Try.f5 rfl rfl rfl rfl rfl rfl rfl ⟨rfl, rfl, rfl, rfl, rfl⟩ rfl rfl rfl rfl rfl (by kernel_rfl) Try.func5 (by kernel_rfl)
    (of_decide_eq_true (by kernel_rfl)) (by unfold Func.isWrapper; first | (rw [if_pos (by decide +kernel)]; kernel_rfl) | (rw [if_neg (by decide +kernel)]; exact ⟨rfl, rfl⟩))
    (fun os started H enc _ => realSteps_lifted os started H enc)
#print axioms realSteps_holds

end Go.Proofs.Ytpemchghaddgdaa
