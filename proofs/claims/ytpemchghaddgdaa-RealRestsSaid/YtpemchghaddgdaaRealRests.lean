/- Every Remainder and Sign is what the document says: the law RealRests returns true for every input. No condition. -/
import Derived.Test.YtpemchghaddgdaaFs
import Derived.Test.YtpemchghaddgdaaLaw
namespace Go.Proofs.Ytpemchghaddgdaa
open Go.RowKit Go.Pst Go.ChangeShapes Go.WideShapes Go.ChangeAt Go.Joins Go.Deep
set_option maxRecDepth 100000
set_option linter.unusedSimpArgs false
set_option linter.unusedVariables false
attribute [local go_sem] x64bits x64from

def FlPost (v : Nat) (w : World) (en : Ending) (w' : World) : Prop := ∃ u, en = .returned (.float .f64 u) ∧ cn u = cn v ∧ w = w'

theorem mrem_nan (a b : Nat) (na nb ia : Bool) (w : World)
    (hN : ∀ w, Calls Try.prog 112 #[.float .f64 a] w fun en w' => en = .returned (.bool na) ∧ w = w')
    (hND : ∀ w, Calls Try.prog 112 #[.float .f64 b] w fun en w' => en = .returned (.bool nb) ∧ w = w')
    (hI : ∀ w, Calls Try.prog 82 #[.float .f64 a, .int .i64 0] w fun en w' => en = .returned (.bool ia) ∧ w = w')
    (z : Bool) (hy0 : feq .f64 b 0 = z) (h : (na || nb || ia || z) = true) :
    Calls Try.prog 109 #[.float .f64 a, .float .f64 b] w fun en w' => en = .returned (.float .f64 NN1) ∧ w = w' := by
  have HN := Lib.hid hN; have HND := Lib.hid hND; have HI := Lib.hid hI
  have HNA := Lib.hid fun w => nan_any w
  clear hN hND hI
  cases na
  · cases nb
    · cases ia
      · cases z
        · simp at h
        · clear h
          go_enter Try.func109, Try.ntmps109
          go_wp2_with (first | (go_at_call 112; (first | (with_reducible refine (HN.out _).mono ?_) | (with_reducible refine (HND.out _).mono ?_)); rintro en w' ⟨rfl, rfl⟩) | (go_at_call 82; refine (HI.out _).mono ?_; rintro en w' ⟨rfl, rfl⟩) | (go_at_call 110; refine (HNA.out _).mono ?_; rintro en w' ⟨rfl, rfl⟩))
          go_ret
          exact ⟨by first | rfl | simp, rfl⟩
      · clear h hy0
        go_enter Try.func109, Try.ntmps109
        go_wp2_with (first | (go_at_call 112; (first | (with_reducible refine (HN.out _).mono ?_) | (with_reducible refine (HND.out _).mono ?_)); rintro en w' ⟨rfl, rfl⟩) | (go_at_call 82; refine (HI.out _).mono ?_; rintro en w' ⟨rfl, rfl⟩) | (go_at_call 110; refine (HNA.out _).mono ?_; rintro en w' ⟨rfl, rfl⟩))
        go_ret
        exact ⟨by first | rfl | simp, rfl⟩
    · clear h hy0
      go_enter Try.func109, Try.ntmps109
      go_wp2_with (first | (go_at_call 112; (first | (with_reducible refine (HN.out _).mono ?_) | (with_reducible refine (HND.out _).mono ?_)); rintro en w' ⟨rfl, rfl⟩) | (go_at_call 110; refine (HNA.out _).mono ?_; rintro en w' ⟨rfl, rfl⟩))
      go_ret
      exact ⟨by first | rfl | simp, rfl⟩
  · clear h hy0
    go_enter Try.func109, Try.ntmps109
    go_wp2_with (first | (go_at_call 112; (with_reducible refine (HN.out _).mono ?_); rintro en w' ⟨rfl, rfl⟩) | (go_at_call 110; refine (HNA.out _).mono ?_; rintro en w' ⟨rfl, rfl⟩))
    go_ret
    exact ⟨by first | rfl | simp, rfl⟩

theorem mrem_inf (a b : Nat) (w : World)
    (hN : ∀ w, Calls Try.prog 112 #[.float .f64 a] w fun en w' => en = .returned (.bool false) ∧ w = w')
    (hND : ∀ w, Calls Try.prog 112 #[.float .f64 b] w fun en w' => en = .returned (.bool false) ∧ w = w')
    (hI : ∀ w, Calls Try.prog 82 #[.float .f64 a, .int .i64 0] w fun en w' => en = .returned (.bool false) ∧ w = w')
    (hID : ∀ w, Calls Try.prog 82 #[.float .f64 b, .int .i64 0] w fun en w' => en = .returned (.bool true) ∧ w = w')
    (hy0 : feq .f64 b 0 = false) :
    Calls Try.prog 109 #[.float .f64 a, .float .f64 b] w fun en w' => en = .returned (.float .f64 a) ∧ w = w' := by
  have HN := Lib.hid hN; have HND := Lib.hid hND; have HI := Lib.hid hI; have HID := Lib.hid hID
  clear hN hND hI hID
  go_enter Try.func109, Try.ntmps109
  go_wp2_with fail
  refine (HN.out _).mono ?_
  rintro en w' ⟨rfl, rfl⟩
  go_wp2_with fail
  refine (HND.out _).mono ?_
  rintro en w' ⟨rfl, rfl⟩
  go_wp2_with fail
  refine (HI.out _).mono ?_
  rintro en w' ⟨rfl, rfl⟩
  go_wp2_with fail
  refine (HID.out _).mono ?_
  rintro en w' ⟨rfl, rfl⟩
  go_wp2_with fail
  go_ret
  exact ⟨by first | rfl | simp, rfl⟩

theorem mrem_any (a b : Nat) (w : World) (ha : a < 2 ^ 64) (hb : b < 2 ^ 64) : Calls Try.prog 109 #[.float .f64 a, .float .f64 b] w (FlPost (remB a b) w) := by
  have hN := fun w => mnan_any a w
  have hND := fun w => mnan_any b w
  have hI := fun w => minf_any a w ha
  have hID := fun w => minf_any b w hb
  have hz : feq .f64 b 0 = decide (mantB b = 0) := by rw [feq_zero b hb]; exact decide_eq_decide.2 mant_zero.symm
  by_cases hs : (nan64 a || nan64 b || infB a || decide (mantB b = 0)) = true
  · have hv : remB a b = NC := by unfold remB; rw [if_pos hs]
    rw [hv]
    refine (mrem_nan a b _ _ _ w hN hND hI _ hz hs).mono fun en w' ⟨e1, e2⟩ => ⟨NN1, e1, ?_, e2⟩
    decide
  · have hs' := hs
    simp only [Bool.or_eq_true, not_or, Bool.not_eq_true, decide_eq_true_eq, decide_eq_false_iff_not] at hs'
    obtain ⟨⟨⟨h1, h2⟩, h3⟩, h4⟩ := hs'
    rw [h1] at hN
    rw [h2] at hND
    rw [h3] at hI
    cases hi : infB b
    · exact (rem_fin a b w ⟨ha, h1, h3⟩ ⟨hb, h2, hi⟩ h4).mono fun en w' ⟨e1, e2⟩ => ⟨_, e1, rfl, e2⟩
    · rw [hi] at hID
      have hv : remB a b = a := by unfold remB; rw [if_neg hs, if_pos hi]
      rw [hv]
      exact (mrem_inf a b w hN hND hI hID (by rw [hz]; exact decide_eq_false h4)).mono fun en w' ⟨e1, e2⟩ => ⟨_, e1, rfl, e2⟩

theorem mRem_any (a b : Nat) (w : World) (ha : a < 2 ^ 64) (hb : b < 2 ^ 64) : Calls Try.prog 89 #[.float .f64 a, .float .f64 b] w (FlPost (remB a b) w) := by
  have H := Lib.hid fun w => mrem_any a b w ha hb
  generalize remB a b = v at *
  clear ha hb
  go_enter Try.func89, Try.ntmps89
  go_wp2_with fail
  refine (H.out _).mono ?_
  rintro en w' ⟨u, rfl, hu, rfl⟩
  have HU := Lib.hid hu
  clear hu
  go_wp2_with fail
  go_ret
  exact ⟨_, rfl, HU.out, rfl⟩
theorem realRem_any (a b : Nat) (w : World) (ha : a < 2 ^ 64) (hb : b < 2 ^ 64) : Calls Try.prog 47 #[.float .f64 a, .float .f64 b] w (FlPost (remB a b) w) := by
  have H := Lib.hid fun w => mRem_any a b w ha hb
  generalize remB a b = v at *
  clear ha hb
  go_enter Try.func47, Try.ntmps47
  go_wp2_with fail
  refine (H.out _).mono ?_
  rintro en w' ⟨u, rfl, hu, rfl⟩
  have HU := Lib.hid hu
  clear hu
  go_wp2_with fail
  go_ret
  exact ⟨_, rfl, HU.out, rfl⟩

theorem sign_of (a b : Nat) (w : World) (ha : a < 2 ^ 64) (hb : b < 2 ^ 64) : Calls Try.prog 75 #[.float .f64 a, .float .f64 b] w fun en w' => en = .returned (.float .f64 (csN a b)) ∧ w = w' := by
  have H := Lib.hid fun w => mcopy_any a b w ha hb
  generalize csN a b = v at *
  clear ha hb
  go_enter Try.func75, Try.ntmps75
  go_wp2_with fail
  refine (H.out _).mono ?_
  rintro en w' ⟨rfl, rfl⟩
  go_wp2_with fail
  go_ret
  exact ⟨by first | rfl | simp, rfl⟩

theorem is_cn {x b : Nat} (h : cn x = cn b) : isN x b = true := by
  have hn : nan64 x = nan64 b := by rw [← cn_nan x, h, cn_nan]
  unfold isN
  cases hb : nan64 b
  · rw [hb] at hn
    rw [cn_of x hn, cn_of b hb] at h
    simp [h]
  · rw [hb] at hn; simp [hn]

theorem remB_lt (a b : Nat) (ha : a < 2 ^ 64) : remB a b < 2 ^ 64 := by
  unfold remB
  (repeat' split)
  · decide
  · exact ha
  · exact (wrd_lt _ _ (rnd_lt63 _ _)).1
  · exact (wrd_lt _ _ (rnd_lt63 _ _)).1


set_option maxHeartbeats 1000000 in
theorem realRests_walk (a b : Nat) (w : World) (ha : a < 2 ^ 64) (hb : b < 2 ^ 64) :
    Calls Try.prog 16 #[.int .u64 a, .int .u64 b] w fun en w' => en = .returned (.bool true) ∧ Below w.heap.size w w' := by
  have HR := Lib.hid fun w => realRem_any a b w ha hb
  have HRR := Lib.hid fun w => rrem_any a b w ha hb
  have HS := Lib.hid fun w => sign_of a b w ha hb
  have IS := Lib.hid fun x v w (h : cn x = cn v) (hv : v < 2 ^ 64) => show Calls Try.prog 32 #[.float .f64 x, .int .u64 v] w fun en w' => en = .returned (.bool true) ∧ Below w.heap.size w w' by
    have := is_any x v w hv; rwa [is_cn h] at this
  have L1 := Lib.hid (remB_lt a b ha)
  have L2 := Lib.hid (csN_lt a b)
  have h := csN_bits ha hb
  obtain ⟨x, hx⟩ : ∃ x, x = bits .andNot .u64 (a : Int) 9223372036854775808 := ⟨_, rfl⟩
  obtain ⟨y, hy⟩ : ∃ y, y = bits .and .u64 (b : Int) 9223372036854775808 := ⟨_, rfl⟩
  rw [← hx, ← hy] at h
  generalize csN a b = c at *
  generalize remB a b = s at *
  replace hx := hx.symm
  replace hy := hy.symm
  clear ha hb
  go_enter Try.func16, Try.ntmps16
  go_wp2_with fail
  have O := Reg.Own.nil w
  have zz := O.rules
  have HO := Lib.hid O; clear O
  refine (awake_any _).mono ?_
  rintro en wn ⟨rfl, hbn⟩
  have O := HO.out.keep hbn
  clear HO zz
  have zz := O.rules
  have HO := Lib.hid O; clear O
  clear hbn
  go_wp2_with fail
  refine (HR.out _).mono ?_
  rintro en wm ⟨u, rfl, hu, rfl⟩
  have HU := Lib.hid hu; clear hu
  go_wp2_with fail
  refine (HRR.out _).mono ?_
  rintro en wn ⟨rfl, hbn⟩
  have O := HO.out.keep hbn
  clear HO zz
  have zz := O.rules
  have HO := Lib.hid O; clear O
  clear hbn
  go_wp2_with fail
  refine (IS.out u s _ HU.out L1.out).mono ?_
  rintro en wn ⟨rfl, hbn⟩
  have O := HO.out.keep hbn
  clear HO zz
  have zz := O.rules
  have HO := Lib.hid O; clear O
  clear hbn
  go_wp2_with fail
  refine (HS.out _).mono ?_
  rintro en wm ⟨rfl, rfl⟩
  go_wp2_with fail
  refine (IS.out c c _ rfl L2.out).mono ?_
  rintro en wn ⟨rfl, hbn⟩
  have O := HO.out.keep hbn
  clear HO zz
  have zz := O.rules
  have HO := Lib.hid O; clear O
  clear hbn
  go_wp2_with fail
  go_ret
  exact ⟨by first | rfl | simp, HO.out.below⟩

theorem realRests_own : ownKnob Try.prog.godebug = none := by kernel_rfl
theorem realRests_laid : laidOutB Try.prog = true := by kernel_rfl
theorem realRests_types : ∀ t ∈ ([22, 22] : List TypeId), Try.prog.readableRec t = true ∧ t < Try.prog.types.size := by
  simp only [List.mem_cons, List.not_mem_nil, or_false, forall_eq_or_imp, forall_eq]
  exact ⟨⟨by kernel_rfl, of_decide_eq_true (by kernel_rfl)⟩, ⟨by kernel_rfl, of_decide_eq_true (by kernel_rfl)⟩⟩
set_option maxRecDepth 100000 in
theorem realRests_lifted (os : Os) (started : os.Started) (H : Type) (enc : TypeId × Value → H) :
    ReturnsInHanded {} Try.checked os 16 .any (Rows.realRestsSpec.pre6 enc Try.prog Try.f16 Rows.realRestsRow.domain false) (Rows.realRestsSpec.post enc Try.prog Try.f16 false true false false) := by
  refine returnsInHanded_of_change (C := Try.checked) realRests_own started (by kernel_rfl) Try.func16
    (ChangeSpec.witness6 (enc := enc) (C := Try.checked) false ⟨#[], #[.int .u64 0, .int .u64 0], []⟩ 8 (by kernel_rfl) (by kernel_rfl) (by kernel_rfl) (by kernel_rfl)) ?_
  intro W base args ds gs before hval0 hW hcnd hsz
  have hval : ∀ (j : Nat) t v, Try.f16.params[j]? = some t → args[j]? = some v → Value.okWide Try.prog W .any base t v := hval0
  have hW' := hW
  obtain ⟨p, q, hA0, hV, rfl, hfz, hnd⟩ := hW
  have hA : DataW.TrodAll enc Try.prog W 0 (fun _ => true) true Try.f16.params.toList args.toList ds p := hA0
  obtain ⟨rfl, rfl⟩ := trodVars_none hV
  have hpost : ∀ W', Below W.heap.size W W' → Rows.realRestsSpec.post enc Try.prog Try.f16 false true false false W args (.bool true) W' := fun W' hb => by
    have hlen : ds.length = 2 := by have hh := hA; rw [Try.params16] at hh; obtain ⟨_, _, d0, ds0, _, _, _, rfl, _, _, hh⟩ := trodAll_cons hh; obtain ⟨_, _, d1, ds1, _, _, _, rfl, _, _, hh⟩ := trodAll_cons hh; obtain ⟨_, rfl, _⟩ := trodAll_nil hh; simp
    obtain ⟨e0, e1, rfl⟩ : ∃ e0 e1, ds = [e0, e1] := by match ds, hlen with | [e0, e1], _ => exact ⟨e0, e1, rfl⟩
    exact law_post realRests_laid rfl hW' (by rw [Try.params16]; exact realRests_types) (tb := 4) (by kernel_rfl) Try.underlying4 rfl rfl rfl hb
  rw [Try.params16] at hA hval
  obtain ⟨v0, vs0, d0, ds0, p0, q0, hargs, rfl, rfl, h0, r0⟩ := trodAll_cons hA
  obtain ⟨v1, vs1, d1, ds1, p1, q1, rfl, rfl, rfl, h1, r1⟩ := trodAll_cons r0
  obtain ⟨rfl, rfl, rfl⟩ := trodAll_nil r1
  obtain rfl : args = #[v0, v1] := by cases args; simp_all
  obtain ⟨b, rfl, rfl, rfl, w0⟩ := open_int Try.underlying22 (hval 0 22 v0 rfl rfl) h0
  obtain ⟨c, rfl, rfl, rfl, w1⟩ := open_int Try.underlying22 (hval 1 22 v1 rfl rfl) h1
  obtain ⟨b, rfl, hb⟩ := wf_u64 w0
  obtain ⟨c, rfl, hc⟩ := wf_u64 w1
  refine (realRests_walk b c W hb hc).mono fun e W' ⟨he, hg⟩ => ?_
  subst he
  exact ⟨_, rfl, hpost _ hg⟩

theorem realRests_holds : Rows.RealRestsSaid :=
  OpenClaim.holds_of_wide 16 Try.f16 rfl rfl rfl rfl rfl rfl rfl ⟨rfl, rfl, rfl, rfl, rfl⟩ rfl rfl rfl rfl rfl (by kernel_rfl) Try.func16 (by kernel_rfl)
    (of_decide_eq_true (by kernel_rfl)) (by unfold Func.isWrapper; first | (rw [if_pos (by decide +kernel)]; kernel_rfl) | (rw [if_neg (by decide +kernel)]; exact ⟨rfl, rfl⟩))
    (fun os started H enc _ => realRests_lifted os started H enc)
#print axioms realRests_holds

end Go.Proofs.Ytpemchghaddgdaa
