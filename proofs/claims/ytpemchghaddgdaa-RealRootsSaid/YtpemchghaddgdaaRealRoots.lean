/- Every Sqrt, Modf and Power is what the document says: the law RealRoots returns true for every input. No condition. -/
import Derived.Test.YtpemchghaddgdaaRy
import Derived.Test.YtpemchghaddgdaaLaw
namespace Go.Proofs.Ytpemchghaddgdaa
open Go.RowKit Go.Pst Go.ChangeShapes Go.WideShapes Go.ChangeAt Go.Joins Go.Deep
set_option maxRecDepth 20000
set_option linter.unusedSimpArgs false
set_option linter.unusedVariables false
attribute [local go_sem] x64bits x64from

theorem is_cn {x b : Nat} (h : cn x = cn b) : isN x b = true := by
  have hn : nan64 x = nan64 b := by rw [← cn_nan x, h, cn_nan]
  unfold isN
  cases hb : nan64 b
  · rw [hb] at hn
    rw [cn_of x hn, cn_of b hb] at h
    simp [h]
  · rw [hb] at hn; simp [hn]

theorem sqV_lt (b : Nat) : sqV b < 2 ^ 64 := by
  unfold sqV arN
  cases h : sqD b with
  | some r => exact (sqD_some h).2
  | none => show NC < 2 ^ 64; decide

theorem trR_lt (b : Nat) (hb : b < 2 ^ 64) : trR b < 2 ^ 64 := by
  unfold trR
  (repeat' split)
  · exact hb
  · exact (wrd_lt _ _ (by omega)).1
  · exact (wrd_lt _ _ (rnd_lt63 _ _)).1


set_option maxHeartbeats 1000000 in
theorem realRoots_walk (b : Nat) (w : World) (hb : b < 2 ^ 64) :
    Calls Try.prog 15 #[.int .u64 b] w fun en w' => en = .returned (.bool true) ∧ Below w.heap.size w w' := by
  have HM := Lib.hid fun w => modf_any b w hb
  have HT := Lib.hid fun w => rtrunc_any b w hb
  have HP := Lib.hid fun w => power_any b w hb
  have HRP := Lib.hid fun w => rpower_any b w hb
  have HS := Lib.hid fun w => sqrt_any b w
  have HRS := Lib.hid fun w => rsqrt_any b w hb
  have IS := Lib.hid fun x v w (h : cn x = cn v) (hv : v < 2 ^ 64) => show Calls Try.prog 32 #[.float .f64 x, .int .u64 v] w fun en w' => en = .returned (.bool true) ∧ Below w.heap.size w w' by
    have := is_any x v w hv; rwa [is_cn h] at this
  have L1 := Lib.hid (sqV_lt b)
  have L2 := Lib.hid (trB_lt b hb)
  have L3 := Lib.hid (trR_lt b hb)
  clear hb
  generalize sqV b = s at *
  generalize trB b = t at *
  generalize trR b = r at *
  generalize powV b = n at *
  generalize powOk b = k at *
  go_enter Try.func15, Try.ntmps15
  go_wp2_with fail
  have O := Reg.Own.nil w
  have zz := O.rules
  have HO := Lib.hid O; clear O
  refine (awake_any _).mono ?_
  rintro en wn ⟨rfl, hbn⟩
  have O := HO.out.keep hbn
  clear HO zz
  have zz := O.rules
  have HO := Lib.hid O; clear O
  clear hbn
  go_wp2_with fail
  refine (HM.out _).mono ?_
  rintro en wn ⟨x, y, rfl, hx, hy, hbn⟩
  have HX := Lib.hid hx; have HY := Lib.hid hy; clear hx hy
  have O := HO.out.keep hbn
  clear HO zz
  have zz := O.rules
  have HO := Lib.hid O; clear O
  clear hbn
  go_wp2_with fail
  refine (HT.out _).mono ?_
  rintro en wn ⟨rfl, hbn⟩
  have O := HO.out.keep hbn
  clear HO zz
  have zz := O.rules
  have HO := Lib.hid O; clear O
  clear hbn
  go_wp2_with fail
  refine (HP.out _).mono ?_
  rintro en wn ⟨rfl, hbn⟩
  have O := HO.out.keep hbn
  clear HO zz
  have zz := O.rules
  have HO := Lib.hid O; clear O
  clear hbn
  go_wp2_with fail
  refine (HRP.out _).mono ?_
  rintro en wn ⟨rfl, hbn⟩
  have O := HO.out.keep hbn
  clear HO zz
  have zz := O.rules
  have HO := Lib.hid O; clear O
  clear hbn
  go_wp2_with fail
  refine (HS.out _).mono ?_
  rintro en wn ⟨u, rfl, hu, hbn⟩
  have HU := Lib.hid hu; clear hu
  have O := HO.out.keep hbn
  clear HO zz
  have zz := O.rules
  have HO := Lib.hid O; clear O
  clear hbn
  go_wp2_with fail
  refine (HRS.out _).mono ?_
  rintro en wn ⟨rfl, hbn⟩
  have O := HO.out.keep hbn
  clear HO zz
  have zz := O.rules
  have HO := Lib.hid O; clear O
  clear hbn
  go_wp2_with fail
  refine (IS.out u s _ HU.out L1.out).mono ?_
  rintro en wn ⟨rfl, hbn⟩
  have O := HO.out.keep hbn
  clear HO zz
  have zz := O.rules
  have HO := Lib.hid O; clear O
  clear hbn
  go_wp2_with fail
  refine (IS.out x t _ HX.out L2.out).mono ?_
  rintro en wn ⟨rfl, hbn⟩
  have O := HO.out.keep hbn
  clear HO zz
  have zz := O.rules
  have HO := Lib.hid O; clear O
  clear hbn
  go_wp2_with fail
  refine (IS.out y r _ HY.out L3.out).mono ?_
  rintro en wn ⟨rfl, hbn⟩
  have O := HO.out.keep hbn
  clear HO zz
  have zz := O.rules
  have HO := Lib.hid O; clear O
  clear hbn
  go_wp2_with fail
  go_ret
  exact ⟨by first | rfl | simp, HO.out.below⟩

theorem realRoots_own : ownKnob Try.prog.godebug = none := by kernel_rfl
theorem realRoots_laid : laidOutB Try.prog = true := by kernel_rfl
theorem realRoots_types : ∀ t ∈ ([22] : List TypeId), Try.prog.readableRec t = true ∧ t < Try.prog.types.size := by
  simp only [List.mem_cons, List.not_mem_nil, or_false, forall_eq_or_imp, forall_eq]
  exact ⟨by kernel_rfl, of_decide_eq_true (by kernel_rfl)⟩
set_option maxRecDepth 100000 in
theorem realRoots_lifted (os : Os) (started : os.Started) (H : Type) (enc : TypeId × Value → H) :
    ReturnsInHanded {} Try.checked os 15 .any (Rows.realRootsSpec.pre6 enc Try.prog Try.f15 Rows.realRootsRow.domain false) (Rows.realRootsSpec.post enc Try.prog Try.f15 false true false false) := by
  refine returnsInHanded_of_change (C := Try.checked) realRoots_own started (by kernel_rfl) Try.func15
    (ChangeSpec.witness6 (enc := enc) (C := Try.checked) false ⟨#[], #[.int .u64 0], []⟩ 8 (by kernel_rfl) (by kernel_rfl) (by kernel_rfl) (by kernel_rfl)) ?_
  intro W base args ds gs before hval0 hW hcnd hsz
  have hval : ∀ (j : Nat) t v, Try.f15.params[j]? = some t → args[j]? = some v → Value.okWide Try.prog W .any base t v := hval0
  have hW' := hW
  obtain ⟨p, q, hA0, hV, rfl, hfz, hnd⟩ := hW
  have hA : DataW.TrodAll enc Try.prog W 0 (fun _ => true) true Try.f15.params.toList args.toList ds p := hA0
  obtain ⟨rfl, rfl⟩ := trodVars_none hV
  have hpost : ∀ W', Below W.heap.size W W' → Rows.realRootsSpec.post enc Try.prog Try.f15 false true false false W args (.bool true) W' := fun W' hb => by
    have hlen : ds.length = 1 := by have hh := hA; rw [Try.params15] at hh; obtain ⟨_, _, d0, ds0, _, _, _, rfl, _, _, hh⟩ := trodAll_cons hh; obtain ⟨_, rfl, _⟩ := trodAll_nil hh; simp
    obtain ⟨e0, rfl⟩ : ∃ e0, ds = [e0] := by match ds, hlen with | [e0], _ => exact ⟨e0, rfl⟩
    exact law_post realRoots_laid rfl hW' (by rw [Try.params15]; exact realRoots_types) (tb := 4) (by kernel_rfl) Try.underlying4 rfl rfl rfl hb
  rw [Try.params15] at hA hval
  obtain ⟨v0, vs0, d0, ds0, p0, q0, hargs, rfl, rfl, h0, r0⟩ := trodAll_cons hA
  obtain ⟨rfl, rfl, rfl⟩ := trodAll_nil r0
  obtain rfl : args = #[v0] := by cases args; simp_all
  obtain ⟨b, rfl, rfl, rfl, w0⟩ := open_int Try.underlying22 (hval 0 22 v0 rfl rfl) h0
  obtain ⟨b, rfl, hb⟩ := wf_u64 w0
  refine (realRoots_walk b W hb).mono fun e W' ⟨he, hg⟩ => ?_
  subst he
  exact ⟨_, rfl, hpost _ hg⟩

theorem realRoots_holds : Rows.RealRootsSaid :=
  OpenClaim.holds_of_wide 15 Try.f15 rfl rfl rfl rfl rfl rfl rfl ⟨rfl, rfl, rfl, rfl, rfl⟩ rfl rfl rfl rfl rfl (by kernel_rfl) Try.func15 (by kernel_rfl)
    (of_decide_eq_true (by kernel_rfl)) (by unfold Func.isWrapper; first | (rw [if_pos (by decide +kernel)]; kernel_rfl) | (rw [if_neg (by decide +kernel)]; exact ⟨rfl, rfl⟩))
    (fun os started H enc _ => realRoots_lifted os started H enc)
#print axioms realRoots_holds

end Go.Proofs.Ytpemchghaddgdaa
