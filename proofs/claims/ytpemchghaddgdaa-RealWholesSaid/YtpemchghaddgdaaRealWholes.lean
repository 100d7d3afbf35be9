/- Whole and Even are the document's: the law RealWholes returns true for every input. No condition. -/
import Derived.Test.YtpemchghaddgdaaWo
import Derived.Test.YtpemchghaddgdaaLaw
namespace Go.Proofs.Ytpemchghaddgdaa
open Go.RowKit Go.Pst Go.ChangeShapes Go.WideShapes Go.ChangeAt Go.Joins Go.Deep
set_option maxRecDepth 20000
set_option linter.unusedSimpArgs false
set_option linter.unusedVariables false
attribute [local go_sem] x64bits x64from x32bits x32from

theorem realWholes_walk (b : Nat) (w : World) (hb : b < 2 ^ 64) : Calls Try.prog 7 #[.int .u64 b] w fun en w' => en = .returned (.bool true) ∧ Below w.heap.size w w' := by
  have h1 := fun w => whole_any b w hb
  have h2 := fun w => rwhole_any b w hb
  have h3 := fun w => even_any b w hb
  have h4 := fun w => reven_any b w hb
  have hlt := evB_lt b hb
  have h5 := fun x w => is_any x (evB b) w hlt
  obtain ⟨r, hr⟩ : ∃ r, r = wholeB b := ⟨_, rfl⟩
  rw [← hr] at h1 h2
  obtain ⟨r1, r2⟩ := r
  generalize evB b = e at *
  have H1 := Lib.hid h1; have H2 := Lib.hid h2; have H3 := Lib.hid h3; have H4 := Lib.hid h4; have H5 := Lib.hid h5
  clear h1 h2 h3 h4 h5 hr
  go_enter Try.func7, Try.ntmps7
  go_wp2_with fail
  refine (awake_any _).mono ?_
  rintro en w2 ⟨rfl, hb2⟩
  have B2 := Lib.hid hb2; clear hb2
  go_wp2_with fail
  refine (H1.out _).mono ?_
  rintro en wn ⟨rfl, hbn⟩
  have B3 := Lib.hid (B2.out.trans (hbn.mono B2.out.size)); clear hbn B2
  go_wp2_with fail
  refine (H2.out _).mono ?_
  rintro en wn ⟨rfl, hbn⟩
  have B2 := Lib.hid (B3.out.trans (hbn.mono B3.out.size)); clear hbn B3
  go_wp2_with fail
  refine (H3.out _).mono ?_
  rintro en wn ⟨x, rfl, hx, hbn⟩
  have B3 := Lib.hid (B2.out.trans (hbn.mono B2.out.size)); clear hbn B2
  go_wp2_with fail
  refine (H4.out _).mono ?_
  rintro en wn ⟨rfl, hbn⟩
  have B2 := Lib.hid (B3.out.trans (hbn.mono B3.out.size)); clear hbn B3
  go_wp2_with fail
  refine (H5.out x _).mono ?_
  rintro en wn ⟨rfl, hbn⟩
  have B3 := Lib.hid (B2.out.trans (hbn.mono B2.out.size)); clear hbn B2
  rw [hx]
  go_wp2_with fail
  go_ret
  exact ⟨by simp, B3.out⟩

theorem realWholes_own : ownKnob Try.prog.godebug = none := by kernel_rfl
theorem realWholes_laid : laidOutB Try.prog = true := by kernel_rfl
theorem realWholes_types : ∀ t ∈ ([22] : List TypeId), Try.prog.readableRec t = true ∧ t < Try.prog.types.size := by
  simp only [List.mem_cons, List.not_mem_nil, or_false, forall_eq_or_imp, forall_eq]
  exact ⟨by kernel_rfl, of_decide_eq_true (by kernel_rfl)⟩
set_option maxRecDepth 100000 in
theorem realWholes_lifted (os : Os) (started : os.Started) (H : Type) (enc : TypeId × Value → H) :
    ReturnsInHanded {} Try.checked os 7 .any (Rows.realWholesSpec.pre6 enc Try.prog Try.f7 Rows.realWholesRow.domain false) (Rows.realWholesSpec.post enc Try.prog Try.f7 false true false false) := by
  refine returnsInHanded_of_change (C := Try.checked) realWholes_own started (by kernel_rfl) Try.func7
    (ChangeSpec.witness6 (enc := enc) (C := Try.checked) false ⟨#[], #[.int .u64 0], []⟩ 8 (by kernel_rfl) (by kernel_rfl) (by kernel_rfl) (by kernel_rfl)) ?_
  intro W base args ds gs before hval0 hW hcnd hsz
  have hval : ∀ (j : Nat) t v, Try.f7.params[j]? = some t → args[j]? = some v → Value.okWide Try.prog W .any base t v := hval0
  have hW' := hW
  obtain ⟨p, q, hA0, hV, rfl, hfz, hnd⟩ := hW
  have hA : DataW.TrodAll enc Try.prog W 0 (fun _ => true) true Try.f7.params.toList args.toList ds p := hA0
  obtain ⟨rfl, rfl⟩ := trodVars_none hV
  have hpost : ∀ W', Below W.heap.size W W' → Rows.realWholesSpec.post enc Try.prog Try.f7 false true false false W args (.bool true) W' := fun W' hb => by
    have hlen : ds.length = 1 := by have hh := hA; rw [Try.params7] at hh; obtain ⟨_, _, d0, ds0, _, _, _, rfl, _, _, hh⟩ := trodAll_cons hh; obtain ⟨_, rfl, _⟩ := trodAll_nil hh; simp
    obtain ⟨e0, rfl⟩ : ∃ e0, ds = [e0] := by match ds, hlen with | [e0], _ => exact ⟨e0, rfl⟩
    exact law_post realWholes_laid rfl hW' (by rw [Try.params7]; exact realWholes_types) (tb := 4) (by kernel_rfl) Try.underlying4 rfl rfl rfl hb
  rw [Try.params7] at hA hval
  obtain ⟨v0, vs0, d0, ds0, p0, q0, hargs, rfl, rfl, h0, r0⟩ := trodAll_cons hA
  obtain ⟨rfl, rfl, rfl⟩ := trodAll_nil r0
  obtain rfl : args = #[v0] := by cases args; simp_all
  obtain ⟨b, rfl, rfl, rfl, w0⟩ := open_int Try.underlying22 (hval 0 22 v0 rfl rfl) h0
  obtain ⟨b, rfl, hb⟩ := wf_u64 w0
  refine (realWholes_walk b W hb).mono fun e W' ⟨he, hg⟩ => ?_
  subst he
  exact ⟨_, rfl, hpost _ hg⟩

theorem realWholes_holds : Rows.RealWholesSaid :=
  OpenClaim.holds_of_wide 7 Try.f7 rfl rfl rfl rfl rfl rfl rfl ⟨rfl, rfl, rfl, rfl, rfl⟩ rfl rfl rfl rfl rfl (by kernel_rfl) Try.func7 (by kernel_rfl)
    (of_decide_eq_true (by kernel_rfl)) (by unfold Func.isWrapper; first | (rw [if_pos (by decide +kernel)]; kernel_rfl) | (rw [if_neg (by decide +kernel)]; exact ⟨rfl, rfl⟩))
    (fun os started H enc _ => realWholes_lifted os started H enc)
#print axioms realWholes_holds

end Go.Proofs.Ytpemchghaddgdaa
