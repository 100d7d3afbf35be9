/- The exact sum and the mean: the law TotalExact returns true for every input and leaves its list as it was. No condition. -/
import Derived.Test.YtjakjnmfndfehaaTv
import Derived.Test.YtjakjnmfndfehaaOp
namespace Go.Proofs.Ytjakjnmfndfehaa
open Go.RowKit Go.Pst Go.ChangeShapes Go.WideShapes Go.ChangeAt Go.Joins Go.Deep
set_option maxRecDepth 20000
set_option linter.unusedSimpArgs false
set_option linter.unusedVariables false

set_option maxHeartbeats 4000000 in
theorem totalExact_walk (n c : Nat) (A : Option Addr) (f : Nat → Nat) (w : World) (hN : n ≤ 17592186044416) (hf : ∀ j, j < n → f j < 2 ^ 64) (hA : FlAt w w.heap.size A n f) :
    Calls Try.prog 5 #[.slice A n c] w fun en w' => en = .returned (.bool true) ∧ Below w.heap.size w w' := by
  have AW := Lib.hid fun w => awake_any w
  by_cases hn : n ≤ 65536
  · have hn1 : ¬ (n : Int) > 65536 := by omega
    have hn2 : ¬ 65536 < (n : Int) := by omega
    have HA := Lib.hid hA
    have HEX := Lib.hid fun w hA => exact_any n c A f w hA hn hf
    have HRX := Lib.hid fun w hA => rexact_any n c A f w hA hn hf
    have HSM := Lib.hid fun w => psame_any (exactV f n) (rexV f n) w (cn_rexV f n).symm
    have HRM := Lib.hid fun w hA => rmean_any n c A f w hA hn hf
    by_cases h0 : n = 0
    · subst h0
      have HM := Lib.hid fun w => mean_zero c A w
      clear hA hf hn HRM
      generalize exactV f 0 = v1 at *
      generalize rexV f 0 = v2 at *
      have h00 : feq .f64 0 0 = true := by decide
      go_enter Try.func5, Try.ntmps5
      go_wp2_with fail
      refine (HEX.out _ HA.out).mono ?_
      rintro en w2 ⟨rfl, hb2⟩
      have B2 := Lib.hid hb2
      clear hb2
      go_wp2_with fail
      refine (HM.out _).mono ?_
      rintro en w3 ⟨rfl, rfl⟩
      go_wp2_with fail
      refine (AW.out _).mono ?_
      rintro en w3 ⟨rfl, hb3⟩
      have B3 := Lib.hid (B2.out.trans (hb3.mono B2.out.size))
      clear hb3
      go_wp2_with fail
      refine (HRX.out _ ((HA.out.below B3.out (Nat.le_refl _)).more B3.out.size)).mono ?_
      rintro en w4 ⟨rfl, hb4⟩
      have B4 := Lib.hid (B3.out.trans (hb4.mono B3.out.size))
      clear hb4
      go_wp2_with fail
      refine (HSM.out _).mono ?_
      rintro en w5 ⟨rfl, rfl⟩
      go_wp2_with fail
      go_ret
      exact ⟨rfl, B4.out⟩
    · have HM := Lib.hid fun w hA => mean_any n c A f w hA hn h0 hf
      have hN0 : ((n : Int) == 0) = false := by simp; omega
      have hN1 : ¬ (n : Int) = 0 := by omega
      have HSS := Lib.hid fun a b w h => psame_any a b w h
      clear hA hf hn h0
      generalize exactV f n = v1 at *
      generalize rexV f n = v2 at *
      generalize arV .quo v1 (fl n) = v3 at *
      go_enter Try.func5, Try.ntmps5
      go_wp2_with fail
      refine (HEX.out _ HA.out).mono ?_
      rintro en w2 ⟨rfl, hb2⟩
      have B2 := Lib.hid hb2
      clear hb2
      go_wp2_with fail
      refine (HM.out _ ((HA.out.below B2.out (Nat.le_refl _)).more B2.out.size)).mono ?_
      rintro en w3 ⟨u, rfl, hu, hb3⟩
      have B3 := Lib.hid (B2.out.trans (hb3.mono B2.out.size))
      have HU := Lib.hid hu
      clear hb3 hu
      go_wp2_with fail
      refine (AW.out _).mono ?_
      rintro en w4 ⟨rfl, hb4⟩
      have B4 := Lib.hid (B3.out.trans (hb4.mono B3.out.size))
      clear hb4
      go_wp2_with fail
      refine (HRX.out _ ((HA.out.below B4.out (Nat.le_refl _)).more B4.out.size)).mono ?_
      rintro en w5 ⟨rfl, hb5⟩
      have B5 := Lib.hid (B4.out.trans (hb5.mono B4.out.size))
      clear hb5
      go_wp2_with fail
      refine (HSM.out _).mono ?_
      rintro en w6 ⟨rfl, rfl⟩
      go_wp2_with fail
      refine (HRM.out _ ((HA.out.below B5.out (Nat.le_refl _)).more B5.out.size)).mono ?_
      rintro en w7 ⟨u2, rfl, hu2, hb7⟩
      have B7 := Lib.hid (B5.out.trans (hb7.mono B5.out.size))
      have HU2 := Lib.hid (HU.out.trans hu2.symm)
      clear hb7 hu2
      go_wp2_with fail
      refine (HSS.out _ _ _ HU2.out).mono ?_
      rintro en w8 ⟨rfl, rfl⟩
      go_wp2_with fail
      go_ret
      exact ⟨rfl, B7.out⟩
  · have hn1 : (n : Int) > 65536 := by omega
    have hn2 : 65536 < (n : Int) := by omega
    clear hA hf hn
    go_enter Try.func5, Try.ntmps5
    go_wp2_with fail
    refine (AW.out _).mono ?_
    rintro en w2 ⟨rfl, hb2⟩
    have B2 := Lib.hid hb2
    clear hb2
    go_wp2_with fail
    go_ret
    exact ⟨rfl, B2.out⟩

theorem f64_wf {y : Nat} (h : (Lit.float .f64 y).wf = true) : y < 2 ^ 64 := by
  simpa [Lit.wf] using h

theorem totalExact_own : ownKnob Try.prog.godebug = none := by kernel_rfl
theorem totalExact_laid : laidOutB Try.prog = true := by kernel_rfl
theorem totalExact_types : ∀ t ∈ ([22] : List TypeId), Try.prog.readableRec t = true ∧ t < Try.prog.types.size := by
  simp only [List.mem_cons, List.not_mem_nil, or_false, forall_eq_or_imp, forall_eq]
  exact ⟨by kernel_rfl, of_decide_eq_true (by kernel_rfl)⟩
set_option maxRecDepth 100000 in
theorem totalExact_lifted (os : Os) (started : os.Started) (H : Type) (enc : TypeId × Value → H) :
    ReturnsInHanded {} Try.checked os 5 .any (Rows.totalExactSpec.pre6 enc Try.prog Try.f5 Rows.totalExactRow.domain false) (Rows.totalExactSpec.post enc Try.prog Try.f5 false true false false) := by
  refine returnsInHanded_of_change_sized (C := Try.checked) totalExact_own started (by kernel_rfl) Try.func5
    (ChangeSpec.witness6 (enc := enc) (C := Try.checked) false ⟨#[], #[.slice none 0 0], []⟩ 8 (by kernel_rfl) (by kernel_rfl) (by kernel_rfl) (by kernel_rfl)) ?_
  intro W base args ds gs before hval0 hW hcnd hsz hholds
  have hval : ∀ (j : Nat) t v, Try.f5.params[j]? = some t → args[j]? = some v → Value.okWide Try.prog W .any base t v := hval0
  have hW' := hW
  obtain ⟨p, q, hA0, hV, rfl, hfz, hnd⟩ := hW
  have hA : DataW.TrodAll enc Try.prog W 0 (fun _ => true) true Try.f5.params.toList args.toList ds p := hA0
  obtain ⟨rfl, rfl⟩ := trodVars_none hV
  have hpost : ∀ W', Below W.heap.size W W' → Rows.totalExactSpec.post enc Try.prog Try.f5 false true false false W args (.bool true) W' := fun W' hb => by
    have hlen : ds.length = 1 := by have hh := hA; rw [Try.params5] at hh; obtain ⟨_, _, d0, ds0, _, _, _, rfl, _, _, hh⟩ := trodAll_cons hh; obtain ⟨_, rfl, _⟩ := trodAll_nil hh; simp
    obtain ⟨e0, rfl⟩ : ∃ e0, ds = [e0] := by match ds, hlen with | [e0], _ => exact ⟨e0, rfl⟩
    exact law_post totalExact_laid rfl hW' (by rw [Try.params5]; exact totalExact_types) (tb := 4) (by kernel_rfl) Try.underlying4 rfl rfl rfl hb
  rw [Try.params5] at hA hval
  obtain ⟨v0, vs0, d0, ds0, p0, q0, hargs, rfl, rfl, h0, r0⟩ := trodAll_cons hA
  obtain ⟨rfl, rfl, rfl⟩ := trodAll_nil r0
  obtain rfl : args = #[v0] := by cases args; simp_all
  obtain ⟨A, n, c, y, rfl, hsd, hAt, hy⟩ := open_floats Try.underlying22 Try.underlying24 (by kernel_rfl) (hval 0 22 v0 rfl rfl) h0
  have hlen := sized_list (j := 0) (t := 22) hsz (by kernel_rfl) rfl Try.underlying22 hsd
  rw [show Try.checked.prog.bytesOf 24 = 8 by kernel_rfl] at hlen
  have := reachBytes_lt
  refine (totalExact_walk n c A y W (by omega) (fun j hj => f64_wf (hy j hj)) hAt).mono fun e W' ⟨he, hg⟩ => ?_
  subst he
  exact ⟨_, rfl, hpost _ hg⟩

theorem totalExact_holds : Rows.TotalExactSaid :=
  OpenClaim.holds_of_wide 5 Try.f5 rfl rfl rfl rfl rfl rfl rfl ⟨rfl, rfl, rfl, rfl, rfl⟩ rfl rfl rfl rfl rfl (by kernel_rfl) Try.func5 (by kernel_rfl)
    (of_decide_eq_true (by kernel_rfl)) (by unfold Func.isWrapper; first | (rw [if_pos (by decide +kernel)]; kernel_rfl) | (rw [if_neg (by decide +kernel)]; exact ⟨rfl, rfl⟩))
    (fun os started H enc _ => totalExact_lifted os started H enc)
#print axioms totalExact_holds

end Go.Proofs.Ytjakjnmfndfehaa
