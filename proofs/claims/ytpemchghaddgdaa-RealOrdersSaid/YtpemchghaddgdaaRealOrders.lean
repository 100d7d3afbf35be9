/- Every Order and Same is what the document says: the law RealOrders returns true for every input. No condition. -/
import Derived.Test.YtpemchghaddgdaaRh
namespace Go.Proofs.Ytpemchghaddgdaa
open Go.RowKit Go.Pst Go.ChangeShapes Go.WideShapes Go.ChangeAt Go.Joins Go.Deep
set_option maxRecDepth 20000
set_option maxHeartbeats 1600000
set_option linter.unusedSimpArgs false
set_option linter.unusedVariables false
attribute [local go_sem] x64bits x64from x32bits x32from


theorem realOrders_walk (a b : Nat) (w : World) (ha : a < 2 ^ 64) (hb : b < 2 ^ 64) :
    Calls Try.prog 6 #[.int .u64 a, .int .u64 b] w fun en w' => en = .returned (.bool true) ∧ Below w.heap.size w w' := by
  have H1 := Lib.hid fun w => rkey_any a w ha
  have H2 := Lib.hid fun w => rkey_any b w hb
  have h3 := fun w => order_any a b w ha hb
  have h4 := fun w => order_any b a w hb ha
  have h5 := fun w => same_any a b w
  have e1 := fne_self a
  have e2 := fne_self b
  have e3 : ((a : Int) == (b : Int)) = (a == b) := by rw [Bool.eq_iff_iff]; simp; omega
  unfold sameN at h5
  generalize (a == b) = q at *
  generalize nan64 a = n at *
  generalize nan64 b = m at *
  have H5 := Lib.hid h5; clear h5
  clear ha hb
  generalize keyT a = x at *
  generalize keyT b = y at *
  unfold cmpI at h3 h4
  have hx : x < y ∨ (¬ x < y ∧ y < x) ∨ (¬ x < y ∧ ¬ y < x) := by omega
  rcases hx with h | ⟨h, h'⟩ | ⟨h, h'⟩
  · have h' : ¬ y < x := by omega
    simp only [if_pos h, if_neg h'] at h3 h4
    cases n <;> cases m <;> cases q <;>
    ·
      have H3 := Lib.hid h3; have H4 := Lib.hid h4; clear h3 h4
      go_enter Try.func6, Try.ntmps6
      go_wp2_with fail
      refine (awake_any _).mono ?_
      rintro en w2 ⟨rfl, hb2⟩
      have O := (Reg.Own.nil w).keep hb2
      have zz := O.rules
      have HO := Lib.hid O; clear O
      clear hb2
      go_wp2_with (first | (go_at_call 38; (first | (with_reducible refine (H1.out _).mono ?_) | (with_reducible refine (H2.out _).mono ?_)); rintro en w' ⟨rfl, rfl⟩) | (go_at_call 39; (first | (with_reducible refine (H3.out _).mono ?_) | (with_reducible refine (H4.out _).mono ?_)); rintro en w' ⟨rfl, rfl⟩) | (go_at_call 40; refine (H5.out _).mono ?_; rintro en w' ⟨rfl, rfl⟩))
      all_goals (go_ret; exact ⟨by simp, HO.out.below⟩)
  · simp only [if_pos h', if_neg h] at h3 h4
    cases n <;> cases m <;> cases q <;>
    ·
      have H3 := Lib.hid h3; have H4 := Lib.hid h4; clear h3 h4
      go_enter Try.func6, Try.ntmps6
      go_wp2_with fail
      refine (awake_any _).mono ?_
      rintro en w2 ⟨rfl, hb2⟩
      have O := (Reg.Own.nil w).keep hb2
      have zz := O.rules
      have HO := Lib.hid O; clear O
      clear hb2
      go_wp2_with (first | (go_at_call 38; (first | (with_reducible refine (H1.out _).mono ?_) | (with_reducible refine (H2.out _).mono ?_)); rintro en w' ⟨rfl, rfl⟩) | (go_at_call 39; (first | (with_reducible refine (H3.out _).mono ?_) | (with_reducible refine (H4.out _).mono ?_)); rintro en w' ⟨rfl, rfl⟩) | (go_at_call 40; refine (H5.out _).mono ?_; rintro en w' ⟨rfl, rfl⟩))
      all_goals (go_ret; exact ⟨by simp, HO.out.below⟩)
  · simp only [if_neg h', if_neg h] at h3 h4
    cases n <;> cases m <;> cases q <;>
    ·
      have H3 := Lib.hid h3; have H4 := Lib.hid h4; clear h3 h4
      go_enter Try.func6, Try.ntmps6
      go_wp2_with fail
      refine (awake_any _).mono ?_
      rintro en w2 ⟨rfl, hb2⟩
      have O := (Reg.Own.nil w).keep hb2
      have zz := O.rules
      have HO := Lib.hid O; clear O
      clear hb2
      go_wp2_with (first | (go_at_call 38; (first | (with_reducible refine (H1.out _).mono ?_) | (with_reducible refine (H2.out _).mono ?_)); rintro en w' ⟨rfl, rfl⟩) | (go_at_call 39; (first | (with_reducible refine (H3.out _).mono ?_) | (with_reducible refine (H4.out _).mono ?_)); rintro en w' ⟨rfl, rfl⟩) | (go_at_call 40; refine (H5.out _).mono ?_; rintro en w' ⟨rfl, rfl⟩))
      all_goals (go_ret; exact ⟨by simp, HO.out.below⟩)

theorem realOrders_own : ownKnob Try.prog.godebug = none := by kernel_rfl
theorem realOrders_laid : laidOutB Try.prog = true := by kernel_rfl
theorem realOrders_types : ∀ t ∈ ([22, 22] : List TypeId), Try.prog.readableRec t = true ∧ t < Try.prog.types.size := by
  simp only [List.mem_cons, List.not_mem_nil, or_false, forall_eq_or_imp, forall_eq]
  exact ⟨⟨by kernel_rfl, of_decide_eq_true (by kernel_rfl)⟩, ⟨by kernel_rfl, of_decide_eq_true (by kernel_rfl)⟩⟩
set_option maxRecDepth 100000 in
theorem realOrders_lifted (os : Os) (started : os.Started) (H : Type) (enc : TypeId × Value → H) :
    ReturnsInHanded {} Try.checked os 6 .any (Rows.realOrdersSpec.pre6 enc Try.prog Try.f6 Rows.realOrdersRow.domain false) (Rows.realOrdersSpec.post enc Try.prog Try.f6 false true false false) := by
  refine returnsInHanded_of_change (C := Try.checked) realOrders_own started (by kernel_rfl) Try.func6
    (ChangeSpec.witness6 (enc := enc) (C := Try.checked) false ⟨#[], #[.int .u64 0, .int .u64 0], []⟩ 8 (by kernel_rfl) (by kernel_rfl) (by kernel_rfl) (by kernel_rfl)) ?_
  intro W base args ds gs before hval0 hW hcnd hsz
  have hval : ∀ (j : Nat) t v, Try.f6.params[j]? = some t → args[j]? = some v → Value.okWide Try.prog W .any base t v := hval0
  have hW' := hW
  obtain ⟨p, q, hA0, hV, rfl, hfz, hnd⟩ := hW
  have hA : DataW.TrodAll enc Try.prog W 0 (fun _ => true) true Try.f6.params.toList args.toList ds p := hA0
  obtain ⟨rfl, rfl⟩ := trodVars_none hV
  have hpost : ∀ W', Below W.heap.size W W' → Rows.realOrdersSpec.post enc Try.prog Try.f6 false true false false W args (.bool true) W' := fun W' hb => by
    have hlen : ds.length = 2 := by have hh := hA; rw [Try.params6] at hh; obtain ⟨_, _, d0, ds0, _, _, _, rfl, _, _, hh⟩ := trodAll_cons hh; obtain ⟨_, _, d1, ds1, _, _, _, rfl, _, _, hh⟩ := trodAll_cons hh; obtain ⟨_, rfl, _⟩ := trodAll_nil hh; simp
    obtain ⟨e0, e1, rfl⟩ : ∃ e0 e1, ds = [e0, e1] := by match ds, hlen with | [e0, e1], _ => exact ⟨e0, e1, rfl⟩
    exact law_post realOrders_laid rfl hW' (by rw [Try.params6]; exact realOrders_types) (tb := 4) (by kernel_rfl) Try.underlying4 rfl rfl rfl hb
  rw [Try.params6] at hA hval
  obtain ⟨v0, vs0, d0, ds0, p0, q0, hargs, rfl, rfl, h0, r0⟩ := trodAll_cons hA
  obtain ⟨v1, vs1, d1, ds1, p1, q1, rfl, rfl, rfl, h1, r1⟩ := trodAll_cons r0
  obtain ⟨rfl, rfl, rfl⟩ := trodAll_nil r1
  obtain rfl : args = #[v0, v1] := by cases args; simp_all
  obtain ⟨b, rfl, rfl, rfl, w0⟩ := open_int Try.underlying22 (hval 0 22 v0 rfl rfl) h0
  obtain ⟨c, rfl, rfl, rfl, w1⟩ := open_int Try.underlying22 (hval 1 22 v1 rfl rfl) h1
  obtain ⟨b, rfl, hb⟩ := wf_u64 w0
  obtain ⟨c, rfl, hc⟩ := wf_u64 w1
  refine (realOrders_walk b c W hb hc).mono fun e W' ⟨he, hg⟩ => ?_
  subst he
  exact ⟨_, rfl, hpost _ hg⟩

theorem realOrders_holds : Rows.RealOrdersSaid :=
  OpenClaim.holds_of_wide 6 Try.f6 rfl rfl rfl rfl rfl rfl rfl ⟨rfl, rfl, rfl, rfl, rfl⟩ rfl rfl rfl rfl rfl (by kernel_rfl) Try.func6 (by kernel_rfl)
    (of_decide_eq_true (by kernel_rfl)) (by unfold Func.isWrapper; first | (rw [if_pos (by decide +kernel)]; kernel_rfl) | (rw [if_neg (by decide +kernel)]; exact ⟨rfl, rfl⟩))
    (fun os started H enc _ => realOrders_lifted os started H enc)
#print axioms realOrders_holds

end Go.Proofs.Ytpemchghaddgdaa
