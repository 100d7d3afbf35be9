/- Sums of products, in order and exact; polynomials: the law TotalDots returns true for every input and leaves its lists as they were. No condition. -/
import Derived.Test.YtjakjnmfndfehaaUm
import Derived.Test.YtjakjnmfndfehaaOq
namespace Go.Pst
open Go Ieee Go.Proofs.Ytjakjnmfndfehaa
set_option linter.unusedVariables false
theorem cn_rexdotV (f g : Nat → Nat) (n : Nat) : cn (rexdotV f g n) = cn (exdotV f g n) := by
  unfold rexdotV
  cases h : dxN f g n || (dxP f g n && dxL f g n)
  · rw [if_neg Bool.false_ne_true]
  · rw [if_pos rfl]
    unfold exdotV exV
    rw [h, if_pos rfl]
    decide
end Go.Pst
namespace Go.Proofs.Ytjakjnmfndfehaa
open Go.RowKit Go.Pst Go.ChangeShapes Go.WideShapes Go.ChangeAt Go.Joins Go.Deep
set_option maxRecDepth 20000
set_option linter.unusedSimpArgs false
set_option linter.unusedVariables false
set_option maxHeartbeats 4000000 in
theorem totalDots_walk (n c m d x : Nat) (A M : Option Addr) (f g : Nat → Nat) (w : World) (hN : n ≤ 17592186044416) (hM : m ≤ 17592186044416) (hA : FlAt w w.heap.size A n f) (hm : FlAt w w.heap.size M m g)
    (hf : ∀ j, j < n → f j < 2 ^ 64) (hg : ∀ j, j < m → g j < 2 ^ 64) :
    Calls Try.prog 10 #[.slice A n c, .slice M m d, .float .f64 x] w fun en w' => en = .returned (.bool true) ∧ Below w.heap.size w w' := by
  have AW := Lib.hid fun w => awake_any w
  have h00 : feq .f64 0 0 = true := by decide
  by_cases hn : n ≤ 65536 ∧ m ≤ 65536
  · obtain ⟨n1, m1⟩ := hn
    have HA := Lib.hid hA; have HM := Lib.hid hm; have HF := Lib.hid hf; have HG := Lib.hid hg
    have HSS := Lib.hid fun a b w h => psame_any a b w h
    have hn1 : ¬ (n : Int) > 65536 := by omega
    have hn2 : ¬ 65536 < (n : Int) := by omega
    have hm1 : ¬ (m : Int) > 65536 := by omega
    have hm2 : ¬ 65536 < (m : Int) := by omega
    have T1 := Lib.hid (Below.refl w.heap.size w)
    clear hm hA hf hg
    by_cases hnm : n = m
    · subst hnm
      go_enter Try.func10, Try.ntmps10
      go_wp2_with fail
      refine (dot_any n c d A M f g w HA.out HM.out n1).mono ?_
      rintro en w2 ⟨p, rfl, hu, hb⟩
      have UP := Lib.hid hu
      have T2 := Lib.hid (T1.out.trans (hb.mono T1.out.size))
      clear hu hb
      go_wp2_with fail
      refine (exactdot_any n c d A M f g w2 ((HA.out.below T2.out (Nat.le_refl _)).more T2.out.size) ((HM.out.below T2.out (Nat.le_refl _)).more T2.out.size) n1 HF.out HG.out).mono ?_
      rintro en w3 ⟨rfl, hb⟩
      have T3 := Lib.hid (T2.out.trans (hb.mono T2.out.size))
      clear hb
      go_wp2_with fail
      refine (poly_any n c x A f w3 ((HA.out.below T3.out (Nat.le_refl _)).more T3.out.size) n1).mono ?_
      rintro en w4 ⟨r, rfl, hu, hb⟩
      have UR := Lib.hid hu
      have T4 := Lib.hid (T3.out.trans (hb.mono T3.out.size))
      clear hu hb
      go_wp2_with fail
      refine (AW.out w4).mono ?_
      rintro en w5 ⟨rfl, hb⟩
      have T5 := Lib.hid (T4.out.trans (hb.mono T4.out.size))
      clear hb
      go_wp2_with fail
      refine (rpoly_any n c x A f w5 ((HA.out.below T5.out (Nat.le_refl _)).more T5.out.size) n1).mono ?_
      rintro en w6 ⟨r2, rfl, hu, hb⟩
      have UR2 := Lib.hid hu
      have T6 := Lib.hid (T5.out.trans (hb.mono T5.out.size))
      clear hu hb
      go_wp2_with fail
      refine (HSS.out _ _ _ (UR.out.trans UR2.out.symm)).mono ?_
      rintro en w99 ⟨rfl, rfl⟩
      go_wp2_with fail
      refine (rdot_any n c d A M f g w6 ((HA.out.below T6.out (Nat.le_refl _)).more T6.out.size) ((HM.out.below T6.out (Nat.le_refl _)).more T6.out.size) n1).mono ?_
      rintro en w7 ⟨p2, rfl, hu, hb⟩
      have UP2 := Lib.hid hu
      have T7 := Lib.hid (T6.out.trans (hb.mono T6.out.size))
      clear hu hb
      go_wp2_with fail
      refine (HSS.out _ _ _ (UP.out.trans UP2.out.symm)).mono ?_
      rintro en w99 ⟨rfl, rfl⟩
      go_wp2_with fail
      refine (rexactdot_any n c d A M f g w7 ((HA.out.below T7.out (Nat.le_refl _)).more T7.out.size) ((HM.out.below T7.out (Nat.le_refl _)).more T7.out.size) n1 HF.out HG.out).mono ?_
      rintro en w8 ⟨rfl, hb⟩
      have T8 := Lib.hid (T7.out.trans (hb.mono T7.out.size))
      clear hb
      go_wp2_with fail
      refine (HSS.out _ _ _ (cn_rexdotV f g n).symm).mono ?_
      rintro en w99 ⟨rfl, rfl⟩
      go_wp2_with fail
      go_ret
      exact ⟨rfl, T8.out⟩
    · have h2 : ((n : Int) == (m : Int)) = false := by simp; omega
      have h3 : ((n : Int) != (m : Int)) = true := by simp; omega
      have h4 : ¬ (n : Int) = (m : Int) := by omega
      have HNM := Lib.hid hnm
      clear hnm
      go_enter Try.func10, Try.ntmps10
      go_wp2_with fail
      refine (dot_pairs n c m d A M w n1 m1 HNM.out).mono ?_
      rintro en w99 ⟨rfl, rfl⟩
      go_wp2_with fail
      refine (exactdot_pairs n c m d A M w n1 m1 HNM.out).mono ?_
      rintro en w99 ⟨rfl, rfl⟩
      go_wp2_with fail
      refine (poly_any n c x A f w HA.out n1).mono ?_
      rintro en w4 ⟨r, rfl, hu, hb⟩
      have UR := Lib.hid hu
      have T4 := Lib.hid (T1.out.trans (hb.mono T1.out.size))
      clear hu hb
      go_wp2_with fail
      refine (AW.out w4).mono ?_
      rintro en w5 ⟨rfl, hb⟩
      have T5 := Lib.hid (T4.out.trans (hb.mono T4.out.size))
      clear hb
      go_wp2_with fail
      refine (rpoly_any n c x A f w5 ((HA.out.below T5.out (Nat.le_refl _)).more T5.out.size) n1).mono ?_
      rintro en w6 ⟨r2, rfl, hu, hb⟩
      have UR2 := Lib.hid hu
      have T6 := Lib.hid (T5.out.trans (hb.mono T5.out.size))
      clear hu hb
      go_wp2_with fail
      refine (HSS.out _ _ _ (UR.out.trans UR2.out.symm)).mono ?_
      rintro en w99 ⟨rfl, rfl⟩
      go_wp2_with fail
      go_ret
      exact ⟨rfl, T6.out⟩
  · clear hm hA hf hg
    by_cases n1 : 65536 < n
    · have hn1 : (n : Int) > 65536 := by omega
      have hn2 : 65536 < (n : Int) := by omega
      clear hn
      go_enter Try.func10, Try.ntmps10
      go_wp2_with fail
      refine (AW.out _).mono ?_
      rintro en w2 ⟨rfl, hb2⟩
      have B2 := Lib.hid hb2
      clear hb2
      go_wp2_with fail
      go_ret
      exact ⟨rfl, B2.out⟩
    · have hn1 : ¬ (n : Int) > 65536 := by omega
      have hn2 : ¬ 65536 < (n : Int) := by omega
      have hm1 : (m : Int) > 65536 := by omega
      have hm2 : 65536 < (m : Int) := by omega
      clear hn
      go_enter Try.func10, Try.ntmps10
      go_wp2_with fail
      refine (AW.out _).mono ?_
      rintro en w2 ⟨rfl, hb2⟩
      have B2 := Lib.hid hb2
      clear hb2
      go_wp2_with fail
      go_ret
      exact ⟨rfl, B2.out⟩

theorem totalDots_own : ownKnob Try.prog.godebug = none := by kernel_rfl
theorem totalDots_laid : laidOutB Try.prog = true := by kernel_rfl
theorem totalDots_types : ∀ t ∈ ([22, 22, 24] : List TypeId), Try.prog.readableRec t = true ∧ t < Try.prog.types.size := by
  simp only [List.mem_cons, List.not_mem_nil, or_false, forall_eq_or_imp, forall_eq]
  exact ⟨⟨by kernel_rfl, of_decide_eq_true (by kernel_rfl)⟩, ⟨by kernel_rfl, of_decide_eq_true (by kernel_rfl)⟩, ⟨by kernel_rfl, of_decide_eq_true (by kernel_rfl)⟩⟩
set_option maxRecDepth 100000 in
theorem totalDots_lifted (os : Os) (started : os.Started) (H : Type) (enc : TypeId × Value → H) :
    ReturnsInHanded {} Try.checked os 10 .any (Rows.totalDotsSpec.pre6 enc Try.prog Try.f10 Rows.totalDotsRow.domain false) (Rows.totalDotsSpec.post enc Try.prog Try.f10 false true false false) := by
  refine returnsInHanded_of_change_sized (C := Try.checked) totalDots_own started (by kernel_rfl) Try.func10
    (ChangeSpec.witness6 (enc := enc) (C := Try.checked) false ⟨#[], #[.slice none 0 0, .slice none 0 0, .float .f64 0], []⟩ 8 (by kernel_rfl) (by kernel_rfl) (by kernel_rfl) (by kernel_rfl)) ?_
  intro W base args ds gs before hval0 hW hcnd hsz hholds
  have hval : ∀ (j : Nat) t v, Try.f10.params[j]? = some t → args[j]? = some v → Value.okWide Try.prog W .any base t v := hval0
  have hW' := hW
  obtain ⟨p, q, hA0, hV, rfl, hfz, hnd⟩ := hW
  have hA : DataW.TrodAll enc Try.prog W 0 (fun _ => true) true Try.f10.params.toList args.toList ds p := hA0
  obtain ⟨rfl, rfl⟩ := trodVars_none hV
  have hpost : ∀ W', Below W.heap.size W W' → Rows.totalDotsSpec.post enc Try.prog Try.f10 false true false false W args (.bool true) W' := fun W' hb => by
    have hlen : ds.length = 3 := by have hh := hA; rw [Try.params10] at hh; obtain ⟨_, _, d0, ds0, _, _, _, rfl, _, _, hh⟩ := trodAll_cons hh; obtain ⟨_, _, d1, ds1, _, _, _, rfl, _, _, hh⟩ := trodAll_cons hh; obtain ⟨_, _, d2, ds2, _, _, _, rfl, _, _, hh⟩ := trodAll_cons hh; obtain ⟨_, rfl, _⟩ := trodAll_nil hh; simp
    obtain ⟨e0, e1, e2, rfl⟩ : ∃ e0 e1 e2, ds = [e0, e1, e2] := by match ds, hlen with | [e0, e1, e2], _ => exact ⟨e0, e1, e2, rfl⟩
    exact law_post totalDots_laid rfl hW' (by rw [Try.params10]; exact totalDots_types) (tb := 4) (by kernel_rfl) Try.underlying4 rfl rfl rfl hb
  rw [Try.params10] at hA hval
  obtain ⟨v0, vs0, d0, ds0, p0, q0, hargs, rfl, rfl, h0, r0⟩ := trodAll_cons hA
  obtain ⟨v1, vs1, d1, ds1, p1, q1, rfl, rfl, rfl, h1, r1⟩ := trodAll_cons r0
  obtain ⟨v2, vs2, d2, ds2, p2, q2, rfl, rfl, rfl, h2, r2⟩ := trodAll_cons r1
  obtain ⟨rfl, rfl, rfl⟩ := trodAll_nil r2
  obtain rfl : args = #[v0, v1, v2] := by cases args; simp_all
  obtain ⟨A, n, c, y, rfl, hsd, hAt, hy⟩ := open_floats Try.underlying22 Try.underlying24 (by kernel_rfl) (hval 0 22 v0 rfl rfl) h0
  obtain ⟨M, m, d, g, rfl, hsd1, hMt, hg⟩ := open_floats Try.underlying22 Try.underlying24 (by kernel_rfl) (hval 1 22 v1 rfl rfl) h1
  obtain ⟨x, rfl, rfl, rfl, w2⟩ := open_float Try.underlying24 (hval 2 24 v2 rfl rfl) h2
  have hlen := sized_list (j := 0) (t := 22) hsz (by kernel_rfl) rfl Try.underlying22 hsd
  rw [show Try.checked.prog.bytesOf 24 = 8 by kernel_rfl] at hlen
  have hlen1 := sized_list (j := 1) (t := 22) hsz (by kernel_rfl) rfl Try.underlying22 hsd1
  rw [show Try.checked.prog.bytesOf 24 = 8 by kernel_rfl] at hlen1
  have := reachBytes_lt
  refine (totalDots_walk n c m d x A M y g W (by omega) (by omega) hAt hMt (fun j hj => f64_wf (hy j hj)) (fun j hj => f64_wf (hg j hj))).mono fun e W' ⟨he, hg⟩ => ?_
  subst he
  exact ⟨_, rfl, hpost _ hg⟩

theorem totalDots_holds : Rows.TotalDotsSaid :=
  OpenClaim.holds_of_wide 10 Try.f10 rfl rfl rfl rfl rfl rfl rfl ⟨rfl, rfl, rfl, rfl, rfl⟩ rfl rfl rfl rfl rfl (by kernel_rfl) Try.func10 (by kernel_rfl)
    (of_decide_eq_true (by kernel_rfl)) (by unfold Func.isWrapper; first | (rw [if_pos (by decide +kernel)]; kernel_rfl) | (rw [if_neg (by decide +kernel)]; exact ⟨rfl, rfl⟩))
    (fun os started H enc _ => totalDots_lifted os started H enc)
#print axioms totalDots_holds
end Go.Proofs.Ytjakjnmfndfehaa
