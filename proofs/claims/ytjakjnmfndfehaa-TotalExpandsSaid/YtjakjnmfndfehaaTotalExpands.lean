/- Expansions, grown and made; how exact sums stand: the law TotalExpands returns true for every input and leaves its lists as they were. No condition. -/
import Derived.Test.YtjakjnmfndfehaaUt
import Derived.Test.YtjakjnmfndfehaaOq
namespace Go.Proofs.Ytjakjnmfndfehaa
open Go.RowKit Go.Pst Go.ChangeShapes Go.WideShapes Go.ChangeAt Go.Joins Go.Deep
set_option maxRecDepth 20000
set_option linter.unusedSimpArgs false
set_option linter.unusedVariables false
theorem bits_like (xs ys : List Nat) (c d : Nat) (A B : Option Addr) (w : World) (hA : FlAt w w.heap.size A xs.length (atL xs)) (hB : FlAt w w.heap.size B ys.length (atL ys)) (hn : xs.length ≤ 1099511627776) (h : xs.map cn = ys.map cn) :
    Calls Try.prog 24 #[.slice A xs.length c, .slice B ys.length d] w fun en w' => en = .returned (.bool true) ∧ Below w.heap.size w w' := by
  have hl := map_len h
  rw [← hl] at hB ⊢
  exact bits_any xs.length c d A B (atL xs) (atL ys) w hA hB hn fun i _ => map_at h i
set_option maxHeartbeats 4000000 in
theorem totalExpands_walk (n c m d x : Nat) (A M : Option Addr) (f g : Nat → Nat) (w : World) (hN : n ≤ 17592186044416) (hM : m ≤ 17592186044416) (hA : FlAt w w.heap.size A n f) (hm : FlAt w w.heap.size M m g)
    (hf : ∀ j, j < n → f j < 2 ^ 64) (hg : ∀ j, j < m → g j < 2 ^ 64) :
    Calls Try.prog 11 #[.slice A n c, .slice M m d, .float .f64 x] w fun en w' => en = .returned (.bool true) ∧ Below w.heap.size w w' := by
  have AW := Lib.hid fun w => awake_any w
  by_cases hn : n ≤ 300 ∧ m ≤ 300
  · obtain ⟨n1, m1⟩ := hn
    have HA := Lib.hid hA; have HM := Lib.hid hm; have HF := Lib.hid hf; have HG := Lib.hid hg
    have hn1 : ¬ (n : Int) > 300 := by omega
    have hn2 : ¬ 300 < (n : Int) := by omega
    have hm1 : ¬ (m : Int) > 300 := by omega
    have hm2 : ¬ 300 < (m : Int) := by omega
    have n5 : Hid (n ≤ 65536) := Lib.hid (by omega)
    have m5 : Hid (m ≤ 65536) := Lib.hid (by omega)
    have HXL := Lib.hid (expV_len f n)
    have HGL := Lib.hid (growV_len f x n)
    obtain ⟨cv, hcv⟩ : ∃ v, v = cmpV f g n m := ⟨_, rfl⟩
    obtain ⟨cf, hcf⟩ : ∃ v, v = (finAll f n && finAll g m) := ⟨_, rfl⟩
    have HCV := Lib.hid hcv; have HCF := Lib.hid hcf
    have HSS := Lib.hid fun xs ys c d A B w hA hB hn h => bits_like xs ys c d A B w hA hB hn h
    clear hm hA hf hg hcv hcf
    go_enter Try.func11, Try.ntmps11
    go_wp2_with (at_builtin
                 refine wpList_twin w rfl _ _ rfl rfl rfl A n c f rfl HA.out hN ?_
                 intro TB tc w1 htc ft hb1
                 have FT := Lib.hid ft
                 have B1 := Lib.hid hb1
                 clear ft hb1)
    have T1 := Lib.hid (Below.refl w1.heap.size w1)
    have FA1 := Lib.hid ((HA.out.below B1.out (Nat.le_refl _)).more B1.out.size)
    have FM1 := Lib.hid ((HM.out.below B1.out (Nat.le_refl _)).more B1.out.size)
    refine (expand_any n c A f w1 FA1.out n5.out).mono ?_
    rintro en w2 ⟨B2, c2, xs, rfl, hxs, hf2, hb⟩
    have HX := Lib.hid hxs; have F2 := Lib.hid hf2
    have T2 := Lib.hid hb
    clear hxs hf2 hb T1
    go_wp2_with fail
    refine (grow_any n c x A f w2 ((FA1.out.below T2.out (Nat.le_refl _)).more T2.out.size) n5.out).mono ?_
    rintro en w3 ⟨B3, c3, ys, rfl, hys, -, hf3, hb⟩
    have HY := Lib.hid hys
    have F23 := Lib.hid ((F2.out.below hb (Nat.le_refl _)).more hb.size)
    have F3 := Lib.hid hf3
    have T3 := Lib.hid (T2.out.trans (hb.mono T2.out.size))
    have S3 := Lib.hid (Below.refl w3.heap.size w3)
    clear hys hf3 hb F2
    go_wp2_with fail
    refine (compare_any n c m d A M f g w3 ((FA1.out.below T3.out (Nat.le_refl _)).more T3.out.size) ((FM1.out.below T3.out (Nat.le_refl _)).more T3.out.size) n5.out m5.out HF.out HG.out).mono ?_
    rintro en w4 ⟨rfl, hb⟩
    have S4 := Lib.hid hb
    clear hb S3
    rw [← HCV.out, ← HCF.out]
    go_wp2_with fail
    have T4 := Lib.hid (T3.out.trans (S4.out.mono T3.out.size))
    refine (rcompare_any n tc m d TB M f g w4 ((FT.out.below T4.out (Nat.le_refl _)).more T4.out.size) ((FM1.out.below T4.out (Nat.le_refl _)).more T4.out.size) n5.out m5.out HF.out HG.out).mono ?_
    rintro en w5 ⟨rfl, hb⟩
    rw [← HCV.out, ← HCF.out]
    have S5 := Lib.hid (S4.out.trans (hb.mono S4.out.size))
    clear hb T4
    go_wp2_with fail
    refine (AW.out _).mono ?_
    rintro en w6 ⟨rfl, hb⟩
    have S6 := Lib.hid (S5.out.trans (hb.mono S5.out.size))
    clear hb
    go_wp2_with fail
    have T6 := Lib.hid (T3.out.trans (S6.out.mono T3.out.size))
    refine (rexpand_any n tc TB f w6 ((FT.out.below T6.out (Nat.le_refl _)).more T6.out.size) n5.out).mono ?_
    rintro en w7 ⟨B7, c7, zs, rfl, hzs, hf7, hb⟩
    have HZ := Lib.hid hzs; have F7 := Lib.hid hf7
    have S7 := Lib.hid (S6.out.trans (hb.mono S6.out.size))
    clear hzs hf7 hb
    go_wp2_with fail
    refine (HSS.out xs zs c2 c7 B2 B7 w7 ((F23.out.below S7.out (Nat.le_refl _)).more S7.out.size) F7.out (by have h1 := congrArg List.length HX.out; have h2 := HXL.out; simp at h1; omega) (HX.out.trans HZ.out.symm)).mono ?_
    rintro en w8 ⟨rfl, hb⟩
    have S8 := Lib.hid (S7.out.trans (hb.mono S7.out.size))
    clear hb
    go_wp2_with fail
    have T8 := Lib.hid (T3.out.trans (S8.out.mono T3.out.size))
    refine (rgrow_any n tc x TB f w8 ((FT.out.below T8.out (Nat.le_refl _)).more T8.out.size) n5.out).mono ?_
    rintro en w9 ⟨B9, c9, us, rfl, hus, -, hf9, hb⟩
    have HU := Lib.hid hus; have F9 := Lib.hid hf9
    have S9 := Lib.hid (S8.out.trans (hb.mono S8.out.size))
    clear hus hf9 hb
    go_wp2_with fail
    refine (HSS.out ys us c3 c9 B3 B9 w9 ((F3.out.below S9.out (Nat.le_refl _)).more S9.out.size) F9.out (by have h1 := congrArg List.length HY.out; have h2 := HGL.out; simp at h1; omega) (HY.out.trans HU.out.symm)).mono ?_
    rintro en wa ⟨rfl, hb⟩
    have S10 := Lib.hid (S9.out.trans (hb.mono S9.out.size))
    clear hb
    go_wp2_with fail
    have T10 := Lib.hid (T3.out.trans (S10.out.mono T3.out.size))
    refine (bits_any n c tc A TB f f wa ((FA1.out.below T10.out (Nat.le_refl _)).more T10.out.size) ((FT.out.below T10.out (Nat.le_refl _)).more T10.out.size) (by omega) (fun _ _ => rfl)).mono ?_
    rintro en wb ⟨rfl, hb⟩
    have BZ := Lib.hid (B1.out.trans ((T10.out.trans (hb.mono T10.out.size)).mono B1.out.size))
    clear hb
    go_wp2_with fail
    go_ret
    exact ⟨rfl, BZ.out⟩
  · clear hm hA hf hg
    by_cases n1 : 300 < n
    · have hn1 : (n : Int) > 300 := by omega
      have hn2 : 300 < (n : Int) := by omega
      clear hn
      go_enter Try.func11, Try.ntmps11
      go_wp2_with fail
      refine (AW.out _).mono ?_
      rintro en w2 ⟨rfl, hb2⟩
      have B2 := Lib.hid hb2
      clear hb2
      go_wp2_with fail
      go_ret
      exact ⟨rfl, B2.out⟩
    · have hn1 : ¬ (n : Int) > 300 := by omega
      have hn2 : ¬ 300 < (n : Int) := by omega
      have hm1 : (m : Int) > 300 := by omega
      have hm2 : 300 < (m : Int) := by omega
      clear hn
      go_enter Try.func11, Try.ntmps11
      go_wp2_with fail
      refine (AW.out _).mono ?_
      rintro en w2 ⟨rfl, hb2⟩
      have B2 := Lib.hid hb2
      clear hb2
      go_wp2_with fail
      go_ret
      exact ⟨rfl, B2.out⟩

theorem totalExpands_own : ownKnob Try.prog.godebug = none := by kernel_rfl
theorem totalExpands_laid : laidOutB Try.prog = true := by kernel_rfl
theorem totalExpands_types : ∀ t ∈ ([22, 22, 24] : List TypeId), Try.prog.readableRec t = true ∧ t < Try.prog.types.size := by
  simp only [List.mem_cons, List.not_mem_nil, or_false, forall_eq_or_imp, forall_eq]
  exact ⟨⟨by kernel_rfl, of_decide_eq_true (by kernel_rfl)⟩, ⟨by kernel_rfl, of_decide_eq_true (by kernel_rfl)⟩, ⟨by kernel_rfl, of_decide_eq_true (by kernel_rfl)⟩⟩
set_option maxRecDepth 100000 in
theorem totalExpands_lifted (os : Os) (started : os.Started) (H : Type) (enc : TypeId × Value → H) :
    ReturnsInHanded {} Try.checked os 11 .any (Rows.totalExpandsSpec.pre6 enc Try.prog Try.f11 Rows.totalExpandsRow.domain false) (Rows.totalExpandsSpec.post enc Try.prog Try.f11 false true false false) := by
  refine returnsInHanded_of_change_sized (C := Try.checked) totalExpands_own started (by kernel_rfl) Try.func11
    (ChangeSpec.witness6 (enc := enc) (C := Try.checked) false ⟨#[], #[.slice none 0 0, .slice none 0 0, .float .f64 0], []⟩ 8 (by kernel_rfl) (by kernel_rfl) (by kernel_rfl) (by kernel_rfl)) ?_
  intro W base args ds gs before hval0 hW hcnd hsz hholds
  have hval : ∀ (j : Nat) t v, Try.f11.params[j]? = some t → args[j]? = some v → Value.okWide Try.prog W .any base t v := hval0
  have hW' := hW
  obtain ⟨p, q, hA0, hV, rfl, hfz, hnd⟩ := hW
  have hA : DataW.TrodAll enc Try.prog W 0 (fun _ => true) true Try.f11.params.toList args.toList ds p := hA0
  obtain ⟨rfl, rfl⟩ := trodVars_none hV
  have hpost : ∀ W', Below W.heap.size W W' → Rows.totalExpandsSpec.post enc Try.prog Try.f11 false true false false W args (.bool true) W' := fun W' hb => by
    have hlen : ds.length = 3 := by have hh := hA; rw [Try.params11] at hh; obtain ⟨_, _, d0, ds0, _, _, _, rfl, _, _, hh⟩ := trodAll_cons hh; obtain ⟨_, _, d1, ds1, _, _, _, rfl, _, _, hh⟩ := trodAll_cons hh; obtain ⟨_, _, d2, ds2, _, _, _, rfl, _, _, hh⟩ := trodAll_cons hh; obtain ⟨_, rfl, _⟩ := trodAll_nil hh; simp
    obtain ⟨e0, e1, e2, rfl⟩ : ∃ e0 e1 e2, ds = [e0, e1, e2] := by match ds, hlen with | [e0, e1, e2], _ => exact ⟨e0, e1, e2, rfl⟩
    exact law_post totalExpands_laid rfl hW' (by rw [Try.params11]; exact totalExpands_types) (tb := 4) (by kernel_rfl) Try.underlying4 rfl rfl rfl hb
  rw [Try.params11] at hA hval
  obtain ⟨v0, vs0, d0, ds0, p0, q0, hargs, rfl, rfl, h0, r0⟩ := trodAll_cons hA
  obtain ⟨v1, vs1, d1, ds1, p1, q1, rfl, rfl, rfl, h1, r1⟩ := trodAll_cons r0
  obtain ⟨v2, vs2, d2, ds2, p2, q2, rfl, rfl, rfl, h2, r2⟩ := trodAll_cons r1
  obtain ⟨rfl, rfl, rfl⟩ := trodAll_nil r2
  obtain rfl : args = #[v0, v1, v2] := by cases args; simp_all
  obtain ⟨A, n, c, y, rfl, hsd, hAt, hy⟩ := open_floats Try.underlying22 Try.underlying24 (by kernel_rfl) (hval 0 22 v0 rfl rfl) h0
  obtain ⟨M, m, d, g, rfl, hsd1, hMt, hg⟩ := open_floats Try.underlying22 Try.underlying24 (by kernel_rfl) (hval 1 22 v1 rfl rfl) h1
  obtain ⟨x, rfl, rfl, rfl, w2⟩ := open_float Try.underlying24 (hval 2 24 v2 rfl rfl) h2
  have hlen := sized_list (j := 0) (t := 22) hsz (by kernel_rfl) rfl Try.underlying22 hsd
  rw [show Try.checked.prog.bytesOf 24 = 8 by kernel_rfl] at hlen
  have hlen1 := sized_list (j := 1) (t := 22) hsz (by kernel_rfl) rfl Try.underlying22 hsd1
  rw [show Try.checked.prog.bytesOf 24 = 8 by kernel_rfl] at hlen1
  have := reachBytes_lt
  refine (totalExpands_walk n c m d x A M y g W (by omega) (by omega) hAt hMt (fun j hj => f64_wf (hy j hj)) (fun j hj => f64_wf (hg j hj))).mono fun e W' ⟨he, hg⟩ => ?_
  subst he
  exact ⟨_, rfl, hpost _ hg⟩

theorem totalExpands_holds : Rows.TotalExpandsSaid :=
  OpenClaim.holds_of_wide 11 Try.f11 rfl rfl rfl rfl rfl rfl rfl ⟨rfl, rfl, rfl, rfl, rfl⟩ rfl rfl rfl rfl rfl (by kernel_rfl) Try.func11 (by kernel_rfl)
    (of_decide_eq_true (by kernel_rfl)) (by unfold Func.isWrapper; first | (rw [if_pos (by decide +kernel)]; kernel_rfl) | (rw [if_neg (by decide +kernel)]; exact ⟨rfl, rfl⟩))
    (fun os started H enc _ => totalExpands_lifted os started H enc)
#print axioms totalExpands_holds
end Go.Proofs.Ytjakjnmfndfehaa
