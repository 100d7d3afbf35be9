/- Variance, norms, the sum by sizes: the law TotalSpreads returns true for every input and leaves its list as it was. No condition. -/
import Derived.Test.YtjakjnmfndfehaaZd
import Derived.Test.YtjakjnmfndfehaaOq
namespace Go.Pst
open Go Go.RowKit Go.ChangeShapes Go.WideShapes Go.ChangeAt Go.Joins Go.Deep
section
variable {H : Type} {enc : TypeId × Value → H} {P : Program} {w : World} {spare : Nat → Bool} {held : Bool}
theorem nil_len {t e : TypeId} {A : Option Addr} {n c : Nat} {d : DataW H} {p : List MemPlace} (ht : P.underlying t = some (.slice e)) (h : DataW.Trod enc P w 0 spare held t (.slice A n c) d p) (hA : A = none) : n = 0 ∧ c = 0 := by
  obtain ⟨fuel, hf0⟩ := h
  have hf : DataW.trod enc P w 0 spare held fuel t [.slice A n c] = some (d, p) := hf0
  rcases open_slice ht hf with ⟨h1, _⟩ | ⟨a, len, cap, m, k, D, Pl, h1, _, hl, _⟩
  · simp only [List.cons.injEq, and_true, Value.slice.injEq] at h1; exact ⟨h1.2.1, h1.2.2⟩
  · simp only [List.cons.injEq, and_true, Value.slice.injEq] at h1
    rw [hA] at h1
    cases h1.1
end
end Go.Pst
namespace Go.Proofs.Ytjakjnmfndfehaa
open Go.RowKit Go.Pst Go.ChangeShapes Go.WideShapes Go.ChangeAt Go.Joins Go.Deep
set_option maxRecDepth 20000
set_option linter.unusedSimpArgs false
set_option linter.unusedVariables false
theorem keS_congr {f g : Nat → Nat} : ∀ n, (∀ i, i < n → f i = g i) → keS f n = keS g n
  | 0, _ => rfl
  | n + 1, h => by unfold keS; rw [keS_congr n fun i hi => h i (by omega), h n (by omega)]
theorem variance_nil (n c : Nat) (A : Option Addr) (w : World) (h0 : n = 0) :
    Calls Try.prog 16 #[.slice A n c] w fun en w' => en = .returned (.tuple #[.float .f64 0, .int .i64 1]) ∧ w = w' := by
  subst h0
  exact variance_zero c A w
set_option maxHeartbeats 4000000 in
theorem totalSpreads_walk (n c : Nat) (A : Option Addr) (f : Nat → Nat) (w : World) (hN : n ≤ 17592186044416) (hnil : A = none → n = 0 ∧ c = 0) (hA : FlAt w w.heap.size A n f) (hf : ∀ j, j < n → f j < 2 ^ 64) :
    Calls Try.prog 3 #[.slice A n c] w fun en w' => en = .returned (.bool true) ∧ Below w.heap.size w w' := by
  have AW := Lib.hid fun w => awake_any w
  have HA := Lib.hid hA; have HF := Lib.hid hf; have HNC := Lib.hid hnil
  have HSS := Lib.hid fun a b w h => psame_any a b w h
  clear hA hf hnil
  by_cases n1 : n ≤ 65536
  · have hn1 : ¬ (n : Int) > 65536 := by omega
    have hn2 : ¬ 65536 < (n : Int) := by omega
    by_cases h0 : n = 0
    · have h00 : ((n : Int) == 0) = true := by simp; omega
      have H0 := Lib.hid h0
      have fz : feq .f64 0 0 = true := by decide
      clear h0
      go_enter Try.func3, Try.ntmps3
      go_wp2_with (at_builtin
                   refine wpList_twin w rfl _ _ rfl rfl rfl A n c f rfl HA.out hN ?_
                   intro TB tc w1 htc ft hb1
                   have FT := Lib.hid ft
                   have B1 := Lib.hid hb1
                   clear ft hb1)
      have T1 := Lib.hid (Below.refl w1.heap.size w1)
      have FA1 := Lib.hid ((HA.out.below B1.out (Nat.le_refl _)).more B1.out.size)
      refine (variance_nil n c A w1 H0.out).mono ?_
      rintro en w2 ⟨rfl, hww⟩
      have T2 : Hid (Below w1.heap.size w1 w2) := Lib.hid (by rw [← hww]; exact Below.refl _ _)
      clear hww
      go_wp2_with fail
      refine (norm_any n c A f w2 ((FA1.out.below T2.out (Nat.le_refl _)).more T2.out.size) n1 HF.out).mono ?_
      rintro en w3 ⟨b, rfl, hu, hb⟩
      have UB := Lib.hid hu
      have T3 := Lib.hid (T2.out.trans (hb.mono T2.out.size))
      clear hu hb
      go_wp2_with fail
      refine (manhattan_any n c A f w3 ((FA1.out.below T3.out (Nat.le_refl _)).more T3.out.size) n1 HF.out).mono ?_
      rintro en w4 ⟨d, rfl, hu, hb⟩
      have UD := Lib.hid hu
      have T4 := Lib.hid (T3.out.trans (hb.mono T3.out.size))
      clear hu hb
      go_wp2_with fail
      refine (bysizeP_any n c A f w4 ((FA1.out.below T4.out (Nat.le_refl _)).more T4.out.size) n1 HNC.out HF.out).mono ?_
      rintro en w5 ⟨s, hp, hs, e, rfl, hu, hb⟩
      have UE := Lib.hid hu
      have PUE := Lib.hid hp
      have SUE := Lib.hid hs
      have T5 := Lib.hid (T4.out.trans (hb.mono T4.out.size))
      clear hu hb hp hs
      go_wp2_with fail
      refine (AW.out _).mono ?_
      rintro en w6 ⟨rfl, hb⟩
      have T6 := Lib.hid (T5.out.trans (hb.mono T5.out.size))
      clear hb
      go_wp2_with fail
      refine (rnorm_any n tc TB f w6 ((FT.out.below T6.out (Nat.le_refl _)).more T6.out.size) n1 HF.out).mono ?_
      rintro en w7 ⟨b2, rfl, hu, hb⟩
      have UB2 := Lib.hid hu
      have T7 := Lib.hid (T6.out.trans (hb.mono T6.out.size))
      clear hu hb
      go_wp2_with fail
      refine (HSS.out _ _ _ (UB.out.trans UB2.out.symm)).mono ?_
      rintro en w99 ⟨rfl, rfl⟩
      go_wp2_with fail
      refine (rmanhattan_any n tc TB f w7 ((FT.out.below T7.out (Nat.le_refl _)).more T7.out.size) n1 HF.out).mono ?_
      rintro en w8 ⟨d2, rfl, hu, hb⟩
      have UD2 := Lib.hid hu
      have T8 := Lib.hid (T7.out.trans (hb.mono T7.out.size))
      clear hu hb
      go_wp2_with fail
      refine (HSS.out _ _ _ (UD.out.trans UD2.out.symm)).mono ?_
      rintro en w99 ⟨rfl, rfl⟩
      go_wp2_with fail
      refine (rbysize_any n tc TB f w8 ((FT.out.below T8.out (Nat.le_refl _)).more T8.out.size) n1 HF.out).mono ?_
      rintro en w9 ⟨s2, hp, hs, e2, rfl, hu, hb⟩
      have UE2 := Lib.hid hu
      have PUE2 := Lib.hid hp
      have SUE2 := Lib.hid hs
      have T9 := Lib.hid (T8.out.trans (hb.mono T8.out.size))
      clear hu hb hp hs
      go_wp2_with fail
      have EQS : Hid (keS (fun i => fcut f n (s i)) n = keS (fun i => fcut f n (s2 i)) n) := Lib.hid (keS_congr n fun i hi => by rw [srt_only PUE.out PUE2.out SUE.out SUE2.out i hi])
      refine (HSS.out _ _ _ (UE.out.trans (by rw [EQS.out]; exact UE2.out.symm))).mono ?_
      rintro en w99 ⟨rfl, rfl⟩
      go_wp2_with fail
      refine (bits_any n c tc A TB f f w9 ((FA1.out.below T9.out (Nat.le_refl _)).more T9.out.size) ((FT.out.below T9.out (Nat.le_refl _)).more T9.out.size) (by omega) (fun _ _ => rfl)).mono ?_
      rintro en w10 ⟨rfl, hb⟩
      have T10 := Lib.hid (T9.out.trans (hb.mono T9.out.size))
      clear hb
      go_wp2_with fail
      go_ret
      exact ⟨rfl, B1.out.trans (T10.out.mono B1.out.size)⟩
    · have h00 : ((n : Int) == 0) = false := by simp; omega
      have h01 : ¬ (n : Int) = 0 := by omega
      go_enter Try.func3, Try.ntmps3
      go_wp2_with (at_builtin
                   refine wpList_twin w rfl _ _ rfl rfl rfl A n c f rfl HA.out hN ?_
                   intro TB tc w1 htc ft hb1
                   have FT := Lib.hid ft
                   have B1 := Lib.hid hb1
                   clear ft hb1)
      have T1 := Lib.hid (Below.refl w1.heap.size w1)
      have FA1 := Lib.hid ((HA.out.below B1.out (Nat.le_refl _)).more B1.out.size)
      refine (variance_any n c A f w1 FA1.out n1 h0 HF.out).mono ?_
      rintro en w2 ⟨a, rfl, hu, hb⟩
      have UA := Lib.hid hu
      have T2 := Lib.hid (T1.out.trans (hb.mono T1.out.size))
      clear hu hb
      go_wp2_with fail
      refine (norm_any n c A f w2 ((FA1.out.below T2.out (Nat.le_refl _)).more T2.out.size) n1 HF.out).mono ?_
      rintro en w3 ⟨b, rfl, hu, hb⟩
      have UB := Lib.hid hu
      have T3 := Lib.hid (T2.out.trans (hb.mono T2.out.size))
      clear hu hb
      go_wp2_with fail
      refine (manhattan_any n c A f w3 ((FA1.out.below T3.out (Nat.le_refl _)).more T3.out.size) n1 HF.out).mono ?_
      rintro en w4 ⟨d, rfl, hu, hb⟩
      have UD := Lib.hid hu
      have T4 := Lib.hid (T3.out.trans (hb.mono T3.out.size))
      clear hu hb
      go_wp2_with fail
      refine (bysizeP_any n c A f w4 ((FA1.out.below T4.out (Nat.le_refl _)).more T4.out.size) n1 HNC.out HF.out).mono ?_
      rintro en w5 ⟨s, hp, hs, e, rfl, hu, hb⟩
      have UE := Lib.hid hu
      have PUE := Lib.hid hp
      have SUE := Lib.hid hs
      have T5 := Lib.hid (T4.out.trans (hb.mono T4.out.size))
      clear hu hb hp hs
      go_wp2_with fail
      refine (AW.out _).mono ?_
      rintro en w6 ⟨rfl, hb⟩
      have T6 := Lib.hid (T5.out.trans (hb.mono T5.out.size))
      clear hb
      go_wp2_with fail
      refine (rnorm_any n tc TB f w6 ((FT.out.below T6.out (Nat.le_refl _)).more T6.out.size) n1 HF.out).mono ?_
      rintro en w7 ⟨b2, rfl, hu, hb⟩
      have UB2 := Lib.hid hu
      have T7 := Lib.hid (T6.out.trans (hb.mono T6.out.size))
      clear hu hb
      go_wp2_with fail
      refine (HSS.out _ _ _ (UB.out.trans UB2.out.symm)).mono ?_
      rintro en w99 ⟨rfl, rfl⟩
      go_wp2_with fail
      refine (rmanhattan_any n tc TB f w7 ((FT.out.below T7.out (Nat.le_refl _)).more T7.out.size) n1 HF.out).mono ?_
      rintro en w8 ⟨d2, rfl, hu, hb⟩
      have UD2 := Lib.hid hu
      have T8 := Lib.hid (T7.out.trans (hb.mono T7.out.size))
      clear hu hb
      go_wp2_with fail
      refine (HSS.out _ _ _ (UD.out.trans UD2.out.symm)).mono ?_
      rintro en w99 ⟨rfl, rfl⟩
      go_wp2_with fail
      refine (rbysize_any n tc TB f w8 ((FT.out.below T8.out (Nat.le_refl _)).more T8.out.size) n1 HF.out).mono ?_
      rintro en w9 ⟨s2, hp, hs, e2, rfl, hu, hb⟩
      have UE2 := Lib.hid hu
      have PUE2 := Lib.hid hp
      have SUE2 := Lib.hid hs
      have T9 := Lib.hid (T8.out.trans (hb.mono T8.out.size))
      clear hu hb hp hs
      go_wp2_with fail
      have EQS : Hid (keS (fun i => fcut f n (s i)) n = keS (fun i => fcut f n (s2 i)) n) := Lib.hid (keS_congr n fun i hi => by rw [srt_only PUE.out PUE2.out SUE.out SUE2.out i hi])
      refine (HSS.out _ _ _ (UE.out.trans (by rw [EQS.out]; exact UE2.out.symm))).mono ?_
      rintro en w99 ⟨rfl, rfl⟩
      go_wp2_with fail
      refine (bits_any n c tc A TB f f w9 ((FA1.out.below T9.out (Nat.le_refl _)).more T9.out.size) ((FT.out.below T9.out (Nat.le_refl _)).more T9.out.size) (by omega) (fun _ _ => rfl)).mono ?_
      rintro en w10 ⟨rfl, hb⟩
      have T10 := Lib.hid (T9.out.trans (hb.mono T9.out.size))
      clear hb
      go_wp2_with fail
      refine (rvariance_any n tc TB f w10 ((FT.out.below T10.out (Nat.le_refl _)).more T10.out.size) n1 HF.out).mono ?_
      rintro en w11 ⟨a2, rfl, hu, hb⟩
      have UA2 := Lib.hid hu
      have T11 := Lib.hid (T10.out.trans (hb.mono T10.out.size))
      clear hu hb
      go_wp2_with fail
      refine (HSS.out _ _ _ (UA.out.trans UA2.out.symm)).mono ?_
      rintro en w99 ⟨rfl, rfl⟩
      go_wp2_with fail
      go_ret
      exact ⟨rfl, B1.out.trans (T11.out.mono B1.out.size)⟩
  · have hn1 : (n : Int) > 65536 := by omega
    have hn2 : 65536 < (n : Int) := by omega
    go_enter Try.func3, Try.ntmps3
    go_wp2_with fail
    refine (AW.out _).mono ?_
    rintro en w2 ⟨rfl, hb2⟩
    have B2 := Lib.hid hb2
    clear hb2
    go_wp2_with fail
    go_ret
    exact ⟨rfl, B2.out⟩

theorem totalSpreads_own : ownKnob Try.prog.godebug = none := by kernel_rfl
theorem totalSpreads_laid : laidOutB Try.prog = true := by kernel_rfl
theorem totalSpreads_types : ∀ t ∈ ([22] : List TypeId), Try.prog.readableRec t = true ∧ t < Try.prog.types.size := by
  simp only [List.mem_cons, List.not_mem_nil, or_false, forall_eq_or_imp, forall_eq]
  exact ⟨by kernel_rfl, of_decide_eq_true (by kernel_rfl)⟩
set_option maxRecDepth 100000 in
theorem totalSpreads_lifted (os : Os) (started : os.Started) (H : Type) (enc : TypeId × Value → H) :
    ReturnsInHanded {} Try.checked os 3 .any (Rows.totalSpreadsSpec.pre6 enc Try.prog Try.f3 Rows.totalSpreadsRow.domain false) (Rows.totalSpreadsSpec.post enc Try.prog Try.f3 false true false false) := by
  refine returnsInHanded_of_change_sized (C := Try.checked) totalSpreads_own started (by kernel_rfl) Try.func3
    (ChangeSpec.witness6 (enc := enc) (C := Try.checked) false ⟨#[], #[.slice none 0 0], []⟩ 8 (by kernel_rfl) (by kernel_rfl) (by kernel_rfl) (by kernel_rfl)) ?_
  intro W base args ds gs before hval0 hW hcnd hsz hholds
  have hval : ∀ (j : Nat) t v, Try.f3.params[j]? = some t → args[j]? = some v → Value.okWide Try.prog W .any base t v := hval0
  have hW' := hW
  obtain ⟨p, q, hA0, hV, rfl, hfz, hnd⟩ := hW
  have hA : DataW.TrodAll enc Try.prog W 0 (fun _ => true) true Try.f3.params.toList args.toList ds p := hA0
  obtain ⟨rfl, rfl⟩ := trodVars_none hV
  have hpost : ∀ W', Below W.heap.size W W' → Rows.totalSpreadsSpec.post enc Try.prog Try.f3 false true false false W args (.bool true) W' := fun W' hb => by
    have hlen : ds.length = 1 := by have hh := hA; rw [Try.params3] at hh; obtain ⟨_, _, d0, ds0, _, _, _, rfl, _, _, hh⟩ := trodAll_cons hh; obtain ⟨_, rfl, _⟩ := trodAll_nil hh; simp
    obtain ⟨e0, rfl⟩ : ∃ e0, ds = [e0] := by match ds, hlen with | [e0], _ => exact ⟨e0, rfl⟩
    exact law_post totalSpreads_laid rfl hW' (by rw [Try.params3]; exact totalSpreads_types) (tb := 4) (by kernel_rfl) Try.underlying4 rfl rfl rfl hb
  rw [Try.params3] at hA hval
  obtain ⟨v0, vs0, d0, ds0, p0, q0, hargs, rfl, rfl, h0, r0⟩ := trodAll_cons hA
  obtain ⟨rfl, rfl, rfl⟩ := trodAll_nil r0
  obtain rfl : args = #[v0] := by cases args; simp_all
  obtain ⟨A, n, c, y, rfl, hsd, hAt, hy⟩ := open_floats Try.underlying22 Try.underlying24 (by kernel_rfl) (hval 0 22 v0 rfl rfl) h0
  have hnc := nil_len Try.underlying22 h0
  have hlen := sized_list (j := 0) (t := 22) hsz (by kernel_rfl) rfl Try.underlying22 hsd
  rw [show Try.checked.prog.bytesOf 24 = 8 by kernel_rfl] at hlen
  have := reachBytes_lt
  refine (totalSpreads_walk n c A y W (by omega) hnc hAt (fun j hj => f64_wf (hy j hj))).mono fun e W' ⟨he, hg⟩ => ?_
  subst he
  exact ⟨_, rfl, hpost _ hg⟩

theorem totalSpreads_holds : Rows.TotalSpreadsSaid :=
  OpenClaim.holds_of_wide 3 Try.f3 rfl rfl rfl rfl rfl rfl rfl ⟨rfl, rfl, rfl, rfl, rfl⟩ rfl rfl rfl rfl rfl (by kernel_rfl) Try.func3 (by kernel_rfl)
    (of_decide_eq_true (by kernel_rfl)) (by unfold Func.isWrapper; first | (rw [if_pos (by decide +kernel)]; kernel_rfl) | (rw [if_neg (by decide +kernel)]; exact ⟨rfl, rfl⟩))
    (fun os started H enc _ => totalSpreads_lifted os started H enc)
#print axioms totalSpreads_holds

end Go.Proofs.Ytjakjnmfndfehaa
