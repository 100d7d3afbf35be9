/- Lists that are too long, by one: the law TotalLimits returns true for every input. No condition. -/
import Derived.Test.YtjakjnmfndfehaaUn
import Derived.Test.YtjakjnmfndfehaaOq
namespace Go.Proofs.Ytjakjnmfndfehaa
open Go.RowKit Go.Pst Go.ChangeShapes Go.WideShapes Go.ChangeAt Go.Joins Go.Deep
set_option maxRecDepth 20000
set_option linter.unusedSimpArgs false
set_option linter.unusedVariables false
section
attribute [local go_sem] nar_here
set_option maxHeartbeats 8000000 in
theorem totalLimits_walk (x : Nat) (p : Int) (w : World) (hx : x < 2 ^ 64) :
    Calls Try.prog 14 #[.float .f64 x, .int .i64 p] w fun en w' => en = .returned (.bool true) ∧ Below w.heap.size w w' := by
  have AW := Lib.hid fun w => awake_any w
  obtain ⟨j0, hj0, hy0, hy1, hy2⟩ := info_parts infoNum
  obtain ⟨i0, hi0, hz0, hz1, hz2⟩ := info_parts infoNum32
  have J0 := Lib.hid hj0; have J1 := Lib.hid hy0; have J2 := Lib.hid hy1; have J3 := Lib.hid hy2
  have I0 := Lib.hid hi0; have I1 := Lib.hid hz0; have I2 := Lib.hid hz1; have I3 := Lib.hid hz2
  clear hj0 hy0 hy1 hy2 hi0 hz0 hz1 hz2
  by_cases hp : p < 0
  · clear hx
    go_enter Try.func14, Try.ntmps14
    go_wp2_with fail
    refine (AW.out _).mono ?_
    rintro en w2 ⟨rfl, hb2⟩
    have B2 := Lib.hid hb2
    clear hb2
    go_wp2_with fail
    go_ret
    exact ⟨rfl, B2.out⟩
  · obtain ⟨n, hn⟩ : ∃ n : Nat, 65536 + p % 2 = (n : Int) := ⟨(65536 + p % 2).toNat, by omega⟩
    have hn2 : wrap64 (65536 + p % 2) = (n : Int) := by unfold wrap64; omega
    have hn3 : 65536 + p.tmod 2 = (n : Int) := by rw [Int.tmod_eq_emod_of_nonneg (by omega)]; exact hn
    have hN : n = 65536 ∨ n = 65537 := by omega
    have HX := Lib.hid hx
    clear hx
    go_enter Try.func14, Try.ntmps14
    go_wp2_with fail
    clear hn hn2 hn3
    go_loopw [5, 6, 8] (fun a b t wr => ∃ (k : Nat) (v1 v2 : Value) (y : Nat → Nat), t = .int .i64 k ∧ k ≤ n ∧ Below w.heap.size w wr ∧ v1 = a ∧ v2 = b ∧ TwoR wr w.heap.size 24 48 v1 v2 k k (nums (fun _ => x) k) (nums32 y k)) (fun _ _ t _ => n - (intOf t).toNat)
    case atStart =>
      refine ⟨0, _, _, fun _ => 0, rfl, by omega, ((Below.refl _ _).alloc (Nat.le_refl _) _).alloc (by simp) _, rfl, rfl, ?_, ?_, ?_⟩
      · exact (World.ownsRow_made (e := 24) (size := 1) w #[] 0 (Nat.le_refl _) (by simp [maxLen]) rfl).alloc _
      · have := World.ownsRow_made (base := w.heap.size) (e := 48) (size := 1) (w.alloc (.cells #[] 24)) #[] 0 (by simp) (by simp [maxLen]) rfl
        simpa [nums32] using this
      · intro g e1 e2
        simp only [Value.ownBlock, Option.map_some, Option.some.injEq] at e1 e2
        omega
    case round =>
      obtain ⟨k, v1, v2, y, rfl, hk, hbw, rfl, rfl, htw⟩ := hrel
      have BW := Lib.hid hbw; have TW := Lib.hid htw
      clear hbw htw
      by_cases hkn : k < n
      · have h3 : (k : Int) < (n : Int) := by omega
        have h0 : (0 : Int) ≤ (k : Int) := by omega
        go_wp2_with (at_builtin
                     first
                     | (refine wpList_append_own_at _ rfl _ _ _ rfl w.heap.size 24 j0 _ 1 8 Try.underlying22 J0.out J1.out J2.out J3.out rfl (by omega) v1 k (nums (fun _ => x) k) rfl (TW.out.own1.alloc _) ⟨wr.heap.size, 0, none⟩ 1 1 [.float .f64 x] rfl rfl (World.news_of_block (heap_alloc_new _ _)) (by simp [Value.oneCell']) (by unfold maxLen; omega) (by omega) (by have := BW.out.size; simp; omega) ?_
                        intro v3 w3 hown hgrow hnil hat
                        have TW3 := Lib.hid ((TW.out.below ((Below.refl _ _).alloc (Nat.le_refl _) _)).add1 hown hgrow hat)
                        have BW3 := Lib.hid ((BW.out.alloc BW.out.size _).grown hgrow (by have := BW.out.size; simp; omega) (fun q e => (TW.out.own1.lt q e).1))
                        clear hown hgrow hnil hat)
                     | (refine wpList_append_own_at _ rfl _ _ _ rfl w.heap.size 48 i0 _ 1 4 Try.underlying47 I0.out I1.out I2.out I3.out rfl (by omega) v2 k (nums32 y k) rfl ((own_below TW3.out.own2 (wIf_refl _ _)).alloc _) ⟨w3.heap.size, 0, none⟩ 1 1 [.float .f32 (narU w3 x)] rfl rfl (World.news_of_block (by first | exact heap_alloc_new _ _ | (have := heap_alloc_new (wIf (narB x) w3) (.cells #[.float .f32 (narU w3 x)] 48); simpa using this))) (by simp [Value.oneCell']) (by unfold maxLen; omega) (by omega) (by have := BW3.out.size; simp; omega) ?_
                        intro v4 w4 hown hgrow hnil hat
                        have TW4 := Lib.hid (((TW3.out.below (wIf_refl (narB x) _)).below ((Below.refl _ _).alloc (Nat.le_refl _) _)).swap.add1 hown hgrow hat).swap
                        have BW4 := Lib.hid (((wIf_below (narB x) _ BW3.out).alloc (by have := BW3.out.size; simpa using this) _).grown hgrow (by have := BW3.out.size; simp; omega) (fun q e => (TW3.out.own2.lt q e).1))
                        clear hown hgrow hnil hat))
        go_roundw
        case rel => exact ⟨k + 1, _, _, _, by go_num, by omega, BW4.out, rfl, rfl, by have h := TW4.out; rw [show ([.float .f64 x] : List Value) = [.float .f64 ((fun _ => x) k)] from rfl, nums_next, nums32_put] at h; exact h⟩
        case measure => (simp [intOf] <;> omega)
      · obtain rfl : k = n := by omega
        clear hkn hk
        obtain ⟨B1, c1, rfl, hc1, ha1⟩ := flat_cap TW.out.own1
        obtain ⟨B2, c2, rfl, hc2, ha2⟩ := list_cap TW.out.own2
        have HA := Lib.hid ha1; have HM := Lib.hid ha2
        have T1 := Lib.hid (Below.refl wr.heap.size wr)
        clear ha1 ha2
        rcases hN with hN | hN
        · have hk1 : ¬ (k : Int) > 65536 := by omega
          have hk2 : ¬ 65536 < (k : Int) := by omega
          have K1 : Hid (k ≤ 65536) := Lib.hid (by omega)
          have K2 : Hid (k ≠ 0) := Lib.hid (by omega)
          have hz0 : (0 : Int) ≤ (c1 : Int) := by omega
          clear hN
          go_wp2_with fail
          refine (sum_any k c1 B1 (fun _ => x) wr HA.out K1.out).mono ?_
          rintro en w2 ⟨q1, rfl, -, hb⟩
          have T2 := Lib.hid (T1.out.trans (hb.mono T1.out.size))
          clear hb 
          go_wp2_with fail
          refine (sum32_any k c2 B2 y w2 ((HM.out.below T2.out (Nat.le_refl _)).more T2.out.size) K1.out).mono ?_
          rintro en w3 ⟨q2, rfl, -, hb⟩
          have T3 := Lib.hid (T2.out.trans (hb.mono T2.out.size))
          clear hb 
          go_wp2_with fail
          refine (halvesA_any k c1 B1 (fun _ => x) w3 ((HA.out.below T3.out (Nat.le_refl _)).more T3.out.size) K1.out hc1).mono ?_
          rintro en w4 ⟨q3, rfl, -, hb⟩
          have T4 := Lib.hid (T3.out.trans (hb.mono T3.out.size))
          clear hb 
          go_wp2_with fail
          refine (kept_any k c1 B1 (fun _ => x) w4 ((HA.out.below T4.out (Nat.le_refl _)).more T4.out.size) K1.out (fun _ _ => HX.out)).mono ?_
          rintro en w5 ⟨q4, q5, rfl, -, -, hb⟩
          have T5 := Lib.hid (T4.out.trans (hb.mono T4.out.size))
          clear hb 
          go_wp2_with fail
          refine (exact_any k c1 B1 (fun _ => x) w5 ((HA.out.below T5.out (Nat.le_refl _)).more T5.out.size) K1.out (fun _ _ => HX.out)).mono ?_
          rintro en w6 ⟨rfl, hb⟩
          have T6 := Lib.hid (T5.out.trans (hb.mono T5.out.size))
          clear hb 
          go_wp2_with fail
          refine (dot_pairs k c1 0 c1 B1 B1 w6 K1.out (by omega) K2.out).mono ?_
          rintro en w99 ⟨rfl, rfl⟩
          go_wp2_with fail
          refine (mean_any k c1 B1 (fun _ => x) w6 ((HA.out.below T6.out (Nat.le_refl _)).more T6.out.size) K1.out K2.out (fun _ _ => HX.out)).mono ?_
          rintro en w7 ⟨q6, rfl, -, hb⟩
          have T7 := Lib.hid (T6.out.trans (hb.mono T6.out.size))
          clear hb 
          go_wp2_with fail
          refine (poly_any k c1 4607182418800017408 B1 (fun _ => x) w7 ((HA.out.below T7.out (Nat.le_refl _)).more T7.out.size) K1.out).mono ?_
          rintro en w8 ⟨q7, rfl, -, hb⟩
          have T8 := Lib.hid (T7.out.trans (hb.mono T7.out.size))
          clear hb 
          go_wp2_with fail
          refine (prefix_any k c1 B1 (fun _ => x) w8 ((HA.out.below T8.out (Nat.le_refl _)).more T8.out.size) K1.out).mono ?_
          rintro en w9 ⟨PB, pc, py, rfl, -, -, -, hb⟩
          have T9 := Lib.hid (T8.out.trans (hb.mono T8.out.size))
          clear hb 
          go_wp2_with fail
          refine (exactdot_any k c1 c1 B1 B1 (fun _ => x) (fun _ => x) w9 ((HA.out.below T9.out (Nat.le_refl _)).more T9.out.size) ((HA.out.below T9.out (Nat.le_refl _)).more T9.out.size) K1.out (fun _ _ => HX.out) (fun _ _ => HX.out)).mono ?_
          rintro en wa ⟨rfl, hb⟩
          have T10 := Lib.hid (T9.out.trans (hb.mono T9.out.size))
          clear hb 
          go_wp2_with fail
          refine (AW.out wa).mono ?_
          rintro en wb ⟨rfl, hb⟩
          have T11 := Lib.hid (T10.out.trans (hb.mono T10.out.size))
          clear hb 
          go_wp2_with fail
          go_ret
          exact ⟨rfl, BW.out.trans (T11.out.mono BW.out.size)⟩
        · have hk1 : (k : Int) > 65536 := by omega
          have hk2 : 65536 < (k : Int) := by omega
          have K1 : Hid (65536 < k) := Lib.hid (by omega)
          have K2 : Hid (k ≤ 1099511627776) := Lib.hid (by omega)
          have hz0 : (0 : Int) ≤ (c1 : Int) := by omega
          clear hN
          go_wp2_with fail
          refine (sum_long k c1 B1 wr K2.out K1.out).mono ?_
          rintro en w99 ⟨rfl, rfl⟩
          go_wp2_with fail
          refine (sum32_long k c2 B2 wr K2.out K1.out).mono ?_
          rintro en w99 ⟨rfl, rfl⟩
          go_wp2_with fail
          refine (halves_long k c1 B1 wr K2.out K1.out).mono ?_
          rintro en w99 ⟨rfl, rfl⟩
          go_wp2_with fail
          refine (kept_long k c1 B1 wr K2.out K1.out).mono ?_
          rintro en w99 ⟨rfl, rfl⟩
          go_wp2_with fail
          refine (exact_long k c1 B1 wr K2.out K1.out).mono ?_
          rintro en w99 ⟨rfl, rfl⟩
          go_wp2_with fail
          refine (dot_long k c1 0 c1 B1 B1 wr K2.out K1.out).mono ?_
          rintro en w99 ⟨rfl, rfl⟩
          go_wp2_with fail
          refine (mean_long k c1 B1 wr K2.out K1.out).mono ?_
          rintro en w99 ⟨rfl, rfl⟩
          go_wp2_with fail
          refine (poly_long k c1 4607182418800017408 B1 wr K2.out K1.out).mono ?_
          rintro en w99 ⟨rfl, rfl⟩
          go_wp2_with fail
          refine (prefix_long k c1 B1 wr K2.out K1.out).mono ?_
          rintro en w99 ⟨rfl, rfl⟩
          go_wp2_with fail
          refine (exactdot_long k c1 k c1 B1 B1 wr K2.out K1.out).mono ?_
          rintro en w99 ⟨rfl, rfl⟩
          go_wp2_with fail
          refine (AW.out wr).mono ?_
          rintro en wb ⟨rfl, hb⟩
          have T11 := Lib.hid (T1.out.trans (hb.mono T1.out.size))
          clear hb 
          go_wp2_with fail
          go_ret
          exact ⟨rfl, BW.out.trans (T11.out.mono BW.out.size)⟩
end

theorem totalLimits_own : ownKnob Try.prog.godebug = none := by kernel_rfl
theorem totalLimits_laid : laidOutB Try.prog = true := by kernel_rfl
theorem totalLimits_types : ∀ t ∈ ([24, 3] : List TypeId), Try.prog.readableRec t = true ∧ t < Try.prog.types.size := by
  simp only [List.mem_cons, List.not_mem_nil, or_false, forall_eq_or_imp, forall_eq]
  exact ⟨⟨by kernel_rfl, of_decide_eq_true (by kernel_rfl)⟩, ⟨by kernel_rfl, of_decide_eq_true (by kernel_rfl)⟩⟩
set_option maxRecDepth 100000 in
theorem totalLimits_lifted (os : Os) (started : os.Started) (H : Type) (enc : TypeId × Value → H) :
    ReturnsInHanded {} Try.checked os 14 .any (Rows.totalLimitsSpec.pre6 enc Try.prog Try.f14 Rows.totalLimitsRow.domain false) (Rows.totalLimitsSpec.post enc Try.prog Try.f14 false true false false) := by
  refine returnsInHanded_of_change (C := Try.checked) totalLimits_own started (by kernel_rfl) Try.func14
    (ChangeSpec.witness6 (enc := enc) (C := Try.checked) false ⟨#[], #[.float .f64 0, .int .i64 0], []⟩ 8 (by kernel_rfl) (by kernel_rfl) (by kernel_rfl) (by kernel_rfl)) ?_
  intro W base args ds gs before hval0 hW hcnd hsz
  have hval : ∀ (j : Nat) t v, Try.f14.params[j]? = some t → args[j]? = some v → Value.okWide Try.prog W .any base t v := hval0
  have hW' := hW
  obtain ⟨p, q, hA0, hV, rfl, hfz, hnd⟩ := hW
  have hA : DataW.TrodAll enc Try.prog W 0 (fun _ => true) true Try.f14.params.toList args.toList ds p := hA0
  obtain ⟨rfl, rfl⟩ := trodVars_none hV
  have hpost : ∀ W', Below W.heap.size W W' → Rows.totalLimitsSpec.post enc Try.prog Try.f14 false true false false W args (.bool true) W' := fun W' hb => by
    have hlen : ds.length = 2 := by have hh := hA; rw [Try.params14] at hh; obtain ⟨_, _, d0, ds0, _, _, _, rfl, _, _, hh⟩ := trodAll_cons hh; obtain ⟨_, _, d1, ds1, _, _, _, rfl, _, _, hh⟩ := trodAll_cons hh; obtain ⟨_, rfl, _⟩ := trodAll_nil hh; simp
    obtain ⟨e0, e1, rfl⟩ : ∃ e0 e1, ds = [e0, e1] := by match ds, hlen with | [e0, e1], _ => exact ⟨e0, e1, rfl⟩
    exact law_post totalLimits_laid rfl hW' (by rw [Try.params14]; exact totalLimits_types) (tb := 4) (by kernel_rfl) Try.underlying4 rfl rfl rfl hb
  rw [Try.params14] at hA hval
  obtain ⟨v0, vs0, d0, ds0, p0, q0, hargs, rfl, rfl, h0, r0⟩ := trodAll_cons hA
  obtain ⟨v1, vs1, d1, ds1, p1, q1, rfl, rfl, rfl, h1, r1⟩ := trodAll_cons r0
  obtain ⟨rfl, rfl, rfl⟩ := trodAll_nil r1
  obtain rfl : args = #[v0, v1] := by cases args; simp_all
  obtain ⟨x, rfl, rfl, rfl, w0⟩ := open_float Try.underlying24 (hval 0 24 v0 rfl rfl) h0
  obtain ⟨p, rfl, rfl, rfl, w1⟩ := open_int Try.underlying3 (hval 1 3 v1 rfl rfl) h1
  refine (totalLimits_walk x p W (f64_wf w0)).mono fun e W' ⟨he, hg⟩ => ?_
  subst he
  exact ⟨_, rfl, hpost _ hg⟩

theorem totalLimits_holds : Rows.TotalLimitsSaid :=
  OpenClaim.holds_of_wide 14 Try.f14 rfl rfl rfl rfl rfl rfl rfl ⟨rfl, rfl, rfl, rfl, rfl⟩ rfl rfl rfl rfl rfl (by kernel_rfl) Try.func14 (by kernel_rfl)
    (of_decide_eq_true (by kernel_rfl)) (by unfold Func.isWrapper; first | (rw [if_pos (by decide +kernel)]; kernel_rfl) | (rw [if_neg (by decide +kernel)]; exact ⟨rfl, rfl⟩))
    (fun os started H enc _ => totalLimits_lifted os started H enc)
#print axioms totalLimits_holds
end Go.Proofs.Ytjakjnmfndfehaa
