/- Every Of and Of32 is what the document says: the law RealOf returns true for every input and leaves its argument as it was. No condition. -/
import Derived.Test.YtpemchghaddgdaaRg
namespace Go.Proofs.Ytpemchghaddgdaa
open Go.RowKit Go.Pst Go.ChangeShapes Go.WideShapes Go.ChangeAt Go.Joins Go.Deep
set_option maxRecDepth 20000
set_option linter.unusedSimpArgs false
set_option linter.unusedVariables false
attribute [local go_sem] x64bits x64from x32bits x32from

theorem rofN_lt (f e : Nat) (hf1 : 1 ≤ f) (hf : f ≤ 52) (he1 : 1 ≤ e) (he : e ≤ 11) (x : FP) (m l : Nat) (hm : x.mant = m) (hl : x.load = l) : (rofN f e x m l).1 < 2 ^ (1 + f + e) := by
  rw [of_agree hf1 hf he1 he x m l hm hl]
  split
  · exact ofN_lt f e x m l
  · exact Nat.two_pow_pos _

theorem realOf_walk (x : FP) (m l : Nat) (w : World) (hm : x.mant = m) (hl : x.load = l) (hm64 : m < 2 ^ 64) (hl64 : l < 2 ^ 64) :
    Calls Try.prog 3 #[x.val] w fun en w' => en = .returned (.bool true) ∧ Below w.heap.size w w' := by
  have h1 := fun w => of64_any x m l w hm hl hm64 hl64
  have h2 := fun w => of32_any x m l w hm hl hm64 hl64
  have h3 := fun w => plain_any x w
  have h4 : ∀ w, Calls Try.prog 19 #[x.val, .agg #[.int .i64 52, .int .i64 2047, .int .i64 1023]] w fun en w' => en = .returned (.tuple #[.int .u64 (rofN 52 11 x m l).1, .int .i64 (rofN 52 11 x m l).2]) ∧ Below w.heap.size w w' :=
    fun w => rof_any 52 2047 1023 11 m l x w (by omega) (by omega) (by omega) (by omega) rfl rfl hm hl hm64 hl64
  have h5 : ∀ w, Calls Try.prog 19 #[x.val, .agg #[.int .i64 23, .int .i64 255, .int .i64 127]] w fun en w' => en = .returned (.tuple #[.int .u64 (rofN 23 8 x m l).1, .int .i64 (rofN 23 8 x m l).2]) ∧ Below w.heap.size w w' :=
    fun w => rof_any 23 255 127 8 m l x w (by omega) (by omega) (by omega) (by omega) rfl rfl hm hl hm64 hl64
  have h6 : ∀ w, Calls Try.prog 21 #[] w fun en w' => en = .returned (.agg #[.int .i64 52, .int .i64 2047, .int .i64 1023]) ∧ Below w.heap.size w w' := fun w => size64_any w
  have h7 : ∀ w, Calls Try.prog 23 #[] w fun en w' => en = .returned (.agg #[.int .i64 23, .int .i64 255, .int .i64 127]) ∧ Below w.heap.size w w' := fun w => size32_any w
  have hlt := rofN_lt 23 8 (by omega) (by omega) (by omega) (by omega) x m l hm hl
  obtain ⟨a, ha⟩ : ∃ a, a = rofN 52 11 x m l := ⟨_, rfl⟩
  obtain ⟨b, hb⟩ : ∃ b, b = rofN 23 8 x m l := ⟨_, rfl⟩
  rw [← ha] at h1 h4
  rw [← hb] at h2 h5 hlt
  obtain ⟨a1, a2⟩ := a
  obtain ⟨b1, b2⟩ := b
  simp only at h1 h2 h4 h5 hlt
  have hu : IntKind.u64.wrap (b1 : Int) = b1 := wrapU _ (Nat.lt_of_lt_of_le hlt (by decide))
  clear ha hb hlt
  obtain ⟨xk, xn, xm, xx, xq, xl⟩ := x
  simp only [FP.val] at h1 h2 h3 h4 h5 ⊢
  clear hm hl hm64 hl64
  have H1 := Lib.hid h1; have H2 := Lib.hid h2; have H3 := Lib.hid h3; have H4 := Lib.hid h4; have H5 := Lib.hid h5; have H6 := Lib.hid h6; have H7 := Lib.hid h7
  clear h1 h2 h3 h4 h5 h6 h7
  go_enter Try.func3, Try.ntmps3
  go_wp2_with fail
  refine (awake_any _).mono ?_
  rintro en w2 ⟨rfl, hb2⟩
  have O := ((Reg.Own.nil w).alloc rfl _ _).keep hb2
  obtain ⟨c0, f0, z0, y0, -, zz⟩ := O.rules
  have HO := Lib.hid O; clear O
  clear hb2
  go_wp2_with fail
  refine (H1.out _).mono ?_
  rintro en wn ⟨rfl, hbn⟩
  have O := HO.out.keep hbn
  clear HO c0 f0 z0 y0 zz
  obtain ⟨c0, f0, z0, y0, -, zz⟩ := O.rules
  have HO := Lib.hid O; clear O
  clear hbn
  go_wp2_with fail
  refine (H3.out _).mono ?_
  rintro en wn ⟨rfl, hbn⟩
  have O := HO.out.keep hbn
  clear HO c0 f0 z0 y0 zz
  obtain ⟨c0, f0, z0, y0, -, zz⟩ := O.rules
  have HO := Lib.hid O; clear O
  clear hbn
  go_wp2_with fail
  refine (H6.out _).mono ?_
  rintro en wn ⟨rfl, hbn⟩
  have O := HO.out.keep hbn
  clear HO c0 f0 z0 y0 zz
  obtain ⟨c0, f0, z0, y0, -, zz⟩ := O.rules
  have HO := Lib.hid O; clear O
  clear hbn
  go_wp2_with fail
  refine (H4.out _).mono ?_
  rintro en wn ⟨rfl, hbn⟩
  have O := HO.out.keep hbn
  clear HO c0 f0 z0 y0 zz
  obtain ⟨c0, f0, z0, y0, -, zz⟩ := O.rules
  have HO := Lib.hid O; clear O
  clear hbn
  go_wp2_with fail
  refine (H2.out _).mono ?_
  rintro en wn ⟨rfl, hbn⟩
  have O := HO.out.keep hbn
  clear HO c0 f0 z0 y0 zz
  obtain ⟨c0, f0, z0, y0, -, zz⟩ := O.rules
  have HO := Lib.hid O; clear O
  clear hbn
  go_wp2_with fail
  refine (H3.out _).mono ?_
  rintro en wn ⟨rfl, hbn⟩
  have O := HO.out.keep hbn
  clear HO c0 f0 z0 y0 zz
  obtain ⟨c0, f0, z0, y0, -, zz⟩ := O.rules
  have HO := Lib.hid O; clear O
  clear hbn
  go_wp2_with fail
  refine (H7.out _).mono ?_
  rintro en wn ⟨rfl, hbn⟩
  have O := HO.out.keep hbn
  clear HO c0 f0 z0 y0 zz
  obtain ⟨c0, f0, z0, y0, -, zz⟩ := O.rules
  have HO := Lib.hid O; clear O
  clear hbn
  go_wp2_with fail
  refine (H5.out _).mono ?_
  rintro en wn ⟨rfl, hbn⟩
  have O := HO.out.keep hbn
  clear HO c0 f0 z0 y0 zz
  obtain ⟨c0, f0, z0, y0, -, zz⟩ := O.rules
  have HO := Lib.hid O; clear O
  clear hbn
  go_wp2_with fail
  go_ret
  exact ⟨rfl, HO.out.below⟩

theorem realOf_own : ownKnob Try.prog.godebug = none := by kernel_rfl
theorem realOf_laid : laidOutB Try.prog = true := by kernel_rfl
theorem realOf_types : ∀ t ∈ ([24] : List TypeId), Try.prog.readableRec t = true ∧ t < Try.prog.types.size := by
  simp only [List.mem_cons, List.not_mem_nil, or_false, forall_eq_or_imp, forall_eq]
  exact ⟨by kernel_rfl, of_decide_eq_true (by kernel_rfl)⟩
set_option maxRecDepth 100000 in
theorem realOf_lifted (os : Os) (started : os.Started) (H : Type) (enc : TypeId × Value → H) :
    ReturnsInHanded {} Try.checked os 3 .any (Rows.realOfSpec.pre6 enc Try.prog Try.f3 Rows.realOfRow.domain false) (Rows.realOfSpec.post enc Try.prog Try.f3 false true false false) := by
  refine returnsInHanded_of_change (C := Try.checked) realOf_own started (by kernel_rfl) Try.func3
    (ChangeSpec.witness6 (enc := enc) (C := Try.checked) false ⟨#[], #[.agg #[.int .i64 0, .bool false, .int .u64 0, .int .i64 0, .bool false, .int .u64 0]], []⟩ 8 (by kernel_rfl) (by kernel_rfl) (by kernel_rfl) (by kernel_rfl)) ?_
  intro W base args ds gs before hval0 hW hcnd hsz
  have hval : ∀ (j : Nat) t v, Try.f3.params[j]? = some t → args[j]? = some v → Value.okWide Try.prog W .any base t v := hval0
  have hW' := hW
  obtain ⟨p, q, hA0, hV, rfl, hfz, hnd⟩ := hW
  have hA : DataW.TrodAll enc Try.prog W 0 (fun _ => true) true Try.f3.params.toList args.toList ds p := hA0
  obtain ⟨rfl, rfl⟩ := trodVars_none hV
  have hpost : ∀ W', Below W.heap.size W W' → Rows.realOfSpec.post enc Try.prog Try.f3 false true false false W args (.bool true) W' := fun W' hb => by
    have hlen : ds.length = 1 := by have hh := hA; rw [Try.params3] at hh; obtain ⟨_, _, d0, ds0, _, _, _, rfl, _, _, hh⟩ := trodAll_cons hh; obtain ⟨_, rfl, _⟩ := trodAll_nil hh; simp
    obtain ⟨e0, rfl⟩ : ∃ e0, ds = [e0] := by match ds, hlen with | [e0], _ => exact ⟨e0, rfl⟩
    exact law_post realOf_laid rfl hW' (by rw [Try.params3]; exact realOf_types) (tb := 4) (by kernel_rfl) Try.underlying4 rfl rfl rfl hb
  rw [Try.params3] at hA hval
  obtain ⟨v0, vs0, d0, ds0, p0, q0, hargs, rfl, rfl, h0, r0⟩ := trodAll_cons hA
  obtain ⟨rfl, rfl, rfl⟩ := trodAll_nil r0
  obtain rfl : args = #[v0] := by cases args; simp_all
  obtain ⟨c0, c1, c2, c3, c4, c5, y0, y1, y2, y3, y4, y5, n, rfl, g0, g1, g2, g3, g4, g5⟩ := open_agg6 Try.underlying24 (by kernel_rfl) (by kernel_rfl) (hval 0 24 v0 rfl rfl) h0
  obtain ⟨xk, e0, _, w0⟩ := DataW.trod_int Try.underlying3 g0
  obtain ⟨xn, e1, _⟩ := DataW.trod_bool Try.underlying4 g1
  obtain ⟨xm, e2, _, w2⟩ := DataW.trod_int Try.underlying22 g2
  obtain ⟨xx, e3, _, w3⟩ := DataW.trod_int Try.underlying3 g3
  obtain ⟨xq, e4, _⟩ := DataW.trod_bool Try.underlying4 g4
  obtain ⟨xl, e5, _, w5⟩ := DataW.trod_int Try.underlying22 g5
  simp only [List.cons.injEq, and_true] at e0 e1 e2 e3 e4 e5
  subst e0 e1 e2 e3 e4 e5
  obtain ⟨m, rfl, hm⟩ := wf_u64 w2
  obtain ⟨l, rfl, hl⟩ := wf_u64 w5
  refine (realOf_walk ⟨xk, xn, m, xx, xq, l⟩ m l W rfl rfl hm hl).mono fun e W' ⟨he, hg⟩ => ?_
  subst he
  exact ⟨_, rfl, hpost _ hg⟩

theorem realOf_holds : Rows.RealOfSaid :=
  OpenClaim.holds_of_wide 3 Try.f3 rfl rfl rfl rfl rfl rfl rfl ⟨rfl, rfl, rfl, rfl, rfl⟩ rfl rfl rfl rfl rfl (by kernel_rfl) Try.func3 (by kernel_rfl)
    (of_decide_eq_true (by kernel_rfl)) (by unfold Func.isWrapper; first | (rw [if_pos (by decide +kernel)]; kernel_rfl) | (rw [if_neg (by decide +kernel)]; exact ⟨rfl, rfl⟩))
    (fun os started H enc _ => realOf_lifted os started H enc)
#print axioms realOf_holds

end Go.Proofs.Ytpemchghaddgdaa
