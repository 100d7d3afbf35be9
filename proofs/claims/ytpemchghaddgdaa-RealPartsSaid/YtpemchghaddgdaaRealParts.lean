/- Every Parts and Parts32 is what the document says, and Of makes the same bits of it again: the law RealParts returns true for every input. No condition. -/
import Derived.Test.YtpemchghaddgdaaRg
namespace Go.Proofs.Ytpemchghaddgdaa
open Go.RowKit Go.Pst Go.ChangeShapes Go.WideShapes Go.ChangeAt Go.Joins Go.Deep
set_option maxRecDepth 20000
set_option linter.unusedSimpArgs false
set_option linter.unusedVariables false
attribute [local go_sem] x64bits x64from x32bits x32from

theorem float_same (x : FP) (w : World) : Calls Try.prog 30 #[x.val, x.val] w fun en w' => en = .returned (.bool true) ∧ Below w.heap.size w w' := by
  obtain ⟨xk, xn, xm, xx, xq, xl⟩ := x
  simp only [FP.val]
  go_enter Try.func30, Try.ntmps30
  go_wp2
  go_ret
  exact ⟨rfl, ((Below.refl w.heap.size w).alloc (Nat.le_refl _) _).alloc (by simp) _⟩

theorem realParts_walk (b c : Nat) (w : World) (hb : b < 2 ^ 64) (hc : c < 2 ^ 32) :
    Calls Try.prog 4 #[.int .u64 b, .int .u32 c] w fun en w' => en = .returned (.bool true) ∧ Below w.heap.size w w' := by
  have hpm : ∀ f e z : Nat, ∃ m l : Nat, (partsN f e z).mant = m ∧ (partsN f e z).load = l ∧ m ≤ 2 ^ f + 2 ^ f ∧ l ≤ 2 ^ f := fun f e z => by
    have h1 : z % 2 ^ f < 2 ^ f := Nat.mod_lt _ (Nat.two_pow_pos _)
    have h2 : z % 2 ^ f % 2 ^ (f - 1) ≤ z % 2 ^ f := Nat.mod_le _ _
    unfold partsN
    split
    · split
      · exact ⟨0, 0, rfl, rfl, by omega, by omega⟩
      · exact ⟨0, _, rfl, rfl, by omega, by omega⟩
    · split
      · exact ⟨_, 0, rfl, rfl, by omega, by omega⟩
      · split
        · exact ⟨_, 0, rfl, rfl, by omega, by omega⟩
        · exact ⟨0, 0, rfl, rfl, by omega, by omega⟩
  obtain ⟨m, l, hm, hl, hm2, hl2⟩ := hpm 52 11 b
  obtain ⟨m', l', hm', hl', hm2', hl2'⟩ := hpm 23 8 c
  have g1 := fun w => of64_any (partsN 52 11 b) m l w hm hl (by omega) (by omega)
  have g2 := fun w => of32_any (partsN 23 8 c) m' l' w hm' hl' (by omega) (by omega)
  rw [rofN_parts (by omega) (by omega) (by omega) (by omega) hb m l hm hl] at g1
  rw [rofN_parts (by omega) (by omega) (by omega) (by omega) hc m' l' hm' hl'] at g2
  have h1 := fun w => parts64_any b w hb
  have h2 := fun w => parts32_any c w hc
  have h3 : ∀ w, Calls Try.prog 31 #[.int .u64 b, .agg #[.int .i64 52, .int .i64 2047, .int .i64 1023]] w fun en w' => en = .returned (partsN 52 11 b).val ∧ Below w.heap.size w w' :=
    fun w => rparts_any 52 2047 1023 11 b w (by omega) (by omega) (by omega) (by omega) hb rfl rfl
  have h4 : ∀ w, Calls Try.prog 31 #[.int .u64 c, .agg #[.int .i64 23, .int .i64 255, .int .i64 127]] w fun en w' => en = .returned (partsN 23 8 c).val ∧ Below w.heap.size w w' :=
    fun w => rparts_any 23 255 127 8 c w (by omega) (by omega) (by omega) (by omega) (by omega) rfl rfl
  have h5 := fun w => float_same (partsN 52 11 b) w
  have h6 := fun w => float_same (partsN 23 8 c) w
  have h7 : ∀ w, Calls Try.prog 21 #[] w fun en w' => en = .returned (.agg #[.int .i64 52, .int .i64 2047, .int .i64 1023]) ∧ Below w.heap.size w w' := fun w => size64_any w
  have h8 : ∀ w, Calls Try.prog 23 #[] w fun en w' => en = .returned (.agg #[.int .i64 23, .int .i64 255, .int .i64 127]) ∧ Below w.heap.size w w' := fun w => size32_any w
  have hu : IntKind.u64.wrap (c : Int) = c := wrapU _ (by omega)
  clear hm hl hm2 hl2 hm' hl' hm2' hl2' hpm hb hc
  generalize partsN 52 11 b = p at *
  generalize partsN 23 8 c = q at *
  obtain ⟨pk, pn, pm, px, pq, pl⟩ := p
  obtain ⟨qk, qn, qm, qx, qq, ql⟩ := q
  simp only [FP.val] at g1 g2 h1 h2 h3 h4 h5 h6
  have G1 := Lib.hid g1; have G2 := Lib.hid g2; have H1 := Lib.hid h1; have H2 := Lib.hid h2; have H3 := Lib.hid h3; have H4 := Lib.hid h4; have H5 := Lib.hid h5; have H6 := Lib.hid h6; have H7 := Lib.hid h7; have H8 := Lib.hid h8
  clear g1 g2 h1 h2 h3 h4 h5 h6 h7 h8
  go_enter Try.func4, Try.ntmps4
  go_wp2_with fail
  refine (awake_any _).mono ?_
  rintro en w2 ⟨rfl, hb2⟩
  have O := (Reg.Own.nil w).keep hb2
  have zz := O.rules
  have HO := Lib.hid O; clear O
  clear hb2
  go_wp2_with fail
  refine (H1.out _).mono ?_
  rintro en wn ⟨rfl, hbn⟩
  have O := HO.out.keep hbn
  clear HO zz
  have zz := O.rules
  have HO := Lib.hid O; clear O
  clear hbn
  go_wp2_with fail
  refine (H2.out _).mono ?_
  rintro en wn ⟨rfl, hbn⟩
  have O := HO.out.keep hbn
  clear HO zz
  have zz := O.rules
  have HO := Lib.hid O; clear O
  clear hbn
  go_wp2_with fail
  refine Reg.wp_region_rd (by kernel_rfl) (by kernel_rfl) (fun _ => ?_)
  repeat (refine Reg.rd_op rfl ?_; apply Exists.intro; apply And.intro; (intro w' hb; have hc := Reg.rd_cells hb; clear hb; go_simp; (try go_bits); first | done | (with_reducible exact rfl)); (intro _ a' ha'; simp only [Act.put, List.setIfInBounds_toArray, List.set_cons_zero, List.set_cons_succ] at ha'; subst ha'))
  refine Reg.rd_op rfl ?_; apply Exists.intro; apply And.intro
  · intro w' hb; have hsz := Reg.rd_size hb; clear hb; go_simp; (try go_bits); exact H7.out _
  intro _ a' ha'; simp only [Act.put, List.setIfInBounds_toArray, List.set_cons_zero, List.set_cons_succ] at ha'; subst ha'
  repeat (refine Reg.rd_op rfl ?_; apply Exists.intro; apply And.intro; (intro w' hb; have hc := Reg.rd_cells hb; clear hb; go_simp; (try go_bits); first | done | (with_reducible exact rfl)); (intro _ a' ha'; simp only [Act.put, List.setIfInBounds_toArray, List.set_cons_zero, List.set_cons_succ] at ha'; subst ha'))
  refine Reg.rd_op rfl ?_; apply Exists.intro; apply And.intro
  · intro w' hb; have hsz := Reg.rd_size hb; clear hb; go_simp; (try go_bits); exact H3.out _
  intro _ a' ha'; simp only [Act.put, List.setIfInBounds_toArray, List.set_cons_zero, List.set_cons_succ] at ha'; subst ha'
  repeat (refine Reg.rd_op rfl ?_; apply Exists.intro; apply And.intro; (intro w' hb; have hc := Reg.rd_cells hb; clear hb; go_simp; (try go_bits); first | done | (with_reducible exact rfl)); (intro _ a' ha'; simp only [Act.put, List.setIfInBounds_toArray, List.set_cons_zero, List.set_cons_succ] at ha'; subst ha'))
  refine Reg.rd_op rfl ?_; apply Exists.intro; apply And.intro
  · intro w' hb; have hsz := Reg.rd_size hb; clear hb; go_simp; (try go_bits); exact H5.out _
  intro _ a' ha'; simp only [Act.put, List.setIfInBounds_toArray, List.set_cons_zero, List.set_cons_succ] at ha'; subst ha'
  repeat (refine Reg.rd_op rfl ?_; apply Exists.intro; apply And.intro; (intro w' hb; have hc := Reg.rd_cells hb; clear hb; go_simp; (try go_bits); first | done | (with_reducible exact rfl)); (intro _ a' ha'; simp only [Act.put, List.setIfInBounds_toArray, List.set_cons_zero, List.set_cons_succ] at ha'; subst ha'))
  refine Reg.rd_op rfl ?_; apply Exists.intro; apply And.intro
  · intro w' hb; have hsz := Reg.rd_size hb; clear hb; go_simp; (try go_bits); exact H8.out _
  intro _ a' ha'; simp only [Act.put, List.setIfInBounds_toArray, List.set_cons_zero, List.set_cons_succ] at ha'; subst ha'
  repeat (refine Reg.rd_op rfl ?_; apply Exists.intro; apply And.intro; (intro w' hb; have hc := Reg.rd_cells hb; clear hb; go_simp; (try go_bits); first | done | (with_reducible exact rfl)); (intro _ a' ha'; simp only [Act.put, List.setIfInBounds_toArray, List.set_cons_zero, List.set_cons_succ] at ha'; subst ha'))
  refine Reg.rd_op rfl ?_; apply Exists.intro; apply And.intro
  · intro w' hb; have hsz := Reg.rd_size hb; clear hb; go_simp; (try go_bits); exact H4.out _
  intro _ a' ha'; simp only [Act.put, List.setIfInBounds_toArray, List.set_cons_zero, List.set_cons_succ] at ha'; subst ha'
  repeat (refine Reg.rd_op rfl ?_; apply Exists.intro; apply And.intro; (intro w' hb; have hc := Reg.rd_cells hb; clear hb; go_simp; (try go_bits); first | done | (with_reducible exact rfl)); (intro _ a' ha'; simp only [Act.put, List.setIfInBounds_toArray, List.set_cons_zero, List.set_cons_succ] at ha'; subst ha'))
  refine Reg.rd_op rfl ?_; apply Exists.intro; apply And.intro
  · intro w' hb; have hsz := Reg.rd_size hb; clear hb; go_simp; (try go_bits); exact H6.out _
  intro _ a' ha'; simp only [Act.put, List.setIfInBounds_toArray, List.set_cons_zero, List.set_cons_succ] at ha'; subst ha'
  repeat (refine Reg.rd_op rfl ?_; apply Exists.intro; apply And.intro; (intro w' hb; have hc := Reg.rd_cells hb; clear hb; go_simp; (try go_bits); first | done | (with_reducible exact rfl)); (intro _ a' ha'; simp only [Act.put, List.setIfInBounds_toArray, List.set_cons_zero, List.set_cons_succ] at ha'; subst ha'))
  refine Reg.rd_end (fun wz hb => ?_)
  have O := (((HO.out.alloc rfl _ _).alloc (k := wn.heap.size + 1) (by simp) _ _).keep hb)
  clear HO zz
  obtain ⟨c1, f1, z1, y1, ⟨n10, -⟩, c0, f0, z0, y0, -, zz⟩ := O.rules
  have HO := Lib.hid O; clear O
  clear hb
  go_wp2_with fail
  refine (G1.out _).mono ?_
  rintro en wn ⟨rfl, hbn⟩
  have O := HO.out.keep hbn
  clear HO c1 f1 z1 y1 n10 c0 f0 z0 y0 zz
  obtain ⟨c1, f1, z1, y1, ⟨n10, -⟩, c0, f0, z0, y0, -, zz⟩ := O.rules
  have HO := Lib.hid O; clear O
  clear hbn
  go_wp2_with fail
  refine (G2.out _).mono ?_
  rintro en wn ⟨rfl, hbn⟩
  have O := HO.out.keep hbn
  clear HO c1 f1 z1 y1 n10 c0 f0 z0 y0 zz
  obtain ⟨c1, f1, z1, y1, ⟨n10, -⟩, c0, f0, z0, y0, -, zz⟩ := O.rules
  have HO := Lib.hid O; clear O
  clear hbn
  go_wp2_with fail
  go_ret
  exact ⟨rfl, HO.out.below⟩

theorem realParts_own : ownKnob Try.prog.godebug = none := by kernel_rfl
theorem realParts_laid : laidOutB Try.prog = true := by kernel_rfl
theorem realParts_types : ∀ t ∈ ([22, 41] : List TypeId), Try.prog.readableRec t = true ∧ t < Try.prog.types.size := by
  simp only [List.mem_cons, List.not_mem_nil, or_false, forall_eq_or_imp, forall_eq]
  exact ⟨⟨by kernel_rfl, of_decide_eq_true (by kernel_rfl)⟩, ⟨by kernel_rfl, of_decide_eq_true (by kernel_rfl)⟩⟩
set_option maxRecDepth 100000 in
theorem realParts_lifted (os : Os) (started : os.Started) (H : Type) (enc : TypeId × Value → H) :
    ReturnsInHanded {} Try.checked os 4 .any (Rows.realPartsSpec.pre6 enc Try.prog Try.f4 Rows.realPartsRow.domain false) (Rows.realPartsSpec.post enc Try.prog Try.f4 false true false false) := by
  refine returnsInHanded_of_change (C := Try.checked) realParts_own started (by kernel_rfl) Try.func4
    (ChangeSpec.witness6 (enc := enc) (C := Try.checked) false ⟨#[], #[.int .u64 0, .int .u32 0], []⟩ 8 (by kernel_rfl) (by kernel_rfl) (by kernel_rfl) (by kernel_rfl)) ?_
  intro W base args ds gs before hval0 hW hcnd hsz
  have hval : ∀ (j : Nat) t v, Try.f4.params[j]? = some t → args[j]? = some v → Value.okWide Try.prog W .any base t v := hval0
  have hW' := hW
  obtain ⟨p, q, hA0, hV, rfl, hfz, hnd⟩ := hW
  have hA : DataW.TrodAll enc Try.prog W 0 (fun _ => true) true Try.f4.params.toList args.toList ds p := hA0
  obtain ⟨rfl, rfl⟩ := trodVars_none hV
  have hpost : ∀ W', Below W.heap.size W W' → Rows.realPartsSpec.post enc Try.prog Try.f4 false true false false W args (.bool true) W' := fun W' hb => by
    have hlen : ds.length = 2 := by have hh := hA; rw [Try.params4] at hh; obtain ⟨_, _, d0, ds0, _, _, _, rfl, _, _, hh⟩ := trodAll_cons hh; obtain ⟨_, _, d1, ds1, _, _, _, rfl, _, _, hh⟩ := trodAll_cons hh; obtain ⟨_, rfl, _⟩ := trodAll_nil hh; simp
    obtain ⟨e0, e1, rfl⟩ : ∃ e0 e1, ds = [e0, e1] := by match ds, hlen with | [e0, e1], _ => exact ⟨e0, e1, rfl⟩
    exact law_post realParts_laid rfl hW' (by rw [Try.params4]; exact realParts_types) (tb := 4) (by kernel_rfl) Try.underlying4 rfl rfl rfl hb
  rw [Try.params4] at hA hval
  obtain ⟨v0, vs0, d0, ds0, p0, q0, hargs, rfl, rfl, h0, r0⟩ := trodAll_cons hA
  obtain ⟨v1, vs1, d1, ds1, p1, q1, rfl, rfl, rfl, h1, r1⟩ := trodAll_cons r0
  obtain ⟨rfl, rfl, rfl⟩ := trodAll_nil r1
  obtain rfl : args = #[v0, v1] := by cases args; simp_all
  obtain ⟨b, rfl, rfl, rfl, w0⟩ := open_int Try.underlying22 (hval 0 22 v0 rfl rfl) h0
  obtain ⟨c, rfl, rfl, rfl, w1⟩ := open_int Try.underlying41 (hval 1 41 v1 rfl rfl) h1
  obtain ⟨b, rfl, hb⟩ := wf_u64 w0
  obtain ⟨c, rfl, hc⟩ := wf_u32 w1
  refine (realParts_walk b c W hb hc).mono fun e W' ⟨he, hg⟩ => ?_
  subst he
  exact ⟨_, rfl, hpost _ hg⟩

theorem realParts_holds : Rows.RealPartsSaid :=
  OpenClaim.holds_of_wide 4 Try.f4 rfl rfl rfl rfl rfl rfl rfl ⟨rfl, rfl, rfl, rfl, rfl⟩ rfl rfl rfl rfl rfl (by kernel_rfl) Try.func4 (by kernel_rfl)
    (of_decide_eq_true (by kernel_rfl)) (by unfold Func.isWrapper; first | (rw [if_pos (by decide +kernel)]; kernel_rfl) | (rw [if_neg (by decide +kernel)]; exact ⟨rfl, rfl⟩))
    (fun os started H enc _ => realParts_lifted os started H enc)
#print axioms realParts_holds

end Go.Proofs.Ytpemchghaddgdaa
