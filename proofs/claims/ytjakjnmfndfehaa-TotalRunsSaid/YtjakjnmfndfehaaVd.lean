/- total: the document's run of numbers, one more; does a Running tell what it must: walks. Condition: fewer than 65536 numbers of 64 bits. -/
import Derived.Test.YtjakjnmfndfehaaVc
import Derived.Deep.DeepCutAuto
import Derived.Deep.CutBlock
namespace Go.Pst
open Go Ieee Go.RowKit Go.Proofs.Ytjakjnmfndfehaa
set_option linter.unusedVariables false
set_option linter.unusedSimpArgs false
theorem lsV_lt {a b : Nat} (ha : a < 2 ^ 64) (hb : b < 2 ^ 64) : lsV a b < 2 ^ 64 := by
  unfold lsV; split
  · decide
  · split <;> assumption
end Go.Pst
namespace Go.Proofs.Ytjakjnmfndfehaa
open Go.RowKit Go.Pst
set_option maxRecDepth 20000
set_option linter.unusedSimpArgs false
set_option linter.unusedVariables false
attribute [local go_sem] run_fadd run_fsub run_fmul run_fquo run_fneg
theorem wp_world {P : Program} {c : Code} {Q : Exit → Act → World → Prop} {a : Act} {W : World} (R : World → Prop) (h1 : R W) (h2 : ∀ W', R W' → c.wp P Q a W') : c.wp P Q a W := h2 W h1
theorem info5 (cs : Array Value) (h : cs.size = 5) : (Try.prog.info? 72).map (·.size) = some cs.size := by rw [h]; kernel_rfl
set_option maxHeartbeats 4000000 in
theorem dadd_any (w : World) (n M S L G x : Nat) (hn : n < 65536) (hx : x < 2 ^ 64) (hL : L < 2 ^ 64) (hG : G < 2 ^ 64) :
    Calls Try.prog 65 #[.agg (runC n M S L G), .float .f64 x] w fun en w' => ∃ M2 S2 L2 G2, en = .returned (.agg (runC (n + 1) M2 S2 L2 G2)) ∧ cn M2 = mV n M x ∧ cn S2 = sV n M S x ∧ cn L2 = cn (lV n L x) ∧ cn G2 = cn (gV n G x) ∧ L2 < 2 ^ 64 ∧ G2 < 2 ^ 64 ∧ Below w.heap.size w w' := by
  have HLS := Lib.hid fun a b w (hb : b < 2 ^ 64) => lesser_any a b w hb
  have HX := Lib.hid hx; have HL := Lib.hid hL; have HG := Lib.hid hG
  have HXF := Lib.hid (flip_ord hx).2.2
  have HGF := Lib.hid (flip_ord hG).2.2
  obtain ⟨N1, hn4⟩ : ∃ N1 : Int, (n : Int) + 1 = N1 := ⟨_, rfl⟩
  have hn3 : wrap64 ((n : Int) + 1) = N1 := by unfold wrap64; omega
  have hn5 : wrap64 N1 = N1 := by unfold wrap64; omega
  have HN1 := Lib.hid hn4
  have hfl : floatOfInt .f64 N1 = fl (n + 1) := by
    have h := floatInt_fl (n + 1)
    have e : ((n + 1 : Nat) : Int) = N1 := by omega
    rwa [e] at h
  clear hx hL hG
  obtain ⟨N, hN⟩ : ∃ N, N = fl (n + 1) := ⟨_, rfl⟩
  rw [← hN] at hfl
  have HN := Lib.hid hN
  clear hN
  go_enter Try.func65, Try.ntmps65
  go_upto_region 1 with fail
  refine wp_world (fun W' => Reg.Own w W' [(w.heap.size, runC n M S L G, 72), (w.heap.size + 1, runC 0 0 0 0 0, 72)]) (((Reg.Own.nil w).alloc rfl _ _).alloc (by simp) _ _).swap ?_
  intro w1 hO1
  have O := hO1
  obtain ⟨c1, f1, z1, y1, ⟨n10, -⟩, c0, f0, z0, y0, -, zz⟩ := O.rules
  have HO := Lib.hid O; clear O
  clear hO1
  go_upto_region 3 with fail
  obtain ⟨z, hv⟩ : ∃ v, v = arU .sub (w1.setCell ⟨w.heap.size, 0, none⟩ (.int .i64 N1)) x M := ⟨_, rfl⟩
  have HZ : Hid (cn z = arV .sub x M) := Lib.hid (by rw [hv]; exact cn_arU _ _ _ _)
  rw [← hv]
  clear hv
  refine wp_world (fun W' => Reg.Own w W' [(w.heap.size, #[.int .i64 N1, .float .f64 M, .float .f64 S, .float .f64 L, .float .f64 G], 72), (w.heap.size + 1, runC 0 0 0 0 0, 72)]) ((HO.out.set 0 (.int .i64 N1)).keep (wIf_refl _ _)) ?_
  intro w2 hO
  have O := hO
  clear HO c1 f1 z1 y1 n10 c0 f0 z0 y0 zz
  obtain ⟨c1, f1, z1, y1, ⟨n10, -⟩, c0, f0, z0, y0, -, zz⟩ := O.rules
  have HO := Lib.hid O; clear O
  clear hO
  go_upto_region 4 with fail
  obtain ⟨q, hv⟩ : ∃ v, v = arU .quo w2 z N := ⟨_, rfl⟩
  have HQ : Hid (cn q = arV .quo z N) := Lib.hid (by rw [hv]; exact cn_arU _ _ _ _)
  rw [← hv]
  clear hv
  refine wp_world (fun W' => Reg.Own w W' [(w.heap.size, #[.int .i64 N1, .float .f64 M, .float .f64 S, .float .f64 L, .float .f64 G], 72), (w.heap.size + 1, runC 0 0 0 0 0, 72)]) (HO.out.keep (wIf_refl _ _)) ?_
  intro w3 hO
  have O := hO
  clear HO c1 f1 z1 y1 n10 c0 f0 z0 y0 zz
  obtain ⟨c1, f1, z1, y1, ⟨n10, -⟩, c0, f0, z0, y0, -, zz⟩ := O.rules
  have HO := Lib.hid O; clear O
  clear hO
  go_upto_region 5 with fail
  obtain ⟨M2, hv⟩ : ∃ v, v = arU .add w3 M q := ⟨_, rfl⟩
  have HM : Hid (cn M2 = arV .add M q) := Lib.hid (by rw [hv]; exact cn_arU _ _ _ _)
  rw [← hv]
  clear hv
  refine wp_world (fun W' => Reg.Own w W' [(w.heap.size, #[.int .i64 N1, .float .f64 M2, .float .f64 S, .float .f64 L, .float .f64 G], 72), (w.heap.size + 1, runC 0 0 0 0 0, 72)]) ((HO.out.keep (wIf_refl _ _)).set 1 (.float .f64 M2)) ?_
  intro w4 hO
  have O := hO
  clear HO c1 f1 z1 y1 n10 c0 f0 z0 y0 zz
  obtain ⟨c1, f1, z1, y1, ⟨n10, -⟩, c0, f0, z0, y0, -, zz⟩ := O.rules
  have HO := Lib.hid O; clear O
  clear hO
  go_upto_region 6 with fail
  obtain ⟨e, hv⟩ : ∃ v, v = arU .sub w4 x M2 := ⟨_, rfl⟩
  have HE : Hid (cn e = arV .sub x M2) := Lib.hid (by rw [hv]; exact cn_arU _ _ _ _)
  rw [← hv]
  clear hv
  refine wp_world (fun W' => Reg.Own w W' [(w.heap.size, #[.int .i64 N1, .float .f64 M2, .float .f64 S, .float .f64 L, .float .f64 G], 72), (w.heap.size + 1, runC 0 0 0 0 0, 72)]) (HO.out.keep (wIf_refl _ _)) ?_
  intro w5 hO
  have O := hO
  clear HO c1 f1 z1 y1 n10 c0 f0 z0 y0 zz
  obtain ⟨c1, f1, z1, y1, ⟨n10, -⟩, c0, f0, z0, y0, -, zz⟩ := O.rules
  have HO := Lib.hid O; clear O
  clear hO
  go_upto_region 7 with fail
  obtain ⟨S2, hv⟩ : ∃ v, v = arU .add (wIf (arD .mul z e).isNone w5) S (arU .mul w5 z e) := ⟨_, rfl⟩
  have HS : Hid (cn S2 = arV .add S (arV .mul z e)) := Lib.hid (by rw [hv]; exact arU_of rfl (arU_of2 rfl rfl))
  rw [← hv]
  clear hv
  refine wp_world (fun W' => Reg.Own w W' [(w.heap.size, #[.int .i64 N1, .float .f64 M2, .float .f64 S2, .float .f64 L, .float .f64 G], 72), (w.heap.size + 1, runC 0 0 0 0 0, 72)]) (((HO.out.keep (wIf_refl _ _)).keep (wIf_refl _ _)).set 2 (.float .f64 S2)) ?_
  intro w6 hO
  have O := hO
  clear HO c1 f1 z1 y1 n10 c0 f0 z0 y0 zz
  obtain ⟨c1, f1, z1, y1, ⟨n10, -⟩, c0, f0, z0, y0, -, zz⟩ := O.rules
  have HO := Lib.hid O; clear O
  clear hO
  have HM2 : Hid (cn M2 = mV n M x) := Lib.hid (by
    rw [HM.out]
    unfold mV
    rw [← HN.out]
    refine arV_cn .add rfl ?_
    rw [HQ.out, cn_arV]
    exact arV_cn .quo (by rw [HZ.out, cn_arV]) rfl)
  have HS2 : Hid (cn S2 = sV n M S x) := Lib.hid (by
    rw [HS.out]
    unfold sV
    refine arV_cn .add rfl ?_
    rw [cn_arV, cn_arV]
    refine arV_cn .mul (by rw [HZ.out, cn_arV]) ?_
    rw [HE.out, cn_arV]
    exact arV_cn .sub rfl (by rw [HM2.out, ← HM2.out, cn_cn]))
  clear hn3 hn4 hn5 HZ HQ HM HE HS
  by_cases hn0 : n = 0
  · have e1 : (N1 == 1) = true := by have := HN1.out; simp; omega
    have e2 : N1 = 1 := by have := HN1.out; omega
    have HN0 := Lib.hid hn0
    clear hn0
    subst e2
    go_wp2_with fail
    have O9 : Reg.Own w _ [(w.heap.size + 1, #[.int .i64 1, .float .f64 M2, .float .f64 S2, .float .f64 x, .float .f64 x], 72), (w.heap.size, #[.int .i64 1, .float .f64 M2, .float .f64 S2, .float .f64 x, .float .f64 x], 72)] :=
      (((((((HO.out.set 3 (.float .f64 x)).set 4 (.float .f64 x)).swap.set 0 (.int .i64 1)).set 1 (.float .f64 M2)).set 2 (.float .f64 S2)).set 3 (.float .f64 x)).set 4 (.float .f64 x))
    refine bodyPost_ret (results_cell_row Try.results65 _ _ (w.heap.size + 1) 72 _ (0, 0) _ rfl (O9.blk _ List.mem_cons_self).1 Try.underlying72 rfl (info5 _ rfl)) rfl ?_
    have e0 := HN0.out
    subst e0
    refine ⟨M2, S2, x, x, rfl, HM2.out, HS2.out, ?_, ?_, HX.out, HX.out, O9.below⟩
    · show cn x = cn (minF x x); unfold minF; simp
    · show cn x = cn (maxF x x); unfold maxF; simp
  · have e1 : (N1 == 1) = false := by have := HN1.out; simp; omega
    have e2 : ¬ N1 = 1 := by have := HN1.out; omega
    have HN0 := Lib.hid hn0
    clear hn0
    go_wp2_with fail
    go_region_with (go_at_call 98; refine (HLS.out _ _ _ ?_).mono ?_; (first | (with_reducible exact HX.out) | (with_reducible exact HXF.out)); rintro en w' ⟨rfl, rfl⟩)
    all_goals
      go_wp2_with fail
      have O9 : Reg.Own w _ [(w.heap.size + 1, #[.int .i64 N1, .float .f64 M2, .float .f64 S2, .float .f64 (lsV L x), .float .f64 (flipF (lsV (flipF G) (flipF x)))], 72), (w.heap.size, #[.int .i64 N1, .float .f64 M2, .float .f64 S2, .float .f64 (lsV L x), .float .f64 (flipF (lsV (flipF G) (flipF x)))], 72)] :=
        (((((((HO.out.set 3 (.float .f64 (lsV L x))).set 4 (.float .f64 (flipF (lsV (flipF G) (flipF x))))).swap.set 0 (.int .i64 N1)).set 1 (.float .f64 M2)).set 2 (.float .f64 S2)).set 3 (.float .f64 (lsV L x))).set 4 (.float .f64 (flipF (lsV (flipF G) (flipF x))))).drew
      refine bodyPost_ret (results_cell_row Try.results65 _ _ (w.heap.size + 1) 72 _ (0, 0) _ rfl (O9.blk _ List.mem_cons_self).1 Try.underlying72 rfl (info5 _ rfl)) rfl ?_
      have e0 := HN0.out
      have e1 : ((n + 1 : Nat) : Int) = N1 := by have := HN1.out; omega
      refine ⟨M2, S2, _, _, by unfold runC; rw [e1], HM2.out, HS2.out, ?_, ?_, lsV_lt HL.out HX.out, ?_, O9.below⟩
      · unfold lV; rw [if_neg e0]; exact ls_min HL.out HX.out
      · unfold gV; rw [if_neg e0]; exact ls_max HG.out HX.out
      · exact (flip_ord (lsV_lt HGF.out HXF.out)).2.2
end Go.Proofs.Ytjakjnmfndfehaa
