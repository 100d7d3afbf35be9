/- total: numbers as they come: what is kept of them: plain and walks. Condition: fewer than 65536 numbers of 64 bits. -/
import Derived.Test.YtjakjnmfndfehaaVa
import Derived.Test.YtjakjnmfndfehaaRv
import Derived.Deep.RegionWith
namespace Go.Pst
open Go Ieee Go.RowKit Go.Proofs.Ytjakjnmfndfehaa
set_option linter.unusedVariables false
set_option linter.unusedSimpArgs false
def mV (n M x : Nat) : Nat := arV .add M (arV .quo (arV .sub x M) (fl (n + 1)))
def sV (n M S x : Nat) : Nat := arV .add S (arV .mul (arV .sub x M) (arV .sub x (mV n M x)))
def lV (n L x : Nat) : Nat := minF (if n = 0 then x else L) x
def gV (n G x : Nat) : Nat := maxF (if n = 0 then x else G) x
end Go.Pst
namespace Go.Proofs.Ytjakjnmfndfehaa
open Go.RowKit Go.Pst
set_option maxRecDepth 20000
set_option linter.unusedSimpArgs false
set_option linter.unusedVariables false
attribute [local go_sem] run_fadd run_fsub run_fmul run_fquo
theorem sn_at {W : World} {L : List Tmp} {p : Addr} {v u : Value} {n : Nat} {w' : World} (h : (Reg.sn W L p v n).K w') {q : Addr} (hq : q.block < W.heap.size) (hne : p ≠ q) (hc : W.cell? q = some u) : w'.cell? q = some u := by
  rcases h with h | ⟨x, _, h⟩
  · exact (h.cell hq).trans hc
  · rw [h.cell hq, World.cell?_setCell_other _ _ _ _ hne]; exact hc
set_option maxHeartbeats 4000000 in
theorem radd_any (w0 w : World) (X n M S L G x : Nat) (l : List (Nat × Array Value × TypeId)) (hO : Reg.Own w0 w ((X, #[.int .i64 n, .float .f64 M, .float .f64 S, .float .f64 L, .float .f64 G], 107) :: l)) (hn : n < 65536)
    (hx : x < 2 ^ 64) (hL : L < 2 ^ 64) (hG : G < 2 ^ 64) :
    Calls Try.prog 61 #[.pointer (some ⟨X, 0, none⟩), .float .f64 x] w fun en w' => en = .returned (.int .i64 0) ∧ ∃ M2 S2, cn M2 = mV n M x ∧ cn S2 = sV n M S x ∧
      Reg.Own w0 w' ((X, #[.int .i64 (n + 1 : Nat), .float .f64 M2, .float .f64 S2, .float .f64 (lV n L x), .float .f64 (gV n G x)], 107) :: l) := by
  have HMIN := Lib.hid fun a w (ha : a < 2 ^ 64) => minimum_any a x w ha hx
  have HMAX := Lib.hid fun a w (ha : a < 2 ^ 64) => maximum_any a x w ha hx
  have HX := Lib.hid hx; have HL := Lib.hid hL; have HG := Lib.hid hG
  have hn1 : ¬ (n : Int) ≥ 65536 := by omega
  have hn2 : ¬ 65536 ≤ (n : Int) := by omega
  obtain ⟨N1, hn4⟩ : ∃ N1 : Int, (n : Int) + 1 = N1 := ⟨_, rfl⟩
  have hn3 : wrap64 ((n : Int) + 1) = N1 := by unfold wrap64; omega
  have hn5 : wrap64 N1 = N1 := by unfold wrap64; omega
  have HN1 := Lib.hid hn4
  have hfl : floatOfInt .f64 N1 = fl (n + 1) := by
    have h := floatInt_fl (n + 1)
    have e : ((n + 1 : Nat) : Int) = N1 := by omega
    rwa [e] at h
  clear hx hL hG
  have O := hO
  obtain ⟨c0, f0, z0, y0, -, zz⟩ := O.rules
  have HO := Lib.hid O; clear O
  clear hO
  go_enter Try.func61, Try.ntmps61
  go_wp2_with fail
  have O1 := Lib.hid ((HO.out.set 0 (.int .i64 N1)).keep (wIf_refl (arD .sub x M).isNone _))
  obtain ⟨z, hz⟩ : ∃ z, z = arU .sub (w.setCell ⟨X, 0, none⟩ (.int .i64 N1)) x M := ⟨_, rfl⟩
  have HZ : Hid (cn z = arV .sub x M) := Lib.hid (by rw [hz]; exact cn_arU _ _ _ _)
  rw [← hz]
  clear hz
  generalize wIf (arD .sub x M).isNone (w.setCell ⟨X, 0, none⟩ (.int .i64 N1)) = w1 at O1 ⊢
  have O := (show Reg.Own w0 w1 ((X, #[.int .i64 N1, .float .f64 M, .float .f64 S, .float .f64 L, .float .f64 G], 107) :: l) from O1.out)
  clear HO c0 f0 z0 y0 zz
  obtain ⟨c0, f0, z0, y0, -, zz⟩ := O.rules
  have HO := Lib.hid O; clear O
  clear O1
  obtain ⟨N, hN⟩ : ∃ N, N = fl (n + 1) := ⟨_, rfl⟩
  rw [← hN] at hfl
  have HN := Lib.hid hN
  clear hN
  refine Reg.wp_region_rn_tail [38, 39] 14 (by kernel_rfl) (by kernel_rfl) (fun _ => ?_)
  simp only [List.take_succ_cons, List.take_zero, List.drop_succ_cons, List.drop_zero]
  repeat (refine Reg.op0e Reg.rn_class (fun _ _ => trivial) rfl rfl rfl ?_; apply Exists.intro; apply And.intro; (intro w' hb; have hc := Reg.rd_cells hb; clear hb; go_simp; (try go_bits); first | done | (with_reducible exact rfl)); (intro a' ha'; simp only [Act.put, List.setIfInBounds_toArray, List.set_cons_zero, List.set_cons_succ] at ha'; subst ha'))
  refine Reg.op0 Reg.rn_class (fun _ _ => trivial) rfl rfl rfl ⟨.float .f64 ((arV .quo z N)), ?_, ?_⟩
  · intro w' hb; have hc := Reg.rd_cells hb; clear hb; go_simp; exact ⟨wIf_refl _ _, .inr ⟨rfl, veq_of_cn (arU_of2 rfl rfl)⟩⟩
  intro a' ha'; simp only [Act.put, List.setIfInBounds_toArray, List.set_cons_zero, List.set_cons_succ] at ha'; subst ha'
  refine Reg.op1 Reg.rn_class (fun _ _ => trivial) rfl rfl 38 _ rfl rfl ⟨.float .f64 ((arV .add M (arV .quo z N))), ?_, ?_⟩
  · intro u1 g1 w' hb; obtain ⟨y1, rfl, f1⟩ := cn_of_veq g1; clear g1; have hc := Reg.rd_cells hb; clear hb; have F1 := Lib.hid f1; clear f1; simp only [Act.put, List.setIfInBounds_toArray, List.set_cons_zero, List.set_cons_succ]; go_simp; have f1 := F1.out; exact ⟨wIf_refl _ _, .inr ⟨rfl, veq_of_cn (arU_of2 rfl f1)⟩⟩
  intro a' ha'; simp only [Act.put, List.setIfInBounds_toArray, List.set_cons_zero, List.set_cons_succ] at ha'; subst ha'
  repeat (refine Reg.op0e Reg.rn_class (fun _ _ => trivial) rfl rfl rfl ?_; apply Exists.intro; apply And.intro; (intro w' hb; have hc := Reg.rd_cells hb; clear hb; go_simp; (try go_bits); first | done | (with_reducible exact rfl)); (intro a' ha'; simp only [Act.put, List.setIfInBounds_toArray, List.set_cons_zero, List.set_cons_succ] at ha'; subst ha'))
  refine Reg.rn_endv [(38, .float .f64 ((arV .quo z N))), (39, .float .f64 ((arV .add M (arV .quo z N))))] rfl (fun wz hb => ?_)
  refine ⟨rfl, fun u hu => ?_⟩
  obtain ⟨z38, rfl, k38⟩ := cn_of_veq hu; clear hu
  refine ⟨rfl, fun u hu => ?_⟩
  obtain ⟨z39, rfl, k39⟩ := cn_of_veq hu; clear hu
  simp only [Reg.endv, Act.put, List.setIfInBounds_toArray, List.set_cons_zero, List.set_cons_succ]
  have O := HO.out.keep hb
  clear HO c0 f0 z0 y0 zz
  obtain ⟨c0, f0, z0, y0, -, zz⟩ := O.rules
  have HO := Lib.hid O; clear O
  clear hb
  go_wp2_with fail
  have O := (show Reg.Own w0 _ ((X, #[.int .i64 N1, .float .f64 z39, .float .f64 S, .float .f64 L, .float .f64 G], 107) :: l) from HO.out.set 1 (.float .f64 z39))
  clear HO c0 f0 z0 y0 zz
  obtain ⟨c0, f0, z0, y0, -, zz⟩ := O.rules
  have HO := Lib.hid O; clear O
  have HM2 : Hid (cn z39 = mV n M x) := Lib.hid (by
    rw [k39, cn_arV]
    unfold mV
    rw [← HN.out]
    refine arV_cn .add rfl ?_
    rw [cn_arV, cn_arV]
    exact arV_cn .quo (by rw [HZ.out, cn_arV]) rfl)
  generalize wz.setCell ⟨X, 1, none⟩ (.float .f64 z39) = w2 at *
  clear k38 k39 hfl
  refine Reg.wp_region_rn_tail [52, 53, 54] 15 (by kernel_rfl) (by kernel_rfl) (fun _ => ?_)
  simp only [List.take_succ_cons, List.take_zero, List.drop_succ_cons, List.drop_zero]
  repeat (refine Reg.op0e Reg.rn_class (fun _ _ => trivial) rfl rfl rfl ?_; apply Exists.intro; apply And.intro; (intro w' hb; have hc := Reg.rd_cells hb; clear hb; go_simp; (try go_bits); first | done | (with_reducible exact rfl)); (intro a' ha'; simp only [Act.put, List.setIfInBounds_toArray, List.set_cons_zero, List.set_cons_succ] at ha'; subst ha'))
  refine Reg.op0 Reg.rn_class (fun _ _ => trivial) rfl rfl rfl ⟨.float .f64 ((arV .sub x z39)), ?_, ?_⟩
  · intro w' hb; have hc := Reg.rd_cells hb; clear hb; go_simp; exact ⟨wIf_refl _ _, .inr ⟨rfl, veq_of_cn (arU_of2 rfl rfl)⟩⟩
  intro a' ha'; simp only [Act.put, List.setIfInBounds_toArray, List.set_cons_zero, List.set_cons_succ] at ha'; subst ha'
  refine Reg.op1 Reg.rn_class (fun _ _ => trivial) rfl rfl 52 _ rfl rfl ⟨.float .f64 ((arV .mul z (arV .sub x z39))), ?_, ?_⟩
  · intro u1 g1 w' hb; obtain ⟨y1, rfl, f1⟩ := cn_of_veq g1; clear g1; have hc := Reg.rd_cells hb; clear hb; have F1 := Lib.hid f1; clear f1; simp only [Act.put, List.setIfInBounds_toArray, List.set_cons_zero, List.set_cons_succ]; go_simp; have f1 := F1.out; exact ⟨wIf_refl _ _, .inr ⟨rfl, veq_of_cn (arU_of2 rfl f1)⟩⟩
  intro a' ha'; simp only [Act.put, List.setIfInBounds_toArray, List.set_cons_zero, List.set_cons_succ] at ha'; subst ha'
  refine Reg.op1 Reg.rn_class (fun _ _ => trivial) rfl rfl 53 _ rfl rfl ⟨.float .f64 ((arV .add S (arV .mul z (arV .sub x z39)))), ?_, ?_⟩
  · intro u1 g1 w' hb; obtain ⟨y1, rfl, f1⟩ := cn_of_veq g1; clear g1; have hc := Reg.rd_cells hb; clear hb; have F1 := Lib.hid f1; clear f1; simp only [Act.put, List.setIfInBounds_toArray, List.set_cons_zero, List.set_cons_succ]; go_simp; have f1 := F1.out; exact ⟨wIf_refl _ _, .inr ⟨rfl, veq_of_cn (arU_of2 rfl f1)⟩⟩
  intro a' ha'; simp only [Act.put, List.setIfInBounds_toArray, List.set_cons_zero, List.set_cons_succ] at ha'; subst ha'
  repeat (refine Reg.op0e Reg.rn_class (fun _ _ => trivial) rfl rfl rfl ?_; apply Exists.intro; apply And.intro; (intro w' hb; have hc := Reg.rd_cells hb; clear hb; go_simp; (try go_bits); first | done | (with_reducible exact rfl)); (intro a' ha'; simp only [Act.put, List.setIfInBounds_toArray, List.set_cons_zero, List.set_cons_succ] at ha'; subst ha'))
  refine Reg.rn_endv [(52, .float .f64 ((arV .sub x z39))), (53, .float .f64 ((arV .mul z (arV .sub x z39)))), (54, .float .f64 ((arV .add S (arV .mul z (arV .sub x z39)))))] rfl (fun wz hb => ?_)
  refine ⟨rfl, fun u hu => ?_⟩
  obtain ⟨z52, rfl, k52⟩ := cn_of_veq hu; clear hu
  refine ⟨rfl, fun u hu => ?_⟩
  obtain ⟨z53, rfl, k53⟩ := cn_of_veq hu; clear hu
  refine ⟨rfl, fun u hu => ?_⟩
  obtain ⟨z54, rfl, k54⟩ := cn_of_veq hu; clear hu
  simp only [Reg.endv, Act.put, List.setIfInBounds_toArray, List.set_cons_zero, List.set_cons_succ]
  have O := HO.out.keep hb
  clear HO c0 f0 z0 y0 zz
  obtain ⟨c0, f0, z0, y0, -, zz⟩ := O.rules
  have HO := Lib.hid O; clear O
  clear hb
  have HS2 : Hid (cn z54 = sV n M S x) := Lib.hid (by
    rw [k54, cn_arV]
    unfold sV
    refine arV_cn .add rfl ?_
    rw [cn_arV, cn_arV]
    refine arV_cn .mul (by rw [HZ.out, cn_arV]) ?_
    rw [cn_arV, cn_arV]
    exact arV_cn .sub rfl (by rw [HM2.out, ← HM2.out, cn_cn]))
  clear k52 k53 k54
  clear hn3 hn4 hn5
  by_cases hn0 : n = 0
  · have e2 : N1 = 1 := by have := HN1.out; omega
    have HN0 := Lib.hid hn0
    clear hn0
    subst e2
    go_wp2_with fail
    have O := (show Reg.Own w0 _ ((X, #[.int .i64 1, .float .f64 z39, .float .f64 z54, .float .f64 x, .float .f64 x], 107) :: l) from ((HO.out.set 2 (.float .f64 z54)).set 3 (.float .f64 x)).set 4 (.float .f64 x))
    clear HO c0 f0 z0 y0 zz
    obtain ⟨c0, f0, z0, y0, -, zz⟩ := O.rules
    have HO := Lib.hid O; clear O
    generalize ((wz.setCell ⟨X, 2, none⟩ (.float .f64 z54)).setCell ⟨X, 3, none⟩ (.float .f64 x)).setCell ⟨X, 4, none⟩ (.float .f64 x) = w3 at *
    go_region_with (first
      | (go_at_call 96; refine (HMIN.out _ _ ?_).mono ?_; exact HX.out; rintro en w' ⟨rfl, rfl⟩)
      | (go_at_call 97; refine (HMAX.out _ _ ?_).mono ?_; exact HX.out; rintro en w' ⟨rfl, rfl⟩))
    all_goals
      go_wp2_with fail
      go_ret
      refine ⟨rfl, z39, z54, HM2.out, HS2.out, ?_⟩
      have e0 := HN0.out
      subst e0
      exact ((HO.out.set 3 (.float .f64 (minF x x))).set 4 (.float .f64 (maxF x x))).drew
  · have e1 : (N1 == 1) = false := by have := HN1.out; simp; omega
    have e2 : ¬ N1 = 1 := by have := HN1.out; omega
    have HN0 := Lib.hid hn0
    clear hn0
    go_wp2_with fail
    have O := (show Reg.Own w0 _ ((X, #[.int .i64 N1, .float .f64 z39, .float .f64 z54, .float .f64 L, .float .f64 G], 107) :: l) from HO.out.set 2 (.float .f64 z54))
    clear HO c0 f0 z0 y0 zz
    obtain ⟨c0, f0, z0, y0, -, zz⟩ := O.rules
    have HO := Lib.hid O; clear O
    generalize wz.setCell ⟨X, 2, none⟩ (.float .f64 z54) = w3 at *
    go_region_with (first
      | (go_at_call 96; refine (HMIN.out _ _ ?_).mono ?_; exact HL.out; rintro en w' ⟨rfl, rfl⟩)
      | (go_at_call 97; refine (HMAX.out _ _ ?_).mono ?_; exact HG.out; rintro en w' ⟨rfl, rfl⟩))
    all_goals
      go_wp2_with fail
      go_ret
      refine ⟨rfl, z39, z54, HM2.out, HS2.out, ?_⟩
      have e0 := HN0.out
      have e1 : ((n + 1 : Nat) : Int) = N1 := by have := HN1.out; omega
      unfold lV gV
      rw [e1, if_neg e0, if_neg e0]
      exact ((HO.out.set 3 (.float .f64 (minF L x))).set 4 (.float .f64 (maxF G x))).drew
end Go.Proofs.Ytjakjnmfndfehaa
