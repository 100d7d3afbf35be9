/- total: numbers as they come: what is asked of them; the document's: walks. Condition: numbers of 64 bits. -/
import Derived.Test.YtjakjnmfndfehaaVb
namespace Go.Proofs.Ytjakjnmfndfehaa
open Go.RowKit Go.Pst
set_option maxRecDepth 20000
set_option linter.unusedSimpArgs false
set_option linter.unusedVariables false
attribute [local go_sem] run_fadd run_fsub run_fmul run_fquo run_fneg
/-- What a Running, a Run holds. -/
abbrev runC (n M S L G : Nat) : Array Value := #[.int .i64 n, .float .f64 M, .float .f64 S, .float .f64 L, .float .f64 G]
theorem newrun_any (w : World) : Calls Try.prog 60 #[] w fun en w' => en = .returned (.pointer (some ⟨w.heap.size, 0, none⟩)) ∧ w' = w.alloc (.cells (runC 0 0 0 0 0) 107) := by
  go_enter Try.func60, Try.ntmps60
  go_wp2_with fail
  go_ret
  exact ⟨rfl, rfl⟩
theorem rmean_nil (w : World) : Calls Try.prog 62 #[.pointer none] w fun en w' => en = .returned (.float .f64 0) ∧ w = w' := by
  go_enter Try.func62, Try.ntmps62
  go_wp2_with fail
  go_ret
  exact ⟨rfl, rfl⟩
theorem rvar_nil (w : World) : Calls Try.prog 63 #[.pointer none] w fun en w' => en = .returned (.float .f64 0) ∧ w = w' := by
  go_enter Try.func63, Try.ntmps63
  go_wp2_with fail
  go_ret
  exact ⟨rfl, rfl⟩
theorem rleast_nil (w : World) : Calls Try.prog 64 #[.pointer none] w fun en w' => en = .returned (.tuple #[.float .f64 0, .bool false]) ∧ w = w' := by
  go_enter Try.func64, Try.ntmps64
  go_wp2_with fail
  go_ret2
  exact ⟨rfl, rfl⟩
theorem radd_nil (w : World) : Calls Try.prog 61 #[.pointer none, .float .f64 4607182418800017408] w fun en w' => en = .returned (.int .i64 50) ∧ w = w' := by
  go_enter Try.func61, Try.ntmps61
  go_wp2_with fail
  go_ret
  exact ⟨rfl, rfl⟩
section
variable (X n M S L G : Nat) (w : World) (hb : Reg.Blk w X (runC n M S L G) 107)
include hb
theorem rmean_at : Calls Try.prog 62 #[.pointer (some ⟨X, 0, none⟩)] w fun en w' => en = .returned (.float .f64 M) ∧ w = w' := by
  have c := hb.cell
  clear hb
  go_enter Try.func62, Try.ntmps62
  go_wp2_with fail
  go_ret
  exact ⟨rfl, rfl⟩
theorem rleast_at : Calls Try.prog 64 #[.pointer (some ⟨X, 0, none⟩)] w fun en w' => en = .returned (.tuple #[.float .f64 (if n = 0 then 0 else L), .bool (decide (n ≠ 0))]) ∧ w = w' := by
  have c := hb.cell
  clear hb
  by_cases hn : n = 0
  · have e1 : ((n : Int) == 0) = true := by simp; omega
    have e2 : (n : Int) = 0 := by omega
    rw [if_pos hn, decide_eq_false (by omega : ¬ n ≠ 0)]
    clear hn
    go_enter Try.func64, Try.ntmps64
    go_wp2_with fail
    go_ret2
    exact ⟨rfl, rfl⟩
  · have e1 : ((n : Int) == 0) = false := by simp; omega
    have e2 : ¬ (n : Int) = 0 := by omega
    rw [if_neg hn, decide_eq_true hn]
    clear hn
    go_enter Try.func64, Try.ntmps64
    go_wp2_with fail
    go_ret2
    exact ⟨rfl, rfl⟩
theorem rgreat_at : Calls Try.prog 99 #[.pointer (some ⟨X, 0, none⟩)] w fun en w' => en = .returned (.tuple #[.float .f64 (if n = 0 then 0 else G), .bool (decide (n ≠ 0))]) ∧ w = w' := by
  have c := hb.cell
  clear hb
  by_cases hn : n = 0
  · have e1 : ((n : Int) == 0) = true := by simp; omega
    have e2 : (n : Int) = 0 := by omega
    rw [if_pos hn, decide_eq_false (by omega : ¬ n ≠ 0)]
    clear hn
    go_enter Try.func99, Try.ntmps99
    go_wp2_with fail
    go_ret2
    exact ⟨rfl, rfl⟩
  · have e1 : ((n : Int) == 0) = false := by simp; omega
    have e2 : ¬ (n : Int) = 0 := by omega
    rw [if_neg hn, decide_eq_true hn]
    clear hn
    go_enter Try.func99, Try.ntmps99
    go_wp2_with fail
    go_ret2
    exact ⟨rfl, rfl⟩
theorem rvar_at : Calls Try.prog 63 #[.pointer (some ⟨X, 0, none⟩)] w (FlLike (if n = 0 then 0 else arV .quo S (fl n)) w) := by
  have c := hb.cell
  have hX := hb.lt
  clear hb
  by_cases hn : n = 0
  · have e1 : ((n : Int) == 0) = true := by simp; omega
    have e2 : (n : Int) = 0 := by omega
    rw [if_pos hn]
    clear hn
    go_enter Try.func63, Try.ntmps63
    go_wp2_with fail
    go_ret
    exact ⟨0, rfl, rfl, Below.refl _ _⟩
  · have e1 : ((n : Int) == 0) = false := by simp; omega
    have e2 : ¬ (n : Int) = 0 := by omega
    have hfl := floatInt_fl n
    rw [if_neg hn]
    generalize fl n = N at *
    clear hn
    go_enter Try.func63, Try.ntmps63
    go_wp2_with fail
    refine Reg.wp_region_rn [21, 2] (by kernel_rfl) (by kernel_rfl) (fun _ => ?_)
    repeat (refine Reg.op0e Reg.rn_class (fun _ _ => trivial) rfl rfl rfl ?_; apply Exists.intro; apply And.intro; (intro w' hb; have hc := Reg.rd_cells hb; clear hb; go_simp; (try go_bits); first | done | (with_reducible exact rfl)); (intro a' ha'; simp only [Act.put, List.setIfInBounds_toArray, List.set_cons_zero, List.set_cons_succ] at ha'; subst ha'))
    refine Reg.op0 Reg.rn_class (fun _ _ => trivial) rfl rfl rfl ⟨.float .f64 ((arV .quo S N)), ?_, ?_⟩
    · intro w' hb; have hc := Reg.rd_cells hb; clear hb; go_simp; exact ⟨wIf_refl _ _, .inr ⟨rfl, veq_of_cn (arU_of2 rfl rfl)⟩⟩
    intro a' ha'; simp only [Act.put, List.setIfInBounds_toArray, List.set_cons_zero, List.set_cons_succ] at ha'; subst ha'
    refine Reg.op1 Reg.rn_class (fun _ _ => trivial) rfl rfl 21 _ rfl rfl ⟨.float .f64 ((arV .quo S N)), ?_, ?_⟩
    · intro u1 g1 w' hb; clear hb; have G1 := Lib.hid g1; clear g1; simp only [Act.put, List.setIfInBounds_toArray, List.set_cons_zero, List.set_cons_succ]; go_simp; exact ⟨Below.refl _ _, .inr ⟨rfl, G1.out⟩⟩
    intro a' ha'; simp only [Act.put, List.setIfInBounds_toArray, List.set_cons_zero, List.set_cons_succ] at ha'; subst ha'
    refine Reg.rn_endv [(21, .float .f64 ((arV .quo S N))), (2, .float .f64 ((arV .quo S N)))] rfl (fun wz hb => ?_)
    refine ⟨rfl, fun u hu => ?_⟩
    obtain ⟨z21, rfl, k21⟩ := cn_of_veq hu; clear hu
    refine ⟨rfl, fun u hu => ?_⟩
    obtain ⟨z2, rfl, k2⟩ := cn_of_veq hu; clear hu
    simp only [Reg.endv, Act.put, List.setIfInBounds_toArray, List.set_cons_zero, List.set_cons_succ]
    go_wp2_with fail
    go_ret
    exact ⟨_, rfl, k2, hb⟩
end
theorem dvar_any (n M S L G : Nat) (w : World) : Calls Try.prog 100 #[.agg (runC n M S L G)] w (FlLike (if n = 0 then 0 else arV .quo S (fl n)) w) := by
  by_cases hn : n = 0
  · have e1 : ((n : Int) == 0) = true := by simp; omega
    have e2 : (n : Int) = 0 := by omega
    rw [if_pos hn]
    clear hn
    go_enter Try.func100, Try.ntmps100
    go_wp2_with fail
    go_ret
    exact ⟨0, rfl, rfl, (Below.refl _ _).alloc (Nat.le_refl _) _⟩
  · have e1 : ((n : Int) == 0) = false := by simp; omega
    have e2 : ¬ (n : Int) = 0 := by omega
    have hfl := floatInt_fl n
    rw [if_neg hn]
    generalize fl n = N at *
    clear hn
    go_enter Try.func100, Try.ntmps100
    go_wp2_with fail
    go_ret
    exact ⟨_, rfl, arU_of2 rfl rfl, wIf_below _ _ ((Below.refl _ _).alloc (Nat.le_refl _) _)⟩
end Go.Proofs.Ytjakjnmfndfehaa
