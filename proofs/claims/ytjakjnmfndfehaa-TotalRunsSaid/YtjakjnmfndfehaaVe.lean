/- total: does a Running tell what it must: walk. Condition: what it holds is what the document's holds, but for which no numbers. -/
import Derived.Test.YtjakjnmfndfehaaVd
namespace Go.Proofs.Ytjakjnmfndfehaa
open Go.RowKit Go.Pst
set_option maxRecDepth 20000
set_option linter.unusedSimpArgs false
set_option linter.unusedVariables false
set_option maxHeartbeats 4000000 in
theorem runs_any (X n M S L G M' S' L' G' : Nat) (w : World) (hb : Reg.Blk w X (runC n M S L G) 107) (h1 : cn M = cn M') (h2 : cn S = cn S') (h3 : n ≠ 0 → cn L = cn L') (h4 : n ≠ 0 → cn G = cn G') (h5 : n = 0 → L' = 0 ∧ G' = 0) :
    Calls Try.prog 66 #[.pointer (some ⟨X, 0, none⟩), .agg (runC n M' S' L' G')] w fun en w' => en = .returned (.bool true) ∧ Below w.heap.size w w' := by
  have HSS := Lib.hid fun a b w h => psame_any a b w h
  have HBX := Lib.hid fun w' (hw : Below w.heap.size w w') => hb.keep hw
  have E1 := Lib.hid h1
  have hl : cn (if n = 0 then 0 else L) = cn L' := by
    by_cases hn : n = 0
    · rw [if_pos hn, (h5 hn).1]
    · rw [if_neg hn]; exact h3 hn
  have hg : cn (if n = 0 then 0 else G) = cn G' := by
    by_cases hn : n = 0
    · rw [if_pos hn, (h5 hn).2]
    · rw [if_neg hn]; exact h4 hn
  have EL := Lib.hid hl; have EG := Lib.hid hg
  have HME := Lib.hid fun w' (hw : Below w.heap.size w w') => rmean_at X n M S L G w' (hb.keep hw)
  have HLE := Lib.hid fun w' (hw : Below w.heap.size w w') => rleast_at X n M S L G w' (hb.keep hw)
  have HGE := Lib.hid fun w' (hw : Below w.heap.size w w') => rgreat_at X n M S L G w' (hb.keep hw)
  have HVA := Lib.hid fun w' (hw : Below w.heap.size w w') => rvar_at X n M S L G w' (hb.keep hw)
  have HDV := Lib.hid fun w' => dvar_any n M' S' L' G' w'
  have hvv : (if n = 0 then 0 else arV .quo S (fl n)) = (if n = 0 then 0 else arV .quo S' (fl n)) := by
    split
    · rfl
    · exact arV_cn .quo h2 rfl
  rw [hvv] at HVA
  generalize (if n = 0 then 0 else arV .quo S' (fl n)) = V at HVA HDV
  generalize (if n = 0 then 0 else L) = l at EL HLE
  generalize (if n = 0 then 0 else G) = g at EG HGE
  obtain ⟨b, hb0⟩ : ∃ b, b = decide (n ≠ 0) := ⟨_, rfl⟩
  rw [← hb0] at HLE HGE
  have hb1 : decide ((n : Int) > 0) = b := by rw [hb0, decide_eq_decide]; omega
  have hb2 : decide (0 < (n : Int)) = b := hb1
  have hb3 : decide (0 < n) = b := by rw [hb0, decide_eq_decide]; omega
  clear hb h1 h2 h3 h4 h5 hl hg hvv hb0
  go_enter Try.func66, Try.ntmps66
  go_wp2_with fail
  have hal := Lib.hid ((Below.refl w.heap.size w).alloc (Nat.le_refl _) (.cells (runC n M' S' L' G') 72))
  have cb := (Reg.Blk.new w (runC n M' S' L' G') 72).cell
  have hsz : w.heap.size < (w.alloc (.cells (runC n M' S' L' G') 72)).heap.size := by simp
  generalize w.alloc (.cells (runC n M' S' L' G') 72) = wa at *
  refine (HLE.out _ hal.out).mono ?_
  rintro en w9 ⟨rfl, rfl⟩
  go_wp2_with fail
  refine (HGE.out _ hal.out).mono ?_
  rintro en w9 ⟨rfl, rfl⟩
  go_wp2_with fail
  have HB := Lib.hid fun w' (h : Below wa.heap.size wa w') => hal.out.trans (h.mono hal.out.size)
  cases b
  ·
    refine Reg.wp_region_rn [26, 28] (by kernel_rfl) (by kernel_rfl) (fun _ => ?_)
    repeat (refine Reg.op0e Reg.rn_class (fun _ _ => trivial) rfl rfl rfl ?_; apply Exists.intro; apply And.intro; (intro w' hb; have hc := Reg.rd_cells hb; clear hb; go_simp; (try go_bits); first | done | (with_reducible exact rfl)); (intro a' ha'; simp only [Act.put, List.setIfInBounds_toArray, List.set_cons_zero, List.set_cons_succ] at ha'; subst ha'))
    refine Reg.op0 Reg.rn_class (fun _ _ => trivial) rfl rfl rfl ⟨.float .f64 M, ?_, ?_⟩
    · intro w' hb; have hbw := Lib.hid hb; have hc := Reg.rd_cells hb; clear hb; go_simp; exact ⟨rfl, (HME.out _ (HB.out _ hbw.out)).mono fun en w'' ⟨e1, e2⟩ => ⟨_, e1, .inl rfl, by rw [← e2]; exact Below.refl _ _⟩⟩
    intro a' ha'; simp only [Act.put, List.setIfInBounds_toArray, List.set_cons_zero, List.set_cons_succ] at ha'; subst ha'
    repeat (refine Reg.op0e Reg.rn_class (fun _ _ => trivial) rfl rfl rfl ?_; apply Exists.intro; apply And.intro; (intro w' hb; have hc := Reg.rd_cells hb; clear hb; go_simp; (try go_bits); first | done | (with_reducible exact rfl)); (intro a' ha'; simp only [Act.put, List.setIfInBounds_toArray, List.set_cons_zero, List.set_cons_succ] at ha'; subst ha'))
    refine Reg.op0 Reg.rn_class (fun _ _ => trivial) rfl rfl rfl ⟨.bool true, ?_, ?_⟩
    · intro w' hb; have hbw := Lib.hid hb; have hc := Reg.rd_cells hb; clear hb; go_simp; exact ⟨rfl, (HSS.out _ _ _ E1.out).mono fun en w'' ⟨e1, e2⟩ => ⟨_, e1, .inl rfl, by rw [← e2]; exact Below.refl _ _⟩⟩
    intro a' ha'; simp only [Act.put, List.setIfInBounds_toArray, List.set_cons_zero, List.set_cons_succ] at ha'; subst ha'
    repeat (refine Reg.op0e Reg.rn_class (fun _ _ => trivial) rfl rfl rfl ?_; apply Exists.intro; apply And.intro; (intro w' hb; have hc := Reg.rd_cells hb; clear hb; go_simp; (try go_bits); first | done | (with_reducible exact rfl)); (intro a' ha'; simp only [Act.put, List.setIfInBounds_toArray, List.set_cons_zero, List.set_cons_succ] at ha'; subst ha'))
    refine Reg.op0 Reg.rn_class (fun _ _ => trivial) rfl rfl rfl ⟨.float .f64 (V), ?_, ?_⟩
    · intro w' hb; have hbw := Lib.hid hb; have hc := Reg.rd_cells hb; clear hb; go_simp; exact ⟨rfl, (HVA.out _ (HB.out _ hbw.out)).mono fun en w'' ⟨u, e1, e2, e3⟩ => ⟨_, e1, .inr ⟨rfl, veq_of_cn e2⟩, e3⟩⟩
    intro a' ha'; simp only [Act.put, List.setIfInBounds_toArray, List.set_cons_zero, List.set_cons_succ] at ha'; subst ha'
    repeat (refine Reg.op0e Reg.rn_class (fun _ _ => trivial) rfl rfl rfl ?_; apply Exists.intro; apply And.intro; (intro w' hb; have hc := Reg.rd_cells hb; clear hb; go_simp; (try go_bits); first | done | (with_reducible exact rfl)); (intro a' ha'; simp only [Act.put, List.setIfInBounds_toArray, List.set_cons_zero, List.set_cons_succ] at ha'; subst ha'))
    refine Reg.op0 Reg.rn_class (fun _ _ => trivial) rfl rfl rfl ⟨.float .f64 (V), ?_, ?_⟩
    · intro w' hb; have hbw := Lib.hid hb; have hc := Reg.rd_cells hb; clear hb; go_simp; exact ⟨rfl, (HDV.out _).mono fun en w'' ⟨u, e1, e2, e3⟩ => ⟨_, e1, .inr ⟨rfl, veq_of_cn e2⟩, e3⟩⟩
    intro a' ha'; simp only [Act.put, List.setIfInBounds_toArray, List.set_cons_zero, List.set_cons_succ] at ha'; subst ha'
    refine Reg.op2 Reg.rn_class (fun _ _ => trivial) rfl rfl 26 28 _ _ rfl rfl rfl ⟨.bool true, ?_, ?_⟩
    · intro u1 u2 g1 g2 w' hb; obtain ⟨y1, rfl, f1⟩ := cn_of_veq g1; obtain ⟨y2, rfl, f2⟩ := cn_of_veq g2; clear g1 g2; have hbw := Lib.hid hb; clear hb; have F1 := Lib.hid f1; have F2 := Lib.hid f2; clear f1 f2; simp only [Act.put, List.setIfInBounds_toArray, List.set_cons_zero, List.set_cons_succ]; go_simp; have f1 := F1.out; have f2 := F2.out; exact ⟨rfl, (HSS.out _ _ _ (f1.trans f2.symm)).mono fun en w'' ⟨e1, e2⟩ => ⟨_, e1, .inl rfl, by rw [← e2]; exact Below.refl _ _⟩⟩
    intro a' ha'; simp only [Act.put, List.setIfInBounds_toArray, List.set_cons_zero, List.set_cons_succ] at ha'; subst ha'
    repeat (refine Reg.op0e Reg.rn_class (fun _ _ => trivial) rfl rfl rfl ?_; apply Exists.intro; apply And.intro; (intro w' hb; have hc := Reg.rd_cells hb; clear hb; go_simp; (try go_bits); first | done | (with_reducible exact rfl)); (intro a' ha'; simp only [Act.put, List.setIfInBounds_toArray, List.set_cons_zero, List.set_cons_succ] at ha'; subst ha'))
    refine Reg.op0 Reg.rn_class (fun _ _ => trivial) rfl rfl rfl ⟨.bool true, ?_, ?_⟩
    · intro w' hb; have hbw := Lib.hid hb; have hc := Reg.rd_cells hb; clear hb; go_simp; exact ⟨rfl, (HSS.out _ _ _ EL.out).mono fun en w'' ⟨e1, e2⟩ => ⟨_, e1, .inl rfl, by rw [← e2]; exact Below.refl _ _⟩⟩
    intro a' ha'; simp only [Act.put, List.setIfInBounds_toArray, List.set_cons_zero, List.set_cons_succ] at ha'; subst ha'
    repeat (refine Reg.op0e Reg.rn_class (fun _ _ => trivial) rfl rfl rfl ?_; apply Exists.intro; apply And.intro; (intro w' hb; have hc := Reg.rd_cells hb; clear hb; go_simp; (try go_bits); first | done | (with_reducible exact rfl)); (intro a' ha'; simp only [Act.put, List.setIfInBounds_toArray, List.set_cons_zero, List.set_cons_succ] at ha'; subst ha'))
    refine Reg.op0 Reg.rn_class (fun _ _ => trivial) rfl rfl rfl ⟨.bool true, ?_, ?_⟩
    · intro w' hb; have hbw := Lib.hid hb; have hc := Reg.rd_cells hb; clear hb; go_simp; exact ⟨rfl, (HSS.out _ _ _ EG.out).mono fun en w'' ⟨e1, e2⟩ => ⟨_, e1, .inl rfl, by rw [← e2]; exact Below.refl _ _⟩⟩
    intro a' ha'; simp only [Act.put, List.setIfInBounds_toArray, List.set_cons_zero, List.set_cons_succ] at ha'; subst ha'
    repeat (refine Reg.op0e Reg.rn_class (fun _ _ => trivial) rfl rfl rfl ?_; apply Exists.intro; apply And.intro; (intro w' hb; have hc := Reg.rd_cells hb; clear hb; go_simp; (try go_bits); first | done | (with_reducible exact rfl)); (intro a' ha'; simp only [Act.put, List.setIfInBounds_toArray, List.set_cons_zero, List.set_cons_succ] at ha'; subst ha'))
    refine Reg.rn_endv [(26, .float .f64 (V)), (28, .float .f64 (V))] rfl (fun wz hbz => ?_)
    refine ⟨rfl, fun u hu => ?_⟩
    obtain ⟨z26, rfl, k26⟩ := cn_of_veq hu; clear hu
    refine ⟨rfl, fun u hu => ?_⟩
    obtain ⟨z28, rfl, k28⟩ := cn_of_veq hu; clear hu
    simp only [Reg.endv, Act.put, List.setIfInBounds_toArray, List.set_cons_zero, List.set_cons_succ]
    go_wp2_with fail
    go_ret
    exact ⟨rfl, HB.out _ hbz⟩
  ·
    refine Reg.wp_region_rn [26, 28] (by kernel_rfl) (by kernel_rfl) (fun _ => ?_)
    repeat (refine Reg.op0e Reg.rn_class (fun _ _ => trivial) rfl rfl rfl ?_; apply Exists.intro; apply And.intro; (intro w' hb; have hc := Reg.rd_cells hb; clear hb; go_simp; (try go_bits); first | done | (with_reducible exact rfl)); (intro a' ha'; simp only [Act.put, List.setIfInBounds_toArray, List.set_cons_zero, List.set_cons_succ] at ha'; subst ha'))
    refine Reg.op0 Reg.rn_class (fun _ _ => trivial) rfl rfl rfl ⟨.float .f64 M, ?_, ?_⟩
    · intro w' hb; have hbw := Lib.hid hb; have hc := Reg.rd_cells hb; clear hb; go_simp; exact ⟨rfl, (HME.out _ (HB.out _ hbw.out)).mono fun en w'' ⟨e1, e2⟩ => ⟨_, e1, .inl rfl, by rw [← e2]; exact Below.refl _ _⟩⟩
    intro a' ha'; simp only [Act.put, List.setIfInBounds_toArray, List.set_cons_zero, List.set_cons_succ] at ha'; subst ha'
    repeat (refine Reg.op0e Reg.rn_class (fun _ _ => trivial) rfl rfl rfl ?_; apply Exists.intro; apply And.intro; (intro w' hb; have hc := Reg.rd_cells hb; clear hb; go_simp; (try go_bits); first | done | (with_reducible exact rfl)); (intro a' ha'; simp only [Act.put, List.setIfInBounds_toArray, List.set_cons_zero, List.set_cons_succ] at ha'; subst ha'))
    refine Reg.op0 Reg.rn_class (fun _ _ => trivial) rfl rfl rfl ⟨.bool true, ?_, ?_⟩
    · intro w' hb; have hbw := Lib.hid hb; have hc := Reg.rd_cells hb; clear hb; go_simp; exact ⟨rfl, (HSS.out _ _ _ E1.out).mono fun en w'' ⟨e1, e2⟩ => ⟨_, e1, .inl rfl, by rw [← e2]; exact Below.refl _ _⟩⟩
    intro a' ha'; simp only [Act.put, List.setIfInBounds_toArray, List.set_cons_zero, List.set_cons_succ] at ha'; subst ha'
    repeat (refine Reg.op0e Reg.rn_class (fun _ _ => trivial) rfl rfl rfl ?_; apply Exists.intro; apply And.intro; (intro w' hb; have hc := Reg.rd_cells hb; clear hb; go_simp; (try go_bits); first | done | (with_reducible exact rfl)); (intro a' ha'; simp only [Act.put, List.setIfInBounds_toArray, List.set_cons_zero, List.set_cons_succ] at ha'; subst ha'))
    refine Reg.op0 Reg.rn_class (fun _ _ => trivial) rfl rfl rfl ⟨.float .f64 (V), ?_, ?_⟩
    · intro w' hb; have hbw := Lib.hid hb; have hc := Reg.rd_cells hb; clear hb; go_simp; exact ⟨rfl, (HVA.out _ (HB.out _ hbw.out)).mono fun en w'' ⟨u, e1, e2, e3⟩ => ⟨_, e1, .inr ⟨rfl, veq_of_cn e2⟩, e3⟩⟩
    intro a' ha'; simp only [Act.put, List.setIfInBounds_toArray, List.set_cons_zero, List.set_cons_succ] at ha'; subst ha'
    repeat (refine Reg.op0e Reg.rn_class (fun _ _ => trivial) rfl rfl rfl ?_; apply Exists.intro; apply And.intro; (intro w' hb; have hc := Reg.rd_cells hb; clear hb; go_simp; (try go_bits); first | done | (with_reducible exact rfl)); (intro a' ha'; simp only [Act.put, List.setIfInBounds_toArray, List.set_cons_zero, List.set_cons_succ] at ha'; subst ha'))
    refine Reg.op0 Reg.rn_class (fun _ _ => trivial) rfl rfl rfl ⟨.float .f64 (V), ?_, ?_⟩
    · intro w' hb; have hbw := Lib.hid hb; have hc := Reg.rd_cells hb; clear hb; go_simp; exact ⟨rfl, (HDV.out _).mono fun en w'' ⟨u, e1, e2, e3⟩ => ⟨_, e1, .inr ⟨rfl, veq_of_cn e2⟩, e3⟩⟩
    intro a' ha'; simp only [Act.put, List.setIfInBounds_toArray, List.set_cons_zero, List.set_cons_succ] at ha'; subst ha'
    refine Reg.op2 Reg.rn_class (fun _ _ => trivial) rfl rfl 26 28 _ _ rfl rfl rfl ⟨.bool true, ?_, ?_⟩
    · intro u1 u2 g1 g2 w' hb; obtain ⟨y1, rfl, f1⟩ := cn_of_veq g1; obtain ⟨y2, rfl, f2⟩ := cn_of_veq g2; clear g1 g2; have hbw := Lib.hid hb; clear hb; have F1 := Lib.hid f1; have F2 := Lib.hid f2; clear f1 f2; simp only [Act.put, List.setIfInBounds_toArray, List.set_cons_zero, List.set_cons_succ]; go_simp; have f1 := F1.out; have f2 := F2.out; exact ⟨rfl, (HSS.out _ _ _ (f1.trans f2.symm)).mono fun en w'' ⟨e1, e2⟩ => ⟨_, e1, .inl rfl, by rw [← e2]; exact Below.refl _ _⟩⟩
    intro a' ha'; simp only [Act.put, List.setIfInBounds_toArray, List.set_cons_zero, List.set_cons_succ] at ha'; subst ha'
    repeat (refine Reg.op0e Reg.rn_class (fun _ _ => trivial) rfl rfl rfl ?_; apply Exists.intro; apply And.intro; (intro w' hb; have hc := Reg.rd_cells hb; clear hb; go_simp; (try go_bits); first | done | (with_reducible exact rfl)); (intro a' ha'; simp only [Act.put, List.setIfInBounds_toArray, List.set_cons_zero, List.set_cons_succ] at ha'; subst ha'))
    refine Reg.op0 Reg.rn_class (fun _ _ => trivial) rfl rfl rfl ⟨.bool true, ?_, ?_⟩
    · intro w' hb; have hbw := Lib.hid hb; have hc := Reg.rd_cells hb; clear hb; go_simp; exact ⟨rfl, (HSS.out _ _ _ EL.out).mono fun en w'' ⟨e1, e2⟩ => ⟨_, e1, .inl rfl, by rw [← e2]; exact Below.refl _ _⟩⟩
    intro a' ha'; simp only [Act.put, List.setIfInBounds_toArray, List.set_cons_zero, List.set_cons_succ] at ha'; subst ha'
    repeat (refine Reg.op0e Reg.rn_class (fun _ _ => trivial) rfl rfl rfl ?_; apply Exists.intro; apply And.intro; (intro w' hb; have hc := Reg.rd_cells hb; clear hb; go_simp; (try go_bits); first | done | (with_reducible exact rfl)); (intro a' ha'; simp only [Act.put, List.setIfInBounds_toArray, List.set_cons_zero, List.set_cons_succ] at ha'; subst ha'))
    refine Reg.op0 Reg.rn_class (fun _ _ => trivial) rfl rfl rfl ⟨.bool true, ?_, ?_⟩
    · intro w' hb; have hbw := Lib.hid hb; have hc := Reg.rd_cells hb; clear hb; go_simp; exact ⟨rfl, (HSS.out _ _ _ EG.out).mono fun en w'' ⟨e1, e2⟩ => ⟨_, e1, .inl rfl, by rw [← e2]; exact Below.refl _ _⟩⟩
    intro a' ha'; simp only [Act.put, List.setIfInBounds_toArray, List.set_cons_zero, List.set_cons_succ] at ha'; subst ha'
    repeat (refine Reg.op0e Reg.rn_class (fun _ _ => trivial) rfl rfl rfl ?_; apply Exists.intro; apply And.intro; (intro w' hb; have hc := Reg.rd_cells hb; clear hb; go_simp; (try go_bits); first | done | (with_reducible exact rfl)); (intro a' ha'; simp only [Act.put, List.setIfInBounds_toArray, List.set_cons_zero, List.set_cons_succ] at ha'; subst ha'))
    refine Reg.rn_endv [(26, .float .f64 (V)), (28, .float .f64 (V))] rfl (fun wz hbz => ?_)
    refine ⟨rfl, fun u hu => ?_⟩
    obtain ⟨z26, rfl, k26⟩ := cn_of_veq hu; clear hu
    refine ⟨rfl, fun u hu => ?_⟩
    obtain ⟨z28, rfl, k28⟩ := cn_of_veq hu; clear hu
    simp only [Reg.endv, Act.put, List.setIfInBounds_toArray, List.set_cons_zero, List.set_cons_succ]
    go_wp2_with fail
    go_ret
    exact ⟨rfl, HB.out _ hbz⟩
end Go.Proofs.Ytjakjnmfndfehaa
