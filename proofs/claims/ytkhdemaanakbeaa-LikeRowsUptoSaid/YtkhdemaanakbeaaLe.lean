/- Do two neighbours stand changed about: both texts. Condition: places within the names. -/
import Derived.Test.YtkhdemaanakbeaaLd
namespace Go.Proofs.Ytkhdemaanakbeaa
open Go.RowKit Go.Pst
set_option maxRecDepth 20000
set_option linter.unusedSimpArgs false
set_option linter.unusedVariables false

/-- A name as the memory has it. -/
def NameAt (w : World) (B : Nat) (A : Option Addr) (n : Nat) (f : Nat → Int) : Prop :=
  0 < n → ∃ b off, A = some ⟨b, off, none⟩ ∧ b < B ∧ ∀ i, i < n → w.cell? ⟨b, off + i, none⟩ = some (.int .i32 (f i))

theorem NameAt.below {w w' : World} {B B' : Nat} {A : Option Addr} {n : Nat} {f : Nat → Int} (h : NameAt w B A n f) (hb : Below B' w w') (hB : B ≤ B') : NameAt w' B A n f := fun hn => by
  obtain ⟨b, off, h1, h2, h3⟩ := h hn
  exact ⟨b, off, h1, h2, fun i hi => by rw [hb.cell (show b < B' by omega)]; exact h3 i hi⟩
theorem NameAt.more {w : World} {B B' : Nat} {A : Option Addr} {n : Nat} {f : Nat → Int} (h : NameAt w B A n f) (hB : B ≤ B') : NameAt w B' A n f := fun hn => by
  obtain ⟨b, off, h1, h2, h3⟩ := h hn
  exact ⟨b, off, h1, by omega, h3⟩

def tnB (fa fb : Nat → Int) (i j : Nat) : Bool := decide (1 < i) && decide (1 < j) && (fa (i - 1) == fb (j - 2)) && (fa (i - 2) == fb (j - 1))

set_option maxHeartbeats 2000000 in
theorem turned_any (A B : Option Addr) (n m c d i j : Nat) (fa fb : Nat → Int) (w : World) (hA : NameAt w w.heap.size A n fa) (hB : NameAt w w.heap.size B m fb) (hi : i ≤ n) (hj : j ≤ m) (hn : n ≤ 1048576) (hm : m ≤ 1048576) :
    Calls Try.prog 62 #[.slice A n c, .slice B m d, .int .i64 i, .int .i64 j] w fun en w' => en = .returned (.bool (tnB fa fb i j)) ∧ Below w.heap.size w w' := by
  obtain ⟨r, hr⟩ : ∃ r, r = tnB fa fb i j := ⟨_, rfl⟩
  rw [← hr]
  unfold tnB at hr
  by_cases h1 : 1 < i
  · by_cases h2 : 1 < j
    · rw [decide_eq_true h1, decide_eq_true h2] at hr
      obtain ⟨i1, e1⟩ : ∃ i1 : Nat, i1 = i - 1 := ⟨_, rfl⟩
      obtain ⟨i2, e2⟩ : ∃ i2 : Nat, i2 = i - 2 := ⟨_, rfl⟩
      obtain ⟨j1, e3⟩ : ∃ j1 : Nat, j1 = j - 1 := ⟨_, rfl⟩
      obtain ⟨j2, e4⟩ : ∃ j2 : Nat, j2 = j - 2 := ⟨_, rfl⟩
      rw [← e1, ← e2, ← e3, ← e4] at hr
      obtain ⟨ga, oa, rfl, hga, hca⟩ := hA (by omega)
      obtain ⟨gb, ob, rfl, hgb, hcb⟩ := hB (by omega)
      have q1 := hca i1 (by omega)
      have q2 := hca i2 (by omega)
      have q3 := hcb j1 (by omega)
      have q4 := hcb j2 (by omega)
      clear hca hcb
      generalize fa i1 = x1 at *
      generalize fa i2 = x2 at *
      generalize fb j1 = y1 at *
      generalize fb j2 = y2 at *
      have a1 : (i : Int) - 1 = (i1 : Int) := by omega
      have a2 : (i : Int) - 2 = (i2 : Int) := by omega
      have a3 : (j : Int) - 1 = (j1 : Int) := by omega
      have a4 : (j : Int) - 2 = (j2 : Int) := by omega
      have b1 : (i1 : Int) < (n : Int) := by omega
      have b2 : (i2 : Int) < (n : Int) := by omega
      have b3 : (j1 : Int) < (m : Int) := by omega
      have b4 : (j2 : Int) < (m : Int) := by omega
      have b5 : (0 : Int) ≤ i1 ∧ (0 : Int) ≤ i2 ∧ (0 : Int) ≤ j1 ∧ (0 : Int) ≤ j2 := by omega
      clear e1 e2 e3 e4
      have p1 : (1 : Int) < (i : Int) := by omega
      have p2 : (1 : Int) < (j : Int) := by omega
      have p3 : decide ((1 : Int) < (i : Int)) = true := by simp; omega
      have p4 : decide ((1 : Int) < (j : Int)) = true := by simp; omega
      cases hx : (x1 == y2)
      · rw [hx] at hr
        have HR := Lib.hid hr; clear hr
        go_enter Try.func62, Try.ntmps62
        go_wp2_with fail
        refine Reg.wp_region_rd (by kernel_rfl) (by kernel_rfl) (fun _ => ?_)
        repeat (refine Reg.rd_op rfl ?_; apply Exists.intro; apply And.intro; (intro w' hb; have hc := Reg.rd_cells hb; clear hb; go_simp; (try go_bits); first | done | (with_reducible exact rfl)); (intro _ a' ha'; simp only [Act.put, List.setIfInBounds_toArray, List.set_cons_zero, List.set_cons_succ] at ha'; subst ha'))
        repeat (refine Reg.rd_skip rfl ?_; intro a' ha'; simp only [Act.put, List.setIfInBounds_toArray, List.set_cons_zero, List.set_cons_succ] at ha'; subst ha')
        repeat (refine Reg.rd_op rfl ?_; apply Exists.intro; apply And.intro; (intro w' hb; have hc := Reg.rd_cells hb; clear hb; go_simp; (try go_bits); first | done | (with_reducible exact rfl)); (intro _ a' ha'; simp only [Act.put, List.setIfInBounds_toArray, List.set_cons_zero, List.set_cons_succ] at ha'; subst ha'))
        refine Reg.rd_end (fun wz hb => ?_)
        go_wp2_with fail
        go_ret
        exact ⟨by rw [HR.out]; simp, hb⟩
      · rw [hx] at hr
        have HR := Lib.hid hr; clear hr
        go_enter Try.func62, Try.ntmps62
        go_wp2_with fail
        refine Reg.wp_region_rd (by kernel_rfl) (by kernel_rfl) (fun _ => ?_)
        repeat (refine Reg.rd_op rfl ?_; apply Exists.intro; apply And.intro; (intro w' hb; have hc := Reg.rd_cells hb; clear hb; go_simp; (try go_bits); first | done | (with_reducible exact rfl)); (intro _ a' ha'; simp only [Act.put, List.setIfInBounds_toArray, List.set_cons_zero, List.set_cons_succ] at ha'; subst ha'))
        refine Reg.rd_end (fun wz hb => ?_)
        go_wp2_with fail
        go_ret
        exact ⟨by rw [HR.out]; simp, hb⟩
    · have h2' : decide (1 < j) = false := by simp; omega
      rw [decide_eq_true h1, h2'] at hr
      have HR := Lib.hid hr; clear hr
      have h2'' : ¬ (1 : Int) < (j : Int) := by omega
      have p1 : (1 : Int) < (i : Int) := by omega
      have p3 : decide ((1 : Int) < (i : Int)) = true := by simp; omega
      have p4 : decide ((1 : Int) < (j : Int)) = false := by simp; omega
      go_enter Try.func62, Try.ntmps62
      go_wp2_with fail
      refine Reg.wp_region_rd (by kernel_rfl) (by kernel_rfl) (fun _ => ?_)
      repeat (refine Reg.rd_op rfl ?_; apply Exists.intro; apply And.intro; (intro w' hb; have hc := Reg.rd_cells hb; clear hb; go_simp; (try go_bits); first | done | (with_reducible exact rfl)); (intro _ a' ha'; simp only [Act.put, List.setIfInBounds_toArray, List.set_cons_zero, List.set_cons_succ] at ha'; subst ha'))
      repeat (refine Reg.rd_skip rfl ?_; intro a' ha'; simp only [Act.put, List.setIfInBounds_toArray, List.set_cons_zero, List.set_cons_succ] at ha'; subst ha')
      repeat (refine Reg.rd_op rfl ?_; apply Exists.intro; apply And.intro; (intro w' hb; have hc := Reg.rd_cells hb; clear hb; go_simp; (try go_bits); first | done | (with_reducible exact rfl)); (intro _ a' ha'; simp only [Act.put, List.setIfInBounds_toArray, List.set_cons_zero, List.set_cons_succ] at ha'; subst ha'))
      repeat (refine Reg.rd_skip rfl ?_; intro a' ha'; simp only [Act.put, List.setIfInBounds_toArray, List.set_cons_zero, List.set_cons_succ] at ha'; subst ha')
      repeat (refine Reg.rd_op rfl ?_; apply Exists.intro; apply And.intro; (intro w' hb; have hc := Reg.rd_cells hb; clear hb; go_simp; (try go_bits); first | done | (with_reducible exact rfl)); (intro _ a' ha'; simp only [Act.put, List.setIfInBounds_toArray, List.set_cons_zero, List.set_cons_succ] at ha'; subst ha'))
      refine Reg.rd_end (fun wz hb => ?_)
      go_wp2_with fail
      go_ret
      exact ⟨by rw [HR.out]; simp, hb⟩
  · have h1' : decide (1 < i) = false := by simp; omega
    rw [h1'] at hr
    have HR := Lib.hid hr; clear hr
    have h1'' : ¬ (1 : Int) < (i : Int) := by omega
    have p3 : decide ((1 : Int) < (i : Int)) = false := by simp; omega
    go_enter Try.func62, Try.ntmps62
    go_wp2_with fail
    refine Reg.wp_region_rd (by kernel_rfl) (by kernel_rfl) (fun _ => ?_)
    repeat (refine Reg.rd_op rfl ?_; apply Exists.intro; apply And.intro; (intro w' hb; have hc := Reg.rd_cells hb; clear hb; go_simp; (try go_bits); first | done | (with_reducible exact rfl)); (intro _ a' ha'; simp only [Act.put, List.setIfInBounds_toArray, List.set_cons_zero, List.set_cons_succ] at ha'; subst ha'))
    repeat (refine Reg.rd_skip rfl ?_; intro a' ha'; simp only [Act.put, List.setIfInBounds_toArray, List.set_cons_zero, List.set_cons_succ] at ha'; subst ha')
    repeat (refine Reg.rd_op rfl ?_; apply Exists.intro; apply And.intro; (intro w' hb; have hc := Reg.rd_cells hb; clear hb; go_simp; (try go_bits); first | done | (with_reducible exact rfl)); (intro _ a' ha'; simp only [Act.put, List.setIfInBounds_toArray, List.set_cons_zero, List.set_cons_succ] at ha'; subst ha'))
    repeat (refine Reg.rd_skip rfl ?_; intro a' ha'; simp only [Act.put, List.setIfInBounds_toArray, List.set_cons_zero, List.set_cons_succ] at ha'; subst ha')
    repeat (refine Reg.rd_op rfl ?_; apply Exists.intro; apply And.intro; (intro w' hb; have hc := Reg.rd_cells hb; clear hb; go_simp; (try go_bits); first | done | (with_reducible exact rfl)); (intro _ a' ha'; simp only [Act.put, List.setIfInBounds_toArray, List.set_cons_zero, List.set_cons_succ] at ha'; subst ha'))
    repeat (refine Reg.rd_skip rfl ?_; intro a' ha'; simp only [Act.put, List.setIfInBounds_toArray, List.set_cons_zero, List.set_cons_succ] at ha'; subst ha')
    repeat (refine Reg.rd_op rfl ?_; apply Exists.intro; apply And.intro; (intro w' hb; have hc := Reg.rd_cells hb; clear hb; go_simp; (try go_bits); first | done | (with_reducible exact rfl)); (intro _ a' ha'; simp only [Act.put, List.setIfInBounds_toArray, List.set_cons_zero, List.set_cons_succ] at ha'; subst ha'))
    refine Reg.rd_end (fun wz hb => ?_)
    go_wp2_with fail
    go_ret
    exact ⟨by rw [HR.out]; simp, hb⟩
set_option maxHeartbeats 2000000 in
theorem rturned_any (A B : Option Addr) (n m c d i j : Nat) (fa fb : Nat → Int) (w : World) (hA : NameAt w w.heap.size A n fa) (hB : NameAt w w.heap.size B m fb) (hi : i ≤ n) (hj : j ≤ m) (hn : n ≤ 1048576) (hm : m ≤ 1048576) :
    Calls Try.prog 52 #[.slice A n c, .slice B m d, .int .i64 i, .int .i64 j] w fun en w' => en = .returned (.bool (tnB fa fb i j)) ∧ Below w.heap.size w w' := by
  obtain ⟨r, hr⟩ : ∃ r, r = tnB fa fb i j := ⟨_, rfl⟩
  rw [← hr]
  unfold tnB at hr
  by_cases h1 : 1 < i
  · by_cases h2 : 1 < j
    · rw [decide_eq_true h1, decide_eq_true h2] at hr
      obtain ⟨i1, e1⟩ : ∃ i1 : Nat, i1 = i - 1 := ⟨_, rfl⟩
      obtain ⟨i2, e2⟩ : ∃ i2 : Nat, i2 = i - 2 := ⟨_, rfl⟩
      obtain ⟨j1, e3⟩ : ∃ j1 : Nat, j1 = j - 1 := ⟨_, rfl⟩
      obtain ⟨j2, e4⟩ : ∃ j2 : Nat, j2 = j - 2 := ⟨_, rfl⟩
      rw [← e1, ← e2, ← e3, ← e4] at hr
      obtain ⟨ga, oa, rfl, hga, hca⟩ := hA (by omega)
      obtain ⟨gb, ob, rfl, hgb, hcb⟩ := hB (by omega)
      have q1 := hca i1 (by omega)
      have q2 := hca i2 (by omega)
      have q3 := hcb j1 (by omega)
      have q4 := hcb j2 (by omega)
      clear hca hcb
      generalize fa i1 = x1 at *
      generalize fa i2 = x2 at *
      generalize fb j1 = y1 at *
      generalize fb j2 = y2 at *
      have a1 : (i : Int) - 1 = (i1 : Int) := by omega
      have a2 : (i : Int) - 2 = (i2 : Int) := by omega
      have a3 : (j : Int) - 1 = (j1 : Int) := by omega
      have a4 : (j : Int) - 2 = (j2 : Int) := by omega
      have b1 : (i1 : Int) < (n : Int) := by omega
      have b2 : (i2 : Int) < (n : Int) := by omega
      have b3 : (j1 : Int) < (m : Int) := by omega
      have b4 : (j2 : Int) < (m : Int) := by omega
      have b5 : (0 : Int) ≤ i1 ∧ (0 : Int) ≤ i2 ∧ (0 : Int) ≤ j1 ∧ (0 : Int) ≤ j2 := by omega
      clear e1 e2 e3 e4
      have p1 : (1 : Int) < (i : Int) := by omega
      have p2 : (1 : Int) < (j : Int) := by omega
      have p3 : decide ((1 : Int) < (i : Int)) = true := by simp; omega
      have p4 : decide ((1 : Int) < (j : Int)) = true := by simp; omega
      cases hx : (x1 == y2)
      · rw [hx] at hr
        have HR := Lib.hid hr; clear hr
        go_enter Try.func52, Try.ntmps52
        go_wp2_with fail
        refine Reg.wp_region_rd (by kernel_rfl) (by kernel_rfl) (fun _ => ?_)
        repeat (refine Reg.rd_op rfl ?_; apply Exists.intro; apply And.intro; (intro w' hb; have hc := Reg.rd_cells hb; clear hb; go_simp; (try go_bits); first | done | (with_reducible exact rfl)); (intro _ a' ha'; simp only [Act.put, List.setIfInBounds_toArray, List.set_cons_zero, List.set_cons_succ] at ha'; subst ha'))
        repeat (refine Reg.rd_skip rfl ?_; intro a' ha'; simp only [Act.put, List.setIfInBounds_toArray, List.set_cons_zero, List.set_cons_succ] at ha'; subst ha')
        repeat (refine Reg.rd_op rfl ?_; apply Exists.intro; apply And.intro; (intro w' hb; have hc := Reg.rd_cells hb; clear hb; go_simp; (try go_bits); first | done | (with_reducible exact rfl)); (intro _ a' ha'; simp only [Act.put, List.setIfInBounds_toArray, List.set_cons_zero, List.set_cons_succ] at ha'; subst ha'))
        refine Reg.rd_end (fun wz hb => ?_)
        go_wp2_with fail
        go_ret
        exact ⟨by rw [HR.out]; simp, hb⟩
      · rw [hx] at hr
        have HR := Lib.hid hr; clear hr
        go_enter Try.func52, Try.ntmps52
        go_wp2_with fail
        refine Reg.wp_region_rd (by kernel_rfl) (by kernel_rfl) (fun _ => ?_)
        repeat (refine Reg.rd_op rfl ?_; apply Exists.intro; apply And.intro; (intro w' hb; have hc := Reg.rd_cells hb; clear hb; go_simp; (try go_bits); first | done | (with_reducible exact rfl)); (intro _ a' ha'; simp only [Act.put, List.setIfInBounds_toArray, List.set_cons_zero, List.set_cons_succ] at ha'; subst ha'))
        refine Reg.rd_end (fun wz hb => ?_)
        go_wp2_with fail
        go_ret
        exact ⟨by rw [HR.out]; simp, hb⟩
    · have h2' : decide (1 < j) = false := by simp; omega
      rw [decide_eq_true h1, h2'] at hr
      have HR := Lib.hid hr; clear hr
      have h2'' : ¬ (1 : Int) < (j : Int) := by omega
      have p1 : (1 : Int) < (i : Int) := by omega
      have p3 : decide ((1 : Int) < (i : Int)) = true := by simp; omega
      have p4 : decide ((1 : Int) < (j : Int)) = false := by simp; omega
      go_enter Try.func52, Try.ntmps52
      go_wp2_with fail
      refine Reg.wp_region_rd (by kernel_rfl) (by kernel_rfl) (fun _ => ?_)
      repeat (refine Reg.rd_op rfl ?_; apply Exists.intro; apply And.intro; (intro w' hb; have hc := Reg.rd_cells hb; clear hb; go_simp; (try go_bits); first | done | (with_reducible exact rfl)); (intro _ a' ha'; simp only [Act.put, List.setIfInBounds_toArray, List.set_cons_zero, List.set_cons_succ] at ha'; subst ha'))
      repeat (refine Reg.rd_skip rfl ?_; intro a' ha'; simp only [Act.put, List.setIfInBounds_toArray, List.set_cons_zero, List.set_cons_succ] at ha'; subst ha')
      repeat (refine Reg.rd_op rfl ?_; apply Exists.intro; apply And.intro; (intro w' hb; have hc := Reg.rd_cells hb; clear hb; go_simp; (try go_bits); first | done | (with_reducible exact rfl)); (intro _ a' ha'; simp only [Act.put, List.setIfInBounds_toArray, List.set_cons_zero, List.set_cons_succ] at ha'; subst ha'))
      repeat (refine Reg.rd_skip rfl ?_; intro a' ha'; simp only [Act.put, List.setIfInBounds_toArray, List.set_cons_zero, List.set_cons_succ] at ha'; subst ha')
      repeat (refine Reg.rd_op rfl ?_; apply Exists.intro; apply And.intro; (intro w' hb; have hc := Reg.rd_cells hb; clear hb; go_simp; (try go_bits); first | done | (with_reducible exact rfl)); (intro _ a' ha'; simp only [Act.put, List.setIfInBounds_toArray, List.set_cons_zero, List.set_cons_succ] at ha'; subst ha'))
      refine Reg.rd_end (fun wz hb => ?_)
      go_wp2_with fail
      go_ret
      exact ⟨by rw [HR.out]; simp, hb⟩
  · have h1' : decide (1 < i) = false := by simp; omega
    rw [h1'] at hr
    have HR := Lib.hid hr; clear hr
    have h1'' : ¬ (1 : Int) < (i : Int) := by omega
    have p3 : decide ((1 : Int) < (i : Int)) = false := by simp; omega
    go_enter Try.func52, Try.ntmps52
    go_wp2_with fail
    refine Reg.wp_region_rd (by kernel_rfl) (by kernel_rfl) (fun _ => ?_)
    repeat (refine Reg.rd_op rfl ?_; apply Exists.intro; apply And.intro; (intro w' hb; have hc := Reg.rd_cells hb; clear hb; go_simp; (try go_bits); first | done | (with_reducible exact rfl)); (intro _ a' ha'; simp only [Act.put, List.setIfInBounds_toArray, List.set_cons_zero, List.set_cons_succ] at ha'; subst ha'))
    repeat (refine Reg.rd_skip rfl ?_; intro a' ha'; simp only [Act.put, List.setIfInBounds_toArray, List.set_cons_zero, List.set_cons_succ] at ha'; subst ha')
    repeat (refine Reg.rd_op rfl ?_; apply Exists.intro; apply And.intro; (intro w' hb; have hc := Reg.rd_cells hb; clear hb; go_simp; (try go_bits); first | done | (with_reducible exact rfl)); (intro _ a' ha'; simp only [Act.put, List.setIfInBounds_toArray, List.set_cons_zero, List.set_cons_succ] at ha'; subst ha'))
    repeat (refine Reg.rd_skip rfl ?_; intro a' ha'; simp only [Act.put, List.setIfInBounds_toArray, List.set_cons_zero, List.set_cons_succ] at ha'; subst ha')
    repeat (refine Reg.rd_op rfl ?_; apply Exists.intro; apply And.intro; (intro w' hb; have hc := Reg.rd_cells hb; clear hb; go_simp; (try go_bits); first | done | (with_reducible exact rfl)); (intro _ a' ha'; simp only [Act.put, List.setIfInBounds_toArray, List.set_cons_zero, List.set_cons_succ] at ha'; subst ha'))
    repeat (refine Reg.rd_skip rfl ?_; intro a' ha'; simp only [Act.put, List.setIfInBounds_toArray, List.set_cons_zero, List.set_cons_succ] at ha'; subst ha')
    repeat (refine Reg.rd_op rfl ?_; apply Exists.intro; apply And.intro; (intro w' hb; have hc := Reg.rd_cells hb; clear hb; go_simp; (try go_bits); first | done | (with_reducible exact rfl)); (intro _ a' ha'; simp only [Act.put, List.setIfInBounds_toArray, List.set_cons_zero, List.set_cons_succ] at ha'; subst ha'))
    refine Reg.rd_end (fun wz hb => ?_)
    go_wp2_with fail
    go_ret
    exact ⟨by rw [HR.out]; simp, hb⟩

end Go.Proofs.Ytkhdemaanakbeaa
