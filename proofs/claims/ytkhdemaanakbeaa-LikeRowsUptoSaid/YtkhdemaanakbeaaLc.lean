/- Rows of costs: a row sought among rows that rise; what one letter costs, put for another. Conditions: the rows rise. -/
import Derived.Test.YtkhdemaanakbeaaLb
import Derived.Test.YtkhdemaanakbeaaLq
namespace Go.Proofs.Ytkhdemaanakbeaa
open Go.RowKit Go.Pst
set_option maxRecDepth 20000
set_option linter.unusedSimpArgs false
set_option linter.unusedVariables false

/-- Rows of costs as the memory has them. -/
def PairsAt (w : World) (B : Nat) (A : Option Addr) (n : Nat) (p : Nat → Int × Int × Nat) : Prop :=
  0 < n → ∃ b off, A = some ⟨b, off, none⟩ ∧ b < B ∧ ∀ i, i < n → w.cell? ⟨b, off + i * 3, none⟩ = some (.int .i32 (p i).1) ∧
    w.cell? ⟨b, off + i * 3 + 1, none⟩ = some (.int .i32 (p i).2.1) ∧ w.cell? ⟨b, off + i * 3 + 2, none⟩ = some (.float .f32 (p i).2.2)

theorem PairsAt.below {w w' : World} {B B' : Nat} {A : Option Addr} {n : Nat} {p : Nat → Int × Int × Nat} (h : PairsAt w B A n p) (hb : Below B' w w') (hB : B ≤ B') : PairsAt w' B A n p := fun hn => by
  obtain ⟨b, off, h1, h2, h3⟩ := h hn
  exact ⟨b, off, h1, h2, fun i hi => by rw [hb.cell (show b < B' by omega), hb.cell (show b < B' by omega), hb.cell (show b < B' by omega)]; exact h3 i hi⟩

/-- How row i stands to the letters sought. -/
def cpr (p : Nat → Int × Int × Nat) (a b : Int) (i : Nat) : Int := ordC (p i).1 (p i).2.1 a b

def BSpost (p : Nat → Int × Int × Nat) (a b : Int) (n : Nat) (w : World) (en : Ending) (w' : World) : Prop :=
  ∃ lo : Nat, lo ≤ n ∧ (∀ i, i < lo → cpr p a b i < 0) ∧ (∀ i, lo ≤ i → i < n → 0 ≤ cpr p a b i) ∧
    en = .returned (.tuple #[.int .i64 lo, .bool (decide (lo < n) && cpr p a b lo == 0)]) ∧ Below w.heap.size w w'

theorem half_any (a b : Nat) (h : a + b < 9223372036854775808) : IntKind.i64.wrap (IntKind.u64.wrap ((a : Int) + b) / 2) = ((a + b) / 2 : Nat) := by
  rw [IntKind.wrap_u64, IntKind.wrap_i64]; omega

set_option maxHeartbeats 2000000 in
theorem bsearch_any (A : Option Addr) (n c : Nat) (p : Nat → Int × Int × Nat) (a b : Int) (z : Nat) (w : World) (hn : n ≤ 4096) (hp : PairsAt w w.heap.size A n p)
    (hmono : ∀ i j, i ≤ j → j < n → cpr p a b j < 0 → cpr p a b i < 0) :
    Calls Try.prog 71 #[.slice A n c, .agg #[.int .i32 a, .int .i32 b, .float .f32 z], .func (.func 49) #[] #[]] w (BSpost p a b n w) := by
  have HM := Lib.hid hmono; clear hmono
  have HP := Lib.hid hp; clear hp
  have HW : ∀ i w, Calls Try.prog 49 #[.agg #[.int .i32 (p i).1, .int .i32 (p i).2.1, .float .f32 (p i).2.2], .agg #[.int .i32 a, .int .i32 b, .float .f32 z]] w
      fun en w' => en = .returned (.int .i64 (cpr p a b i)) ∧ Below w.heap.size w w' := fun i w => orderC_any (p i).1 (p i).2.1 a b (p i).2.2 z w
  have HC := Lib.hid HW; clear HW
  go_enter Try.func71, Try.ntmps71
  go_wp2
  go_loopw [9, 10] (fun l h wr => ∃ lo hi : Nat, l = .int .i64 lo ∧ h = .int .i64 hi ∧ lo ≤ hi ∧ hi ≤ n ∧ (∀ i, i < lo → cpr p a b i < 0) ∧ (∀ i, hi ≤ i → i < n → 0 ≤ cpr p a b i) ∧
      Reg.Own w wr [(w.heap.size, #[.int .i32 a, .int .i32 b, .float .f32 z], 35)]) (fun l h _ => (intOf h).toNat - (intOf l).toNat)
  case atStart => exact ⟨0, n, rfl, rfl, by omega, by omega, fun i h => by omega, fun i h1 h2 => by omega, (Reg.Own.nil w).alloc rfl _ _⟩
  case round =>
    obtain ⟨lo, hi, rfl, rfl, h1, h2, h3, h4, HO'⟩ := hrel
    have H3 := Lib.hid h3; have H4 := Lib.hid h4; clear h3 h4
    have O := HO'
    obtain ⟨c0, f0, z0, y0, -, zz⟩ := O.rules
    have HO := Lib.hid O; clear O
    by_cases hlt : lo < hi
    · obtain ⟨m, hm⟩ : ∃ m, m = (lo + hi) / 2 := ⟨_, rfl⟩
      have hm1 : m < hi := by omega
      have hm2 : lo ≤ m := by omega
      have hmi : ((lo : Int) + hi) / 2 = (m : Int) := by omega
      clear hm
      obtain ⟨g, off, rfl, hg, hcell⟩ := (HP.out.below HO.out.below (Nat.le_refl _)) (by omega)
      obtain ⟨q1, q2, q3⟩ := hcell m (by omega)
      clear hcell
      have hm0 : (0 : Int) ≤ (m : Int) := by omega
      have hmn : (m : Int) < (n : Int) := by omega
      have hg2 : g < wr.heap.size := by omega
      by_cases hC : cpr p a b m < 0
      · go_wp2_with fail
        clear hmi
        refine Reg.wp_region_rd (by kernel_rfl) (by kernel_rfl) (fun _ => ?_)
        repeat (refine Reg.rd_op rfl ?_; apply Exists.intro; apply And.intro; (intro w' hb; have hc := Reg.rd_cells hb; clear hb; go_simp; (try go_bits); first | done | (with_reducible exact rfl)); (intro _ a' ha'; simp only [Act.put, List.setIfInBounds_toArray, List.set_cons_zero, List.set_cons_succ] at ha'; subst ha'))
        refine Reg.rd_op rfl ?_; apply Exists.intro; apply And.intro
        · intro w' hb; have hsz := Reg.rd_size hb; clear hb; go_simp; (try go_bits); with_reducible exact HC.out m _
        intro _ a' ha'; simp only [Act.put, List.setIfInBounds_toArray, List.set_cons_zero, List.set_cons_succ] at ha'; subst ha'
        repeat (refine Reg.rd_op rfl ?_; apply Exists.intro; apply And.intro; (intro w' hb; have hc := Reg.rd_cells hb; clear hb; go_simp; (try go_bits); first | done | (with_reducible exact rfl)); (intro _ a' ha'; simp only [Act.put, List.setIfInBounds_toArray, List.set_cons_zero, List.set_cons_succ] at ha'; subst ha'))
        refine Reg.rd_end (fun wz hb => ?_)
        have O := HO.out.keep hb
        clear HO c0 f0 z0 y0 zz
        obtain ⟨c0, f0, z0, y0, -, zz⟩ := O.rules
        have HO := Lib.hid O; clear O
        clear hb
        go_wp2_with fail
        go_roundw
        case rel => exact ⟨m + 1, hi, by go_num, rfl, by omega, h2, fun i hi' => (by
          rcases Nat.lt_or_ge i m with hx | hx
          · exact HM.out i m (by omega) (by omega) hC
          · obtain rfl : i = m := by omega
            exact hC), H4.out, HO.out⟩
        case measure => simp [intOf]; omega
      · go_wp2_with fail
        clear hmi
        refine Reg.wp_region_rd (by kernel_rfl) (by kernel_rfl) (fun _ => ?_)
        repeat (refine Reg.rd_op rfl ?_; apply Exists.intro; apply And.intro; (intro w' hb; have hc := Reg.rd_cells hb; clear hb; go_simp; (try go_bits); first | done | (with_reducible exact rfl)); (intro _ a' ha'; simp only [Act.put, List.setIfInBounds_toArray, List.set_cons_zero, List.set_cons_succ] at ha'; subst ha'))
        refine Reg.rd_op rfl ?_; apply Exists.intro; apply And.intro
        · intro w' hb; have hsz := Reg.rd_size hb; clear hb; go_simp; (try go_bits); with_reducible exact HC.out m _
        intro _ a' ha'; simp only [Act.put, List.setIfInBounds_toArray, List.set_cons_zero, List.set_cons_succ] at ha'; subst ha'
        repeat (refine Reg.rd_op rfl ?_; apply Exists.intro; apply And.intro; (intro w' hb; have hc := Reg.rd_cells hb; clear hb; go_simp; (try go_bits); first | done | (with_reducible exact rfl)); (intro _ a' ha'; simp only [Act.put, List.setIfInBounds_toArray, List.set_cons_zero, List.set_cons_succ] at ha'; subst ha'))
        refine Reg.rd_end (fun wz hb => ?_)
        have HO2 := Lib.hid (HO.out.keep hb)
        clear hb
        go_wp2_with fail
        go_roundw
        case rel => exact ⟨lo, m, rfl, rfl, by omega, by omega, H3.out, fun i hi1 hi2 => (by
          rcases Int.lt_or_le (cpr p a b i) 0 with hx | hx
          · exact absurd (HM.out m i hi1 hi2 hx) (by omega)
          · exact hx), HO2.out⟩
        case measure => simp [intOf]; omega
    · obtain rfl : lo = hi := by omega
      by_cases hln : lo < n
      · obtain ⟨g, off, rfl, hg, hcell⟩ := (HP.out.below HO.out.below (Nat.le_refl _)) (by omega)
        obtain ⟨q1, q2, q3⟩ := hcell lo (by omega)
        clear hcell
        have hm0 : (0 : Int) ≤ (lo : Int) := by omega
        have hmn : (lo : Int) < (n : Int) := by omega
        have hg2 : g < wr.heap.size := by omega
        obtain ⟨C, hC⟩ : ∃ C, C = cpr p a b lo := ⟨_, rfl⟩
        have HC' := Lib.hid (HC.out lo)
        rw [← hC] at HC'
        have hC' := Lib.hid hC; clear hC
        go_wp2_with fail
        refine Reg.wp_region_rd (by kernel_rfl) (by kernel_rfl) (fun _ => ?_)
        repeat (refine Reg.rd_op rfl ?_; apply Exists.intro; apply And.intro; (intro w' hb; have hc := Reg.rd_cells hb; clear hb; go_simp; (try go_bits); first | done | (with_reducible exact rfl)); (intro _ a' ha'; simp only [Act.put, List.setIfInBounds_toArray, List.set_cons_zero, List.set_cons_succ] at ha'; subst ha'))
        refine Reg.rd_op rfl ?_; apply Exists.intro; apply And.intro
        · intro w' hb; have hsz := Reg.rd_size hb; clear hb; go_simp; (try go_bits); with_reducible exact HC'.out _
        intro _ a' ha'; simp only [Act.put, List.setIfInBounds_toArray, List.set_cons_zero, List.set_cons_succ] at ha'; subst ha'
        repeat (refine Reg.rd_op rfl ?_; apply Exists.intro; apply And.intro; (intro w' hb; have hc := Reg.rd_cells hb; clear hb; go_simp; (try go_bits); first | done | (with_reducible exact rfl)); (intro _ a' ha'; simp only [Act.put, List.setIfInBounds_toArray, List.set_cons_zero, List.set_cons_succ] at ha'; subst ha'))
        refine Reg.rd_end (fun wz hb => ?_)
        have HO2 := Lib.hid (HO.out.keep hb)
        clear hb
        go_wp2_with fail
        go_ret2
        exact ⟨lo, by omega, H3.out, H4.out, by rw [decide_eq_true hln, ← hC'.out]; simp, HO2.out.below⟩
      · have hd1 : decide ((lo : Int) < n) = false := by simp; omega
        have hd2 : decide (lo < n) = false := by simp; omega
        have hd3 : ¬ (lo : Int) < n := by omega
        go_wp2_with fail
        refine Reg.wp_region_rd (by kernel_rfl) (by kernel_rfl) (fun _ => ?_)
        repeat (refine Reg.rd_op rfl ?_; apply Exists.intro; apply And.intro; (intro w' hb; have hc := Reg.rd_cells hb; clear hb; go_simp; (try go_bits); first | done | (with_reducible exact rfl)); (intro _ a' ha'; simp only [Act.put, List.setIfInBounds_toArray, List.set_cons_zero, List.set_cons_succ] at ha'; subst ha'))
        repeat (refine Reg.rd_skip rfl ?_; intro a' ha'; simp only [Act.put, List.setIfInBounds_toArray, List.set_cons_zero, List.set_cons_succ] at ha'; subst ha')
        repeat (refine Reg.rd_op rfl ?_; apply Exists.intro; apply And.intro; (intro w' hb; have hc := Reg.rd_cells hb; clear hb; go_simp; (try go_bits); first | done | (with_reducible exact rfl)); (intro _ a' ha'; simp only [Act.put, List.setIfInBounds_toArray, List.set_cons_zero, List.set_cons_succ] at ha'; subst ha'))
        refine Reg.rd_end (fun wz hb => ?_)
        have HO2 := Lib.hid (HO.out.keep hb)
        clear hb
        go_wp2_with fail
        go_ret2
        exact ⟨lo, by omega, H3.out, H4.out, by rw [hd2]; simp, HO2.out.below⟩

end Go.Proofs.Ytkhdemaanakbeaa
