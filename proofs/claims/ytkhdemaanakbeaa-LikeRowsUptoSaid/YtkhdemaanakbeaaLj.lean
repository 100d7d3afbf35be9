/- Are names too long; the usual costs; the same names; the program is awake. Condition: the names are not too long. -/
import Derived.Test.YtkhdemaanakbeaaUp
namespace Go.Proofs.Ytkhdemaanakbeaa
open Go.RowKit Go.Pst
set_option maxRecDepth 20000
set_option linter.unusedSimpArgs false
set_option linter.unusedVariables false

theorem wide_any (n m c d : Nat) (A B : Option Addr) (w : World) (hn : n ≤ 1048576) (hm : m ≤ 1048576) :
    Calls Try.prog 14 #[.slice A n c, .slice B m d] w fun en w' => en = .returned (.bool (wideB n m)) ∧ w = w' := by
  have h1 : ((n : Int) + 1) * ((m : Int) + 1) = (((n + 1) * (m + 1) : Nat) : Int) := by simp
  have h2 : (n + 1) * (m + 1) ≤ 1048577 * 1048577 := Nat.mul_le_mul (by omega) (by omega)
  have h3 : wideB n m = decide ((4194304 : Int) < (((n + 1) * (m + 1) : Nat) : Int)) := by unfold wideB; rw [decide_eq_decide]; omega
  rw [h3]
  generalize (n + 1) * (m + 1) = z at *
  clear h3
  go_enter Try.func14, Try.ntmps14
  go_wp2
  go_ret
  exact ⟨rfl, rfl⟩

theorem usual_any (w : World) : Calls Try.prog 12 #[] w fun en w' => en = .returned (.agg #[.float .f64 4607182418800017408, .float .f64 4607182418800017408, .float .f64 4607182418800017408, .float .f64 4607182418800017408, .slice none 0 0]) ∧ Below w.heap.size w w' := by
  go_enter Try.func12, Try.ntmps12
  go_wp2
  refine bodyPost_ret (v := .agg #[.float .f64 4607182418800017408, .float .f64 4607182418800017408, .float .f64 4607182418800017408, .float .f64 4607182418800017408, .slice none 0 0]) (by simp [results, Try.results12, go_sem]) rfl ⟨rfl, ?_⟩
  exact (Below.refl _ _).alloc (Nat.le_refl _) _

theorem awake_any (w : World) : Calls Try.prog 15 #[] w fun en w' => en = .returned (.bool true) ∧ Below w.heap.size w w' := by
  have hU := fun w => usual_any w
  have hD : ∀ g w, w.cell? ⟨g, 0, none⟩ = some (.int .i32 97) → g < w.heap.size → Calls Try.prog 13 #[.agg #[.float .f64 4607182418800017408, .float .f64 4607182418800017408, .float .f64 4607182418800017408, .float .f64 4607182418800017408, .slice none 0 0], .slice none 0 0, .slice (some ⟨g, 0, none⟩) 1 1] w
      fun en w' => en = .returned (.tuple #[.float .f64 4607182418800017408, .int .i64 0]) ∧ Below w.heap.size w w' := fun g w hc hg => by
    refine (dist_any 4607182418800017408 4607182418800017408 4607182418800017408 4607182418800017408 0 1 0 1 0 0 none (some ⟨g, 0, none⟩) none (fun _ => (0, 0, 0)) (fun _ => 97) (fun _ => 97) w (fun h => by omega)
      (fun _ => ⟨g, 0, rfl, hg, fun i hi => by obtain rfl : i = 0 := by omega
                                               exact hc⟩) (by omega) (by omega) (by omega) (fun h => by omega)).mono ?_
    rintro en w' ⟨u, rfl, -, h2, hb⟩
    have he : errN (fun _ => ((0 : Int), (0 : Int), (0 : Nat))) 0 0 1 = 0 := by decide
    have hu := h2 he
    rw [tab_lev _ _ _ 1 0 1 rfl (by decide)] at hu
    rw [show lev (fun _ => 97) (fun _ => 97) 0 1 = 1 by rw [lev, lev], fl_one] at hu
    have := cn_eq hu (by decide)
    rw [he, this]
    exact ⟨rfl, hb⟩
  have t1 : feq .f64 4607182418800017408 4607182418800017408 = true := by decide +kernel
  have HU := Lib.hid hU; have HD := Lib.hid hD; clear hU hD
  go_enter Try.func15, Try.ntmps15
  go_wp2_with fail
  refine (HU.out _).mono ?_
  rintro en w2 ⟨rfl, hb2⟩
  have O := (Reg.Own.nil w).keep hb2
  have zz := O.rules
  have HO := Lib.hid O; clear O
  clear hb2
  go_wp2_with fail
  have O := HO.out.alloc rfl #[.int .i32 97] 21
  clear HO zz
  obtain ⟨c0, f0, z0, y0, -, zz⟩ := O.rules
  have HO := Lib.hid O; clear O
  refine (HD.out _ _ (by rw [c0]; rfl) (by assumption)).mono ?_
  rintro en w3 ⟨rfl, hb3⟩
  have O := HO.out.keep hb3
  clear HO c0 f0 z0 y0 zz
  obtain ⟨c0, f0, z0, y0, -, zz⟩ := O.rules
  have HO := Lib.hid O; clear O
  clear hb3
  go_wp2_with fail
  go_ret
  exact ⟨rfl, HO.out.below⟩

/-- The same names? -/
def sameB (n m : Nat) (fa fb : Nat → Int) : Bool := decide (n = m ∧ ∀ k, k < n → fa k = fb k)

set_option maxHeartbeats 1000000 in
theorem names_any (A B : Option Addr) (n m c d : Nat) (fa fb : Nat → Int) (w : World) (hA : NameAt w w.heap.size A n fa) (hB : NameAt w w.heap.size B m fb) (hn : n ≤ 1048576) (hm : m ≤ 1048576) :
    Calls Try.prog 16 #[.slice A n c, .slice B m d] w fun en w' => en = .returned (.bool (sameB n m fa fb)) ∧ Below w.heap.size w w' := by
  obtain ⟨r, hr⟩ : ∃ r, r = sameB n m fa fb := ⟨_, rfl⟩
  rw [← hr]
  unfold sameB at hr
  by_cases hnm : n = m
  · subst hnm
    have e1 : ((n : Int) != (n : Int)) = false := by simp
    have HA := Lib.hid hA; have HB := Lib.hid hB; have HR := Lib.hid hr; clear hA hB hr
    go_enter Try.func16, Try.ntmps16
    go_wp2_with fail
    go_loopw [5] (fun t wr => ∃ k : Nat, t = .int .i64 k ∧ k ≤ n ∧ (∀ i, i < k → fa i = fb i) ∧ Below w.heap.size w wr) (fun t _ => n - (intOf t).toNat)
    case atStart => exact ⟨0, rfl, by omega, fun i h => by omega, Below.refl _ _⟩
    case round =>
      obtain ⟨k, rfl, hk, hl, hbw⟩ := hrel
      have HL := Lib.hid hl; have BW := Lib.hid hbw; clear hl hbw
      by_cases hkn : k < n
      · have hz := BW.out.size
        obtain ⟨ga, oa, rfl, hga, hca⟩ := (HA.out.below BW.out (Nat.le_refl _)) (by omega)
        obtain ⟨gb, ob, rfl, hgb, hcb⟩ := (HB.out.below BW.out (Nat.le_refl _)) (by omega)
        have qa := hca k hkn
        have qb := hcb k hkn
        have h1 : ga < wr.heap.size := by omega
        have h2 : gb < wr.heap.size := by omega
        have h3 : (k : Int) < (n : Int) := by omega
        clear hca hcb
        cases hx : (fa k != fb k)
        · go_wp2_with fail
          refine Reg.wp_region_rd (by kernel_rfl) (by kernel_rfl) (fun _ => ?_)
          repeat (refine Reg.rd_op rfl ?_; apply Exists.intro; apply And.intro; (intro w' hb; have hc := Reg.rd_cells hb; clear hb; go_simp; (try go_bits); first | done | (with_reducible exact rfl)); (intro _ a' ha'; simp only [Act.put, List.setIfInBounds_toArray, List.set_cons_zero, List.set_cons_succ] at ha'; subst ha'))
          refine Reg.rd_end (fun wz hb => ?_)
          have BW2 := Lib.hid (BW.out.trans (hb.mono BW.out.size))
          clear hb
          go_wp2_with fail
          go_roundw
          case rel => exact ⟨k + 1, by go_num, by omega, fun i hi => (by
            rcases Nat.lt_or_ge i k with hy | hy
            · exact HL.out i hy
            · obtain rfl : i = k := by omega
              simpa using hx), BW2.out⟩
          case measure => simp [intOf]; omega
        · have HX := Lib.hid hx
          go_wp2_with fail
          refine Reg.wp_region_rd (by kernel_rfl) (by kernel_rfl) (fun _ => ?_)
          repeat (refine Reg.rd_op rfl ?_; apply Exists.intro; apply And.intro; (intro w' hb; have hc := Reg.rd_cells hb; clear hb; go_simp; (try go_bits); first | done | (with_reducible exact rfl)); (intro _ a' ha'; simp only [Act.put, List.setIfInBounds_toArray, List.set_cons_zero, List.set_cons_succ] at ha'; subst ha'))
          refine Reg.rd_end (fun wz hb => ?_)
          have BW2 := Lib.hid (BW.out.trans (hb.mono BW.out.size))
          clear hb
          go_wp2_with fail
          have hr' : r = false := by
            rw [HR.out]
            exact decide_eq_false (fun h => by
              have h5 := HX.out
              rw [h.2 k hkn] at h5
              simp at h5)
          go_ret
          exact ⟨by rw [hr']; rfl, BW2.out⟩
      · obtain rfl : k = n := by omega
        have h3 : ¬ (k : Int) < (k : Int) := by omega
        have hr' : r = true := by
          rw [HR.out]
          exact decide_eq_true (by first | exact ⟨rfl, HL.out⟩ | exact ⟨trivial, HL.out⟩ | exact HL.out)
        go_wp2_with fail
        go_ret
        exact ⟨rfl, BW.out⟩
  · have e1 : ((n : Int) != (m : Int)) = true := by simp; omega
    have e2 : r = false := by rw [hr]; exact decide_eq_false (fun h => hnm h.1)
    subst e2
    clear hr hnm
    go_enter Try.func16, Try.ntmps16
    go_wp2_with fail
    go_ret
    exact ⟨rfl, Below.refl _ _⟩

end Go.Proofs.Ytkhdemaanakbeaa
